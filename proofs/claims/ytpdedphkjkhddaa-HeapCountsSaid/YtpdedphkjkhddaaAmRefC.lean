/- Contracts of the reference's heap: what a field is, fields made empty, set, cleared; roots. -/
import Derived.Test.YtpdedphkjkhddaaAmRefB
set_option linter.unusedVariables false
set_option linter.unusedSimpArgs false
namespace Go.Am
variable {T : Tab}

def Rp.hp (S : Rp) : Hp := ⟨S.cells, [], S.notes⟩
def Hp.rp (S : Hp) : Rp := ⟨S.cells, S.notes⟩
@[simp] theorem Rp.hp_cells {S : Rp} : S.hp.cells = S.cells := rfl
def qset (S : Rp) (i : Int) (c : Cel) : Rp := { S with cells := S.cells.set i.toNat c }
@[simp] theorem qset_len {S : Rp} {i : Int} {c : Cel} : (qset S i c).cells.length = S.cells.length := by simp [qset]
theorem qset_nth {S : Rp} {i j : Int} {c : Cel} (h0 : 0 ≤ i) (h1 : i < S.cells.length) (hj : 0 ≤ j) : nth (qset S i c).cells j = if i = j then c else nth S.cells j := nth_set h0 h1 hj
def noteQ (S : Rp) (i : Int) : Rp := if countedR S i = 0 then { S with notes := S.notes ++ [i] } else S
def emptyQ (S : Rp) (i f : Int) : Rp :=
  let x := nth (nth S.cells i).fs f
  let S1 := qset S i { nth S.cells i with fs := (nth S.cells i).fs.set f.toNat ⟨false, false, 0⟩ }
  if x.is = true ∧ x.weak = false then noteQ S1 x.to else S1
def clearQ (S : Rp) (i f : Int) : Rp × Int := if hasFieldR S.hp i f ≠ 0 then (S, hasFieldR S.hp i f) else (emptyQ S i f, 0)
def setQ (S : Rp) (i f to : Int) (weak : Bool) : Rp × Int :=
  if hasFieldR S.hp i f ≠ 0 then (S, hasFieldR S.hp i f) else
  if hasR S.hp to true ≠ 0 then (S, hasR S.hp to true) else
  (qset (emptyQ S i f) i { nth (emptyQ S i f).cells i with fs := (nth (emptyQ S i f).cells i).fs.set f.toNat ⟨true, weak, to⟩ }, 0)
def rootQ (S : Rp) (i : Int) : Rp × Int := if hasR S.hp i true ≠ 0 then (S, hasR S.hp i true) else (qset S i { nth S.cells i with n := (nth S.cells i).n + 1 }, 0)
def dropQ (S : Rp) (i : Int) : Rp × Int :=
  if hasR S.hp i true ≠ 0 then (S, hasR S.hp i true) else
  if (nth S.cells i).n = 0 then (S, 7) else
  (noteQ (qset S i { nth S.cells i with n := (nth S.cells i).n - 1 }) i, 0)
def countQ (S : Rp) (i : Int) : Int × Int := if hasR S.hp i false ≠ 0 then (0, hasR S.hp i false) else (countedR S i, 0)

/-- Bounds that keep the sums small. -/
structure QBnd (S : Rp) : Prop where
  shp : Shp S.cells
  n : ∀ c ∈ S.cells, -(2 ^ 50) ≤ c.n ∧ c.n ≤ 2 ^ 50
  notes : S.notes.length < 2 ^ 39
def QTo (S : Rp) (i f : Int) : Prop := (nth (nth S.cells i).fs f).is = true → (nth (nth S.cells i).fs f).weak = false → 0 ≤ (nth (nth S.cells i).fs f).to ∧ (nth (nth S.cells i).fs f).to < S.cells.length

theorem mem_set_of {cs : List Cel} {P : Cel → Prop} (h : ∀ c ∈ cs, P c) {i : Nat} {c : Cel} (hc : P c) : ∀ d ∈ cs.set i c, P d := by
  intro d hd
  rcases List.mem_or_eq_of_mem_set hd with hd | rfl
  · exact h d hd
  · exact hc
theorem QBnd.set {S : Rp} (h : QBnd S) {i : Int} {c : Cel} (h1 : c.fs.length ≤ 8) (h2 : -(2 ^ 50) ≤ c.n ∧ c.n ≤ 2 ^ 50) : QBnd (qset S i c) :=
  ⟨⟨by simpa using h.shp.len, mem_set_of h.shp.fl h1⟩, mem_set_of h.n h2, h.notes⟩
theorem Shp.set {cs : List Cel} (h : Shp cs) {i : Nat} {c : Cel} (h1 : c.fs.length ≤ 8) : Shp (cs.set i c) := ⟨by simpa using h.len, mem_set_of h.fl h1⟩

section
variable {k : Nat} {tg tg' : Tags} {H H' : AHeap} {b : Nat} {S : Rp} {fb : Nat} {cv nv : AV} {fc fn : Option Nat} {xs : List (AV × Cel)} {ff : Nat → Option Nat}

/-- What a call on the reference's heap leaves. -/
def ToQ (k : Nat) (tg : Tags) (H : AHeap) (b : Nat) (S' : Rp) (K : AHeap) : Prop := ∃ tg', Up k tg tg' H K ∧ RpR k tg' K b S'
theorem ToQ.from_ {tg1 : Tags} {H1 : AHeap} (hw : WF H) (hu : Up k tg tg1 H H1) {K : AHeap} (h : ToQ k tg1 H1 b S K) : ToQ k tg H b S K := by
  obtain ⟨tg', h1, h2⟩ := h
  exact ⟨tg', hu.trans hw h1, h2⟩

theorem c376 (D : D376 T) (hw : WF H) (hk : TagOk tg H) (h : RpI k tg H b S fb cv nv fc fn xs ff) {i : Int} : Calls T 376 [.ptr (some (b, 0)), .int .i64 i] H fun r K => r = .int .i64 (hasR S.hp i true) ∧ K = H := by
  refine Calls.fn D.pr D.fn ?_
  by_cases h0 : i < 0
  · have hR : hasR S.hp i true = 4 := by unfold hasR; rw [if_pos (.inl h0)]
    simp [ir376, h0, hR]
  · by_cases h1 : (S.cells.length : Int) ≤ i
    · have hR : hasR S.hp i true = 4 := by unfold hasR; rw [if_pos (.inr h1)]
      simp [ir376, h0, h1, h.ldc, h.lenC, hR]
    · obtain ⟨bo, oo, e1, e2, e3, e4, e5, e6, _⟩ := h.cell hw hk (i := i) (by omega) (by omega)
      have ia := h.ia (kk := .i64) (i := i) (by omega) (by omega)
      cases he : (nth S.cells i).e with
      | true =>
        have hR : hasR S.hp i true = 9 := by unfold hasR; rw [if_neg (show ¬ (i < 0 ∨ (S.hp.cells.length : Int) ≤ i) by show ¬ (i < 0 ∨ (S.cells.length : Int) ≤ i); omega), if_pos ⟨rfl, he⟩]
        simp [ir376, h0, h1, h.ldc, h.lenC, ia, e1, e5, he, hR]
      | false =>
        have hR : hasR S.hp i true = 0 := by unfold hasR; rw [if_neg (show ¬ (i < 0 ∨ (S.hp.cells.length : Int) ≤ i) by show ¬ (i < 0 ∨ (S.cells.length : Int) ≤ i); omega), if_neg (by simp [he])]
        simp [ir376, h0, h1, h.ldc, h.lenC, ia, e1, e5, he, hR]

theorem c375 (D : D375 T) (hw : WF H) (hk : TagOk tg H) (h : RpI k tg H b S fb cv nv fc fn xs ff) {i f : Int} : Calls T 375 [.ptr (some (b, 0)), .int .i64 i, .int .i64 f] H fun r K => r = .int .i64 (hasFieldR S.hp i f) ∧ K = H := by
  refine Calls.fn D.pr D.fn ?_
  simp [ir375]
  refine WC.of (c376 D.d376 hw hk h) ?_
  rintro r K ⟨rfl, rfl⟩
  by_cases hz : hasR S.hp i true = 0
  · obtain ⟨q1, q2, _⟩ := hasR_in hz
    simp only [Rp.hp_cells] at q2
    obtain ⟨bo, oo, e1, e2, _⟩ := h.cell hw hk (i := i) (by omega) (by omega)
    have ia := h.ia (kk := .i64) (i := i) (by omega) (by omega)
    have fl := (h.fld q1 q2).len
    by_cases f0 : f < 0
    · have hR : hasFieldR S.hp i f = 1 := by unfold hasFieldR; rw [if_neg (by simp [hz]), if_pos (.inl f0)]
      simp [hz, f0, hR]
    · by_cases f1 : ((nth S.cells i).fs.length : Int) ≤ f
      · have hR : hasFieldR S.hp i f = 1 := by unfold hasFieldR; rw [if_neg (by simp [hz]), if_pos (.inr f1)]
        simp [hz, f0, f1, hR, h.ldc, ia, e1, e2, fl]
      · have hR : hasFieldR S.hp i f = 0 := by unfold hasFieldR; rw [if_neg (by simp [hz]), if_neg (show ¬ (f < 0 ∨ ((nth S.hp.cells i).fs.length : Int) ≤ f) by show ¬ (f < 0 ∨ ((nth S.cells i).fs.length : Int) ≤ f); omega)]
        simp [hz, f0, f1, hR, h.ldc, ia, e1, e2, fl]
  · have hR : hasFieldR S.hp i f = hasR S.hp i true := by unfold hasFieldR; rw [if_pos hz]
    simp [hz, hR]

theorem wsem_st4 {b : Nat} {v' : AV} {H1 H2 : AHeap} {o : Nat} (hv : v'.cell = true) (h : H1.st b o [v'] = some H2) : wsem0 (.st 1) [.ptr (some (b, o)), v'] H1 = some (.undef, H2) := by
  have hc : v'.cells = [v'] := by cases v' <;> simp_all [AV.cells, AV.cell]
  simp [wsem0_st, hc, h]

theorem c377 (D : D377 T) (hw : WF H) (hk : TagOk tg H) (h : RpR k tg H b S) (hb : QBnd S) {i f : Int} (h0 : 0 ≤ i) (h1 : i < S.cells.length) (f0 : 0 ≤ f) (f1 : f < (nth S.cells i).fs.length) (hto : QTo S i f) :
    Calls T 377 [.ptr (some (b, 0)), .int .i64 i, .int .i64 f] H fun r K => r = .tup [] ∧ ToQ k tg H b (emptyQ S i f) K := by
  refine Calls.fn D.pr D.fn ?_
  obtain ⟨fb, cv, nv, fc, fn, xs, ff, h⟩ := h
  obtain ⟨x, hx⟩ : ∃ x, nth (nth S.cells i).fs f = x := ⟨_, rfl⟩
  unfold QTo at hto
  rw [hx] at hto
  have hS : emptyQ S i f = if x.is = true ∧ x.weak = false then noteQ (qset S i { nth S.cells i with fs := (nth S.cells i).fs.set f.toNat ⟨false, false, 0⟩ }) x.to else qset S i { nth S.cells i with fs := (nth S.cells i).fs.set f.toNat ⟨false, false, 0⟩ } := by
    unfold emptyQ; simp only [hx]
  have ia := h.ia (kk := .i64) h0 h1
  obtain ⟨bo, oo, e1, e2, _⟩ := h.cell hw hk h0 h1
  obtain ⟨b2, o2, p1, p2, _⟩ := h.setField hw hk h0 h1 f0 f1
  have ia2 := (h.fld h0 h1).ia (k := .i64) f0 f1
  have ld2 : rsem (.ld 3 true) [.ptr (some (b2, o2))] H = some (encG x) := by rw [hx] at p2; simp [rsem, p2, encG, AV.cells]
  obtain ⟨K1, s1, fr, s3⟩ := box_copy hw (n := 3) (zs := [.int .i64 0, .bool false, .bool false]) (ds := [.int .i64 x.to, .bool x.is, .bool x.weak]) rfl rfl (by simp [AV.cell])
  have up1 : Up k tg tg H K1 := Up.fr hw hk fr
  have g := h.fr hw fr
  obtain ⟨bo', oo', e1', e2', _⟩ := g.cell up1.wf up1.ok h0 h1
  obtain ⟨b3, o3, p1', _, st⟩ := g.setField up1.wf up1.ok h0 h1 f0 f1
  obtain ⟨K2, q1, q2, q3, g2⟩ := st ⟨false, false, 0⟩
  have q1' : wsem0 (.st 3) [.ptr (some (b3, o3)), .agg [.int .i64 0, .bool false, .bool false]] K1 = some (.undef, K2) := by simp only [encG, AV.cells] at q1; simp [wsem0_st, AV.cells, q1]
  have bx2 : Box K2 H.next H.next [.int .i64 x.to, .bool x.is, .bool x.weak] := s3.keeps up1.wf q3.keeps (by
    rintro ⟨t, ht⟩
    rw [hk _ (Nat.le_refl _)] at ht; cases ht)
  have l0 : rsem (.ld 1 false) [.ptr (some (H.next, 0))] K2 = some (.int .i64 x.to) := by simp [rsem, AHeap.ld, bx2.row]
  have l1 : rsem (.ld 1 false) [.ptr (some (H.next, 1))] K2 = some (.bool x.is) := by simp [rsem, AHeap.ld, bx2.row]
  have l2 : rsem (.ld 1 false) [.ptr (some (H.next, 2))] K2 = some (.bool x.weak) := by simp [rsem, AHeap.ld, bx2.row]
  have ia3 := g.ia (kk := .i64) h0 h1
  have ia4 := (g.fld h0 h1).ia (k := .i64) f0 f1
  have up2 : Up k tg tg H K2 := up1.trans hw q3
  obtain ⟨S1, hS1⟩ : ∃ S1, qset S i { nth S.cells i with fs := (nth S.cells i).fs.set f.toNat ⟨false, false, 0⟩ } = S1 := ⟨_, rfl⟩
  have g3 : RpI k tg K2 b S1 fb cv nv fc fn (xs.set i.toNat ((nth xs i).1, { nth S.cells i with fs := (nth S.cells i).fs.set f.toNat ⟨false, false, 0⟩ })) ff := by rw [← hS1]; exact g2
  have hfl := hb.shp.fl _ (nth_mem h0 h1)
  have hb1 : QBnd S1 := by rw [← hS1]; exact hb.set (by simpa using hfl) (by have := hb.n _ (nth_mem h0 h1); exact this)
  have hl1 : S1.cells.length = S.cells.length := by rw [← hS1]; simp
  rw [hS1] at hS
  have hz0 : psem (.bld [.int .i64 0, .bool false, .bool false] []) [] = some (.agg [.int .i64 0, .bool false, .bool false]) := by simp [psem_bld', fill]
  simp [ir377, h.ldc, ia, e1, e2, ia2, p1, ld2]
  simp [AV.cells, AV.cell, encG, s1, g.ldc, ia3, e1', e2', ia4, p1', hz0, q1', l1]
  cases his : x.is with
  | false =>
    simp [his]
    rw [hS, if_neg (by simp [his])]
    exact ⟨tg, up2, _, _, _, _, _, _, _, g3⟩
  | true =>
    simp [his, l2]
    cases hwk : x.weak with
    | true =>
      simp [hwk]
      rw [hS, if_neg (by simp [hwk])]
      exact ⟨tg, up2, _, _, _, _, _, _, _, g3⟩
    | false =>
      simp [hwk, l0]
      obtain ⟨t0, t1⟩ := hto his hwk
      have t1' : x.to < S1.cells.length := by rw [hl1]; exact t1
      have hbn := hb1.n _ (nth_mem t0 t1')
      rw [hS, if_pos ⟨his, hwk⟩]
      refine WC.of (c378 D.d378 up2.wf up2.ok g3 hb1.shp t0 t1' (by omega)) ?_
      rintro r K3 ⟨rfl, fr3⟩
      have g4 := g3.fr up2.wf fr3
      have up3 : Up k tg tg H K3 := up2.trans hw (Up.fr up2.wf up2.ok fr3)
      have l0' : rsem (.ld 1 false) [.ptr (some (H.next, 0))] K3 = some (.int .i64 x.to) := by
        have := bx2.keeps up2.wf fr3.keeps (by have := up2.wf.row_fam bx2.row; omega)
        simp [rsem, AHeap.ld, this.row]
      simp
      refine WB.bool ?_ ?_
      · intro hz
        simp at hz
        have hN : noteQ S1 x.to = { S1 with notes := S1.notes ++ [x.to] } := by unfold noteQ; rw [if_pos hz]
        rw [hN]
        obtain ⟨v', K4, K5, tg5, f5, r1, r2, r3, r4, r5⟩ := g4.pushNote up3.wf up3.ok x.to (by have := hb1.notes; omega)
        have hb1 := wsem0_bsl1 (v := .int .i64 x.to) (z := .int .i64 0) (H := K3) rfl
        have l0'' : rsem (.ld 1 false) [.ptr (some (b, 1))] (K3.new [.int .i64 x.to]) = some nv := (g4.fr up3.wf up3.wf.fr_new).ldn
        refine W_floats ?_
        simp [g4.ldn, l0', hb1, r1, wsem_st4 r2 r3]
        simp [floatOk, wanted, AV.same_refl, g4.ldn, l0'']
        exact ⟨tg5, up3.trans hw r4, _, _, _, _, _, _, _, r5⟩
      · intro hz
        simp at hz
        have hN : noteQ S1 x.to = S1 := by unfold noteQ; rw [if_neg hz]
        rw [hN]
        simp
        exact ⟨tg, up3, _, _, _, _, _, _, _, g4⟩

theorem c349 (D : D349 T) (hw : WF H) (hk : TagOk tg H) (h : RpR k tg H b S) (hb : QBnd S) {i f : Int} (hto : hasFieldR S.hp i f = 0 → QTo S i f) :
    Calls T 349 [.ptr (some (b, 0)), .int .i64 i, .int .i64 f] H fun r K => r = .int .i64 (clearQ S i f).2 ∧ ToQ k tg H b (clearQ S i f).1 K := by
  refine Calls.fn D.pr D.fn ?_
  obtain ⟨fb, cv, nv, fc, fn, xs, ff, h⟩ := h
  simp [ir349]
  refine WC.of (c375 D.d375 hw hk h) ?_
  rintro r K ⟨rfl, rfl⟩
  simp
  by_cases hz : hasFieldR S.hp i f = 0
  · have hR : clearQ S i f = (emptyQ S i f, 0) := by unfold clearQ; rw [if_neg (by simp [hz])]
    obtain ⟨q1, q2, _, q3, q4⟩ := hasFieldR_in hz
    simp [hz, hR]
    refine WC.of (c377 D.d377 hw hk ⟨_, _, _, _, _, _, _, h⟩ hb q1 q2 q3 q4 (hto hz)) ?_
    rintro r X ⟨rfl, t⟩
    simp
    exact t
  · have hR : clearQ S i f = (S, hasFieldR S.hp i f) := by unfold clearQ; rw [if_pos hz]
    simp [hz, hR]
    exact ⟨tg, Up.refl hw hk, _, _, _, _, _, _, _, h⟩

theorem emptyQ_cells {i f : Int} : (emptyQ S i f).cells = S.cells.set i.toNat { nth S.cells i with fs := (nth S.cells i).fs.set f.toNat ⟨false, false, 0⟩ } := by
  unfold emptyQ noteQ; simp only; split
  · split <;> rfl
  · rfl

theorem c348 (D : D348 T) (hw : WF H) (hk : TagOk tg H) (h : RpR k tg H b S) (hb : QBnd S) {i f to : Int} {weak : Bool} (hto : hasFieldR S.hp i f = 0 → QTo S i f) :
    Calls T 348 [.ptr (some (b, 0)), .int .i64 i, .int .i64 f, .int .i64 to, .bool weak] H fun r K => r = .int .i64 (setQ S i f to weak).2 ∧ ToQ k tg H b (setQ S i f to weak).1 K := by
  refine Calls.fn D.pr D.fn ?_
  obtain ⟨fb, cv, nv, fc, fn, xs, ff, h⟩ := h
  simp [ir348]
  refine WC.of (c375 D.d375 hw hk h) ?_
  rintro r K ⟨rfl, rfl⟩
  simp
  by_cases hz : hasFieldR S.hp i f = 0
  · simp [hz]
    refine WC.of (c376 D.d376 hw hk h) ?_
    rintro r K ⟨rfl, rfl⟩
    simp
    by_cases hz2 : hasR S.hp to true = 0
    · have hR : setQ S i f to weak = (qset (emptyQ S i f) i { nth (emptyQ S i f).cells i with fs := (nth (emptyQ S i f).cells i).fs.set f.toNat ⟨true, weak, to⟩ }, 0) := by unfold setQ; rw [if_neg (by simp [hz]), if_neg (by simp [hz2])]
      obtain ⟨q1, q2, _, q3, q4⟩ := hasFieldR_in hz
      simp only [Rp.hp_cells] at q2 q4
      simp [hz2, hR]
      refine WC.of (c377 D.d377 hw hk ⟨_, _, _, _, _, _, _, h⟩ hb q1 q2 q3 q4 (hto hz)) ?_
      rintro r X ⟨rfl, tg1, u1, fb, cv, nv, fc, fn, xs, ff, g⟩
      have hl : i < (emptyQ S i f).cells.length := by rw [emptyQ_cells, List.length_set]; exact q2
      have hf : f < (nth (emptyQ S i f).cells i).fs.length := by
        rw [emptyQ_cells, nth_set q1 q2 q1, if_pos rfl]
        simpa using q4
      obtain ⟨bo, oo, e1, e2, _⟩ := g.cell u1.wf u1.ok q1 hl
      obtain ⟨b3, o3, p1, _, st⟩ := g.setField u1.wf u1.ok q1 hl q3 hf
      obtain ⟨Y, r1, r2, r3, g2⟩ := st ⟨true, weak, to⟩
      have ia := g.ia (kk := .i64) q1 hl
      have ia2 := (g.fld q1 hl).ia (k := .i64) q3 hf
      have r1' : wsem0 (.st 3) [.ptr (some (b3, o3)), .agg [.int .i64 to, .bool true, .bool weak]] X = some (.undef, Y) := by simp only [encG, AV.cells] at r1; simp [wsem0_st, AV.cells, r1]
      have hbld : psem (.bld [.int .i64 0, .bool false, .bool false] [(0, 1), (1, 1), (2, 1)]) [.int .i64 to, .bool true, .bool weak] = some (.agg [.int .i64 to, .bool true, .bool weak]) := by simp [psem_bld', fill, AV.cells, AV.cell, splice]
      simp [g.ldc, ia, e1, e2, ia2, p1, hbld, r1']
      exact ⟨tg1, u1.trans hw r3, _, _, _, _, _, _, _, g2⟩
    · have hR : setQ S i f to weak = (S, hasR S.hp to true) := by unfold setQ; rw [if_neg (by simp [hz]), if_pos hz2]
      simp [hz2, hR]
      exact ⟨tg, Up.refl hw hk, _, _, _, _, _, _, _, h⟩
  · have hR : setQ S i f to weak = (S, hasFieldR S.hp i f) := by unfold setQ; rw [if_pos hz]
    simp [hz, hR]
    exact ⟨tg, Up.refl hw hk, _, _, _, _, _, _, _, h⟩

theorem c350 (D : D350 T) (hw : WF H) (hk : TagOk tg H) (h : RpR k tg H b S) (hb : QBnd S) {i : Int} :
    Calls T 350 [.ptr (some (b, 0)), .int .i64 i] H fun r K => r = .int .i64 (rootQ S i).2 ∧ ToQ k tg H b (rootQ S i).1 K := by
  refine Calls.fn D.pr D.fn ?_
  obtain ⟨fb, cv, nv, fc, fn, xs, ff, h⟩ := h
  simp [ir350]
  refine WC.of (c376 D.d376 hw hk h) ?_
  rintro r K ⟨rfl, rfl⟩
  simp
  by_cases hz : hasR S.hp i true = 0
  · have hR : rootQ S i = (qset S i { nth S.cells i with n := (nth S.cells i).n + 1 }, 0) := by unfold rootQ; rw [if_neg (by simp [hz])]
    obtain ⟨q1, q2, _⟩ := hasR_in hz
    simp only [Rp.hp_cells] at q2
    obtain ⟨bo, oo, e1, e2, e3, e4, e5, e6, _, _, _, st⟩ := h.cell hw hk q1 q2
    have ia := h.ia (kk := .i64) q1 q2
    have hn := hb.n _ (nth_mem q1 q2)
    obtain ⟨K1, r1, r2, r3, g⟩ := st ((nth S.cells i).n + 1)
    simp (disch := omega) [hz, h.ldc, ia, e1, e6, wrap64, r1, hR]
    exact ⟨tg, r3, _, _, _, _, _, _, _, g⟩
  · have hR : rootQ S i = (S, hasR S.hp i true) := by unfold rootQ; rw [if_pos hz]
    simp [hz, hR]
    exact ⟨tg, Up.refl hw hk, _, _, _, _, _, _, _, h⟩

theorem c351 (D : D351 T) (hw : WF H) (hk : TagOk tg H) (h : RpR k tg H b S) (hb : QBnd S) {i : Int} (hn0 : ∀ c ∈ S.cells, 0 ≤ c.n) :
    Calls T 351 [.ptr (some (b, 0)), .int .i64 i] H fun r K => r = .int .i64 (dropQ S i).2 ∧ ToQ k tg H b (dropQ S i).1 K := by
  refine Calls.fn D.pr D.fn ?_
  obtain ⟨fb, cv, nv, fc, fn, xs, ff, h⟩ := h
  simp [ir351]
  refine WC.of (c376 D.d376 hw hk h) ?_
  rintro r K ⟨rfl, rfl⟩
  simp
  by_cases hz : hasR S.hp i true = 0
  · obtain ⟨q1, q2, _⟩ := hasR_in hz
    simp only [Rp.hp_cells] at q2
    obtain ⟨bo, oo, e1, e2, e3, e4, e5, e6, _, _, _, st⟩ := h.cell hw hk q1 q2
    have ia := h.ia (kk := .i64) q1 q2
    have hn := hb.n _ (nth_mem q1 q2)
    have hn1 := hn0 _ (nth_mem q1 q2)
    have hfl := hb.shp.fl _ (nth_mem q1 q2)
    by_cases hr : (nth S.cells i).n = 0
    · have hR : dropQ S i = (S, 7) := by unfold dropQ; rw [if_neg (by simp [hz]), if_pos hr]
      simp [hz, h.ldc, ia, e1, e6, hr, hR]
      exact ⟨tg, Up.refl hw hk, _, _, _, _, _, _, _, h⟩
    · obtain ⟨S1, hS1⟩ : ∃ S1, qset S i { nth S.cells i with n := (nth S.cells i).n - 1 } = S1 := ⟨_, rfl⟩
      have hR : dropQ S i = (noteQ S1 i, 0) := by unfold dropQ; rw [if_neg (by simp [hz]), if_neg hr, hS1]
      have hb1 : QBnd S1 := by rw [← hS1]; exact hb.set hfl ⟨by simp only; omega, by simp only; omega⟩
      have hl1 : i < S1.cells.length := by rw [← hS1]; simpa using q2
      obtain ⟨K1, r1, r2, r3, g⟩ := st ((nth S.cells i).n - 1)
      have g : RpI k tg K1 b S1 fb cv nv fc fn (xs.set i.toNat ((nth xs i).1, { nth S.cells i with n := (nth S.cells i).n - 1 })) ff := by rw [← hS1]; exact g
      have hn2 := hb1.n _ (nth_mem q1 hl1)
      simp (disch := omega) [hz, h.ldc, ia, e1, e6, hr, wrap64, r1, hR]
      refine WC.of (c378 D.d378 r3.wf r3.ok g hb1.shp q1 hl1 (by omega)) ?_
      rintro r K3 ⟨rfl, fr3⟩
      have g4 := g.fr r3.wf fr3
      have up3 := r3.trans hw (Up.fr r3.wf r3.ok fr3)
      simp
      refine WB.bool ?_ ?_
      · intro hc
        simp at hc
        have hN : noteQ S1 i = { S1 with notes := S1.notes ++ [i] } := by unfold noteQ; rw [if_pos hc]
        rw [hN]
        obtain ⟨v', K4, K5, tg5, f5, r1, r2, r3, r4, r5⟩ := g4.pushNote up3.wf up3.ok i (by have := hb1.notes; omega)
        have hb1 := wsem0_bsl1 (v := .int .i64 i) (z := .int .i64 0) (H := K3) rfl
        simp [g4.ldn, hb1, r1, wsem_st4 r2 r3]
        exact ⟨tg5, up3.trans hw r4, _, _, _, _, _, _, _, r5⟩
      · intro hc
        simp at hc
        have hN : noteQ S1 i = S1 := by unfold noteQ; rw [if_neg hc]
        rw [hN]
        simp
        exact ⟨tg, up3, _, _, _, _, _, _, _, g4⟩
  · have hR : dropQ S i = (S, hasR S.hp i true) := by unfold dropQ; rw [if_pos hz]
    simp [hz, hR]
    exact ⟨tg, Up.refl hw hk, _, _, _, _, _, _, _, h⟩
end
end Go.Am
