/- Contracts of package heap: a cell that ends. -/
import Derived.Test.YtpdedphkjkhddaaAmHeapE
set_option linter.unusedVariables false
set_option linter.unusedSimpArgs false
namespace Go.Am
variable {T : Tab}

/-- The first ones changed. -/
def stg {α : Type} (g : α → α) (l : List α) (i : Nat) : List α := (l.take i).map g ++ l.drop i
section
variable {α : Type} {g : α → α} {l : List α} {i : Nat}
@[simp] theorem stg_zero : stg g l 0 = l := by simp [stg]
theorem stg_len : (stg g l i).length = l.length := by simp [stg]; omega
theorem stg_all (h : l.length ≤ i) : stg g l i = l.map g := by simp [stg, List.take_of_length_le h, List.drop_eq_nil_of_le h]
variable [Inhabited α]
theorem stg_nth (h : i < l.length) : nth (stg g l i) (i : Int) = nth l (i : Int) := by
  have hl : ((l.take i).map g).length = i := by simp; omega
  unfold nth stg
  rw [List.getD_eq_getElem?_getD, List.getD_eq_getElem?_getD, List.getElem?_append_right (by simp; omega), hl]
  simp
theorem stg_set (h : i < l.length) : (stg g l i).set i (g (nth l (i : Int))) = stg g l (i + 1) := by
  have hl : ((l.take i).map g).length = i := by simp; omega
  unfold stg
  rw [List.set_append_right _ _ (by omega), hl, Nat.sub_self, take_nth h, List.map_append, List.append_assoc]
  congr 1
  rw [List.drop_eq_getElem_cons h]
  simp only [List.set_cons_zero, List.map_cons, List.map_nil, List.cons_append, List.nil_append]
end

def clr (a : Int) (x : Fld) : Fld := if x.is = true ∧ x.weak = true ∧ x.to = a then ⟨false, false, 0⟩ else x
def clrC (a : Int) (c : Cel) : Cel := { c with fs := c.fs.map (clr a) }
def weakR (S : Hp) (a : Int) : Hp := { S with cells := S.cells.map (clrC a) }
def emptiesR (S : Hp) (a : Int) : Nat → Hp
  | 0 => S
  | n + 1 => emptyR (emptiesR S a n) a n
def endR (S : Hp) (a : Int) : Hp :=
  let S1 := weakR (setC S a { nth S.cells a with e := true }) a
  emptiesR S1 a (nth S1.cells a).fs.length

section
variable {k : Nat} {tg tg' : Tags} {H H' : AHeap} {b : Nat} {lk : Int} {S : Hp} {fb m : Nat} {cv nv : AV} {fc fn : Option Nat} {xs : List (AV × Cel)} {ff : Nat → Option Nat}

/-- What holds while fields are cleared. -/
def Mid (k : Nat) (tg : Tags) (H : AHeap) (b : Nat) (lk : Int) (S : Hp) (fb m : Nat) (cv nv : AV) (fc fn : Option Nat) (vs : List AV) (ff : Nat → Option Nat) (K : AHeap) (cs : List Cel) : Prop :=
  ∃ xs, Up k tg tg H K ∧ HpI k tg K b lk { S with cells := cs } fb m cv nv fc fn xs ff ∧ xs.map (·.1) = vs

theorem nth_map1 {xs : List (AV × Cel)} {vs : List AV} (h : xs.map (·.1) = vs) {i : Int} (h0 : 0 ≤ i) (h1 : i < xs.length) : (nth xs i).1 = nth vs i := by
  have e1 := nth_eq (l := xs) h0 h1
  have e2 := nth_eq (l := vs) h0 (by rw [← h]; simpa using h1)
  rw [← h, List.getElem?_map, e1] at e2
  simpa [← h] using e2

/-- One field of one cell is looked at, and cleared or not. -/
theorem Mid.field {vs : List AV} {K : AHeap} {cs : List Cel} (hw : WF H) (h : Mid k tg H b lk S fb m cv nv fc fn vs ff K cs) {i j : Nat} (h1 : i < cs.length) (j1 : j < (nth cs (i : Int)).fs.length) :
    rsem (.ld 1 false) [.ptr (some (b, 2))] K = some cv ∧ (∀ kk, psem (.ia 5) [cv, .int kk i] = some (elt cv 5 i)) ∧ (∀ kk, psem (.ia 3) [nth vs (i : Int), .int kk j] = some (elt (nth vs (i : Int)) 3 j)) ∧
    ∃ bo oo b2 o2 K1, elt cv 5 i = .ptr (some (bo, oo)) ∧ elt (nth vs (i : Int)) 3 j = .ptr (some (b2, o2)) ∧ rsem (.ld 1 false) [.ptr (some (bo, oo))] K = some (nth vs (i : Int)) ∧
      rsem (.ld 3 true) [.ptr (some (b2, o2))] K = some (encF (nth (nth cs (i : Int)).fs (j : Int))) ∧
      wsem0 (.st 3) [.ptr (some (K.next, 0)), encF (nth (nth cs (i : Int)).fs (j : Int))] (K.new [.bool false, .bool false, .int .i64 0]) = some (.undef, K1) ∧
      rsem (.ld 1 false) [.ptr (some (K.next, 0))] K1 = some (.bool (nth (nth cs (i : Int)).fs (j : Int)).is) ∧
      rsem (.ld 1 false) [.ptr (some (K.next, 1))] K1 = some (.bool (nth (nth cs (i : Int)).fs (j : Int)).weak) ∧
      rsem (.ld 1 false) [.ptr (some (K.next, 2))] K1 = some (.int .i64 (nth (nth cs (i : Int)).fs (j : Int)).to) ∧
      Mid k tg H b lk S fb m cv nv fc fn vs ff K1 cs ∧ rsem (.ld 1 false) [.ptr (some (b, 2))] K1 = some cv ∧ rsem (.ld 1 false) [.ptr (some (bo, oo))] K1 = some (nth vs (i : Int)) ∧
      ∃ K2, wsem0 (.st 3) [.ptr (some (b2, o2)), .agg [.bool false, .bool false, .int .i64 0]] K1 = some (.undef, K2) ∧
        Mid k tg H b lk S fb m cv nv fc fn vs ff K2 (cs.set i { nth cs (i : Int) with fs := (nth cs (i : Int)).fs.set j ⟨false, false, 0⟩ }) := by
  obtain ⟨xs, u, h, hv⟩ := h
  have hl := h.len
  have h1' : (i : Int) < ({ S with cells := cs } : Hp).cells.length := by simpa using h1
  have j1' : (j : Int) < (nth ({ S with cells := cs } : Hp).cells (i : Int)).fs.length := by simpa using j1
  have ev : (nth xs (i : Int)).1 = nth vs (i : Int) := nth_map1 hv (by omega) (by rw [hl]; simpa using h1)
  obtain ⟨bo, oo, e1, e2, _⟩ := h.cell u.wf u.ok (by omega) h1'
  obtain ⟨b2, o2, p1, p2, _⟩ := h.setField u.wf u.ok (by omega) h1' (by omega) j1'
  obtain ⟨x, hx⟩ : ∃ x, nth (nth cs (i : Int)).fs (j : Int) = x := ⟨_, rfl⟩
  have ld2 : rsem (.ld 3 true) [.ptr (some (b2, o2))] K = some (encF x) := by simp only [hx] at p2; simp [rsem, p2, encF, AV.cells]
  have ia2 := (h.fld (by omega) h1').ia (k := .i64) (by omega) j1'
  have fr1 := u.wf.fr_new (cs := [.bool false, .bool false, .int .i64 0])
  have bx := Box.new (H := K) (cs := [.bool false, .bool false, .int .i64 0])
  obtain ⟨K1, s1, s2, s3, s4, s5⟩ := bx.stA fr1.wf (n := 3) (ds := (encF x).cells) (by simp) (by simp [encF, AV.cells]) (by simp [encF, AV.cells, AV.cell])
  have s1' : wsem0 (.st 3) [.ptr (some (K.next, 0)), encF x] (K.new [.bool false, .bool false, .int .i64 0]) = some (.undef, K1) := by simpa [encF, AV.cells] using s1
  have fr : Fr K K1 := fr1.step s2 s4 fun g hg => by subst hg; exact Nat.le_refl _
  have up1 : Up k tg tg K K1 := Up.fr u.wf u.ok fr
  have g := h.keeps u.wf fr.keeps (tg' := tg) fun g t hg ht => ⟨by omega, ht⟩
  obtain ⟨bo', oo', e1', e2', _⟩ := g.cell up1.wf up1.ok (by omega) h1'
  obtain ⟨b3, o3, p1', _, st⟩ := g.setField up1.wf up1.ok (by omega) h1' (by omega) j1'
  rw [e1] at e1'
  simp only [AV.ptr.injEq, Option.some.injEq, Prod.mk.injEq] at e1'
  obtain ⟨rfl, rfl⟩ := e1'
  rw [p1] at p1'
  simp only [AV.ptr.injEq, Option.some.injEq, Prod.mk.injEq] at p1'
  obtain ⟨rfl, rfl⟩ := p1'
  obtain ⟨K2, q1, q2, q3, g2⟩ := st ⟨false, false, 0⟩
  rw [ev] at p1 e2 e2' ia2
  refine ⟨h.ldc, fun kk => h.ia (by omega) h1', fun kk => ?_, bo, oo, b2, o2, K1, e1, p1, e2, by rw [hx]; exact ld2, by rw [hx]; exact s1', ?_, ?_, ?_, ⟨xs, u.trans hw up1, g, hv⟩, g.ldc, e2', K2, ?_, _, u.trans hw (up1.trans u.wf q3), by simpa using g2, ?_⟩
  · have := (h.fld (by omega) h1').ia (k := kk) (i := (j : Int)) (by omega) j1'
    rwa [ev] at this
  · simp [rsem, AHeap.ld, s3.row, encF, AV.cells, hx]
  · simp [rsem, AHeap.ld, s3.row, encF, AV.cells, hx]
  · simp [rsem, AHeap.ld, s3.row, encF, AV.cells, hx]
  · simp only [encF, AV.cells] at q1; simp [wsem0_st, AV.cells, q1]
  · rw [List.map_set, ← hv]
    apply List.ext_getElem?
    intro z
    rw [List.getElem?_set]
    split
    · rename_i e
      subst e
      split
      · have := nth_eq (l := xs) (i := (i : Int)) (by omega) (by rw [hl]; simpa using h1)
        have this : xs[i]? = some (nth xs (i : Int)) := this
        rw [List.getElem?_map, this]; rfl
      · rename_i hh
        rw [List.length_map, hl] at hh
        exact absurd h1 hh
    · rfl

theorem fs_stage {c : Cel} {j : Nat} (a : Int) (hj : j < c.fs.length) :
    ({ c with fs := (stg (clr a) c.fs j).set j (clr a (nth c.fs (j : Int))) } : Cel) = { c with fs := stg (clr a) c.fs (j + 1) } := by
  rw [stg_set hj]

theorem Mid.same {vs : List AV} {K : AHeap} {cs cs' : List Cel} (h : Mid k tg H b lk S fb m cv nv fc fn vs ff K cs) (e : cs = cs') : Mid k tg H b lk S fb m cv nv fc fn vs ff K cs' := by rw [← e]; exact h

theorem set_set {α : Type} (l : List α) (i : Nat) (x y : α) : (l.set i x).set i y = l.set i y := by simp

theorem c382 (D : D382 T) (hw : WF H) (hk : TagOk tg H) (h : HpR k tg H b lk S) {a : Int} (h0 : 0 ≤ a) (h1 : a < S.cells.length) (hcl : S.cells.length < 2 ^ 40) (hfl : ∀ c ∈ S.cells, c.fs.length < 2 ^ 40)
    (hE : ∀ n, n < (nth S.cells a).fs.length → ∀ K tg, WF K → TagOk tg K → HpR k tg K b lk (emptiesR (weakR (setC S a { nth S.cells a with e := true }) a) a n) →
      Calls T 374 [.ptr (some (b, 0)), .int .i64 a, .int .i64 n] K fun r K' => r = .tup [] ∧ To k tg K b lk (emptiesR (weakR (setC S a { nth S.cells a with e := true }) a) a (n + 1)) K') :
    Calls T 382 [.ptr (some (b, 0)), .int .i64 a] H fun r K => r = .tup [] ∧ To k tg H b lk (endR S a) K := by
  refine Calls.fn D.pr D.fn ?_
  obtain ⟨fb, m, cv, nv, fc, fn, xs, ff, h⟩ := h
  obtain ⟨bo, oo, e1, _, _, _, _, _, _, _, st, _⟩ := h.cell hw hk h0 h1
  have ia := h.ia (kk := .i64) h0 h1
  obtain ⟨K1, r1, r2, r3, g⟩ := st true
  have hS1 : (setC S a { nth S.cells a with e := true }).cells.length = S.cells.length := by simp [setC]
  have hfa : ∀ c ∈ (setC S a { nth S.cells a with e := true }).cells, c.fs.length < 2 ^ 40 := by
    intro c hc
    simp only [setC] at hc
    rcases List.mem_or_eq_of_mem_set hc with hc | rfl
    · exact hfl c hc
    · exact hfl (nth S.cells a) (nth_mem h0 h1)
  have g' : HpI k tg K1 b lk (setC S a { nth S.cells a with e := true }) fb m cv nv fc fn (xs.set a.toNat ((nth xs a).1, { nth S.cells a with e := true })) ff := g
  have hn1 : (nth (weakR (setC S a { nth S.cells a with e := true }) a).cells a).fs.length = (nth S.cells a).fs.length := by
    have e1 := nth_eq (l := (weakR (setC S a { nth S.cells a with e := true }) a).cells) (i := a) h0 (by simp [weakR, setC]; omega)
    simp only [weakR, setC, List.getElem?_map, List.getElem?_set, if_true] at e1
    rw [if_pos (by omega)] at e1
    simp only [Option.map_some, Option.some.injEq] at e1
    simp only [weakR, setC]
    rw [← e1]
    simp [clrC]
  obtain ⟨S1, hS⟩ : ∃ S1, setC S a { nth S.cells a with e := true } = S1 := ⟨_, rfl⟩
  have hend : endR S a = emptiesR (weakR S1 a) a (nth S.cells a).fs.length := by unfold endR; simp only [hS]; rw [← hn1]; simp only [hS]
  rw [hS] at hS1 hfa g' hE hn1
  rw [hend]
  obtain ⟨xs1, hxs⟩ : ∃ xs1, xs.set a.toNat ((nth xs a).1, { nth S.cells a with e := true }) = xs1 := ⟨_, rfl⟩
  rw [hxs] at g'
  clear g hxs hend
  have hcl1 : (S1.cells.length : Int) < 2 ^ 40 := by rw [hS1]; exact_mod_cast hcl
  simp (disch := omega) [ir382, h.ldc, ia, e1, r1, g'.ldc, g'.lenC]
  refine W_loop (fun (i : Nat) e K => e 0 = .ptr (some (b, 0)) ∧ e 1 = .int .i64 a ∧ e 19 = .int .i64 S1.cells.length ∧ ∃ j : Nat, i + j = S1.cells.length ∧ e 20 = .int .i64 j ∧ Mid k tg K1 b lk S1 fb m cv nv fc fn (xs1.map (·.1)) ff K (stg (clrC a) S1.cells j)) id S1.cells.length ?_ ?_
  · refine ⟨by simp, by simp, by simp, 0, by simp, by simp, ?_⟩
    rw [stg_zero]
    exact ⟨xs1, Up.refl r3.wf r3.ok, g', rfl⟩
  · rintro i e K ⟨x0, x1, x19, j, hj, x20, mid⟩
    simp [x19, x20]
    refine WB.bool ?_ ?_
    · intro hlt
      simp at hlt
      have hjl : j < (stg (clrC a) S1.cells j).length := by rw [stg_len]; exact hlt
      have hnth := stg_nth (g := clrC a) hlt
      have hmem : nth S1.cells (j : Int) ∈ S1.cells := nth_mem (by omega) (by omega)
      have hfsl := hfa _ hmem
      obtain ⟨ys, mu, mg, mv⟩ := mid
      have hjl' : (j : Int) < ({ S1 with cells := stg (clrC a) S1.cells j } : Hp).cells.length := by simpa using hjl
      obtain ⟨bo', oo', f1, f2, _⟩ := mg.cell mu.wf mu.ok (by omega) hjl'
      have ia' := mg.ia (kk := .i64) (i := (j : Int)) (by omega) hjl'
      have ev : (nth ys (j : Int)).1 = nth (xs1.map (·.1)) (j : Int) := nth_map1 mv (by omega) (by rw [mg.len]; simpa using hjl)
      have fl := (mg.fld (by omega) hjl').len
      simp only [hnth] at fl
      rw [ev] at f2 fl
      have mid : Mid k tg K1 b lk S1 fb m cv nv fc fn (xs1.map (·.1)) ff K (stg (clrC a) S1.cells j) := ⟨ys, mu, mg, mv⟩
      obtain ⟨fv, hfv⟩ : ∃ fv, nth (xs1.map (·.1)) (j : Int) = fv := ⟨_, rfl⟩
      rw [hfv] at f2 fl
      simp [x0, x1, x19, x20, mg.ldc, ia', f1, f2, fl]
      refine W_loop (fun (z : Nat) e X => e 0 = .ptr (some (b, 0)) ∧ e 1 = .int .i64 a ∧ e 19 = .int .i64 S1.cells.length ∧ e 20 = .int .i64 j ∧ e 4 = .int .i64 j ∧ e 30 = fv ∧ e 31 = .int .i64 (nth S1.cells (j : Int)).fs.length ∧
        ∃ q : Nat, z + q = (nth S1.cells (j : Int)).fs.length ∧ e 32 = .int .i64 q ∧ Mid k tg K1 b lk S1 fb m cv nv fc fn (xs1.map (·.1)) ff X ((stg (clrC a) S1.cells j).set j { nth S1.cells (j : Int) with fs := stg (clr a) (nth S1.cells (j : Int)).fs q })) id (nth S1.cells (j : Int)).fs.length ?_ ?_
      · refine ⟨by simp [x0], by simp [x1], by simp [x19], by simp [x20], by simp [x20], by simp, by simp, 0, by simp, by simp, mid.same ?_⟩
        rw [stg_zero]
        refine (setSame ?_).symm
        have := nth_eq (l := stg (clrC a) S1.cells j) (i := (j : Int)) (by omega) (by exact_mod_cast hjl)
        rw [hnth] at this
        simpa using this
      · rintro z e X ⟨x0, x1, x19, x20, x4, x30, x31, q, hq, x32, mid⟩
        simp [x31, x32]
        refine WB.bool ?_ ?_
        · intro hlt2
          simp at hlt2
          obtain ⟨cs, hcs⟩ : ∃ cs, (stg (clrC a) S1.cells j).set j { nth S1.cells (j : Int) with fs := stg (clr a) (nth S1.cells (j : Int)).fs q } = cs := ⟨_, rfl⟩
          have hc : nth cs (j : Int) = { nth S1.cells (j : Int) with fs := stg (clr a) (nth S1.cells (j : Int)).fs q } := by
            rw [← hcs]
            have := nth_set (l := stg (clrC a) S1.cells j) (i := (j : Int)) (j := (j : Int)) (x := { nth S1.cells (j : Int) with fs := stg (clr a) (nth S1.cells (j : Int)).fs q }) (by omega) (by exact_mod_cast hjl) (by omega)
            simpa using this
          have hcsl : j < cs.length := by rw [← hcs]; simpa using hjl
          have hfq : q < (nth cs (j : Int)).fs.length := by rw [hc]; simp only [stg_len]; exact hlt2
          rw [hcs] at mid
          obtain ⟨l1, ia1, ia2, bo2, oo2, b3, o3, X1, p1, p2, p3, p4, p5, p6, p7, p8, p9, p10, p11, X2, p12, p13⟩ := mid.field r3.wf hcsl hfq
          rw [hfv] at ia2 p2 p3 p11
          have hx : nth (nth cs (j : Int)).fs (q : Int) = nth (nth S1.cells (j : Int)).fs (q : Int) := by rw [hc]; exact stg_nth hlt2
          rw [hx] at p4 p5 p6 p7 p8
          obtain ⟨x, hxx⟩ : ∃ x, nth (nth S1.cells (j : Int)).fs (q : Int) = x := ⟨_, rfl⟩
          rw [hxx] at p4 p5 p6 p7 p8
          have next : ∀ Y, Mid k tg K1 b lk S1 fb m cv nv fc fn (xs1.map (·.1)) ff Y (cs.set j { nth cs (j : Int) with fs := (nth cs (j : Int)).fs.set q (clr a x) }) → Mid k tg K1 b lk S1 fb m cv nv fc fn (xs1.map (·.1)) ff Y ((stg (clrC a) S1.cells j).set j { nth S1.cells (j : Int) with fs := stg (clr a) (nth S1.cells (j : Int)).fs (q + 1) }) := by
            intro Y hY
            refine hY.same ?_
            rw [hc, ← hcs, set_set, ← hxx]
            simp only
            rw [fs_stage a hlt2]
          have same : clr a x = x → cs.set j { nth cs (j : Int) with fs := (nth cs (j : Int)).fs.set q (clr a x) } = cs := by
            intro e
            refine setSame ?_
            have e1 := nth_eq (l := cs) (i := (j : Int)) (by omega) (by exact_mod_cast hcsl)
            simp only [Int.toNat_natCast] at e1
            rw [e1, e]
            have e2 := nth_eq (l := (nth cs (j : Int)).fs) (i := (q : Int)) (by omega) (by exact_mod_cast hfq)
            simp only [Int.toNat_natCast, hx, hxx] at e2
            rw [setSame e2]
          simp [x0, x1, x4, x20, x30, x31, x32, ia2, p2, p4, AV.cells, AV.cell, p5, p6]
          cases his : x.is with
          | false =>
            have hcl : clr a x = x := by unfold clr; rw [if_neg (by simp [his])]
            have nx := next X1 (by rw [same hcl]; exact p9)
            simp (disch := omega) [x32, wrap64]
            exact ⟨z - 1, by omega, x0, x1, x19, x20, x4, x30, x31, q + 1, by omega, by simp, nx⟩
          | true =>
            simp [his, p7]
            cases hwk : x.weak with
            | false =>
              have hcl : clr a x = x := by unfold clr; rw [if_neg (by simp [hwk])]
              have nx := next X1 (by rw [same hcl]; exact p9)
              simp (disch := omega) [x32, wrap64]
              exact ⟨z - 1, by omega, x0, x1, x19, x20, x4, x30, x31, q + 1, by omega, by simp, nx⟩
            | true =>
              simp [p8, x1]
              refine WB.bool ?_ ?_
              · intro hto
                simp at hto
                have hcl : clr a x = ⟨false, false, 0⟩ := by unfold clr; rw [if_pos ⟨his, hwk, hto⟩]
                have nx := next X2 (by rw [hcl]; exact p13)
                simp (disch := omega) [x0, x4, p10, ia1, p1, p11, ia2, p2, psem_bld', fill, p12, x32, wrap64]
                exact ⟨z - 1, by omega, x1, x19, x20, x30, x31, q + 1, by omega, by simp, nx⟩
              · intro hto
                simp at hto
                have hcl : clr a x = x := by unfold clr; rw [if_neg (by simp [hto])]
                have nx := next X1 (by rw [same hcl]; exact p9)
                simp (disch := omega) [x32, wrap64]
                exact ⟨z - 1, by omega, x0, x1, x19, x20, x4, x30, x31, q + 1, by omega, by simp, nx⟩
        · intro hge
          simp at hge
          have nx := mid.same (cs' := stg (clrC a) S1.cells (j + 1)) (by
            rw [stg_all hge]
            exact stg_set hlt)
          simp (disch := omega) [x20, wrap64]
          exact ⟨i - 1, by omega, x0, x1, x19, j + 1, by omega, by simp, nx⟩
    · intro hge
      simp at hge
      obtain ⟨ys, mu, mg, mv⟩ := mid
      rw [stg_all (by omega)] at mg
      have hS2 : ({ S1 with cells := S1.cells.map (clrC a) } : Hp) = weakR S1 a := rfl
      rw [hS2] at mg
      have h1' : a < (weakR S1 a).cells.length := by simp [weakR]; omega
      obtain ⟨bo', oo', f1, f2, _⟩ := mg.cell mu.wf mu.ok h0 h1'
      have ia' := mg.ia (kk := .i64) h0 h1'
      have fl := (mg.fld h0 h1').len
      rw [hn1] at fl
      simp [x0, x1, mg.ldc, ia', f1, f2, fl]
      have hfl2 := hfl _ (nth_mem h0 h1)
      refine W_loop (fun (z : Nat) e X => e 0 = .ptr (some (b, 0)) ∧ e 1 = .int .i64 a ∧ e 70 = .int .i64 (nth S.cells a).fs.length ∧ ∃ q : Nat, z + q = (nth S.cells a).fs.length ∧ e 71 = .int .i64 q ∧ ∃ tg', Up k tg tg' H X ∧ HpR k tg' X b lk (emptiesR (weakR S1 a) a q)) id (nth S.cells a).fs.length ?_ ?_
      · exact ⟨by simp [x0], by simp [x1], by simp, 0, by simp, by simp, tg, r3.trans hw mu, _, _, _, _, _, _, _, _, mg⟩
      · rintro z e X ⟨x0, x1, x70, q, hq, x71, tg', u', g2⟩
        simp [x70, x71]
        refine WB.bool ?_ ?_
        · intro hlt
          simp at hlt
          simp [x0, x1, x71]
          refine WC.of (hE q hlt X tg' u'.wf u'.ok g2) ?_
          rintro r Y ⟨rfl, tg2, u2, g3⟩
          simp (disch := omega) [x71, wrap64]
          exact ⟨z - 1, by omega, x0, x1, x70, q + 1, by omega, by simp, tg2, u'.trans hw u2, g3⟩
        · intro hge
          simp at hge
          have : q = (nth S.cells a).fs.length := by omega
          subst this
          simp
          exact ⟨tg', u', g2⟩
end
end Go.Am
