/- Contracts of the reference's heap: Count, State, Get, a cell that ends. -/
import Derived.Test.YtpdedphkjkhddaaAmRefD
set_option linter.unusedVariables false
set_option linter.unusedSimpArgs false
namespace Go.Am
variable {T : Tab}

def weakQ (S : Rp) (a : Int) : Rp := { S with cells := S.cells.map (clrC a) }
def emptiesQ (S : Rp) (a : Int) : Nat → Rp
  | 0 => S
  | n + 1 => emptyQ (emptiesQ S a n) a n
def endQ (S : Rp) (a : Int) : Rp := emptiesQ (weakQ (qset S a { nth S.cells a with e := true }) a) a (nth S.cells a).fs.length

theorem hasR_false {S : Hp} {i : Int} : hasR S i false = if i < 0 ∨ (S.cells.length : Int) ≤ i then 4 else 0 := by
  unfold hasR
  split
  · rfl
  · simp

theorem hasR_out {S : Hp} {i : Int} (h : i < 0 ∨ (S.cells.length : Int) ≤ i) : hasR S i false = 4 := by rw [hasR_false, if_pos h]
theorem hasR_ok {S : Hp} {i : Int} (h0 : ¬ i < 0) (h1 : ¬ (S.cells.length : Int) ≤ i) : hasR S i false = 0 := by rw [hasR_false, if_neg (by omega)]

section
variable {k : Nat} {tg tg' : Tags} {H0 H H' : AHeap} {b : Nat} {S : Rp} {fb : Nat} {cv nv : AV} {fc fn : Option Nat} {xs : List (AV × Cel)} {ff : Nat → Option Nat}

theorem c354 (D : D354 T) (hw : WF H) (hk : TagOk tg H) (h : RpR k tg H b S) (hb : QBnd S) {i : Int} :
    Calls T 354 [.ptr (some (b, 0)), .int .i64 i] H fun r K => r = .tup [.int .i64 (countQ S i).1, .int .i64 (countQ S i).2] ∧ Fr H K := by
  refine Calls.fn D.pr D.fn ?_
  obtain ⟨fb, cv, nv, fc, fn, xs, ff, h⟩ := h
  by_cases h0 : i < 0
  · have hR : countQ S i = (0, 4) := by unfold countQ; rw [hasR_out (.inl h0)]; rfl
    simp [ir354, h0, hR]
    exact .refl hw
  · by_cases h1 : (S.cells.length : Int) ≤ i
    · have hR : countQ S i = (0, 4) := by unfold countQ; rw [hasR_out (.inr h1)]; rfl
      simp [ir354, h0, h.ldc, h.lenC, h1, hR]
      exact .refl hw
    · have hR : countQ S i = (countedR S i, 0) := by unfold countQ; rw [hasR_ok h0 h1]; rfl
      simp [ir354, h0, h.ldc, h.lenC, h1, hR]
      have hn := hb.n _ (nth_mem (l := S.cells) (i := i) (by omega) (by omega))
      refine WC.of (c378 D.d378 hw hk h hb.shp (by omega) (by omega) (by omega)) ?_
      rintro r K ⟨rfl, fr⟩
      simp
      exact fr

theorem c355 (D : D355 T) (hw : WF H) (hk : TagOk tg H) (h : RpR k tg H b S) {i : Int} :
    Calls T 355 [.ptr (some (b, 0)), .int .i64 i] H fun r K => r = .tup [.int .i64 (stateR S.hp i).1, .int .i64 (stateR S.hp i).2] ∧ K = H := by
  refine Calls.fn D.pr D.fn ?_
  obtain ⟨fb, cv, nv, fc, fn, xs, ff, h⟩ := h
  by_cases h0 : i < 0
  · have hR : stateR S.hp i = (0, 4) := by unfold stateR; rw [hasR_out (.inl h0)]; rfl
    simp [ir355, h0, hR]
  · by_cases h1 : (S.cells.length : Int) ≤ i
    · have hR : stateR S.hp i = (0, 4) := by unfold stateR; rw [hasR_out (.inr h1)]; rfl
      simp [ir355, h0, h.ldc, h.lenC, h1, hR]
    · obtain ⟨bo, oo, e1, e2, e3, e4, e5, e6, _⟩ := h.cell hw hk (i := i) (by omega) (by omega)
      have ia := h.ia (kk := .i64) (i := i) (by omega) (by omega)
      have hR : stateR S.hp i = if (nth S.cells i).e = true then (2, 0) else if (nth S.cells i).t = true then (1, 0) else (0, 0) := by
        unfold stateR; rw [hasR_ok h0 h1]; rfl
      cases he : (nth S.cells i).e with
      | true =>
        rw [if_pos he] at hR
        simp [ir355, h0, h.ldc, h.lenC, h1, ia, e1, e5, he, hR]
      | false =>
        rw [if_neg (by simp [he])] at hR
        cases ht : (nth S.cells i).t with
        | true =>
          rw [if_pos ht] at hR
          simp [ir355, h0, h.ldc, h.lenC, h1, ia, e1, e5, he, e4, ht, hR]
        | false =>
          rw [if_neg (by simp [ht])] at hR
          simp [ir355, h0, h.ldc, h.lenC, h1, ia, e1, e5, he, e4, ht, hR]

theorem c356 (D : D356 T) (hw : WF H) (hk : TagOk tg H) (h : RpR k tg H b S) {i f : Int} :
    Calls T 356 [.ptr (some (b, 0)), .int .i64 i, .int .i64 f] H fun r K => r = .tup [.int .i64 (getR S.hp i f).1.to, .bool (getR S.hp i f).1.is, .bool (getR S.hp i f).1.weak, .int .i64 (getR S.hp i f).2] ∧ Fr H K := by
  refine Calls.fn D.pr D.fn ?_
  obtain ⟨fb, cv, nv, fc, fn, xs, ff, h⟩ := h
  simp [ir356]
  refine WC.of (c375 D.d375 hw hk h) ?_
  rintro r K ⟨rfl, rfl⟩
  simp
  by_cases hz : hasFieldR S.hp i f = 0
  · obtain ⟨q1, q2, _, q3, q4⟩ := hasFieldR_in hz
    simp only [Rp.hp_cells] at q2 q4
    have hR : getR S.hp i f = (nth (nth S.cells i).fs f, 0) := by unfold getR; rw [if_neg (by simp [hz])]; rfl
    obtain ⟨z, rfl⟩ : ∃ z : Nat, i = z := ⟨i.toNat, by omega⟩
    obtain ⟨y, rfl⟩ : ∃ y : Nat, f = y := ⟨f.toNat, by omega⟩
    obtain ⟨bo, oo, b2, o2, X, p1, p2, p3, p4, p5, p6, p7, p8, p9, p10, p11⟩ := h.field hw hk (i := z) (j := y) (by exact_mod_cast q2) (by exact_mod_cast q4)
    have ia := h.ia (kk := .i64) q1 q2
    simp [hz, h.ldc, ia, p1, p2, p4, p5, p6, AV.cells, AV.cell, p7, p9, p10, p11, hR]
    exact p8
  · have hR : getR S.hp i f = (⟨false, false, 0⟩, hasFieldR S.hp i f) := by unfold getR; rw [if_pos hz]
    simp [hz, hR]
    exact .refl hw

/-- What holds while fields are cleared. -/
def MidQ (k : Nat) (tg : Tags) (H : AHeap) (b : Nat) (S : Rp) (fb : Nat) (cv nv : AV) (fc fn : Option Nat) (ff : Nat → Option Nat) (K : AHeap) (cs : List Cel) : Prop :=
  ∃ xs, Up k tg tg H K ∧ RpI k tg K b { S with cells := cs } fb cv nv fc fn xs ff
theorem MidQ.same {K : AHeap} {cs cs' : List Cel} (h : MidQ k tg H b S fb cv nv fc fn ff K cs) (e : cs = cs') : MidQ k tg H b S fb cv nv fc fn ff K cs' := by rw [← e]; exact h

theorem c379 (D : D379 T) (hw : WF H) (hk : TagOk tg H) (h : RpR k tg H b S) {a : Int} (h0 : 0 ≤ a) (h1 : a < S.cells.length) (hcl : S.cells.length < 2 ^ 40) (hfl : ∀ c ∈ S.cells, c.fs.length < 2 ^ 40)
    (hlen : ∀ n, n ≤ (nth S.cells a).fs.length → (emptiesQ (weakQ (qset S a { nth S.cells a with e := true }) a) a n).cells.length = S.cells.length ∧ (nth (emptiesQ (weakQ (qset S a { nth S.cells a with e := true }) a) a n).cells a).fs.length = (nth S.cells a).fs.length)
    (hE : ∀ n, n < (nth S.cells a).fs.length → ∀ K tg, WF K → TagOk tg K → RpR k tg K b (emptiesQ (weakQ (qset S a { nth S.cells a with e := true }) a) a n) →
      Calls T 377 [.ptr (some (b, 0)), .int .i64 a, .int .i64 n] K fun r K' => r = .tup [] ∧ ToQ k tg K b (emptiesQ (weakQ (qset S a { nth S.cells a with e := true }) a) a (n + 1)) K') :
    Calls T 379 [.ptr (some (b, 0)), .int .i64 a] H fun r K => r = .tup [] ∧ ToQ k tg H b (endQ S a) K := by
  refine Calls.fn D.pr D.fn ?_
  obtain ⟨fb, cv, nv, fc, fn, xs, ff, h⟩ := h
  obtain ⟨bo, oo, e1, _, _, _, _, _, _, _, st, _⟩ := h.cell hw hk h0 h1
  have ia := h.ia (kk := .i64) h0 h1
  obtain ⟨K1, r1, r2, r3, g⟩ := st true
  have hfa : ∀ c ∈ (qset S a { nth S.cells a with e := true }).cells, c.fs.length < 2 ^ 40 := mem_set_of hfl (hfl (nth S.cells a) (nth_mem h0 h1))
  obtain ⟨S1, hS⟩ : ∃ S1, qset S a { nth S.cells a with e := true } = S1 := ⟨_, rfl⟩
  have hS1 : S1.cells.length = S.cells.length := by rw [← hS]; simp
  have g' : RpI k tg K1 b S1 fb cv nv fc fn (xs.set a.toNat ((nth xs a).1, { nth S.cells a with e := true })) ff := by rw [← hS]; exact g
  unfold endQ
  rw [hS] at hfa hE hlen ⊢
  clear g
  have hcl1 : (S1.cells.length : Int) < 2 ^ 40 := by rw [hS1]; exact_mod_cast hcl
  simp (disch := omega) [ir379, h.ldc, ia, e1, r1]
  refine W_loop (fun (i : Nat) e K => e 0 = .ptr (some (b, 0)) ∧ e 1 = .int .i64 a ∧ ∃ j : Nat, i + j = S1.cells.length ∧ e 4 = .int .i64 j ∧ MidQ k tg K1 b S1 fb cv nv fc fn ff K (stg (clrC a) S1.cells j)) id S1.cells.length ?_ ?_
  · refine ⟨by simp, by simp, 0, by simp, by simp, ?_⟩
    rw [stg_zero]
    exact ⟨_, Up.refl r3.wf r3.ok, g'⟩
  · rintro i e K ⟨x0, x1, j, hj, x4, mid⟩
    have lenj := stg_len (g := clrC a) (l := S1.cells) (i := j)
    obtain ⟨ys, mu, mg⟩ := mid
    have lc := mg.lenC
    simp only [lenj] at lc
    simp [x0, x4, mg.ldc, lc]
    refine WB.bool ?_ ?_
    · intro hlt
      simp at hlt
      have hjl : j < (stg (clrC a) S1.cells j).length := by rw [lenj]; exact hlt
      have hnth := stg_nth (g := clrC a) hlt
      have hmem : nth S1.cells (j : Int) ∈ S1.cells := nth_mem (by omega) (by omega)
      have hfsl := hfa _ hmem
      simp
      refine W_loop (fun (z : Nat) e X => e 0 = .ptr (some (b, 0)) ∧ e 1 = .int .i64 a ∧ e 4 = .int .i64 j ∧
        ∃ q : Nat, z + q = (nth S1.cells (j : Int)).fs.length ∧ e 5 = .int .i64 q ∧ MidQ k tg K1 b S1 fb cv nv fc fn ff X ((stg (clrC a) S1.cells j).set j { nth S1.cells (j : Int) with fs := stg (clr a) (nth S1.cells (j : Int)).fs q })) id (nth S1.cells (j : Int)).fs.length ?_ ?_
      · refine ⟨by simp [x0], by simp [x1], by simp [x4], 0, by simp, by simp, MidQ.same ⟨ys, mu, mg⟩ ?_⟩
        rw [stg_zero]
        refine (setSame ?_).symm
        have := nth_eq (l := stg (clrC a) S1.cells j) (i := (j : Int)) (by omega) (by exact_mod_cast hjl)
        rw [hnth] at this
        simpa using this
      · rintro z e X ⟨x0, x1, x4, q, hq, x5, zs, mu2, mg2⟩
        obtain ⟨cs, hcs⟩ : ∃ cs, (stg (clrC a) S1.cells j).set j { nth S1.cells (j : Int) with fs := stg (clr a) (nth S1.cells (j : Int)).fs q } = cs := ⟨_, rfl⟩
        have hc : nth cs (j : Int) = { nth S1.cells (j : Int) with fs := stg (clr a) (nth S1.cells (j : Int)).fs q } := by
          rw [← hcs]
          have := nth_set (l := stg (clrC a) S1.cells j) (i := (j : Int)) (j := (j : Int)) (x := { nth S1.cells (j : Int) with fs := stg (clr a) (nth S1.cells (j : Int)).fs q }) (by omega) (by exact_mod_cast hjl) (by omega)
          simpa using this
        have hcsl : j < cs.length := by rw [← hcs]; simpa using hjl
        have hfle : (nth cs (j : Int)).fs.length = (nth S1.cells (j : Int)).fs.length := by rw [hc]; simp only [stg_len]
        rw [hcs] at mg2
        have hcsI : (j : Int) < ({ S1 with cells := cs } : Rp).cells.length := by simpa using hcsl
        obtain ⟨bo2, oo2, f1, f2, _⟩ := mg2.cell mu2.wf mu2.ok (i := (j : Int)) (by omega) hcsI
        have iaj := mg2.ia (kk := .i64) (i := (j : Int)) (by omega) hcsI
        have fl := (mg2.fld (i := (j : Int)) (by omega) hcsI).len
        simp only [hfle] at fl
        simp [x0, x4, x5, mg2.ldc, iaj, f1, f2, fl]
        refine WB.bool ?_ ?_
        · intro hlt2
          simp at hlt2
          have hfq : q < (nth ({ S1 with cells := cs } : Rp).cells (j : Int)).fs.length := by simp only [hfle]; exact hlt2
          obtain ⟨bo3, oo3, b2, o2, Y, p1, p2, p3, p4, p5, p6, p7, p8, p9, p10, p11⟩ := mg2.field mu2.wf mu2.ok (i := j) (j := q) (by simpa using hcsl) hfq
          rw [f1] at p1
          simp only [AV.ptr.injEq, Option.some.injEq, Prod.mk.injEq] at p1
          obtain ⟨rfl, rfl⟩ := p1
          have hx : nth (nth cs (j : Int)).fs (q : Int) = nth (nth S1.cells (j : Int)).fs (q : Int) := by rw [hc]; exact stg_nth hlt2
          simp only [hx] at p6 p7 p9 p10 p11
          obtain ⟨x, hxx⟩ : ∃ x, nth (nth S1.cells (j : Int)).fs (q : Int) = x := ⟨_, rfl⟩
          rw [hxx] at p6 p7 p9 p10 p11
          have uY : Up k tg tg X Y := Up.fr mu2.wf mu2.ok p8
          have gY := mg2.fr mu2.wf p8
          obtain ⟨bo4, oo4, d1, d2, _⟩ := gY.cell uY.wf uY.ok (i := (j : Int)) (by omega) hcsI
          obtain ⟨b5, o5, w1, _, st5⟩ := gY.setField uY.wf uY.ok (i := (j : Int)) (by omega) hcsI (f := (q : Int)) (by omega) (by exact_mod_cast hfq)
          rw [f1] at d1
          simp only [AV.ptr.injEq, Option.some.injEq, Prod.mk.injEq] at d1
          obtain ⟨rfl, rfl⟩ := d1
          rw [p5] at w1
          simp only [AV.ptr.injEq, Option.some.injEq, Prod.mk.injEq] at w1
          obtain ⟨rfl, rfl⟩ := w1
          obtain ⟨Z, v1, v2, v3, v4⟩ := st5 ⟨false, false, 0⟩
          have v1' : wsem0 (.st 3) [.ptr (some (b2, o2)), .agg [.int .i64 0, .bool false, .bool false]] Y = some (.undef, Z) := by simp only [encG, AV.cells] at v1; simp [wsem0_st, AV.cells, v1]
          have v4' : ∃ ws, RpI k tg Z b { S1 with cells := cs.set j { nth cs (j : Int) with fs := (nth cs (j : Int)).fs.set q ⟨false, false, 0⟩ } } fb cv nv fc fn ws ff := ⟨_, by simpa using v4⟩
          obtain ⟨ws, v4'⟩ := v4'
          have next : ∀ W, MidQ k tg K1 b S1 fb cv nv fc fn ff W (cs.set j { nth cs (j : Int) with fs := (nth cs (j : Int)).fs.set q (clr a x) }) → MidQ k tg K1 b S1 fb cv nv fc fn ff W ((stg (clrC a) S1.cells j).set j { nth S1.cells (j : Int) with fs := stg (clr a) (nth S1.cells (j : Int)).fs (q + 1) }) := by
            intro W hW
            refine hW.same ?_
            rw [hc, ← hcs, set_set, ← hxx]
            simp only
            rw [fs_stage a hlt2]
          have same : clr a x = x → cs.set j { nth cs (j : Int) with fs := (nth cs (j : Int)).fs.set q (clr a x) } = cs := by
            intro e
            refine setSame ?_
            have e1 := nth_eq (l := cs) (i := (j : Int)) (by omega) (by exact_mod_cast hcsl)
            simp only [Int.toNat_natCast] at e1
            rw [e1, e]
            have e2 := nth_eq (l := (nth cs (j : Int)).fs) (i := (q : Int)) (by omega) (by exact_mod_cast hfq)
            simp only [Int.toNat_natCast, hx, hxx] at e2
            rw [setSame e2]
          have midY : MidQ k tg K1 b S1 fb cv nv fc fn ff Y cs := ⟨_, mu2.trans r3.wf uY, gY⟩
          have midZ : MidQ k tg K1 b S1 fb cv nv fc fn ff Z (cs.set j { nth cs (j : Int) with fs := (nth cs (j : Int)).fs.set q ⟨false, false, 0⟩ }) := ⟨_, (mu2.trans r3.wf uY).trans r3.wf v3, v4'⟩
          have iaY := gY.ia (kk := .i64) (i := (j : Int)) (by omega) hcsI
          simp [x0, x1, x4, x5, mg2.ldc, iaj, f1, f2, p4, p5, p6, AV.cells, AV.cell, p7, p10]
          cases his : x.is with
          | false =>
            have hcl : clr a x = x := by unfold clr; rw [if_neg (by simp [his])]
            have nx := next Y (by rw [same hcl]; exact midY)
            simp (disch := omega) [x5, wrap64]
            exact ⟨z - 1, by omega, x0, x1, x4, q + 1, by omega, by simp, nx⟩
          | true =>
            simp [p11]
            cases hwk : x.weak with
            | false =>
              have hcl : clr a x = x := by unfold clr; rw [if_neg (by simp [hwk])]
              have nx := next Y (by rw [same hcl]; exact midY)
              simp (disch := omega) [x5, wrap64]
              exact ⟨z - 1, by omega, x0, x1, x4, q + 1, by omega, by simp, nx⟩
            | true =>
              simp [p9, x1]
              refine WB.bool ?_ ?_
              · intro hto
                simp at hto
                have hcl : clr a x = ⟨false, false, 0⟩ := by unfold clr; rw [if_pos ⟨his, hwk, hto⟩]
                have nx := next Z (by rw [hcl]; exact midZ)
                have hz0 : psem (.bld [.int .i64 0, .bool false, .bool false] []) [] = some (.agg [.int .i64 0, .bool false, .bool false]) := by simp [psem_bld', fill]
                simp (disch := omega) [x0, x4, x5, gY.ldc, iaY, f1, d2, p4, p5, hz0, v1', wrap64]
                exact ⟨z - 1, by omega, x1, q + 1, by omega, by simp, nx⟩
              · intro hto
                simp at hto
                have hcl : clr a x = x := by unfold clr; rw [if_neg (by simp [hto])]
                have nx := next Y (by rw [same hcl]; exact midY)
                simp (disch := omega) [x5, wrap64]
                exact ⟨z - 1, by omega, x0, x1, x4, q + 1, by omega, by simp, nx⟩
        · intro hge
          simp at hge
          have nx : MidQ k tg K1 b S1 fb cv nv fc fn ff X (stg (clrC a) S1.cells (j + 1)) := MidQ.same ⟨zs, mu2, mg2⟩ (by
            rw [← hcs, stg_all hge]
            exact stg_set hlt)
          simp (disch := omega) [x4, wrap64]
          exact ⟨i - 1, by omega, x0, x1, j + 1, by omega, by simp, nx⟩
    · intro hge
      simp at hge
      rw [stg_all (by omega)] at mg
      have hS2 : ({ S1 with cells := S1.cells.map (clrC a) } : Rp) = weakQ S1 a := rfl
      rw [hS2] at mg
      have hfl2 := hfl _ (nth_mem h0 h1)
      simp
      refine W_loop (fun (z : Nat) e X => e 0 = .ptr (some (b, 0)) ∧ e 1 = .int .i64 a ∧ ∃ q : Nat, z + q = (nth S.cells a).fs.length ∧ e 7 = .int .i64 q ∧ ∃ tg', Up k tg tg' H X ∧ RpR k tg' X b (emptiesQ (weakQ S1 a) a q)) id (nth S.cells a).fs.length ?_ ?_
      · exact ⟨by simp [x0], by simp [x1], 0, by simp, by simp, tg, r3.trans hw mu, _, _, _, _, _, _, _, mg⟩
      · rintro z e X ⟨x0, x1, q, hq, x7, tg', u', g2⟩
        obtain ⟨l1, l2⟩ := hlen q (by omega)
        obtain ⟨fb2, cv2, nv2, fc2, fn2, xs2, ff2, g3⟩ := g2
        have h1' : a < (emptiesQ (weakQ S1 a) a q).cells.length := by rw [l1]; exact h1
        obtain ⟨bo', oo', f1, f2, _⟩ := g3.cell u'.wf u'.ok h0 h1'
        have ia' := g3.ia (kk := .i64) h0 h1'
        have fl := (g3.fld h0 h1').len
        rw [l2] at fl
        simp [x0, x1, x7, g3.ldc, ia', f1, f2, fl]
        refine WB.bool ?_ ?_
        · intro hlt
          simp at hlt
          simp [x0, x1, x7]
          refine WC.of (hE q hlt X tg' u'.wf u'.ok ⟨_, _, _, _, _, _, _, g3⟩) ?_
          rintro r Y ⟨rfl, tg2, u2, g4⟩
          simp (disch := omega) [x7, wrap64]
          exact ⟨z - 1, by omega, x0, x1, q + 1, by omega, by simp, tg2, u'.trans hw u2, g4⟩
        · intro hge
          simp at hge
          have : q = (nth S.cells a).fs.length := by omega
          subst this
          simp
          exact ⟨tg', u', _, _, _, _, _, _, _, g3⟩
end
end Go.Am
