/- Contracts: the first scalar that is true. -/
import Derived.Test.YtjmiblcdjkcgoaaDoorAmScal2
set_option linter.unusedVariables false
set_option linter.unusedSimpArgs false
namespace Go.Am
variable {T : Tab}

/-- Where the first true one stands, counted from k; -1 for none. -/
def ixT : List Bool → Nat → Int
  | [], _ => -1
  | b :: l, k => if b then k else ixT l (k + 1)
def pickT (k : Int) : Int × Bool × Int := if 0 ≤ k then (k, true, 0) else (0, false, 0)
def firstR (l : List Scal) : Int × Bool × Int := if errS l ≠ 0 then (0, false, errS l) else pickT (ixT (l.map trueV) 0)
abbrev pr3b (p : Int × Bool × Int) : AV := .tup [.int .i64 p.1, .bool p.2.1, .int .i64 p.2.2]

theorem c530 (D : D530 T) {H : AHeap} {v : AV} {l : List Bool} (hv : Sl encB 1 H v l) (hl : l.length < 2 ^ 62) : Calls T 530 [v, .bool true] H fun r H' => H' = H ∧ r = .int .i64 (ixT l 0) := by
  refine Calls.fn D.pr D.fn ?_
  simp [ir530, hv.len]
  refine W_loop (fun (i : Nat) e K => K = H ∧ e 0 = v ∧ e 1 = .bool true ∧ e 7 = .int .i64 l.length ∧ ∃ j : Nat, i + j = l.length ∧ e 8 = .int .i64 j ∧ ixT l 0 = ixT (l.drop j) j) id l.length ?_ ?_
  · exact ⟨rfl, by simp, by simp, by simp, 0, by simp, by simp, by simp⟩
  · rintro i e H ⟨rfl, h0, h1, h7, j, hj, h8, he⟩
    by_cases hlt : j < l.length
    · have lv := hv.ld (i := (j : Int)) (by omega) (by omega)
      rw [drop_nthG hlt, ixT] at he
      cases hb : nth l (j : Int) with
      | true =>
        rw [hb] at lv he
        simp (disch := omega) [h0, h1, h7, h8, hlt, hv.ia, lv]
        rw [he]; simp
      | false =>
        rw [hb] at lv he
        simp (disch := omega) [h0, h1, h7, h8, hlt, hv.ia, lv, wrap64]
        exact ⟨i - 1, by omega, j + 1, by omega, by omega, by simpa using he⟩
    · rw [List.drop_eq_nil_of_le (by omega), ixT] at he
      simp [h0, h1, h7, h8, hlt, he]

theorem c528 (D : D528 T) {H : AHeap} (hw : WF H) {v : AV} {l : List Scal} (hv : Sl encC 4 H v l) : Calls T 528 [v] H fun r H' => Fr H H' ∧ r = pr3b (firstR l) := by
  refine Calls.fn D.pr D.fn ?_
  simp [ir528]
  refine WC.of (c168 D.d168 hw hv) ?_
  rintro r K0 ⟨f0, rfl⟩
  have eS : errS l = if 200 < l.length then 3 else errL l := rfl
  rw [← eS]
  by_cases hz : errS l = 0
  · have hlen : l.length ≤ 200 := by
      rw [eS] at hz; split at hz
      · cases hz
      · omega
    have hL : errL l = 0 := by rw [eS, if_neg (by omega)] at hz; exact hz
    have hval := errL_zero hL
    have eF : firstR l = pickT (ixT (l.map trueV) 0) := by unfold firstR; rw [if_neg (by simp [hz])]
    rw [eF]
    simp [hz]
    refine W_loop (fun (i : Nat) e K => Fr H K ∧ e 0 = v ∧ ∃ j : Nat, i + j = l.length ∧ e 6 = .int .i64 j ∧ ixT (l.map trueV) 0 = ixT ((l.drop j).map trueV) j) id l.length ?_ ?_
    · exact ⟨f0, by simp, 0, by simp, by simp, by simp⟩
    · rintro i e K ⟨fr, h0, j, hj, h6, he⟩
      have hv' := hv.fr hw fr
      by_cases hlt : j < l.length
      · have lv := hv'.ldA (i := (j : Int)) (by omega) (by omega) rfl
        have hx := hval (nth l (j : Int)) (nth_mem hlt)
        rw [drop_nthG hlt, List.map_cons, ixT] at he
        generalize nth l (j : Int) = x at *
        simp (disch := omega) [h0, h6, hv'.len, hlt, hv'.ia, lv]
        refine WC.of (c276 D.d276 fr.wf (x := x) (valid_num hx)) ?_
        rintro r K2 ⟨f2, rfl⟩
        cases hb : trueV x with
        | true =>
          rw [hb] at he
          rw [he]
          simp [h6, pickT]
          exact fr.trans f2
        | false =>
          rw [hb] at he
          simp (disch := omega) [h0, h6, wrap64]
          exact ⟨i - 1, by omega, fr.trans f2, j + 1, by omega, by omega, by simpa using he⟩
      · rw [List.drop_eq_nil_of_le (by omega), List.map_nil, ixT] at he
        rw [he]
        simp [h0, h6, hv'.len, hlt, pickT]
        exact fr
  · have eF : firstR l = (0, false, errS l) := by unfold firstR; rw [if_pos hz]
    rw [eF]
    simp [hz]
    exact f0

theorem c529 (D : D529 T) {H : AHeap} (hw : WF H) {v : AV} {l : List Scal} (hv : Sl encC 4 H v l) : Calls T 529 [v] H fun r H' => Fr H H' ∧ r = pr3b (firstR l) := by
  refine Calls.fn D.pr D.fn ?_
  simp [ir529, hv.len]
  refine WC.of (c148 D.d148) ?_
  rintro r H ⟨rfl, rfl⟩
  by_cases h1 : 200 < l.length
  · have eS : errS l = 3 := by unfold errS; rw [if_pos h1]
    have eF : firstR l = (0, false, 3) := by unfold firstR; rw [eS]; rfl
    rw [eF]
    simp [show (200 : Int) < l.length by omega]
    exact .refl hw
  have eS : errS l = errL l := by unfold errS; rw [if_neg h1]
  simp [show ¬ (200 : Int) < l.length by omega, hv.len]
  refine W_loop (fun (i : Nat) e K => Fr H K ∧ e 0 = v ∧ e 18 = v ∧ e 19 = .int .i64 l.length ∧ ∃ j : Nat, i + j = l.length ∧ e 20 = .int .i64 j ∧ errL l = errL (l.drop j) ∧ ∃ ov, e 6 = ov ∧ Made encB 1 H.next K ov ((l.map trueV).take j)) id l.length ?_ ?_
  · exact ⟨.refl hw, by simp, by simp, by simp, 0, by simp, by simp, by simp, .slc none 0 0 none, by simp, .nil⟩
  · rintro i e K ⟨fr, h0, h18, h19, j, hj, h20, he, ov, h6, mo⟩
    have hv' := hv.fr hw fr
    by_cases hlt : j < l.length
    · have lv := hv'.ldA (i := (j : Int)) (by omega) (by omega) rfl
      rw [drop_nthG hlt, errL] at he
      have et : (l.map trueV).take (j + 1) = (l.map trueV).take j ++ [trueV (nth l (j : Int))] := by rw [← List.map_take, take_nth hlt, List.map_append, List.map_take]; rfl
      generalize nth l (j : Int) = x at *
      obtain ⟨K1, s1, s2, s3, s4, s5⟩ := (Box.new (H := K) (cs := [.int .i64 0, .int .i64 0, .str [], .bool false])).stA fr.wf.new (n := 4) (ds := [.int .i64 x.kind, .int .i64 x.n, .str x.s, .bool x.taint]) rfl rfl (scal_cells x)
      have k1 : Keeps (fun g => K.next ≤ g) K K1 := fr.wf.keeps_new.trans (s4.mono fun g hg => by omega)
      have f1 : Fr K K1 := ⟨s2, k1⟩
      have lA := s3.ldA (n := 4) rfl
      simp (disch := omega) [h0, h18, h19, h20, hlt, hv'.ia, lv, AV.cells, AV.cell, s1, lA]
      refine WC.of (c274 D.d274 s2 (x := x)) ?_
      rintro r K2 ⟨f2, rfl⟩
      have fr2 := (fr.trans f1).trans f2
      by_cases hvx : validB x = 0
      · rw [if_neg (by simp [hvx])] at he
        have eT : trueR x = (trueV x, 0) := by unfold trueR; rw [if_neg (by simp [hvx])]
        rw [eT]
        have mo2 := mo.fr fr.wf (f1.trans f2)
        obtain ⟨v', K', q1, q2, q3⟩ := push1_made (bytes := 1) fr2 mo2 (trueV x) (by simp; omega) (by simp; omega)
        rw [← et] at q3
        have hb : wsem0 (.bsl 1 1 [.bool false] [(0, 1)]) [.bool (trueV x)] K2 = some (.slc (some (K2.next, 0)) 1 1 (some 1), K2.new [.bool (trueV x)]) := wsem0_bsl1 rfl
        have q1 : wsem0 (.app 1 1) [ov, .slc (some (K2.next, 0)) 1 1 (some 1)] (K2.new [.bool (trueV x)]) = some (v', K') := q1
        simp
        simp (disch := omega) [h0, h6, h18, h19, h20, hb, q1, wrap64]
        exact ⟨i - 1, by omega, q2, j + 1, by omega, by omega, he, q3⟩
      · rw [if_pos hvx] at he
        have eT : trueR x = (false, validB x) := by unfold trueR; rw [if_pos hvx]
        have eF : firstR l = (0, false, validB x) := by unfold firstR; rw [eS, he, if_pos hvx]
        rw [eT, eF]
        simp [hvx]
        exact fr2
    · rw [List.drop_eq_nil_of_le (by omega), errL] at he
      rw [List.take_of_length_le (by simp; omega)] at mo
      have eF : firstR l = pickT (ixT (l.map trueV) 0) := by unfold firstR; rw [eS, he]; rfl
      rw [eF]
      simp [h0, h6, h18, h19, h20, hlt]
      refine WC.of (c530 D.d530 mo.sl (by simp; omega)) ?_
      rintro r K2 ⟨rfl, rfl⟩
      generalize ixT (l.map trueV) 0 = k
      by_cases hk : 0 ≤ k
      · simp [hk, pickT]
        exact fr
      · simp [hk, pickT]
        exact fr

theorem c527 (D : D527 T) {H : AHeap} (hw : WF H) {v : AV} {l : List Scal} (hv : Sl encC 4 H v l) (hl : l.length < 2 ^ 63) : Calls T 527 [v] H fun r _ => r = .bool true := by
  refine Calls.fn D.pr D.fn ?_
  have known : ∀ {X : AHeap}, WF X → Calls T 112 [] X fun v _ => v = .bool true := fun h => c112 D.d112 h
  simp [ir527]
  refine WC.of (c145 D.d145 hv hl) ?_
  rintro r H ⟨rfl, b, rfl⟩
  cases b with
  | true =>
    simp
    refine WC.of (known hw) ?_
    rintro v H' rfl
    simp
  | false =>
    simp
    refine WC.of (c528 D.d528 hw hv) ?_
    rintro r H1 ⟨f1, rfl⟩
    simp
    refine WC.of (c529 D.d529 f1.wf (hv.fr hw f1)) ?_
    rintro r H2 ⟨f2, rfl⟩
    simp
    refine WC.of (known f2.wf) ?_
    rintro v H' rfl
    simp

theorem law527 (D : D527 T) {K : AHeap} {as : List AV} (hw : WF K) (hg : Goods K [.slice shC] as) : Calls T 527 as K fun v _ => v = .bool true := by
  obtain ⟨a, r, rfl, g1, rfl⟩ := hg
  obtain ⟨l, hl, hm, _⟩ := g1.scals
  have e : maxLen = 2 ^ 63 - 1 := rfl
  exact c527 D hw hl (by omega)
end Go.Am
