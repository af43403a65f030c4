/- Contracts: a list two by two. Printed by mkpairs2.py. -/
import Derived.Test.YtjmiblcdjkcgoaaAmPairs
set_option linter.unusedVariables false
set_option linter.unusedSimpArgs false
namespace Go.Am
variable {T : Tab}

def pairUp : List (List UInt8) → List (List UInt8 × List UInt8)
  | [] => []
  | [a] => [(a, [])]
  | a :: b :: r => (a, b) :: pairUp r
def pairsR (l : List (List UInt8)) : List (List UInt8 × List UInt8) × Int := if 200 < l.length then ([], 3) else (pairUp l, 0)
abbrev encPP (p : List UInt8 × List UInt8) : AV := .agg [.str p.1, .str p.2]

theorem pairUp_drop {l : List (List UInt8)} {j : Nat} (h : j < l.length) : pairUp (l.drop j) = (nth l (j : Int), if j + 1 < l.length then nth l ((j + 1 : Nat) : Int) else []) :: pairUp (l.drop (j + 2)) := by
  rw [drop_nthG h]
  by_cases h2 : j + 1 < l.length
  · rw [drop_nthG h2, if_pos h2]; rfl
  · rw [if_neg h2, List.drop_eq_nil_of_le (by omega), List.drop_eq_nil_of_le (by omega)]; rfl
theorem pairUp_len : ∀ (n : Nat) (l : List (List UInt8)), l.length ≤ n → (pairUp l).length ≤ l.length
  | _, [], _ => by simp [pairUp]
  | _, [a], _ => by simp [pairUp]
  | n + 2, a :: b :: r, h => by
    have := pairUp_len n r (by simp at h; omega)
    simp [pairUp]; omega
  | 1, a :: b :: r, h => by simp at h
  | 0, a :: b :: r, h => by simp at h

theorem c137 (D : D137 T) {H : AHeap} (hw : WF H) {v : AV} {l : List (List UInt8)} (hv : Sl encS 1 H v l) : Calls T 137 [v] H fun r H' => Fr H H' ∧ ∃ a, r = .tup [a, .int .i64 (pairsR l).2] ∧ Made encPP 2 H.next H' a (pairsR l).1 := by
  refine Calls.fn D.pr D.fn ?_
  by_cases h1 : 200 < l.length
  · have eR : pairsR l = ([], 3) := by unfold pairsR; rw [if_pos h1]
    rw [eR]
    simp [ir137, hv.len, show (200 : Int) < l.length by omega]
    exact ⟨.refl hw, .nil⟩
  have eR : pairsR l = (pairUp l, 0) := by unfold pairsR; rw [if_neg h1]
  rw [eR]
  simp [ir137, hv.len, show ¬ (200 : Int) < l.length by omega]
  refine W_loop (fun (i : Nat) e K => Fr H K ∧ e 0 = v ∧ ∃ j : Nat, i + j = l.length + 1 ∧ e 5 = .int .i64 j ∧ ∃ ov out, e 4 = ov ∧ Made encPP 2 H.next K ov out ∧ out.length ≤ j ∧ out ++ pairUp (l.drop j) = pairUp l) id (l.length + 1) ?_ ?_
  · exact ⟨.refl hw, by simp, 0, by simp, by simp, .slc none 0 0 none, [], by simp, .nil, by simp, by simp⟩
  · rintro i e K ⟨fr, h0, j, hj, hI, ov, out, hO, mo, hol, ho⟩
    have hv' := hv.fr hw fr
    by_cases hlt : j < l.length
    · have lv := hv'.ld (i := (j : Int)) (by omega) (by omega)
      rw [pairUp_drop hlt] at ho
      obtain ⟨a, ha⟩ : ∃ a, nth l (j : Int) = a := ⟨_, rfl⟩
      rw [ha] at lv ho
      have hz : ([.str [], .str []] : List AV).all AV.cell = true := by simp [AV.cell]
      obtain ⟨K1, s1, s2, s3, s4, s5⟩ := (Box.new (H := K) (cs := [.str [], .str []])).stA fr.wf.new (n := 2) (ds := [.str a, .str []]) rfl rfl (by simp [AV.cell])
      have k1 : Keeps (fun g => K.next ≤ g) K K1 := fr.wf.keeps_new.trans (s4.mono fun g hg => by omega)
      have f1 : Fr K K1 := ⟨s2, k1⟩
      have hn1 : K1.next = K.next + 1 := s5
      have hbld : psem (.bld [.str [], .str []] [(0, 1), (1, 1)]) [.str a, .str []] = some (.agg [.str a, .str []]) := by simp [psem_bld', fill, splice, AV.cells, AV.cell]
      by_cases hlt2 : j + 1 < l.length
      · rw [if_pos hlt2] at ho
        have hv1 := hv'.fr fr.wf f1
        have lv2 := hv1.ld (i := ((j + 1 : Nat) : Int)) (by omega) (by omega)
        obtain ⟨b, hb⟩ : ∃ b, nth l ((j + 1 : Nat) : Int) = b := ⟨_, rfl⟩
        rw [hb] at lv2 ho
        have ej : (((j + 1 : Nat)) : Int) = (j : Int) + 1 := by omega
        rw [ej] at lv2
        obtain ⟨K2, r1, r2, r3, r4, r5⟩ := s3.st s2 (off := 1) (vs := [.str b]) (by simp) (by simp [AV.cell])
        have r1' : wsem0 (.st 1) [.ptr (some (K.next, 1)), .str b] K1 = some (.undef, K2) := by
          rw [wsem0_st]; simp [AV.cells, r1]
        have f2 : Fr K K2 := ⟨r2, k1.trans (r4.mono fun g hg => by omega)⟩
        have lA := r3.ldA (n := 2) (by simp [splice])
        simp only [splice, List.take, List.drop, List.cons_append, List.nil_append, List.length_cons, List.length_nil, List.append_nil] at lA
        have mo2 := mo.fr fr.wf f2
        obtain ⟨v', K', q1, q2, q3, q4⟩ := push_a (bytes := 32) r2 (Nat.le_trans fr.next f2.next) mo2 (a, b) (by simp) rfl (by simp [AV.cells, AV.cell]) (by omega) (by omega)
        simp only [AV.cells] at q1
        have hbs := wsem0_bslA (n := 2) (H := K2) (z := [.str [], .str []]) (cs := [.str a, .str b]) rfl rfl (by simp [AV.cell]) (by simp)
        have ii : psem (.ia 1) [v, .int .i64 ((j : Int) + 1)] = some (elt v 1 ((j : Int) + 1)) := hv.ia (by omega) (by omega)
        simp (disch := omega) [h0, hI, hO, hv'.len, hlt, hv'.ia, lv, hbld, AV.cells, AV.cell, s1, wrap64]
        simp (disch := omega) [h0, hI, hO, hv1.len, hv'.len, show ((j : Int) + 1 < l.length) by omega, ii, lv2, r1', lA, hbs, q1, wrap64]
        exact ⟨i - 2, by omega, (fr.trans f2).step q2 q3 (fun g h => h), j + 2, by omega, by omega, out ++ [(a, b)], q4, by simp; omega, by rw [List.append_assoc]; exact ho⟩
      · rw [if_neg hlt2] at ho
        have lA := s3.ldA (n := 2) rfl
        have mo2 := mo.fr fr.wf f1
        obtain ⟨v', K', q1, q2, q3, q4⟩ := push_a (bytes := 32) s2 (Nat.le_trans fr.next f1.next) mo2 (a, []) (by simp) rfl (by simp [AV.cells, AV.cell]) (by omega) (by omega)
        simp only [AV.cells] at q1
        have hbs := wsem0_bslA (n := 2) (H := K1) (z := [.str [], .str []]) (cs := [.str a, .str []]) rfl rfl (by simp [AV.cell]) (by simp)
        simp (disch := omega) [h0, hI, hO, hv'.len, hlt, hv'.ia, lv, hbld, AV.cells, AV.cell, s1, wrap64]
        simp (disch := omega) [h0, hI, hO, hv'.len, show ¬ ((j : Int) + 1 < l.length) by omega, lA, hbs, q1, wrap64]
        exact ⟨i - 2, by omega, (fr.trans f1).step q2 q3 (fun g h => h), j + 2, by omega, by omega, out ++ [(a, [])], q4, by simp; omega, by rw [List.append_assoc]; exact ho⟩
    · rw [List.drop_eq_nil_of_le (by omega)] at ho
      simp only [pairUp, List.append_nil] at ho
      simp [h0, hI, hO, hv'.len, hlt]
      rw [← ho]
      exact ⟨fr, mo⟩

theorem c138 (D : D138 T) {H : AHeap} (hw : WF H) {v : AV} {l : List (List UInt8)} (hv : Sl encS 1 H v l) : Calls T 138 [v] H fun r H' => Fr H H' ∧ ∃ a, r = .tup [a, .int .i64 (pairsR l).2] ∧ Made encPP 2 H.next H' a (pairsR l).1 := by
  refine Calls.fn D.pr D.fn ?_
  simp [ir138, hv.len]
  refine WC.of (c148 D.d148) ?_
  rintro r H ⟨rfl, rfl⟩
  by_cases h1 : 200 < l.length
  · have eR : pairsR l = ([], 3) := by unfold pairsR; rw [if_pos h1]
    rw [eR]
    simp [show (200 : Int) < l.length by omega]
    exact ⟨.refl hw, .nil⟩
  have eR : pairsR l = (pairUp l, 0) := by unfold pairsR; rw [if_neg h1]
  rw [eR]
  simp [show ¬ (200 : Int) < l.length by omega]
  refine W_loop (fun (i : Nat) e K => Fr H K ∧ e 0 = v ∧ ∃ j : Nat, i + j = l.length + 1 ∧ e 6 = .int .i64 j ∧ ∃ ov out, e 5 = ov ∧ Made encPP 2 H.next K ov out ∧ out.length ≤ j ∧ out ++ pairUp (l.drop j) = pairUp l) id (l.length + 1) ?_ ?_
  · exact ⟨.refl hw, by simp, 0, by simp, by simp, .slc none 0 0 none, [], by simp, .nil, by simp, by simp⟩
  · rintro i e K ⟨fr, h0, j, hj, hI, ov, out, hO, mo, hol, ho⟩
    have hv' := hv.fr hw fr
    by_cases hlt : j < l.length
    · have lv := hv'.ld (i := (j : Int)) (by omega) (by omega)
      rw [pairUp_drop hlt] at ho
      obtain ⟨a, ha⟩ : ∃ a, nth l (j : Int) = a := ⟨_, rfl⟩
      rw [ha] at lv ho
      have hz : ([.str [], .str []] : List AV).all AV.cell = true := by simp [AV.cell]
      obtain ⟨K1, s1, s2, s3, s4, s5⟩ := (Box.new (H := K) (cs := [.str [], .str []])).stA fr.wf.new (n := 2) (ds := [.str a, .str []]) rfl rfl (by simp [AV.cell])
      have k1 : Keeps (fun g => K.next ≤ g) K K1 := fr.wf.keeps_new.trans (s4.mono fun g hg => by omega)
      have f1 : Fr K K1 := ⟨s2, k1⟩
      have hn1 : K1.next = K.next + 1 := s5
      have hbld : psem (.bld [.str [], .str []] [(0, 1), (1, 1)]) [.str a, .str []] = some (.agg [.str a, .str []]) := by simp [psem_bld', fill, splice, AV.cells, AV.cell]
      by_cases hlt2 : j + 1 < l.length
      · rw [if_pos hlt2] at ho
        have hv1 := hv'.fr fr.wf f1
        have lv2 := hv1.ld (i := ((j + 1 : Nat) : Int)) (by omega) (by omega)
        obtain ⟨b, hb⟩ : ∃ b, nth l ((j + 1 : Nat) : Int) = b := ⟨_, rfl⟩
        rw [hb] at lv2 ho
        have ej : (((j + 1 : Nat)) : Int) = (j : Int) + 1 := by omega
        rw [ej] at lv2
        obtain ⟨K2, r1, r2, r3, r4, r5⟩ := s3.st s2 (off := 1) (vs := [.str b]) (by simp) (by simp [AV.cell])
        have r1' : wsem0 (.st 1) [.ptr (some (K.next, 1)), .str b] K1 = some (.undef, K2) := by
          rw [wsem0_st]; simp [AV.cells, r1]
        have f2 : Fr K K2 := ⟨r2, k1.trans (r4.mono fun g hg => by omega)⟩
        have lA := r3.ldA (n := 2) (by simp [splice])
        simp only [splice, List.take, List.drop, List.cons_append, List.nil_append, List.length_cons, List.length_nil, List.append_nil] at lA
        have mo2 := mo.fr fr.wf f2
        obtain ⟨v', K', q1, q2, q3, q4⟩ := push_a (bytes := 32) r2 (Nat.le_trans fr.next f2.next) mo2 (a, b) (by simp) rfl (by simp [AV.cells, AV.cell]) (by omega) (by omega)
        simp only [AV.cells] at q1
        have hbs := wsem0_bslA (n := 2) (H := K2) (z := [.str [], .str []]) (cs := [.str a, .str b]) rfl rfl (by simp [AV.cell]) (by simp)
        have ii : psem (.ia 1) [v, .int .i64 ((j : Int) + 1)] = some (elt v 1 ((j : Int) + 1)) := hv.ia (by omega) (by omega)
        simp (disch := omega) [h0, hI, hO, hv'.len, hlt, hv'.ia, lv, hbld, AV.cells, AV.cell, s1, wrap64]
        simp (disch := omega) [h0, hI, hO, hv1.len, hv'.len, show ((j : Int) + 1 < l.length) by omega, ii, lv2, r1', lA, hbs, q1, wrap64]
        exact ⟨i - 2, by omega, (fr.trans f2).step q2 q3 (fun g h => h), j + 2, by omega, by omega, out ++ [(a, b)], q4, by simp; omega, by rw [List.append_assoc]; exact ho⟩
      · rw [if_neg hlt2] at ho
        have lA := s3.ldA (n := 2) rfl
        have mo2 := mo.fr fr.wf f1
        obtain ⟨v', K', q1, q2, q3, q4⟩ := push_a (bytes := 32) s2 (Nat.le_trans fr.next f1.next) mo2 (a, []) (by simp) rfl (by simp [AV.cells, AV.cell]) (by omega) (by omega)
        simp only [AV.cells] at q1
        have hbs := wsem0_bslA (n := 2) (H := K1) (z := [.str [], .str []]) (cs := [.str a, .str []]) rfl rfl (by simp [AV.cell]) (by simp)
        simp (disch := omega) [h0, hI, hO, hv'.len, hlt, hv'.ia, lv, hbld, AV.cells, AV.cell, s1, wrap64]
        simp (disch := omega) [h0, hI, hO, hv'.len, show ¬ ((j : Int) + 1 < l.length) by omega, lA, hbs, q1, wrap64]
        exact ⟨i - 2, by omega, (fr.trans f1).step q2 q3 (fun g h => h), j + 2, by omega, by omega, out ++ [(a, [])], q4, by simp; omega, by rw [List.append_assoc]; exact ho⟩
    · rw [List.drop_eq_nil_of_le (by omega)] at ho
      simp only [pairUp, List.append_nil] at ho
      simp [h0, hI, hO, hv'.len, hlt]
      rw [← ho]
      exact ⟨fr, mo⟩
end Go.Am
