/- Contracts: the sorts of texts, and their law. -/
import Derived.Test.YtepgjaknkjkpaaaDoorAmTexts
set_option linter.unusedVariables false
set_option linter.unusedSimpArgs false
namespace Go.Am
variable {T : Tab}

theorem swap_at {α : Type} {a b c d : α} {q : List α} : ∀ p : List α, ((p ++ a :: b :: q).set p.length c).set (p.length + 1) d = p ++ c :: d :: q
  | [] => rfl
  | x :: p => by simp only [List.cons_append, List.length_cons, List.set_cons_succ, swap_at p]

/-- One step of an insertion that comes from the end. -/
theorem ins_step {α : Type} [Inhabited α] {o : List α} {x : α} {k : Nat} (hk : k < o.length) :
    nth (o.take (k + 1) ++ x :: o.drop (k + 1)) (k : Int) = nth o (k : Int) ∧ nth (o.take (k + 1) ++ x :: o.drop (k + 1)) ((k : Int) + 1) = x ∧
    ((o.take (k + 1) ++ x :: o.drop (k + 1)).set k x).set (k + 1) (nth o (k : Int)) = o.take k ++ x :: o.drop k := by
  have eo : nth o (k : Int) = o[k] := by simp [nth, List.getElem?_eq_getElem hk]
  have et : o.take (k + 1) = o.take k ++ [o[k]] := List.take_succ_eq_append_getElem hk
  have hl : (o.take k).length = k := by simp; omega
  have hl1 : (o.take (k + 1)).length = k + 1 := by simp; omega
  refine ⟨?_, ?_, ?_⟩
  · rw [eo]
    simp only [nth, List.getD, Int.toNat_natCast]
    rw [List.getElem?_append_left (by omega), List.getElem?_take, if_pos (by omega), List.getElem?_eq_getElem hk]
    rfl
  · have e2 : ((k : Int) + 1).toNat = k + 1 := by omega
    simp only [nth, List.getD, e2]
    rw [List.getElem?_append_right (by omega), hl1, Nat.sub_self]
    rfl
  · have hs := swap_at (a := o[k]) (b := x) (c := x) (d := o[k]) (q := o.drop (k + 1)) (o.take k)
    rw [hl] at hs
    rw [eo, et, List.append_assoc]
    rw [show [o[k]] ++ x :: o.drop (k + 1) = o[k] :: x :: o.drop (k + 1) from rfl, hs, List.drop_eq_getElem_cons hk]

def sortTextsR (l : List (List UInt8)) : List (List UInt8) × Int := if 200 < l.length then ([], 3) else (isort cmpB l, 0)

theorem c125 (D : D125 T) {H : AHeap} (hw : WF H) {v : AV} {l : List (List UInt8)} (hv : Sl encS 1 H v l) (hsz : ∀ s ∈ l, s.length < 2 ^ 63) : Calls T 125 [v] H fun r H' => Fr H H' ∧ ∃ a, r = .tup [a, .int .i64 (sortTextsR l).2] ∧ Made encS 1 H.next H' a (sortTextsR l).1 := by
  refine Calls.fn D.pr D.fn ?_
  by_cases h1 : 200 < l.length
  · simp [ir125, hv.len, sortTextsR, h1, show (200 : Int) < l.length by omega]
    exact ⟨.refl hw, .nil⟩
  simp [ir125, hv.len, sortTextsR, h1, show ¬ (200 : Int) < l.length by omega]
  refine W_loop (fun (i : Nat) e K => Fr H K ∧ e 0 = v ∧ ∃ j : Nat, i + j = l.length ∧ e 5 = .int .i64 j ∧ ∃ ov, e 4 = ov ∧ Made encS 1 H.next K ov (isort cmpB (l.take j))) id l.length ?_ ?_
  · exact ⟨.refl hw, by simp, 0, by simp, by simp, .slc none 0 0 none, by simp, .nil⟩
  · rintro i e K ⟨fr, h0, j, hj, h5, ov, h4, mo⟩
    have hv' := hv.fr hw fr
    simp [h0, h5, hv'.len]
    refine WB.bool ?_ ?_
    · intro hlt
      simp at hlt
      have lv := hv'.ld (i := (j : Int)) (by omega) (by omega)
      have et := isort_snoc (c := cmpB) (l.take j) (nth l (j : Int))
      rw [← take_nth hlt] at et
      have ho := isort_ord gt_bytes (l.take j)
      have hol := (isort_perm cmpB (l.take j)).length_eq
      rw [List.length_take] at hol
      have hmem : ∀ s ∈ isort cmpB (l.take j), s.length < 2 ^ 63 := fun s hs => hsz s (List.mem_of_mem_take ((isort_perm cmpB (l.take j)).mem_iff.1 hs))
      generalize nth l (j : Int) = x at lv et
      generalize isort cmpB (l.take j) = o at mo et ho hol hmem
      have hoj : o.length = j := by omega
      obtain ⟨ov2, K2, q1, q2, q3, q4⟩ := push_n (bytes := 16) fr.wf fr.next mo x (by omega) (by omega)
      simp (disch := omega) [h0, h4, h5, hv'.ia, lv, wsem0_bsl1 (v := .str x) rfl, q1]
      have f2 : Fr H K2 := fr.step q2 q3 (fun g h => h)
      refine W_loop (fun (k : Nat) e2 X => Fr H X ∧ e2 0 = v ∧ e2 5 = .int .i64 j ∧ e2 4 = ov2 ∧ e2 6 = .int .i64 k ∧ k ≤ o.length ∧ Made encS 1 H.next X ov2 (o.take k ++ x :: o.drop k) ∧ ∀ a ∈ o.drop k, 0 < cmpB a x) id j ?_ ?_
      · refine ⟨f2, by simp [h0], by simp [h5], by simp, by simp, by omega, ?_, ?_⟩
        · rw [List.take_of_length_le (by omega), List.drop_eq_nil_of_le (by omega)]; exact q4
        · rw [List.drop_eq_nil_of_le (by omega)]; simp
      · rintro k e2 X ⟨fX, g0, g5, g4, g6, hk, mX, hgt⟩
        have done : (∀ (hk0 : 0 < k), ¬ 0 < cmpB (o[k - 1]'(by omega)) x) → Made encS 1 H.next X ov2 (isort cmpB (l.take (j + 1))) := by
          intro h
          rw [et, insL_at gt_bytes ho hk hgt h]; exact mX
        cases k with
        | zero =>
          simp (disch := omega) [g0, g4, g5, g6, wrap64]
          exact ⟨i - 1, by omega, fX, j + 1, by omega, by omega, done (by omega)⟩
        | succ k =>
          obtain ⟨n1, n2, n3⟩ := ins_step (x := x) (show k < o.length by omega)
          have hL : (o.take (k + 1) ++ x :: o.drop (k + 1)).length = o.length + 1 := by simp; omega
          have l1 := mX.sl.ld (i := (k : Int)) (by omega) (by omega)
          have l2 := mX.sl.ld (i := (k : Int) + 1) (by omega) (by omega)
          rw [n1] at l1
          rw [n2] at l2
          have i1 : psem (.ia 1) [ov2, .int .i64 (k : Int)] = some (elt ov2 1 k) := mX.sl.ia (by omega) (by omega)
          have i2 : psem (.ia 1) [ov2, .int .i64 ((k : Int) + 1)] = some (elt ov2 1 ((k : Int) + 1)) := mX.sl.ia (by omega) (by omega)
          have eok : nth o (k : Int) = o[k] := by simp [nth, List.getElem?_eq_getElem (show k < o.length by omega)]
          have hsl := hmem (nth o (k : Int)) (by rw [eok]; exact List.getElem_mem _)
          obtain ⟨X1, s1, w1, kx1, m1, nx1⟩ := mX.st fX.wf (i := (k : Int)) (by omega) (by omega) x
          obtain ⟨X2, s2, w2, kx2, m2, nx2⟩ := m1.st w1 (i := (k : Int) + 1) (by omega) (by rw [List.length_set]; omega) (nth o (k : Int))
          rw [Int.toNat_natCast, show ((k : Int) + 1).toNat = k + 1 by omega, n3] at m2
          have hdk : o.drop k = o[k] :: o.drop (k + 1) := List.drop_eq_getElem_cons (by omega)
          rw [eok] at l1 s2 hsl
          simp (disch := omega) [g4, g6, show (0 : Int) < (k : Int) + 1 by omega, wrap64, i1, i2, l1, l2]
          refine WC.of (c155 D.d155 hsl) ?_
          rintro r H' ⟨rfl, rfl⟩
          simp
          refine WB.bool ?_ ?_
          · intro hc
            simp at hc
            simp (disch := omega) [g0, g4, g5, g6, wrap64, i1, i2, l1, l2, s1, s2]
            refine ⟨k, by omega, (fX.step w1 kx1 fun g h => h).step w2 kx2 fun g h => h, rfl, by omega, m2, ?_⟩
            rw [hdk]
            intro a ha
            rcases List.mem_cons.1 ha with e | ha
            · subst e; exact hc
            · exact hgt a ha
          · intro hc
            simp at hc
            simp (disch := omega) [g0, g4, g5, g6, wrap64]
            exact ⟨i - 1, by omega, fX, j + 1, by omega, by omega, done fun _ => by simp; omega⟩
    · intro hlt
      simp at hlt
      rw [List.take_of_length_le (by omega)] at mo
      simp [h4]
      exact ⟨fr, mo⟩

theorem c127 (D : D127 T) {H : AHeap} (hw : WF H) {v : AV} {l : List (List UInt8)} (hv : Sl encS 1 H v l) : Calls T 127 [v] H fun r H' => Fr H H' ∧ ∃ a, r = .tup [a, .int .i64 (sortTextsR l).2] ∧ Made encS 1 H.next H' a (sortTextsR l).1 := by
  refine Calls.fn D.pr D.fn ?_
  simp [ir127, hv.len]
  refine WC.of (c148 D.d148) ?_
  rintro r H ⟨rfl, rfl⟩
  by_cases h1 : 200 < l.length
  · simp [sortTextsR, h1, show (200 : Int) < l.length by omega]
    exact ⟨.refl hw, .nil⟩
  simp [sortTextsR, h1, show ¬ (200 : Int) < l.length by omega]
  have hc : CmpOk T encS 158 [] H.next (fun _ => False) (fun (_ : Unit) _ => True) (pureC cmpB) (fun _ => True) (fun _ => 0) (2 ^ 60) := by
    refine ⟨fun s x y => by simp, fun g hg => hg.elim, ?_, fun _ _ _ _ _ _ _ => trivial⟩
    intro s X x y _ _ _ hwX _ _
    refine (c158 D.d158).imp ?_
    rintro r X' ⟨rfl, rfl⟩
    exact ⟨rfl, hwX, trivial, .refl⟩
  have hmul : l.length * (l.length + 1) ≤ 200 * 201 := Nat.mul_le_mul (by omega) (by omega)
  have rd : Rd (fun _ => False) encS 1 H v l := (hv.rd hw).mono fun g h => h.elim
  refine WC.of (c157 D.d157 hc l.length l v H () (by omega) (by omega) (by omega) hw (Nat.le_refl _) trivial rd (fun _ _ => trivial)) ?_
  rintro r H1 ⟨w1, m1, _, k1⟩
  simp
  rw [sortN_isort gt_bytes _ _ (by omega)] at m1
  exact ⟨⟨w1, k1.mono fun g hg => hg.elim (fun h => h.elim) id⟩, m1⟩

/-! ### By keys -/
theorem range_take {n j : Nat} : rangeI (j + 1) = rangeI j ++ [(j : Int)] := rangeI_succ j
theorem rangeI_mem {n : Nat} {x : Int} (h : x ∈ rangeI n) : 0 ≤ x ∧ x < n := by
  simp [rangeI] at h
  obtain ⟨a, ha, rfl⟩ := h
  omega

def ordC (keys : List Int) (back : Bool) (a b : Int) : Int := if back then cmpK keys b a else cmpK keys a b
theorem gt_ord (keys : List Int) (back : Bool) : GtOk (ordC keys back) := by
  cases back with
  | false => exact gt_keys keys
  | true =>
    have h := gt_keys keys
    exact ⟨fun x y z h1 h2 => h.trans z y x h2 h1, fun x y z h1 h2 => h.neg z y x h2 h1, h.refl⟩

theorem c156 (D : D156 T) {H : AHeap} (hw : WF H) {v : AV} {keys : List Int} {back : Bool} (hv : Sl encI 1 H v keys) (hl : keys.length ≤ 200) :
    Calls T 156 [v, .bool back] H fun r H' => Fr H H' ∧ Made encI 1 H.next H' r (isort (ordC keys back) (rangeI keys.length)) := by
  refine Calls.fn D.pr D.fn ?_
  simp [ir156]
  refine W_loop (fun (i : Nat) e K => Fr H K ∧ e 0 = v ∧ e 1 = .bool back ∧ ∃ j : Nat, i + j = keys.length ∧ e 6 = .int .i64 j ∧ ∃ ov, e 5 = ov ∧ Made encI 1 H.next K ov (isort (ordC keys back) (rangeI j))) id keys.length ?_ ?_
  · exact ⟨.refl hw, by simp, by simp, 0, by simp, by simp, .slc none 0 0 none, by simp, .nil⟩
  · rintro i e K ⟨fr, h0, h1, j, hj, h6, ov, h5, mo⟩
    have hv' := hv.fr hw fr
    simp [h0, h6, hv'.len]
    refine WB.bool ?_ ?_
    · intro hlt
      simp at hlt
      have et := isort_snoc (c := ordC keys back) (rangeI j) (j : Int)
      rw [← rangeI_succ] at et
      have ho := isort_ord (gt_ord keys back) (rangeI j)
      have hol := (isort_perm (ordC keys back) (rangeI j)).length_eq
      rw [rangeI_len] at hol
      have hmem : ∀ s ∈ isort (ordC keys back) (rangeI j), 0 ≤ s ∧ s < j := fun s hs => rangeI_mem ((isort_perm (ordC keys back) (rangeI j)).mem_iff.1 hs)
      generalize isort (ordC keys back) (rangeI j) = o at mo et ho hol hmem
      obtain ⟨ov2, K2, q1, q2, q3, q4⟩ := push_n (bytes := 8) fr.wf fr.next mo (j : Int) (by omega) (by omega)
      simp (disch := omega) [h0, h1, h5, h6, wsem0_bsl1 (v := .int .i64 (j : Int)) rfl, q1]
      have f2 : Fr H K2 := fr.step q2 q3 (fun g h => h)
      refine W_loop (fun (k : Nat) e2 X => Fr H X ∧ e2 0 = v ∧ e2 1 = .bool back ∧ e2 6 = .int .i64 j ∧ e2 5 = ov2 ∧ e2 7 = .int .i64 k ∧ k ≤ o.length ∧ Made encI 1 H.next X ov2 (o.take k ++ (j : Int) :: o.drop k) ∧ ∀ a ∈ o.drop k, 0 < ordC keys back a j) id j ?_ ?_
      · refine ⟨f2, by simp [h0], by simp [h1], by simp [h6], by simp, by simp, by omega, ?_, ?_⟩
        · rw [List.take_of_length_le (by omega), List.drop_eq_nil_of_le (by omega)]; exact q4
        · rw [List.drop_eq_nil_of_le (by omega)]; simp
      · rintro k e2 X ⟨fX, g0, g1, g6, g5, g7, hk, mX, hgt⟩
        have done : (∀ (hk0 : 0 < k), ¬ 0 < ordC keys back (o[k - 1]'(by omega)) j) → Made encI 1 H.next X ov2 (isort (ordC keys back) (rangeI (j + 1))) := by
          intro h
          rw [et, insL_at (gt_ord keys back) ho hk hgt h]; exact mX
        cases k with
        | zero =>
          simp (disch := omega) [g0, g1, g5, g6, g7, wrap64]
          exact ⟨i - 1, by omega, fX, j + 1, by omega, by omega, done (by omega)⟩
        | succ k =>
          obtain ⟨n1, n2, n3⟩ := ins_step (x := (j : Int)) (show k < o.length by omega)
          have hL : (o.take (k + 1) ++ (j : Int) :: o.drop (k + 1)).length = o.length + 1 := by simp; omega
          have l1 := mX.sl.ld (i := (k : Int)) (by omega) (by omega)
          have l2 := mX.sl.ld (i := (k : Int) + 1) (by omega) (by omega)
          rw [n1] at l1
          rw [n2] at l2
          have i1 : psem (.ia 1) [ov2, .int .i64 (k : Int)] = some (elt ov2 1 k) := mX.sl.ia (by omega) (by omega)
          have i2 : psem (.ia 1) [ov2, .int .i64 ((k : Int) + 1)] = some (elt ov2 1 ((k : Int) + 1)) := mX.sl.ia (by omega) (by omega)
          have eok : nth o (k : Int) = o[k] := by simp [nth, List.getElem?_eq_getElem (show k < o.length by omega)]
          have hbd := hmem (nth o (k : Int)) (by rw [eok]; exact List.getElem_mem _)
          have hvX := hv.fr hw fX
          have l3 := hvX.ld (i := nth o (k : Int)) (by omega) (by omega)
          have l4 := hvX.ld (i := (j : Int)) (by omega) (by omega)
          have i3 : psem (.ia 1) [v, .int .i64 (nth o (k : Int))] = some (elt v 1 (nth o (k : Int))) := hvX.ia (by omega) (by omega)
          have i4 : psem (.ia 1) [v, .int .i64 (j : Int)] = some (elt v 1 j) := hvX.ia (by omega) (by omega)
          obtain ⟨X1, s1, w1, kx1, m1, nx1⟩ := mX.st fX.wf (i := (k : Int)) (by omega) (by omega) (j : Int)
          obtain ⟨X2, s2, w2, kx2, m2, nx2⟩ := m1.st w1 (i := (k : Int) + 1) (by omega) (by rw [List.length_set]; omega) (nth o (k : Int))
          rw [Int.toNat_natCast, show ((k : Int) + 1).toNat = k + 1 by omega, n3] at m2
          have hdk : o.drop k = o[k] :: o.drop (k + 1) := List.drop_eq_getElem_cons (by omega)
          rw [← eok] at hdk
          have hnext : 0 < ordC keys back (nth o (k : Int)) j → ∀ a ∈ o.drop k, 0 < ordC keys back a j := by
            intro hc
            rw [hdk]
            intro a ha
            rcases List.mem_cons.1 ha with e | ha
            · subst e; exact hc
            · exact hgt a ha
          have hstop : ¬ 0 < ordC keys back (nth o (k : Int)) j → Made encI 1 H.next X ov2 (isort (ordC keys back) (rangeI (j + 1))) := fun h => done fun _ => by rw [eok] at h; exact h
          generalize nth o (k : Int) = y at *
          cases back with
          | false =>
            by_cases hc : nth keys (j : Int) < nth keys y
            · simp (disch := omega) [g0, g1, g5, g6, g7, show (0 : Int) < (k : Int) + 1 by omega, wrap64, i1, i2, i3, i4, l1, l2, l3, l4, s1, s2, hc]
              exact ⟨k, by omega, (fX.step w1 kx1 fun g h => h).step w2 kx2 fun g h => h, rfl, by omega, m2, hnext (by simp [ordC, cmpK, cmpZ_pos, hc])⟩
            · simp (disch := omega) [g0, g1, g5, g6, g7, show (0 : Int) < (k : Int) + 1 by omega, wrap64, i1, i2, i3, i4, l1, l2, l3, l4, s1, s2, hc]
              exact ⟨i - 1, by omega, fX, j + 1, by omega, by omega, hstop (by simp [ordC, cmpK, cmpZ_pos]; omega)⟩
          | true =>
            by_cases hc : nth keys y < nth keys (j : Int)
            · simp (disch := omega) [g0, g1, g5, g6, g7, show (0 : Int) < (k : Int) + 1 by omega, wrap64, i1, i2, i3, i4, l1, l2, l3, l4, s1, s2, hc]
              exact ⟨k, by omega, (fX.step w1 kx1 fun g h => h).step w2 kx2 fun g h => h, rfl, by omega, m2, hnext (by simp [ordC, cmpK, cmpZ_pos, hc])⟩
            · simp (disch := omega) [g0, g1, g5, g6, g7, show (0 : Int) < (k : Int) + 1 by omega, wrap64, i1, i2, i3, i4, l1, l2, l3, l4, s1, s2, hc]
              exact ⟨i - 1, by omega, fX, j + 1, by omega, by omega, hstop (by simp [ordC, cmpK, cmpZ_pos]; omega)⟩
    · intro hlt
      simp at hlt
      have : j = keys.length := by omega
      subst this
      simp [h5]
      exact ⟨fr, mo⟩
end Go.Am
