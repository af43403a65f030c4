/- Contracts: scalars as the document reads them. -/
import Derived.Test.YtepgjaknkjkpaaaDoorAmReduce
import Derived.Test.YtepgjaknkjkpaaaDoorAmNumsB
set_option linter.unusedVariables false
set_option linter.unusedSimpArgs false
namespace Go.Am
variable {T : Tab}

theorem c186 (D : D186 T) {H : AHeap} (hw : WF H) {x : Scal} : Calls T 186 [encC x] H fun r H' => Fr H H' ∧ r = .int .i64 (validB x) := by
  refine Calls.fn D.pr D.fn ?_
  obtain ⟨kind, n, s, taint⟩ := x
  have f0 : Fr H (H.new [.int .i64 kind, .int .i64 n, .str s, .bool taint]) := hw.fr_new
  have bx : Box (H.new [.int .i64 kind, .int .i64 n, .str s, .bool taint]) H.next H.next _ := Box.new
  have l0 := bx.ldn (i := 0) rfl
  have l1 := bx.ldn (i := 1) rfl
  have l2 := bx.ldn (i := 2) rfl
  obtain ⟨K, hK⟩ : ∃ K, H.new [.int .i64 kind, .int .i64 n, .str s, .bool taint] = K := ⟨_, rfl⟩
  rw [hK] at f0 bx l0 l1 l2
  by_cases h0 : 4096 < s.length
  · simp [ir186, AV.cells, AV.cell, hK, l2, validB, h0, show (4096 : Int) < s.length by omega, f0]
  simp [ir186, AV.cells, AV.cell, hK, l0, l2, show ¬ (4096 : Int) < s.length by omega]
  by_cases k0 : kind = 0
  · subst k0
    by_cases hn : n = 0 <;> by_cases hs : s = [] <;> simp [l1, l2, hn, hs, validB, h0, f0]
  · by_cases k1 : kind = 1
    · subst k1
      simp [l1]
      refine WC.of (c165 D.d165) ?_
      rintro r K2 ⟨rfl, rfl⟩
      by_cases hn : inN n <;> by_cases hs : s = [] <;> simp [l1, l2, hn, hs, validB, h0, f0]
    · by_cases k2 : kind = 2
      · subst k2
        by_cases hn : n = 0 <;> simp [l1, hn, validB, h0, f0]
      · simp [k0, k1, k2, validB, h0, f0]

theorem numD_sat : ∀ l : List UInt8, (∀ c ∈ l, digitB c = true) → l.foldl (fun (n : Int) c => min (10 * n + c.toNat - 48) 9007199254740992) 9007199254740992 = 9007199254740992
  | [], _ => rfl
  | c :: l, h => by
    have := digit_bounds (h c (by simp))
    rw [List.foldl_cons, show min (10 * (9007199254740992 : Int) + c.toNat - 48) 9007199254740992 = 9007199254740992 by omega]
    exact numD_sat l fun d hd => h d (by simp [hd])
theorem numD_full {u : List UInt8} (h : ∀ c ∈ u, digitB c = true) {j : Nat} (hj : numD (u.take j) = 9007199254740992) : numD u = 9007199254740992 := by
  have : numD u = (u.drop j).foldl (fun (n : Int) c => min (10 * n + c.toNat - 48) 9007199254740992) (numD (u.take j)) := by
    conv => lhs; rw [← List.take_append_drop j u]
    rw [numD, List.foldl_append]; rfl
  rw [this, hj]
  exact numD_sat _ fun c hc => h c (List.mem_of_mem_drop hc)

theorem nth_digs {s : List UInt8} {i j : Nat} (hb : s.drop i = bodyB s) (hj : j < (digsB s).length) : nth s ((i + j : Nat) : Int) = nth (digsB s) (j : Int) := by
  have h2 : bodyB s = digsB s ++ restB s := (List.takeWhile_append_dropWhile (p := digitB) (l := bodyB s)).symm
  have h3 : (s.drop i)[j]? = (digsB s)[j]? := by rw [hb, h2, List.getElem?_append_left hj]
  rw [List.getElem?_drop] at h3
  simp only [nth, List.getD, Int.toNat_natCast, h3]

theorem c187 (D : D187 T) {H : AHeap} {s : List UInt8} (hs : s.length < 2 ^ 62) : Calls T 187 [.str s] H fun r H' => H' = H ∧ r = .int .i64 (ofB s) := by
  refine Calls.fn D.pr D.fn ?_
  simp [ir187]
  refine WC.of (c208 D.d208 hs) ?_
  rintro r H ⟨rfl, i, k, rfl, ho⟩
  have hdg := digs_digit (s := s)
  have hkd := ho.dig
  have hle := ho.le
  have hbl : (digsB s).length + i ≤ s.length := by
    have h1 : (digsB s).length ≤ (bodyB s).length := (List.takeWhile_sublist _).length_le
    have h2 : (bodyB s).length = s.length - i := by rw [← ho.body]; simp
    omega
  have hnd := fun j (hj : j < (digsB s).length) => nth_digs (j := j) ho.body hj
  have hneg := ho.neg
  have e2 : ofB s = if negB s = true then -(numD (digsB s)) else numD (digsB s) := rfl
  rw [e2]
  generalize digsB s = u at *
  simp
  refine W_loop (fun (m : Nat) e K => K = H ∧ e 0 = .str s ∧ e 3 = .int .i64 i ∧ e 4 = .int .i64 k ∧ ∃ j : Nat, m + j = u.length ∧ e 6 = .int .i64 ((i + j : Nat) : Int) ∧ ∃ n, e 5 = .int .i64 n ∧ 0 ≤ n ∧ n ≤ 90071992547409929 ∧ min n 9007199254740992 = numD (u.take j)) id u.length ?_ ?_
  · exact ⟨rfl, by simp, by simp, by simp, 0, by simp, by simp, 0, by simp, by omega, by omega, by simp only [List.take_zero, numD, List.foldl_nil]; omega⟩
  · rintro m e H ⟨rfl, g0, g3, g4, j, hj, g6, n, g5, n0, n1, hn⟩
    have fin : min n 9007199254740992 = numD u → True := fun _ => trivial
    by_cases hlt : j < u.length ∧ n ≤ 9007199254740992
    · obtain ⟨hlt, hnM⟩ := hlt
      have hc := hnd j hlt
      obtain ⟨b1, b2⟩ := digit_bounds (hdg _ (nth_mem hlt))
      have et : numD (u.take (j + 1)) = min (10 * numD (u.take j) + (nth u (j : Int)).toNat - 48) 9007199254740992 := by rw [take_nth hlt]; exact numD_snoc _ _
      obtain ⟨c, hcc⟩ : ∃ c, nth u (j : Int) = c := ⟨_, rfl⟩
      rw [hcc] at hc b1 b2 et
      rw [← hn] at et
      obtain ⟨p, hp⟩ : ∃ p : Nat, i + j = p := ⟨_, rfl⟩
      rw [hp] at hc g6
      simp (disch := omega) [g0, g3, g4, g5, g6, hnM, show (p : Int) < k by omega, show (p : Int) < s.length by omega, hc, wrap8, wrap64]
      exact ⟨m - 1, by omega, j + 1, by omega, by omega, by omega, by omega, by rw [et]; omega⟩
    · have hfull : min n 9007199254740992 = numD u := by
        by_cases h1 : j < u.length
        · have h2 : 9007199254740992 < n := by
            apply Decidable.byContradiction; intro h; exact hlt ⟨h1, by omega⟩
          rw [numD_full hdg (j := j) (by omega)]; omega
        · rw [hn, List.take_of_length_le (by omega)]
      have hx : (((i + j : Nat) : Int) < k ∧ ¬ n ≤ 9007199254740992) ∨ ¬ ((i + j : Nat) : Int) < k := by
        by_cases h1 : ((i + j : Nat) : Int) < k
        · exact .inl ⟨h1, fun h2 => hlt ⟨by omega, h2⟩⟩
        · exact .inr h1
      generalize ((i + j : Nat) : Int) = q at *
      rw [← hfull]
      have wn := wrap64 (n := -(min n 9007199254740992)) (by omega) (by omega)
      by_cases hi0 : i = 0
      · have hneg2 : negB s = false := by
          cases hb : negB s with
          | false => rfl
          | true => have := (hneg.2 hb).1; omega
        subst hi0
        rcases hx with ⟨x1, x2⟩ | x1
        · simp [g0, g3, g4, g5, g6, x1, x2, hneg2]
        · simp [g0, g3, g4, g5, g6, x1, hneg2]
      · have hip : 0 < i := by omega
        have hip1 : (1 : Int) ≤ i := by omega
        have hip2 : 1 ≤ i := by omega
        have hib : (i : Int) - 1 < s.length := by omega
        have hin : (0 : Int) ≤ (i : Int) - 1 := by omega
        have wi := wrap64 (n := (i : Int) - 1) (by omega) (by omega)
        by_cases h45 : nth s ((i : Int) - 1) = 45
        · have hneg2 : negB s = true := hneg.1 ⟨by omega, h45⟩
          rcases hx with ⟨x1, x2⟩ | x1
          · simp [g0, g3, g4, g5, g6, x1, x2, hip, hip1, hip2, hib, hin, wi, h45, wn, hneg2]
          · simp [g0, g3, g4, g5, g6, x1, hip, hip1, hip2, hib, hin, wi, h45, wn, hneg2]
        · have hneg2 : negB s = false := by
            cases hb : negB s with
            | false => rfl
            | true => exact absurd (hneg.2 hb).2 h45
          have k45 : ¬ ((nth s ((i : Int) - 1)).toNat : Int) = 45 := fun h => h45 (u8k.2.1 h)
          rcases hx with ⟨x1, x2⟩ | x1
          · simp [g0, g3, g4, g5, g6, x1, x2, hip, hip1, hip2, hib, hin, wi, k45, hneg2]
          · simp [g0, g3, g4, g5, g6, x1, hip, hip1, hip2, hib, hin, wi, k45, hneg2]

theorem ld_part {H : AHeap} {b o n k : Nat} {cs : List AV} {x : AV} (h : H.ld b o n = some cs) (hx : cs[k]? = some x) : rsem (.ld 1 false) [.ptr (some (b, o + k))] H = some x := by
  unfold AHeap.ld at h
  cases hr : H.row b with
  | none => simp [hr] at h
  | some p =>
    obtain ⟨f, ds⟩ := p
    simp only [hr] at h
    split at h
    · rename_i hl
      simp only [Option.some.injEq] at h
      subst h
      have hk : k < n := by
        have := (List.getElem?_eq_some_iff.1 hx).1
        simp at this
        omega
      rw [List.getElem?_take, if_pos hk, List.getElem?_drop] at hx
      simp only [rsem, AHeap.ld, hr]
      rw [if_pos (by omega)]
      simp only [Bool.false_eq_true, if_false]
      rw [List.getElem?_take, if_pos (by omega), List.getElem?_drop]
      simpa using hx
    · cases h

def numV (x : Scal) : Int := if x.kind = 2 then ofB x.s else x.n

theorem c169 (D : D169 T) {H : AHeap} (hw : WF H) {x : Scal} (hs : x.s.length < 2 ^ 62) : Calls T 169 [encC x] H fun r H' => Fr H H' ∧ r = .int .i64 (numV x) := by
  refine Calls.fn D.pr D.fn ?_
  have f0 : Fr H (H.new (encC x).cells) := hw.fr_new
  have bx : Box (H.new (encC x).cells) H.next H.next _ := Box.new
  simp only [AV.cells] at f0 bx
  have l0 := bx.ldn (i := 0) rfl
  have l1 := bx.ldn (i := 1) rfl
  have l2 := bx.ldn (i := 2) rfl
  simp [ir169, AV.cells, AV.cell, l0]
  by_cases hk : x.kind = 2
  · simp [hk, l2]
    rw [hk] at l2
    simp [l2]
    refine WC.of (c187 D.d187 hs) ?_
    rintro r K ⟨rfl, rfl⟩
    simp [numV, hk]
    rw [hk] at f0
    exact f0
  · simp [hk, l1, numV, f0]

def errL : List Scal → Int
  | [] => 0
  | x :: l => if validB x ≠ 0 then validB x else errL l

theorem c168 (D : D168 T) {H : AHeap} (hw : WF H) {v : AV} {l : List Scal} (hv : Sl encC 4 H v l) : Calls T 168 [v] H fun r H' => Fr H H' ∧ r = .int .i64 (if 200 < l.length then 3 else errL l) := by
  refine Calls.fn D.pr D.fn ?_
  by_cases h1 : 200 < l.length
  · simp [ir168, hv.len, h1, show (200 : Int) < l.length by omega]
    exact .refl hw
  simp [ir168, hv.len, h1, show ¬ (200 : Int) < l.length by omega]
  refine W_loop (fun (i : Nat) e K => Fr H K ∧ e 0 = v ∧ ∃ j : Nat, i + j = l.length ∧ e 3 = .int .i64 j ∧ errL l = errL (l.drop j)) id l.length ?_ ?_
  · exact ⟨.refl hw, by simp, 0, by simp, by simp, by simp⟩
  · rintro i e K ⟨fr, g0, j, hj, g3, he⟩
    have hv' := hv.fr hw fr
    simp [g0, g3, hv'.len]
    refine WB.bool ?_ ?_
    · intro hlt
      simp at hlt
      have lv := hv'.ldA (i := (j : Int)) (by omega) (by omega) rfl
      rw [drop_nthG hlt, errL] at he
      generalize nth l (j : Int) = x at *
      simp (disch := omega) [g0, g3, hv'.ia, lv]
      refine WC.of (c186 D.d186 fr.wf (x := x)) ?_
      rintro r K2 ⟨f2, rfl⟩
      simp
      by_cases hz : validB x = 0
      · rw [if_neg (by simp [hz])] at he
        simp (disch := omega) [hz, g0, g3, wrap64]
        exact ⟨i - 1, by omega, fr.trans f2, j + 1, by omega, by omega, he⟩
      · rw [if_pos hz] at he
        simp [hz, he]
        exact fr.trans f2
    · intro hlt
      simp at hlt
      rw [List.drop_eq_nil_of_le (by omega), errL] at he
      simp [he]
      exact fr

theorem c145 (D : D145 T) {H : AHeap} {v : AV} {l : List Scal} (hv : Sl encC 4 H v l) (hl : l.length < 2 ^ 63) : Calls T 145 [v] H fun r H' => H' = H ∧ ∃ b, r = .bool b := by
  refine Calls.fn D.pr D.fn ?_
  simp [ir145, hv.len]
  refine W_loop (fun (i : Nat) e H' => H' = H ∧ e 0 = v ∧ (∃ n, e 3 = .int .i64 n) ∧ ∃ j : Nat, i + j = l.length ∧ e 4 = .int .i64 j) id l.length ?_ ?_
  · simp
  · rintro i e H ⟨rfl, h0, ⟨n, h3⟩, j, hj, h4⟩
    simp [h0, h3, h4, hv.len]
    refine WB.bool ?_ ?_
    · intro h2
      simp at h2
      have hia : psem (.ia 4) [v, .int .i64 (j : Int)] = some (elt v 4 j) := hv.ia (by omega) (by omega)
      obtain ⟨b, o, q1, q2⟩ := hv.ldc (i := (j : Int)) (by omega) (by omega)
      have lf := ld_part q2 (k := 2) rfl
      simp (disch := omega) [h0, h3, h4, hia, q1, lf, wrap64]
      exact ⟨i - 1, by omega, j + 1, by omega, by omega⟩
    · intro h2
      simp [h3]
      omega
end Go.Am
