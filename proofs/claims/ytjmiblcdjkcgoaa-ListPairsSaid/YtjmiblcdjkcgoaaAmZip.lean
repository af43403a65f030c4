/- Contracts: lists laid into each other. -/
import Derived.Test.YtjmiblcdjkcgoaaAmPairs2
set_option linter.unusedVariables false
set_option linter.unusedSimpArgs false
namespace Go.Am
variable {T : Tab}

def maxL (ls : List (List (List UInt8))) : Int := ls.foldl (fun (m : Int) l => max m l.length) 0
def atZ (k : Nat) (l : List (List UInt8)) : List UInt8 := if k < l.length then nth l (k : Int) else []
def rowZ (ls : List (List (List UInt8))) (k : Nat) : List (List UInt8) := ls.map (atZ k)
def zipN (ls : List (List (List UInt8))) : Nat → List (List UInt8)
  | 0 => []
  | k + 1 => zipN ls k ++ rowZ ls k
def zipR (ls : List (List (List UInt8))) : List (List UInt8) × Int :=
  if manyB ls then ([], 3) else if 200 < maxL ls * ls.length then ([], 3) else (zipN ls (maxL ls).toNat, 0)

theorem maxL_snoc (ls : List (List (List UInt8))) (l : List (List UInt8)) : maxL (ls ++ [l]) = max (maxL ls) l.length := by simp [maxL, List.foldl_append]
theorem maxL_fold : ∀ (ls : List (List (List UInt8))) (m : Int), 0 ≤ m → m ≤ 200 → (∀ l ∈ ls, l.length ≤ 200) → 0 ≤ ls.foldl (fun (m : Int) l => max m l.length) m ∧ ls.foldl (fun (m : Int) l => max m l.length) m ≤ 200
  | [], m, h0, h1, _ => ⟨h0, h1⟩
  | l :: ls, m, h0, h1, h => maxL_fold ls (max m l.length) (by omega) (by have := h l (by simp); omega) fun x hx => h x (by simp [hx])
theorem many_false {ls : List (List (List UInt8))} (h : manyB ls = false) : ls.length ≤ 200 ∧ ∀ l ∈ ls, l.length ≤ 200 := by
  unfold manyB at h
  simp only [Bool.or_eq_false_iff, decide_eq_false_iff_not, List.any_eq_false] at h
  exact ⟨by omega, fun l hl => by have := h.2 l hl; simp at this; omega⟩
theorem maxL_rng {ls : List (List (List UInt8))} (h : ∀ l ∈ ls, l.length ≤ 200) : 0 ≤ maxL ls ∧ maxL ls ≤ 200 := maxL_fold ls 0 (by omega) (by omega) h
theorem rowZ_len (ls : List (List (List UInt8))) (k : Nat) : (rowZ ls k).length = ls.length := by simp [rowZ]
theorem zipN_len (ls : List (List (List UInt8))) : ∀ k, (zipN ls k).length = k * ls.length
  | 0 => by simp [zipN]
  | k + 1 => by simp [zipN, zipN_len ls k, rowZ_len, Nat.add_mul]
theorem rowZ_take {ls : List (List (List UInt8))} {k i : Nat} (h : i < ls.length) : (rowZ ls k).take (i + 1) = (rowZ ls k).take i ++ [atZ k (nth ls (i : Int))] := by
  unfold rowZ
  rw [← List.map_take, take_nth h, List.map_append, List.map_take]; rfl
theorem zip_small {ls : List (List (List UInt8))} (h : ¬ 200 < maxL ls * ls.length) (h2 : ∀ l ∈ ls, l.length ≤ 200) {k : Nat} (hk : (k : Int) ≤ maxL ls) : k * ls.length ≤ 200 := by
  have h3 := (maxL_rng h2).1
  have : (k : Int) * ls.length ≤ maxL ls * ls.length := Int.mul_le_mul_of_nonneg_right hk (by omega)
  have h4 : ((k * ls.length : Nat) : Int) ≤ 200 := by rw [Int.natCast_mul]; omega
  omega
theorem zipR_len (ls : List (List (List UInt8))) : (zipR ls).1.length ≤ 200 := by
  unfold zipR
  cases hm : manyB ls with
  | true => simp
  | false =>
    obtain ⟨_, h2⟩ := many_false hm
    simp only [Bool.false_eq_true, if_false]
    split
    · simp
    · rename_i h
      have := maxL_rng h2
      rw [zipN_len]
      exact zip_small h h2 (by omega)

theorem c139 (D : D139 T) {H : AHeap} (hw : WF H) {v : AV} {ls : List (List (List UInt8))} (hv : Sls H v ls) : Calls T 139 [v] H fun r H' => Fr H H' ∧ ∃ a, r = .tup [a, .int .i64 (zipR ls).2] ∧ Made encS 1 H.next H' a (zipR ls).1 := by
  refine Calls.fn D.pr D.fn ?_
  simp [ir139]
  refine WC.of (c163 D.d163 hv) ?_
  rintro r H ⟨rfl, rfl⟩
  cases hm : manyB ls with
  | true =>
    have eR : zipR ls = ([], 3) := by unfold zipR; rw [if_pos hm]
    rw [eR]
    simp
    exact ⟨.refl hw, .nil⟩
  | false =>
  obtain ⟨hl, hla⟩ := many_false hm
  have hmx := maxL_rng hla
  have eR : zipR ls = if 200 < maxL ls * ls.length then ([], 3) else (zipN ls (maxL ls).toNat, 0) := by unfold zipR; rw [if_neg (by simp [hm])]
  rw [eR]
  simp
  refine W_loop (fun (i : Nat) e K => K = H ∧ e 0 = v ∧ ∃ j : Nat, i + j = ls.length ∧ e 5 = .int .i64 j ∧ e 4 = .int .i64 (maxL (ls.take j))) id ls.length ?_ ?_
  · exact ⟨rfl, by simp, 0, by simp, by simp, by simp [maxL]⟩
  · rintro i e H ⟨rfl, h0, j, hj, h5, h4⟩
    by_cases h2 : j < ls.length
    · obtain ⟨u, l1, su⟩ := hv.get h2
      have et : maxL (ls.take (j + 1)) = max (maxL (ls.take j)) (nth ls (j : Int)).length := by rw [take_nth h2, maxL_snoc]
      generalize maxL (ls.take j) = m at *
      simp (disch := omega) [h0, h4, h5, hv.len, h2, hv.ia, l1, su.len, wrap64]
      exact ⟨i - 1, by omega, j + 1, by omega, by omega, by rw [et]⟩
    · rw [List.take_of_length_le (by omega)] at h4
      have hp : maxL ls * ls.length ≤ 200 * 200 := Int.mul_le_mul hmx.2 (by omega) (by omega) (by omega)
      have hp0 : 0 ≤ maxL ls * ls.length := Int.mul_nonneg hmx.1 (by omega)
      have hzs := fun {k : Nat} (h : ¬ 200 < maxL ls * ls.length) (hk : (k : Int) ≤ maxL ls) => zip_small h hla hk
      obtain ⟨P, hP⟩ : ∃ P, maxL ls * ls.length = P := ⟨_, rfl⟩
      obtain ⟨M, hM⟩ : ∃ M, maxL ls = M := ⟨_, rfl⟩
      rw [hM] at h4 hmx
      rw [hM] at hP
      rw [hM, hP] at hp hp0
      rw [hM, hP]
      simp only [hM, hP] at hzs
      by_cases hbig : 200 < P
      · rw [if_pos hbig]
        simp (disch := omega) [h0, h4, h5, hv.len, h2, hP, wrap64, hbig]
        exact ⟨.refl hw, .nil⟩
      rw [if_neg hbig]
      simp (disch := omega) [h0, h4, h5, hv.len, h2, hP, wrap64, hbig]
      refine W_loop (fun (i : Nat) e K => Fr H K ∧ e 0 = v ∧ e 4 = .int .i64 M ∧ ∃ k : Nat, i + k = M.toNat ∧ e 7 = .int .i64 k ∧ ∃ ov, e 6 = ov ∧ Made encS 1 H.next K ov (zipN ls k)) id M.toNat ?_ ?_
      · exact ⟨.refl hw, by simp [h0], by simp [h4], 0, by simp, by simp, .slc none 0 0 none, by simp, .nil⟩
      · rintro i e K ⟨fr, g0, g4, k, hk, g7, ov, g6, mo⟩
        by_cases hkM : (k : Int) < M
        · simp [g0, g4, g7, hkM]
          refine W_loop (fun (q : Nat) e K => Fr H K ∧ e 0 = v ∧ e 4 = .int .i64 M ∧ e 7 = .int .i64 k ∧ ∃ j : Nat, q + j = ls.length ∧ e 8 = .int .i64 j ∧ ∃ ov, e 6 = ov ∧ Made encS 1 H.next K ov (zipN ls k ++ (rowZ ls k).take j)) id ls.length ?_ ?_
          · exact ⟨fr, by simp [g0], by simp [g4], by simp [g7], 0, by simp, by simp, ov, by simp [g6], by simpa using mo⟩
          · rintro q e K ⟨fr, g0, g4, g7, j, hj, g8, ov, g6, mo⟩
            have hv' := hv.fr hw fr
            by_cases hjl : j < ls.length
            · obtain ⟨u, l1, su⟩ := hv'.get hjl
              have et := rowZ_take (k := k) hjl
              have hz1 := hzs (k := k + 1) hbig (by omega)
              have hlen : (zipN ls k ++ (rowZ ls k).take j).length ≤ 200 := by
                rw [List.length_append, zipN_len, List.length_take, rowZ_len]
                rw [Nat.add_mul] at hz1; omega
              have hpush := fun x => push1_made (bytes := 16) fr mo x (by omega) (by omega)
              unfold atZ at et
              generalize nth ls (j : Int) = m at *
              by_cases hkm : k < m.length
              · rw [if_pos hkm] at et
                have lv := su.ld (i := (k : Int)) (by omega) (by omega)
                obtain ⟨v', K', q1, q2, q3⟩ := hpush (nth m (k : Int))
                rw [List.append_assoc, ← et] at q3
                have hb : wsem0 (.bsl 1 1 [.str []] [(0, 1)]) [.str (nth m (k : Int))] K = some (.slc (some (K.next, 0)) 1 1 (some 1), K.new [.str (nth m (k : Int))]) := wsem0_bsl1 rfl
                simp (disch := omega) [g0, g4, g6, g7, g8, hv'.len, hjl, hv'.ia, l1, su.len, hkm, su.ia, lv, hb, q1, wrap64]
                exact ⟨q - 1, by omega, q2, j + 1, by omega, by omega, q3⟩
              · rw [if_neg hkm] at et
                obtain ⟨v', K', q1, q2, q3⟩ := hpush []
                rw [List.append_assoc, ← et] at q3
                have hb : wsem0 (.bsl 1 1 [.str []] [(0, 1)]) [.str []] K = some (.slc (some (K.next, 0)) 1 1 (some 1), K.new [.str []]) := wsem0_bsl1 rfl
                simp (disch := omega) [g0, g4, g6, g7, g8, hv'.len, hjl, hv'.ia, l1, su.len, hkm, hb, q1, wrap64]
                exact ⟨q - 1, by omega, q2, j + 1, by omega, by omega, q3⟩
            · rw [List.take_of_length_le (by rw [rowZ_len]; omega)] at mo
              simp (disch := omega) [g0, g4, g6, g7, g8, hv'.len, hjl, wrap64]
              exact ⟨i - 1, by omega, fr, k + 1, by omega, by omega, mo⟩
        · have : M.toNat = k := by omega
          rw [this]
          simp [g0, g4, g6, g7, hkM]
          exact ⟨fr, mo⟩

theorem c141 (D : D141 T) {H : AHeap} (hw : WF H) {v : AV} {ls : List (List (List UInt8))} (hv : Sls H v ls) : Calls T 141 [v] H fun r H' => Fr H H' ∧ ∃ a, r = .tup [a, .int .i64 (zipR ls).2] ∧ Made encS 1 H.next H' a (zipR ls).1 := by
  refine Calls.fn D.pr D.fn ?_
  simp [ir141]
  refine WC.of (c164 D.d164 hv) ?_
  rintro r H ⟨rfl, rfl⟩
  cases hm : manyB ls with
  | true =>
    have eR : zipR ls = ([], 3) := by unfold zipR; rw [if_pos hm]
    rw [eR]
    simp
    exact ⟨.refl hw, .nil⟩
  | false =>
  obtain ⟨hl, hla⟩ := many_false hm
  have hmx := maxL_rng hla
  have eR : zipR ls = if 200 < maxL ls * ls.length then ([], 3) else (zipN ls (maxL ls).toNat, 0) := by unfold zipR; rw [if_neg (by simp [hm])]
  rw [eR]
  simp [hv.len]
  refine W_loop (fun (i : Nat) e K => K = H ∧ e 0 = v ∧ e 18 = v ∧ e 19 = .int .i64 ls.length ∧ ∃ j : Nat, i + j = ls.length ∧ e 20 = .int .i64 j ∧ e 5 = .int .i64 (maxL (ls.take j))) id ls.length ?_ ?_
  · exact ⟨rfl, by simp, by simp, by simp, 0, by simp, by simp, by simp [maxL]⟩
  · rintro i e H ⟨rfl, h0, h18, h19, j, hj, h5, h4⟩
    by_cases h2 : j < ls.length
    · obtain ⟨u, l1, su⟩ := hv.get h2
      have et : maxL (ls.take (j + 1)) = max (maxL (ls.take j)) (nth ls (j : Int)).length := by rw [take_nth h2, maxL_snoc]
      generalize maxL (ls.take j) = m at *
      simp (disch := omega) [h0, h4, h5, h18, h19, hv.len, h2, hv.ia, l1, su.len, wrap64]
      exact ⟨i - 1, by omega, j + 1, by omega, by omega, by rw [et]⟩
    · rw [List.take_of_length_le (by omega)] at h4
      have hp : maxL ls * ls.length ≤ 200 * 200 := Int.mul_le_mul hmx.2 (by omega) (by omega) (by omega)
      have hp0 : 0 ≤ maxL ls * ls.length := Int.mul_nonneg hmx.1 (by omega)
      have hzs := fun {k : Nat} (h : ¬ 200 < maxL ls * ls.length) (hk : (k : Int) ≤ maxL ls) => zip_small h hla hk
      obtain ⟨P, hP⟩ : ∃ P, maxL ls * ls.length = P := ⟨_, rfl⟩
      obtain ⟨M, hM⟩ : ∃ M, maxL ls = M := ⟨_, rfl⟩
      rw [hM] at h4 hmx
      rw [hM] at hP
      rw [hM, hP] at hp hp0
      rw [hM, hP]
      simp only [hM, hP] at hzs
      by_cases hbig : 200 < P
      · rw [if_pos hbig]
        simp (disch := omega) [h0, h4, h5, h18, h19, hv.len, h2, hP, wrap64, hbig]
        exact ⟨.refl hw, .nil⟩
      rw [if_neg hbig]
      simp (disch := omega) [h0, h4, h5, h18, h19, hv.len, h2, hP, wrap64, hbig]
      refine W_loop (fun (i : Nat) e K => Fr H K ∧ e 0 = v ∧ e 34 = .int .i64 M ∧ ∃ k : Nat, i + k = M.toNat ∧ e 35 = .int .i64 k ∧ ∃ ov, e 8 = ov ∧ Made encS 1 H.next K ov (zipN ls k)) id M.toNat ?_ ?_
      · exact ⟨.refl hw, by simp [h0], by simp [h4], 0, by simp, by simp, .slc none 0 0 none, by simp, .nil⟩
      · rintro i e K ⟨fr, g0, g4, k, hk, g7, ov, g6, mo⟩
        have hvK := hv.fr hw fr
        by_cases hkM : (k : Int) < M
        · simp [g0, g4, g7, hkM, hvK.len]
          refine W_loop (fun (q : Nat) e K => Fr H K ∧ e 0 = v ∧ e 34 = .int .i64 M ∧ e 35 = .int .i64 k ∧ e 9 = .int .i64 k ∧ e 38 = v ∧ e 39 = .int .i64 ls.length ∧ ∃ j : Nat, q + j = ls.length ∧ e 40 = .int .i64 j ∧ ∃ ov, e 8 = ov ∧ Made encS 1 H.next K ov (zipN ls k ++ (rowZ ls k).take j)) id ls.length ?_ ?_
          · exact ⟨fr, by simp [g0], by simp [g4], by simp [g7], by simp, by simp, by simp, 0, by simp, by simp, ov, by simp [g6], by simpa using mo⟩
          · rintro q e K ⟨fr, g0, g4, g7, g9, g38, g39, j, hj, g8, ov, g6, mo⟩
            have hv' := hv.fr hw fr
            by_cases hjl : j < ls.length
            · obtain ⟨u, l1, su⟩ := hv'.get hjl
              have et := rowZ_take (k := k) hjl
              have hz1 := hzs (k := k + 1) hbig (by omega)
              have hlen : (zipN ls k ++ (rowZ ls k).take j).length ≤ 200 := by
                rw [List.length_append, zipN_len, List.length_take, rowZ_len]
                rw [Nat.add_mul] at hz1; omega
              have hpush := fun x => push1_made (bytes := 16) fr mo x (by omega) (by omega)
              unfold atZ at et
              generalize nth ls (j : Int) = m at *
              by_cases hkm : k < m.length
              · rw [if_pos hkm] at et
                have lv := su.ld (i := (k : Int)) (by omega) (by omega)
                obtain ⟨v', K', q1, q2, q3⟩ := hpush (nth m (k : Int))
                rw [List.append_assoc, ← et] at q3
                have hb : wsem0 (.bsl 1 1 [.str []] [(0, 1)]) [.str (nth m (k : Int))] K = some (.slc (some (K.next, 0)) 1 1 (some 1), K.new [.str (nth m (k : Int))]) := wsem0_bsl1 rfl
                simp (disch := omega) [g0, g4, g6, g7, g8, g9, g38, g39, hv'.len, hjl, hv'.ia, l1, su.len, hkm, su.ia, lv, hb, q1, wrap64]
                exact ⟨q - 1, by omega, q2, j + 1, by omega, by omega, q3⟩
              · rw [if_neg hkm] at et
                obtain ⟨v', K', q1, q2, q3⟩ := hpush []
                rw [List.append_assoc, ← et] at q3
                have hb : wsem0 (.bsl 1 1 [.str []] [(0, 1)]) [.str []] K = some (.slc (some (K.next, 0)) 1 1 (some 1), K.new [.str []]) := wsem0_bsl1 rfl
                simp (disch := omega) [g0, g4, g6, g7, g8, g9, g38, g39, hv'.len, hjl, hv'.ia, l1, su.len, hkm, hb, q1, wrap64]
                exact ⟨q - 1, by omega, q2, j + 1, by omega, by omega, q3⟩
            · rw [List.take_of_length_le (by rw [rowZ_len]; omega)] at mo
              simp (disch := omega) [g0, g4, g6, g7, g8, g38, g39, hv'.len, hjl, wrap64]
              exact ⟨i - 1, by omega, fr, k + 1, by omega, by omega, mo⟩
        · have : M.toNat = k := by omega
          rw [this]
          simp [g0, g4, g6, g7, hkM]
          exact ⟨fr, mo⟩
end Go.Am
