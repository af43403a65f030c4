/- The law of a text several times. -/
import Derived.Test.YtepgjaknkjkpaaaAmNum6
set_option linter.unusedVariables false
set_option linter.unusedSimpArgs false
namespace Go.Am
variable {T : Tab}

def repeatR (s : List UInt8) (n : Int) : List UInt8 × Int :=
  if 4096 < s.length then ([], 3) else if n < 1 ∨ s = [] then ([], 0) else if Int.tdiv 4096 s.length < n then ([], 3) else (Lib.repeatL s n.toNat, 0)

theorem repeat_snoc (s : List UInt8) : ∀ c, Lib.repeatL s c ++ s = Lib.repeatL s (c + 1)
  | 0 => by simp [Lib.repeatL]
  | c + 1 => by
    show (s ++ Lib.repeatL s c) ++ s = s ++ Lib.repeatL s (c + 1)
    rw [List.append_assoc, repeat_snoc s c]

theorem rep_room {s : List UInt8} {n : Int} (hs : s ≠ []) (h : ¬ Int.tdiv 4096 s.length < n) (h1 : ¬ n < 1) : n ≤ 4096 ∧ (n.toNat * s.length ≤ 4096) := by
  have hl : 0 < (s.length : Int) := by have := List.length_pos_iff.2 hs; omega
  have e : Int.tdiv 4096 (s.length : Int) = 4096 / (s.length : Int) := Int.tdiv_eq_ediv_of_nonneg (by omega)
  rw [e] at h
  have h2 : n * s.length ≤ 4096 := (Int.le_ediv_iff_mul_le hl).1 (by omega)
  have h3 : n ≤ n * s.length := by
    have := Int.mul_le_mul_of_nonneg_left (show (1 : Int) ≤ s.length by omega) (show 0 ≤ n by omega)
    omega
  refine ⟨by omega, ?_⟩
  have e2 : ((n.toNat * s.length : Nat) : Int) = n * s.length := by
    rw [Int.natCast_mul, Int.toNat_of_nonneg (by omega)]
  omega

theorem tdivL {s : List UInt8} (hs : s ≠ []) : IntKind.i64.wrap (Int.tdiv 4096 (s.length : Int)) = Int.tdiv 4096 s.length := by
  have hl : 0 < (s.length : Int) := by have := List.length_pos_iff.2 hs; omega
  have e : Int.tdiv 4096 (s.length : Int) = 4096 / (s.length : Int) := Int.tdiv_eq_ediv_of_nonneg (by omega)
  rw [e]
  have h1 : 0 ≤ (4096 : Int) / s.length := Int.ediv_nonneg (by omega) (by omega)
  have h2 : (4096 : Int) / s.length ≤ 4096 := Int.ediv_le_self _ (by omega)
  exact wrap64 (by omega) (by omega)

theorem c250 (D : D250 T) {H : AHeap} {s : List UInt8} {n : Int} : Calls T 250 [.str s, .int .i64 n] H fun r H' => H' = H ∧ r = .tup [.str (repeatR s n).1, .int .i64 (repeatR s n).2] := by
  refine Calls.fn D.pr D.fn ?_
  by_cases h1 : 4096 < s.length
  · simp [ir250, repeatR, h1, show (4096 : Int) < s.length by omega]
  by_cases h2 : n < 1
  · simp [ir250, repeatR, h1, h2, show ¬ (4096 : Int) < s.length by omega]
  by_cases h3 : s = []
  · subst h3; simp [ir250, repeatR, h2]
  have hz : ¬ ((s.length : Int) = 0) := by have := List.length_pos_iff.2 h3; omega
  by_cases h4 : Int.tdiv 4096 s.length < n
  · simp [ir250, repeatR, h1, h2, h3, h4, hz, tdivL h3, show ¬ (4096 : Int) < s.length by omega]
  obtain ⟨r1, r2⟩ := rep_room h3 h4 h2
  simp [ir250, repeatR, h1, h2, h3, h4, hz, tdivL h3, show ¬ (4096 : Int) < s.length by omega]
  refine WC.of (Calls.prim D.p254 (Q := fun r H' => H' = H ∧ r = .str (Lib.repeatL s n.toNat)) ?_ ⟨rfl, rfl⟩) ?_
  · simp only [repPrim]
    rw [if_pos ⟨by omega, by omega, by rw [Nat.mul_comm]; omega⟩]
  rintro r H ⟨rfl, rfl⟩
  simp

theorem c249 (D : D249 T) {H : AHeap} {s : List UInt8} {n : Int} : Calls T 249 [.str s, .int .i64 n] H fun r H' => H' = H ∧ r = .tup [.str (repeatR s n).1, .int .i64 (repeatR s n).2] := by
  refine Calls.fn D.pr D.fn ?_
  by_cases h1 : 4096 < s.length
  · simp [ir249, repeatR, h1, show (4096 : Int) < s.length by omega]
  by_cases h2 : n < 1
  · simp [ir249, repeatR, h1, h2, show ¬ (4096 : Int) < s.length by omega]
  by_cases h3 : s = []
  · subst h3; simp [ir249, repeatR, h2]
  have hz : ¬ ((s.length : Int) = 0) := by have := List.length_pos_iff.2 h3; omega
  by_cases h4 : Int.tdiv 4096 s.length < n
  · simp [ir249, repeatR, h1, h2, h3, h4, hz, tdivL h3, show ¬ (4096 : Int) < s.length by omega]
  obtain ⟨r1, r2⟩ := rep_room h3 h4 h2
  simp [ir249, repeatR, h1, h2, h3, h4, hz, tdivL h3, show ¬ (4096 : Int) < s.length by omega]
  refine W_loop (fun (i : Nat) e K => K = H ∧ e 0 = .str s ∧ e 1 = .int .i64 n ∧ ∃ j : Nat, i + j = n.toNat ∧ e 7 = .int .i64 j ∧ e 6 = .str (Lib.repeatL s j)) id n.toNat ?_ ?_
  · exact ⟨rfl, by simp, by simp, 0, by simp, by simp, by simp [Lib.repeatL]⟩
  · rintro i e H ⟨rfl, g0, g1, j, hj, g7, g6⟩
    simp [g1, g7]
    refine WB.bool ?_ ?_
    · intro hlt
      simp at hlt
      have hl : (Lib.repeatL s j).length + s.length ≤ 4096 := by
        rw [Lib.repeatL_length]
        have : (j + 1) * s.length ≤ n.toNat * s.length := Nat.mul_le_mul_right _ (by omega)
        rw [Nat.add_mul, Nat.one_mul] at this
        omega
      simp (disch := omega) [g0, g1, g6, g7, wrap64, repeat_snoc, show ¬ (4611686018427387904 < ((Lib.repeatL s j).length : Int) + s.length) by omega]
      exact ⟨i - 1, by omega, j + 1, by omega, by omega, rfl⟩
    · intro hlt
      simp at hlt
      have : j = n.toNat := by omega
      subst this
      simp [g6]

theorem c239 (D : D239 T) {H : AHeap} (hw : WF H) {s : List UInt8} {n : Int} : Calls T 239 [.str s, .int .i64 n] H fun r _ => r = .bool true := by
  refine Calls.fn D.pr D.fn ?_
  simp [ir239]
  refine WC.of (c240 D.d240) ?_
  rintro r H ⟨rfl, rfl⟩
  simp
  refine WB.bool ?_ ?_
  · intro h
    simp
    refine WC.of (c241 D.d241 hw) ?_
    rintro r H' rfl
    simp
  · intro h
    simp
    refine WC.of (c249 D.d249) ?_
    rintro r H ⟨rfl, rfl⟩
    simp
    refine WC.of (c250 D.d250) ?_
    rintro r H ⟨rfl, rfl⟩
    simp
    refine WC.of (c241 D.d241 hw) ?_
    rintro r H' rfl
    simp

theorem law239 (D : D239 T) {K : AHeap} {as : List AV} (hw : WF K) (hg : Goods K [.str, .int .i64] as) : Calls T 239 as K fun v _ => v = .bool true := by
  obtain ⟨a, r, rfl, g1, b, r2, rfl, g2, rfl⟩ := hg
  obtain ⟨s, rfl, _⟩ := g1.str
  obtain ⟨n, rfl, _⟩ := g2.int
  exact c239 D hw
end Go.Am
