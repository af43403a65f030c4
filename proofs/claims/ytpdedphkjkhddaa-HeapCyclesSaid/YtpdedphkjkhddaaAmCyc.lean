/- The plain law of Cycles: sets of cells that lead to each other, looked at from below or from the cell on. -/
import Derived.Test.YtpdedphkjkhddaaAmHeapCy
set_option linter.unusedVariables false
set_option linter.unusedSimpArgs false
namespace Go.Am
section
variable (M : Nat → Nat → Bool)
/-- Who is with k, from lo on. -/
def grp (n k lo : Nat) : List Nat := (List.range n).filter fun i => decide (lo ≤ i) && (M k i && M i k)
def cycGo (n : Nat) (lo : Nat → Nat) : Nat → (Nat → Bool) × List (List Nat)
  | 0 => (fun _ => false, [])
  | k + 1 => if (cycGo n lo k).1 k = true ∨ M k k = false then cycGo n lo k else (fun i => (cycGo n lo k).1 i || decide (i ∈ grp M n k (lo k)), (cycGo n lo k).2 ++ [grp M n k (lo k)])
/-- What is done: whoever is with one below. -/
theorem cyc_done (ht : ∀ a b c, M a b = true → M b c = true → M a c = true) {n : Nat} {lo : Nat → Nat} (hlo : ∀ k, lo k = 0 ∨ lo k = k) : ∀ k, k ≤ n → ∀ i, i < n → k ≤ i → ((cycGo M n lo k).1 i = true ↔ ∃ j, j < k ∧ M j i = true ∧ M i j = true)
  | 0, _, i, _, _ => by simp [cycGo]
  | k + 1, hk, i, hi, hki => by
    have ih := cyc_done (n := n) ht hlo k (by omega) i hi (by omega)
    have ihk := cyc_done (n := n) ht hlo k (by omega) k (by omega) (Nat.le_refl _)
    unfold cycGo
    by_cases hc : (cycGo M n lo k).1 k = true ∨ M k k = false
    · rw [if_pos hc, ih]
      constructor
      · rintro ⟨j, h1, h2, h3⟩; exact ⟨j, by omega, h2, h3⟩
      · rintro ⟨j, h1, h2, h3⟩
        by_cases e : j = k
        · subst e
          rcases hc with hc | hc
          · obtain ⟨m, m1, m2, m3⟩ := ihk.1 hc
            exact ⟨m, m1, ht _ _ _ m2 h2, ht _ _ _ h3 m3⟩
          · have := ht _ _ _ h2 h3; rw [hc] at this; cases this
        · exact ⟨j, by omega, h2, h3⟩
    · rw [if_neg hc]
      simp only [Bool.or_eq_true, decide_eq_true_eq, grp, List.mem_filter, List.mem_range, Bool.and_eq_true]
      rw [ih]
      constructor
      · rintro (⟨j, h1, h2, h3⟩ | ⟨_, _, h2, h3⟩)
        · exact ⟨j, by omega, h2, h3⟩
        · exact ⟨k, by omega, h2, h3⟩
      · rintro ⟨j, h1, h2, h3⟩
        by_cases e : j = k
        · subst e
          right
          refine ⟨hi, ?_, h2, h3⟩
          rcases hlo j with q | q <;> omega
        · exact .inl ⟨j, by omega, h2, h3⟩
theorem grp_same (ht : ∀ a b c, M a b = true → M b c = true → M a c = true) {n k : Nat} (hk : k < n) (hd : ¬∃ j, j < k ∧ M j k = true ∧ M k j = true) : grp M n k 0 = grp M n k k := by
  unfold grp
  apply List.filter_congr
  intro i _
  by_cases h : k ≤ i
  · simp [h]
  · cases h1 : M k i with
    | false => simp
    | true =>
      cases h2 : M i k with
      | false => simp
      | true => exact absurd ⟨i, by omega, h2, h1⟩ hd
theorem cyc_same (ht : ∀ a b c, M a b = true → M b c = true → M a c = true) {n : Nat} : ∀ k, k ≤ n → (cycGo M n (fun _ => 0) k).2 = (cycGo M n id k).2
  | 0, _ => rfl
  | k + 1, hk => by
    have ih := cyc_same (n := n) ht k (by omega)
    have d1 := cyc_done M ht (n := n) (lo := fun _ => 0) (fun _ => .inl rfl) k (by omega) k (by omega) (Nat.le_refl _)
    have d2 := cyc_done M ht (n := n) (lo := id) (fun _ => .inr rfl) k (by omega) k (by omega) (Nat.le_refl _)
    have e : (cycGo M n (fun _ => 0) k).1 k = (cycGo M n id k).1 k := by rw [Bool.eq_iff_iff, d1, d2]
    unfold cycGo
    rw [e]
    by_cases hc : (cycGo M n id k).1 k = true ∨ M k k = false
    · rw [if_pos hc, if_pos hc, ih]
    · rw [if_neg hc, if_neg hc]
      simp only [id]
      rw [ih, grp_same M ht (n := n) (by omega) (fun hx => hc (.inl (d2.2 hx)))]
end
end Go.Am
