/- The law HeapPlays: one act on both heaps; all acts. -/
import Derived.Test.YtigpdaofldfkoaaAmHeapQ
import Derived.Test.YtigpdaofldfkoaaAmHeapU
set_option linter.unusedVariables false
set_option linter.unusedSimpArgs false
namespace Go.Am
variable {T : Tab}
theorem settleQ_len : ∀ {m n : Nat} {Q : Rp}, (settleQ m n Q).2.length ≤ m
  | 0, n, Q => by simp [settleQ]
  | m + 1, n, Q => by
    unfold settleQ
    split
    · simp
    · have := settleQ_len (m := m) (n := n) (Q := (dropQ (nextQ n Q).1 (nextQ n Q).2.1).1)
      simpa using this
/-- Settle leaves the ended cells empty. -/
theorem settle_law {A : Int} (hA : A ≤ 2 ^ 40) {n : Nat} : ∀ (m : Nat) {S : Hp} {Q : Rp}, Both A S Q → phi Q < m → phi Q < n → phi Q < 2 ^ 38 → Dry Q → Dry (settleQ m n Q).1
  | 0, S, Q, _, h, _, _, _ => absurd h (by omega)
  | m + 1, S, Q, h, hm, hn, hp, d => by
    obtain ⟨i1, i2, i3, i4, i5, i6⟩ := both_next hA n h hn hp
    have dn := (next_law hA n h hn hp d).1
    unfold settleQ
    by_cases ht : (nextQ n Q).2.2 = true
    · obtain ⟨j1, j2, j3, j4, j5⟩ := i6 ht
      rw [if_neg (by simp [ht])]
      obtain ⟨g, gp⟩ := both_unroot i4 j2 j3 j5
      have hd : dropQ (nextQ n Q).1 (nextQ n Q).2.1 = (noteQ (qset (nextQ n Q).1 (nextQ n Q).2.1 { nth (nextQ n Q).1.cells (nextQ n Q).2.1 with n := (nth (nextQ n Q).1.cells (nextQ n Q).2.1).n - 1 }) (nextQ n Q).2.1, 0) := by
        unfold dropQ
        have : hasR (nextQ n Q).1.hp (nextQ n Q).2.1 true = 0 := by
          unfold hasR
          simp only [Rp.hp_cells]
          rw [if_neg (by omega), if_neg (by rw [j4]; simp)]
        rw [this, if_neg (by simp), if_neg j5]
      have dd := (drop_law dn (nextQ n Q).2.1).1
      obtain ⟨Q2, hQ2⟩ : ∃ Q2, noteQ (qset (nextQ n Q).1 (nextQ n Q).2.1 { nth (nextQ n Q).1.cells (nextQ n Q).2.1 with n := (nth (nextQ n Q).1.cells (nextQ n Q).2.1).n - 1 }) (nextQ n Q).2.1 = Q2 := ⟨_, rfl⟩
      rw [hQ2] at hd g gp
      rw [hd] at dd ⊢
      exact settle_law (n := n) (Q := Q2) hA m g (by omega) (by omega) (by omega) dd
    · rw [if_pos (by simpa using ht)]
      exact dn
end Go.Am
