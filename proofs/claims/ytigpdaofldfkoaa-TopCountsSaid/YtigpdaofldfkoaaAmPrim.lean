/- What the small machine is told of functions without a body is what the model's own entries do. -/
import Derived.Test.YtigpdaofldfkoaaAmTops
import Derived.Test.YtigpdaofldfkoaaAmPrimD
set_option linter.unusedVariables false
set_option linter.unusedSimpArgs false
namespace Go.Am
open Go.RowKit
variable {P : Program} {G : Nat → Nat}
theorem gOf_at {gl : List Nat} {g i : Nat} (hg : g < 1000000) (h : ((List.range gl.length).all fun f => decide (gl.getD f 0 ≠ g ∨ f = i)) = true) {f : Nat} (hf : gOf gl f = g) : f = i := by
  unfold gOf at hf
  by_cases hl : f < gl.length
  · have h1 := List.all_eq_true.1 h f (List.mem_range.2 hl)
    have e : gl.getD f 0 = gl.getD f (1000000 + f) := by simp [List.getD, List.getElem?_eq_getElem hl]
    rw [e] at h1
    have h1 := of_decide_eq_true h1
    rcases h1 with h1 | h1
    · exact absurd hf h1
    · exact h1
  · have e : gl.getD f (1000000 + f) = 1000000 + f := by simp [List.getD, List.getElem?_eq_none (Nat.le_of_not_lt hl)]
    omega
end Go.Am
