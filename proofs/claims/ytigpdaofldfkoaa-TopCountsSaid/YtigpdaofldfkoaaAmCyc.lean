/- The plain law of Cycles: sets of cells that lead to each other, looked at from below or from the cell on. -/
import Derived.Test.YtigpdaofldfkoaaAmHeapCy
set_option linter.unusedVariables false
set_option linter.unusedSimpArgs false
namespace Go.Am
section
variable (M : Nat → Nat → Bool)
/-- Who is with k, from lo on. -/
def grp (n k lo : Nat) : List Nat := (List.range n).filter fun i => decide (lo ≤ i) && (M k i && M i k)
def cycGo (n : Nat) (lo : Nat → Nat) : Nat → (Nat → Bool) × List (List Nat)
  | 0 => (fun _ => false, [])
  | k + 1 => if (cycGo n lo k).1 k = true ∨ M k k = false then cycGo n lo k else (fun i => (cycGo n lo k).1 i || decide (i ∈ grp M n k (lo k)), (cycGo n lo k).2 ++ [grp M n k (lo k)])
end
end Go.Am
