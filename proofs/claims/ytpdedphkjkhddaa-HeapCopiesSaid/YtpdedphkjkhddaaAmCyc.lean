/- The plain law of Cycles: sets of cells that lead to each other, looked at from below or from the cell on. -/
import Derived.Test.YtpdedphkjkhddaaAmHeapCy
set_option linter.unusedVariables false
set_option linter.unusedSimpArgs false
namespace Go.Am
section
variable (M : Nat → Nat → Bool)
end
end Go.Am
