/- internal/abi.NoEscape, as the small machine is told it. -/
import Derived.Test.YtdgkaachkodimaaDoorAmPrimAD
set_option linter.unusedVariables false
namespace Go.Am
def noEscPrim : List AV → AHeap → Option (AV × AHeap)
  | [.ptr (some p)], H => some (.ptr (some p), H)
  | _, _ => none
end Go.Am
