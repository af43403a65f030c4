/- Functions that have no body in Go, as the small machine is told them. -/
import Derived.Test.YtpdedphkjkhddaaAmWp
import Derived.Lib.Bytealg
set_option linter.unusedVariables false
namespace Go.Am

/-- How two texts stand by their bytes. -/
def cmpPrim : List AV → AHeap → Option (AV × AHeap)
  | [.str a, .str b], H => some (.int .i64 (Lib.compareBytes a b), H)
  | _, _ => none
end Go.Am
