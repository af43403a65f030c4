/- The decimal text of a number, as the small machine is told it. -/
import Derived.Test.YtepgjaknkjkpaaaDoorAmPrimRD
import Derived.Lib.ItoaNum
set_option linter.unusedVariables false
namespace Go.Am

/-- The decimal text of a number. -/
def itoaPrim : List AV → AHeap → Option (AV × AHeap)
  | [.int .i64 n], H => if -9223372036854775808 ≤ n ∧ n ≤ 9223372036854775807 then some (.str (Lib.itoa n), H) else none
  | _, _ => none
end Go.Am
