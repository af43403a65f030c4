/- Decimal texts by strconv.FormatInt, and how many zero bits stand at a number's end, as the small machine is told them. -/
import Derived.Test.YtepgjaknkjkpaaaDoorAmPrimID
import Derived.Lib.TrailingZeros
set_option linter.unusedVariables false
namespace Go.Am

/-- In base 10. -/
def fmtPrim : List AV → AHeap → Option (AV × AHeap)
  | [.int .i64 n, .int .i64 b], H => if b = 10 ∧ -9223372036854775808 ≤ n ∧ n ≤ 9223372036854775807 then some (.str (Lib.itoa n), H) else none
  | _, _ => none
def tzPrim : List AV → AHeap → Option (AV × AHeap)
  | [.int .u64 x], H => if 0 ≤ x ∧ x < 18446744073709551616 then some (.int .i64 (Lib.ctz 64 x.toNat), H) else none
  | _, _ => none
end Go.Am
