/- Repeating a text, as the small machine is told it. -/
import Derived.Test.YtepgjaknkjkpaaaDoorAmPrimD
import Derived.Lib.Repeat
set_option linter.unusedVariables false
namespace Go.Am

/-- A text several times. -/
def repPrim : List AV → AHeap → Option (AV × AHeap)
  | [.str s, .int .i64 c], H => if 0 ≤ c ∧ c ≤ 2 ^ 40 ∧ s.length * c.toNat ≤ 2 ^ 40 then some (.str (Lib.repeatL s c.toNat), H) else none
  | _, _ => none
end Go.Am
