/- Functions that have no body in Go, as the small machine is told them. -/
import Derived.Test.YtdgkaachkodimaaDoorAmWp
import Derived.Lib.Bytealg
set_option linter.unusedVariables false
namespace Go.Am
end Go.Am
