/- What the lock of package sync calls, as the small machine is told it: the marks of the race detector, and whole numbers of 32 bits that are changed in one step. -/
import Derived.Test.YtdgkaachkodimaaDoorAmPrimD
set_option linter.unusedVariables false
namespace Go.Am
end Go.Am
