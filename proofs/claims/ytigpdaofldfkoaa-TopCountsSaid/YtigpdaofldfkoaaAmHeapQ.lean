/- Contracts: what the laws over heaps call: known, seen, SameInts. -/
import Derived.Test.YtigpdaofldfkoaaAmHeapP
import Derived.Test.YtigpdaofldfkoaaAmFloat
set_option linter.unusedVariables false
set_option linter.unusedSimpArgs false
namespace Go.Am
variable {T : Tab}
/-- What known does, in the reference's words. -/
def kn1 : Rp := (makeQ Rp.none 1 false).1
def kn2 : Rp := (makeQ kn1 0 false).1
def kn3 : Rp := (rootQ kn2 0).1
end Go.Am
