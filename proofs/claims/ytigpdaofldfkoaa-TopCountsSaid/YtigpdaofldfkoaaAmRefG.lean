/- The reference's leads. -/
import Derived.Test.YtigpdaofldfkoaaAmHeapsX
import Derived.Test.YtigpdaofldfkoaaAmCpy
set_option linter.unusedVariables false
set_option linter.unusedSimpArgs false
namespace Go.Am
variable {T : Tab}
section
variable {k : Nat} {tg : Tags} {H : AHeap} {b : Nat} {S : Rp} {fb : Nat} {cv nv : AV} {fc fn : Option Nat} {xs : List (AV × Cel)} {ff : Nat → Option Nat}
end
end Go.Am
