/- Contract: Cycles of the reference. -/
import Derived.Test.YtigpdaofldfkoaaAmHeapCz
set_option linter.unusedVariables false
set_option linter.unusedSimpArgs false
namespace Go.Am
variable {T : Tab}
section
variable {k : Nat} {tg : Tags} {H : AHeap} {b : Nat} {S : Rp} {fb : Nat} {cv nv : AV} {fc fn : Option Nat} {xs : List (AV × Cel)} {ff : Nat → Option Nat}
end
end Go.Am
