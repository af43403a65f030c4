/- The reference's reached, Reached, Lost. -/
import Derived.Test.YtigpdaofldfkoaaAmRefG
set_option linter.unusedVariables false
set_option linter.unusedSimpArgs false
namespace Go.Am
variable {T : Tab}
/-- What is asked of the cells: not too many, references in range, ended cells refer to none. -/
structure Graph (cs : List Cel) : Prop where
  shp : Shp cs
  to : ∀ c ∈ cs, ∀ t ∈ strongs c.fs, 0 ≤ t ∧ t < cs.length
  dry : ∀ i : Int, 0 ≤ i → i < cs.length → (nth cs i).e = true → strongs (nth cs i).fs = []
section
variable {k : Nat} {tg : Tags} {H : AHeap} {b : Nat} {S : Rp} {fb : Nat} {cv nv : AV} {fc fn : Option Nat} {xs : List (AV × Cel)} {ff : Nat → Option Nat}
end
end Go.Am
