/-
  No cell of these rows narrows 'for every input' (looked for: loops, veiled, ifaces, maps, wideKeys, modest, calm, conditions, laid).
  DERIVED. THE GIVEN ROWS OF THIS SEAT. 8 by the template 'for every input the law returns true; each argument reads behind the call as it read before'; 0 by the template 'total and deterministic' (their statements: YtepgjaknkjkpaaaTotals.lean).
  GIVEN WITH THE SEED: the statements are not yours to turn. If you find one false, say at which input.
  Laid BY PROGRAM, IN A SANDBOX (cutbox-rows.mjs): the forced cells as the released guide's own fill.sh prints them over the translation 5a793724f889c27d… (all of the seat's roots in one cut). By AI agents, Wed Nov 11 2026. No macro, syntax, notation, axiom, sorry.
-/
import Derived.Test.YtepgjaknkjkpaaaChecked
import GoSem.Claim
import GoSem.ClaimJoined
import GoSem.ClaimMapViews
import Derived.JoinedTies
import Derived.KernelRfl
namespace Go.Proofs.Ytepgjaknkjkpaaa
/- THE CELL 'sum', in the pinned program and in every row, IS THE sha256 OF THE DUMP (.gsa) THAT YtepgjaknkjkpaaaProg.lean LOADS. Nothing in Lean hashes anything: it is a label: what it is worth is what the hold of that sum in a sandbox is worth. -/
noncomputable def Try.pinned : Pinned := { name := "ytepgjaknkjkpaaa", sum := "5a793724f889c27ddcea764066486df84f7e1545276ddb2bb7dacdd92e02ad17", checked := Try.checked }
namespace Rows
def none {H : Type} : Left H := { results := [], args := [] }

/-- 'motleylaw01.NumLooks': WHATEVER THE INPUT: true; the input reads as it did. -/
def numLooksSpec : ChangeSpec := { name := "numLooks", fn := fun _ => fun
  | [d] => { results := [.lit (.bool true)], args := [d] }
  | _ => none }
def numLooksRow : OpenClaim := { program := "ytepgjaknkjkpaaa", sum := "5a793724f889c27ddcea764066486df84f7e1545276ddb2bb7dacdd92e02ad17", func := "motley/motleylaw01.NumLooks", spec := "numLooks", unfollowed := true, recurses := true, apart := false }
def NumLooksSaid : Prop := numLooksRow.holds Try.pinned (OpenSpec.ofChange numLooksSpec)

/-- ITS FALSE NEIGHBOUR: 'it returns false'. Refute it at one input. -/
def numLooksWrong : ChangeSpec := { name := "numLooks", fn := fun _ => fun
  | [d] => { results := [.lit (.bool false)], args := [d] }
  | _ => none }
def NumLooksWrongFalsely : Prop := numLooksRow.holds Try.pinned (OpenSpec.ofChange numLooksWrong)

/-- 'motleylaw01.NumDoes': WHATEVER THE INPUT: true; the input reads as it did. -/
def numDoesSpec : ChangeSpec := { name := "numDoes", fn := fun _ => fun
  | [d1, d2, d3] => { results := [.lit (.bool true)], args := [d1, d2, d3] }
  | _ => none }
def numDoesRow : OpenClaim := { program := "ytepgjaknkjkpaaa", sum := "5a793724f889c27ddcea764066486df84f7e1545276ddb2bb7dacdd92e02ad17", func := "motley/motleylaw01.NumDoes", spec := "numDoes", unfollowed := true, recurses := true, apart := false }
def NumDoesSaid : Prop := numDoesRow.holds Try.pinned (OpenSpec.ofChange numDoesSpec)

/-- ITS FALSE NEIGHBOUR: 'it returns false'. Refute it at one input. -/
def numDoesWrong : ChangeSpec := { name := "numDoes", fn := fun _ => fun
  | [d1, d2, d3] => { results := [.lit (.bool false)], args := [d1, d2, d3] }
  | _ => none }
def NumDoesWrongFalsely : Prop := numDoesRow.holds Try.pinned (OpenSpec.ofChange numDoesWrong)

/-- 'motleylaw01.NumDivides': WHATEVER THE INPUT: true; the input reads as it did. -/
def numDividesSpec : ChangeSpec := { name := "numDivides", fn := fun _ => fun
  | [d1, d2] => { results := [.lit (.bool true)], args := [d1, d2] }
  | _ => none }
def numDividesRow : OpenClaim := { program := "ytepgjaknkjkpaaa", sum := "5a793724f889c27ddcea764066486df84f7e1545276ddb2bb7dacdd92e02ad17", func := "motley/motleylaw01.NumDivides", spec := "numDivides", unfollowed := true, recurses := true, apart := false }
def NumDividesSaid : Prop := numDividesRow.holds Try.pinned (OpenSpec.ofChange numDividesSpec)

/-- ITS FALSE NEIGHBOUR: 'it returns false'. Refute it at one input. -/
def numDividesWrong : ChangeSpec := { name := "numDivides", fn := fun _ => fun
  | [d1, d2] => { results := [.lit (.bool false)], args := [d1, d2] }
  | _ => none }
def NumDividesWrongFalsely : Prop := numDividesRow.holds Try.pinned (OpenSpec.ofChange numDividesWrong)

/-- 'motleylaw01.NumOrders': WHATEVER THE INPUT: true; the input reads as it did. -/
def numOrdersSpec : ChangeSpec := { name := "numOrders", fn := fun _ => fun
  | [d1, d2] => { results := [.lit (.bool true)], args := [d1, d2] }
  | _ => none }
def numOrdersRow : OpenClaim := { program := "ytepgjaknkjkpaaa", sum := "5a793724f889c27ddcea764066486df84f7e1545276ddb2bb7dacdd92e02ad17", func := "motley/motleylaw01.NumOrders", spec := "numOrders", inPlace := ["internal/bytealg.abigen_runtime_cmpstring"], unfollowed := true, recurses := true, apart := false }
def NumOrdersSaid : Prop := numOrdersRow.holds Try.pinned (OpenSpec.ofChange numOrdersSpec)

/-- ITS FALSE NEIGHBOUR: 'it returns false'. Refute it at one input. -/
def numOrdersWrong : ChangeSpec := { name := "numOrders", fn := fun _ => fun
  | [d1, d2] => { results := [.lit (.bool false)], args := [d1, d2] }
  | _ => none }
def NumOrdersWrongFalsely : Prop := numOrdersRow.holds Try.pinned (OpenSpec.ofChange numOrdersWrong)

/-- 'motleylaw01.NumRounds': WHATEVER THE INPUT: true; the input reads as it did. -/
def numRoundsSpec : ChangeSpec := { name := "numRounds", fn := fun _ => fun
  | [d1, d2] => { results := [.lit (.bool true)], args := [d1, d2] }
  | _ => none }
def numRoundsRow : OpenClaim := { program := "ytepgjaknkjkpaaa", sum := "5a793724f889c27ddcea764066486df84f7e1545276ddb2bb7dacdd92e02ad17", func := "motley/motleylaw01.NumRounds", spec := "numRounds", unfollowed := true, recurses := true, apart := false }
def NumRoundsSaid : Prop := numRoundsRow.holds Try.pinned (OpenSpec.ofChange numRoundsSpec)

/-- ITS FALSE NEIGHBOUR: 'it returns false'. Refute it at one input. -/
def numRoundsWrong : ChangeSpec := { name := "numRounds", fn := fun _ => fun
  | [d1, d2] => { results := [.lit (.bool false)], args := [d1, d2] }
  | _ => none }
def NumRoundsWrongFalsely : Prop := numRoundsRow.holds Try.pinned (OpenSpec.ofChange numRoundsWrong)

/-- 'motleylaw01.NumCompares': WHATEVER THE INPUT: true; the input reads as it did. -/
def numComparesSpec : ChangeSpec := { name := "numCompares", fn := fun _ => fun
  | [d1, d2] => { results := [.lit (.bool true)], args := [d1, d2] }
  | _ => none }
def numComparesRow : OpenClaim := { program := "ytepgjaknkjkpaaa", sum := "5a793724f889c27ddcea764066486df84f7e1545276ddb2bb7dacdd92e02ad17", func := "motley/motleylaw01.NumCompares", spec := "numCompares", unfollowed := true, recurses := true, apart := false }
def NumComparesSaid : Prop := numComparesRow.holds Try.pinned (OpenSpec.ofChange numComparesSpec)

/-- ITS FALSE NEIGHBOUR: 'it returns false'. Refute it at one input. -/
def numComparesWrong : ChangeSpec := { name := "numCompares", fn := fun _ => fun
  | [d1, d2] => { results := [.lit (.bool false)], args := [d1, d2] }
  | _ => none }
def NumComparesWrongFalsely : Prop := numComparesRow.holds Try.pinned (OpenSpec.ofChange numComparesWrong)

/-- 'motleylaw01.NumRadix': WHATEVER THE INPUT: true; the input reads as it did. -/
def numRadixSpec : ChangeSpec := { name := "numRadix", fn := fun _ => fun
  | [d] => { results := [.lit (.bool true)], args := [d] }
  | _ => none }
def numRadixRow : OpenClaim := { program := "ytepgjaknkjkpaaa", sum := "5a793724f889c27ddcea764066486df84f7e1545276ddb2bb7dacdd92e02ad17", func := "motley/motleylaw01.NumRadix", spec := "numRadix", unfollowed := true, recurses := true, apart := false }
def NumRadixSaid : Prop := numRadixRow.holds Try.pinned (OpenSpec.ofChange numRadixSpec)

/-- ITS FALSE NEIGHBOUR: 'it returns false'. Refute it at one input. -/
def numRadixWrong : ChangeSpec := { name := "numRadix", fn := fun _ => fun
  | [d] => { results := [.lit (.bool false)], args := [d] }
  | _ => none }
def NumRadixWrongFalsely : Prop := numRadixRow.holds Try.pinned (OpenSpec.ofChange numRadixWrong)

/-- 'motleylaw01.NumRepeats': WHATEVER THE INPUT: true; the input reads as it did. -/
def numRepeatsSpec : ChangeSpec := { name := "numRepeats", fn := fun _ => fun
  | [d1, d2] => { results := [.lit (.bool true)], args := [d1, d2] }
  | _ => none }
def numRepeatsRow : OpenClaim := { program := "ytepgjaknkjkpaaa", sum := "5a793724f889c27ddcea764066486df84f7e1545276ddb2bb7dacdd92e02ad17", func := "motley/motleylaw01.NumRepeats", spec := "numRepeats", inPlace := ["internal/abi.NoEscape", "internal/bytealg.MakeNoZero"], unfollowed := true, recurses := true, apart := false }
def NumRepeatsSaid : Prop := numRepeatsRow.holds Try.pinned (OpenSpec.ofChange numRepeatsSpec)

/-- ITS FALSE NEIGHBOUR: 'it returns false'. Refute it at one input. -/
def numRepeatsWrong : ChangeSpec := { name := "numRepeats", fn := fun _ => fun
  | [d1, d2] => { results := [.lit (.bool false)], args := [d1, d2] }
  | _ => none }
def NumRepeatsWrongFalsely : Prop := numRepeatsRow.holds Try.pinned (OpenSpec.ofChange numRepeatsWrong)

/- THE SECOND FORM. 'bulk': how many values and letters a reading holds, each counted each time it is reached (what is shared counts as often as it is met; a slice's spare places count too). A statement '..UptoSaid' is the law's where the arguments, and the package variables that the reading takes, are together of bulk at most 1048576: NARROWER than '..Said'. Prove '..Said' where nothing that the law and all that it calls make is longer than what came in: it says more and counts as full. Else prove '..UptoSaid'. A law counts once. -/
mutual
def uptoBulk {H : Type} : DataW H → Nat
  | .lit (.string bytes) => bytes.length + 1
  | .lit _ => 1
  | .nil => 1
  | .ptr d => uptoBulk d + 1
  | .slice elems spare => uptoBulkAll elems + uptoBulkAll spare + 1
  | .agg parts => uptoBulkAll parts + 1
  | .iface _ d => uptoBulk d + 1
  | .map entries => uptoBulkEntries entries + 1
  | .held _ => 1
def uptoBulkAll {H : Type} : List (DataW H) → Nat
  | [] => 0
  | d :: r => uptoBulk d + uptoBulkAll r
def uptoBulkEntries {H : Type} : List (Lit × DataW H) → Nat
  | [] => 0
  | x :: r => uptoBulkEntry x + uptoBulkEntries r
def uptoBulkEntry {H : Type} : Lit × DataW H → Nat
  | (.string bytes, d) => bytes.length + uptoBulk d + 1
  | (_, d) => uptoBulk d + 1
 end
def uptoSmall : (H : Type) → List (DataW H) → Bool := fun _ ds => decide (uptoBulkAll ds ≤ 1048576)
def OpenSpec.upto (s : _root_.Go.ChangeSpec) : _root_.Go.OpenSpec := { _root_.Go.OpenSpec.ofChange s with cond := some uptoSmall }

/-- 'motleylaw01.NumLooks', WHERE WHAT IT READS IS OF BULK AT MOST 1048576: true; the input reads as it did. -/
def numLooksUptoRow : OpenClaim := { program := "ytepgjaknkjkpaaa", sum := "5a793724f889c27ddcea764066486df84f7e1545276ddb2bb7dacdd92e02ad17", func := "motley/motleylaw01.NumLooks", spec := "numLooks", unfollowed := true, recurses := true, apart := false, narrowed := true }
def NumLooksUptoSaid : Prop := numLooksUptoRow.holds Try.pinned (OpenSpec.upto numLooksSpec)

/-- 'motleylaw01.NumDoes', WHERE WHAT IT READS IS OF BULK AT MOST 1048576: true; the input reads as it did. -/
def numDoesUptoRow : OpenClaim := { program := "ytepgjaknkjkpaaa", sum := "5a793724f889c27ddcea764066486df84f7e1545276ddb2bb7dacdd92e02ad17", func := "motley/motleylaw01.NumDoes", spec := "numDoes", unfollowed := true, recurses := true, apart := false, narrowed := true }
def NumDoesUptoSaid : Prop := numDoesUptoRow.holds Try.pinned (OpenSpec.upto numDoesSpec)

/-- 'motleylaw01.NumDivides', WHERE WHAT IT READS IS OF BULK AT MOST 1048576: true; the input reads as it did. -/
def numDividesUptoRow : OpenClaim := { program := "ytepgjaknkjkpaaa", sum := "5a793724f889c27ddcea764066486df84f7e1545276ddb2bb7dacdd92e02ad17", func := "motley/motleylaw01.NumDivides", spec := "numDivides", unfollowed := true, recurses := true, apart := false, narrowed := true }
def NumDividesUptoSaid : Prop := numDividesUptoRow.holds Try.pinned (OpenSpec.upto numDividesSpec)

/-- 'motleylaw01.NumOrders', WHERE WHAT IT READS IS OF BULK AT MOST 1048576: true; the input reads as it did. -/
def numOrdersUptoRow : OpenClaim := { program := "ytepgjaknkjkpaaa", sum := "5a793724f889c27ddcea764066486df84f7e1545276ddb2bb7dacdd92e02ad17", func := "motley/motleylaw01.NumOrders", spec := "numOrders", inPlace := ["internal/bytealg.abigen_runtime_cmpstring"], unfollowed := true, recurses := true, apart := false, narrowed := true }
def NumOrdersUptoSaid : Prop := numOrdersUptoRow.holds Try.pinned (OpenSpec.upto numOrdersSpec)

/-- 'motleylaw01.NumRounds', WHERE WHAT IT READS IS OF BULK AT MOST 1048576: true; the input reads as it did. -/
def numRoundsUptoRow : OpenClaim := { program := "ytepgjaknkjkpaaa", sum := "5a793724f889c27ddcea764066486df84f7e1545276ddb2bb7dacdd92e02ad17", func := "motley/motleylaw01.NumRounds", spec := "numRounds", unfollowed := true, recurses := true, apart := false, narrowed := true }
def NumRoundsUptoSaid : Prop := numRoundsUptoRow.holds Try.pinned (OpenSpec.upto numRoundsSpec)

/-- 'motleylaw01.NumCompares', WHERE WHAT IT READS IS OF BULK AT MOST 1048576: true; the input reads as it did. -/
def numComparesUptoRow : OpenClaim := { program := "ytepgjaknkjkpaaa", sum := "5a793724f889c27ddcea764066486df84f7e1545276ddb2bb7dacdd92e02ad17", func := "motley/motleylaw01.NumCompares", spec := "numCompares", unfollowed := true, recurses := true, apart := false, narrowed := true }
def NumComparesUptoSaid : Prop := numComparesUptoRow.holds Try.pinned (OpenSpec.upto numComparesSpec)

/-- 'motleylaw01.NumRadix', WHERE WHAT IT READS IS OF BULK AT MOST 1048576: true; the input reads as it did. -/
def numRadixUptoRow : OpenClaim := { program := "ytepgjaknkjkpaaa", sum := "5a793724f889c27ddcea764066486df84f7e1545276ddb2bb7dacdd92e02ad17", func := "motley/motleylaw01.NumRadix", spec := "numRadix", unfollowed := true, recurses := true, apart := false, narrowed := true }
def NumRadixUptoSaid : Prop := numRadixUptoRow.holds Try.pinned (OpenSpec.upto numRadixSpec)

/-- 'motleylaw01.NumRepeats', WHERE WHAT IT READS IS OF BULK AT MOST 1048576: true; the input reads as it did. -/
def numRepeatsUptoRow : OpenClaim := { program := "ytepgjaknkjkpaaa", sum := "5a793724f889c27ddcea764066486df84f7e1545276ddb2bb7dacdd92e02ad17", func := "motley/motleylaw01.NumRepeats", spec := "numRepeats", inPlace := ["internal/abi.NoEscape", "internal/bytealg.MakeNoZero"], unfollowed := true, recurses := true, apart := false, narrowed := true }
def NumRepeatsUptoSaid : Prop := numRepeatsUptoRow.holds Try.pinned (OpenSpec.upto numRepeatsSpec)

end Rows
end Go.Proofs.Ytepgjaknkjkpaaa
