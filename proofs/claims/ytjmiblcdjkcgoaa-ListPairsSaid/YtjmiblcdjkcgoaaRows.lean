/-
  No cell of these rows narrows 'for every input' (looked for: loops, veiled, ifaces, maps, wideKeys, modest, calm, conditions, laid).
  DERIVED. THE GIVEN ROWS OF THIS SEAT. 9 by the template 'for every input the law returns true; each argument reads behind the call as it read before'; 0 by the template 'total and deterministic' (their statements: YtjmiblcdjkcgoaaTotals.lean).
  GIVEN WITH THE SEED: the statements are not yours to turn. If you find one false, say at which input.
  Laid BY PROGRAM, IN A SANDBOX (cutbox-rows.mjs): the forced cells as the released guide's own fill.sh prints them over the translation 1fc0f95190ea052b… (all of the seat's roots in one cut). By AI agents, Wed Nov 11 2026. No macro, syntax, notation, axiom, sorry.
-/
import Derived.Test.YtjmiblcdjkcgoaaChecked
import GoSem.Claim
import GoSem.ClaimJoined
import GoSem.ClaimMapViews
import Derived.JoinedTies
import Derived.KernelRfl
namespace Go.Proofs.Ytjmiblcdjkcgoaa
/- THE CELL 'sum', in the pinned program and in every row, IS THE sha256 OF THE DUMP (.gsa) THAT YtjmiblcdjkcgoaaProg.lean LOADS. Nothing in Lean hashes anything: it is a label: what it is worth is what the hold of that sum in a sandbox is worth. -/
noncomputable def Try.pinned : Pinned := { name := "ytjmiblcdjkcgoaa", sum := "1fc0f95190ea052b2b23837803cc502f2bf56aaab81e7ac23cce5c06c8f88f71", checked := Try.checked }
namespace Rows
def none {H : Type} : Left H := { results := [], args := [] }

/-- 'motleylaw11.ListPermutes': WHATEVER THE INPUT: true; the input reads as it did. -/
def listPermutesSpec : ChangeSpec := { name := "listPermutes", fn := fun _ => fun
  | [d1, d2] => { results := [.lit (.bool true)], args := [d1, d2] }
  | _ => none }
def listPermutesRow : OpenClaim := { program := "ytjmiblcdjkcgoaa", sum := "1fc0f95190ea052b2b23837803cc502f2bf56aaab81e7ac23cce5c06c8f88f71", func := "motley/motleylaw11.ListPermutes", spec := "listPermutes", unfollowed := true, recurses := true, apart := false }
def ListPermutesSaid : Prop := listPermutesRow.holds Try.pinned (OpenSpec.ofChange listPermutesSpec)

/-- ITS FALSE NEIGHBOUR: 'it returns false'. Refute it at one input. -/
def listPermutesWrong : ChangeSpec := { name := "listPermutes", fn := fun _ => fun
  | [d1, d2] => { results := [.lit (.bool false)], args := [d1, d2] }
  | _ => none }
def ListPermutesWrongFalsely : Prop := listPermutesRow.holds Try.pinned (OpenSpec.ofChange listPermutesWrong)

/-- 'motleylaw11.ListSlices': WHATEVER THE INPUT: true; the input reads as it did. -/
def listSlicesSpec : ChangeSpec := { name := "listSlices", fn := fun _ => fun
  | [d1, d2] => { results := [.lit (.bool true)], args := [d1, d2] }
  | _ => none }
def listSlicesRow : OpenClaim := { program := "ytjmiblcdjkcgoaa", sum := "1fc0f95190ea052b2b23837803cc502f2bf56aaab81e7ac23cce5c06c8f88f71", func := "motley/motleylaw11.ListSlices", spec := "listSlices", unfollowed := true, recurses := true, apart := false }
def ListSlicesSaid : Prop := listSlicesRow.holds Try.pinned (OpenSpec.ofChange listSlicesSpec)

/-- ITS FALSE NEIGHBOUR: 'it returns false'. Refute it at one input. -/
def listSlicesWrong : ChangeSpec := { name := "listSlices", fn := fun _ => fun
  | [d1, d2] => { results := [.lit (.bool false)], args := [d1, d2] }
  | _ => none }
def ListSlicesWrongFalsely : Prop := listSlicesRow.holds Try.pinned (OpenSpec.ofChange listSlicesWrong)

/-- 'motleylaw11.ListParts': WHATEVER THE INPUT: true; the input reads as it did. -/
def listPartsSpec : ChangeSpec := { name := "listParts", fn := fun _ => fun
  | [d1, d2, d3] => { results := [.lit (.bool true)], args := [d1, d2, d3] }
  | _ => none }
def listPartsRow : OpenClaim := { program := "ytjmiblcdjkcgoaa", sum := "1fc0f95190ea052b2b23837803cc502f2bf56aaab81e7ac23cce5c06c8f88f71", func := "motley/motleylaw11.ListParts", spec := "listParts", unfollowed := true, recurses := true, apart := false }
def ListPartsSaid : Prop := listPartsRow.holds Try.pinned (OpenSpec.ofChange listPartsSpec)

/-- ITS FALSE NEIGHBOUR: 'it returns false'. Refute it at one input. -/
def listPartsWrong : ChangeSpec := { name := "listParts", fn := fun _ => fun
  | [d1, d2, d3] => { results := [.lit (.bool false)], args := [d1, d2, d3] }
  | _ => none }
def ListPartsWrongFalsely : Prop := listPartsRow.holds Try.pinned (OpenSpec.ofChange listPartsWrong)

/-- 'motleylaw11.ListSplices': WHATEVER THE INPUT: true; the input reads as it did. -/
def listSplicesSpec : ChangeSpec := { name := "listSplices", fn := fun _ => fun
  | [d1, d2, d3] => { results := [.lit (.bool true)], args := [d1, d2, d3] }
  | _ => none }
def listSplicesRow : OpenClaim := { program := "ytjmiblcdjkcgoaa", sum := "1fc0f95190ea052b2b23837803cc502f2bf56aaab81e7ac23cce5c06c8f88f71", func := "motley/motleylaw11.ListSplices", spec := "listSplices", unfollowed := true, recurses := true, apart := false }
def ListSplicesSaid : Prop := listSplicesRow.holds Try.pinned (OpenSpec.ofChange listSplicesSpec)

/-- ITS FALSE NEIGHBOUR: 'it returns false'. Refute it at one input. -/
def listSplicesWrong : ChangeSpec := { name := "listSplices", fn := fun _ => fun
  | [d1, d2, d3] => { results := [.lit (.bool false)], args := [d1, d2, d3] }
  | _ => none }
def ListSplicesWrongFalsely : Prop := listSplicesRow.holds Try.pinned (OpenSpec.ofChange listSplicesWrong)

/-- 'motleylaw11.ListTexts': WHATEVER THE INPUT: true; the input reads as it did. -/
def listTextsSpec : ChangeSpec := { name := "listTexts", fn := fun _ => fun
  | [d1, d2] => { results := [.lit (.bool true)], args := [d1, d2] }
  | _ => none }
def listTextsRow : OpenClaim := { program := "ytjmiblcdjkcgoaa", sum := "1fc0f95190ea052b2b23837803cc502f2bf56aaab81e7ac23cce5c06c8f88f71", func := "motley/motleylaw11.ListTexts", spec := "listTexts", inPlace := ["internal/bytealg.abigen_runtime_cmpstring"], unfollowed := true, recurses := true, apart := false }
def ListTextsSaid : Prop := listTextsRow.holds Try.pinned (OpenSpec.ofChange listTextsSpec)

/-- ITS FALSE NEIGHBOUR: 'it returns false'. Refute it at one input. -/
def listTextsWrong : ChangeSpec := { name := "listTexts", fn := fun _ => fun
  | [d1, d2] => { results := [.lit (.bool false)], args := [d1, d2] }
  | _ => none }
def ListTextsWrongFalsely : Prop := listTextsRow.holds Try.pinned (OpenSpec.ofChange listTextsWrong)

/-- 'motleylaw11.ListUniq': WHATEVER THE INPUT: true; the input reads as it did. -/
def listUniqSpec : ChangeSpec := { name := "listUniq", fn := fun _ => fun
  | [d1, d2] => { results := [.lit (.bool true)], args := [d1, d2] }
  | _ => none }
def listUniqRow : OpenClaim := { program := "ytjmiblcdjkcgoaa", sum := "1fc0f95190ea052b2b23837803cc502f2bf56aaab81e7ac23cce5c06c8f88f71", func := "motley/motleylaw11.ListUniq", spec := "listUniq", unfollowed := true, recurses := true, apart := false }
def ListUniqSaid : Prop := listUniqRow.holds Try.pinned (OpenSpec.ofChange listUniqSpec)

/-- ITS FALSE NEIGHBOUR: 'it returns false'. Refute it at one input. -/
def listUniqWrong : ChangeSpec := { name := "listUniq", fn := fun _ => fun
  | [d1, d2] => { results := [.lit (.bool false)], args := [d1, d2] }
  | _ => none }
def ListUniqWrongFalsely : Prop := listUniqRow.holds Try.pinned (OpenSpec.ofChange listUniqWrong)

/-- 'motleylaw11.ListPairs': WHATEVER THE INPUT: true; the input reads as it did. -/
def listPairsSpec : ChangeSpec := { name := "listPairs", fn := fun _ => fun
  | [d] => { results := [.lit (.bool true)], args := [d] }
  | _ => none }
def listPairsRow : OpenClaim := { program := "ytjmiblcdjkcgoaa", sum := "1fc0f95190ea052b2b23837803cc502f2bf56aaab81e7ac23cce5c06c8f88f71", func := "motley/motleylaw11.ListPairs", spec := "listPairs", unfollowed := true, recurses := true, apart := false }
def ListPairsSaid : Prop := listPairsRow.holds Try.pinned (OpenSpec.ofChange listPairsSpec)

/-- ITS FALSE NEIGHBOUR: 'it returns false'. Refute it at one input. -/
def listPairsWrong : ChangeSpec := { name := "listPairs", fn := fun _ => fun
  | [d] => { results := [.lit (.bool false)], args := [d] }
  | _ => none }
def ListPairsWrongFalsely : Prop := listPairsRow.holds Try.pinned (OpenSpec.ofChange listPairsWrong)

/-- 'motleylaw11.ListReduces': WHATEVER THE INPUT: true; the input reads as it did. -/
def listReducesSpec : ChangeSpec := { name := "listReduces", fn := fun _ => fun
  | [d1, d2] => { results := [.lit (.bool true)], args := [d1, d2] }
  | _ => none }
def listReducesRow : OpenClaim := { program := "ytjmiblcdjkcgoaa", sum := "1fc0f95190ea052b2b23837803cc502f2bf56aaab81e7ac23cce5c06c8f88f71", func := "motley/motleylaw11.ListReduces", spec := "listReduces", unfollowed := true, recurses := true, apart := false }
def ListReducesSaid : Prop := listReducesRow.holds Try.pinned (OpenSpec.ofChange listReducesSpec)

/-- ITS FALSE NEIGHBOUR: 'it returns false'. Refute it at one input. -/
def listReducesWrong : ChangeSpec := { name := "listReduces", fn := fun _ => fun
  | [d1, d2] => { results := [.lit (.bool false)], args := [d1, d2] }
  | _ => none }
def ListReducesWrongFalsely : Prop := listReducesRow.holds Try.pinned (OpenSpec.ofChange listReducesWrong)

/-- 'motleylaw11.ListNumbers': WHATEVER THE INPUT: true; the input reads as it did. -/
def listNumbersSpec : ChangeSpec := { name := "listNumbers", fn := fun _ => fun
  | [d1, d2] => { results := [.lit (.bool true)], args := [d1, d2] }
  | _ => none }
def listNumbersRow : OpenClaim := { program := "ytjmiblcdjkcgoaa", sum := "1fc0f95190ea052b2b23837803cc502f2bf56aaab81e7ac23cce5c06c8f88f71", func := "motley/motleylaw11.ListNumbers", spec := "listNumbers", unfollowed := true, recurses := true, apart := false }
def ListNumbersSaid : Prop := listNumbersRow.holds Try.pinned (OpenSpec.ofChange listNumbersSpec)

/-- ITS FALSE NEIGHBOUR: 'it returns false'. Refute it at one input. -/
def listNumbersWrong : ChangeSpec := { name := "listNumbers", fn := fun _ => fun
  | [d1, d2] => { results := [.lit (.bool false)], args := [d1, d2] }
  | _ => none }
def ListNumbersWrongFalsely : Prop := listNumbersRow.holds Try.pinned (OpenSpec.ofChange listNumbersWrong)

/- THE SECOND FORM. 'bulk': how many values and letters a reading holds, each counted each time it is reached (what is shared counts as often as it is met; a slice's spare places count too). A statement '..UptoSaid' is the law's where the arguments, and the package variables that the reading takes, are together of bulk at most 1048576: NARROWER than '..Said'. Prove '..Said' where nothing that the law and all that it calls make is longer than what came in: it says more and counts as full. Else prove '..UptoSaid'. A law counts once. -/
mutual
def uptoBulk {H : Type} : DataW H → Nat
  | .lit (.string bytes) => bytes.length + 1
  | .lit _ => 1
  | .nil => 1
  | .ptr d => uptoBulk d + 1
  | .slice elems spare => uptoBulkAll elems + uptoBulkAll spare + 1
  | .agg parts => uptoBulkAll parts + 1
  | .iface _ d => uptoBulk d + 1
  | .map entries => uptoBulkEntries entries + 1
  | .held _ => 1
def uptoBulkAll {H : Type} : List (DataW H) → Nat
  | [] => 0
  | d :: r => uptoBulk d + uptoBulkAll r
def uptoBulkEntries {H : Type} : List (Lit × DataW H) → Nat
  | [] => 0
  | x :: r => uptoBulkEntry x + uptoBulkEntries r
def uptoBulkEntry {H : Type} : Lit × DataW H → Nat
  | (.string bytes, d) => bytes.length + uptoBulk d + 1
  | (_, d) => uptoBulk d + 1
 end
def uptoSmall : (H : Type) → List (DataW H) → Bool := fun _ ds => decide (uptoBulkAll ds ≤ 1048576)
def OpenSpec.upto (s : _root_.Go.ChangeSpec) : _root_.Go.OpenSpec := { _root_.Go.OpenSpec.ofChange s with cond := some uptoSmall }

/-- 'motleylaw11.ListPermutes', WHERE WHAT IT READS IS OF BULK AT MOST 1048576: true; the input reads as it did. -/
def listPermutesUptoRow : OpenClaim := { program := "ytjmiblcdjkcgoaa", sum := "1fc0f95190ea052b2b23837803cc502f2bf56aaab81e7ac23cce5c06c8f88f71", func := "motley/motleylaw11.ListPermutes", spec := "listPermutes", unfollowed := true, recurses := true, apart := false, narrowed := true }
def ListPermutesUptoSaid : Prop := listPermutesUptoRow.holds Try.pinned (OpenSpec.upto listPermutesSpec)

/-- 'motleylaw11.ListSlices', WHERE WHAT IT READS IS OF BULK AT MOST 1048576: true; the input reads as it did. -/
def listSlicesUptoRow : OpenClaim := { program := "ytjmiblcdjkcgoaa", sum := "1fc0f95190ea052b2b23837803cc502f2bf56aaab81e7ac23cce5c06c8f88f71", func := "motley/motleylaw11.ListSlices", spec := "listSlices", unfollowed := true, recurses := true, apart := false, narrowed := true }
def ListSlicesUptoSaid : Prop := listSlicesUptoRow.holds Try.pinned (OpenSpec.upto listSlicesSpec)

/-- 'motleylaw11.ListParts', WHERE WHAT IT READS IS OF BULK AT MOST 1048576: true; the input reads as it did. -/
def listPartsUptoRow : OpenClaim := { program := "ytjmiblcdjkcgoaa", sum := "1fc0f95190ea052b2b23837803cc502f2bf56aaab81e7ac23cce5c06c8f88f71", func := "motley/motleylaw11.ListParts", spec := "listParts", unfollowed := true, recurses := true, apart := false, narrowed := true }
def ListPartsUptoSaid : Prop := listPartsUptoRow.holds Try.pinned (OpenSpec.upto listPartsSpec)

/-- 'motleylaw11.ListSplices', WHERE WHAT IT READS IS OF BULK AT MOST 1048576: true; the input reads as it did. -/
def listSplicesUptoRow : OpenClaim := { program := "ytjmiblcdjkcgoaa", sum := "1fc0f95190ea052b2b23837803cc502f2bf56aaab81e7ac23cce5c06c8f88f71", func := "motley/motleylaw11.ListSplices", spec := "listSplices", unfollowed := true, recurses := true, apart := false, narrowed := true }
def ListSplicesUptoSaid : Prop := listSplicesUptoRow.holds Try.pinned (OpenSpec.upto listSplicesSpec)

/-- 'motleylaw11.ListTexts', WHERE WHAT IT READS IS OF BULK AT MOST 1048576: true; the input reads as it did. -/
def listTextsUptoRow : OpenClaim := { program := "ytjmiblcdjkcgoaa", sum := "1fc0f95190ea052b2b23837803cc502f2bf56aaab81e7ac23cce5c06c8f88f71", func := "motley/motleylaw11.ListTexts", spec := "listTexts", inPlace := ["internal/bytealg.abigen_runtime_cmpstring"], unfollowed := true, recurses := true, apart := false, narrowed := true }
def ListTextsUptoSaid : Prop := listTextsUptoRow.holds Try.pinned (OpenSpec.upto listTextsSpec)

/-- 'motleylaw11.ListUniq', WHERE WHAT IT READS IS OF BULK AT MOST 1048576: true; the input reads as it did. -/
def listUniqUptoRow : OpenClaim := { program := "ytjmiblcdjkcgoaa", sum := "1fc0f95190ea052b2b23837803cc502f2bf56aaab81e7ac23cce5c06c8f88f71", func := "motley/motleylaw11.ListUniq", spec := "listUniq", unfollowed := true, recurses := true, apart := false, narrowed := true }
def ListUniqUptoSaid : Prop := listUniqUptoRow.holds Try.pinned (OpenSpec.upto listUniqSpec)

/-- 'motleylaw11.ListPairs', WHERE WHAT IT READS IS OF BULK AT MOST 1048576: true; the input reads as it did. -/
def listPairsUptoRow : OpenClaim := { program := "ytjmiblcdjkcgoaa", sum := "1fc0f95190ea052b2b23837803cc502f2bf56aaab81e7ac23cce5c06c8f88f71", func := "motley/motleylaw11.ListPairs", spec := "listPairs", unfollowed := true, recurses := true, apart := false, narrowed := true }
def ListPairsUptoSaid : Prop := listPairsUptoRow.holds Try.pinned (OpenSpec.upto listPairsSpec)

/-- 'motleylaw11.ListReduces', WHERE WHAT IT READS IS OF BULK AT MOST 1048576: true; the input reads as it did. -/
def listReducesUptoRow : OpenClaim := { program := "ytjmiblcdjkcgoaa", sum := "1fc0f95190ea052b2b23837803cc502f2bf56aaab81e7ac23cce5c06c8f88f71", func := "motley/motleylaw11.ListReduces", spec := "listReduces", unfollowed := true, recurses := true, apart := false, narrowed := true }
def ListReducesUptoSaid : Prop := listReducesUptoRow.holds Try.pinned (OpenSpec.upto listReducesSpec)

/-- 'motleylaw11.ListNumbers', WHERE WHAT IT READS IS OF BULK AT MOST 1048576: true; the input reads as it did. -/
def listNumbersUptoRow : OpenClaim := { program := "ytjmiblcdjkcgoaa", sum := "1fc0f95190ea052b2b23837803cc502f2bf56aaab81e7ac23cce5c06c8f88f71", func := "motley/motleylaw11.ListNumbers", spec := "listNumbers", unfollowed := true, recurses := true, apart := false, narrowed := true }
def ListNumbersUptoSaid : Prop := listNumbersUptoRow.holds Try.pinned (OpenSpec.upto listNumbersSpec)

end Rows
end Go.Proofs.Ytjmiblcdjkcgoaa
