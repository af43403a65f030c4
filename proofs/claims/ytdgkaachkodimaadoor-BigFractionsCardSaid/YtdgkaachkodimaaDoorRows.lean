/-
  NARROWER THAN 'FOR EVERY INPUT', by the rows' own cells (each row's printed sentence says how): BigFractions: laid · BigDivides: laid · BigRings: laid · BigPowers: laid · BigCounts: laid · BigSums: laid · BigGcds: laid · BigPowerMods: laid · BigPrimes: laid.
  DERIVED. THE GIVEN ROWS OF THIS SEAT. 9 by the template 'for every input the law returns true; each argument reads behind the call as it read before'; 0 by the template 'total and deterministic' (their statements: YtdgkaachkodimaaDoorTotals.lean).
  GIVEN WITH THE SEED: the statements are not yours to turn. If you find one false, say at which input.
  Laid BY PROGRAM, IN A SANDBOX (cutbox-rows.mjs): the forced cells as the released guide's own fill.sh prints them over the translation b56b1a5142893ae0… (all of the seat's roots in one cut). By AI agents, Wed Nov 11 2026. No macro, syntax, notation, axiom, sorry.
-/
import Derived.Test.YtdgkaachkodimaaDoorChecked
import GoSem.PinnedTables
import GoSem.Claim
import GoSem.ClaimJoined
import GoSem.ClaimMapViews
import Derived.JoinedTies
import Derived.KernelRfl
namespace Go.Proofs.YtdgkaachkodimaaDoor
/- THE CELL 'sum', in the pinned program and in every row, IS THE sha256 OF THE DUMP (.gsa) THAT YtdgkaachkodimaaDoorProg.lean LOADS. Nothing in Lean hashes anything: it is a label: what it is worth is what the hold of that sum in a sandbox is worth. -/
noncomputable def Tryd.pinned : Pinned := { name := "ytdgkaachkodimaadoor", sum := "b56b1a5142893ae0ceccdf3fcdbeb8564fe4175b6fdaa4d65abcafc3734cd135", checked := Tryd.checked }
namespace Rows
def none {H : Type} : Left H := { results := [], args := [] }

/- WHAT THE LISTED PACKAGE-LEVEL VARIABLES READ AS WHEN THE CALL BEGINS. Each datum BY PROGRAM (the guide's laid-datum.mjs) off the statement by which the dump's own 'gosem.cut.vars' lays the variable. In a bare row this is a premise. The card (YtdgkaachkodimaaDoorCards.lean) ties it to the program's text. -/
def laid_unicode_utf8_acceptRanges {H : Type} : DataW H := .agg [.agg [.lit (.int .u8 128), .lit (.int .u8 191)], .agg [.lit (.int .u8 160), .lit (.int .u8 191)], .agg [.lit (.int .u8 128), .lit (.int .u8 159)], .agg [.lit (.int .u8 144), .lit (.int .u8 191)], .agg [.lit (.int .u8 128), .lit (.int .u8 143)], .agg [.lit (.int .u8 0), .lit (.int .u8 0)], .agg [.lit (.int .u8 0), .lit (.int .u8 0)], .agg [.lit (.int .u8 0), .lit (.int .u8 0)], .agg [.lit (.int .u8 0), .lit (.int .u8 0)], .agg [.lit (.int .u8 0), .lit (.int .u8 0)], .agg [.lit (.int .u8 0), .lit (.int .u8 0)], .agg [.lit (.int .u8 0), .lit (.int .u8 0)], .agg [.lit (.int .u8 0), .lit (.int .u8 0)], .agg [.lit (.int .u8 0), .lit (.int .u8 0)], .agg [.lit (.int .u8 0), .lit (.int .u8 0)], .agg [.lit (.int .u8 0), .lit (.int .u8 0)]]
/-- One of Go's own tables, pinned by name: the form's constant. -/
def laid_unicode_utf8_first : DataW Unit := Go.Pinned.utf8First

/-- 'motleylaw26.BigFractions': WHATEVER THE INPUT: true; the input reads as it did. -/
def bigFractionsSpec : ChangeSpec := { name := "bigFractions", fn := fun _ => fun
  | [d1, d2, d3] => { results := [.lit (.bool true)], args := [d1, d2, d3] }
  | _ => none }
def bigFractionsRow : OpenClaim := { program := "ytdgkaachkodimaadoor", sum := "b56b1a5142893ae0ceccdf3fcdbeb8564fe4175b6fdaa4d65abcafc3734cd135", func := "motley/motleylaw26.BigFractions", spec := "bigFractions", inPlace := ["internal/bytealg.IndexByteString", "internal/bytealg.IndexString", "internal/abi.NoEscape"], unfollowed := true, recurses := true, named := ["unicode/utf8.first", "unicode/utf8.acceptRanges", "internal/bytealg.MaxLen"], apart := false, laid := [("unicode/utf8.acceptRanges", laid_unicode_utf8_acceptRanges), ("unicode/utf8.first", laid_unicode_utf8_first)] }
def BigFractionsSaid : Prop := bigFractionsRow.holds Tryd.pinned (OpenSpec.ofChange bigFractionsSpec)

/-- ITS FALSE NEIGHBOUR: 'it returns false'. Refute it at one input. -/
def bigFractionsWrong : ChangeSpec := { name := "bigFractions", fn := fun _ => fun
  | [d1, d2, d3] => { results := [.lit (.bool false)], args := [d1, d2, d3] }
  | _ => none }
def BigFractionsWrongFalsely : Prop := bigFractionsRow.holds Tryd.pinned (OpenSpec.ofChange bigFractionsWrong)

/-- 'motleylaw26.BigDivides': WHATEVER THE INPUT: true; the input reads as it did. -/
def bigDividesSpec : ChangeSpec := { name := "bigDivides", fn := fun _ => fun
  | [d1, d2] => { results := [.lit (.bool true)], args := [d1, d2] }
  | _ => none }
def bigDividesRow : OpenClaim := { program := "ytdgkaachkodimaadoor", sum := "b56b1a5142893ae0ceccdf3fcdbeb8564fe4175b6fdaa4d65abcafc3734cd135", func := "motley/motleylaw26.BigDivides", spec := "bigDivides", inPlace := ["internal/bytealg.IndexByteString", "internal/bytealg.IndexString", "internal/abi.NoEscape"], unfollowed := true, recurses := true, named := ["unicode/utf8.first", "unicode/utf8.acceptRanges", "internal/bytealg.MaxLen"], apart := false, laid := [("unicode/utf8.acceptRanges", laid_unicode_utf8_acceptRanges), ("unicode/utf8.first", laid_unicode_utf8_first)] }
def BigDividesSaid : Prop := bigDividesRow.holds Tryd.pinned (OpenSpec.ofChange bigDividesSpec)

/-- ITS FALSE NEIGHBOUR: 'it returns false'. Refute it at one input. -/
def bigDividesWrong : ChangeSpec := { name := "bigDivides", fn := fun _ => fun
  | [d1, d2] => { results := [.lit (.bool false)], args := [d1, d2] }
  | _ => none }
def BigDividesWrongFalsely : Prop := bigDividesRow.holds Tryd.pinned (OpenSpec.ofChange bigDividesWrong)

/-- 'motleylaw26.BigRings': WHATEVER THE INPUT: true; the input reads as it did. -/
def bigRingsSpec : ChangeSpec := { name := "bigRings", fn := fun _ => fun
  | [d1, d2, d3] => { results := [.lit (.bool true)], args := [d1, d2, d3] }
  | _ => none }
def bigRingsRow : OpenClaim := { program := "ytdgkaachkodimaadoor", sum := "b56b1a5142893ae0ceccdf3fcdbeb8564fe4175b6fdaa4d65abcafc3734cd135", func := "motley/motleylaw26.BigRings", spec := "bigRings", inPlace := ["internal/bytealg.IndexByteString", "internal/bytealg.IndexString", "internal/abi.NoEscape"], unfollowed := true, recurses := true, named := ["unicode/utf8.first", "unicode/utf8.acceptRanges", "internal/bytealg.MaxLen"], apart := false, laid := [("unicode/utf8.acceptRanges", laid_unicode_utf8_acceptRanges), ("unicode/utf8.first", laid_unicode_utf8_first)] }
def BigRingsSaid : Prop := bigRingsRow.holds Tryd.pinned (OpenSpec.ofChange bigRingsSpec)

/-- ITS FALSE NEIGHBOUR: 'it returns false'. Refute it at one input. -/
def bigRingsWrong : ChangeSpec := { name := "bigRings", fn := fun _ => fun
  | [d1, d2, d3] => { results := [.lit (.bool false)], args := [d1, d2, d3] }
  | _ => none }
def BigRingsWrongFalsely : Prop := bigRingsRow.holds Tryd.pinned (OpenSpec.ofChange bigRingsWrong)

/-- 'motleylaw26.BigPowers': WHATEVER THE INPUT: true; the input reads as it did. -/
def bigPowersSpec : ChangeSpec := { name := "bigPowers", fn := fun _ => fun
  | [d1, d2] => { results := [.lit (.bool true)], args := [d1, d2] }
  | _ => none }
def bigPowersRow : OpenClaim := { program := "ytdgkaachkodimaadoor", sum := "b56b1a5142893ae0ceccdf3fcdbeb8564fe4175b6fdaa4d65abcafc3734cd135", func := "motley/motleylaw26.BigPowers", spec := "bigPowers", inPlace := ["internal/bytealg.IndexByteString", "internal/bytealg.IndexString", "internal/abi.NoEscape"], unfollowed := true, recurses := true, named := ["unicode/utf8.first", "unicode/utf8.acceptRanges", "internal/bytealg.MaxLen"], apart := false, laid := [("unicode/utf8.acceptRanges", laid_unicode_utf8_acceptRanges), ("unicode/utf8.first", laid_unicode_utf8_first)] }
def BigPowersSaid : Prop := bigPowersRow.holds Tryd.pinned (OpenSpec.ofChange bigPowersSpec)

/-- ITS FALSE NEIGHBOUR: 'it returns false'. Refute it at one input. -/
def bigPowersWrong : ChangeSpec := { name := "bigPowers", fn := fun _ => fun
  | [d1, d2] => { results := [.lit (.bool false)], args := [d1, d2] }
  | _ => none }
def BigPowersWrongFalsely : Prop := bigPowersRow.holds Tryd.pinned (OpenSpec.ofChange bigPowersWrong)

/-- 'motleylaw26.BigCounts': WHATEVER THE INPUT: true; the input reads as it did. -/
def bigCountsSpec : ChangeSpec := { name := "bigCounts", fn := fun _ => fun
  | [d1, d2] => { results := [.lit (.bool true)], args := [d1, d2] }
  | _ => none }
def bigCountsRow : OpenClaim := { program := "ytdgkaachkodimaadoor", sum := "b56b1a5142893ae0ceccdf3fcdbeb8564fe4175b6fdaa4d65abcafc3734cd135", func := "motley/motleylaw26.BigCounts", spec := "bigCounts", inPlace := ["internal/abi.NoEscape", "internal/bytealg.IndexByteString", "internal/bytealg.IndexString"], unfollowed := true, recurses := true, named := ["unicode/utf8.first", "unicode/utf8.acceptRanges", "internal/bytealg.MaxLen"], apart := false, laid := [("unicode/utf8.acceptRanges", laid_unicode_utf8_acceptRanges), ("unicode/utf8.first", laid_unicode_utf8_first)] }
def BigCountsSaid : Prop := bigCountsRow.holds Tryd.pinned (OpenSpec.ofChange bigCountsSpec)

/-- ITS FALSE NEIGHBOUR: 'it returns false'. Refute it at one input. -/
def bigCountsWrong : ChangeSpec := { name := "bigCounts", fn := fun _ => fun
  | [d1, d2] => { results := [.lit (.bool false)], args := [d1, d2] }
  | _ => none }
def BigCountsWrongFalsely : Prop := bigCountsRow.holds Tryd.pinned (OpenSpec.ofChange bigCountsWrong)

/-- 'motleylaw26.BigSums': WHATEVER THE INPUT: true; the input reads as it did. -/
def bigSumsSpec : ChangeSpec := { name := "bigSums", fn := fun _ => fun
  | [d1, d2] => { results := [.lit (.bool true)], args := [d1, d2] }
  | _ => none }
def bigSumsRow : OpenClaim := { program := "ytdgkaachkodimaadoor", sum := "b56b1a5142893ae0ceccdf3fcdbeb8564fe4175b6fdaa4d65abcafc3734cd135", func := "motley/motleylaw26.BigSums", spec := "bigSums", inPlace := ["internal/bytealg.IndexByteString", "internal/bytealg.IndexString", "internal/abi.NoEscape"], unfollowed := true, recurses := true, named := ["unicode/utf8.first", "unicode/utf8.acceptRanges", "internal/bytealg.MaxLen"], apart := false, laid := [("unicode/utf8.acceptRanges", laid_unicode_utf8_acceptRanges), ("unicode/utf8.first", laid_unicode_utf8_first)] }
def BigSumsSaid : Prop := bigSumsRow.holds Tryd.pinned (OpenSpec.ofChange bigSumsSpec)

/-- ITS FALSE NEIGHBOUR: 'it returns false'. Refute it at one input. -/
def bigSumsWrong : ChangeSpec := { name := "bigSums", fn := fun _ => fun
  | [d1, d2] => { results := [.lit (.bool false)], args := [d1, d2] }
  | _ => none }
def BigSumsWrongFalsely : Prop := bigSumsRow.holds Tryd.pinned (OpenSpec.ofChange bigSumsWrong)

/-- 'motleylaw26.BigGcds': WHATEVER THE INPUT: true; the input reads as it did. -/
def bigGcdsSpec : ChangeSpec := { name := "bigGcds", fn := fun _ => fun
  | [d1, d2] => { results := [.lit (.bool true)], args := [d1, d2] }
  | _ => none }
def bigGcdsRow : OpenClaim := { program := "ytdgkaachkodimaadoor", sum := "b56b1a5142893ae0ceccdf3fcdbeb8564fe4175b6fdaa4d65abcafc3734cd135", func := "motley/motleylaw26.BigGcds", spec := "bigGcds", inPlace := ["internal/bytealg.IndexByteString", "internal/bytealg.IndexString", "internal/abi.NoEscape"], unfollowed := true, recurses := true, named := ["unicode/utf8.first", "unicode/utf8.acceptRanges", "internal/bytealg.MaxLen"], apart := false, laid := [("unicode/utf8.acceptRanges", laid_unicode_utf8_acceptRanges), ("unicode/utf8.first", laid_unicode_utf8_first)] }
def BigGcdsSaid : Prop := bigGcdsRow.holds Tryd.pinned (OpenSpec.ofChange bigGcdsSpec)

/-- ITS FALSE NEIGHBOUR: 'it returns false'. Refute it at one input. -/
def bigGcdsWrong : ChangeSpec := { name := "bigGcds", fn := fun _ => fun
  | [d1, d2] => { results := [.lit (.bool false)], args := [d1, d2] }
  | _ => none }
def BigGcdsWrongFalsely : Prop := bigGcdsRow.holds Tryd.pinned (OpenSpec.ofChange bigGcdsWrong)

/-- 'motleylaw26.BigPowerMods': WHATEVER THE INPUT: true; the input reads as it did. -/
def bigPowerModsSpec : ChangeSpec := { name := "bigPowerMods", fn := fun _ => fun
  | [d1, d2, d3] => { results := [.lit (.bool true)], args := [d1, d2, d3] }
  | _ => none }
def bigPowerModsRow : OpenClaim := { program := "ytdgkaachkodimaadoor", sum := "b56b1a5142893ae0ceccdf3fcdbeb8564fe4175b6fdaa4d65abcafc3734cd135", func := "motley/motleylaw26.BigPowerMods", spec := "bigPowerMods", inPlace := ["internal/bytealg.IndexByteString", "internal/bytealg.IndexString", "internal/abi.NoEscape"], unfollowed := true, recurses := true, named := ["unicode/utf8.first", "unicode/utf8.acceptRanges", "internal/bytealg.MaxLen"], apart := false, laid := [("unicode/utf8.acceptRanges", laid_unicode_utf8_acceptRanges), ("unicode/utf8.first", laid_unicode_utf8_first)] }
def BigPowerModsSaid : Prop := bigPowerModsRow.holds Tryd.pinned (OpenSpec.ofChange bigPowerModsSpec)

/-- ITS FALSE NEIGHBOUR: 'it returns false'. Refute it at one input. -/
def bigPowerModsWrong : ChangeSpec := { name := "bigPowerMods", fn := fun _ => fun
  | [d1, d2, d3] => { results := [.lit (.bool false)], args := [d1, d2, d3] }
  | _ => none }
def BigPowerModsWrongFalsely : Prop := bigPowerModsRow.holds Tryd.pinned (OpenSpec.ofChange bigPowerModsWrong)

/-- 'motleylaw26.BigPrimes': WHATEVER THE INPUT: true; the input reads as it did. -/
def bigPrimesSpec : ChangeSpec := { name := "bigPrimes", fn := fun _ => fun
  | [d] => { results := [.lit (.bool true)], args := [d] }
  | _ => none }
def bigPrimesRow : OpenClaim := { program := "ytdgkaachkodimaadoor", sum := "b56b1a5142893ae0ceccdf3fcdbeb8564fe4175b6fdaa4d65abcafc3734cd135", func := "motley/motleylaw26.BigPrimes", spec := "bigPrimes", inPlace := ["internal/bytealg.IndexByteString", "internal/bytealg.IndexString", "internal/abi.NoEscape"], unfollowed := true, recurses := true, named := ["unicode/utf8.first", "unicode/utf8.acceptRanges", "internal/bytealg.MaxLen"], apart := false, laid := [("unicode/utf8.acceptRanges", laid_unicode_utf8_acceptRanges), ("unicode/utf8.first", laid_unicode_utf8_first)] }
def BigPrimesSaid : Prop := bigPrimesRow.holds Tryd.pinned (OpenSpec.ofChange bigPrimesSpec)

/-- ITS FALSE NEIGHBOUR: 'it returns false'. Refute it at one input. -/
def bigPrimesWrong : ChangeSpec := { name := "bigPrimes", fn := fun _ => fun
  | [d] => { results := [.lit (.bool false)], args := [d] }
  | _ => none }
def BigPrimesWrongFalsely : Prop := bigPrimesRow.holds Tryd.pinned (OpenSpec.ofChange bigPrimesWrong)

/- THE SECOND FORM. 'bulk': how many values and letters a reading holds, each counted each time it is reached (what is shared counts as often as it is met; a slice's spare places count too). A statement '..UptoSaid' is the law's where the arguments, and the package variables that the reading takes, are together of bulk at most 1048576: NARROWER than '..Said'. Prove '..Said' where nothing that the law and all that it calls make is longer than what came in: it says more and counts as full. Else prove '..UptoSaid'. A law counts once. -/
mutual
def uptoBulk {H : Type} : DataW H → Nat
  | .lit (.string bytes) => bytes.length + 1
  | .lit _ => 1
  | .nil => 1
  | .ptr d => uptoBulk d + 1
  | .slice elems spare => uptoBulkAll elems + uptoBulkAll spare + 1
  | .agg parts => uptoBulkAll parts + 1
  | .iface _ d => uptoBulk d + 1
  | .map entries => uptoBulkEntries entries + 1
  | .held _ => 1
def uptoBulkAll {H : Type} : List (DataW H) → Nat
  | [] => 0
  | d :: r => uptoBulk d + uptoBulkAll r
def uptoBulkEntries {H : Type} : List (Lit × DataW H) → Nat
  | [] => 0
  | x :: r => uptoBulkEntry x + uptoBulkEntries r
def uptoBulkEntry {H : Type} : Lit × DataW H → Nat
  | (.string bytes, d) => bytes.length + uptoBulk d + 1
  | (_, d) => uptoBulk d + 1
 end
def uptoSmall : (H : Type) → List (DataW H) → Bool := fun _ ds => decide (uptoBulkAll ds ≤ 1048576)
def OpenSpec.upto (s : _root_.Go.ChangeSpec) : _root_.Go.OpenSpec := { _root_.Go.OpenSpec.ofChange s with cond := some uptoSmall }

/-- 'motleylaw26.BigFractions', WHERE WHAT IT READS IS OF BULK AT MOST 1048576: true; the input reads as it did. -/
def bigFractionsUptoRow : OpenClaim := { program := "ytdgkaachkodimaadoor", sum := "b56b1a5142893ae0ceccdf3fcdbeb8564fe4175b6fdaa4d65abcafc3734cd135", func := "motley/motleylaw26.BigFractions", spec := "bigFractions", inPlace := ["internal/bytealg.IndexByteString", "internal/bytealg.IndexString", "internal/abi.NoEscape"], unfollowed := true, recurses := true, named := ["unicode/utf8.first", "unicode/utf8.acceptRanges", "internal/bytealg.MaxLen"], apart := false, laid := [("unicode/utf8.acceptRanges", laid_unicode_utf8_acceptRanges), ("unicode/utf8.first", laid_unicode_utf8_first)], narrowed := true }
def BigFractionsUptoSaid : Prop := bigFractionsUptoRow.holds Tryd.pinned (OpenSpec.upto bigFractionsSpec)

/-- 'motleylaw26.BigDivides', WHERE WHAT IT READS IS OF BULK AT MOST 1048576: true; the input reads as it did. -/
def bigDividesUptoRow : OpenClaim := { program := "ytdgkaachkodimaadoor", sum := "b56b1a5142893ae0ceccdf3fcdbeb8564fe4175b6fdaa4d65abcafc3734cd135", func := "motley/motleylaw26.BigDivides", spec := "bigDivides", inPlace := ["internal/bytealg.IndexByteString", "internal/bytealg.IndexString", "internal/abi.NoEscape"], unfollowed := true, recurses := true, named := ["unicode/utf8.first", "unicode/utf8.acceptRanges", "internal/bytealg.MaxLen"], apart := false, laid := [("unicode/utf8.acceptRanges", laid_unicode_utf8_acceptRanges), ("unicode/utf8.first", laid_unicode_utf8_first)], narrowed := true }
def BigDividesUptoSaid : Prop := bigDividesUptoRow.holds Tryd.pinned (OpenSpec.upto bigDividesSpec)

/-- 'motleylaw26.BigRings', WHERE WHAT IT READS IS OF BULK AT MOST 1048576: true; the input reads as it did. -/
def bigRingsUptoRow : OpenClaim := { program := "ytdgkaachkodimaadoor", sum := "b56b1a5142893ae0ceccdf3fcdbeb8564fe4175b6fdaa4d65abcafc3734cd135", func := "motley/motleylaw26.BigRings", spec := "bigRings", inPlace := ["internal/bytealg.IndexByteString", "internal/bytealg.IndexString", "internal/abi.NoEscape"], unfollowed := true, recurses := true, named := ["unicode/utf8.first", "unicode/utf8.acceptRanges", "internal/bytealg.MaxLen"], apart := false, laid := [("unicode/utf8.acceptRanges", laid_unicode_utf8_acceptRanges), ("unicode/utf8.first", laid_unicode_utf8_first)], narrowed := true }
def BigRingsUptoSaid : Prop := bigRingsUptoRow.holds Tryd.pinned (OpenSpec.upto bigRingsSpec)

/-- 'motleylaw26.BigPowers', WHERE WHAT IT READS IS OF BULK AT MOST 1048576: true; the input reads as it did. -/
def bigPowersUptoRow : OpenClaim := { program := "ytdgkaachkodimaadoor", sum := "b56b1a5142893ae0ceccdf3fcdbeb8564fe4175b6fdaa4d65abcafc3734cd135", func := "motley/motleylaw26.BigPowers", spec := "bigPowers", inPlace := ["internal/bytealg.IndexByteString", "internal/bytealg.IndexString", "internal/abi.NoEscape"], unfollowed := true, recurses := true, named := ["unicode/utf8.first", "unicode/utf8.acceptRanges", "internal/bytealg.MaxLen"], apart := false, laid := [("unicode/utf8.acceptRanges", laid_unicode_utf8_acceptRanges), ("unicode/utf8.first", laid_unicode_utf8_first)], narrowed := true }
def BigPowersUptoSaid : Prop := bigPowersUptoRow.holds Tryd.pinned (OpenSpec.upto bigPowersSpec)

/-- 'motleylaw26.BigCounts', WHERE WHAT IT READS IS OF BULK AT MOST 1048576: true; the input reads as it did. -/
def bigCountsUptoRow : OpenClaim := { program := "ytdgkaachkodimaadoor", sum := "b56b1a5142893ae0ceccdf3fcdbeb8564fe4175b6fdaa4d65abcafc3734cd135", func := "motley/motleylaw26.BigCounts", spec := "bigCounts", inPlace := ["internal/abi.NoEscape", "internal/bytealg.IndexByteString", "internal/bytealg.IndexString"], unfollowed := true, recurses := true, named := ["unicode/utf8.first", "unicode/utf8.acceptRanges", "internal/bytealg.MaxLen"], apart := false, laid := [("unicode/utf8.acceptRanges", laid_unicode_utf8_acceptRanges), ("unicode/utf8.first", laid_unicode_utf8_first)], narrowed := true }
def BigCountsUptoSaid : Prop := bigCountsUptoRow.holds Tryd.pinned (OpenSpec.upto bigCountsSpec)

/-- 'motleylaw26.BigSums', WHERE WHAT IT READS IS OF BULK AT MOST 1048576: true; the input reads as it did. -/
def bigSumsUptoRow : OpenClaim := { program := "ytdgkaachkodimaadoor", sum := "b56b1a5142893ae0ceccdf3fcdbeb8564fe4175b6fdaa4d65abcafc3734cd135", func := "motley/motleylaw26.BigSums", spec := "bigSums", inPlace := ["internal/bytealg.IndexByteString", "internal/bytealg.IndexString", "internal/abi.NoEscape"], unfollowed := true, recurses := true, named := ["unicode/utf8.first", "unicode/utf8.acceptRanges", "internal/bytealg.MaxLen"], apart := false, laid := [("unicode/utf8.acceptRanges", laid_unicode_utf8_acceptRanges), ("unicode/utf8.first", laid_unicode_utf8_first)], narrowed := true }
def BigSumsUptoSaid : Prop := bigSumsUptoRow.holds Tryd.pinned (OpenSpec.upto bigSumsSpec)

/-- 'motleylaw26.BigGcds', WHERE WHAT IT READS IS OF BULK AT MOST 1048576: true; the input reads as it did. -/
def bigGcdsUptoRow : OpenClaim := { program := "ytdgkaachkodimaadoor", sum := "b56b1a5142893ae0ceccdf3fcdbeb8564fe4175b6fdaa4d65abcafc3734cd135", func := "motley/motleylaw26.BigGcds", spec := "bigGcds", inPlace := ["internal/bytealg.IndexByteString", "internal/bytealg.IndexString", "internal/abi.NoEscape"], unfollowed := true, recurses := true, named := ["unicode/utf8.first", "unicode/utf8.acceptRanges", "internal/bytealg.MaxLen"], apart := false, laid := [("unicode/utf8.acceptRanges", laid_unicode_utf8_acceptRanges), ("unicode/utf8.first", laid_unicode_utf8_first)], narrowed := true }
def BigGcdsUptoSaid : Prop := bigGcdsUptoRow.holds Tryd.pinned (OpenSpec.upto bigGcdsSpec)

/-- 'motleylaw26.BigPowerMods', WHERE WHAT IT READS IS OF BULK AT MOST 1048576: true; the input reads as it did. -/
def bigPowerModsUptoRow : OpenClaim := { program := "ytdgkaachkodimaadoor", sum := "b56b1a5142893ae0ceccdf3fcdbeb8564fe4175b6fdaa4d65abcafc3734cd135", func := "motley/motleylaw26.BigPowerMods", spec := "bigPowerMods", inPlace := ["internal/bytealg.IndexByteString", "internal/bytealg.IndexString", "internal/abi.NoEscape"], unfollowed := true, recurses := true, named := ["unicode/utf8.first", "unicode/utf8.acceptRanges", "internal/bytealg.MaxLen"], apart := false, laid := [("unicode/utf8.acceptRanges", laid_unicode_utf8_acceptRanges), ("unicode/utf8.first", laid_unicode_utf8_first)], narrowed := true }
def BigPowerModsUptoSaid : Prop := bigPowerModsUptoRow.holds Tryd.pinned (OpenSpec.upto bigPowerModsSpec)

/-- 'motleylaw26.BigPrimes', WHERE WHAT IT READS IS OF BULK AT MOST 1048576: true; the input reads as it did. -/
def bigPrimesUptoRow : OpenClaim := { program := "ytdgkaachkodimaadoor", sum := "b56b1a5142893ae0ceccdf3fcdbeb8564fe4175b6fdaa4d65abcafc3734cd135", func := "motley/motleylaw26.BigPrimes", spec := "bigPrimes", inPlace := ["internal/bytealg.IndexByteString", "internal/bytealg.IndexString", "internal/abi.NoEscape"], unfollowed := true, recurses := true, named := ["unicode/utf8.first", "unicode/utf8.acceptRanges", "internal/bytealg.MaxLen"], apart := false, laid := [("unicode/utf8.acceptRanges", laid_unicode_utf8_acceptRanges), ("unicode/utf8.first", laid_unicode_utf8_first)], narrowed := true }
def BigPrimesUptoSaid : Prop := bigPrimesUptoRow.holds Tryd.pinned (OpenSpec.upto bigPrimesSpec)

end Rows
end Go.Proofs.YtdgkaachkodimaaDoor
