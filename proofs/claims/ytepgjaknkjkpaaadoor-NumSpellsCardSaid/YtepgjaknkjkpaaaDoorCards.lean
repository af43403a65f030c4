/-
  DERIVED. GIVEN WITH THE SEED: THE CARDS: each row of YtepgjaknkjkpaaaDoorRows.lean that lists a variable, with what it lists TIED to the program's text (the seventh form; the later family's looks); each row that meets fmt, with fmt's text TOLD by the authors' own Lean function (tested against real Go, not proved from fmt's source: count such statements apart). THE CARD IS WHAT COUNTS. Prove the row's statement (the work); the ties are given (YtepgjaknkjkpaaaDoorTie.lean); close each card by the builder's one call (the guide's Derived/Test/ToyasCard.lean, 'card_holds'). Laid BY PROGRAM, IN A SANDBOX (cutbox-door.mjs). By AI agents, Wed Nov 11 2026. No macro, syntax, notation, axiom, sorry.
-/
import Derived.Test.YtepgjaknkjkpaaaDoorRows
import GoSem.ClaimSeven
namespace Go.Proofs.YtepgjaknkjkpaaaDoor
namespace Rows

/-- THE TIED CARD OF 'motleylaw01.NumScalars'. -/
def numScalarsCard : Claim7 := { stood := { row := numScalarsRow, standIns := [], harness := (true, "4d73ce893f696e2a95237bd8d7fcdf77e25f636bccb08aa21be4246aab1ab84f"), looks := false }, kinds := [], alts := [], laidByText := true, laidKinds := [.data, .data, .data], laidTests := true, laidLooks := .later }
def NumScalarsCardSaid : Prop := Claim7.holds Tryd.pinned (.plain (OpenSpec.ofChange numScalarsSpec)) numScalarsCard

/-- THE TIED CARD OF 'motleylaw01.NumNexts'. -/
def numNextsCard : Claim7 := { stood := { row := numNextsRow, standIns := [], harness := (true, "4d73ce893f696e2a95237bd8d7fcdf77e25f636bccb08aa21be4246aab1ab84f"), looks := false }, kinds := [], alts := [], laidByText := true, laidKinds := [.data, .data, .data], laidTests := true, laidLooks := .later }
def NumNextsCardSaid : Prop := Claim7.holds Tryd.pinned (.plain (OpenSpec.ofChange numNextsSpec)) numNextsCard

/-- THE TIED CARD OF 'motleylaw01.NumSpells'. -/
def numSpellsCard : Claim7 := { stood := { row := numSpellsRow, standIns := [], harness := (true, "4d73ce893f696e2a95237bd8d7fcdf77e25f636bccb08aa21be4246aab1ab84f"), looks := false }, kinds := [], alts := [], laidByText := true, laidKinds := [.data, .data, .data], laidTests := true, laidLooks := .later }
def NumSpellsCardSaid : Prop := Claim7.holds Tryd.pinned (.plain (OpenSpec.ofChange numSpellsSpec)) numSpellsCard

/-- THE TIED CARD OF 'motleylaw01.NumRanges'. -/
def numRangesCard : Claim7 := { stood := { row := numRangesRow, standIns := [], harness := (true, "4d73ce893f696e2a95237bd8d7fcdf77e25f636bccb08aa21be4246aab1ab84f"), looks := false }, kinds := [], alts := [], laidByText := true, laidKinds := [.data, .data, .data], laidTests := true, laidLooks := .later }
def NumRangesCardSaid : Prop := Claim7.holds Tryd.pinned (.plain (OpenSpec.ofChange numRangesSpec)) numRangesCard

/-- THE SECOND FORM's CARD OF 'motleylaw01.NumScalars'. -/
def numScalarsUptoCard : Claim7 := { stood := { row := numScalarsUptoRow, standIns := [], harness := (true, "4d73ce893f696e2a95237bd8d7fcdf77e25f636bccb08aa21be4246aab1ab84f"), looks := false }, kinds := [], alts := [], laidByText := true, laidKinds := [.data, .data, .data], laidTests := true, laidLooks := .later }
def NumScalarsUptoCardSaid : Prop := Claim7.holds Tryd.pinned (.plain (OpenSpec.upto numScalarsSpec)) numScalarsUptoCard

/-- THE SECOND FORM's CARD OF 'motleylaw01.NumNexts'. -/
def numNextsUptoCard : Claim7 := { stood := { row := numNextsUptoRow, standIns := [], harness := (true, "4d73ce893f696e2a95237bd8d7fcdf77e25f636bccb08aa21be4246aab1ab84f"), looks := false }, kinds := [], alts := [], laidByText := true, laidKinds := [.data, .data, .data], laidTests := true, laidLooks := .later }
def NumNextsUptoCardSaid : Prop := Claim7.holds Tryd.pinned (.plain (OpenSpec.upto numNextsSpec)) numNextsUptoCard

/-- THE SECOND FORM's CARD OF 'motleylaw01.NumSpells'. -/
def numSpellsUptoCard : Claim7 := { stood := { row := numSpellsUptoRow, standIns := [], harness := (true, "4d73ce893f696e2a95237bd8d7fcdf77e25f636bccb08aa21be4246aab1ab84f"), looks := false }, kinds := [], alts := [], laidByText := true, laidKinds := [.data, .data, .data], laidTests := true, laidLooks := .later }
def NumSpellsUptoCardSaid : Prop := Claim7.holds Tryd.pinned (.plain (OpenSpec.upto numSpellsSpec)) numSpellsUptoCard

/-- THE SECOND FORM's CARD OF 'motleylaw01.NumRanges'. -/
def numRangesUptoCard : Claim7 := { stood := { row := numRangesUptoRow, standIns := [], harness := (true, "4d73ce893f696e2a95237bd8d7fcdf77e25f636bccb08aa21be4246aab1ab84f"), looks := false }, kinds := [], alts := [], laidByText := true, laidKinds := [.data, .data, .data], laidTests := true, laidLooks := .later }
def NumRangesUptoCardSaid : Prop := Claim7.holds Tryd.pinned (.plain (OpenSpec.upto numRangesSpec)) numRangesUptoCard
end Rows
end Go.Proofs.YtepgjaknkjkpaaaDoor
