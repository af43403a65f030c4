/-
  DERIVED. GIVEN WITH THE SEED: THE CARDS: each row of YtjmiblcdjkcgoaaDoorRows.lean that lists a variable, with what it lists TIED to the program's text (the seventh form; the later family's looks); each row that meets fmt, with fmt's text TOLD by the authors' own Lean function (tested against real Go, not proved from fmt's source: count such statements apart). THE CARD IS WHAT COUNTS. Prove the row's statement (the work); the ties are given (YtjmiblcdjkcgoaaDoorTie.lean); close each card by the builder's one call (the guide's Derived/Test/ToyasCard.lean, 'card_holds'). Laid BY PROGRAM, IN A SANDBOX (cutbox-door.mjs). By AI agents, Wed Nov 11 2026. No macro, syntax, notation, axiom, sorry.
-/
import Derived.Test.YtjmiblcdjkcgoaaDoorRows
import GoSem.ClaimSeven
namespace Go.Proofs.YtjmiblcdjkcgoaaDoor
namespace Rows

/-- THE TIED CARD OF 'motleylaw11.ListFirsts'. -/
def listFirstsCard : Claim7 := { stood := { row := listFirstsRow, standIns := [], harness := (true, "2d354dc69d92e4cac16f0a0a95526994c1ea54847f03c922f32036a818388cbd"), looks := false }, kinds := [], alts := [], laidByText := true, laidKinds := [.data, .data, .data], laidTests := true, laidLooks := .later }
def ListFirstsCardSaid : Prop := Claim7.holds Tryd.pinned (.plain (OpenSpec.ofChange listFirstsSpec)) listFirstsCard

/-- THE SECOND FORM's CARD OF 'motleylaw11.ListFirsts'. -/
def listFirstsUptoCard : Claim7 := { stood := { row := listFirstsUptoRow, standIns := [], harness := (true, "2d354dc69d92e4cac16f0a0a95526994c1ea54847f03c922f32036a818388cbd"), looks := false }, kinds := [], alts := [], laidByText := true, laidKinds := [.data, .data, .data], laidTests := true, laidLooks := .later }
def ListFirstsUptoCardSaid : Prop := Claim7.holds Tryd.pinned (.plain (OpenSpec.upto listFirstsSpec)) listFirstsUptoCard
end Rows
end Go.Proofs.YtjmiblcdjkcgoaaDoor
