/-
  DERIVED. GIVEN WITH THE SEED: THE CARDS: each row of YtdgkaachkodimaaDoorRows.lean that lists a variable, with what it lists TIED to the program's text (the seventh form; the later family's looks); each row that meets fmt, with fmt's text TOLD by the authors' own Lean function (tested against real Go, not proved from fmt's source: count such statements apart). THE CARD IS WHAT COUNTS. Prove the row's statement (the work); the ties are given (YtdgkaachkodimaaDoorTie.lean); close each card by the builder's one call (the guide's Derived/Test/ToyasCard.lean, 'card_holds'). Laid BY PROGRAM, IN A SANDBOX (cutbox-door.mjs). By AI agents, Wed Nov 11 2026. No macro, syntax, notation, axiom, sorry.
-/
import Derived.Test.YtdgkaachkodimaaDoorRows
import GoSem.ClaimSeven
namespace Go.Proofs.YtdgkaachkodimaaDoor
namespace Rows

/-- THE TIED CARD OF 'motleylaw26.BigFractions'. -/
def bigFractionsCard : Claim7 := { stood := { row := bigFractionsRow, standIns := [], harness := (true, "b3baa6b3d893dcb23aff2e95564e70f411a9c4369041c96b06e3af8b00e9e01c"), looks := false }, kinds := [], alts := [], laidByText := true, laidKinds := [.data, .pinned], laidTests := true, laidLooks := .later }
def BigFractionsCardSaid : Prop := Claim7.holds Tryd.pinned (.plain (OpenSpec.ofChange bigFractionsSpec)) bigFractionsCard

/-- THE TIED CARD OF 'motleylaw26.BigDivides'. -/
def bigDividesCard : Claim7 := { stood := { row := bigDividesRow, standIns := [], harness := (true, "b3baa6b3d893dcb23aff2e95564e70f411a9c4369041c96b06e3af8b00e9e01c"), looks := false }, kinds := [], alts := [], laidByText := true, laidKinds := [.data, .pinned], laidTests := true, laidLooks := .later }
def BigDividesCardSaid : Prop := Claim7.holds Tryd.pinned (.plain (OpenSpec.ofChange bigDividesSpec)) bigDividesCard

/-- THE TIED CARD OF 'motleylaw26.BigRings'. -/
def bigRingsCard : Claim7 := { stood := { row := bigRingsRow, standIns := [], harness := (true, "b3baa6b3d893dcb23aff2e95564e70f411a9c4369041c96b06e3af8b00e9e01c"), looks := false }, kinds := [], alts := [], laidByText := true, laidKinds := [.data, .pinned], laidTests := true, laidLooks := .later }
def BigRingsCardSaid : Prop := Claim7.holds Tryd.pinned (.plain (OpenSpec.ofChange bigRingsSpec)) bigRingsCard

/-- THE TIED CARD OF 'motleylaw26.BigPowers'. -/
def bigPowersCard : Claim7 := { stood := { row := bigPowersRow, standIns := [], harness := (true, "b3baa6b3d893dcb23aff2e95564e70f411a9c4369041c96b06e3af8b00e9e01c"), looks := false }, kinds := [], alts := [], laidByText := true, laidKinds := [.data, .pinned], laidTests := true, laidLooks := .later }
def BigPowersCardSaid : Prop := Claim7.holds Tryd.pinned (.plain (OpenSpec.ofChange bigPowersSpec)) bigPowersCard

/-- THE TIED CARD OF 'motleylaw26.BigCounts'. -/
def bigCountsCard : Claim7 := { stood := { row := bigCountsRow, standIns := [], harness := (true, "b3baa6b3d893dcb23aff2e95564e70f411a9c4369041c96b06e3af8b00e9e01c"), looks := false }, kinds := [], alts := [], laidByText := true, laidKinds := [.data, .pinned], laidTests := true, laidLooks := .later }
def BigCountsCardSaid : Prop := Claim7.holds Tryd.pinned (.plain (OpenSpec.ofChange bigCountsSpec)) bigCountsCard

/-- THE TIED CARD OF 'motleylaw26.BigSums'. -/
def bigSumsCard : Claim7 := { stood := { row := bigSumsRow, standIns := [], harness := (true, "b3baa6b3d893dcb23aff2e95564e70f411a9c4369041c96b06e3af8b00e9e01c"), looks := false }, kinds := [], alts := [], laidByText := true, laidKinds := [.data, .pinned], laidTests := true, laidLooks := .later }
def BigSumsCardSaid : Prop := Claim7.holds Tryd.pinned (.plain (OpenSpec.ofChange bigSumsSpec)) bigSumsCard

/-- THE TIED CARD OF 'motleylaw26.BigGcds'. -/
def bigGcdsCard : Claim7 := { stood := { row := bigGcdsRow, standIns := [], harness := (true, "b3baa6b3d893dcb23aff2e95564e70f411a9c4369041c96b06e3af8b00e9e01c"), looks := false }, kinds := [], alts := [], laidByText := true, laidKinds := [.data, .pinned], laidTests := true, laidLooks := .later }
def BigGcdsCardSaid : Prop := Claim7.holds Tryd.pinned (.plain (OpenSpec.ofChange bigGcdsSpec)) bigGcdsCard

/-- THE TIED CARD OF 'motleylaw26.BigPowerMods'. -/
def bigPowerModsCard : Claim7 := { stood := { row := bigPowerModsRow, standIns := [], harness := (true, "b3baa6b3d893dcb23aff2e95564e70f411a9c4369041c96b06e3af8b00e9e01c"), looks := false }, kinds := [], alts := [], laidByText := true, laidKinds := [.data, .pinned], laidTests := true, laidLooks := .later }
def BigPowerModsCardSaid : Prop := Claim7.holds Tryd.pinned (.plain (OpenSpec.ofChange bigPowerModsSpec)) bigPowerModsCard

/-- THE TIED CARD OF 'motleylaw26.BigPrimes'. -/
def bigPrimesCard : Claim7 := { stood := { row := bigPrimesRow, standIns := [], harness := (true, "b3baa6b3d893dcb23aff2e95564e70f411a9c4369041c96b06e3af8b00e9e01c"), looks := false }, kinds := [], alts := [], laidByText := true, laidKinds := [.data, .pinned], laidTests := true, laidLooks := .later }
def BigPrimesCardSaid : Prop := Claim7.holds Tryd.pinned (.plain (OpenSpec.ofChange bigPrimesSpec)) bigPrimesCard

/-- THE SECOND FORM's CARD OF 'motleylaw26.BigFractions'. -/
def bigFractionsUptoCard : Claim7 := { stood := { row := bigFractionsUptoRow, standIns := [], harness := (true, "b3baa6b3d893dcb23aff2e95564e70f411a9c4369041c96b06e3af8b00e9e01c"), looks := false }, kinds := [], alts := [], laidByText := true, laidKinds := [.data, .pinned], laidTests := true, laidLooks := .later }
def BigFractionsUptoCardSaid : Prop := Claim7.holds Tryd.pinned (.plain (OpenSpec.upto bigFractionsSpec)) bigFractionsUptoCard

/-- THE SECOND FORM's CARD OF 'motleylaw26.BigDivides'. -/
def bigDividesUptoCard : Claim7 := { stood := { row := bigDividesUptoRow, standIns := [], harness := (true, "b3baa6b3d893dcb23aff2e95564e70f411a9c4369041c96b06e3af8b00e9e01c"), looks := false }, kinds := [], alts := [], laidByText := true, laidKinds := [.data, .pinned], laidTests := true, laidLooks := .later }
def BigDividesUptoCardSaid : Prop := Claim7.holds Tryd.pinned (.plain (OpenSpec.upto bigDividesSpec)) bigDividesUptoCard

/-- THE SECOND FORM's CARD OF 'motleylaw26.BigRings'. -/
def bigRingsUptoCard : Claim7 := { stood := { row := bigRingsUptoRow, standIns := [], harness := (true, "b3baa6b3d893dcb23aff2e95564e70f411a9c4369041c96b06e3af8b00e9e01c"), looks := false }, kinds := [], alts := [], laidByText := true, laidKinds := [.data, .pinned], laidTests := true, laidLooks := .later }
def BigRingsUptoCardSaid : Prop := Claim7.holds Tryd.pinned (.plain (OpenSpec.upto bigRingsSpec)) bigRingsUptoCard

/-- THE SECOND FORM's CARD OF 'motleylaw26.BigPowers'. -/
def bigPowersUptoCard : Claim7 := { stood := { row := bigPowersUptoRow, standIns := [], harness := (true, "b3baa6b3d893dcb23aff2e95564e70f411a9c4369041c96b06e3af8b00e9e01c"), looks := false }, kinds := [], alts := [], laidByText := true, laidKinds := [.data, .pinned], laidTests := true, laidLooks := .later }
def BigPowersUptoCardSaid : Prop := Claim7.holds Tryd.pinned (.plain (OpenSpec.upto bigPowersSpec)) bigPowersUptoCard

/-- THE SECOND FORM's CARD OF 'motleylaw26.BigCounts'. -/
def bigCountsUptoCard : Claim7 := { stood := { row := bigCountsUptoRow, standIns := [], harness := (true, "b3baa6b3d893dcb23aff2e95564e70f411a9c4369041c96b06e3af8b00e9e01c"), looks := false }, kinds := [], alts := [], laidByText := true, laidKinds := [.data, .pinned], laidTests := true, laidLooks := .later }
def BigCountsUptoCardSaid : Prop := Claim7.holds Tryd.pinned (.plain (OpenSpec.upto bigCountsSpec)) bigCountsUptoCard

/-- THE SECOND FORM's CARD OF 'motleylaw26.BigSums'. -/
def bigSumsUptoCard : Claim7 := { stood := { row := bigSumsUptoRow, standIns := [], harness := (true, "b3baa6b3d893dcb23aff2e95564e70f411a9c4369041c96b06e3af8b00e9e01c"), looks := false }, kinds := [], alts := [], laidByText := true, laidKinds := [.data, .pinned], laidTests := true, laidLooks := .later }
def BigSumsUptoCardSaid : Prop := Claim7.holds Tryd.pinned (.plain (OpenSpec.upto bigSumsSpec)) bigSumsUptoCard

/-- THE SECOND FORM's CARD OF 'motleylaw26.BigGcds'. -/
def bigGcdsUptoCard : Claim7 := { stood := { row := bigGcdsUptoRow, standIns := [], harness := (true, "b3baa6b3d893dcb23aff2e95564e70f411a9c4369041c96b06e3af8b00e9e01c"), looks := false }, kinds := [], alts := [], laidByText := true, laidKinds := [.data, .pinned], laidTests := true, laidLooks := .later }
def BigGcdsUptoCardSaid : Prop := Claim7.holds Tryd.pinned (.plain (OpenSpec.upto bigGcdsSpec)) bigGcdsUptoCard

/-- THE SECOND FORM's CARD OF 'motleylaw26.BigPowerMods'. -/
def bigPowerModsUptoCard : Claim7 := { stood := { row := bigPowerModsUptoRow, standIns := [], harness := (true, "b3baa6b3d893dcb23aff2e95564e70f411a9c4369041c96b06e3af8b00e9e01c"), looks := false }, kinds := [], alts := [], laidByText := true, laidKinds := [.data, .pinned], laidTests := true, laidLooks := .later }
def BigPowerModsUptoCardSaid : Prop := Claim7.holds Tryd.pinned (.plain (OpenSpec.upto bigPowerModsSpec)) bigPowerModsUptoCard

/-- THE SECOND FORM's CARD OF 'motleylaw26.BigPrimes'. -/
def bigPrimesUptoCard : Claim7 := { stood := { row := bigPrimesUptoRow, standIns := [], harness := (true, "b3baa6b3d893dcb23aff2e95564e70f411a9c4369041c96b06e3af8b00e9e01c"), looks := false }, kinds := [], alts := [], laidByText := true, laidKinds := [.data, .pinned], laidTests := true, laidLooks := .later }
def BigPrimesUptoCardSaid : Prop := Claim7.holds Tryd.pinned (.plain (OpenSpec.upto bigPrimesSpec)) bigPrimesUptoCard
end Rows
end Go.Proofs.YtdgkaachkodimaaDoor
