/-
  DERIVED. GIVEN WITH THE SEED: THE CARDS: each row of YtocgekefbdcdmaaDoorRows.lean that lists a variable, with what it lists TIED to the program's text (the seventh form; the later family's looks); each row that meets fmt, with fmt's text TOLD by the authors' own Lean function (tested against real Go, not proved from fmt's source: count such statements apart). THE CARD IS WHAT COUNTS. Prove the row's statement (the work); the ties are given (YtocgekefbdcdmaaDoorTie.lean); close each card by the builder's one call (the guide's Derived/Test/ToyasCard.lean, 'card_holds'). Laid BY PROGRAM, IN A SANDBOX (cutbox-door.mjs). By AI agents, Wed Nov 11 2026. No macro, syntax, notation, axiom, sorry.
-/
import Derived.Test.YtocgekefbdcdmaaDoorRows
import GoSem.ClaimSeven
namespace Go.Proofs.YtocgekefbdcdmaaDoor
namespace Rows

/-- THE TIED CARD OF 'skirmishlaw07.TerrainValid'. -/
def terrainValidCard : Claim7 := { stood := { row := terrainValidRow, standIns := [], harness := (true, "d8d7a7abec6417da33d45b0a5a4d8f7197801ef50790b1ee070f9641b37479ce"), looks := false }, kinds := [], alts := [], laidByText := true, laidKinds := [.data], laidTests := true, laidLooks := .later }
def TerrainValidCardSaid : Prop := Claim7.holds Tryd.pinned (.plain (OpenSpec.ofChange terrainValidSpec)) terrainValidCard

/-- THE TIED CARD OF 'skirmishlaw07.TerrainPassable'. -/
def terrainPassableCard : Claim7 := { stood := { row := terrainPassableRow, standIns := [], harness := (true, "d8d7a7abec6417da33d45b0a5a4d8f7197801ef50790b1ee070f9641b37479ce"), looks := false }, kinds := [], alts := [], laidByText := true, laidKinds := [.data], laidTests := true, laidLooks := .later }
def TerrainPassableCardSaid : Prop := Claim7.holds Tryd.pinned (.plain (OpenSpec.ofChange terrainPassableSpec)) terrainPassableCard

/-- THE TIED CARD OF 'skirmishlaw07.TerrainSteps'. -/
def terrainStepsCard : Claim7 := { stood := { row := terrainStepsRow, standIns := [], harness := (true, "d8d7a7abec6417da33d45b0a5a4d8f7197801ef50790b1ee070f9641b37479ce"), looks := false }, kinds := [], alts := [], laidByText := true, laidKinds := [.data], laidTests := true, laidLooks := .later }
def TerrainStepsCardSaid : Prop := Claim7.holds Tryd.pinned (.plain (OpenSpec.ofChange terrainStepsSpec)) terrainStepsCard

/-- THE TIED CARD OF 'skirmishlaw07.TerrainSymmetric'. -/
def terrainSymmetricCard : Claim7 := { stood := { row := terrainSymmetricRow, standIns := [], harness := (true, "d8d7a7abec6417da33d45b0a5a4d8f7197801ef50790b1ee070f9641b37479ce"), looks := false }, kinds := [], alts := [], laidByText := true, laidKinds := [.data], laidTests := true, laidLooks := .later }
def TerrainSymmetricCardSaid : Prop := Claim7.holds Tryd.pinned (.plain (OpenSpec.ofChange terrainSymmetricSpec)) terrainSymmetricCard

/-- THE TIED CARD OF 'skirmishlaw07.TerrainClasses'. -/
def terrainClassesCard : Claim7 := { stood := { row := terrainClassesRow, standIns := [], harness := (true, "d8d7a7abec6417da33d45b0a5a4d8f7197801ef50790b1ee070f9641b37479ce"), looks := false }, kinds := [], alts := [], laidByText := true, laidKinds := [.data], laidTests := true, laidLooks := .later }
def TerrainClassesCardSaid : Prop := Claim7.holds Tryd.pinned (.plain (OpenSpec.ofChange terrainClassesSpec)) terrainClassesCard

/-- THE TIED CARD OF 'skirmishlaw07.TerrainTakes'. -/
def terrainTakesCard : Claim7 := { stood := { row := terrainTakesRow, standIns := [], harness := (true, "d8d7a7abec6417da33d45b0a5a4d8f7197801ef50790b1ee070f9641b37479ce"), looks := false }, kinds := [], alts := [], laidByText := true, laidKinds := [.data], laidTests := true, laidLooks := .later }
def TerrainTakesCardSaid : Prop := Claim7.holds Tryd.pinned (.plain (OpenSpec.ofChange terrainTakesSpec)) terrainTakesCard

/-- THE TIED CARD OF 'skirmishlaw07.TerrainSame'. -/
def terrainSameCard : Claim7 := { stood := { row := terrainSameRow, standIns := [], harness := (true, "d8d7a7abec6417da33d45b0a5a4d8f7197801ef50790b1ee070f9641b37479ce"), looks := false }, kinds := [], alts := [], laidByText := true, laidKinds := [.data], laidTests := true, laidLooks := .later }
def TerrainSameCardSaid : Prop := Claim7.holds Tryd.pinned (.plain (OpenSpec.ofChange terrainSameSpec)) terrainSameCard

/-- THE SECOND FORM's CARD OF 'skirmishlaw07.TerrainValid'. -/
def terrainValidUptoCard : Claim7 := { stood := { row := terrainValidUptoRow, standIns := [], harness := (true, "d8d7a7abec6417da33d45b0a5a4d8f7197801ef50790b1ee070f9641b37479ce"), looks := false }, kinds := [], alts := [], laidByText := true, laidKinds := [.data], laidTests := true, laidLooks := .later }
def TerrainValidUptoCardSaid : Prop := Claim7.holds Tryd.pinned (.plain (OpenSpec.upto terrainValidSpec)) terrainValidUptoCard

/-- THE SECOND FORM's CARD OF 'skirmishlaw07.TerrainPassable'. -/
def terrainPassableUptoCard : Claim7 := { stood := { row := terrainPassableUptoRow, standIns := [], harness := (true, "d8d7a7abec6417da33d45b0a5a4d8f7197801ef50790b1ee070f9641b37479ce"), looks := false }, kinds := [], alts := [], laidByText := true, laidKinds := [.data], laidTests := true, laidLooks := .later }
def TerrainPassableUptoCardSaid : Prop := Claim7.holds Tryd.pinned (.plain (OpenSpec.upto terrainPassableSpec)) terrainPassableUptoCard

/-- THE SECOND FORM's CARD OF 'skirmishlaw07.TerrainSteps'. -/
def terrainStepsUptoCard : Claim7 := { stood := { row := terrainStepsUptoRow, standIns := [], harness := (true, "d8d7a7abec6417da33d45b0a5a4d8f7197801ef50790b1ee070f9641b37479ce"), looks := false }, kinds := [], alts := [], laidByText := true, laidKinds := [.data], laidTests := true, laidLooks := .later }
def TerrainStepsUptoCardSaid : Prop := Claim7.holds Tryd.pinned (.plain (OpenSpec.upto terrainStepsSpec)) terrainStepsUptoCard

/-- THE SECOND FORM's CARD OF 'skirmishlaw07.TerrainSymmetric'. -/
def terrainSymmetricUptoCard : Claim7 := { stood := { row := terrainSymmetricUptoRow, standIns := [], harness := (true, "d8d7a7abec6417da33d45b0a5a4d8f7197801ef50790b1ee070f9641b37479ce"), looks := false }, kinds := [], alts := [], laidByText := true, laidKinds := [.data], laidTests := true, laidLooks := .later }
def TerrainSymmetricUptoCardSaid : Prop := Claim7.holds Tryd.pinned (.plain (OpenSpec.upto terrainSymmetricSpec)) terrainSymmetricUptoCard

/-- THE SECOND FORM's CARD OF 'skirmishlaw07.TerrainClasses'. -/
def terrainClassesUptoCard : Claim7 := { stood := { row := terrainClassesUptoRow, standIns := [], harness := (true, "d8d7a7abec6417da33d45b0a5a4d8f7197801ef50790b1ee070f9641b37479ce"), looks := false }, kinds := [], alts := [], laidByText := true, laidKinds := [.data], laidTests := true, laidLooks := .later }
def TerrainClassesUptoCardSaid : Prop := Claim7.holds Tryd.pinned (.plain (OpenSpec.upto terrainClassesSpec)) terrainClassesUptoCard

/-- THE SECOND FORM's CARD OF 'skirmishlaw07.TerrainTakes'. -/
def terrainTakesUptoCard : Claim7 := { stood := { row := terrainTakesUptoRow, standIns := [], harness := (true, "d8d7a7abec6417da33d45b0a5a4d8f7197801ef50790b1ee070f9641b37479ce"), looks := false }, kinds := [], alts := [], laidByText := true, laidKinds := [.data], laidTests := true, laidLooks := .later }
def TerrainTakesUptoCardSaid : Prop := Claim7.holds Tryd.pinned (.plain (OpenSpec.upto terrainTakesSpec)) terrainTakesUptoCard

/-- THE SECOND FORM's CARD OF 'skirmishlaw07.TerrainSame'. -/
def terrainSameUptoCard : Claim7 := { stood := { row := terrainSameUptoRow, standIns := [], harness := (true, "d8d7a7abec6417da33d45b0a5a4d8f7197801ef50790b1ee070f9641b37479ce"), looks := false }, kinds := [], alts := [], laidByText := true, laidKinds := [.data], laidTests := true, laidLooks := .later }
def TerrainSameUptoCardSaid : Prop := Claim7.holds Tryd.pinned (.plain (OpenSpec.upto terrainSameSpec)) terrainSameUptoCard
end Rows
end Go.Proofs.YtocgekefbdcdmaaDoor
