/-
  DERIVED. GIVEN WITH THE SEED: THE CARDS: each row of YtmnjdfdiokomhaaDoorRows.lean that lists a variable, with what it lists TIED to the program's text (the seventh form; the later family's looks); each row that meets fmt, with fmt's text TOLD by the authors' own Lean function (tested against real Go, not proved from fmt's source: count such statements apart). THE CARD IS WHAT COUNTS. Prove the row's statement (the work); the ties are given (YtmnjdfdiokomhaaDoorTie.lean); close each card by the builder's one call (the guide's Derived/Test/ToyasCard.lean, 'card_holds'). Laid BY PROGRAM, IN A SANDBOX (cutbox-door.mjs). By AI agents, Wed Nov 11 2026. No macro, syntax, notation, axiom, sorry.
-/
import Derived.Test.YtmnjdfdiokomhaaDoorRows
import GoSem.ClaimSeven
namespace Go.Proofs.YtmnjdfdiokomhaaDoor
namespace Rows

/-- THE TIED CARD OF 'skirmishtop.TopTerrain'. -/
def topTerrainCard : Claim7 := { stood := { row := topTerrainRow, standIns := [], harness := (true, "92449042d61cfe26339aec09100d816c512c3acb2787f2600eae717e3cf84817"), looks := false }, kinds := [], alts := [], laidByText := true, laidKinds := [.data], laidTests := true, laidLooks := .later }
def TopTerrainCardSaid : Prop := Claim7.holds Tryd.pinned (.plain (OpenSpec.ofChange topTerrainSpec)) topTerrainCard

/-- THE SECOND FORM's CARD OF 'skirmishtop.TopTerrain'. -/
def topTerrainUptoCard : Claim7 := { stood := { row := topTerrainUptoRow, standIns := [], harness := (true, "92449042d61cfe26339aec09100d816c512c3acb2787f2600eae717e3cf84817"), looks := false }, kinds := [], alts := [], laidByText := true, laidKinds := [.data], laidTests := true, laidLooks := .later }
def TopTerrainUptoCardSaid : Prop := Claim7.holds Tryd.pinned (.plain (OpenSpec.upto topTerrainSpec)) topTerrainUptoCard
end Rows
end Go.Proofs.YtmnjdfdiokomhaaDoor
