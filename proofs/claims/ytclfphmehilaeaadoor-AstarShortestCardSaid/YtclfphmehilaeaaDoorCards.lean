/-
  DERIVED. GIVEN WITH THE SEED: THE CARDS: each row of YtclfphmehilaeaaDoorRows.lean that lists a variable, with what it lists TIED to the program's text (the seventh form; the later family's looks); each row that meets fmt, with fmt's text TOLD by the authors' own Lean function (tested against real Go, not proved from fmt's source: count such statements apart). THE CARD IS WHAT COUNTS. Prove the row's statement (the work); the ties are given (YtclfphmehilaeaaDoorTie.lean); close each card by the builder's one call (the guide's Derived/Test/ToyasCard.lean, 'card_holds'). Laid BY PROGRAM, IN A SANDBOX (cutbox-door.mjs). By AI agents, Wed Nov 11 2026. No macro, syntax, notation, axiom, sorry.
-/
import Derived.Test.YtclfphmehilaeaaDoorRows
import GoSem.ClaimSeven
namespace Go.Proofs.YtclfphmehilaeaaDoor
namespace Rows

/-- THE TIED CARD OF 'skirmishlaw14.AstarPaths'. -/
def astarPathsCard : Claim7 := { stood := { row := astarPathsRow, standIns := [], harness := (true, "dc06226be63c65e438d838f7823f4e10f06ca8157d3d51f2d8aeb3bf2dca63b7"), looks := false }, kinds := [], alts := [], laidByText := true, laidKinds := [.data], laidTests := true, laidLooks := .later }
def AstarPathsCardSaid : Prop := Claim7.holds Tryd.pinned (.plain (OpenSpec.ofChange astarPathsSpec)) astarPathsCard

/-- THE TIED CARD OF 'skirmishlaw14.AstarCosts'. -/
def astarCostsCard : Claim7 := { stood := { row := astarCostsRow, standIns := [], harness := (true, "dc06226be63c65e438d838f7823f4e10f06ca8157d3d51f2d8aeb3bf2dca63b7"), looks := false }, kinds := [], alts := [], laidByText := true, laidKinds := [.data], laidTests := true, laidLooks := .later }
def AstarCostsCardSaid : Prop := Claim7.holds Tryd.pinned (.plain (OpenSpec.ofChange astarCostsSpec)) astarCostsCard

/-- THE TIED CARD OF 'skirmishlaw14.AstarReaches'. -/
def astarReachesCard : Claim7 := { stood := { row := astarReachesRow, standIns := [], harness := (true, "dc06226be63c65e438d838f7823f4e10f06ca8157d3d51f2d8aeb3bf2dca63b7"), looks := false }, kinds := [], alts := [], laidByText := true, laidKinds := [.data], laidTests := true, laidLooks := .later }
def AstarReachesCardSaid : Prop := Claim7.holds Tryd.pinned (.plain (OpenSpec.ofChange astarReachesSpec)) astarReachesCard

/-- THE TIED CARD OF 'skirmishlaw14.AstarAgrees'. -/
def astarAgreesCard : Claim7 := { stood := { row := astarAgreesRow, standIns := [], harness := (true, "dc06226be63c65e438d838f7823f4e10f06ca8157d3d51f2d8aeb3bf2dca63b7"), looks := false }, kinds := [], alts := [], laidByText := true, laidKinds := [.data], laidTests := true, laidLooks := .later }
def AstarAgreesCardSaid : Prop := Claim7.holds Tryd.pinned (.plain (OpenSpec.ofChange astarAgreesSpec)) astarAgreesCard

/-- THE TIED CARD OF 'skirmishlaw14.AstarRegions'. -/
def astarRegionsCard : Claim7 := { stood := { row := astarRegionsRow, standIns := [], harness := (true, "dc06226be63c65e438d838f7823f4e10f06ca8157d3d51f2d8aeb3bf2dca63b7"), looks := false }, kinds := [], alts := [], laidByText := true, laidKinds := [.data], laidTests := true, laidLooks := .later }
def AstarRegionsCardSaid : Prop := Claim7.holds Tryd.pinned (.plain (OpenSpec.ofChange astarRegionsSpec)) astarRegionsCard

/-- THE TIED CARD OF 'skirmishlaw14.AstarTriangles'. -/
def astarTrianglesCard : Claim7 := { stood := { row := astarTrianglesRow, standIns := [], harness := (true, "dc06226be63c65e438d838f7823f4e10f06ca8157d3d51f2d8aeb3bf2dca63b7"), looks := false }, kinds := [], alts := [], laidByText := true, laidKinds := [.data], laidTests := true, laidLooks := .later }
def AstarTrianglesCardSaid : Prop := Claim7.holds Tryd.pinned (.plain (OpenSpec.ofChange astarTrianglesSpec)) astarTrianglesCard

/-- THE TIED CARD OF 'skirmishlaw14.AstarShortest'. -/
def astarShortestCard : Claim7 := { stood := { row := astarShortestRow, standIns := [], harness := (true, "dc06226be63c65e438d838f7823f4e10f06ca8157d3d51f2d8aeb3bf2dca63b7"), looks := false }, kinds := [], alts := [], laidByText := true, laidKinds := [.data], laidTests := true, laidLooks := .later }
def AstarShortestCardSaid : Prop := Claim7.holds Tryd.pinned (.plain (OpenSpec.ofChange astarShortestSpec)) astarShortestCard

/-- THE SECOND FORM's CARD OF 'skirmishlaw14.AstarPaths'. -/
def astarPathsUptoCard : Claim7 := { stood := { row := astarPathsUptoRow, standIns := [], harness := (true, "dc06226be63c65e438d838f7823f4e10f06ca8157d3d51f2d8aeb3bf2dca63b7"), looks := false }, kinds := [], alts := [], laidByText := true, laidKinds := [.data], laidTests := true, laidLooks := .later }
def AstarPathsUptoCardSaid : Prop := Claim7.holds Tryd.pinned (.plain (OpenSpec.upto astarPathsSpec)) astarPathsUptoCard

/-- THE SECOND FORM's CARD OF 'skirmishlaw14.AstarCosts'. -/
def astarCostsUptoCard : Claim7 := { stood := { row := astarCostsUptoRow, standIns := [], harness := (true, "dc06226be63c65e438d838f7823f4e10f06ca8157d3d51f2d8aeb3bf2dca63b7"), looks := false }, kinds := [], alts := [], laidByText := true, laidKinds := [.data], laidTests := true, laidLooks := .later }
def AstarCostsUptoCardSaid : Prop := Claim7.holds Tryd.pinned (.plain (OpenSpec.upto astarCostsSpec)) astarCostsUptoCard

/-- THE SECOND FORM's CARD OF 'skirmishlaw14.AstarReaches'. -/
def astarReachesUptoCard : Claim7 := { stood := { row := astarReachesUptoRow, standIns := [], harness := (true, "dc06226be63c65e438d838f7823f4e10f06ca8157d3d51f2d8aeb3bf2dca63b7"), looks := false }, kinds := [], alts := [], laidByText := true, laidKinds := [.data], laidTests := true, laidLooks := .later }
def AstarReachesUptoCardSaid : Prop := Claim7.holds Tryd.pinned (.plain (OpenSpec.upto astarReachesSpec)) astarReachesUptoCard

/-- THE SECOND FORM's CARD OF 'skirmishlaw14.AstarAgrees'. -/
def astarAgreesUptoCard : Claim7 := { stood := { row := astarAgreesUptoRow, standIns := [], harness := (true, "dc06226be63c65e438d838f7823f4e10f06ca8157d3d51f2d8aeb3bf2dca63b7"), looks := false }, kinds := [], alts := [], laidByText := true, laidKinds := [.data], laidTests := true, laidLooks := .later }
def AstarAgreesUptoCardSaid : Prop := Claim7.holds Tryd.pinned (.plain (OpenSpec.upto astarAgreesSpec)) astarAgreesUptoCard

/-- THE SECOND FORM's CARD OF 'skirmishlaw14.AstarRegions'. -/
def astarRegionsUptoCard : Claim7 := { stood := { row := astarRegionsUptoRow, standIns := [], harness := (true, "dc06226be63c65e438d838f7823f4e10f06ca8157d3d51f2d8aeb3bf2dca63b7"), looks := false }, kinds := [], alts := [], laidByText := true, laidKinds := [.data], laidTests := true, laidLooks := .later }
def AstarRegionsUptoCardSaid : Prop := Claim7.holds Tryd.pinned (.plain (OpenSpec.upto astarRegionsSpec)) astarRegionsUptoCard

/-- THE SECOND FORM's CARD OF 'skirmishlaw14.AstarTriangles'. -/
def astarTrianglesUptoCard : Claim7 := { stood := { row := astarTrianglesUptoRow, standIns := [], harness := (true, "dc06226be63c65e438d838f7823f4e10f06ca8157d3d51f2d8aeb3bf2dca63b7"), looks := false }, kinds := [], alts := [], laidByText := true, laidKinds := [.data], laidTests := true, laidLooks := .later }
def AstarTrianglesUptoCardSaid : Prop := Claim7.holds Tryd.pinned (.plain (OpenSpec.upto astarTrianglesSpec)) astarTrianglesUptoCard

/-- THE SECOND FORM's CARD OF 'skirmishlaw14.AstarShortest'. -/
def astarShortestUptoCard : Claim7 := { stood := { row := astarShortestUptoRow, standIns := [], harness := (true, "dc06226be63c65e438d838f7823f4e10f06ca8157d3d51f2d8aeb3bf2dca63b7"), looks := false }, kinds := [], alts := [], laidByText := true, laidKinds := [.data], laidTests := true, laidLooks := .later }
def AstarShortestUptoCardSaid : Prop := Claim7.holds Tryd.pinned (.plain (OpenSpec.upto astarShortestSpec)) astarShortestUptoCard
end Rows
end Go.Proofs.YtclfphmehilaeaaDoor
