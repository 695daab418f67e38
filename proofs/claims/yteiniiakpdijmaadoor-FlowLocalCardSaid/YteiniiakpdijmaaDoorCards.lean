/-
  DERIVED. GIVEN WITH THE SEED: THE CARDS: each row of YteiniiakpdijmaaDoorRows.lean that lists a variable, with what it lists TIED to the program's text (the seventh form; the later family's looks); each row that meets fmt, with fmt's text TOLD by the authors' own Lean function (tested against real Go, not proved from fmt's source: count such statements apart). THE CARD IS WHAT COUNTS. Prove the row's statement (the work); the ties are given (YteiniiakpdijmaaDoorTie.lean); close each card by the builder's one call (the guide's Derived/Test/ToyasCard.lean, 'card_holds'). Laid BY PROGRAM, IN A SANDBOX (cutbox-door.mjs). By AI agents, Wed Nov 11 2026. No macro, syntax, notation, axiom, sorry.
-/
import Derived.Test.YteiniiakpdijmaaDoorRows
import GoSem.ClaimSeven
namespace Go.Proofs.YteiniiakpdijmaaDoor
namespace Rows

/-- THE TIED CARD OF 'skirmishlaw17.FlowBuilds'. -/
def flowBuildsCard : Claim7 := { stood := { row := flowBuildsRow, standIns := [], harness := (true, "72b5222692ad6f05d5704be79d3ae04f92ab080b84b1fbd71ce169bc4ec32a24"), looks := false }, kinds := [], alts := [], laidByText := true, laidKinds := [.data], laidTests := true, laidLooks := .later }
def FlowBuildsCardSaid : Prop := Claim7.holds Tryd.pinned (.plain (OpenSpec.ofChange flowBuildsSpec)) flowBuildsCard

/-- THE TIED CARD OF 'skirmishlaw17.FlowNexts'. -/
def flowNextsCard : Claim7 := { stood := { row := flowNextsRow, standIns := [], harness := (true, "72b5222692ad6f05d5704be79d3ae04f92ab080b84b1fbd71ce169bc4ec32a24"), looks := false }, kinds := [], alts := [], laidByText := true, laidKinds := [.data], laidTests := true, laidLooks := .later }
def FlowNextsCardSaid : Prop := Claim7.holds Tryd.pinned (.plain (OpenSpec.ofChange flowNextsSpec)) flowNextsCard

/-- THE TIED CARD OF 'skirmishlaw17.FlowUpdates'. -/
def flowUpdatesCard : Claim7 := { stood := { row := flowUpdatesRow, standIns := [], harness := (true, "72b5222692ad6f05d5704be79d3ae04f92ab080b84b1fbd71ce169bc4ec32a24"), looks := false }, kinds := [], alts := [], laidByText := true, laidKinds := [.data], laidTests := true, laidLooks := .later }
def FlowUpdatesCardSaid : Prop := Claim7.holds Tryd.pinned (.plain (OpenSpec.ofChange flowUpdatesSpec)) flowUpdatesCard

/-- THE TIED CARD OF 'skirmishlaw17.FlowChecks'. -/
def flowChecksCard : Claim7 := { stood := { row := flowChecksRow, standIns := [], harness := (true, "72b5222692ad6f05d5704be79d3ae04f92ab080b84b1fbd71ce169bc4ec32a24"), looks := false }, kinds := [], alts := [], laidByText := true, laidKinds := [.data], laidTests := true, laidLooks := .later }
def FlowChecksCardSaid : Prop := Claim7.holds Tryd.pinned (.plain (OpenSpec.ofChange flowChecksSpec)) flowChecksCard

/-- THE TIED CARD OF 'skirmishlaw17.FlowFollows'. -/
def flowFollowsCard : Claim7 := { stood := { row := flowFollowsRow, standIns := [], harness := (true, "72b5222692ad6f05d5704be79d3ae04f92ab080b84b1fbd71ce169bc4ec32a24"), looks := false }, kinds := [], alts := [], laidByText := true, laidKinds := [.data], laidTests := true, laidLooks := .later }
def FlowFollowsCardSaid : Prop := Claim7.holds Tryd.pinned (.plain (OpenSpec.ofChange flowFollowsSpec)) flowFollowsCard

/-- THE TIED CARD OF 'skirmishlaw17.FlowLocal'. -/
def flowLocalCard : Claim7 := { stood := { row := flowLocalRow, standIns := [], harness := (true, "72b5222692ad6f05d5704be79d3ae04f92ab080b84b1fbd71ce169bc4ec32a24"), looks := false }, kinds := [], alts := [], laidByText := true, laidKinds := [.data], laidTests := true, laidLooks := .later }
def FlowLocalCardSaid : Prop := Claim7.holds Tryd.pinned (.plain (OpenSpec.ofChange flowLocalSpec)) flowLocalCard

/-- THE SECOND FORM's CARD OF 'skirmishlaw17.FlowBuilds'. -/
def flowBuildsUptoCard : Claim7 := { stood := { row := flowBuildsUptoRow, standIns := [], harness := (true, "72b5222692ad6f05d5704be79d3ae04f92ab080b84b1fbd71ce169bc4ec32a24"), looks := false }, kinds := [], alts := [], laidByText := true, laidKinds := [.data], laidTests := true, laidLooks := .later }
def FlowBuildsUptoCardSaid : Prop := Claim7.holds Tryd.pinned (.plain (OpenSpec.upto flowBuildsSpec)) flowBuildsUptoCard

/-- THE SECOND FORM's CARD OF 'skirmishlaw17.FlowNexts'. -/
def flowNextsUptoCard : Claim7 := { stood := { row := flowNextsUptoRow, standIns := [], harness := (true, "72b5222692ad6f05d5704be79d3ae04f92ab080b84b1fbd71ce169bc4ec32a24"), looks := false }, kinds := [], alts := [], laidByText := true, laidKinds := [.data], laidTests := true, laidLooks := .later }
def FlowNextsUptoCardSaid : Prop := Claim7.holds Tryd.pinned (.plain (OpenSpec.upto flowNextsSpec)) flowNextsUptoCard

/-- THE SECOND FORM's CARD OF 'skirmishlaw17.FlowUpdates'. -/
def flowUpdatesUptoCard : Claim7 := { stood := { row := flowUpdatesUptoRow, standIns := [], harness := (true, "72b5222692ad6f05d5704be79d3ae04f92ab080b84b1fbd71ce169bc4ec32a24"), looks := false }, kinds := [], alts := [], laidByText := true, laidKinds := [.data], laidTests := true, laidLooks := .later }
def FlowUpdatesUptoCardSaid : Prop := Claim7.holds Tryd.pinned (.plain (OpenSpec.upto flowUpdatesSpec)) flowUpdatesUptoCard

/-- THE SECOND FORM's CARD OF 'skirmishlaw17.FlowChecks'. -/
def flowChecksUptoCard : Claim7 := { stood := { row := flowChecksUptoRow, standIns := [], harness := (true, "72b5222692ad6f05d5704be79d3ae04f92ab080b84b1fbd71ce169bc4ec32a24"), looks := false }, kinds := [], alts := [], laidByText := true, laidKinds := [.data], laidTests := true, laidLooks := .later }
def FlowChecksUptoCardSaid : Prop := Claim7.holds Tryd.pinned (.plain (OpenSpec.upto flowChecksSpec)) flowChecksUptoCard

/-- THE SECOND FORM's CARD OF 'skirmishlaw17.FlowFollows'. -/
def flowFollowsUptoCard : Claim7 := { stood := { row := flowFollowsUptoRow, standIns := [], harness := (true, "72b5222692ad6f05d5704be79d3ae04f92ab080b84b1fbd71ce169bc4ec32a24"), looks := false }, kinds := [], alts := [], laidByText := true, laidKinds := [.data], laidTests := true, laidLooks := .later }
def FlowFollowsUptoCardSaid : Prop := Claim7.holds Tryd.pinned (.plain (OpenSpec.upto flowFollowsSpec)) flowFollowsUptoCard

/-- THE SECOND FORM's CARD OF 'skirmishlaw17.FlowLocal'. -/
def flowLocalUptoCard : Claim7 := { stood := { row := flowLocalUptoRow, standIns := [], harness := (true, "72b5222692ad6f05d5704be79d3ae04f92ab080b84b1fbd71ce169bc4ec32a24"), looks := false }, kinds := [], alts := [], laidByText := true, laidKinds := [.data], laidTests := true, laidLooks := .later }
def FlowLocalUptoCardSaid : Prop := Claim7.holds Tryd.pinned (.plain (OpenSpec.upto flowLocalSpec)) flowLocalUptoCard
end Rows
end Go.Proofs.YteiniiakpdijmaaDoor
