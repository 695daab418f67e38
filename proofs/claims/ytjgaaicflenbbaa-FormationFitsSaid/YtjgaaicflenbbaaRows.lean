/-
  No cell of these rows narrows 'for every input' (looked for: loops, veiled, ifaces, maps, wideKeys, modest, calm, conditions, laid).
  DERIVED. THE GIVEN ROWS OF THIS SEAT. 6 by the template 'for every input the law returns true; each argument reads behind the call as it read before'; 0 by the template 'total and deterministic' (their statements: YtjgaaicflenbbaaTotals.lean).
  GIVEN WITH THE SEED: the statements are not yours to turn. If you find one false, say at which input.
  Laid BY PROGRAM, IN A SANDBOX (cutbox-rows.mjs): the forced cells as the released guide's own fill.sh prints them over the translation 22f045ed9f650eac… (all of the seat's roots in one cut). By AI agents, Wed Nov 11 2026. No macro, syntax, notation, axiom, sorry.
-/
import Derived.Test.YtjgaaicflenbbaaChecked
import GoSem.Claim
import GoSem.ClaimJoined
import GoSem.ClaimMapViews
import Derived.JoinedTies
import Derived.KernelRfl
namespace Go.Proofs.Ytjgaaicflenbbaa
/- THE CELL 'sum', in the pinned program and in every row, IS THE sha256 OF THE DUMP (.gsa) THAT YtjgaaicflenbbaaProg.lean LOADS. Nothing in Lean hashes anything: it is a label: what it is worth is what the hold of that sum in a sandbox is worth. -/
noncomputable def Try.pinned : Pinned := { name := "ytjgaaicflenbbaa", sum := "22f045ed9f650eac5f511477996a1edfa37fce3432de29c58b0c862b3fc03074", checked := Try.checked }
namespace Rows
def none {H : Type} : Left H := { results := [], args := [] }

/-- 'skirmishlaw18.FormationSlots': WHATEVER THE INPUT: true; the input reads as it did. -/
def formationSlotsSpec : ChangeSpec := { name := "formationSlots", fn := fun _ => fun
  | [d] => { results := [.lit (.bool true)], args := [d] }
  | _ => none }
def formationSlotsRow : OpenClaim := { program := "ytjgaaicflenbbaa", sum := "22f045ed9f650eac5f511477996a1edfa37fce3432de29c58b0c862b3fc03074", func := "skirmish/skirmishlaw18.FormationSlots", spec := "formationSlots", apart := false }
def FormationSlotsSaid : Prop := formationSlotsRow.holds Try.pinned (OpenSpec.ofChange formationSlotsSpec)

/-- ITS FALSE NEIGHBOUR: 'it returns false'. Refute it at one input. -/
def formationSlotsWrong : ChangeSpec := { name := "formationSlots", fn := fun _ => fun
  | [d] => { results := [.lit (.bool false)], args := [d] }
  | _ => none }
def FormationSlotsWrongFalsely : Prop := formationSlotsRow.holds Try.pinned (OpenSpec.ofChange formationSlotsWrong)

/-- 'skirmishlaw18.FormationAssign': WHATEVER THE INPUT: true; the input reads as it did. -/
def formationAssignSpec : ChangeSpec := { name := "formationAssign", fn := fun _ => fun
  | [d1, d2] => { results := [.lit (.bool true)], args := [d1, d2] }
  | _ => none }
def formationAssignRow : OpenClaim := { program := "ytjgaaicflenbbaa", sum := "22f045ed9f650eac5f511477996a1edfa37fce3432de29c58b0c862b3fc03074", func := "skirmish/skirmishlaw18.FormationAssign", spec := "formationAssign", apart := false }
def FormationAssignSaid : Prop := formationAssignRow.holds Try.pinned (OpenSpec.ofChange formationAssignSpec)

/-- ITS FALSE NEIGHBOUR: 'it returns false'. Refute it at one input. -/
def formationAssignWrong : ChangeSpec := { name := "formationAssign", fn := fun _ => fun
  | [d1, d2] => { results := [.lit (.bool false)], args := [d1, d2] }
  | _ => none }
def FormationAssignWrongFalsely : Prop := formationAssignRow.holds Try.pinned (OpenSpec.ofChange formationAssignWrong)

/-- 'skirmishlaw18.FormationAssigns': WHATEVER THE INPUT: true; the input reads as it did. -/
def formationAssignsSpec : ChangeSpec := { name := "formationAssigns", fn := fun _ => fun
  | [d1, d2] => { results := [.lit (.bool true)], args := [d1, d2] }
  | _ => none }
def formationAssignsRow : OpenClaim := { program := "ytjgaaicflenbbaa", sum := "22f045ed9f650eac5f511477996a1edfa37fce3432de29c58b0c862b3fc03074", func := "skirmish/skirmishlaw18.FormationAssigns", spec := "formationAssigns", apart := false }
def FormationAssignsSaid : Prop := formationAssignsRow.holds Try.pinned (OpenSpec.ofChange formationAssignsSpec)

/-- ITS FALSE NEIGHBOUR: 'it returns false'. Refute it at one input. -/
def formationAssignsWrong : ChangeSpec := { name := "formationAssigns", fn := fun _ => fun
  | [d1, d2] => { results := [.lit (.bool false)], args := [d1, d2] }
  | _ => none }
def FormationAssignsWrongFalsely : Prop := formationAssignsRow.holds Try.pinned (OpenSpec.ofChange formationAssignsWrong)

/-- 'skirmishlaw18.FormationCosts': WHATEVER THE INPUT: true; the input reads as it did. -/
def formationCostsSpec : ChangeSpec := { name := "formationCosts", fn := fun _ => fun
  | [d1, d2, d3] => { results := [.lit (.bool true)], args := [d1, d2, d3] }
  | _ => none }
def formationCostsRow : OpenClaim := { program := "ytjgaaicflenbbaa", sum := "22f045ed9f650eac5f511477996a1edfa37fce3432de29c58b0c862b3fc03074", func := "skirmish/skirmishlaw18.FormationCosts", spec := "formationCosts", apart := false }
def FormationCostsSaid : Prop := formationCostsRow.holds Try.pinned (OpenSpec.ofChange formationCostsSpec)

/-- ITS FALSE NEIGHBOUR: 'it returns false'. Refute it at one input. -/
def formationCostsWrong : ChangeSpec := { name := "formationCosts", fn := fun _ => fun
  | [d1, d2, d3] => { results := [.lit (.bool false)], args := [d1, d2, d3] }
  | _ => none }
def FormationCostsWrongFalsely : Prop := formationCostsRow.holds Try.pinned (OpenSpec.ofChange formationCostsWrong)

/-- 'skirmishlaw18.FormationDistinct': WHATEVER THE INPUT: true; the input reads as it did. -/
def formationDistinctSpec : ChangeSpec := { name := "formationDistinct", fn := fun _ => fun
  | [d] => { results := [.lit (.bool true)], args := [d] }
  | _ => none }
def formationDistinctRow : OpenClaim := { program := "ytjgaaicflenbbaa", sum := "22f045ed9f650eac5f511477996a1edfa37fce3432de29c58b0c862b3fc03074", func := "skirmish/skirmishlaw18.FormationDistinct", spec := "formationDistinct", apart := false }
def FormationDistinctSaid : Prop := formationDistinctRow.holds Try.pinned (OpenSpec.ofChange formationDistinctSpec)

/-- ITS FALSE NEIGHBOUR: 'it returns false'. Refute it at one input. -/
def formationDistinctWrong : ChangeSpec := { name := "formationDistinct", fn := fun _ => fun
  | [d] => { results := [.lit (.bool false)], args := [d] }
  | _ => none }
def FormationDistinctWrongFalsely : Prop := formationDistinctRow.holds Try.pinned (OpenSpec.ofChange formationDistinctWrong)

/-- 'skirmishlaw18.FormationFits': WHATEVER THE INPUT: true; the input reads as it did. -/
def formationFitsSpec : ChangeSpec := { name := "formationFits", fn := fun _ => fun
  | [d1, d2] => { results := [.lit (.bool true)], args := [d1, d2] }
  | _ => none }
def formationFitsRow : OpenClaim := { program := "ytjgaaicflenbbaa", sum := "22f045ed9f650eac5f511477996a1edfa37fce3432de29c58b0c862b3fc03074", func := "skirmish/skirmishlaw18.FormationFits", spec := "formationFits", apart := false }
def FormationFitsSaid : Prop := formationFitsRow.holds Try.pinned (OpenSpec.ofChange formationFitsSpec)

/-- ITS FALSE NEIGHBOUR: 'it returns false'. Refute it at one input. -/
def formationFitsWrong : ChangeSpec := { name := "formationFits", fn := fun _ => fun
  | [d1, d2] => { results := [.lit (.bool false)], args := [d1, d2] }
  | _ => none }
def FormationFitsWrongFalsely : Prop := formationFitsRow.holds Try.pinned (OpenSpec.ofChange formationFitsWrong)

/- THE SECOND FORM. 'bulk': how many values and letters a reading holds, each counted each time it is reached (what is shared counts as often as it is met; a slice's spare places count too). A statement '..UptoSaid' is the law's where the arguments, and the package variables that the reading takes, are together of bulk at most 1048576: NARROWER than '..Said'. Prove '..Said' where nothing that the law and all that it calls make is longer than what came in: it says more and counts as full. Else prove '..UptoSaid'. A law counts once. -/
mutual
def uptoBulk {H : Type} : DataW H → Nat
  | .lit (.string bytes) => bytes.length + 1
  | .lit _ => 1
  | .nil => 1
  | .ptr d => uptoBulk d + 1
  | .slice elems spare => uptoBulkAll elems + uptoBulkAll spare + 1
  | .agg parts => uptoBulkAll parts + 1
  | .iface _ d => uptoBulk d + 1
  | .map entries => uptoBulkEntries entries + 1
  | .held _ => 1
def uptoBulkAll {H : Type} : List (DataW H) → Nat
  | [] => 0
  | d :: r => uptoBulk d + uptoBulkAll r
def uptoBulkEntries {H : Type} : List (Lit × DataW H) → Nat
  | [] => 0
  | x :: r => uptoBulkEntry x + uptoBulkEntries r
def uptoBulkEntry {H : Type} : Lit × DataW H → Nat
  | (.string bytes, d) => bytes.length + uptoBulk d + 1
  | (_, d) => uptoBulk d + 1
 end
def uptoSmall : (H : Type) → List (DataW H) → Bool := fun _ ds => decide (uptoBulkAll ds ≤ 1048576)
def OpenSpec.upto (s : _root_.Go.ChangeSpec) : _root_.Go.OpenSpec := { _root_.Go.OpenSpec.ofChange s with cond := some uptoSmall }

/-- 'skirmishlaw18.FormationSlots', WHERE WHAT IT READS IS OF BULK AT MOST 1048576: true; the input reads as it did. -/
def formationSlotsUptoRow : OpenClaim := { program := "ytjgaaicflenbbaa", sum := "22f045ed9f650eac5f511477996a1edfa37fce3432de29c58b0c862b3fc03074", func := "skirmish/skirmishlaw18.FormationSlots", spec := "formationSlots", apart := false, narrowed := true }
def FormationSlotsUptoSaid : Prop := formationSlotsUptoRow.holds Try.pinned (OpenSpec.upto formationSlotsSpec)

/-- 'skirmishlaw18.FormationAssign', WHERE WHAT IT READS IS OF BULK AT MOST 1048576: true; the input reads as it did. -/
def formationAssignUptoRow : OpenClaim := { program := "ytjgaaicflenbbaa", sum := "22f045ed9f650eac5f511477996a1edfa37fce3432de29c58b0c862b3fc03074", func := "skirmish/skirmishlaw18.FormationAssign", spec := "formationAssign", apart := false, narrowed := true }
def FormationAssignUptoSaid : Prop := formationAssignUptoRow.holds Try.pinned (OpenSpec.upto formationAssignSpec)

/-- 'skirmishlaw18.FormationAssigns', WHERE WHAT IT READS IS OF BULK AT MOST 1048576: true; the input reads as it did. -/
def formationAssignsUptoRow : OpenClaim := { program := "ytjgaaicflenbbaa", sum := "22f045ed9f650eac5f511477996a1edfa37fce3432de29c58b0c862b3fc03074", func := "skirmish/skirmishlaw18.FormationAssigns", spec := "formationAssigns", apart := false, narrowed := true }
def FormationAssignsUptoSaid : Prop := formationAssignsUptoRow.holds Try.pinned (OpenSpec.upto formationAssignsSpec)

/-- 'skirmishlaw18.FormationCosts', WHERE WHAT IT READS IS OF BULK AT MOST 1048576: true; the input reads as it did. -/
def formationCostsUptoRow : OpenClaim := { program := "ytjgaaicflenbbaa", sum := "22f045ed9f650eac5f511477996a1edfa37fce3432de29c58b0c862b3fc03074", func := "skirmish/skirmishlaw18.FormationCosts", spec := "formationCosts", apart := false, narrowed := true }
def FormationCostsUptoSaid : Prop := formationCostsUptoRow.holds Try.pinned (OpenSpec.upto formationCostsSpec)

/-- 'skirmishlaw18.FormationDistinct', WHERE WHAT IT READS IS OF BULK AT MOST 1048576: true; the input reads as it did. -/
def formationDistinctUptoRow : OpenClaim := { program := "ytjgaaicflenbbaa", sum := "22f045ed9f650eac5f511477996a1edfa37fce3432de29c58b0c862b3fc03074", func := "skirmish/skirmishlaw18.FormationDistinct", spec := "formationDistinct", apart := false, narrowed := true }
def FormationDistinctUptoSaid : Prop := formationDistinctUptoRow.holds Try.pinned (OpenSpec.upto formationDistinctSpec)

/-- 'skirmishlaw18.FormationFits', WHERE WHAT IT READS IS OF BULK AT MOST 1048576: true; the input reads as it did. -/
def formationFitsUptoRow : OpenClaim := { program := "ytjgaaicflenbbaa", sum := "22f045ed9f650eac5f511477996a1edfa37fce3432de29c58b0c862b3fc03074", func := "skirmish/skirmishlaw18.FormationFits", spec := "formationFits", apart := false, narrowed := true }
def FormationFitsUptoSaid : Prop := formationFitsUptoRow.holds Try.pinned (OpenSpec.upto formationFitsSpec)

end Rows
end Go.Proofs.Ytjgaaicflenbbaa
