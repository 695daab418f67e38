/-
  NARROWER THAN 'FOR EVERY INPUT', by the rows' own cells (each row's printed sentence says how): TerrainValid: laid · TerrainPassable: laid · TerrainSteps: laid · TerrainSymmetric: laid · TerrainClasses: laid · TerrainTakes: laid · TerrainSame: laid.
  DERIVED. THE GIVEN ROWS OF THIS SEAT. 7 by the template 'for every input the law returns true; each argument reads behind the call as it read before'; 0 by the template 'total and deterministic' (their statements: YtocgekefbdcdmaaDoorTotals.lean).
  GIVEN WITH THE SEED: the statements are not yours to turn. If you find one false, say at which input.
  Laid BY PROGRAM, IN A SANDBOX (cutbox-rows.mjs): the forced cells as the released guide's own fill.sh prints them over the translation b90e56971a0065cb… (all of the seat's roots in one cut). By AI agents, Wed Nov 11 2026. No macro, syntax, notation, axiom, sorry.
-/
import Derived.Test.YtocgekefbdcdmaaDoorChecked
import GoSem.Claim
import GoSem.ClaimJoined
import GoSem.ClaimMapViews
import Derived.JoinedTies
import Derived.KernelRfl
namespace Go.Proofs.YtocgekefbdcdmaaDoor
/- THE CELL 'sum', in the pinned program and in every row, IS THE sha256 OF THE DUMP (.gsa) THAT YtocgekefbdcdmaaDoorProg.lean LOADS. Nothing in Lean hashes anything: it is a label: what it is worth is what the hold of that sum in a sandbox is worth. -/
noncomputable def Tryd.pinned : Pinned := { name := "ytocgekefbdcdmaadoor", sum := "b90e56971a0065cb4a703a8052bedf57fafcb0c844d2ad169095093a311e7f8f", checked := Tryd.checked }
namespace Rows
def none {H : Type} : Left H := { results := [], args := [] }

/- WHAT THE LISTED PACKAGE-LEVEL VARIABLES READ AS WHEN THE CALL BEGINS. Each datum BY PROGRAM (the guide's laid-datum.mjs) off the statement by which the dump's own 'gosem.cut.vars' lays the variable. In a bare row this is a premise. The card (YtocgekefbdcdmaaDoorCards.lean) ties it to the program's text. -/
def laid_skirmish_terrain_passable {H : Type} : DataW H := .agg [.agg [.lit (.bool false), .lit (.bool false), .lit (.bool false), .lit (.bool false), .lit (.bool false), .lit (.bool false)], .agg [.lit (.bool false), .lit (.bool true), .lit (.bool false), .lit (.bool false), .lit (.bool false), .lit (.bool true)], .agg [.lit (.bool false), .lit (.bool true), .lit (.bool true), .lit (.bool false), .lit (.bool false), .lit (.bool true)], .agg [.lit (.bool false), .lit (.bool true), .lit (.bool true), .lit (.bool true), .lit (.bool true), .lit (.bool true)]]

/-- 'skirmishlaw07.TerrainValid': WHATEVER THE INPUT: true; the input reads as it did. -/
def terrainValidSpec : ChangeSpec := { name := "terrainValid", fn := fun _ => fun
  | [d1, d2, d3] => { results := [.lit (.bool true)], args := [d1, d2, d3] }
  | _ => none }
def terrainValidRow : OpenClaim := { program := "ytocgekefbdcdmaadoor", sum := "b90e56971a0065cb4a703a8052bedf57fafcb0c844d2ad169095093a311e7f8f", func := "skirmish/skirmishlaw07.TerrainValid", spec := "terrainValid", unfollowed := true, recurses := true, named := ["skirmish/terrain.passable"], apart := false, laid := [("skirmish/terrain.passable", laid_skirmish_terrain_passable)] }
def TerrainValidSaid : Prop := terrainValidRow.holds Tryd.pinned (OpenSpec.ofChange terrainValidSpec)

/-- ITS FALSE NEIGHBOUR: 'it returns false'. Refute it at one input. -/
def terrainValidWrong : ChangeSpec := { name := "terrainValid", fn := fun _ => fun
  | [d1, d2, d3] => { results := [.lit (.bool false)], args := [d1, d2, d3] }
  | _ => none }
def TerrainValidWrongFalsely : Prop := terrainValidRow.holds Tryd.pinned (OpenSpec.ofChange terrainValidWrong)

/-- 'skirmishlaw07.TerrainPassable': WHATEVER THE INPUT: true; the input reads as it did. -/
def terrainPassableSpec : ChangeSpec := { name := "terrainPassable", fn := fun _ => fun
  | [d1, d2, d3] => { results := [.lit (.bool true)], args := [d1, d2, d3] }
  | _ => none }
def terrainPassableRow : OpenClaim := { program := "ytocgekefbdcdmaadoor", sum := "b90e56971a0065cb4a703a8052bedf57fafcb0c844d2ad169095093a311e7f8f", func := "skirmish/skirmishlaw07.TerrainPassable", spec := "terrainPassable", unfollowed := true, recurses := true, named := ["skirmish/terrain.passable"], apart := false, laid := [("skirmish/terrain.passable", laid_skirmish_terrain_passable)] }
def TerrainPassableSaid : Prop := terrainPassableRow.holds Tryd.pinned (OpenSpec.ofChange terrainPassableSpec)

/-- ITS FALSE NEIGHBOUR: 'it returns false'. Refute it at one input. -/
def terrainPassableWrong : ChangeSpec := { name := "terrainPassable", fn := fun _ => fun
  | [d1, d2, d3] => { results := [.lit (.bool false)], args := [d1, d2, d3] }
  | _ => none }
def TerrainPassableWrongFalsely : Prop := terrainPassableRow.holds Tryd.pinned (OpenSpec.ofChange terrainPassableWrong)

/-- 'skirmishlaw07.TerrainSteps': WHATEVER THE INPUT: true; the input reads as it did. -/
def terrainStepsSpec : ChangeSpec := { name := "terrainSteps", fn := fun _ => fun
  | [d1, d2, d3] => { results := [.lit (.bool true)], args := [d1, d2, d3] }
  | _ => none }
def terrainStepsRow : OpenClaim := { program := "ytocgekefbdcdmaadoor", sum := "b90e56971a0065cb4a703a8052bedf57fafcb0c844d2ad169095093a311e7f8f", func := "skirmish/skirmishlaw07.TerrainSteps", spec := "terrainSteps", unfollowed := true, recurses := true, named := ["skirmish/terrain.passable"], apart := false, laid := [("skirmish/terrain.passable", laid_skirmish_terrain_passable)] }
def TerrainStepsSaid : Prop := terrainStepsRow.holds Tryd.pinned (OpenSpec.ofChange terrainStepsSpec)

/-- ITS FALSE NEIGHBOUR: 'it returns false'. Refute it at one input. -/
def terrainStepsWrong : ChangeSpec := { name := "terrainSteps", fn := fun _ => fun
  | [d1, d2, d3] => { results := [.lit (.bool false)], args := [d1, d2, d3] }
  | _ => none }
def TerrainStepsWrongFalsely : Prop := terrainStepsRow.holds Tryd.pinned (OpenSpec.ofChange terrainStepsWrong)

/-- 'skirmishlaw07.TerrainSymmetric': WHATEVER THE INPUT: true; the input reads as it did. -/
def terrainSymmetricSpec : ChangeSpec := { name := "terrainSymmetric", fn := fun _ => fun
  | [d1, d2, d3] => { results := [.lit (.bool true)], args := [d1, d2, d3] }
  | _ => none }
def terrainSymmetricRow : OpenClaim := { program := "ytocgekefbdcdmaadoor", sum := "b90e56971a0065cb4a703a8052bedf57fafcb0c844d2ad169095093a311e7f8f", func := "skirmish/skirmishlaw07.TerrainSymmetric", spec := "terrainSymmetric", unfollowed := true, recurses := true, named := ["skirmish/terrain.passable"], apart := false, laid := [("skirmish/terrain.passable", laid_skirmish_terrain_passable)] }
def TerrainSymmetricSaid : Prop := terrainSymmetricRow.holds Tryd.pinned (OpenSpec.ofChange terrainSymmetricSpec)

/-- ITS FALSE NEIGHBOUR: 'it returns false'. Refute it at one input. -/
def terrainSymmetricWrong : ChangeSpec := { name := "terrainSymmetric", fn := fun _ => fun
  | [d1, d2, d3] => { results := [.lit (.bool false)], args := [d1, d2, d3] }
  | _ => none }
def TerrainSymmetricWrongFalsely : Prop := terrainSymmetricRow.holds Tryd.pinned (OpenSpec.ofChange terrainSymmetricWrong)

/-- 'skirmishlaw07.TerrainClasses': WHATEVER THE INPUT: true; the input reads as it did. -/
def terrainClassesSpec : ChangeSpec := { name := "terrainClasses", fn := fun _ => fun
  | [d1, d2, d3] => { results := [.lit (.bool true)], args := [d1, d2, d3] }
  | _ => none }
def terrainClassesRow : OpenClaim := { program := "ytocgekefbdcdmaadoor", sum := "b90e56971a0065cb4a703a8052bedf57fafcb0c844d2ad169095093a311e7f8f", func := "skirmish/skirmishlaw07.TerrainClasses", spec := "terrainClasses", unfollowed := true, recurses := true, named := ["skirmish/terrain.passable"], apart := false, laid := [("skirmish/terrain.passable", laid_skirmish_terrain_passable)] }
def TerrainClassesSaid : Prop := terrainClassesRow.holds Tryd.pinned (OpenSpec.ofChange terrainClassesSpec)

/-- ITS FALSE NEIGHBOUR: 'it returns false'. Refute it at one input. -/
def terrainClassesWrong : ChangeSpec := { name := "terrainClasses", fn := fun _ => fun
  | [d1, d2, d3] => { results := [.lit (.bool false)], args := [d1, d2, d3] }
  | _ => none }
def TerrainClassesWrongFalsely : Prop := terrainClassesRow.holds Tryd.pinned (OpenSpec.ofChange terrainClassesWrong)

/-- 'skirmishlaw07.TerrainTakes': WHATEVER THE INPUT: true; the input reads as it did. -/
def terrainTakesSpec : ChangeSpec := { name := "terrainTakes", fn := fun _ => fun
  | [d1, d2, d3] => { results := [.lit (.bool true)], args := [d1, d2, d3] }
  | _ => none }
def terrainTakesRow : OpenClaim := { program := "ytocgekefbdcdmaadoor", sum := "b90e56971a0065cb4a703a8052bedf57fafcb0c844d2ad169095093a311e7f8f", func := "skirmish/skirmishlaw07.TerrainTakes", spec := "terrainTakes", unfollowed := true, recurses := true, named := ["skirmish/terrain.passable"], apart := false, laid := [("skirmish/terrain.passable", laid_skirmish_terrain_passable)] }
def TerrainTakesSaid : Prop := terrainTakesRow.holds Tryd.pinned (OpenSpec.ofChange terrainTakesSpec)

/-- ITS FALSE NEIGHBOUR: 'it returns false'. Refute it at one input. -/
def terrainTakesWrong : ChangeSpec := { name := "terrainTakes", fn := fun _ => fun
  | [d1, d2, d3] => { results := [.lit (.bool false)], args := [d1, d2, d3] }
  | _ => none }
def TerrainTakesWrongFalsely : Prop := terrainTakesRow.holds Tryd.pinned (OpenSpec.ofChange terrainTakesWrong)

/-- 'skirmishlaw07.TerrainSame': WHATEVER THE INPUT: true; the input reads as it did. -/
def terrainSameSpec : ChangeSpec := { name := "terrainSame", fn := fun _ => fun
  | [d1, d2] => { results := [.lit (.bool true)], args := [d1, d2] }
  | _ => none }
def terrainSameRow : OpenClaim := { program := "ytocgekefbdcdmaadoor", sum := "b90e56971a0065cb4a703a8052bedf57fafcb0c844d2ad169095093a311e7f8f", func := "skirmish/skirmishlaw07.TerrainSame", spec := "terrainSame", unfollowed := true, recurses := true, named := ["skirmish/terrain.passable"], apart := false, laid := [("skirmish/terrain.passable", laid_skirmish_terrain_passable)] }
def TerrainSameSaid : Prop := terrainSameRow.holds Tryd.pinned (OpenSpec.ofChange terrainSameSpec)

/-- ITS FALSE NEIGHBOUR: 'it returns false'. Refute it at one input. -/
def terrainSameWrong : ChangeSpec := { name := "terrainSame", fn := fun _ => fun
  | [d1, d2] => { results := [.lit (.bool false)], args := [d1, d2] }
  | _ => none }
def TerrainSameWrongFalsely : Prop := terrainSameRow.holds Tryd.pinned (OpenSpec.ofChange terrainSameWrong)

/- THE SECOND FORM. 'bulk': how many values and letters a reading holds, each counted each time it is reached (what is shared counts as often as it is met; a slice's spare places count too). A statement '..UptoSaid' is the law's where the arguments, and the package variables that the reading takes, are together of bulk at most 1048576: NARROWER than '..Said'. Prove '..Said' where nothing that the law and all that it calls make is longer than what came in: it says more and counts as full. Else prove '..UptoSaid'. A law counts once. -/
mutual
def uptoBulk {H : Type} : DataW H → Nat
  | .lit (.string bytes) => bytes.length + 1
  | .lit _ => 1
  | .nil => 1
  | .ptr d => uptoBulk d + 1
  | .slice elems spare => uptoBulkAll elems + uptoBulkAll spare + 1
  | .agg parts => uptoBulkAll parts + 1
  | .iface _ d => uptoBulk d + 1
  | .map entries => uptoBulkEntries entries + 1
  | .held _ => 1
def uptoBulkAll {H : Type} : List (DataW H) → Nat
  | [] => 0
  | d :: r => uptoBulk d + uptoBulkAll r
def uptoBulkEntries {H : Type} : List (Lit × DataW H) → Nat
  | [] => 0
  | x :: r => uptoBulkEntry x + uptoBulkEntries r
def uptoBulkEntry {H : Type} : Lit × DataW H → Nat
  | (.string bytes, d) => bytes.length + uptoBulk d + 1
  | (_, d) => uptoBulk d + 1
 end
def uptoSmall : (H : Type) → List (DataW H) → Bool := fun _ ds => decide (uptoBulkAll ds ≤ 1048576)
def OpenSpec.upto (s : _root_.Go.ChangeSpec) : _root_.Go.OpenSpec := { _root_.Go.OpenSpec.ofChange s with cond := some uptoSmall }

/-- 'skirmishlaw07.TerrainValid', WHERE WHAT IT READS IS OF BULK AT MOST 1048576: true; the input reads as it did. -/
def terrainValidUptoRow : OpenClaim := { program := "ytocgekefbdcdmaadoor", sum := "b90e56971a0065cb4a703a8052bedf57fafcb0c844d2ad169095093a311e7f8f", func := "skirmish/skirmishlaw07.TerrainValid", spec := "terrainValid", unfollowed := true, recurses := true, named := ["skirmish/terrain.passable"], apart := false, laid := [("skirmish/terrain.passable", laid_skirmish_terrain_passable)], narrowed := true }
def TerrainValidUptoSaid : Prop := terrainValidUptoRow.holds Tryd.pinned (OpenSpec.upto terrainValidSpec)

/-- 'skirmishlaw07.TerrainPassable', WHERE WHAT IT READS IS OF BULK AT MOST 1048576: true; the input reads as it did. -/
def terrainPassableUptoRow : OpenClaim := { program := "ytocgekefbdcdmaadoor", sum := "b90e56971a0065cb4a703a8052bedf57fafcb0c844d2ad169095093a311e7f8f", func := "skirmish/skirmishlaw07.TerrainPassable", spec := "terrainPassable", unfollowed := true, recurses := true, named := ["skirmish/terrain.passable"], apart := false, laid := [("skirmish/terrain.passable", laid_skirmish_terrain_passable)], narrowed := true }
def TerrainPassableUptoSaid : Prop := terrainPassableUptoRow.holds Tryd.pinned (OpenSpec.upto terrainPassableSpec)

/-- 'skirmishlaw07.TerrainSteps', WHERE WHAT IT READS IS OF BULK AT MOST 1048576: true; the input reads as it did. -/
def terrainStepsUptoRow : OpenClaim := { program := "ytocgekefbdcdmaadoor", sum := "b90e56971a0065cb4a703a8052bedf57fafcb0c844d2ad169095093a311e7f8f", func := "skirmish/skirmishlaw07.TerrainSteps", spec := "terrainSteps", unfollowed := true, recurses := true, named := ["skirmish/terrain.passable"], apart := false, laid := [("skirmish/terrain.passable", laid_skirmish_terrain_passable)], narrowed := true }
def TerrainStepsUptoSaid : Prop := terrainStepsUptoRow.holds Tryd.pinned (OpenSpec.upto terrainStepsSpec)

/-- 'skirmishlaw07.TerrainSymmetric', WHERE WHAT IT READS IS OF BULK AT MOST 1048576: true; the input reads as it did. -/
def terrainSymmetricUptoRow : OpenClaim := { program := "ytocgekefbdcdmaadoor", sum := "b90e56971a0065cb4a703a8052bedf57fafcb0c844d2ad169095093a311e7f8f", func := "skirmish/skirmishlaw07.TerrainSymmetric", spec := "terrainSymmetric", unfollowed := true, recurses := true, named := ["skirmish/terrain.passable"], apart := false, laid := [("skirmish/terrain.passable", laid_skirmish_terrain_passable)], narrowed := true }
def TerrainSymmetricUptoSaid : Prop := terrainSymmetricUptoRow.holds Tryd.pinned (OpenSpec.upto terrainSymmetricSpec)

/-- 'skirmishlaw07.TerrainClasses', WHERE WHAT IT READS IS OF BULK AT MOST 1048576: true; the input reads as it did. -/
def terrainClassesUptoRow : OpenClaim := { program := "ytocgekefbdcdmaadoor", sum := "b90e56971a0065cb4a703a8052bedf57fafcb0c844d2ad169095093a311e7f8f", func := "skirmish/skirmishlaw07.TerrainClasses", spec := "terrainClasses", unfollowed := true, recurses := true, named := ["skirmish/terrain.passable"], apart := false, laid := [("skirmish/terrain.passable", laid_skirmish_terrain_passable)], narrowed := true }
def TerrainClassesUptoSaid : Prop := terrainClassesUptoRow.holds Tryd.pinned (OpenSpec.upto terrainClassesSpec)

/-- 'skirmishlaw07.TerrainTakes', WHERE WHAT IT READS IS OF BULK AT MOST 1048576: true; the input reads as it did. -/
def terrainTakesUptoRow : OpenClaim := { program := "ytocgekefbdcdmaadoor", sum := "b90e56971a0065cb4a703a8052bedf57fafcb0c844d2ad169095093a311e7f8f", func := "skirmish/skirmishlaw07.TerrainTakes", spec := "terrainTakes", unfollowed := true, recurses := true, named := ["skirmish/terrain.passable"], apart := false, laid := [("skirmish/terrain.passable", laid_skirmish_terrain_passable)], narrowed := true }
def TerrainTakesUptoSaid : Prop := terrainTakesUptoRow.holds Tryd.pinned (OpenSpec.upto terrainTakesSpec)

/-- 'skirmishlaw07.TerrainSame', WHERE WHAT IT READS IS OF BULK AT MOST 1048576: true; the input reads as it did. -/
def terrainSameUptoRow : OpenClaim := { program := "ytocgekefbdcdmaadoor", sum := "b90e56971a0065cb4a703a8052bedf57fafcb0c844d2ad169095093a311e7f8f", func := "skirmish/skirmishlaw07.TerrainSame", spec := "terrainSame", unfollowed := true, recurses := true, named := ["skirmish/terrain.passable"], apart := false, laid := [("skirmish/terrain.passable", laid_skirmish_terrain_passable)], narrowed := true }
def TerrainSameUptoSaid : Prop := terrainSameUptoRow.holds Tryd.pinned (OpenSpec.upto terrainSameSpec)

end Rows
end Go.Proofs.YtocgekefbdcdmaaDoor
