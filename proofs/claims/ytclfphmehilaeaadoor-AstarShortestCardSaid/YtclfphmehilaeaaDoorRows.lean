/-
  NARROWER THAN 'FOR EVERY INPUT', by the rows' own cells (each row's printed sentence says how): AstarPaths: laid · AstarCosts: laid · AstarReaches: laid · AstarAgrees: laid · AstarRegions: laid · AstarTriangles: laid · AstarShortest: laid.
  DERIVED. THE GIVEN ROWS OF THIS SEAT. 7 by the template 'for every input the law returns true; each argument reads behind the call as it read before'; 0 by the template 'total and deterministic' (their statements: YtclfphmehilaeaaDoorTotals.lean).
  GIVEN WITH THE SEED: the statements are not yours to turn. If you find one false, say at which input.
  Laid BY PROGRAM, IN A SANDBOX (cutbox-rows.mjs): the forced cells as the released guide's own fill.sh prints them over the translation 8bf5caff1d387e4c… (all of the seat's roots in one cut). By AI agents, Wed Nov 11 2026. No macro, syntax, notation, axiom, sorry.
-/
import Derived.Test.YtclfphmehilaeaaDoorChecked
import GoSem.Claim
import GoSem.ClaimJoined
import GoSem.ClaimMapViews
import Derived.JoinedTies
import Derived.KernelRfl
namespace Go.Proofs.YtclfphmehilaeaaDoor
/- THE CELL 'sum', in the pinned program and in every row, IS THE sha256 OF THE DUMP (.gsa) THAT YtclfphmehilaeaaDoorProg.lean LOADS. Nothing in Lean hashes anything: it is a label: what it is worth is what the hold of that sum in a sandbox is worth. -/
noncomputable def Tryd.pinned : Pinned := { name := "ytclfphmehilaeaadoor", sum := "8bf5caff1d387e4cd7fb7e5cc5c1eff47d2ee45f2985d4ddde07debb842cbfdb", checked := Tryd.checked }
namespace Rows
def none {H : Type} : Left H := { results := [], args := [] }

/- WHAT THE LISTED PACKAGE-LEVEL VARIABLES READ AS WHEN THE CALL BEGINS. Each datum BY PROGRAM (the guide's laid-datum.mjs) off the statement by which the dump's own 'gosem.cut.vars' lays the variable. In a bare row this is a premise. The card (YtclfphmehilaeaaDoorCards.lean) ties it to the program's text. -/
def laid_skirmish_terrain_passable {H : Type} : DataW H := .agg [.agg [.lit (.bool false), .lit (.bool false), .lit (.bool false), .lit (.bool false), .lit (.bool false), .lit (.bool false)], .agg [.lit (.bool false), .lit (.bool true), .lit (.bool false), .lit (.bool false), .lit (.bool false), .lit (.bool true)], .agg [.lit (.bool false), .lit (.bool true), .lit (.bool true), .lit (.bool false), .lit (.bool false), .lit (.bool true)], .agg [.lit (.bool false), .lit (.bool true), .lit (.bool true), .lit (.bool true), .lit (.bool true), .lit (.bool true)]]

/-- 'skirmishlaw14.AstarPaths': WHATEVER THE INPUT: true; the input reads as it did. -/
def astarPathsSpec : ChangeSpec := { name := "astarPaths", fn := fun _ => fun
  | [d] => { results := [.lit (.bool true)], args := [d] }
  | _ => none }
def astarPathsRow : OpenClaim := { program := "ytclfphmehilaeaadoor", sum := "8bf5caff1d387e4cd7fb7e5cc5c1eff47d2ee45f2985d4ddde07debb842cbfdb", func := "skirmish/skirmishlaw14.AstarPaths", spec := "astarPaths", unfollowed := true, recurses := true, named := ["skirmish/terrain.passable"], apart := false, laid := [("skirmish/terrain.passable", laid_skirmish_terrain_passable)] }
def AstarPathsSaid : Prop := astarPathsRow.holds Tryd.pinned (OpenSpec.ofChange astarPathsSpec)

/-- ITS FALSE NEIGHBOUR: 'it returns false'. Refute it at one input. -/
def astarPathsWrong : ChangeSpec := { name := "astarPaths", fn := fun _ => fun
  | [d] => { results := [.lit (.bool false)], args := [d] }
  | _ => none }
def AstarPathsWrongFalsely : Prop := astarPathsRow.holds Tryd.pinned (OpenSpec.ofChange astarPathsWrong)

/-- 'skirmishlaw14.AstarCosts': WHATEVER THE INPUT: true; the input reads as it did. -/
def astarCostsSpec : ChangeSpec := { name := "astarCosts", fn := fun _ => fun
  | [d1, d2] => { results := [.lit (.bool true)], args := [d1, d2] }
  | _ => none }
def astarCostsRow : OpenClaim := { program := "ytclfphmehilaeaadoor", sum := "8bf5caff1d387e4cd7fb7e5cc5c1eff47d2ee45f2985d4ddde07debb842cbfdb", func := "skirmish/skirmishlaw14.AstarCosts", spec := "astarCosts", unfollowed := true, recurses := true, named := ["skirmish/terrain.passable"], apart := false, laid := [("skirmish/terrain.passable", laid_skirmish_terrain_passable)] }
def AstarCostsSaid : Prop := astarCostsRow.holds Tryd.pinned (OpenSpec.ofChange astarCostsSpec)

/-- ITS FALSE NEIGHBOUR: 'it returns false'. Refute it at one input. -/
def astarCostsWrong : ChangeSpec := { name := "astarCosts", fn := fun _ => fun
  | [d1, d2] => { results := [.lit (.bool false)], args := [d1, d2] }
  | _ => none }
def AstarCostsWrongFalsely : Prop := astarCostsRow.holds Tryd.pinned (OpenSpec.ofChange astarCostsWrong)

/-- 'skirmishlaw14.AstarReaches': WHATEVER THE INPUT: true; the input reads as it did. -/
def astarReachesSpec : ChangeSpec := { name := "astarReaches", fn := fun _ => fun
  | [d] => { results := [.lit (.bool true)], args := [d] }
  | _ => none }
def astarReachesRow : OpenClaim := { program := "ytclfphmehilaeaadoor", sum := "8bf5caff1d387e4cd7fb7e5cc5c1eff47d2ee45f2985d4ddde07debb842cbfdb", func := "skirmish/skirmishlaw14.AstarReaches", spec := "astarReaches", unfollowed := true, recurses := true, named := ["skirmish/terrain.passable"], apart := false, laid := [("skirmish/terrain.passable", laid_skirmish_terrain_passable)] }
def AstarReachesSaid : Prop := astarReachesRow.holds Tryd.pinned (OpenSpec.ofChange astarReachesSpec)

/-- ITS FALSE NEIGHBOUR: 'it returns false'. Refute it at one input. -/
def astarReachesWrong : ChangeSpec := { name := "astarReaches", fn := fun _ => fun
  | [d] => { results := [.lit (.bool false)], args := [d] }
  | _ => none }
def AstarReachesWrongFalsely : Prop := astarReachesRow.holds Tryd.pinned (OpenSpec.ofChange astarReachesWrong)

/-- 'skirmishlaw14.AstarAgrees': WHATEVER THE INPUT: true; the input reads as it did. -/
def astarAgreesSpec : ChangeSpec := { name := "astarAgrees", fn := fun _ => fun
  | [d] => { results := [.lit (.bool true)], args := [d] }
  | _ => none }
def astarAgreesRow : OpenClaim := { program := "ytclfphmehilaeaadoor", sum := "8bf5caff1d387e4cd7fb7e5cc5c1eff47d2ee45f2985d4ddde07debb842cbfdb", func := "skirmish/skirmishlaw14.AstarAgrees", spec := "astarAgrees", unfollowed := true, recurses := true, named := ["skirmish/terrain.passable"], apart := false, laid := [("skirmish/terrain.passable", laid_skirmish_terrain_passable)] }
def AstarAgreesSaid : Prop := astarAgreesRow.holds Tryd.pinned (OpenSpec.ofChange astarAgreesSpec)

/-- ITS FALSE NEIGHBOUR: 'it returns false'. Refute it at one input. -/
def astarAgreesWrong : ChangeSpec := { name := "astarAgrees", fn := fun _ => fun
  | [d] => { results := [.lit (.bool false)], args := [d] }
  | _ => none }
def AstarAgreesWrongFalsely : Prop := astarAgreesRow.holds Tryd.pinned (OpenSpec.ofChange astarAgreesWrong)

/-- 'skirmishlaw14.AstarRegions': WHATEVER THE INPUT: true; the input reads as it did. -/
def astarRegionsSpec : ChangeSpec := { name := "astarRegions", fn := fun _ => fun
  | [d] => { results := [.lit (.bool true)], args := [d] }
  | _ => none }
def astarRegionsRow : OpenClaim := { program := "ytclfphmehilaeaadoor", sum := "8bf5caff1d387e4cd7fb7e5cc5c1eff47d2ee45f2985d4ddde07debb842cbfdb", func := "skirmish/skirmishlaw14.AstarRegions", spec := "astarRegions", unfollowed := true, recurses := true, named := ["skirmish/terrain.passable"], apart := false, laid := [("skirmish/terrain.passable", laid_skirmish_terrain_passable)] }
def AstarRegionsSaid : Prop := astarRegionsRow.holds Tryd.pinned (OpenSpec.ofChange astarRegionsSpec)

/-- ITS FALSE NEIGHBOUR: 'it returns false'. Refute it at one input. -/
def astarRegionsWrong : ChangeSpec := { name := "astarRegions", fn := fun _ => fun
  | [d] => { results := [.lit (.bool false)], args := [d] }
  | _ => none }
def AstarRegionsWrongFalsely : Prop := astarRegionsRow.holds Tryd.pinned (OpenSpec.ofChange astarRegionsWrong)

/-- 'skirmishlaw14.AstarTriangles': WHATEVER THE INPUT: true; the input reads as it did. -/
def astarTrianglesSpec : ChangeSpec := { name := "astarTriangles", fn := fun _ => fun
  | [d] => { results := [.lit (.bool true)], args := [d] }
  | _ => none }
def astarTrianglesRow : OpenClaim := { program := "ytclfphmehilaeaadoor", sum := "8bf5caff1d387e4cd7fb7e5cc5c1eff47d2ee45f2985d4ddde07debb842cbfdb", func := "skirmish/skirmishlaw14.AstarTriangles", spec := "astarTriangles", unfollowed := true, recurses := true, named := ["skirmish/terrain.passable"], apart := false, laid := [("skirmish/terrain.passable", laid_skirmish_terrain_passable)] }
def AstarTrianglesSaid : Prop := astarTrianglesRow.holds Tryd.pinned (OpenSpec.ofChange astarTrianglesSpec)

/-- ITS FALSE NEIGHBOUR: 'it returns false'. Refute it at one input. -/
def astarTrianglesWrong : ChangeSpec := { name := "astarTriangles", fn := fun _ => fun
  | [d] => { results := [.lit (.bool false)], args := [d] }
  | _ => none }
def AstarTrianglesWrongFalsely : Prop := astarTrianglesRow.holds Tryd.pinned (OpenSpec.ofChange astarTrianglesWrong)

/-- 'skirmishlaw14.AstarShortest': WHATEVER THE INPUT: true; the input reads as it did. -/
def astarShortestSpec : ChangeSpec := { name := "astarShortest", fn := fun _ => fun
  | [d1, d2] => { results := [.lit (.bool true)], args := [d1, d2] }
  | _ => none }
def astarShortestRow : OpenClaim := { program := "ytclfphmehilaeaadoor", sum := "8bf5caff1d387e4cd7fb7e5cc5c1eff47d2ee45f2985d4ddde07debb842cbfdb", func := "skirmish/skirmishlaw14.AstarShortest", spec := "astarShortest", unfollowed := true, recurses := true, named := ["skirmish/terrain.passable"], apart := false, laid := [("skirmish/terrain.passable", laid_skirmish_terrain_passable)] }
def AstarShortestSaid : Prop := astarShortestRow.holds Tryd.pinned (OpenSpec.ofChange astarShortestSpec)

/-- ITS FALSE NEIGHBOUR: 'it returns false'. Refute it at one input. -/
def astarShortestWrong : ChangeSpec := { name := "astarShortest", fn := fun _ => fun
  | [d1, d2] => { results := [.lit (.bool false)], args := [d1, d2] }
  | _ => none }
def AstarShortestWrongFalsely : Prop := astarShortestRow.holds Tryd.pinned (OpenSpec.ofChange astarShortestWrong)

/- THE SECOND FORM. 'bulk': how many values and letters a reading holds, each counted each time it is reached (what is shared counts as often as it is met; a slice's spare places count too). A statement '..UptoSaid' is the law's where the arguments, and the package variables that the reading takes, are together of bulk at most 1048576: NARROWER than '..Said'. Prove '..Said' where nothing that the law and all that it calls make is longer than what came in: it says more and counts as full. Else prove '..UptoSaid'. A law counts once. -/
mutual
def uptoBulk {H : Type} : DataW H → Nat
  | .lit (.string bytes) => bytes.length + 1
  | .lit _ => 1
  | .nil => 1
  | .ptr d => uptoBulk d + 1
  | .slice elems spare => uptoBulkAll elems + uptoBulkAll spare + 1
  | .agg parts => uptoBulkAll parts + 1
  | .iface _ d => uptoBulk d + 1
  | .map entries => uptoBulkEntries entries + 1
  | .held _ => 1
def uptoBulkAll {H : Type} : List (DataW H) → Nat
  | [] => 0
  | d :: r => uptoBulk d + uptoBulkAll r
def uptoBulkEntries {H : Type} : List (Lit × DataW H) → Nat
  | [] => 0
  | x :: r => uptoBulkEntry x + uptoBulkEntries r
def uptoBulkEntry {H : Type} : Lit × DataW H → Nat
  | (.string bytes, d) => bytes.length + uptoBulk d + 1
  | (_, d) => uptoBulk d + 1
 end
def uptoSmall : (H : Type) → List (DataW H) → Bool := fun _ ds => decide (uptoBulkAll ds ≤ 1048576)
def OpenSpec.upto (s : _root_.Go.ChangeSpec) : _root_.Go.OpenSpec := { _root_.Go.OpenSpec.ofChange s with cond := some uptoSmall }

/-- 'skirmishlaw14.AstarPaths', WHERE WHAT IT READS IS OF BULK AT MOST 1048576: true; the input reads as it did. -/
def astarPathsUptoRow : OpenClaim := { program := "ytclfphmehilaeaadoor", sum := "8bf5caff1d387e4cd7fb7e5cc5c1eff47d2ee45f2985d4ddde07debb842cbfdb", func := "skirmish/skirmishlaw14.AstarPaths", spec := "astarPaths", unfollowed := true, recurses := true, named := ["skirmish/terrain.passable"], apart := false, laid := [("skirmish/terrain.passable", laid_skirmish_terrain_passable)], narrowed := true }
def AstarPathsUptoSaid : Prop := astarPathsUptoRow.holds Tryd.pinned (OpenSpec.upto astarPathsSpec)

/-- 'skirmishlaw14.AstarCosts', WHERE WHAT IT READS IS OF BULK AT MOST 1048576: true; the input reads as it did. -/
def astarCostsUptoRow : OpenClaim := { program := "ytclfphmehilaeaadoor", sum := "8bf5caff1d387e4cd7fb7e5cc5c1eff47d2ee45f2985d4ddde07debb842cbfdb", func := "skirmish/skirmishlaw14.AstarCosts", spec := "astarCosts", unfollowed := true, recurses := true, named := ["skirmish/terrain.passable"], apart := false, laid := [("skirmish/terrain.passable", laid_skirmish_terrain_passable)], narrowed := true }
def AstarCostsUptoSaid : Prop := astarCostsUptoRow.holds Tryd.pinned (OpenSpec.upto astarCostsSpec)

/-- 'skirmishlaw14.AstarReaches', WHERE WHAT IT READS IS OF BULK AT MOST 1048576: true; the input reads as it did. -/
def astarReachesUptoRow : OpenClaim := { program := "ytclfphmehilaeaadoor", sum := "8bf5caff1d387e4cd7fb7e5cc5c1eff47d2ee45f2985d4ddde07debb842cbfdb", func := "skirmish/skirmishlaw14.AstarReaches", spec := "astarReaches", unfollowed := true, recurses := true, named := ["skirmish/terrain.passable"], apart := false, laid := [("skirmish/terrain.passable", laid_skirmish_terrain_passable)], narrowed := true }
def AstarReachesUptoSaid : Prop := astarReachesUptoRow.holds Tryd.pinned (OpenSpec.upto astarReachesSpec)

/-- 'skirmishlaw14.AstarAgrees', WHERE WHAT IT READS IS OF BULK AT MOST 1048576: true; the input reads as it did. -/
def astarAgreesUptoRow : OpenClaim := { program := "ytclfphmehilaeaadoor", sum := "8bf5caff1d387e4cd7fb7e5cc5c1eff47d2ee45f2985d4ddde07debb842cbfdb", func := "skirmish/skirmishlaw14.AstarAgrees", spec := "astarAgrees", unfollowed := true, recurses := true, named := ["skirmish/terrain.passable"], apart := false, laid := [("skirmish/terrain.passable", laid_skirmish_terrain_passable)], narrowed := true }
def AstarAgreesUptoSaid : Prop := astarAgreesUptoRow.holds Tryd.pinned (OpenSpec.upto astarAgreesSpec)

/-- 'skirmishlaw14.AstarRegions', WHERE WHAT IT READS IS OF BULK AT MOST 1048576: true; the input reads as it did. -/
def astarRegionsUptoRow : OpenClaim := { program := "ytclfphmehilaeaadoor", sum := "8bf5caff1d387e4cd7fb7e5cc5c1eff47d2ee45f2985d4ddde07debb842cbfdb", func := "skirmish/skirmishlaw14.AstarRegions", spec := "astarRegions", unfollowed := true, recurses := true, named := ["skirmish/terrain.passable"], apart := false, laid := [("skirmish/terrain.passable", laid_skirmish_terrain_passable)], narrowed := true }
def AstarRegionsUptoSaid : Prop := astarRegionsUptoRow.holds Tryd.pinned (OpenSpec.upto astarRegionsSpec)

/-- 'skirmishlaw14.AstarTriangles', WHERE WHAT IT READS IS OF BULK AT MOST 1048576: true; the input reads as it did. -/
def astarTrianglesUptoRow : OpenClaim := { program := "ytclfphmehilaeaadoor", sum := "8bf5caff1d387e4cd7fb7e5cc5c1eff47d2ee45f2985d4ddde07debb842cbfdb", func := "skirmish/skirmishlaw14.AstarTriangles", spec := "astarTriangles", unfollowed := true, recurses := true, named := ["skirmish/terrain.passable"], apart := false, laid := [("skirmish/terrain.passable", laid_skirmish_terrain_passable)], narrowed := true }
def AstarTrianglesUptoSaid : Prop := astarTrianglesUptoRow.holds Tryd.pinned (OpenSpec.upto astarTrianglesSpec)

/-- 'skirmishlaw14.AstarShortest', WHERE WHAT IT READS IS OF BULK AT MOST 1048576: true; the input reads as it did. -/
def astarShortestUptoRow : OpenClaim := { program := "ytclfphmehilaeaadoor", sum := "8bf5caff1d387e4cd7fb7e5cc5c1eff47d2ee45f2985d4ddde07debb842cbfdb", func := "skirmish/skirmishlaw14.AstarShortest", spec := "astarShortest", unfollowed := true, recurses := true, named := ["skirmish/terrain.passable"], apart := false, laid := [("skirmish/terrain.passable", laid_skirmish_terrain_passable)], narrowed := true }
def AstarShortestUptoSaid : Prop := astarShortestUptoRow.holds Tryd.pinned (OpenSpec.upto astarShortestSpec)

end Rows
end Go.Proofs.YtclfphmehilaeaaDoor
