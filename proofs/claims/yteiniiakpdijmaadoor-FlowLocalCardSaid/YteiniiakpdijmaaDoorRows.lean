/-
  NARROWER THAN 'FOR EVERY INPUT', by the rows' own cells (each row's printed sentence says how): FlowBuilds: laid · FlowNexts: laid · FlowUpdates: laid · FlowChecks: laid · FlowFollows: laid · FlowLocal: laid.
  DERIVED. THE GIVEN ROWS OF THIS SEAT. 6 by the template 'for every input the law returns true; each argument reads behind the call as it read before'; 0 by the template 'total and deterministic' (their statements: YteiniiakpdijmaaDoorTotals.lean).
  GIVEN WITH THE SEED: the statements are not yours to turn. If you find one false, say at which input.
  Laid BY PROGRAM, IN A SANDBOX (cutbox-rows.mjs): the forced cells as the released guide's own fill.sh prints them over the translation 1a8ed9a0372057c7… (all of the seat's roots in one cut). By AI agents, Wed Nov 11 2026. No macro, syntax, notation, axiom, sorry.
-/
import Derived.Test.YteiniiakpdijmaaDoorChecked
import GoSem.Claim
import GoSem.ClaimJoined
import GoSem.ClaimMapViews
import Derived.JoinedTies
import Derived.KernelRfl
namespace Go.Proofs.YteiniiakpdijmaaDoor
/- THE CELL 'sum', in the pinned program and in every row, IS THE sha256 OF THE DUMP (.gsa) THAT YteiniiakpdijmaaDoorProg.lean LOADS. Nothing in Lean hashes anything: it is a label: what it is worth is what the hold of that sum in a sandbox is worth. -/
noncomputable def Tryd.pinned : Pinned := { name := "yteiniiakpdijmaadoor", sum := "1a8ed9a0372057c733f3105974c26382ff7e9f848e284716c04ed29cb3058a37", checked := Tryd.checked }
namespace Rows
def none {H : Type} : Left H := { results := [], args := [] }

/- WHAT THE LISTED PACKAGE-LEVEL VARIABLES READ AS WHEN THE CALL BEGINS. Each datum BY PROGRAM (the guide's laid-datum.mjs) off the statement by which the dump's own 'gosem.cut.vars' lays the variable. In a bare row this is a premise. The card (YteiniiakpdijmaaDoorCards.lean) ties it to the program's text. -/
def laid_skirmish_terrain_passable {H : Type} : DataW H := .agg [.agg [.lit (.bool false), .lit (.bool false), .lit (.bool false), .lit (.bool false), .lit (.bool false), .lit (.bool false)], .agg [.lit (.bool false), .lit (.bool true), .lit (.bool false), .lit (.bool false), .lit (.bool false), .lit (.bool true)], .agg [.lit (.bool false), .lit (.bool true), .lit (.bool true), .lit (.bool false), .lit (.bool false), .lit (.bool true)], .agg [.lit (.bool false), .lit (.bool true), .lit (.bool true), .lit (.bool true), .lit (.bool true), .lit (.bool true)]]

/-- 'skirmishlaw17.FlowBuilds': WHATEVER THE INPUT: true; the input reads as it did. -/
def flowBuildsSpec : ChangeSpec := { name := "flowBuilds", fn := fun _ => fun
  | [d] => { results := [.lit (.bool true)], args := [d] }
  | _ => none }
def flowBuildsRow : OpenClaim := { program := "yteiniiakpdijmaadoor", sum := "1a8ed9a0372057c733f3105974c26382ff7e9f848e284716c04ed29cb3058a37", func := "skirmish/skirmishlaw17.FlowBuilds", spec := "flowBuilds", unfollowed := true, recurses := true, named := ["skirmish/terrain.passable"], apart := false, laid := [("skirmish/terrain.passable", laid_skirmish_terrain_passable)] }
def FlowBuildsSaid : Prop := flowBuildsRow.holds Tryd.pinned (OpenSpec.ofChange flowBuildsSpec)

/-- ITS FALSE NEIGHBOUR: 'it returns false'. Refute it at one input. -/
def flowBuildsWrong : ChangeSpec := { name := "flowBuilds", fn := fun _ => fun
  | [d] => { results := [.lit (.bool false)], args := [d] }
  | _ => none }
def FlowBuildsWrongFalsely : Prop := flowBuildsRow.holds Tryd.pinned (OpenSpec.ofChange flowBuildsWrong)

/-- 'skirmishlaw17.FlowNexts': WHATEVER THE INPUT: true; the input reads as it did. -/
def flowNextsSpec : ChangeSpec := { name := "flowNexts", fn := fun _ => fun
  | [d1, d2, d3] => { results := [.lit (.bool true)], args := [d1, d2, d3] }
  | _ => none }
def flowNextsRow : OpenClaim := { program := "yteiniiakpdijmaadoor", sum := "1a8ed9a0372057c733f3105974c26382ff7e9f848e284716c04ed29cb3058a37", func := "skirmish/skirmishlaw17.FlowNexts", spec := "flowNexts", unfollowed := true, recurses := true, named := ["skirmish/terrain.passable"], apart := false, laid := [("skirmish/terrain.passable", laid_skirmish_terrain_passable)] }
def FlowNextsSaid : Prop := flowNextsRow.holds Tryd.pinned (OpenSpec.ofChange flowNextsSpec)

/-- ITS FALSE NEIGHBOUR: 'it returns false'. Refute it at one input. -/
def flowNextsWrong : ChangeSpec := { name := "flowNexts", fn := fun _ => fun
  | [d1, d2, d3] => { results := [.lit (.bool false)], args := [d1, d2, d3] }
  | _ => none }
def FlowNextsWrongFalsely : Prop := flowNextsRow.holds Tryd.pinned (OpenSpec.ofChange flowNextsWrong)

/-- 'skirmishlaw17.FlowUpdates': WHATEVER THE INPUT: true; the input reads as it did. -/
def flowUpdatesSpec : ChangeSpec := { name := "flowUpdates", fn := fun _ => fun
  | [d1, d2, d3] => { results := [.lit (.bool true)], args := [d1, d2, d3] }
  | _ => none }
def flowUpdatesRow : OpenClaim := { program := "yteiniiakpdijmaadoor", sum := "1a8ed9a0372057c733f3105974c26382ff7e9f848e284716c04ed29cb3058a37", func := "skirmish/skirmishlaw17.FlowUpdates", spec := "flowUpdates", unfollowed := true, recurses := true, named := ["skirmish/terrain.passable"], apart := false, laid := [("skirmish/terrain.passable", laid_skirmish_terrain_passable)] }
def FlowUpdatesSaid : Prop := flowUpdatesRow.holds Tryd.pinned (OpenSpec.ofChange flowUpdatesSpec)

/-- ITS FALSE NEIGHBOUR: 'it returns false'. Refute it at one input. -/
def flowUpdatesWrong : ChangeSpec := { name := "flowUpdates", fn := fun _ => fun
  | [d1, d2, d3] => { results := [.lit (.bool false)], args := [d1, d2, d3] }
  | _ => none }
def FlowUpdatesWrongFalsely : Prop := flowUpdatesRow.holds Tryd.pinned (OpenSpec.ofChange flowUpdatesWrong)

/-- 'skirmishlaw17.FlowChecks': WHATEVER THE INPUT: true; the input reads as it did. -/
def flowChecksSpec : ChangeSpec := { name := "flowChecks", fn := fun _ => fun
  | [d1, d2, d3] => { results := [.lit (.bool true)], args := [d1, d2, d3] }
  | _ => none }
def flowChecksRow : OpenClaim := { program := "yteiniiakpdijmaadoor", sum := "1a8ed9a0372057c733f3105974c26382ff7e9f848e284716c04ed29cb3058a37", func := "skirmish/skirmishlaw17.FlowChecks", spec := "flowChecks", unfollowed := true, recurses := true, named := ["skirmish/terrain.passable"], apart := false, laid := [("skirmish/terrain.passable", laid_skirmish_terrain_passable)] }
def FlowChecksSaid : Prop := flowChecksRow.holds Tryd.pinned (OpenSpec.ofChange flowChecksSpec)

/-- ITS FALSE NEIGHBOUR: 'it returns false'. Refute it at one input. -/
def flowChecksWrong : ChangeSpec := { name := "flowChecks", fn := fun _ => fun
  | [d1, d2, d3] => { results := [.lit (.bool false)], args := [d1, d2, d3] }
  | _ => none }
def FlowChecksWrongFalsely : Prop := flowChecksRow.holds Tryd.pinned (OpenSpec.ofChange flowChecksWrong)

/-- 'skirmishlaw17.FlowFollows': WHATEVER THE INPUT: true; the input reads as it did. -/
def flowFollowsSpec : ChangeSpec := { name := "flowFollows", fn := fun _ => fun
  | [d] => { results := [.lit (.bool true)], args := [d] }
  | _ => none }
def flowFollowsRow : OpenClaim := { program := "yteiniiakpdijmaadoor", sum := "1a8ed9a0372057c733f3105974c26382ff7e9f848e284716c04ed29cb3058a37", func := "skirmish/skirmishlaw17.FlowFollows", spec := "flowFollows", unfollowed := true, recurses := true, named := ["skirmish/terrain.passable"], apart := false, laid := [("skirmish/terrain.passable", laid_skirmish_terrain_passable)] }
def FlowFollowsSaid : Prop := flowFollowsRow.holds Tryd.pinned (OpenSpec.ofChange flowFollowsSpec)

/-- ITS FALSE NEIGHBOUR: 'it returns false'. Refute it at one input. -/
def flowFollowsWrong : ChangeSpec := { name := "flowFollows", fn := fun _ => fun
  | [d] => { results := [.lit (.bool false)], args := [d] }
  | _ => none }
def FlowFollowsWrongFalsely : Prop := flowFollowsRow.holds Tryd.pinned (OpenSpec.ofChange flowFollowsWrong)

/-- 'skirmishlaw17.FlowLocal': WHATEVER THE INPUT: true; the input reads as it did. -/
def flowLocalSpec : ChangeSpec := { name := "flowLocal", fn := fun _ => fun
  | [d] => { results := [.lit (.bool true)], args := [d] }
  | _ => none }
def flowLocalRow : OpenClaim := { program := "yteiniiakpdijmaadoor", sum := "1a8ed9a0372057c733f3105974c26382ff7e9f848e284716c04ed29cb3058a37", func := "skirmish/skirmishlaw17.FlowLocal", spec := "flowLocal", unfollowed := true, recurses := true, named := ["skirmish/terrain.passable"], apart := false, laid := [("skirmish/terrain.passable", laid_skirmish_terrain_passable)] }
def FlowLocalSaid : Prop := flowLocalRow.holds Tryd.pinned (OpenSpec.ofChange flowLocalSpec)

/-- ITS FALSE NEIGHBOUR: 'it returns false'. Refute it at one input. -/
def flowLocalWrong : ChangeSpec := { name := "flowLocal", fn := fun _ => fun
  | [d] => { results := [.lit (.bool false)], args := [d] }
  | _ => none }
def FlowLocalWrongFalsely : Prop := flowLocalRow.holds Tryd.pinned (OpenSpec.ofChange flowLocalWrong)

/- THE SECOND FORM. 'bulk': how many values and letters a reading holds, each counted each time it is reached (what is shared counts as often as it is met; a slice's spare places count too). A statement '..UptoSaid' is the law's where the arguments, and the package variables that the reading takes, are together of bulk at most 1048576: NARROWER than '..Said'. Prove '..Said' where nothing that the law and all that it calls make is longer than what came in: it says more and counts as full. Else prove '..UptoSaid'. A law counts once. -/
mutual
def uptoBulk {H : Type} : DataW H → Nat
  | .lit (.string bytes) => bytes.length + 1
  | .lit _ => 1
  | .nil => 1
  | .ptr d => uptoBulk d + 1
  | .slice elems spare => uptoBulkAll elems + uptoBulkAll spare + 1
  | .agg parts => uptoBulkAll parts + 1
  | .iface _ d => uptoBulk d + 1
  | .map entries => uptoBulkEntries entries + 1
  | .held _ => 1
def uptoBulkAll {H : Type} : List (DataW H) → Nat
  | [] => 0
  | d :: r => uptoBulk d + uptoBulkAll r
def uptoBulkEntries {H : Type} : List (Lit × DataW H) → Nat
  | [] => 0
  | x :: r => uptoBulkEntry x + uptoBulkEntries r
def uptoBulkEntry {H : Type} : Lit × DataW H → Nat
  | (.string bytes, d) => bytes.length + uptoBulk d + 1
  | (_, d) => uptoBulk d + 1
 end
def uptoSmall : (H : Type) → List (DataW H) → Bool := fun _ ds => decide (uptoBulkAll ds ≤ 1048576)
def OpenSpec.upto (s : _root_.Go.ChangeSpec) : _root_.Go.OpenSpec := { _root_.Go.OpenSpec.ofChange s with cond := some uptoSmall }

/-- 'skirmishlaw17.FlowBuilds', WHERE WHAT IT READS IS OF BULK AT MOST 1048576: true; the input reads as it did. -/
def flowBuildsUptoRow : OpenClaim := { program := "yteiniiakpdijmaadoor", sum := "1a8ed9a0372057c733f3105974c26382ff7e9f848e284716c04ed29cb3058a37", func := "skirmish/skirmishlaw17.FlowBuilds", spec := "flowBuilds", unfollowed := true, recurses := true, named := ["skirmish/terrain.passable"], apart := false, laid := [("skirmish/terrain.passable", laid_skirmish_terrain_passable)], narrowed := true }
def FlowBuildsUptoSaid : Prop := flowBuildsUptoRow.holds Tryd.pinned (OpenSpec.upto flowBuildsSpec)

/-- 'skirmishlaw17.FlowNexts', WHERE WHAT IT READS IS OF BULK AT MOST 1048576: true; the input reads as it did. -/
def flowNextsUptoRow : OpenClaim := { program := "yteiniiakpdijmaadoor", sum := "1a8ed9a0372057c733f3105974c26382ff7e9f848e284716c04ed29cb3058a37", func := "skirmish/skirmishlaw17.FlowNexts", spec := "flowNexts", unfollowed := true, recurses := true, named := ["skirmish/terrain.passable"], apart := false, laid := [("skirmish/terrain.passable", laid_skirmish_terrain_passable)], narrowed := true }
def FlowNextsUptoSaid : Prop := flowNextsUptoRow.holds Tryd.pinned (OpenSpec.upto flowNextsSpec)

/-- 'skirmishlaw17.FlowUpdates', WHERE WHAT IT READS IS OF BULK AT MOST 1048576: true; the input reads as it did. -/
def flowUpdatesUptoRow : OpenClaim := { program := "yteiniiakpdijmaadoor", sum := "1a8ed9a0372057c733f3105974c26382ff7e9f848e284716c04ed29cb3058a37", func := "skirmish/skirmishlaw17.FlowUpdates", spec := "flowUpdates", unfollowed := true, recurses := true, named := ["skirmish/terrain.passable"], apart := false, laid := [("skirmish/terrain.passable", laid_skirmish_terrain_passable)], narrowed := true }
def FlowUpdatesUptoSaid : Prop := flowUpdatesUptoRow.holds Tryd.pinned (OpenSpec.upto flowUpdatesSpec)

/-- 'skirmishlaw17.FlowChecks', WHERE WHAT IT READS IS OF BULK AT MOST 1048576: true; the input reads as it did. -/
def flowChecksUptoRow : OpenClaim := { program := "yteiniiakpdijmaadoor", sum := "1a8ed9a0372057c733f3105974c26382ff7e9f848e284716c04ed29cb3058a37", func := "skirmish/skirmishlaw17.FlowChecks", spec := "flowChecks", unfollowed := true, recurses := true, named := ["skirmish/terrain.passable"], apart := false, laid := [("skirmish/terrain.passable", laid_skirmish_terrain_passable)], narrowed := true }
def FlowChecksUptoSaid : Prop := flowChecksUptoRow.holds Tryd.pinned (OpenSpec.upto flowChecksSpec)

/-- 'skirmishlaw17.FlowFollows', WHERE WHAT IT READS IS OF BULK AT MOST 1048576: true; the input reads as it did. -/
def flowFollowsUptoRow : OpenClaim := { program := "yteiniiakpdijmaadoor", sum := "1a8ed9a0372057c733f3105974c26382ff7e9f848e284716c04ed29cb3058a37", func := "skirmish/skirmishlaw17.FlowFollows", spec := "flowFollows", unfollowed := true, recurses := true, named := ["skirmish/terrain.passable"], apart := false, laid := [("skirmish/terrain.passable", laid_skirmish_terrain_passable)], narrowed := true }
def FlowFollowsUptoSaid : Prop := flowFollowsUptoRow.holds Tryd.pinned (OpenSpec.upto flowFollowsSpec)

/-- 'skirmishlaw17.FlowLocal', WHERE WHAT IT READS IS OF BULK AT MOST 1048576: true; the input reads as it did. -/
def flowLocalUptoRow : OpenClaim := { program := "yteiniiakpdijmaadoor", sum := "1a8ed9a0372057c733f3105974c26382ff7e9f848e284716c04ed29cb3058a37", func := "skirmish/skirmishlaw17.FlowLocal", spec := "flowLocal", unfollowed := true, recurses := true, named := ["skirmish/terrain.passable"], apart := false, laid := [("skirmish/terrain.passable", laid_skirmish_terrain_passable)], narrowed := true }
def FlowLocalUptoSaid : Prop := flowLocalUptoRow.holds Tryd.pinned (OpenSpec.upto flowLocalSpec)

end Rows
end Go.Proofs.YteiniiakpdijmaaDoor
