/-
  No cell of these rows narrows 'for every input' (looked for: loops, veiled, ifaces, maps, wideKeys, modest, calm, conditions, laid).
  DERIVED. THE GIVEN ROWS OF THIS SEAT. 8 by the template 'for every input the law returns true; each argument reads behind the call as it read before'; 0 by the template 'total and deterministic' (their statements: YtkmclpgkcdpgbaaTotals.lean).
  GIVEN WITH THE SEED: the statements are not yours to turn. If you find one false, say at which input.
  Laid BY PROGRAM, IN A SANDBOX (cutbox-rows.mjs): the forced cells as the released guide's own fill.sh prints them over the translation 8dd84be41d462c69… (all of the seat's roots in one cut). By AI agents, Wed Nov 11 2026. No macro, syntax, notation, axiom, sorry.
-/
import Derived.Test.YtkmclpgkcdpgbaaChecked
import GoSem.Claim
import GoSem.ClaimJoined
import GoSem.ClaimMapViews
import Derived.JoinedTies
import Derived.KernelRfl
namespace Go.Proofs.Ytkmclpgkcdpgbaa
/- THE CELL 'sum', in the pinned program and in every row, IS THE sha256 OF THE DUMP (.gsa) THAT YtkmclpgkcdpgbaaProg.lean LOADS. Nothing in Lean hashes anything: it is a label: what it is worth is what the hold of that sum in a sandbox is worth. -/
noncomputable def Try.pinned : Pinned := { name := "ytkmclpgkcdpgbaa", sum := "8dd84be41d462c696d3aa4d51c0816de4b81d481bdda7fcb39cd727f314de715", checked := Try.checked }
namespace Rows
def none {H : Type} : Left H := { results := [], args := [] }

/-- 'skirmishlaw06.GridSteps': WHATEVER THE INPUT: true; the input reads as it did. -/
def gridStepsSpec : ChangeSpec := { name := "gridSteps", fn := fun _ => fun
  | [d1, d2, d3] => { results := [.lit (.bool true)], args := [d1, d2, d3] }
  | _ => none }
def gridStepsRow : OpenClaim := { program := "ytkmclpgkcdpgbaa", sum := "8dd84be41d462c696d3aa4d51c0816de4b81d481bdda7fcb39cd727f314de715", func := "skirmish/skirmishlaw06.GridSteps", spec := "gridSteps", apart := false }
def GridStepsSaid : Prop := gridStepsRow.holds Try.pinned (OpenSpec.ofChange gridStepsSpec)

/-- ITS FALSE NEIGHBOUR: 'it returns false'. Refute it at one input. -/
def gridStepsWrong : ChangeSpec := { name := "gridSteps", fn := fun _ => fun
  | [d1, d2, d3] => { results := [.lit (.bool false)], args := [d1, d2, d3] }
  | _ => none }
def GridStepsWrongFalsely : Prop := gridStepsRow.holds Try.pinned (OpenSpec.ofChange gridStepsWrong)

/-- 'skirmishlaw06.GridDistances': WHATEVER THE INPUT: true; the input reads as it did. -/
def gridDistancesSpec : ChangeSpec := { name := "gridDistances", fn := fun _ => fun
  | [d1, d2] => { results := [.lit (.bool true)], args := [d1, d2] }
  | _ => none }
def gridDistancesRow : OpenClaim := { program := "ytkmclpgkcdpgbaa", sum := "8dd84be41d462c696d3aa4d51c0816de4b81d481bdda7fcb39cd727f314de715", func := "skirmish/skirmishlaw06.GridDistances", spec := "gridDistances", apart := false }
def GridDistancesSaid : Prop := gridDistancesRow.holds Try.pinned (OpenSpec.ofChange gridDistancesSpec)

/-- ITS FALSE NEIGHBOUR: 'it returns false'. Refute it at one input. -/
def gridDistancesWrong : ChangeSpec := { name := "gridDistances", fn := fun _ => fun
  | [d1, d2] => { results := [.lit (.bool false)], args := [d1, d2] }
  | _ => none }
def GridDistancesWrongFalsely : Prop := gridDistancesRow.holds Try.pinned (OpenSpec.ofChange gridDistancesWrong)

/-- 'skirmishlaw06.GridSymmetric': WHATEVER THE INPUT: true; the input reads as it did. -/
def gridSymmetricSpec : ChangeSpec := { name := "gridSymmetric", fn := fun _ => fun
  | [d1, d2] => { results := [.lit (.bool true)], args := [d1, d2] }
  | _ => none }
def gridSymmetricRow : OpenClaim := { program := "ytkmclpgkcdpgbaa", sum := "8dd84be41d462c696d3aa4d51c0816de4b81d481bdda7fcb39cd727f314de715", func := "skirmish/skirmishlaw06.GridSymmetric", spec := "gridSymmetric", apart := false }
def GridSymmetricSaid : Prop := gridSymmetricRow.holds Try.pinned (OpenSpec.ofChange gridSymmetricSpec)

/-- ITS FALSE NEIGHBOUR: 'it returns false'. Refute it at one input. -/
def gridSymmetricWrong : ChangeSpec := { name := "gridSymmetric", fn := fun _ => fun
  | [d1, d2] => { results := [.lit (.bool false)], args := [d1, d2] }
  | _ => none }
def GridSymmetricWrongFalsely : Prop := gridSymmetricRow.holds Try.pinned (OpenSpec.ofChange gridSymmetricWrong)

/-- 'skirmishlaw06.GridBasics': WHATEVER THE INPUT: true; the input reads as it did. -/
def gridBasicsSpec : ChangeSpec := { name := "gridBasics", fn := fun _ => fun
  | [d1, d2, d3] => { results := [.lit (.bool true)], args := [d1, d2, d3] }
  | _ => none }
def gridBasicsRow : OpenClaim := { program := "ytkmclpgkcdpgbaa", sum := "8dd84be41d462c696d3aa4d51c0816de4b81d481bdda7fcb39cd727f314de715", func := "skirmish/skirmishlaw06.GridBasics", spec := "gridBasics", apart := false }
def GridBasicsSaid : Prop := gridBasicsRow.holds Try.pinned (OpenSpec.ofChange gridBasicsSpec)

/-- ITS FALSE NEIGHBOUR: 'it returns false'. Refute it at one input. -/
def gridBasicsWrong : ChangeSpec := { name := "gridBasics", fn := fun _ => fun
  | [d1, d2, d3] => { results := [.lit (.bool false)], args := [d1, d2, d3] }
  | _ => none }
def GridBasicsWrongFalsely : Prop := gridBasicsRow.holds Try.pinned (OpenSpec.ofChange gridBasicsWrong)

/-- 'skirmishlaw06.GridIndexes': WHATEVER THE INPUT: true; the input reads as it did. -/
def gridIndexesSpec : ChangeSpec := { name := "gridIndexes", fn := fun _ => fun
  | [d1, d2, d3] => { results := [.lit (.bool true)], args := [d1, d2, d3] }
  | _ => none }
def gridIndexesRow : OpenClaim := { program := "ytkmclpgkcdpgbaa", sum := "8dd84be41d462c696d3aa4d51c0816de4b81d481bdda7fcb39cd727f314de715", func := "skirmish/skirmishlaw06.GridIndexes", spec := "gridIndexes", apart := false }
def GridIndexesSaid : Prop := gridIndexesRow.holds Try.pinned (OpenSpec.ofChange gridIndexesSpec)

/-- ITS FALSE NEIGHBOUR: 'it returns false'. Refute it at one input. -/
def gridIndexesWrong : ChangeSpec := { name := "gridIndexes", fn := fun _ => fun
  | [d1, d2, d3] => { results := [.lit (.bool false)], args := [d1, d2, d3] }
  | _ => none }
def GridIndexesWrongFalsely : Prop := gridIndexesRow.holds Try.pinned (OpenSpec.ofChange gridIndexesWrong)

/-- 'skirmishlaw06.GridRects': WHATEVER THE INPUT: true; the input reads as it did. -/
def gridRectsSpec : ChangeSpec := { name := "gridRects", fn := fun _ => fun
  | [d1, d2, d3] => { results := [.lit (.bool true)], args := [d1, d2, d3] }
  | _ => none }
def gridRectsRow : OpenClaim := { program := "ytkmclpgkcdpgbaa", sum := "8dd84be41d462c696d3aa4d51c0816de4b81d481bdda7fcb39cd727f314de715", func := "skirmish/skirmishlaw06.GridRects", spec := "gridRects", apart := false }
def GridRectsSaid : Prop := gridRectsRow.holds Try.pinned (OpenSpec.ofChange gridRectsSpec)

/-- ITS FALSE NEIGHBOUR: 'it returns false'. Refute it at one input. -/
def gridRectsWrong : ChangeSpec := { name := "gridRects", fn := fun _ => fun
  | [d1, d2, d3] => { results := [.lit (.bool false)], args := [d1, d2, d3] }
  | _ => none }
def GridRectsWrongFalsely : Prop := gridRectsRow.holds Try.pinned (OpenSpec.ofChange gridRectsWrong)

/-- 'skirmishlaw06.GridMeets': WHATEVER THE INPUT: true; the input reads as it did. -/
def gridMeetsSpec : ChangeSpec := { name := "gridMeets", fn := fun _ => fun
  | [d1, d2] => { results := [.lit (.bool true)], args := [d1, d2] }
  | _ => none }
def gridMeetsRow : OpenClaim := { program := "ytkmclpgkcdpgbaa", sum := "8dd84be41d462c696d3aa4d51c0816de4b81d481bdda7fcb39cd727f314de715", func := "skirmish/skirmishlaw06.GridMeets", spec := "gridMeets", apart := false }
def GridMeetsSaid : Prop := gridMeetsRow.holds Try.pinned (OpenSpec.ofChange gridMeetsSpec)

/-- ITS FALSE NEIGHBOUR: 'it returns false'. Refute it at one input. -/
def gridMeetsWrong : ChangeSpec := { name := "gridMeets", fn := fun _ => fun
  | [d1, d2] => { results := [.lit (.bool false)], args := [d1, d2] }
  | _ => none }
def GridMeetsWrongFalsely : Prop := gridMeetsRow.holds Try.pinned (OpenSpec.ofChange gridMeetsWrong)

/-- 'skirmishlaw06.GridClips': WHATEVER THE INPUT: true; the input reads as it did. -/
def gridClipsSpec : ChangeSpec := { name := "gridClips", fn := fun _ => fun
  | [d1, d2, d3] => { results := [.lit (.bool true)], args := [d1, d2, d3] }
  | _ => none }
def gridClipsRow : OpenClaim := { program := "ytkmclpgkcdpgbaa", sum := "8dd84be41d462c696d3aa4d51c0816de4b81d481bdda7fcb39cd727f314de715", func := "skirmish/skirmishlaw06.GridClips", spec := "gridClips", apart := false }
def GridClipsSaid : Prop := gridClipsRow.holds Try.pinned (OpenSpec.ofChange gridClipsSpec)

/-- ITS FALSE NEIGHBOUR: 'it returns false'. Refute it at one input. -/
def gridClipsWrong : ChangeSpec := { name := "gridClips", fn := fun _ => fun
  | [d1, d2, d3] => { results := [.lit (.bool false)], args := [d1, d2, d3] }
  | _ => none }
def GridClipsWrongFalsely : Prop := gridClipsRow.holds Try.pinned (OpenSpec.ofChange gridClipsWrong)

/- THE SECOND FORM. 'bulk': how many values and letters a reading holds, each counted each time it is reached (what is shared counts as often as it is met; a slice's spare places count too). A statement '..UptoSaid' is the law's where the arguments, and the package variables that the reading takes, are together of bulk at most 1048576: NARROWER than '..Said'. Prove '..Said' where nothing that the law and all that it calls make is longer than what came in: it says more and counts as full. Else prove '..UptoSaid'. A law counts once. -/
mutual
def uptoBulk {H : Type} : DataW H → Nat
  | .lit (.string bytes) => bytes.length + 1
  | .lit _ => 1
  | .nil => 1
  | .ptr d => uptoBulk d + 1
  | .slice elems spare => uptoBulkAll elems + uptoBulkAll spare + 1
  | .agg parts => uptoBulkAll parts + 1
  | .iface _ d => uptoBulk d + 1
  | .map entries => uptoBulkEntries entries + 1
  | .held _ => 1
def uptoBulkAll {H : Type} : List (DataW H) → Nat
  | [] => 0
  | d :: r => uptoBulk d + uptoBulkAll r
def uptoBulkEntries {H : Type} : List (Lit × DataW H) → Nat
  | [] => 0
  | x :: r => uptoBulkEntry x + uptoBulkEntries r
def uptoBulkEntry {H : Type} : Lit × DataW H → Nat
  | (.string bytes, d) => bytes.length + uptoBulk d + 1
  | (_, d) => uptoBulk d + 1
 end
def uptoSmall : (H : Type) → List (DataW H) → Bool := fun _ ds => decide (uptoBulkAll ds ≤ 1048576)
def OpenSpec.upto (s : _root_.Go.ChangeSpec) : _root_.Go.OpenSpec := { _root_.Go.OpenSpec.ofChange s with cond := some uptoSmall }

/-- 'skirmishlaw06.GridSteps', WHERE WHAT IT READS IS OF BULK AT MOST 1048576: true; the input reads as it did. -/
def gridStepsUptoRow : OpenClaim := { program := "ytkmclpgkcdpgbaa", sum := "8dd84be41d462c696d3aa4d51c0816de4b81d481bdda7fcb39cd727f314de715", func := "skirmish/skirmishlaw06.GridSteps", spec := "gridSteps", apart := false, narrowed := true }
def GridStepsUptoSaid : Prop := gridStepsUptoRow.holds Try.pinned (OpenSpec.upto gridStepsSpec)

/-- 'skirmishlaw06.GridDistances', WHERE WHAT IT READS IS OF BULK AT MOST 1048576: true; the input reads as it did. -/
def gridDistancesUptoRow : OpenClaim := { program := "ytkmclpgkcdpgbaa", sum := "8dd84be41d462c696d3aa4d51c0816de4b81d481bdda7fcb39cd727f314de715", func := "skirmish/skirmishlaw06.GridDistances", spec := "gridDistances", apart := false, narrowed := true }
def GridDistancesUptoSaid : Prop := gridDistancesUptoRow.holds Try.pinned (OpenSpec.upto gridDistancesSpec)

/-- 'skirmishlaw06.GridSymmetric', WHERE WHAT IT READS IS OF BULK AT MOST 1048576: true; the input reads as it did. -/
def gridSymmetricUptoRow : OpenClaim := { program := "ytkmclpgkcdpgbaa", sum := "8dd84be41d462c696d3aa4d51c0816de4b81d481bdda7fcb39cd727f314de715", func := "skirmish/skirmishlaw06.GridSymmetric", spec := "gridSymmetric", apart := false, narrowed := true }
def GridSymmetricUptoSaid : Prop := gridSymmetricUptoRow.holds Try.pinned (OpenSpec.upto gridSymmetricSpec)

/-- 'skirmishlaw06.GridBasics', WHERE WHAT IT READS IS OF BULK AT MOST 1048576: true; the input reads as it did. -/
def gridBasicsUptoRow : OpenClaim := { program := "ytkmclpgkcdpgbaa", sum := "8dd84be41d462c696d3aa4d51c0816de4b81d481bdda7fcb39cd727f314de715", func := "skirmish/skirmishlaw06.GridBasics", spec := "gridBasics", apart := false, narrowed := true }
def GridBasicsUptoSaid : Prop := gridBasicsUptoRow.holds Try.pinned (OpenSpec.upto gridBasicsSpec)

/-- 'skirmishlaw06.GridIndexes', WHERE WHAT IT READS IS OF BULK AT MOST 1048576: true; the input reads as it did. -/
def gridIndexesUptoRow : OpenClaim := { program := "ytkmclpgkcdpgbaa", sum := "8dd84be41d462c696d3aa4d51c0816de4b81d481bdda7fcb39cd727f314de715", func := "skirmish/skirmishlaw06.GridIndexes", spec := "gridIndexes", apart := false, narrowed := true }
def GridIndexesUptoSaid : Prop := gridIndexesUptoRow.holds Try.pinned (OpenSpec.upto gridIndexesSpec)

/-- 'skirmishlaw06.GridRects', WHERE WHAT IT READS IS OF BULK AT MOST 1048576: true; the input reads as it did. -/
def gridRectsUptoRow : OpenClaim := { program := "ytkmclpgkcdpgbaa", sum := "8dd84be41d462c696d3aa4d51c0816de4b81d481bdda7fcb39cd727f314de715", func := "skirmish/skirmishlaw06.GridRects", spec := "gridRects", apart := false, narrowed := true }
def GridRectsUptoSaid : Prop := gridRectsUptoRow.holds Try.pinned (OpenSpec.upto gridRectsSpec)

/-- 'skirmishlaw06.GridMeets', WHERE WHAT IT READS IS OF BULK AT MOST 1048576: true; the input reads as it did. -/
def gridMeetsUptoRow : OpenClaim := { program := "ytkmclpgkcdpgbaa", sum := "8dd84be41d462c696d3aa4d51c0816de4b81d481bdda7fcb39cd727f314de715", func := "skirmish/skirmishlaw06.GridMeets", spec := "gridMeets", apart := false, narrowed := true }
def GridMeetsUptoSaid : Prop := gridMeetsUptoRow.holds Try.pinned (OpenSpec.upto gridMeetsSpec)

/-- 'skirmishlaw06.GridClips', WHERE WHAT IT READS IS OF BULK AT MOST 1048576: true; the input reads as it did. -/
def gridClipsUptoRow : OpenClaim := { program := "ytkmclpgkcdpgbaa", sum := "8dd84be41d462c696d3aa4d51c0816de4b81d481bdda7fcb39cd727f314de715", func := "skirmish/skirmishlaw06.GridClips", spec := "gridClips", apart := false, narrowed := true }
def GridClipsUptoSaid : Prop := gridClipsUptoRow.holds Try.pinned (OpenSpec.upto gridClipsSpec)

end Rows
end Go.Proofs.Ytkmclpgkcdpgbaa
