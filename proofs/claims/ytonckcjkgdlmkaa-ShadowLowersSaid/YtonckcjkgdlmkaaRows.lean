/-
  No cell of these rows narrows 'for every input' (looked for: loops, veiled, ifaces, maps, wideKeys, modest, calm, conditions, laid).
  DERIVED. THE GIVEN ROWS OF THIS SEAT. 7 by the template 'for every input the law returns true; each argument reads behind the call as it read before'; 0 by the template 'total and deterministic' (their statements: YtonckcjkgdlmkaaTotals.lean).
  GIVEN WITH THE SEED: the statements are not yours to turn. If you find one false, say at which input.
  Laid BY PROGRAM, IN A SANDBOX (cutbox-rows.mjs): the forced cells as the released guide's own fill.sh prints them over the translation 4e8e817d15d1ea59… (all of the seat's roots in one cut). By AI agents, Wed Nov 11 2026. No macro, syntax, notation, axiom, sorry.
-/
import Derived.Test.YtonckcjkgdlmkaaChecked
import GoSem.Claim
import GoSem.ClaimJoined
import GoSem.ClaimMapViews
import Derived.JoinedTies
import Derived.KernelRfl
namespace Go.Proofs.Ytonckcjkgdlmkaa
/- THE CELL 'sum', in the pinned program and in every row, IS THE sha256 OF THE DUMP (.gsa) THAT YtonckcjkgdlmkaaProg.lean LOADS. Nothing in Lean hashes anything: it is a label: what it is worth is what the hold of that sum in a sandbox is worth. -/
noncomputable def Try.pinned : Pinned := { name := "ytonckcjkgdlmkaa", sum := "4e8e817d15d1ea595a95aeeba13f6a1669e3206e1c452428eb9fb703b28ab85e", checked := Try.checked }
namespace Rows
def none {H : Type} : Left H := { results := [], args := [] }

/-- 'skirmishlaw12.ShadowBlocks': WHATEVER THE INPUT: true; the input reads as it did. -/
def shadowBlocksSpec : ChangeSpec := { name := "shadowBlocks", fn := fun _ => fun
  | [d1, d2] => { results := [.lit (.bool true)], args := [d1, d2] }
  | _ => none }
def shadowBlocksRow : OpenClaim := { program := "ytonckcjkgdlmkaa", sum := "4e8e817d15d1ea595a95aeeba13f6a1669e3206e1c452428eb9fb703b28ab85e", func := "skirmish/skirmishlaw12.ShadowBlocks", spec := "shadowBlocks", unfollowed := true, recurses := true, apart := false }
def ShadowBlocksSaid : Prop := shadowBlocksRow.holds Try.pinned (OpenSpec.ofChange shadowBlocksSpec)

/-- ITS FALSE NEIGHBOUR: 'it returns false'. Refute it at one input. -/
def shadowBlocksWrong : ChangeSpec := { name := "shadowBlocks", fn := fun _ => fun
  | [d1, d2] => { results := [.lit (.bool false)], args := [d1, d2] }
  | _ => none }
def ShadowBlocksWrongFalsely : Prop := shadowBlocksRow.holds Try.pinned (OpenSpec.ofChange shadowBlocksWrong)

/-- 'skirmishlaw12.ShadowSees': WHATEVER THE INPUT: true; the input reads as it did. -/
def shadowSeesSpec : ChangeSpec := { name := "shadowSees", fn := fun _ => fun
  | [d1, d2, d3] => { results := [.lit (.bool true)], args := [d1, d2, d3] }
  | _ => none }
def shadowSeesRow : OpenClaim := { program := "ytonckcjkgdlmkaa", sum := "4e8e817d15d1ea595a95aeeba13f6a1669e3206e1c452428eb9fb703b28ab85e", func := "skirmish/skirmishlaw12.ShadowSees", spec := "shadowSees", unfollowed := true, recurses := true, apart := false }
def ShadowSeesSaid : Prop := shadowSeesRow.holds Try.pinned (OpenSpec.ofChange shadowSeesSpec)

/-- ITS FALSE NEIGHBOUR: 'it returns false'. Refute it at one input. -/
def shadowSeesWrong : ChangeSpec := { name := "shadowSees", fn := fun _ => fun
  | [d1, d2, d3] => { results := [.lit (.bool false)], args := [d1, d2, d3] }
  | _ => none }
def ShadowSeesWrongFalsely : Prop := shadowSeesRow.holds Try.pinned (OpenSpec.ofChange shadowSeesWrong)

/-- 'skirmishlaw12.ShadowVisible': WHATEVER THE INPUT: true; the input reads as it did. -/
def shadowVisibleSpec : ChangeSpec := { name := "shadowVisible", fn := fun _ => fun
  | [d1, d2, d3, d4] => { results := [.lit (.bool true)], args := [d1, d2, d3, d4] }
  | _ => none }
def shadowVisibleRow : OpenClaim := { program := "ytonckcjkgdlmkaa", sum := "4e8e817d15d1ea595a95aeeba13f6a1669e3206e1c452428eb9fb703b28ab85e", func := "skirmish/skirmishlaw12.ShadowVisible", spec := "shadowVisible", unfollowed := true, recurses := true, apart := false }
def ShadowVisibleSaid : Prop := shadowVisibleRow.holds Try.pinned (OpenSpec.ofChange shadowVisibleSpec)

/-- ITS FALSE NEIGHBOUR: 'it returns false'. Refute it at one input. -/
def shadowVisibleWrong : ChangeSpec := { name := "shadowVisible", fn := fun _ => fun
  | [d1, d2, d3, d4] => { results := [.lit (.bool false)], args := [d1, d2, d3, d4] }
  | _ => none }
def ShadowVisibleWrongFalsely : Prop := shadowVisibleRow.holds Try.pinned (OpenSpec.ofChange shadowVisibleWrong)

/-- 'skirmishlaw12.ShadowUnion': WHATEVER THE INPUT: true; the input reads as it did. -/
def shadowUnionSpec : ChangeSpec := { name := "shadowUnion", fn := fun _ => fun
  | [d1, d2] => { results := [.lit (.bool true)], args := [d1, d2] }
  | _ => none }
def shadowUnionRow : OpenClaim := { program := "ytonckcjkgdlmkaa", sum := "4e8e817d15d1ea595a95aeeba13f6a1669e3206e1c452428eb9fb703b28ab85e", func := "skirmish/skirmishlaw12.ShadowUnion", spec := "shadowUnion", unfollowed := true, recurses := true, apart := false }
def ShadowUnionSaid : Prop := shadowUnionRow.holds Try.pinned (OpenSpec.ofChange shadowUnionSpec)

/-- ITS FALSE NEIGHBOUR: 'it returns false'. Refute it at one input. -/
def shadowUnionWrong : ChangeSpec := { name := "shadowUnion", fn := fun _ => fun
  | [d1, d2] => { results := [.lit (.bool false)], args := [d1, d2] }
  | _ => none }
def ShadowUnionWrongFalsely : Prop := shadowUnionRow.holds Try.pinned (OpenSpec.ofChange shadowUnionWrong)

/-- 'skirmishlaw12.ShadowSymmetric': WHATEVER THE INPUT: true; the input reads as it did. -/
def shadowSymmetricSpec : ChangeSpec := { name := "shadowSymmetric", fn := fun _ => fun
  | [d1, d2] => { results := [.lit (.bool true)], args := [d1, d2] }
  | _ => none }
def shadowSymmetricRow : OpenClaim := { program := "ytonckcjkgdlmkaa", sum := "4e8e817d15d1ea595a95aeeba13f6a1669e3206e1c452428eb9fb703b28ab85e", func := "skirmish/skirmishlaw12.ShadowSymmetric", spec := "shadowSymmetric", unfollowed := true, recurses := true, apart := false }
def ShadowSymmetricSaid : Prop := shadowSymmetricRow.holds Try.pinned (OpenSpec.ofChange shadowSymmetricSpec)

/-- ITS FALSE NEIGHBOUR: 'it returns false'. Refute it at one input. -/
def shadowSymmetricWrong : ChangeSpec := { name := "shadowSymmetric", fn := fun _ => fun
  | [d1, d2] => { results := [.lit (.bool false)], args := [d1, d2] }
  | _ => none }
def ShadowSymmetricWrongFalsely : Prop := shadowSymmetricRow.holds Try.pinned (OpenSpec.ofChange shadowSymmetricWrong)

/-- 'skirmishlaw12.ShadowGrows': WHATEVER THE INPUT: true; the input reads as it did. -/
def shadowGrowsSpec : ChangeSpec := { name := "shadowGrows", fn := fun _ => fun
  | [d1, d2, d3, d4] => { results := [.lit (.bool true)], args := [d1, d2, d3, d4] }
  | _ => none }
def shadowGrowsRow : OpenClaim := { program := "ytonckcjkgdlmkaa", sum := "4e8e817d15d1ea595a95aeeba13f6a1669e3206e1c452428eb9fb703b28ab85e", func := "skirmish/skirmishlaw12.ShadowGrows", spec := "shadowGrows", unfollowed := true, recurses := true, apart := false }
def ShadowGrowsSaid : Prop := shadowGrowsRow.holds Try.pinned (OpenSpec.ofChange shadowGrowsSpec)

/-- ITS FALSE NEIGHBOUR: 'it returns false'. Refute it at one input. -/
def shadowGrowsWrong : ChangeSpec := { name := "shadowGrows", fn := fun _ => fun
  | [d1, d2, d3, d4] => { results := [.lit (.bool false)], args := [d1, d2, d3, d4] }
  | _ => none }
def ShadowGrowsWrongFalsely : Prop := shadowGrowsRow.holds Try.pinned (OpenSpec.ofChange shadowGrowsWrong)

/-- 'skirmishlaw12.ShadowLowers': WHATEVER THE INPUT: true; the input reads as it did. -/
def shadowLowersSpec : ChangeSpec := { name := "shadowLowers", fn := fun _ => fun
  | [d1, d2, d3, d4] => { results := [.lit (.bool true)], args := [d1, d2, d3, d4] }
  | _ => none }
def shadowLowersRow : OpenClaim := { program := "ytonckcjkgdlmkaa", sum := "4e8e817d15d1ea595a95aeeba13f6a1669e3206e1c452428eb9fb703b28ab85e", func := "skirmish/skirmishlaw12.ShadowLowers", spec := "shadowLowers", unfollowed := true, recurses := true, apart := false }
def ShadowLowersSaid : Prop := shadowLowersRow.holds Try.pinned (OpenSpec.ofChange shadowLowersSpec)

/-- ITS FALSE NEIGHBOUR: 'it returns false'. Refute it at one input. -/
def shadowLowersWrong : ChangeSpec := { name := "shadowLowers", fn := fun _ => fun
  | [d1, d2, d3, d4] => { results := [.lit (.bool false)], args := [d1, d2, d3, d4] }
  | _ => none }
def ShadowLowersWrongFalsely : Prop := shadowLowersRow.holds Try.pinned (OpenSpec.ofChange shadowLowersWrong)

/- THE SECOND FORM. 'bulk': how many values and letters a reading holds, each counted each time it is reached (what is shared counts as often as it is met; a slice's spare places count too). A statement '..UptoSaid' is the law's where the arguments, and the package variables that the reading takes, are together of bulk at most 1048576: NARROWER than '..Said'. Prove '..Said' where nothing that the law and all that it calls make is longer than what came in: it says more and counts as full. Else prove '..UptoSaid'. A law counts once. -/
mutual
def uptoBulk {H : Type} : DataW H → Nat
  | .lit (.string bytes) => bytes.length + 1
  | .lit _ => 1
  | .nil => 1
  | .ptr d => uptoBulk d + 1
  | .slice elems spare => uptoBulkAll elems + uptoBulkAll spare + 1
  | .agg parts => uptoBulkAll parts + 1
  | .iface _ d => uptoBulk d + 1
  | .map entries => uptoBulkEntries entries + 1
  | .held _ => 1
def uptoBulkAll {H : Type} : List (DataW H) → Nat
  | [] => 0
  | d :: r => uptoBulk d + uptoBulkAll r
def uptoBulkEntries {H : Type} : List (Lit × DataW H) → Nat
  | [] => 0
  | x :: r => uptoBulkEntry x + uptoBulkEntries r
def uptoBulkEntry {H : Type} : Lit × DataW H → Nat
  | (.string bytes, d) => bytes.length + uptoBulk d + 1
  | (_, d) => uptoBulk d + 1
 end
def uptoSmall : (H : Type) → List (DataW H) → Bool := fun _ ds => decide (uptoBulkAll ds ≤ 1048576)
def OpenSpec.upto (s : _root_.Go.ChangeSpec) : _root_.Go.OpenSpec := { _root_.Go.OpenSpec.ofChange s with cond := some uptoSmall }

/-- 'skirmishlaw12.ShadowBlocks', WHERE WHAT IT READS IS OF BULK AT MOST 1048576: true; the input reads as it did. -/
def shadowBlocksUptoRow : OpenClaim := { program := "ytonckcjkgdlmkaa", sum := "4e8e817d15d1ea595a95aeeba13f6a1669e3206e1c452428eb9fb703b28ab85e", func := "skirmish/skirmishlaw12.ShadowBlocks", spec := "shadowBlocks", unfollowed := true, recurses := true, apart := false, narrowed := true }
def ShadowBlocksUptoSaid : Prop := shadowBlocksUptoRow.holds Try.pinned (OpenSpec.upto shadowBlocksSpec)

/-- 'skirmishlaw12.ShadowSees', WHERE WHAT IT READS IS OF BULK AT MOST 1048576: true; the input reads as it did. -/
def shadowSeesUptoRow : OpenClaim := { program := "ytonckcjkgdlmkaa", sum := "4e8e817d15d1ea595a95aeeba13f6a1669e3206e1c452428eb9fb703b28ab85e", func := "skirmish/skirmishlaw12.ShadowSees", spec := "shadowSees", unfollowed := true, recurses := true, apart := false, narrowed := true }
def ShadowSeesUptoSaid : Prop := shadowSeesUptoRow.holds Try.pinned (OpenSpec.upto shadowSeesSpec)

/-- 'skirmishlaw12.ShadowVisible', WHERE WHAT IT READS IS OF BULK AT MOST 1048576: true; the input reads as it did. -/
def shadowVisibleUptoRow : OpenClaim := { program := "ytonckcjkgdlmkaa", sum := "4e8e817d15d1ea595a95aeeba13f6a1669e3206e1c452428eb9fb703b28ab85e", func := "skirmish/skirmishlaw12.ShadowVisible", spec := "shadowVisible", unfollowed := true, recurses := true, apart := false, narrowed := true }
def ShadowVisibleUptoSaid : Prop := shadowVisibleUptoRow.holds Try.pinned (OpenSpec.upto shadowVisibleSpec)

/-- 'skirmishlaw12.ShadowUnion', WHERE WHAT IT READS IS OF BULK AT MOST 1048576: true; the input reads as it did. -/
def shadowUnionUptoRow : OpenClaim := { program := "ytonckcjkgdlmkaa", sum := "4e8e817d15d1ea595a95aeeba13f6a1669e3206e1c452428eb9fb703b28ab85e", func := "skirmish/skirmishlaw12.ShadowUnion", spec := "shadowUnion", unfollowed := true, recurses := true, apart := false, narrowed := true }
def ShadowUnionUptoSaid : Prop := shadowUnionUptoRow.holds Try.pinned (OpenSpec.upto shadowUnionSpec)

/-- 'skirmishlaw12.ShadowSymmetric', WHERE WHAT IT READS IS OF BULK AT MOST 1048576: true; the input reads as it did. -/
def shadowSymmetricUptoRow : OpenClaim := { program := "ytonckcjkgdlmkaa", sum := "4e8e817d15d1ea595a95aeeba13f6a1669e3206e1c452428eb9fb703b28ab85e", func := "skirmish/skirmishlaw12.ShadowSymmetric", spec := "shadowSymmetric", unfollowed := true, recurses := true, apart := false, narrowed := true }
def ShadowSymmetricUptoSaid : Prop := shadowSymmetricUptoRow.holds Try.pinned (OpenSpec.upto shadowSymmetricSpec)

/-- 'skirmishlaw12.ShadowGrows', WHERE WHAT IT READS IS OF BULK AT MOST 1048576: true; the input reads as it did. -/
def shadowGrowsUptoRow : OpenClaim := { program := "ytonckcjkgdlmkaa", sum := "4e8e817d15d1ea595a95aeeba13f6a1669e3206e1c452428eb9fb703b28ab85e", func := "skirmish/skirmishlaw12.ShadowGrows", spec := "shadowGrows", unfollowed := true, recurses := true, apart := false, narrowed := true }
def ShadowGrowsUptoSaid : Prop := shadowGrowsUptoRow.holds Try.pinned (OpenSpec.upto shadowGrowsSpec)

/-- 'skirmishlaw12.ShadowLowers', WHERE WHAT IT READS IS OF BULK AT MOST 1048576: true; the input reads as it did. -/
def shadowLowersUptoRow : OpenClaim := { program := "ytonckcjkgdlmkaa", sum := "4e8e817d15d1ea595a95aeeba13f6a1669e3206e1c452428eb9fb703b28ab85e", func := "skirmish/skirmishlaw12.ShadowLowers", spec := "shadowLowers", unfollowed := true, recurses := true, apart := false, narrowed := true }
def ShadowLowersUptoSaid : Prop := shadowLowersUptoRow.holds Try.pinned (OpenSpec.upto shadowLowersSpec)

end Rows
end Go.Proofs.Ytonckcjkgdlmkaa
