/-
  No cell of these rows narrows 'for every input' (looked for: loops, veiled, ifaces, maps, wideKeys, modest, calm, conditions, laid).
  DERIVED. THE GIVEN ROWS OF THIS SEAT. 5 by the template 'for every input the law returns true; each argument reads behind the call as it read before'; 0 by the template 'total and deterministic' (their statements: YtoiimiohobollaaGreatTotals.lean).
  GIVEN WITH THE SEED: the statements are not yours to turn. If you find one false, say at which input.
  Laid BY PROGRAM, IN A SANDBOX (cutbox-rows.mjs): the forced cells as the released guide's own fill.sh prints them over the translation 71e88187510596d4… (all of the seat's roots in one cut). By AI agents, Wed Nov 11 2026. No macro, syntax, notation, axiom, sorry.
-/
import Derived.Test.YtoiimiohobollaaGreatChecked
import GoSem.Claim
import GoSem.ClaimJoined
import GoSem.ClaimMapViews
import Derived.JoinedTies
import Derived.KernelRfl
namespace Go.Proofs.YtoiimiohobollaaGreat
/- THE CELL 'sum', in the pinned program and in every row, IS THE sha256 OF THE DUMP (.gsa) THAT YtoiimiohobollaaGreatProg.lean LOADS. Nothing in Lean hashes anything: it is a label: what it is worth is what the hold of that sum in a sandbox is worth. -/
noncomputable def Tryz.pinned : Pinned := { name := "ytoiimiohobollaagreat", sum := "71e88187510596d45ce58039f3911eaaaedd24ebb43ce75d4b3281cb2a680a5a", checked := Tryz.checked }
namespace Rows
def none {H : Type} : Left H := { results := [], args := [] }

/-- 'skirmishlaw28.EconomyRestores': WHATEVER THE INPUT: true; the input reads as it did. -/
def economyRestoresSpec : ChangeSpec := { name := "economyRestores", fn := fun _ => fun
  | [d1, d2] => { results := [.lit (.bool true)], args := [d1, d2] }
  | _ => none }
def economyRestoresRow : OpenClaim := { program := "ytoiimiohobollaagreat", sum := "71e88187510596d45ce58039f3911eaaaedd24ebb43ce75d4b3281cb2a680a5a", func := "skirmish/skirmishlaw28.EconomyRestores", spec := "economyRestores", unfollowed := true, recurses := true, apart := false }
def EconomyRestoresSaid : Prop := economyRestoresRow.holds Tryz.pinned (OpenSpec.ofChange economyRestoresSpec)

/-- ITS FALSE NEIGHBOUR: 'it returns false'. Refute it at one input. -/
def economyRestoresWrong : ChangeSpec := { name := "economyRestores", fn := fun _ => fun
  | [d1, d2] => { results := [.lit (.bool false)], args := [d1, d2] }
  | _ => none }
def EconomyRestoresWrongFalsely : Prop := economyRestoresRow.holds Tryz.pinned (OpenSpec.ofChange economyRestoresWrong)

/-- 'skirmishlaw28.EconomyDepots': WHATEVER THE INPUT: true; the input reads as it did. -/
def economyDepotsSpec : ChangeSpec := { name := "economyDepots", fn := fun _ => fun
  | [d1, d2] => { results := [.lit (.bool true)], args := [d1, d2] }
  | _ => none }
def economyDepotsRow : OpenClaim := { program := "ytoiimiohobollaagreat", sum := "71e88187510596d45ce58039f3911eaaaedd24ebb43ce75d4b3281cb2a680a5a", func := "skirmish/skirmishlaw28.EconomyDepots", spec := "economyDepots", unfollowed := true, recurses := true, apart := false }
def EconomyDepotsSaid : Prop := economyDepotsRow.holds Tryz.pinned (OpenSpec.ofChange economyDepotsSpec)

/-- ITS FALSE NEIGHBOUR: 'it returns false'. Refute it at one input. -/
def economyDepotsWrong : ChangeSpec := { name := "economyDepots", fn := fun _ => fun
  | [d1, d2] => { results := [.lit (.bool false)], args := [d1, d2] }
  | _ => none }
def EconomyDepotsWrongFalsely : Prop := economyDepotsRow.holds Tryz.pinned (OpenSpec.ofChange economyDepotsWrong)

/-- 'skirmishlaw28.EconomyPhases': WHATEVER THE INPUT: true; the input reads as it did. -/
def economyPhasesSpec : ChangeSpec := { name := "economyPhases", fn := fun _ => fun
  | [d] => { results := [.lit (.bool true)], args := [d] }
  | _ => none }
def economyPhasesRow : OpenClaim := { program := "ytoiimiohobollaagreat", sum := "71e88187510596d45ce58039f3911eaaaedd24ebb43ce75d4b3281cb2a680a5a", func := "skirmish/skirmishlaw28.EconomyPhases", spec := "economyPhases", unfollowed := true, recurses := true, apart := false }
def EconomyPhasesSaid : Prop := economyPhasesRow.holds Tryz.pinned (OpenSpec.ofChange economyPhasesSpec)

/-- ITS FALSE NEIGHBOUR: 'it returns false'. Refute it at one input. -/
def economyPhasesWrong : ChangeSpec := { name := "economyPhases", fn := fun _ => fun
  | [d] => { results := [.lit (.bool false)], args := [d] }
  | _ => none }
def EconomyPhasesWrongFalsely : Prop := economyPhasesRow.holds Tryz.pinned (OpenSpec.ofChange economyPhasesWrong)

/-- 'skirmishlaw28.EconomyConserves': WHATEVER THE INPUT: true; the input reads as it did. -/
def economyConservesSpec : ChangeSpec := { name := "economyConserves", fn := fun _ => fun
  | [d] => { results := [.lit (.bool true)], args := [d] }
  | _ => none }
def economyConservesRow : OpenClaim := { program := "ytoiimiohobollaagreat", sum := "71e88187510596d45ce58039f3911eaaaedd24ebb43ce75d4b3281cb2a680a5a", func := "skirmish/skirmishlaw28.EconomyConserves", spec := "economyConserves", unfollowed := true, recurses := true, apart := false }
def EconomyConservesSaid : Prop := economyConservesRow.holds Tryz.pinned (OpenSpec.ofChange economyConservesSpec)

/-- ITS FALSE NEIGHBOUR: 'it returns false'. Refute it at one input. -/
def economyConservesWrong : ChangeSpec := { name := "economyConserves", fn := fun _ => fun
  | [d] => { results := [.lit (.bool false)], args := [d] }
  | _ => none }
def EconomyConservesWrongFalsely : Prop := economyConservesRow.holds Tryz.pinned (OpenSpec.ofChange economyConservesWrong)

/-- 'skirmishlaw28.EconomyLoads': WHATEVER THE INPUT: true; the input reads as it did. -/
def economyLoadsSpec : ChangeSpec := { name := "economyLoads", fn := fun _ => fun
  | [d] => { results := [.lit (.bool true)], args := [d] }
  | _ => none }
def economyLoadsRow : OpenClaim := { program := "ytoiimiohobollaagreat", sum := "71e88187510596d45ce58039f3911eaaaedd24ebb43ce75d4b3281cb2a680a5a", func := "skirmish/skirmishlaw28.EconomyLoads", spec := "economyLoads", unfollowed := true, recurses := true, apart := false }
def EconomyLoadsSaid : Prop := economyLoadsRow.holds Tryz.pinned (OpenSpec.ofChange economyLoadsSpec)

/-- ITS FALSE NEIGHBOUR: 'it returns false'. Refute it at one input. -/
def economyLoadsWrong : ChangeSpec := { name := "economyLoads", fn := fun _ => fun
  | [d] => { results := [.lit (.bool false)], args := [d] }
  | _ => none }
def EconomyLoadsWrongFalsely : Prop := economyLoadsRow.holds Tryz.pinned (OpenSpec.ofChange economyLoadsWrong)

/- THE SECOND FORM. 'bulk': how many values and letters a reading holds, each counted each time it is reached (what is shared counts as often as it is met; a slice's spare places count too). A statement '..UptoSaid' is the law's where the arguments, and the package variables that the reading takes, are together of bulk at most 1048576: NARROWER than '..Said'. Prove '..Said' where nothing that the law and all that it calls make is longer than what came in: it says more and counts as full. Else prove '..UptoSaid'. A law counts once. -/
mutual
def uptoBulk {H : Type} : DataW H → Nat
  | .lit (.string bytes) => bytes.length + 1
  | .lit _ => 1
  | .nil => 1
  | .ptr d => uptoBulk d + 1
  | .slice elems spare => uptoBulkAll elems + uptoBulkAll spare + 1
  | .agg parts => uptoBulkAll parts + 1
  | .iface _ d => uptoBulk d + 1
  | .map entries => uptoBulkEntries entries + 1
  | .held _ => 1
def uptoBulkAll {H : Type} : List (DataW H) → Nat
  | [] => 0
  | d :: r => uptoBulk d + uptoBulkAll r
def uptoBulkEntries {H : Type} : List (Lit × DataW H) → Nat
  | [] => 0
  | x :: r => uptoBulkEntry x + uptoBulkEntries r
def uptoBulkEntry {H : Type} : Lit × DataW H → Nat
  | (.string bytes, d) => bytes.length + uptoBulk d + 1
  | (_, d) => uptoBulk d + 1
 end
def uptoSmall : (H : Type) → List (DataW H) → Bool := fun _ ds => decide (uptoBulkAll ds ≤ 1048576)
def OpenSpec.upto (s : _root_.Go.ChangeSpec) : _root_.Go.OpenSpec := { _root_.Go.OpenSpec.ofChange s with cond := some uptoSmall }

/-- 'skirmishlaw28.EconomyRestores', WHERE WHAT IT READS IS OF BULK AT MOST 1048576: true; the input reads as it did. -/
def economyRestoresUptoRow : OpenClaim := { program := "ytoiimiohobollaagreat", sum := "71e88187510596d45ce58039f3911eaaaedd24ebb43ce75d4b3281cb2a680a5a", func := "skirmish/skirmishlaw28.EconomyRestores", spec := "economyRestores", unfollowed := true, recurses := true, apart := false, narrowed := true }
def EconomyRestoresUptoSaid : Prop := economyRestoresUptoRow.holds Tryz.pinned (OpenSpec.upto economyRestoresSpec)

/-- 'skirmishlaw28.EconomyDepots', WHERE WHAT IT READS IS OF BULK AT MOST 1048576: true; the input reads as it did. -/
def economyDepotsUptoRow : OpenClaim := { program := "ytoiimiohobollaagreat", sum := "71e88187510596d45ce58039f3911eaaaedd24ebb43ce75d4b3281cb2a680a5a", func := "skirmish/skirmishlaw28.EconomyDepots", spec := "economyDepots", unfollowed := true, recurses := true, apart := false, narrowed := true }
def EconomyDepotsUptoSaid : Prop := economyDepotsUptoRow.holds Tryz.pinned (OpenSpec.upto economyDepotsSpec)

/-- 'skirmishlaw28.EconomyPhases', WHERE WHAT IT READS IS OF BULK AT MOST 1048576: true; the input reads as it did. -/
def economyPhasesUptoRow : OpenClaim := { program := "ytoiimiohobollaagreat", sum := "71e88187510596d45ce58039f3911eaaaedd24ebb43ce75d4b3281cb2a680a5a", func := "skirmish/skirmishlaw28.EconomyPhases", spec := "economyPhases", unfollowed := true, recurses := true, apart := false, narrowed := true }
def EconomyPhasesUptoSaid : Prop := economyPhasesUptoRow.holds Tryz.pinned (OpenSpec.upto economyPhasesSpec)

/-- 'skirmishlaw28.EconomyConserves', WHERE WHAT IT READS IS OF BULK AT MOST 1048576: true; the input reads as it did. -/
def economyConservesUptoRow : OpenClaim := { program := "ytoiimiohobollaagreat", sum := "71e88187510596d45ce58039f3911eaaaedd24ebb43ce75d4b3281cb2a680a5a", func := "skirmish/skirmishlaw28.EconomyConserves", spec := "economyConserves", unfollowed := true, recurses := true, apart := false, narrowed := true }
def EconomyConservesUptoSaid : Prop := economyConservesUptoRow.holds Tryz.pinned (OpenSpec.upto economyConservesSpec)

/-- 'skirmishlaw28.EconomyLoads', WHERE WHAT IT READS IS OF BULK AT MOST 1048576: true; the input reads as it did. -/
def economyLoadsUptoRow : OpenClaim := { program := "ytoiimiohobollaagreat", sum := "71e88187510596d45ce58039f3911eaaaedd24ebb43ce75d4b3281cb2a680a5a", func := "skirmish/skirmishlaw28.EconomyLoads", spec := "economyLoads", unfollowed := true, recurses := true, apart := false, narrowed := true }
def EconomyLoadsUptoSaid : Prop := economyLoadsUptoRow.holds Tryz.pinned (OpenSpec.upto economyLoadsSpec)

end Rows
end Go.Proofs.YtoiimiohobollaaGreat
