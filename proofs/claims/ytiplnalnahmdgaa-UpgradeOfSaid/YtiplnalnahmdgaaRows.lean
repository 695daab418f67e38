/-
  No cell of these rows narrows 'for every input' (looked for: loops, veiled, ifaces, maps, wideKeys, modest, calm, conditions, laid).
  DERIVED. THE GIVEN ROWS OF THIS SEAT. 6 by the template 'for every input the law returns true; each argument reads behind the call as it read before'; 0 by the template 'total and deterministic' (their statements: YtiplnalnahmdgaaTotals.lean).
  GIVEN WITH THE SEED: the statements are not yours to turn. If you find one false, say at which input.
  Laid BY PROGRAM, IN A SANDBOX (cutbox-rows.mjs): the forced cells as the released guide's own fill.sh prints them over the translation 326c839e6f39add2… (all of the seat's roots in one cut). By AI agents, Wed Nov 11 2026. No macro, syntax, notation, axiom, sorry.
-/
import Derived.Test.YtiplnalnahmdgaaChecked
import GoSem.Claim
import GoSem.ClaimJoined
import GoSem.ClaimMapViews
import Derived.JoinedTies
import Derived.KernelRfl
namespace Go.Proofs.Ytiplnalnahmdgaa
/- THE CELL 'sum', in the pinned program and in every row, IS THE sha256 OF THE DUMP (.gsa) THAT YtiplnalnahmdgaaProg.lean LOADS. Nothing in Lean hashes anything: it is a label: what it is worth is what the hold of that sum in a sandbox is worth. -/
noncomputable def Try.pinned : Pinned := { name := "ytiplnalnahmdgaa", sum := "326c839e6f39add2b26b7e8139bc754dd3eb2b21430cd74f2e87e52ed22bdb0e", checked := Try.checked }
namespace Rows
def none {H : Type} : Left H := { results := [], args := [] }

/-- 'skirmishlaw22.UpgradeStats': WHATEVER THE INPUT: true; the input reads as it did. -/
def upgradeStatsSpec : ChangeSpec := { name := "upgradeStats", fn := fun _ => fun
  | [d1, d2, d3] => { results := [.lit (.bool true)], args := [d1, d2, d3] }
  | _ => none }
def upgradeStatsRow : OpenClaim := { program := "ytiplnalnahmdgaa", sum := "326c839e6f39add2b26b7e8139bc754dd3eb2b21430cd74f2e87e52ed22bdb0e", func := "skirmish/skirmishlaw22.UpgradeStats", spec := "upgradeStats", unfollowed := true, recurses := true, apart := false }
def UpgradeStatsSaid : Prop := upgradeStatsRow.holds Try.pinned (OpenSpec.ofChange upgradeStatsSpec)

/-- ITS FALSE NEIGHBOUR: 'it returns false'. Refute it at one input. -/
def upgradeStatsWrong : ChangeSpec := { name := "upgradeStats", fn := fun _ => fun
  | [d1, d2, d3] => { results := [.lit (.bool false)], args := [d1, d2, d3] }
  | _ => none }
def UpgradeStatsWrongFalsely : Prop := upgradeStatsRow.holds Try.pinned (OpenSpec.ofChange upgradeStatsWrong)

/-- 'skirmishlaw22.UpgradeAdds': WHATEVER THE INPUT: true; the input reads as it did. -/
def upgradeAddsSpec : ChangeSpec := { name := "upgradeAdds", fn := fun _ => fun
  | [d1, d2, d3] => { results := [.lit (.bool true)], args := [d1, d2, d3] }
  | _ => none }
def upgradeAddsRow : OpenClaim := { program := "ytiplnalnahmdgaa", sum := "326c839e6f39add2b26b7e8139bc754dd3eb2b21430cd74f2e87e52ed22bdb0e", func := "skirmish/skirmishlaw22.UpgradeAdds", spec := "upgradeAdds", unfollowed := true, recurses := true, apart := false }
def UpgradeAddsSaid : Prop := upgradeAddsRow.holds Try.pinned (OpenSpec.ofChange upgradeAddsSpec)

/-- ITS FALSE NEIGHBOUR: 'it returns false'. Refute it at one input. -/
def upgradeAddsWrong : ChangeSpec := { name := "upgradeAdds", fn := fun _ => fun
  | [d1, d2, d3] => { results := [.lit (.bool false)], args := [d1, d2, d3] }
  | _ => none }
def UpgradeAddsWrongFalsely : Prop := upgradeAddsRow.holds Try.pinned (OpenSpec.ofChange upgradeAddsWrong)

/-- 'skirmishlaw22.UpgradeOrder': WHATEVER THE INPUT: true; the input reads as it did. -/
def upgradeOrderSpec : ChangeSpec := { name := "upgradeOrder", fn := fun _ => fun
  | [d1, d2, d3] => { results := [.lit (.bool true)], args := [d1, d2, d3] }
  | _ => none }
def upgradeOrderRow : OpenClaim := { program := "ytiplnalnahmdgaa", sum := "326c839e6f39add2b26b7e8139bc754dd3eb2b21430cd74f2e87e52ed22bdb0e", func := "skirmish/skirmishlaw22.UpgradeOrder", spec := "upgradeOrder", unfollowed := true, recurses := true, apart := false }
def UpgradeOrderSaid : Prop := upgradeOrderRow.holds Try.pinned (OpenSpec.ofChange upgradeOrderSpec)

/-- ITS FALSE NEIGHBOUR: 'it returns false'. Refute it at one input. -/
def upgradeOrderWrong : ChangeSpec := { name := "upgradeOrder", fn := fun _ => fun
  | [d1, d2, d3] => { results := [.lit (.bool false)], args := [d1, d2, d3] }
  | _ => none }
def UpgradeOrderWrongFalsely : Prop := upgradeOrderRow.holds Try.pinned (OpenSpec.ofChange upgradeOrderWrong)

/-- 'skirmishlaw22.UpgradeTypes': WHATEVER THE INPUT: true; the input reads as it did. -/
def upgradeTypesSpec : ChangeSpec := { name := "upgradeTypes", fn := fun _ => fun
  | [d1, d2, d3] => { results := [.lit (.bool true)], args := [d1, d2, d3] }
  | _ => none }
def upgradeTypesRow : OpenClaim := { program := "ytiplnalnahmdgaa", sum := "326c839e6f39add2b26b7e8139bc754dd3eb2b21430cd74f2e87e52ed22bdb0e", func := "skirmish/skirmishlaw22.UpgradeTypes", spec := "upgradeTypes", unfollowed := true, recurses := true, apart := false }
def UpgradeTypesSaid : Prop := upgradeTypesRow.holds Try.pinned (OpenSpec.ofChange upgradeTypesSpec)

/-- ITS FALSE NEIGHBOUR: 'it returns false'. Refute it at one input. -/
def upgradeTypesWrong : ChangeSpec := { name := "upgradeTypes", fn := fun _ => fun
  | [d1, d2, d3] => { results := [.lit (.bool false)], args := [d1, d2, d3] }
  | _ => none }
def UpgradeTypesWrongFalsely : Prop := upgradeTypesRow.holds Try.pinned (OpenSpec.ofChange upgradeTypesWrong)

/-- 'skirmishlaw22.UpgradeWeapons': WHATEVER THE INPUT: true; the input reads as it did. -/
def upgradeWeaponsSpec : ChangeSpec := { name := "upgradeWeapons", fn := fun _ => fun
  | [d1, d2, d3] => { results := [.lit (.bool true)], args := [d1, d2, d3] }
  | _ => none }
def upgradeWeaponsRow : OpenClaim := { program := "ytiplnalnahmdgaa", sum := "326c839e6f39add2b26b7e8139bc754dd3eb2b21430cd74f2e87e52ed22bdb0e", func := "skirmish/skirmishlaw22.UpgradeWeapons", spec := "upgradeWeapons", unfollowed := true, recurses := true, apart := false }
def UpgradeWeaponsSaid : Prop := upgradeWeaponsRow.holds Try.pinned (OpenSpec.ofChange upgradeWeaponsSpec)

/-- ITS FALSE NEIGHBOUR: 'it returns false'. Refute it at one input. -/
def upgradeWeaponsWrong : ChangeSpec := { name := "upgradeWeapons", fn := fun _ => fun
  | [d1, d2, d3] => { results := [.lit (.bool false)], args := [d1, d2, d3] }
  | _ => none }
def UpgradeWeaponsWrongFalsely : Prop := upgradeWeaponsRow.holds Try.pinned (OpenSpec.ofChange upgradeWeaponsWrong)

/-- 'skirmishlaw22.UpgradeOf': WHATEVER THE INPUT: true; the input reads as it did. -/
def upgradeOfSpec : ChangeSpec := { name := "upgradeOf", fn := fun _ => fun
  | [d1, d2] => { results := [.lit (.bool true)], args := [d1, d2] }
  | _ => none }
def upgradeOfRow : OpenClaim := { program := "ytiplnalnahmdgaa", sum := "326c839e6f39add2b26b7e8139bc754dd3eb2b21430cd74f2e87e52ed22bdb0e", func := "skirmish/skirmishlaw22.UpgradeOf", spec := "upgradeOf", unfollowed := true, recurses := true, apart := false }
def UpgradeOfSaid : Prop := upgradeOfRow.holds Try.pinned (OpenSpec.ofChange upgradeOfSpec)

/-- ITS FALSE NEIGHBOUR: 'it returns false'. Refute it at one input. -/
def upgradeOfWrong : ChangeSpec := { name := "upgradeOf", fn := fun _ => fun
  | [d1, d2] => { results := [.lit (.bool false)], args := [d1, d2] }
  | _ => none }
def UpgradeOfWrongFalsely : Prop := upgradeOfRow.holds Try.pinned (OpenSpec.ofChange upgradeOfWrong)

/- THE SECOND FORM. 'bulk': how many values and letters a reading holds, each counted each time it is reached (what is shared counts as often as it is met; a slice's spare places count too). A statement '..UptoSaid' is the law's where the arguments, and the package variables that the reading takes, are together of bulk at most 1048576: NARROWER than '..Said'. Prove '..Said' where nothing that the law and all that it calls make is longer than what came in: it says more and counts as full. Else prove '..UptoSaid'. A law counts once. -/
mutual
def uptoBulk {H : Type} : DataW H → Nat
  | .lit (.string bytes) => bytes.length + 1
  | .lit _ => 1
  | .nil => 1
  | .ptr d => uptoBulk d + 1
  | .slice elems spare => uptoBulkAll elems + uptoBulkAll spare + 1
  | .agg parts => uptoBulkAll parts + 1
  | .iface _ d => uptoBulk d + 1
  | .map entries => uptoBulkEntries entries + 1
  | .held _ => 1
def uptoBulkAll {H : Type} : List (DataW H) → Nat
  | [] => 0
  | d :: r => uptoBulk d + uptoBulkAll r
def uptoBulkEntries {H : Type} : List (Lit × DataW H) → Nat
  | [] => 0
  | x :: r => uptoBulkEntry x + uptoBulkEntries r
def uptoBulkEntry {H : Type} : Lit × DataW H → Nat
  | (.string bytes, d) => bytes.length + uptoBulk d + 1
  | (_, d) => uptoBulk d + 1
 end
def uptoSmall : (H : Type) → List (DataW H) → Bool := fun _ ds => decide (uptoBulkAll ds ≤ 1048576)
def OpenSpec.upto (s : _root_.Go.ChangeSpec) : _root_.Go.OpenSpec := { _root_.Go.OpenSpec.ofChange s with cond := some uptoSmall }

/-- 'skirmishlaw22.UpgradeStats', WHERE WHAT IT READS IS OF BULK AT MOST 1048576: true; the input reads as it did. -/
def upgradeStatsUptoRow : OpenClaim := { program := "ytiplnalnahmdgaa", sum := "326c839e6f39add2b26b7e8139bc754dd3eb2b21430cd74f2e87e52ed22bdb0e", func := "skirmish/skirmishlaw22.UpgradeStats", spec := "upgradeStats", unfollowed := true, recurses := true, apart := false, narrowed := true }
def UpgradeStatsUptoSaid : Prop := upgradeStatsUptoRow.holds Try.pinned (OpenSpec.upto upgradeStatsSpec)

/-- 'skirmishlaw22.UpgradeAdds', WHERE WHAT IT READS IS OF BULK AT MOST 1048576: true; the input reads as it did. -/
def upgradeAddsUptoRow : OpenClaim := { program := "ytiplnalnahmdgaa", sum := "326c839e6f39add2b26b7e8139bc754dd3eb2b21430cd74f2e87e52ed22bdb0e", func := "skirmish/skirmishlaw22.UpgradeAdds", spec := "upgradeAdds", unfollowed := true, recurses := true, apart := false, narrowed := true }
def UpgradeAddsUptoSaid : Prop := upgradeAddsUptoRow.holds Try.pinned (OpenSpec.upto upgradeAddsSpec)

/-- 'skirmishlaw22.UpgradeOrder', WHERE WHAT IT READS IS OF BULK AT MOST 1048576: true; the input reads as it did. -/
def upgradeOrderUptoRow : OpenClaim := { program := "ytiplnalnahmdgaa", sum := "326c839e6f39add2b26b7e8139bc754dd3eb2b21430cd74f2e87e52ed22bdb0e", func := "skirmish/skirmishlaw22.UpgradeOrder", spec := "upgradeOrder", unfollowed := true, recurses := true, apart := false, narrowed := true }
def UpgradeOrderUptoSaid : Prop := upgradeOrderUptoRow.holds Try.pinned (OpenSpec.upto upgradeOrderSpec)

/-- 'skirmishlaw22.UpgradeTypes', WHERE WHAT IT READS IS OF BULK AT MOST 1048576: true; the input reads as it did. -/
def upgradeTypesUptoRow : OpenClaim := { program := "ytiplnalnahmdgaa", sum := "326c839e6f39add2b26b7e8139bc754dd3eb2b21430cd74f2e87e52ed22bdb0e", func := "skirmish/skirmishlaw22.UpgradeTypes", spec := "upgradeTypes", unfollowed := true, recurses := true, apart := false, narrowed := true }
def UpgradeTypesUptoSaid : Prop := upgradeTypesUptoRow.holds Try.pinned (OpenSpec.upto upgradeTypesSpec)

/-- 'skirmishlaw22.UpgradeWeapons', WHERE WHAT IT READS IS OF BULK AT MOST 1048576: true; the input reads as it did. -/
def upgradeWeaponsUptoRow : OpenClaim := { program := "ytiplnalnahmdgaa", sum := "326c839e6f39add2b26b7e8139bc754dd3eb2b21430cd74f2e87e52ed22bdb0e", func := "skirmish/skirmishlaw22.UpgradeWeapons", spec := "upgradeWeapons", unfollowed := true, recurses := true, apart := false, narrowed := true }
def UpgradeWeaponsUptoSaid : Prop := upgradeWeaponsUptoRow.holds Try.pinned (OpenSpec.upto upgradeWeaponsSpec)

/-- 'skirmishlaw22.UpgradeOf', WHERE WHAT IT READS IS OF BULK AT MOST 1048576: true; the input reads as it did. -/
def upgradeOfUptoRow : OpenClaim := { program := "ytiplnalnahmdgaa", sum := "326c839e6f39add2b26b7e8139bc754dd3eb2b21430cd74f2e87e52ed22bdb0e", func := "skirmish/skirmishlaw22.UpgradeOf", spec := "upgradeOf", unfollowed := true, recurses := true, apart := false, narrowed := true }
def UpgradeOfUptoSaid : Prop := upgradeOfUptoRow.holds Try.pinned (OpenSpec.upto upgradeOfSpec)

end Rows
end Go.Proofs.Ytiplnalnahmdgaa
