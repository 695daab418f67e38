/-
  No cell of these rows narrows 'for every input' (looked for: loops, veiled, ifaces, maps, wideKeys, modest, calm, conditions, laid).
  DERIVED. THE GIVEN ROWS OF THIS SEAT. 6 by the template 'for every input the law returns true; each argument reads behind the call as it read before'; 0 by the template 'total and deterministic' (their statements: YtlgaiebfdheggaaTotals.lean).
  GIVEN WITH THE SEED: the statements are not yours to turn. If you find one false, say at which input.
  Laid BY PROGRAM, IN A SANDBOX (cutbox-rows.mjs): the forced cells as the released guide's own fill.sh prints them over the translation c3e523a13db93341… (all of the seat's roots in one cut). By AI agents, Wed Nov 11 2026. No macro, syntax, notation, axiom, sorry.
-/
import Derived.Test.YtlgaiebfdheggaaChecked
import GoSem.Claim
import GoSem.ClaimJoined
import GoSem.ClaimMapViews
import Derived.JoinedTies
import Derived.KernelRfl
namespace Go.Proofs.Ytlgaiebfdheggaa
/- THE CELL 'sum', in the pinned program and in every row, IS THE sha256 OF THE DUMP (.gsa) THAT YtlgaiebfdheggaaProg.lean LOADS. Nothing in Lean hashes anything: it is a label: what it is worth is what the hold of that sum in a sandbox is worth. -/
noncomputable def Try.pinned : Pinned := { name := "ytlgaiebfdheggaa", sum := "c3e523a13db93341568e20b6db8d0c0a474e387f91834f5129b20f89190a956e", checked := Try.checked }
namespace Rows
def none {H : Type} : Left H := { results := [], args := [] }

/-- 'skirmishlaw02.VecToward': WHATEVER THE INPUT: true; the input reads as it did. -/
def vecTowardSpec : ChangeSpec := { name := "vecToward", fn := fun _ => fun
  | [d1, d2, d3] => { results := [.lit (.bool true)], args := [d1, d2, d3] }
  | _ => none }
def vecTowardRow : OpenClaim := { program := "ytlgaiebfdheggaa", sum := "c3e523a13db93341568e20b6db8d0c0a474e387f91834f5129b20f89190a956e", func := "skirmish/skirmishlaw02.VecToward", spec := "vecToward", apart := false }
def VecTowardSaid : Prop := vecTowardRow.holds Try.pinned (OpenSpec.ofChange vecTowardSpec)

/-- ITS FALSE NEIGHBOUR: 'it returns false'. Refute it at one input. -/
def vecTowardWrong : ChangeSpec := { name := "vecToward", fn := fun _ => fun
  | [d1, d2, d3] => { results := [.lit (.bool false)], args := [d1, d2, d3] }
  | _ => none }
def VecTowardWrongFalsely : Prop := vecTowardRow.holds Try.pinned (OpenSpec.ofChange vecTowardWrong)

/-- 'skirmishlaw02.VecArrives': WHATEVER THE INPUT: true; the input reads as it did. -/
def vecArrivesSpec : ChangeSpec := { name := "vecArrives", fn := fun _ => fun
  | [d1, d2, d3] => { results := [.lit (.bool true)], args := [d1, d2, d3] }
  | _ => none }
def vecArrivesRow : OpenClaim := { program := "ytlgaiebfdheggaa", sum := "c3e523a13db93341568e20b6db8d0c0a474e387f91834f5129b20f89190a956e", func := "skirmish/skirmishlaw02.VecArrives", spec := "vecArrives", apart := false }
def VecArrivesSaid : Prop := vecArrivesRow.holds Try.pinned (OpenSpec.ofChange vecArrivesSpec)

/-- ITS FALSE NEIGHBOUR: 'it returns false'. Refute it at one input. -/
def vecArrivesWrong : ChangeSpec := { name := "vecArrives", fn := fun _ => fun
  | [d1, d2, d3] => { results := [.lit (.bool false)], args := [d1, d2, d3] }
  | _ => none }
def VecArrivesWrongFalsely : Prop := vecArrivesRow.holds Try.pinned (OpenSpec.ofChange vecArrivesWrong)

/-- 'skirmishlaw02.VecParts': WHATEVER THE INPUT: true; the input reads as it did. -/
def vecPartsSpec : ChangeSpec := { name := "vecParts", fn := fun _ => fun
  | [d1, d2, d3] => { results := [.lit (.bool true)], args := [d1, d2, d3] }
  | _ => none }
def vecPartsRow : OpenClaim := { program := "ytlgaiebfdheggaa", sum := "c3e523a13db93341568e20b6db8d0c0a474e387f91834f5129b20f89190a956e", func := "skirmish/skirmishlaw02.VecParts", spec := "vecParts", apart := false }
def VecPartsSaid : Prop := vecPartsRow.holds Try.pinned (OpenSpec.ofChange vecPartsSpec)

/-- ITS FALSE NEIGHBOUR: 'it returns false'. Refute it at one input. -/
def vecPartsWrong : ChangeSpec := { name := "vecParts", fn := fun _ => fun
  | [d1, d2, d3] => { results := [.lit (.bool false)], args := [d1, d2, d3] }
  | _ => none }
def VecPartsWrongFalsely : Prop := vecPartsRow.holds Try.pinned (OpenSpec.ofChange vecPartsWrong)

/-- 'skirmishlaw02.VecTowardNear': WHATEVER THE INPUT: true; the input reads as it did. -/
def vecTowardNearSpec : ChangeSpec := { name := "vecTowardNear", fn := fun _ => fun
  | [d1, d2, d3] => { results := [.lit (.bool true)], args := [d1, d2, d3] }
  | _ => none }
def vecTowardNearRow : OpenClaim := { program := "ytlgaiebfdheggaa", sum := "c3e523a13db93341568e20b6db8d0c0a474e387f91834f5129b20f89190a956e", func := "skirmish/skirmishlaw02.VecTowardNear", spec := "vecTowardNear", apart := false }
def VecTowardNearSaid : Prop := vecTowardNearRow.holds Try.pinned (OpenSpec.ofChange vecTowardNearSpec)

/-- ITS FALSE NEIGHBOUR: 'it returns false'. Refute it at one input. -/
def vecTowardNearWrong : ChangeSpec := { name := "vecTowardNear", fn := fun _ => fun
  | [d1, d2, d3] => { results := [.lit (.bool false)], args := [d1, d2, d3] }
  | _ => none }
def VecTowardNearWrongFalsely : Prop := vecTowardNearRow.holds Try.pinned (OpenSpec.ofChange vecTowardNearWrong)

/-- 'skirmishlaw02.VecLengths': WHATEVER THE INPUT: true; the input reads as it did. -/
def vecLengthsSpec : ChangeSpec := { name := "vecLengths", fn := fun _ => fun
  | [d1, d2] => { results := [.lit (.bool true)], args := [d1, d2] }
  | _ => none }
def vecLengthsRow : OpenClaim := { program := "ytlgaiebfdheggaa", sum := "c3e523a13db93341568e20b6db8d0c0a474e387f91834f5129b20f89190a956e", func := "skirmish/skirmishlaw02.VecLengths", spec := "vecLengths", apart := false }
def VecLengthsSaid : Prop := vecLengthsRow.holds Try.pinned (OpenSpec.ofChange vecLengthsSpec)

/-- ITS FALSE NEIGHBOUR: 'it returns false'. Refute it at one input. -/
def vecLengthsWrong : ChangeSpec := { name := "vecLengths", fn := fun _ => fun
  | [d1, d2] => { results := [.lit (.bool false)], args := [d1, d2] }
  | _ => none }
def VecLengthsWrongFalsely : Prop := vecLengthsRow.holds Try.pinned (OpenSpec.ofChange vecLengthsWrong)

/-- 'skirmishlaw02.VecSums': WHATEVER THE INPUT: true; the input reads as it did. -/
def vecSumsSpec : ChangeSpec := { name := "vecSums", fn := fun _ => fun
  | [d1, d2] => { results := [.lit (.bool true)], args := [d1, d2] }
  | _ => none }
def vecSumsRow : OpenClaim := { program := "ytlgaiebfdheggaa", sum := "c3e523a13db93341568e20b6db8d0c0a474e387f91834f5129b20f89190a956e", func := "skirmish/skirmishlaw02.VecSums", spec := "vecSums", apart := false }
def VecSumsSaid : Prop := vecSumsRow.holds Try.pinned (OpenSpec.ofChange vecSumsSpec)

/-- ITS FALSE NEIGHBOUR: 'it returns false'. Refute it at one input. -/
def vecSumsWrong : ChangeSpec := { name := "vecSums", fn := fun _ => fun
  | [d1, d2] => { results := [.lit (.bool false)], args := [d1, d2] }
  | _ => none }
def VecSumsWrongFalsely : Prop := vecSumsRow.holds Try.pinned (OpenSpec.ofChange vecSumsWrong)

/- THE SECOND FORM. 'bulk': how many values and letters a reading holds, each counted each time it is reached (what is shared counts as often as it is met; a slice's spare places count too). A statement '..UptoSaid' is the law's where the arguments, and the package variables that the reading takes, are together of bulk at most 1048576: NARROWER than '..Said'. Prove '..Said' where nothing that the law and all that it calls make is longer than what came in: it says more and counts as full. Else prove '..UptoSaid'. A law counts once. -/
mutual
def uptoBulk {H : Type} : DataW H → Nat
  | .lit (.string bytes) => bytes.length + 1
  | .lit _ => 1
  | .nil => 1
  | .ptr d => uptoBulk d + 1
  | .slice elems spare => uptoBulkAll elems + uptoBulkAll spare + 1
  | .agg parts => uptoBulkAll parts + 1
  | .iface _ d => uptoBulk d + 1
  | .map entries => uptoBulkEntries entries + 1
  | .held _ => 1
def uptoBulkAll {H : Type} : List (DataW H) → Nat
  | [] => 0
  | d :: r => uptoBulk d + uptoBulkAll r
def uptoBulkEntries {H : Type} : List (Lit × DataW H) → Nat
  | [] => 0
  | x :: r => uptoBulkEntry x + uptoBulkEntries r
def uptoBulkEntry {H : Type} : Lit × DataW H → Nat
  | (.string bytes, d) => bytes.length + uptoBulk d + 1
  | (_, d) => uptoBulk d + 1
 end
def uptoSmall : (H : Type) → List (DataW H) → Bool := fun _ ds => decide (uptoBulkAll ds ≤ 1048576)
def OpenSpec.upto (s : _root_.Go.ChangeSpec) : _root_.Go.OpenSpec := { _root_.Go.OpenSpec.ofChange s with cond := some uptoSmall }

/-- 'skirmishlaw02.VecToward', WHERE WHAT IT READS IS OF BULK AT MOST 1048576: true; the input reads as it did. -/
def vecTowardUptoRow : OpenClaim := { program := "ytlgaiebfdheggaa", sum := "c3e523a13db93341568e20b6db8d0c0a474e387f91834f5129b20f89190a956e", func := "skirmish/skirmishlaw02.VecToward", spec := "vecToward", apart := false, narrowed := true }
def VecTowardUptoSaid : Prop := vecTowardUptoRow.holds Try.pinned (OpenSpec.upto vecTowardSpec)

/-- 'skirmishlaw02.VecArrives', WHERE WHAT IT READS IS OF BULK AT MOST 1048576: true; the input reads as it did. -/
def vecArrivesUptoRow : OpenClaim := { program := "ytlgaiebfdheggaa", sum := "c3e523a13db93341568e20b6db8d0c0a474e387f91834f5129b20f89190a956e", func := "skirmish/skirmishlaw02.VecArrives", spec := "vecArrives", apart := false, narrowed := true }
def VecArrivesUptoSaid : Prop := vecArrivesUptoRow.holds Try.pinned (OpenSpec.upto vecArrivesSpec)

/-- 'skirmishlaw02.VecParts', WHERE WHAT IT READS IS OF BULK AT MOST 1048576: true; the input reads as it did. -/
def vecPartsUptoRow : OpenClaim := { program := "ytlgaiebfdheggaa", sum := "c3e523a13db93341568e20b6db8d0c0a474e387f91834f5129b20f89190a956e", func := "skirmish/skirmishlaw02.VecParts", spec := "vecParts", apart := false, narrowed := true }
def VecPartsUptoSaid : Prop := vecPartsUptoRow.holds Try.pinned (OpenSpec.upto vecPartsSpec)

/-- 'skirmishlaw02.VecTowardNear', WHERE WHAT IT READS IS OF BULK AT MOST 1048576: true; the input reads as it did. -/
def vecTowardNearUptoRow : OpenClaim := { program := "ytlgaiebfdheggaa", sum := "c3e523a13db93341568e20b6db8d0c0a474e387f91834f5129b20f89190a956e", func := "skirmish/skirmishlaw02.VecTowardNear", spec := "vecTowardNear", apart := false, narrowed := true }
def VecTowardNearUptoSaid : Prop := vecTowardNearUptoRow.holds Try.pinned (OpenSpec.upto vecTowardNearSpec)

/-- 'skirmishlaw02.VecLengths', WHERE WHAT IT READS IS OF BULK AT MOST 1048576: true; the input reads as it did. -/
def vecLengthsUptoRow : OpenClaim := { program := "ytlgaiebfdheggaa", sum := "c3e523a13db93341568e20b6db8d0c0a474e387f91834f5129b20f89190a956e", func := "skirmish/skirmishlaw02.VecLengths", spec := "vecLengths", apart := false, narrowed := true }
def VecLengthsUptoSaid : Prop := vecLengthsUptoRow.holds Try.pinned (OpenSpec.upto vecLengthsSpec)

/-- 'skirmishlaw02.VecSums', WHERE WHAT IT READS IS OF BULK AT MOST 1048576: true; the input reads as it did. -/
def vecSumsUptoRow : OpenClaim := { program := "ytlgaiebfdheggaa", sum := "c3e523a13db93341568e20b6db8d0c0a474e387f91834f5129b20f89190a956e", func := "skirmish/skirmishlaw02.VecSums", spec := "vecSums", apart := false, narrowed := true }
def VecSumsUptoSaid : Prop := vecSumsUptoRow.holds Try.pinned (OpenSpec.upto vecSumsSpec)

end Rows
end Go.Proofs.Ytlgaiebfdheggaa
