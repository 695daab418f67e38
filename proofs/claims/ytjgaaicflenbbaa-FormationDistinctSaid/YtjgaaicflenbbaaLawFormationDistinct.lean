/- The law FormationDistinct: it answers true, and leaves its arguments as they were. The walk and the plain law lie in the texts before. -/
import Derived.Test.YtjgaaicflenbbaaRows
import Derived.Test.YtjgaaicflenbbaaAI22
import Derived.Test.YtjgaaicflenbbaaQ18f
import Derived.WalkKit
import Derived.ProofKit
import Derived.OpenShut
import Derived.ShutString
import Derived.ChangeOld
import Derived.Below
import Derived.SizedLaws
namespace Go.Proofs.Ytjgaaicflenbbaa.formationDistinct
open Go.ChangeShapes Go.WideShapes Go.ChangeAt Go.RowKit Go.Proofs.Ytjgaaicflenbbaa.AI
set_option linter.unusedVariables false
theorem law (us : List AVal) (h : ArgsOk Try.prog [25] us) : (C7 7 us []).o = some ⟨true, bo true, [], []⟩ := by
  obtain ⟨a0, us0, hus, ha0, r0⟩ := args_cons h
  subst hus
  obtain ⟨l0, rfl, t0⟩ := arg_agg (ts := [.int .i64, .int .i64, .int .i64, .int .i64, .int .i64, .int .i64, .int .i64]) (by kernel_rfl) (by kernel_rfl) ha0
  obtain ⟨v0_0, l0_0, rfl, y0_0, t0_0⟩ := tyL_cons t0
  obtain ⟨x0_0, rfl, w0_0⟩ := ty_int y0_0
  obtain ⟨v0_1, l0_1, rfl, y0_1, t0_1⟩ := tyL_cons t0_0
  obtain ⟨x0_1, rfl, w0_1⟩ := ty_int y0_1
  obtain ⟨v0_2, l0_2, rfl, y0_2, t0_2⟩ := tyL_cons t0_1
  obtain ⟨x0_2, rfl, w0_2⟩ := ty_int y0_2
  obtain ⟨v0_3, l0_3, rfl, y0_3, t0_3⟩ := tyL_cons t0_2
  obtain ⟨x0_3, rfl, w0_3⟩ := ty_int y0_3
  obtain ⟨v0_4, l0_4, rfl, y0_4, t0_4⟩ := tyL_cons t0_3
  obtain ⟨x0_4, rfl, w0_4⟩ := ty_int y0_4
  obtain ⟨v0_5, l0_5, rfl, y0_5, t0_5⟩ := tyL_cons t0_4
  obtain ⟨x0_5, rfl, w0_5⟩ := ty_int y0_5
  obtain ⟨v0_6, l0_6, rfl, y0_6, t0_6⟩ := tyL_cons t0_5
  obtain ⟨x0_6, rfl, w0_6⟩ := ty_int y0_6
  obtain rfl := tyL_nil t0_6
  obtain rfl := args_nil r0
  show (F_skirmishlaw18_FormationDistinct x0_0 x0_1 x0_2 x0_3 x0_4 x0_5 x0_6).map enc7 = _
  rw [pure_FormationDistinct x0_0 x0_1 x0_2 x0_3 x0_4 x0_5 x0_6 w0_0 w0_1 w0_2 w0_3 w0_4 w0_5 w0_6]
  rfl
theorem own : ownKnob Try.prog.godebug = none := by kernel_rfl
theorem laidOut : laidOutB Try.prog = true := by kernel_rfl
set_option maxRecDepth 100000 in
theorem lifted (os : Os) (started : os.Started) (H : Type) (enc : TypeId × Value → H) :
    ReturnsInHanded {} Try.checked os 7 .any (Rows.formationDistinctSpec.pre6 enc Try.prog Try.f7 Rows.formationDistinctRow.domain false) (Rows.formationDistinctSpec.post enc Try.prog Try.f7 false true false false) := by
  refine returnsInHanded_of_change_sized (C := Try.checked) own started (by kernel_rfl) Try.func7
    (ChangeSpec.witness6 (enc := enc) (C := Try.checked) false ⟨#[], #[.agg #[.int .i64 0, .int .i64 0, .int .i64 0, .int .i64 0, .int .i64 0, .int .i64 0, .int .i64 0]], []⟩ 8 (by kernel_rfl) (by kernel_rfl) (by kernel_rfl) (by kernel_rfl)) ?_
  intro W base args ds gs before hval0 hW hcnd hsz0 _
  have hval : ∀ (j : Nat) t v, Try.f7.params[j]? = some t → args[j]? = some v → Value.okWide Try.prog W .any base t v := hval0
  have hW' := hW
  obtain ⟨p, q, hA0, hV, rfl, hfz, hnd⟩ := hW
  have hA : DataW.TrodAll enc Try.prog W 0 (fun _ => true) true Try.f7.params.toList args.toList ds p := hA0
  rw [Try.params7] at hA hval
  obtain ⟨us, hus, hty⟩ := open_args (by kernel_rfl) (fun j t v ht hv => hval j t v (by simpa using ht) (by simpa using hv)) hA
  have hcall := law_calls lib7 hus (law us hty)
  have hA2 := hA
  obtain ⟨v0, vs0, d0, ds0, p0, q0, hargs, rfl, rfl, h0, r0⟩ := trodAll_cons hA2
  obtain ⟨rfl, rfl, rfl⟩ := trodAll_nil r0
  obtain ⟨rfl, rfl⟩ := trodVars_none hV
  refine hcall.mono fun e W' ⟨he, bel⟩ => ?_
  subst he
  exact ⟨_, rfl, _, _, _, [], _, [], hW', trodAll_mk1 (shut_bool Try.underlying4 _), back_args laidOut bel (by kernel_rfl) hA, rfl, bel.frame _, fun h => by cases h⟩
theorem over : Rows.formationDistinctRow.holds Try.pinned (OpenSpec.ofChange Rows.formationDistinctSpec) :=
  OpenClaim.holds_of_wide 7 Try.f7 rfl rfl rfl rfl rfl rfl rfl ⟨rfl, rfl, rfl, rfl, rfl⟩ rfl rfl rfl rfl rfl (by kernel_rfl) Try.func7 (by kernel_rfl)
    (of_decide_eq_true (by kernel_rfl)) (by unfold Func.isWrapper; first | (rw [if_pos (by decide +kernel)]; kernel_rfl) | (rw [if_neg (by decide +kernel)]; exact ⟨rfl, rfl⟩))
    (fun os started H enc _ => lifted os started H enc)
theorem proved : Rows.FormationDistinctSaid := over
end Go.Proofs.Ytjgaaicflenbbaa.formationDistinct
namespace Go.Proofs.Ytjgaaicflenbbaa
/-- The row, under a short name, for the claim. -/
theorem formationDistinct_holds : Rows.FormationDistinctSaid := formationDistinct.proved
end Go.Proofs.Ytjgaaicflenbbaa

