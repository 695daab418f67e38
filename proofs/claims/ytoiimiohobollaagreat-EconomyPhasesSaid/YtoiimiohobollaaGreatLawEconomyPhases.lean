/- The law EconomyPhases: it answers true, and leaves its arguments as they were. The walk and the plain law lie in the texts before. -/
import Derived.Test.YtoiimiohobollaaGreatRows
import Derived.Test.YtoiimiohobollaaGreatHA2
import Derived.Test.YtoiimiohobollaaGreatHQ2
import Derived.WalkKit
import Derived.ProofKit
import Derived.OpenShut
import Derived.ShutString
import Derived.ChangeOld
import Derived.Below
import Derived.SizedLaws
namespace Go.Proofs.YtoiimiohobollaaGreat.economyPhases
open Go.ChangeShapes Go.WideShapes Go.ChangeAt Go.RowKit Go.Proofs.YtoiimiohobollaaGreat.AI
set_option linter.unusedVariables false
set_option maxRecDepth 100000 in
theorem law (us : List AVal) (h : ArgsOk Tryz.prog [37] us) : (C5 5 us []).o = some ⟨true, bo true, [], []⟩ := by
  obtain ⟨a0, us0, hus, ha0, r0⟩ := args_cons h
  subst hus
  obtain ⟨l0, rfl, t0⟩ := arg_agg (ts := [.int .i64, .int .i64, .int .i64, .bool, .int .u64, .sl 65 19, .sl 96 6, .sl 98 8, .int .i64, .int .i64, .sl 54 3, .sl 70 6, .sl 60 12, .sl 75 9, .sl 116 3, .sl 125 4]) (by kernel_rfl) (by kernel_rfl) ha0
  obtain ⟨v0_0, l0_0, rfl, y0_0, t0_0⟩ := tyL_cons t0
  obtain ⟨x0_0, rfl, w0_0⟩ := ty_int y0_0
  obtain ⟨v0_1, l0_1, rfl, y0_1, t0_1⟩ := tyL_cons t0_0
  obtain ⟨x0_1, rfl, w0_1⟩ := ty_int y0_1
  obtain ⟨v0_2, l0_2, rfl, y0_2, t0_2⟩ := tyL_cons t0_1
  obtain ⟨x0_2, rfl, w0_2⟩ := ty_int y0_2
  obtain ⟨v0_3, l0_3, rfl, y0_3, t0_3⟩ := tyL_cons t0_2
  obtain ⟨x0_3, rfl⟩ := ty_bool y0_3
  obtain ⟨v0_4, l0_4, rfl, y0_4, t0_4⟩ := tyL_cons t0_3
  obtain ⟨x0_4, rfl, w0_4⟩ := ty_int y0_4
  obtain ⟨v0_5, l0_5, rfl, y0_5, t0_5⟩ := tyL_cons t0_4
  obtain ⟨x0_5, rfl, w0_5⟩ := ty_sl y0_5
  obtain ⟨v0_6, l0_6, rfl, y0_6, t0_6⟩ := tyL_cons t0_5
  obtain ⟨x0_6, rfl, w0_6⟩ := ty_sl y0_6
  obtain ⟨v0_7, l0_7, rfl, y0_7, t0_7⟩ := tyL_cons t0_6
  obtain ⟨x0_7, rfl, w0_7⟩ := ty_sl y0_7
  obtain ⟨v0_8, l0_8, rfl, y0_8, t0_8⟩ := tyL_cons t0_7
  obtain ⟨x0_8, rfl, w0_8⟩ := ty_int y0_8
  obtain ⟨v0_9, l0_9, rfl, y0_9, t0_9⟩ := tyL_cons t0_8
  obtain ⟨x0_9, rfl, w0_9⟩ := ty_int y0_9
  obtain ⟨v0_10, l0_10, rfl, y0_10, t0_10⟩ := tyL_cons t0_9
  obtain ⟨x0_10, rfl, w0_10⟩ := ty_sl y0_10
  obtain ⟨v0_11, l0_11, rfl, y0_11, t0_11⟩ := tyL_cons t0_10
  obtain ⟨x0_11, rfl, w0_11⟩ := ty_sl y0_11
  obtain ⟨v0_12, l0_12, rfl, y0_12, t0_12⟩ := tyL_cons t0_11
  obtain ⟨x0_12, rfl, w0_12⟩ := ty_sl y0_12
  obtain ⟨v0_13, l0_13, rfl, y0_13, t0_13⟩ := tyL_cons t0_12
  obtain ⟨x0_13, rfl, w0_13⟩ := ty_sl y0_13
  obtain ⟨v0_14, l0_14, rfl, y0_14, t0_14⟩ := tyL_cons t0_13
  obtain ⟨x0_14, rfl, w0_14⟩ := ty_sl y0_14
  obtain ⟨v0_15, l0_15, rfl, y0_15, t0_15⟩ := tyL_cons t0_14
  obtain ⟨x0_15, rfl, w0_15⟩ := ty_sl y0_15
  obtain rfl := tyL_nil t0_15
  obtain rfl := args_nil r0
  show (F_l28_EconomyPhases x0_0 x0_1 x0_2 x0_3 x0_4 x0_5 x0_6 x0_7 x0_8 x0_9 x0_10 x0_11 x0_12 x0_13 x0_14 x0_15).map enc20 = _
  rw [pure_EconomyPhases x0_0 x0_1 x0_2 x0_3 x0_4 x0_5 x0_6 x0_7 x0_8 x0_9 x0_10 x0_11 x0_12 x0_13 x0_14 x0_15 w0_0 w0_1 w0_2 w0_4 w0_5 w0_6 w0_7 w0_8 w0_9 w0_10 w0_11 w0_12 w0_13 w0_14 w0_15]
  rfl
theorem own : ownKnob Tryz.prog.godebug = none := by kernel_rfl
theorem laidOut : laidOutB Tryz.prog = true := by kernel_rfl
set_option maxRecDepth 100000 in
theorem lifted (os : Os) (started : os.Started) (H : Type) (enc : TypeId × Value → H) :
    ReturnsInHanded {} Tryz.checked os 5 .any (Rows.economyPhasesSpec.pre6 enc Tryz.prog Tryz.f5 Rows.economyPhasesRow.domain false) (Rows.economyPhasesSpec.post enc Tryz.prog Tryz.f5 false true false false) := by
  refine returnsInHanded_of_change_sized (C := Tryz.checked) own started (by kernel_rfl) Tryz.func5
    (ChangeSpec.witness6 (enc := enc) (C := Tryz.checked) false ⟨#[], #[.agg #[.int .i64 0, .int .i64 0, .int .i64 0, .bool false, .int .u64 0, .slice none 0 0, .slice none 0 0, .slice none 0 0, .int .i64 0, .int .i64 0, .slice none 0 0, .slice none 0 0, .slice none 0 0, .slice none 0 0, .slice none 0 0, .slice none 0 0]], []⟩ 8 (by kernel_rfl) (by kernel_rfl) (by kernel_rfl) (by kernel_rfl)) ?_
  intro W base args ds gs before hval0 hW hcnd hsz0 _
  have hval : ∀ (j : Nat) t v, Tryz.f5.params[j]? = some t → args[j]? = some v → Value.okWide Tryz.prog W .any base t v := hval0
  have hW' := hW
  obtain ⟨p, q, hA0, hV, rfl, hfz, hnd⟩ := hW
  have hA : DataW.TrodAll enc Tryz.prog W 0 (fun _ => true) true Tryz.f5.params.toList args.toList ds p := hA0
  rw [Tryz.params5] at hA hval hsz0
  obtain ⟨us, hus, hty⟩ := open_args (by kernel_rfl) (fun j t v ht hv => hval j t v (by simpa using ht) (by simpa using hv)) hA (weights_left hsz0)
  have hcall := law_calls lib5 hus (law us hty)
  have hA2 := hA
  obtain ⟨v0, vs0, d0, ds0, p0, q0, hargs, rfl, rfl, h0, r0⟩ := trodAll_cons hA2
  obtain ⟨rfl, rfl, rfl⟩ := trodAll_nil r0
  obtain ⟨rfl, rfl⟩ := trodVars_none hV
  refine hcall.mono fun e W' ⟨he, bel⟩ => ?_
  subst he
  exact ⟨_, rfl, _, _, _, [], _, [], hW', trodAll_mk1 (shut_bool Tryz.underlying4 _), back_args laidOut bel (by kernel_rfl) hA, rfl, bel.frame _, fun h => by cases h⟩
theorem over : Rows.economyPhasesRow.holds Tryz.pinned (OpenSpec.ofChange Rows.economyPhasesSpec) :=
  OpenClaim.holds_of_wide 5 Tryz.f5 rfl rfl rfl rfl rfl rfl rfl ⟨rfl, rfl, rfl, rfl, rfl⟩ rfl rfl rfl rfl rfl (by kernel_rfl) Tryz.func5 (by kernel_rfl)
    (of_decide_eq_true (by kernel_rfl)) (by unfold Func.isWrapper; first | (rw [if_pos (by decide +kernel)]; kernel_rfl) | (rw [if_neg (by decide +kernel)]; exact ⟨rfl, rfl⟩))
    (fun os started H enc _ => lifted os started H enc)
theorem proved : Rows.EconomyPhasesSaid := over
end Go.Proofs.YtoiimiohobollaaGreat.economyPhases
namespace Go.Proofs.YtoiimiohobollaaGreat
/-- The row, under a short name, for the claim. -/
theorem economyPhases_holds : Rows.EconomyPhasesSaid := economyPhases.proved
end Go.Proofs.YtoiimiohobollaaGreat
