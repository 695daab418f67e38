/- The law ShadowLowers: it answers true, and leaves its arguments as they were. The walk and the plain law lie in the texts before. -/
import Derived.Test.YtonckcjkgdlmkaaRows
import Derived.Test.YtonckcjkgdlmkaaAI22
import Derived.Test.YtonckcjkgdlmkaaQ12L
import Derived.WalkKit
import Derived.ProofKit
import Derived.OpenShut
import Derived.ShutString
import Derived.ChangeOld
import Derived.Below
import Derived.SizedLaws
namespace Go.Proofs.Ytonckcjkgdlmkaa.shadowLowers
open Go.ChangeShapes Go.WideShapes Go.ChangeAt Go.RowKit Go.Proofs.Ytonckcjkgdlmkaa.AI
set_option linter.unusedVariables false
set_option maxRecDepth 100000 in
theorem law (us : List AVal) (h : ArgsOk Try.prog [24, 26, 26, 26] us) : (C9 9 us []).o = some ⟨true, bo true, [], []⟩ := by
  obtain ⟨a0, us0, hus, ha0, r0⟩ := args_cons h
  subst hus
  obtain ⟨l0, rfl, t0⟩ := arg_agg (ts := [.int .i64, .int .i64, .sl 46 3]) (by kernel_rfl) (by kernel_rfl) ha0
  obtain ⟨v0_0, l0_0, rfl, y0_0, t0_0⟩ := tyL_cons t0
  obtain ⟨x0_0, rfl, w0_0⟩ := ty_int y0_0
  obtain ⟨v0_1, l0_1, rfl, y0_1, t0_1⟩ := tyL_cons t0_0
  obtain ⟨x0_1, rfl, w0_1⟩ := ty_int y0_1
  obtain ⟨v0_2, l0_2, rfl, y0_2, t0_2⟩ := tyL_cons t0_1
  obtain ⟨x0_2, rfl, w0_2⟩ := ty_sl y0_2
  obtain rfl := tyL_nil t0_2
  obtain ⟨a1, us1, rfl, ha1, r1⟩ := args_cons r0
  obtain ⟨l1, rfl, t1⟩ := arg_agg (ts := [.int .i64, .int .i64]) (by kernel_rfl) (by kernel_rfl) ha1
  obtain ⟨v1_0, l1_0, rfl, y1_0, t1_0⟩ := tyL_cons t1
  obtain ⟨x1_0, rfl, w1_0⟩ := ty_int y1_0
  obtain ⟨v1_1, l1_1, rfl, y1_1, t1_1⟩ := tyL_cons t1_0
  obtain ⟨x1_1, rfl, w1_1⟩ := ty_int y1_1
  obtain rfl := tyL_nil t1_1
  obtain ⟨a2, us2, rfl, ha2, r2⟩ := args_cons r1
  obtain ⟨l2, rfl, t2⟩ := arg_agg (ts := [.int .i64, .int .i64]) (by kernel_rfl) (by kernel_rfl) ha2
  obtain ⟨v2_0, l2_0, rfl, y2_0, t2_0⟩ := tyL_cons t2
  obtain ⟨x2_0, rfl, w2_0⟩ := ty_int y2_0
  obtain ⟨v2_1, l2_1, rfl, y2_1, t2_1⟩ := tyL_cons t2_0
  obtain ⟨x2_1, rfl, w2_1⟩ := ty_int y2_1
  obtain rfl := tyL_nil t2_1
  obtain ⟨a3, us3, rfl, ha3, r3⟩ := args_cons r2
  obtain ⟨l3, rfl, t3⟩ := arg_agg (ts := [.int .i64, .int .i64]) (by kernel_rfl) (by kernel_rfl) ha3
  obtain ⟨v3_0, l3_0, rfl, y3_0, t3_0⟩ := tyL_cons t3
  obtain ⟨x3_0, rfl, w3_0⟩ := ty_int y3_0
  obtain ⟨v3_1, l3_1, rfl, y3_1, t3_1⟩ := tyL_cons t3_0
  obtain ⟨x3_1, rfl, w3_1⟩ := ty_int y3_1
  obtain rfl := tyL_nil t3_1
  obtain rfl := args_nil r3
  show (F_skirmishlaw12_ShadowLowers x0_0 x0_1 x0_2 x1_0 x1_1 x2_0 x2_1 x3_0 x3_1).map enc9 = _
  rw [pure_ShadowLowers x0_0 x0_1 x0_2 x1_0 x1_1 x2_0 x2_1 x3_0 x3_1 w0_0 w0_1 w0_2 w1_0 w1_1 w2_0 w2_1 w3_0 w3_1]
  rfl
theorem own : ownKnob Try.prog.godebug = none := by kernel_rfl
theorem laidOut : laidOutB Try.prog = true := by kernel_rfl
set_option maxRecDepth 100000 in
theorem lifted (os : Os) (started : os.Started) (H : Type) (enc : TypeId × Value → H) :
    ReturnsInHanded {} Try.checked os 9 .any (Rows.shadowLowersSpec.pre6 enc Try.prog Try.f9 Rows.shadowLowersRow.domain false) (Rows.shadowLowersSpec.post enc Try.prog Try.f9 false true false false) := by
  refine returnsInHanded_of_change_sized (C := Try.checked) own started (by kernel_rfl) Try.func9
    (ChangeSpec.witness6 (enc := enc) (C := Try.checked) false ⟨#[], #[.agg #[.int .i64 0, .int .i64 0, .slice none 0 0], .agg #[.int .i64 0, .int .i64 0], .agg #[.int .i64 0, .int .i64 0], .agg #[.int .i64 0, .int .i64 0]], []⟩ 8 (by kernel_rfl) (by kernel_rfl) (by kernel_rfl) (by kernel_rfl)) ?_
  intro W base args ds gs before hval0 hW hcnd hsz0 _
  have hval : ∀ (j : Nat) t v, Try.f9.params[j]? = some t → args[j]? = some v → Value.okWide Try.prog W .any base t v := hval0
  have hW' := hW
  obtain ⟨p, q, hA0, hV, rfl, hfz, hnd⟩ := hW
  have hA : DataW.TrodAll enc Try.prog W 0 (fun _ => true) true Try.f9.params.toList args.toList ds p := hA0
  rw [Try.params9] at hA hval hsz0
  obtain ⟨us, hus, hty⟩ := open_args (by kernel_rfl) (fun j t v ht hv => hval j t v (by simpa using ht) (by simpa using hv)) hA (weights_left hsz0)
  have hcall := law_calls lib9 hus (law us hty)
  have hA2 := hA
  obtain ⟨v0, vs0, d0, ds0, p0, q0, hargs, rfl, rfl, h0, r0⟩ := trodAll_cons hA2
  obtain ⟨v1, vs1, d1, ds1, p1, q1, rfl, rfl, rfl, h1, r1⟩ := trodAll_cons r0
  obtain ⟨v2, vs2, d2, ds2, p2, q2, rfl, rfl, rfl, h2, r2⟩ := trodAll_cons r1
  obtain ⟨v3, vs3, d3, ds3, p3, q3, rfl, rfl, rfl, h3, r3⟩ := trodAll_cons r2
  obtain ⟨rfl, rfl, rfl⟩ := trodAll_nil r3
  obtain ⟨rfl, rfl⟩ := trodVars_none hV
  refine hcall.mono fun e W' ⟨he, bel⟩ => ?_
  subst he
  exact ⟨_, rfl, _, _, _, [], _, [], hW', trodAll_mk1 (shut_bool Try.underlying4 _), back_args laidOut bel (by kernel_rfl) hA, rfl, bel.frame _, fun h => by cases h⟩
theorem over : Rows.shadowLowersRow.holds Try.pinned (OpenSpec.ofChange Rows.shadowLowersSpec) :=
  OpenClaim.holds_of_wide 9 Try.f9 rfl rfl rfl rfl rfl rfl rfl ⟨rfl, rfl, rfl, rfl, rfl⟩ rfl rfl rfl rfl rfl (by kernel_rfl) Try.func9 (by kernel_rfl)
    (of_decide_eq_true (by kernel_rfl)) (by unfold Func.isWrapper; first | (rw [if_pos (by decide +kernel)]; kernel_rfl) | (rw [if_neg (by decide +kernel)]; exact ⟨rfl, rfl⟩))
    (fun os started H enc _ => lifted os started H enc)
theorem proved : Rows.ShadowLowersSaid := over
end Go.Proofs.Ytonckcjkgdlmkaa.shadowLowers
namespace Go.Proofs.Ytonckcjkgdlmkaa
/-- The row, under a short name, for the claim. -/
theorem shadowLowers_holds : Rows.ShadowLowersSaid := shadowLowers.proved
end Go.Proofs.Ytonckcjkgdlmkaa

