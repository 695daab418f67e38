/- The law ShadowGrows: it answers true, and leaves its arguments as they were. The walk and the plain law lie in the texts before. -/
import Derived.Test.YtonckcjkgdlmkaaRows
import Derived.Test.YtonckcjkgdlmkaaAI22
import Derived.Test.YtonckcjkgdlmkaaQ12L
import Derived.WalkKit
import Derived.ProofKit
import Derived.OpenShut
import Derived.ShutString
import Derived.ChangeOld
import Derived.Below
import Derived.SizedLaws
namespace Go.Proofs.Ytonckcjkgdlmkaa.shadowGrows
open Go.ChangeShapes Go.WideShapes Go.ChangeAt Go.RowKit Go.Proofs.Ytonckcjkgdlmkaa.AI
set_option linter.unusedVariables false
set_option maxRecDepth 100000 in
theorem law (us : List AVal) (h : ArgsOk Try.prog [24, 26, 5, 5] us) : (C8 8 us []).o = some ⟨true, bo true, [], []⟩ := by
  obtain ⟨a0, us0, hus, ha0, r0⟩ := args_cons h
  subst hus
  obtain ⟨l0, rfl, t0⟩ := arg_agg (ts := [.int .i64, .int .i64, .sl 46 3]) (by kernel_rfl) (by kernel_rfl) ha0
  obtain ⟨v0_0, l0_0, rfl, y0_0, t0_0⟩ := tyL_cons t0
  obtain ⟨x0_0, rfl, w0_0⟩ := ty_int y0_0
  obtain ⟨v0_1, l0_1, rfl, y0_1, t0_1⟩ := tyL_cons t0_0
  obtain ⟨x0_1, rfl, w0_1⟩ := ty_int y0_1
  obtain ⟨v0_2, l0_2, rfl, y0_2, t0_2⟩ := tyL_cons t0_1
  obtain ⟨x0_2, rfl, w0_2⟩ := ty_sl y0_2
  obtain rfl := tyL_nil t0_2
  obtain ⟨a1, us1, rfl, ha1, r1⟩ := args_cons r0
  obtain ⟨l1, rfl, t1⟩ := arg_agg (ts := [.int .i64, .int .i64]) (by kernel_rfl) (by kernel_rfl) ha1
  obtain ⟨v1_0, l1_0, rfl, y1_0, t1_0⟩ := tyL_cons t1
  obtain ⟨x1_0, rfl, w1_0⟩ := ty_int y1_0
  obtain ⟨v1_1, l1_1, rfl, y1_1, t1_1⟩ := tyL_cons t1_0
  obtain ⟨x1_1, rfl, w1_1⟩ := ty_int y1_1
  obtain rfl := tyL_nil t1_1
  obtain ⟨a2, us2, rfl, ha2, r2⟩ := args_cons r1
  have y2 := arg_one (lt := .int .u8) (by kernel_rfl) (by kernel_rfl) ha2
  obtain ⟨x2, rfl, w2⟩ := ty_int y2
  obtain ⟨a3, us3, rfl, ha3, r3⟩ := args_cons r2
  have y3 := arg_one (lt := .int .u8) (by kernel_rfl) (by kernel_rfl) ha3
  obtain ⟨x3, rfl, w3⟩ := ty_int y3
  obtain rfl := args_nil r3
  show (F_skirmishlaw12_ShadowGrows x0_0 x0_1 x0_2 x1_0 x1_1 x2 x3).map enc8 = _
  rw [pure_ShadowGrows x0_0 x0_1 x0_2 x1_0 x1_1 x2 x3 w0_0 w0_1 w0_2 w1_0 w1_1 w2 w3]
  rfl
theorem own : ownKnob Try.prog.godebug = none := by kernel_rfl
theorem laidOut : laidOutB Try.prog = true := by kernel_rfl
set_option maxRecDepth 100000 in
theorem lifted (os : Os) (started : os.Started) (H : Type) (enc : TypeId × Value → H) :
    ReturnsInHanded {} Try.checked os 8 .any (Rows.shadowGrowsSpec.pre6 enc Try.prog Try.f8 Rows.shadowGrowsRow.domain false) (Rows.shadowGrowsSpec.post enc Try.prog Try.f8 false true false false) := by
  refine returnsInHanded_of_change_sized (C := Try.checked) own started (by kernel_rfl) Try.func8
    (ChangeSpec.witness6 (enc := enc) (C := Try.checked) false ⟨#[], #[.agg #[.int .i64 0, .int .i64 0, .slice none 0 0], .agg #[.int .i64 0, .int .i64 0], .int .u8 0, .int .u8 0], []⟩ 8 (by kernel_rfl) (by kernel_rfl) (by kernel_rfl) (by kernel_rfl)) ?_
  intro W base args ds gs before hval0 hW hcnd hsz0 _
  have hval : ∀ (j : Nat) t v, Try.f8.params[j]? = some t → args[j]? = some v → Value.okWide Try.prog W .any base t v := hval0
  have hW' := hW
  obtain ⟨p, q, hA0, hV, rfl, hfz, hnd⟩ := hW
  have hA : DataW.TrodAll enc Try.prog W 0 (fun _ => true) true Try.f8.params.toList args.toList ds p := hA0
  rw [Try.params8] at hA hval hsz0
  obtain ⟨us, hus, hty⟩ := open_args (by kernel_rfl) (fun j t v ht hv => hval j t v (by simpa using ht) (by simpa using hv)) hA (weights_left hsz0)
  have hcall := law_calls lib8 hus (law us hty)
  have hA2 := hA
  obtain ⟨v0, vs0, d0, ds0, p0, q0, hargs, rfl, rfl, h0, r0⟩ := trodAll_cons hA2
  obtain ⟨v1, vs1, d1, ds1, p1, q1, rfl, rfl, rfl, h1, r1⟩ := trodAll_cons r0
  obtain ⟨v2, vs2, d2, ds2, p2, q2, rfl, rfl, rfl, h2, r2⟩ := trodAll_cons r1
  obtain ⟨v3, vs3, d3, ds3, p3, q3, rfl, rfl, rfl, h3, r3⟩ := trodAll_cons r2
  obtain ⟨rfl, rfl, rfl⟩ := trodAll_nil r3
  obtain ⟨rfl, rfl⟩ := trodVars_none hV
  refine hcall.mono fun e W' ⟨he, bel⟩ => ?_
  subst he
  exact ⟨_, rfl, _, _, _, [], _, [], hW', trodAll_mk1 (shut_bool Try.underlying4 _), back_args laidOut bel (by kernel_rfl) hA, rfl, bel.frame _, fun h => by cases h⟩
theorem over : Rows.shadowGrowsRow.holds Try.pinned (OpenSpec.ofChange Rows.shadowGrowsSpec) :=
  OpenClaim.holds_of_wide 8 Try.f8 rfl rfl rfl rfl rfl rfl rfl ⟨rfl, rfl, rfl, rfl, rfl⟩ rfl rfl rfl rfl rfl (by kernel_rfl) Try.func8 (by kernel_rfl)
    (of_decide_eq_true (by kernel_rfl)) (by unfold Func.isWrapper; first | (rw [if_pos (by decide +kernel)]; kernel_rfl) | (rw [if_neg (by decide +kernel)]; exact ⟨rfl, rfl⟩))
    (fun os started H enc _ => lifted os started H enc)
theorem proved : Rows.ShadowGrowsSaid := over
end Go.Proofs.Ytonckcjkgdlmkaa.shadowGrows
namespace Go.Proofs.Ytonckcjkgdlmkaa
/-- The row, under a short name, for the claim. -/
theorem shadowGrows_holds : Rows.ShadowGrowsSaid := shadowGrows.proved
end Go.Proofs.Ytonckcjkgdlmkaa

