/- The law GridClips: it answers true, and leaves its arguments as they were. The walk and the plain law lie in the texts before. -/
import Derived.Test.YtkmclpgkcdpgbaaRows
import Derived.Test.YtkmclpgkcdpgbaaAI22
import Derived.Test.YtkmclpgkcdpgbaaQ06N
import Derived.WalkKit
import Derived.ProofKit
import Derived.OpenShut
import Derived.ShutString
import Derived.ChangeOld
import Derived.Below
import Derived.SizedLaws
namespace Go.Proofs.Ytkmclpgkcdpgbaa.gridClips
open Go.ChangeShapes Go.WideShapes Go.ChangeAt Go.RowKit Go.Proofs.Ytkmclpgkcdpgbaa.AI
set_option linter.unusedVariables false
theorem law (us : List AVal) (h : ArgsOk Try.prog [5, 5, 39] us) : (C10 10 us []).o = some ⟨true, bo true, [], []⟩ := by
  obtain ⟨a0, us0, hus, ha0, r0⟩ := args_cons h
  subst hus
  have y0 := arg_one (lt := .int .u8) (by kernel_rfl) (by kernel_rfl) ha0
  obtain ⟨x0, rfl, w0⟩ := ty_int y0
  obtain ⟨a1, us1, rfl, ha1, r1⟩ := args_cons r0
  have y1 := arg_one (lt := .int .u8) (by kernel_rfl) (by kernel_rfl) ha1
  obtain ⟨x1, rfl, w1⟩ := ty_int y1
  obtain ⟨a2, us2, rfl, ha2, r2⟩ := args_cons r1
  obtain ⟨l2, rfl, t2⟩ := arg_agg (ts := [.int .i64, .int .i64, .int .i64, .int .i64]) (by kernel_rfl) (by kernel_rfl) ha2
  obtain ⟨v2_0, l2_0, rfl, y2_0, t2_0⟩ := tyL_cons t2
  obtain ⟨x2_0, rfl, w2_0⟩ := ty_int y2_0
  obtain ⟨v2_1, l2_1, rfl, y2_1, t2_1⟩ := tyL_cons t2_0
  obtain ⟨x2_1, rfl, w2_1⟩ := ty_int y2_1
  obtain ⟨v2_2, l2_2, rfl, y2_2, t2_2⟩ := tyL_cons t2_1
  obtain ⟨x2_2, rfl, w2_2⟩ := ty_int y2_2
  obtain ⟨v2_3, l2_3, rfl, y2_3, t2_3⟩ := tyL_cons t2_2
  obtain ⟨x2_3, rfl, w2_3⟩ := ty_int y2_3
  obtain rfl := tyL_nil t2_3
  obtain rfl := args_nil r2
  show (F_skirmishlaw06_GridClips x0 x1 x2_0 x2_1 x2_2 x2_3).map enc10 = _
  rw [pure_GridClips x0 x1 x2_0 x2_1 x2_2 x2_3 w0 w1 w2_0 w2_1 w2_2 w2_3]
  rfl
theorem own : ownKnob Try.prog.godebug = none := by kernel_rfl
theorem laidOut : laidOutB Try.prog = true := by kernel_rfl
set_option maxRecDepth 100000 in
theorem lifted (os : Os) (started : os.Started) (H : Type) (enc : TypeId × Value → H) :
    ReturnsInHanded {} Try.checked os 10 .any (Rows.gridClipsSpec.pre6 enc Try.prog Try.f10 Rows.gridClipsRow.domain false) (Rows.gridClipsSpec.post enc Try.prog Try.f10 false true false false) := by
  refine returnsInHanded_of_change_sized (C := Try.checked) own started (by kernel_rfl) Try.func10
    (ChangeSpec.witness6 (enc := enc) (C := Try.checked) false ⟨#[], #[.int .u8 0, .int .u8 0, .agg #[.int .i64 0, .int .i64 0, .int .i64 0, .int .i64 0]], []⟩ 8 (by kernel_rfl) (by kernel_rfl) (by kernel_rfl) (by kernel_rfl)) ?_
  intro W base args ds gs before hval0 hW hcnd hsz0 _
  have hval : ∀ (j : Nat) t v, Try.f10.params[j]? = some t → args[j]? = some v → Value.okWide Try.prog W .any base t v := hval0
  have hW' := hW
  obtain ⟨p, q, hA0, hV, rfl, hfz, hnd⟩ := hW
  have hA : DataW.TrodAll enc Try.prog W 0 (fun _ => true) true Try.f10.params.toList args.toList ds p := hA0
  rw [Try.params10] at hA hval
  obtain ⟨us, hus, hty⟩ := open_args (by kernel_rfl) (fun j t v ht hv => hval j t v (by simpa using ht) (by simpa using hv)) hA
  have hcall := law_calls lib10 hus (law us hty)
  have hA2 := hA
  obtain ⟨v0, vs0, d0, ds0, p0, q0, hargs, rfl, rfl, h0, r0⟩ := trodAll_cons hA2
  obtain ⟨v1, vs1, d1, ds1, p1, q1, rfl, rfl, rfl, h1, r1⟩ := trodAll_cons r0
  obtain ⟨v2, vs2, d2, ds2, p2, q2, rfl, rfl, rfl, h2, r2⟩ := trodAll_cons r1
  obtain ⟨rfl, rfl, rfl⟩ := trodAll_nil r2
  obtain ⟨rfl, rfl⟩ := trodVars_none hV
  refine hcall.mono fun e W' ⟨he, bel⟩ => ?_
  subst he
  exact ⟨_, rfl, _, _, _, [], _, [], hW', trodAll_mk1 (shut_bool Try.underlying4 _), back_args laidOut bel (by kernel_rfl) hA, rfl, bel.frame _, fun h => by cases h⟩
theorem over : Rows.gridClipsRow.holds Try.pinned (OpenSpec.ofChange Rows.gridClipsSpec) :=
  OpenClaim.holds_of_wide 10 Try.f10 rfl rfl rfl rfl rfl rfl rfl ⟨rfl, rfl, rfl, rfl, rfl⟩ rfl rfl rfl rfl rfl (by kernel_rfl) Try.func10 (by kernel_rfl)
    (of_decide_eq_true (by kernel_rfl)) (by unfold Func.isWrapper; first | (rw [if_pos (by decide +kernel)]; kernel_rfl) | (rw [if_neg (by decide +kernel)]; exact ⟨rfl, rfl⟩))
    (fun os started H enc _ => lifted os started H enc)
theorem proved : Rows.GridClipsSaid := over
end Go.Proofs.Ytkmclpgkcdpgbaa.gridClips
namespace Go.Proofs.Ytkmclpgkcdpgbaa
/-- The row, under a short name, for the claim. -/
theorem gridClips_holds : Rows.GridClipsSaid := gridClips.proved
end Go.Proofs.Ytkmclpgkcdpgbaa

