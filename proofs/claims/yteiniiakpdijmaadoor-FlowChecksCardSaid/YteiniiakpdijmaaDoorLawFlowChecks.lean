/- The law FlowChecks: it answers true, and leaves its arguments as they were. The walk and the plain law lie in the texts before. -/
import Derived.Test.YteiniiakpdijmaaDoorCards
import Derived.Test.YteiniiakpdijmaaDoorTie
import Derived.Deep.DeepHandedRow
import Derived.Lib.LaidTab
import Derived.Test.YteiniiakpdijmaaDoorRows
import Derived.Test.YteiniiakpdijmaaDoorAI22
import Derived.Test.YteiniiakpdijmaaDoorS17
import Derived.Test.YteiniiakpdijmaaDoorDr
import Derived.WalkKit
import Derived.ProofKit
import Derived.OpenShut
import Derived.ShutString
import Derived.ChangeOld
import Derived.Below
import Derived.SizedLaws
namespace Go.Proofs.YteiniiakpdijmaaDoor.flowChecks
open Go.ChangeShapes Go.WideShapes Go.ChangeAt Go.RowKit Go.Proofs.YteiniiakpdijmaaDoor.AI
set_option linter.unusedVariables false
set_option maxRecDepth 100000 in
theorem law (us : List AVal) (h : ArgsOk Tryd.prog [35, 24, 25] us) : (C6 6 us []).o = some ⟨true, bo true, [], []⟩ := by
  obtain ⟨a0, us0, hus, ha0, r0⟩ := args_cons h
  subst hus
  obtain ⟨l0, rfl, t0⟩ := arg_agg (ts := [.int .i64, .sl 28 2, .sl 3 1, .sl 3 1]) (by kernel_rfl) (by kernel_rfl) ha0
  obtain ⟨v0_0, l0_0, rfl, y0_0, t0_0⟩ := tyL_cons t0
  obtain ⟨x0_0, rfl, w0_0⟩ := ty_int y0_0
  obtain ⟨v0_1, l0_1, rfl, y0_1, t0_1⟩ := tyL_cons t0_0
  obtain ⟨x0_1, rfl, w0_1⟩ := ty_sl y0_1
  obtain ⟨v0_2, l0_2, rfl, y0_2, t0_2⟩ := tyL_cons t0_1
  obtain ⟨x0_2, rfl, w0_2⟩ := ty_sl y0_2
  obtain ⟨v0_3, l0_3, rfl, y0_3, t0_3⟩ := tyL_cons t0_2
  obtain ⟨x0_3, rfl, w0_3⟩ := ty_sl y0_3
  obtain rfl := tyL_nil t0_3
  obtain ⟨a1, us1, rfl, ha1, r1⟩ := args_cons r0
  obtain ⟨l1, rfl, t1⟩ := arg_agg (ts := [.int .i64, .int .i64, .sl 48 3]) (by kernel_rfl) (by kernel_rfl) ha1
  obtain ⟨v1_0, l1_0, rfl, y1_0, t1_0⟩ := tyL_cons t1
  obtain ⟨x1_0, rfl, w1_0⟩ := ty_int y1_0
  obtain ⟨v1_1, l1_1, rfl, y1_1, t1_1⟩ := tyL_cons t1_0
  obtain ⟨x1_1, rfl, w1_1⟩ := ty_int y1_1
  obtain ⟨v1_2, l1_2, rfl, y1_2, t1_2⟩ := tyL_cons t1_1
  obtain ⟨x1_2, rfl, w1_2⟩ := ty_sl y1_2
  obtain rfl := tyL_nil t1_2
  obtain ⟨a2, us2, rfl, ha2, r2⟩ := args_cons r1
  have y2 := arg_one (lt := .sl 4 1) (by kernel_rfl) (by kernel_rfl) ha2
  obtain ⟨x2, rfl, w2⟩ := ty_sl y2
  obtain rfl := args_nil r2
  show (F_skirmishlaw17_FlowChecks x0_0 x0_1 x0_2 x0_3 x1_0 x1_1 x1_2 x2).map enc6 = _
  rw [pure_FlowChecks x0_0 x0_1 x0_2 x0_3 x1_0 x1_1 x1_2 x2 w0_0 w0_1 w0_2 w0_3 w1_0 w1_1 w1_2 w2]
  rfl
theorem own : ownKnob Tryd.prog.godebug = none := by kernel_rfl
theorem laidOut : laidOutB Tryd.prog = true := by kernel_rfl
theorem table {W : World} (h : laidMetH Tryd.prog Rows.flowChecksRow.laid W) : ∀ g l, GL0 g = some l → VRel (fun _ => none) (ZW W) W (.rptr l) (.pointer (some ⟨g, 0, none⟩)) :=
  pass_gl (P := Tryd.prog) (t := 94) (u := 93) (e := 4) (by kernel_rfl) (by kernel_rfl) (by kernel_rfl) (by kernel_rfl) (by kernel_rfl) (by kernel_rfl) (by kernel_rfl) (by kernel_rfl) h
theorem contract (H : Type) (enc : TypeId × Value → H) (W : World) (base : Nat) (args : Array Value) (ds gs : List (DataW H)) (before : List MemPlace)
    (hval : ∀ (j : Nat) t v, Tryd.f6.params[j]? = some t → args[j]? = some v → Value.okWide Tryd.prog W .any base t v)
    (hW : DataW.Whole enc Tryd.prog Tryd.f6.params.toList Rows.flowChecksSpec.vars false W args.toList ds gs before) (hsz0 : (DataW.weightsEach Tryd.prog (Tryd.f6.params.toList ++ (OpenSpec.ofChange Rows.flowChecksSpec).bare.plain.varTypes Tryd.prog) (ds ++ gs)).all (· ≤ reachBytes) = true) (hL : laidMetH Tryd.prog Rows.flowChecksRow.laid W) :
    Calls Tryd.prog 6 args W fun e W' => ∃ v, e = .returned v ∧ Rows.flowChecksSpec.post enc Tryd.prog Tryd.f6 false true false false W args v W' := by
  have hW' := hW
  obtain ⟨p, q, hA0, hV, rfl, hfz, hnd⟩ := hW
  have hA : DataW.TrodAll enc Tryd.prog W 0 (fun _ => true) true Tryd.f6.params.toList args.toList ds p := hA0
  rw [Tryd.params6] at hA hval hsz0
  obtain ⟨us, hus, hty⟩ := open_args (by kernel_rfl) (fun j t v ht hv => hval j t v (by simpa using ht) (by simpa using hv)) hA (weights_left hsz0)
  have hcall := law_calls_g lib6 (table hL) hus (law us hty)
  have hA2 := hA
  obtain ⟨v0, vs0, d0, ds0, p0, q0, hargs, rfl, rfl, h0, r0⟩ := trodAll_cons hA2
  obtain ⟨v1, vs1, d1, ds1, p1, q1, rfl, rfl, rfl, h1, r1⟩ := trodAll_cons r0
  obtain ⟨v2, vs2, d2, ds2, p2, q2, rfl, rfl, rfl, h2, r2⟩ := trodAll_cons r1
  obtain ⟨rfl, rfl, rfl⟩ := trodAll_nil r2
  obtain ⟨rfl, rfl⟩ := trodVars_none hV
  refine hcall.mono fun e W' ⟨he, bel⟩ => ?_
  subst he
  exact ⟨_, rfl, _, _, _, [], _, [], hW', trodAll_mk1 (shut_bool Tryd.underlying4 _), back_args laidOut bel (by kernel_rfl) hA, rfl, bel.frame _, fun h => by cases h⟩
/-- A world for the witness: the settled one, the table holding what its initialiser lays. -/
noncomputable def laidWorld (os : Os) : World :=
  { World.holding Tryd.prog os ⟨#[], #[], []⟩ with heap := (World.holding Tryd.prog os ⟨#[], #[], []⟩).heap.modify 0 fun
      | .cells _ t frozen => .cells ((passB.flatten).map Value.bool).toArray t frozen
      | o => o }
theorem laid_met (os : Os) : laidMet Tryd.prog Rows.flowChecksRow.laid ((laidWorld os).forCall (fun _ _ => 0) ⟨#[], #[.agg #[.int .i64 0, .slice none 0 0, .slice none 0 0, .slice none 0 0], .agg #[.int .i64 0, .int .i64 0, .slice none 0 0], .slice none 0 0], []⟩).memory :=
  laidMet_of_run' 8 (by kernel_rfl) (by kernel_rfl)
theorem reads (os : Os) {H : Type} (enc : TypeId × Value → H) : ∃ places, DataW.whole enc Tryd.prog ((laidWorld os).forCall (fun _ _ => 0) ⟨#[], #[.agg #[.int .i64 0, .slice none 0 0, .slice none 0 0, .slice none 0 0], .agg #[.int .i64 0, .int .i64 0, .slice none 0 0], .slice none 0 0], []⟩).memory Tryd.f6.params.toList Rows.flowChecksSpec.vars false (#[.agg #[.int .i64 0, .slice none 0 0, .slice none 0 0, .slice none 0 0], .agg #[.int .i64 0, .int .i64 0, .slice none 0 0], .slice none 0 0] : Array Value).toList 8 = some ([.agg [.lit (.int .i64 0), .nil, .nil, .nil], .agg [.lit (.int .i64 0), .lit (.int .i64 0), .nil], .nil], [], places) :=
  ⟨[], by kernel_rfl⟩
set_option maxRecDepth 100000 in
theorem lifted (os : Os) (started : os.Started) (H : Type) (enc : TypeId × Value → H) (F : Stop.Interp) :
    ReturnsInHanded {} Tryd.checked os 6 .any ((OpenSpec.ofChange Rows.flowChecksSpec).preRow enc Tryd.prog Tryd.f6 Rows.flowChecksRow.domain false Rows.flowChecksRow.laid) (((OpenSpec.ofChange Rows.flowChecksSpec).at F).post enc Tryd.prog Tryd.f6 false true false false) := by
  obtain ⟨places, hx⟩ := reads os enc
  refine returnsInHanded_of_row (C := Tryd.checked) (s := OpenSpec.ofChange Rows.flowChecksSpec) own started (by kernel_rfl) Tryd.func6
    (witness_row_at (enc := enc) (C := Tryd.checked) false (laidWorld os) #[.agg #[.int .i64 0, .slice none 0 0, .slice none 0 0, .slice none 0 0], .agg #[.int .i64 0, .int .i64 0, .slice none 0 0], .slice none 0 0] rfl (by kernel_rfl) (by kernel_rfl) (by kernel_rfl)
      (OpenSpec.preRow_of_cond 8 hx (by kernel_rfl) (fun k hk => by cases hk) (by kernel_rfl) (laid_met os))) ?_
  intro W base args ds gs before hval hW _ _ hsz0 hL _ _
  exact contract H enc W base args ds gs before hval hW hsz0 hL
theorem said : Rows.FlowChecksSaid :=
  OpenClaim.holds_of_cond 6 Tryd.f6 rfl rfl rfl rfl rfl rfl rfl ⟨rfl, rfl, rfl, rfl, rfl⟩ rfl rfl rfl rfl rfl (by kernel_rfl) Tryd.func6 (by kernel_rfl)
    (of_decide_eq_true (by kernel_rfl)) (by unfold Func.isWrapper; first | (rw [if_pos (by decide +kernel)]; kernel_rfl) | (rw [if_neg (by decide +kernel)]; exact ⟨rfl, rfl⟩))
    (fun os started H enc _ F => by rw [OpenClaim.pre_eq_preRow]; exact lifted os started H enc F)
theorem plain (f : FuncId) (fn : Func) (hf : Tryd.pinned.checked.prog.funcNamed "skirmish/skirmishlaw17.FlowChecks" = some f) (hfn : Tryd.pinned.checked.prog.funcs[f]? = some fn) :
    false = Tryd.pinned.checked.prog.looks [] ∧ ∀ (j : Nat) t, fn.params[j]? = some t → Tryd.pinned.checked.prog.wantsStandIn t = false := by
  obtain rfl : f = 6 := Option.some.inj ((show Tryd.prog.funcNamed "skirmish/skirmishlaw17.FlowChecks" = some 6 by kernel_rfl).symm.trans hf) |>.symm
  obtain rfl : fn = Tryd.f6 := (Option.some.inj (Tryd.func6.symm.trans hfn)).symm
  refine ⟨by kernel_rfl, fun j t ht => ?_⟩
  rw [Tryd.params6] at ht
  have hm := Array.mem_of_getElem? ht
  have hall : ([35, 24, 25] : List TypeId).all (fun t => !Tryd.prog.wantsStandIn t) = true := by kernel_rfl
  have := List.all_eq_true.1 hall t (by simpa using hm)
  exact (by simpa using this : Tryd.prog.wantsStandIn t = false)
theorem card : Rows.FlowChecksCardSaid :=
  Claim7.holds_tied_plain_at .later [] _ _ _ _ said (fun _ h => by cases h) (by kernel_rfl) (fun _ h => by cases h) flowChecks_row_tie rfl ⟨rfl, rfl⟩ (by kernel_rfl) rfl plain (by kernel_rfl)
end Go.Proofs.YteiniiakpdijmaaDoor.flowChecks
namespace Go.Proofs.YteiniiakpdijmaaDoor
/-- The card, under a short name, for the claim. -/
theorem flowChecks_holds : Rows.FlowChecksCardSaid := flowChecks.card
end Go.Proofs.YteiniiakpdijmaaDoor

