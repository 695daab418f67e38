/- The law TopTerrain: it answers true, and leaves its arguments as they were. The walk and the plain law lie in the texts before. -/
import Derived.Test.YtmnjdfdiokomhaaDoorCards
import Derived.Test.YtmnjdfdiokomhaaDoorTie
import Derived.Deep.DeepHandedRow
import Derived.Lib.LaidTab
import Derived.Test.YtmnjdfdiokomhaaDoorRows
import Derived.Test.YtmnjdfdiokomhaaDoorAI22
import Derived.Test.YtmnjdfdiokomhaaDoorT
import Derived.Test.YtmnjdfdiokomhaaDoorDr
import Derived.WalkKit
import Derived.ProofKit
import Derived.OpenShut
import Derived.ShutString
import Derived.ChangeOld
import Derived.Below
import Derived.SizedLaws
namespace Go.Proofs.YtmnjdfdiokomhaaDoor.topTerrain
open Go.ChangeShapes Go.WideShapes Go.ChangeAt Go.RowKit Go.Proofs.YtmnjdfdiokomhaaDoor.AI
set_option linter.unusedVariables false
set_option maxRecDepth 100000 in
theorem law (us : List AVal) (h : ArgsOk Tryd.prog [24, 25, 3, 27, 27, 27, 28] us) : (C3 3 us []).o = some ⟨true, bo true, [], []⟩ := by
  obtain ⟨a0, us0, hus, ha0, r0⟩ := args_cons h
  subst hus
  obtain ⟨l0, rfl, t0⟩ := arg_agg (ts := [.int .i64, .int .i64, .sl 35 3]) (by kernel_rfl) (by kernel_rfl) ha0
  obtain ⟨v0_0, l0_0, rfl, y0_0, t0_0⟩ := tyL_cons t0
  obtain ⟨x0_0, rfl, w0_0⟩ := ty_int y0_0
  obtain ⟨v0_1, l0_1, rfl, y0_1, t0_1⟩ := tyL_cons t0_0
  obtain ⟨x0_1, rfl, w0_1⟩ := ty_int y0_1
  obtain ⟨v0_2, l0_2, rfl, y0_2, t0_2⟩ := tyL_cons t0_1
  obtain ⟨x0_2, rfl, w0_2⟩ := ty_sl y0_2
  obtain rfl := tyL_nil t0_2
  obtain ⟨a1, us1, rfl, ha1, r1⟩ := args_cons r0
  have y1 := arg_one (lt := .sl 4 1) (by kernel_rfl) (by kernel_rfl) ha1
  obtain ⟨x1, rfl, w1⟩ := ty_sl y1
  obtain ⟨a2, us2, rfl, ha2, r2⟩ := args_cons r1
  have y2 := arg_one (lt := .int .i64) (by kernel_rfl) (by kernel_rfl) ha2
  obtain ⟨x2, rfl, w2⟩ := ty_int y2
  obtain ⟨a3, us3, rfl, ha3, r3⟩ := args_cons r2
  obtain ⟨l3, rfl, t3⟩ := arg_agg (ts := [.int .i64, .int .i64]) (by kernel_rfl) (by kernel_rfl) ha3
  obtain ⟨v3_0, l3_0, rfl, y3_0, t3_0⟩ := tyL_cons t3
  obtain ⟨x3_0, rfl, w3_0⟩ := ty_int y3_0
  obtain ⟨v3_1, l3_1, rfl, y3_1, t3_1⟩ := tyL_cons t3_0
  obtain ⟨x3_1, rfl, w3_1⟩ := ty_int y3_1
  obtain rfl := tyL_nil t3_1
  obtain ⟨a4, us4, rfl, ha4, r4⟩ := args_cons r3
  obtain ⟨l4, rfl, t4⟩ := arg_agg (ts := [.int .i64, .int .i64]) (by kernel_rfl) (by kernel_rfl) ha4
  obtain ⟨v4_0, l4_0, rfl, y4_0, t4_0⟩ := tyL_cons t4
  obtain ⟨x4_0, rfl, w4_0⟩ := ty_int y4_0
  obtain ⟨v4_1, l4_1, rfl, y4_1, t4_1⟩ := tyL_cons t4_0
  obtain ⟨x4_1, rfl, w4_1⟩ := ty_int y4_1
  obtain rfl := tyL_nil t4_1
  obtain ⟨a5, us5, rfl, ha5, r5⟩ := args_cons r4
  obtain ⟨l5, rfl, t5⟩ := arg_agg (ts := [.int .i64, .int .i64]) (by kernel_rfl) (by kernel_rfl) ha5
  obtain ⟨v5_0, l5_0, rfl, y5_0, t5_0⟩ := tyL_cons t5
  obtain ⟨x5_0, rfl, w5_0⟩ := ty_int y5_0
  obtain ⟨v5_1, l5_1, rfl, y5_1, t5_1⟩ := tyL_cons t5_0
  obtain ⟨x5_1, rfl, w5_1⟩ := ty_int y5_1
  obtain rfl := tyL_nil t5_1
  obtain ⟨a6, us6, rfl, ha6, r6⟩ := args_cons r5
  have y6 := arg_one (lt := .sl 3 1) (by kernel_rfl) (by kernel_rfl) ha6
  obtain ⟨x6, rfl, w6⟩ := ty_sl y6
  obtain rfl := args_nil r6
  show (F_skirmishtop_TopTerrain x0_0 x0_1 x0_2 x1 x2 x3_0 x3_1 x4_0 x4_1 x5_0 x5_1 x6).map enc3 = _
  rw [pure_TopTerrain x0_0 x0_1 x0_2 x1 x2 x3_0 x3_1 x4_0 x4_1 x5_0 x5_1 x6 w0_0 w0_1 w0_2 w1 w2 w3_0 w3_1 w4_0 w4_1 w5_0 w5_1 w6]
  rfl
theorem own : ownKnob Tryd.prog.godebug = none := by kernel_rfl
theorem laidOut : laidOutB Tryd.prog = true := by kernel_rfl
theorem table {W : World} (h : laidMetH Tryd.prog Rows.topTerrainRow.laid W) : ∀ g l, GL0 g = some l → VRel (fun _ => none) (ZW W) W (.rptr l) (.pointer (some ⟨g, 0, none⟩)) :=
  pass_gl (P := Tryd.prog) (t := 69) (u := 68) (e := 4) (by kernel_rfl) (by kernel_rfl) (by kernel_rfl) (by kernel_rfl) (by kernel_rfl) (by kernel_rfl) (by kernel_rfl) (by kernel_rfl) h
theorem contract (H : Type) (enc : TypeId × Value → H) (W : World) (base : Nat) (args : Array Value) (ds gs : List (DataW H)) (before : List MemPlace)
    (hval : ∀ (j : Nat) t v, Tryd.f3.params[j]? = some t → args[j]? = some v → Value.okWide Tryd.prog W .any base t v)
    (hW : DataW.Whole enc Tryd.prog Tryd.f3.params.toList Rows.topTerrainSpec.vars false W args.toList ds gs before) (hsz0 : (DataW.weightsEach Tryd.prog (Tryd.f3.params.toList ++ (OpenSpec.ofChange Rows.topTerrainSpec).bare.plain.varTypes Tryd.prog) (ds ++ gs)).all (· ≤ reachBytes) = true) (hL : laidMetH Tryd.prog Rows.topTerrainRow.laid W) :
    Calls Tryd.prog 3 args W fun e W' => ∃ v, e = .returned v ∧ Rows.topTerrainSpec.post enc Tryd.prog Tryd.f3 false true false false W args v W' := by
  have hW' := hW
  obtain ⟨p, q, hA0, hV, rfl, hfz, hnd⟩ := hW
  have hA : DataW.TrodAll enc Tryd.prog W 0 (fun _ => true) true Tryd.f3.params.toList args.toList ds p := hA0
  rw [Tryd.params3] at hA hval hsz0
  obtain ⟨us, hus, hty⟩ := open_args (by kernel_rfl) (fun j t v ht hv => hval j t v (by simpa using ht) (by simpa using hv)) hA (weights_left hsz0)
  have hcall := law_calls_g lib3 (table hL) hus (law us hty)
  have hA2 := hA
  obtain ⟨v0, vs0, d0, ds0, p0, q0, hargs, rfl, rfl, h0, r0⟩ := trodAll_cons hA2
  obtain ⟨v1, vs1, d1, ds1, p1, q1, rfl, rfl, rfl, h1, r1⟩ := trodAll_cons r0
  obtain ⟨v2, vs2, d2, ds2, p2, q2, rfl, rfl, rfl, h2, r2⟩ := trodAll_cons r1
  obtain ⟨v3, vs3, d3, ds3, p3, q3, rfl, rfl, rfl, h3, r3⟩ := trodAll_cons r2
  obtain ⟨v4, vs4, d4, ds4, p4, q4, rfl, rfl, rfl, h4, r4⟩ := trodAll_cons r3
  obtain ⟨v5, vs5, d5, ds5, p5, q5, rfl, rfl, rfl, h5, r5⟩ := trodAll_cons r4
  obtain ⟨v6, vs6, d6, ds6, p6, q6, rfl, rfl, rfl, h6, r6⟩ := trodAll_cons r5
  obtain ⟨rfl, rfl, rfl⟩ := trodAll_nil r6
  obtain ⟨rfl, rfl⟩ := trodVars_none hV
  refine hcall.mono fun e W' ⟨he, bel⟩ => ?_
  subst he
  exact ⟨_, rfl, _, _, _, [], _, [], hW', trodAll_mk1 (shut_bool Tryd.underlying4 _), back_args laidOut bel (by kernel_rfl) hA, rfl, bel.frame _, fun h => by cases h⟩
/-- A world for the witness: the settled one, the table holding what its initialiser lays. -/
noncomputable def laidWorld (os : Os) : World :=
  { World.holding Tryd.prog os ⟨#[], #[], []⟩ with heap := (World.holding Tryd.prog os ⟨#[], #[], []⟩).heap.modify 0 fun
      | .cells _ t frozen => .cells ((passB.flatten).map Value.bool).toArray t frozen
      | o => o }
theorem laid_met (os : Os) : laidMet Tryd.prog Rows.topTerrainRow.laid ((laidWorld os).forCall (fun _ _ => 0) ⟨#[], #[.agg #[.int .i64 0, .int .i64 0, .slice none 0 0], .slice none 0 0, .int .i64 0, .agg #[.int .i64 0, .int .i64 0], .agg #[.int .i64 0, .int .i64 0], .agg #[.int .i64 0, .int .i64 0], .slice none 0 0], []⟩).memory :=
  laidMet_of_run' 8 (by kernel_rfl) (by kernel_rfl)
theorem reads (os : Os) {H : Type} (enc : TypeId × Value → H) : ∃ places, DataW.whole enc Tryd.prog ((laidWorld os).forCall (fun _ _ => 0) ⟨#[], #[.agg #[.int .i64 0, .int .i64 0, .slice none 0 0], .slice none 0 0, .int .i64 0, .agg #[.int .i64 0, .int .i64 0], .agg #[.int .i64 0, .int .i64 0], .agg #[.int .i64 0, .int .i64 0], .slice none 0 0], []⟩).memory Tryd.f3.params.toList Rows.topTerrainSpec.vars false (#[.agg #[.int .i64 0, .int .i64 0, .slice none 0 0], .slice none 0 0, .int .i64 0, .agg #[.int .i64 0, .int .i64 0], .agg #[.int .i64 0, .int .i64 0], .agg #[.int .i64 0, .int .i64 0], .slice none 0 0] : Array Value).toList 8 = some ([.agg [.lit (.int .i64 0), .lit (.int .i64 0), .nil], .nil, .lit (.int .i64 0), .agg [.lit (.int .i64 0), .lit (.int .i64 0)], .agg [.lit (.int .i64 0), .lit (.int .i64 0)], .agg [.lit (.int .i64 0), .lit (.int .i64 0)], .nil], [], places) :=
  ⟨[], by kernel_rfl⟩
set_option maxRecDepth 100000 in
theorem lifted (os : Os) (started : os.Started) (H : Type) (enc : TypeId × Value → H) (F : Stop.Interp) :
    ReturnsInHanded {} Tryd.checked os 3 .any ((OpenSpec.ofChange Rows.topTerrainSpec).preRow enc Tryd.prog Tryd.f3 Rows.topTerrainRow.domain false Rows.topTerrainRow.laid) (((OpenSpec.ofChange Rows.topTerrainSpec).at F).post enc Tryd.prog Tryd.f3 false true false false) := by
  obtain ⟨places, hx⟩ := reads os enc
  refine returnsInHanded_of_row (C := Tryd.checked) (s := OpenSpec.ofChange Rows.topTerrainSpec) own started (by kernel_rfl) Tryd.func3
    (witness_row_at (enc := enc) (C := Tryd.checked) false (laidWorld os) #[.agg #[.int .i64 0, .int .i64 0, .slice none 0 0], .slice none 0 0, .int .i64 0, .agg #[.int .i64 0, .int .i64 0], .agg #[.int .i64 0, .int .i64 0], .agg #[.int .i64 0, .int .i64 0], .slice none 0 0] rfl (by kernel_rfl) (by kernel_rfl) (by kernel_rfl)
      (OpenSpec.preRow_of_cond 8 hx (by kernel_rfl) (fun k hk => by cases hk) (by kernel_rfl) (laid_met os))) ?_
  intro W base args ds gs before hval hW _ _ hsz0 hL _ _
  exact contract H enc W base args ds gs before hval hW hsz0 hL
theorem said : Rows.TopTerrainSaid :=
  OpenClaim.holds_of_cond 3 Tryd.f3 rfl rfl rfl rfl rfl rfl rfl ⟨rfl, rfl, rfl, rfl, rfl⟩ rfl rfl rfl rfl rfl (by kernel_rfl) Tryd.func3 (by kernel_rfl)
    (of_decide_eq_true (by kernel_rfl)) (by unfold Func.isWrapper; first | (rw [if_pos (by decide +kernel)]; kernel_rfl) | (rw [if_neg (by decide +kernel)]; exact ⟨rfl, rfl⟩))
    (fun os started H enc _ F => by rw [OpenClaim.pre_eq_preRow]; exact lifted os started H enc F)
theorem plain (f : FuncId) (fn : Func) (hf : Tryd.pinned.checked.prog.funcNamed "skirmish/skirmishtop.TopTerrain" = some f) (hfn : Tryd.pinned.checked.prog.funcs[f]? = some fn) :
    false = Tryd.pinned.checked.prog.looks [] ∧ ∀ (j : Nat) t, fn.params[j]? = some t → Tryd.pinned.checked.prog.wantsStandIn t = false := by
  obtain rfl : f = 3 := Option.some.inj ((show Tryd.prog.funcNamed "skirmish/skirmishtop.TopTerrain" = some 3 by kernel_rfl).symm.trans hf) |>.symm
  obtain rfl : fn = Tryd.f3 := (Option.some.inj (Tryd.func3.symm.trans hfn)).symm
  refine ⟨by kernel_rfl, fun j t ht => ?_⟩
  rw [Tryd.params3] at ht
  have hm := Array.mem_of_getElem? ht
  have hall : ([24, 25, 3, 27, 27, 27, 28] : List TypeId).all (fun t => !Tryd.prog.wantsStandIn t) = true := by kernel_rfl
  have := List.all_eq_true.1 hall t (by simpa using hm)
  exact (by simpa using this : Tryd.prog.wantsStandIn t = false)
theorem card : Rows.TopTerrainCardSaid :=
  Claim7.holds_tied_plain_at .later [] _ _ _ _ said (fun _ h => by cases h) (by kernel_rfl) (fun _ h => by cases h) topTerrain_row_tie rfl ⟨rfl, rfl⟩ (by kernel_rfl) rfl plain (by kernel_rfl)
end Go.Proofs.YtmnjdfdiokomhaaDoor.topTerrain
namespace Go.Proofs.YtmnjdfdiokomhaaDoor
/-- The card, under a short name, for the claim. -/
theorem topTerrain_holds : Rows.TopTerrainCardSaid := topTerrain.card
end Go.Proofs.YtmnjdfdiokomhaaDoor

