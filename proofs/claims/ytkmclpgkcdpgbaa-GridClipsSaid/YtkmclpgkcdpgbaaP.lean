/- What functions answer: printed by wip/tool2/Ev.lean out of the interpreter's run; each print is checked by Lean. -/
import Derived.Test.YtkmclpgkcdpgbaaTab
namespace Go.Proofs.Ytkmclpgkcdpgbaa.AI
open Go.RowKit
set_option linter.unusedVariables false
set_option maxRecDepth 100000
/-! ### 37: skirmish/grid.displacements -/



/-- 'skirmish/grid.displacements' -/
noncomputable def F_grid_displacements : Option (Int × Int × Int × Int × Int × Int × Int × Int × Int × Int × Int × Int × Int × Int × Int × Int) :=
  some ((1 : Int), (0 : Int), (1 : Int), (1 : Int), (0 : Int), (1 : Int), (-(1 : Int)), (1 : Int), (-(1 : Int)), (0 : Int), (-(1 : Int)), (-(1 : Int)), (0 : Int), (-(1 : Int)), (1 : Int), (-(1 : Int)))
noncomputable def enc37 (t : Int × Int × Int × Int × Int × Int × Int × Int × Int × Int × Int × Int × Int × Int × Int × Int) : CR := ⟨true, (.agg [(.sc (.int .i64 t.1)), (.sc (.int .i64 t.2.1)), (.sc (.int .i64 t.2.2.1)), (.sc (.int .i64 t.2.2.2.1)), (.sc (.int .i64 t.2.2.2.2.1)), (.sc (.int .i64 t.2.2.2.2.2.1)), (.sc (.int .i64 t.2.2.2.2.2.2.1)), (.sc (.int .i64 t.2.2.2.2.2.2.2.1)), (.sc (.int .i64 t.2.2.2.2.2.2.2.2.1)), (.sc (.int .i64 t.2.2.2.2.2.2.2.2.2.1)), (.sc (.int .i64 t.2.2.2.2.2.2.2.2.2.2.1)), (.sc (.int .i64 t.2.2.2.2.2.2.2.2.2.2.2.1)), (.sc (.int .i64 t.2.2.2.2.2.2.2.2.2.2.2.2.1)), (.sc (.int .i64 t.2.2.2.2.2.2.2.2.2.2.2.2.2.1)), (.sc (.int .i64 t.2.2.2.2.2.2.2.2.2.2.2.2.2.2.1)), (.sc (.int .i64 t.2.2.2.2.2.2.2.2.2.2.2.2.2.2.2))]), [], []⟩
noncomputable def ks37 : List SK := []
noncomputable def S37 (us : List AVal) : Call := bif chkA ks37 us then Call.of (F_grid_displacements) enc37 else Call.none
noncomputable def C37 := AI.ext 37 S37 Cnone

theorem run37 : fcall TT TU noG Cnone ownF true noL Try.f37 [] = (F_grid_displacements).bind fun t => some (enc37 t) :=
  Eq.trans (b := (some (CR.mk true (AVal.agg [(i64 (1 : Int)), (i64 (0 : Int)), (i64 (1 : Int)), (i64 (1 : Int)), (i64 (0 : Int)), (i64 (1 : Int)), (i64 (-(1 : Int))), (i64 (1 : Int)), (i64 (-(1 : Int))), (i64 (0 : Int)), (i64 (-(1 : Int))), (i64 (-(1 : Int))), (i64 (0 : Int)), (i64 (-(1 : Int))), (i64 (1 : Int)), (i64 (-(1 : Int)))]) [] []))) (by kernel_rfl)
    rfl
theorem lib37 : Lib Try.prog noG C37 :=
  Lib.fn libnone mixed TT_ok Try.func37 (by decide +kernel) (by kernel_rfl) true noL (loops_of 0 (by kernel_rfl) below0) ks37 (F := fun us => F_grid_displacements) (fun us => rfl) (fun us => run37) (fun t => rfl)

/-! ### 49: skirmish/num.Clamp -/



/-- 'skirmish/num.Clamp' -/
noncomputable def F_num_Clamp (n : Int) (lo : Int) (hi : Int) : Option (Int) :=
  some (maxI lo (minI n hi))
noncomputable def enc49 (t : Int) : CR := ⟨true, (.sc (.int .i64 t)), [], []⟩
noncomputable def ks49 : List SK := [.f (.int .i64), .f (.int .i64), .f (.int .i64)]
noncomputable def S49 (us : List AVal) : Call := bif chkA ks49 us then Call.of (F_num_Clamp (toI (cIa us 0)) (toI (cIa us 1)) (toI (cIa us 2))) enc49 else Call.none
noncomputable def C49 := AI.ext 49 S49 C37

theorem run49 (n : Int) (lo : Int) (hi : Int) : fcall TT TU noG C37 ownF true noL Try.f49 [(.sc (.int .i64 n)), (.sc (.int .i64 lo)), (.sc (.int .i64 hi))] = (F_num_Clamp n lo hi).bind fun t => some (enc49 t) :=
  Eq.trans (b := (some (CR.mk true (i64 (maxI lo (minI n hi))) [] []))) (by kernel_rfl)
    rfl
theorem lib49 : Lib Try.prog noG C49 :=
  Lib.fn lib37 mixed TT_ok Try.func49 (by decide +kernel) (by kernel_rfl) true noL (loops_of 0 (by kernel_rfl) below0) ks49 (F := fun us => F_num_Clamp (toI (cIa us 0)) (toI (cIa us 1)) (toI (cIa us 2))) (fun us => rfl) (fun us => run49 (toI (cIa us 0)) (toI (cIa us 1)) (toI (cIa us 2))) (fun t => rfl)

/-! ### 43: skirmish/grid.near -/



/-- 'skirmish/grid.near' -/
noncomputable def F_grid_near (n : Int) : Option (Int) :=
  Option.bind (F_num_Clamp n (-(1048576 : Int)) (1048576 : Int)) fun t =>
  some t
noncomputable def enc43 (t : Int) : CR := ⟨true, (.sc (.int .i64 t)), [], []⟩
noncomputable def ks43 : List SK := [.f (.int .i64)]
noncomputable def S43 (us : List AVal) : Call := bif chkA ks43 us then Call.of (F_grid_near (toI (cIa us 0))) enc43 else Call.none
noncomputable def C43 := AI.ext 43 S43 C49

theorem run43 (n : Int) : fcall TT TU noG C49 ownF true noL Try.f43 [(.sc (.int .i64 n))] = (F_grid_near n).bind fun t => some (enc43 t) :=
  Eq.trans (b := (Option.bind (F_num_Clamp n (-(1048576 : Int)) (1048576 : Int)) fun t => (some (CR.mk true (i64 t) [] [])))) (by kernel_rfl)
    (n_bind fun t => rfl)
theorem lib43 : Lib Try.prog noG C43 :=
  Lib.fn lib49 mixed TT_ok Try.func43 (by decide +kernel) (by kernel_rfl) true noL (loops_of 0 (by kernel_rfl) below0) ks43 (F := fun us => F_grid_near (toI (cIa us 0))) (fun us => rfl) (fun us => run43 (toI (cIa us 0))) (fun t => rfl)

/-! ### 38: skirmish/grid.pos -/



/-- 'skirmish/grid.pos' -/
noncomputable def F_grid_pos (p_X : Int) (p_Y : Int) : Option (Int × Int) :=
  Option.bind (F_grid_near p_X) fun t =>
  Option.bind (F_grid_near p_Y) fun t1 =>
  some (t, t1)
noncomputable def enc38 (t : Int × Int) : CR := ⟨true, (.agg [(.sc (.int .i64 t.1)), (.sc (.int .i64 t.2))]), [], []⟩
noncomputable def ks38 : List SK := [.agg [.int .i64, .int .i64]]
noncomputable def S38 (us : List AVal) : Call := bif chkA ks38 us then Call.of (F_grid_pos (toI (cIa (aggL (cIa us 0)) 0)) (toI (cIa (aggL (cIa us 0)) 1))) enc38 else Call.none
noncomputable def C38 := AI.ext 38 S38 C43

theorem run38 (p_X : Int) (p_Y : Int) : fcall TT TU noG C43 ownF true noL Try.f38 [(.agg [(.sc (.int .i64 p_X)), (.sc (.int .i64 p_Y))])] = (F_grid_pos p_X p_Y).bind fun t => some (enc38 t) :=
  Eq.trans (b := (Option.bind (F_grid_near p_X) fun t => (Option.bind (F_grid_near p_Y) fun t1 => (some (CR.mk true (AVal.agg [(i64 t), (i64 t1)]) [] []))))) (by kernel_rfl)
    (n_bind fun t => (n_bind fun t1 => rfl))
theorem lib38 : Lib Try.prog noG C38 :=
  Lib.fn lib43 mixed TT_ok Try.func38 (by decide +kernel) (by kernel_rfl) true noL (loops_of 0 (by kernel_rfl) below0) ks38 (F := fun us => F_grid_pos (toI (cIa (aggL (cIa us 0)) 0)) (toI (cIa (aggL (cIa us 0)) 1))) (fun us => rfl) (fun us => run38 (toI (cIa (aggL (cIa us 0)) 0)) (toI (cIa (aggL (cIa us 0)) 1))) (fun t => rfl)

/-! ### 11: skirmish/grid.Step -/



/-- 'skirmish/grid.Step' -/
noncomputable def F_grid_Step (p_X : Int) (p_Y : Int) (dir : Int) : Option (Int × Int) :=
  bif (decide (dir < (0 : Int))) then
    some (p_X, p_Y)
  else
  bif (decide (dir > (7 : Int))) then
    some (p_X, p_Y)
  else
  Option.bind F_grid_displacements fun t =>
  bif ((decide ((0 : Int) ≤ dir)) && (decide (dir < (8 : Int)))) then
    Option.bind ([[(i64 t.1), (i64 t.2.1)], [(i64 t.2.2.1), (i64 t.2.2.2.1)], [(i64 t.2.2.2.2.1), (i64 t.2.2.2.2.2.1)], [(i64 t.2.2.2.2.2.2.1), (i64 t.2.2.2.2.2.2.2.1)], [(i64 t.2.2.2.2.2.2.2.2.1), (i64 t.2.2.2.2.2.2.2.2.2.1)], [(i64 t.2.2.2.2.2.2.2.2.2.2.1), (i64 t.2.2.2.2.2.2.2.2.2.2.2.1)], [(i64 t.2.2.2.2.2.2.2.2.2.2.2.2.1), (i64 t.2.2.2.2.2.2.2.2.2.2.2.2.2.1)], [(i64 t.2.2.2.2.2.2.2.2.2.2.2.2.2.2.1), (i64 t.2.2.2.2.2.2.2.2.2.2.2.2.2.2.2)]][dir.toNat]?) fun r =>
    bif (chk [(LT.int IntKind.i64), (LT.int IntKind.i64)] r) then
      Option.bind (F_grid_pos p_X p_Y) fun t1 =>
      some ((wr (t1.1 + (cI r 0))), (wr (t1.2 + (cI r 1))))
    else
    none
  else
  none
noncomputable def enc11 (t : Int × Int) : CR := ⟨true, (.agg [(.sc (.int .i64 t.1)), (.sc (.int .i64 t.2))]), [], []⟩
noncomputable def ks11 : List SK := [.agg [.int .i64, .int .i64], .f (.int .i64)]
noncomputable def S11 (us : List AVal) : Call := bif chkA ks11 us then Call.of (F_grid_Step (toI (cIa (aggL (cIa us 0)) 0)) (toI (cIa (aggL (cIa us 0)) 1)) (toI (cIa us 1))) enc11 else Call.none
noncomputable def C11 := AI.ext 11 S11 C38

theorem run11 (p_X : Int) (p_Y : Int) (dir : Int) : fcall TT TU noG C38 ownF true noL Try.f11 [(.agg [(.sc (.int .i64 p_X)), (.sc (.int .i64 p_Y))]), (.sc (.int .i64 dir))] = (F_grid_Step p_X p_Y dir).bind fun t => some (enc11 t) :=
  Eq.trans (b := (bif (decide (dir < (0 : Int))) then (some (CR.mk true (AVal.agg [(i64 p_X), (i64 p_Y)]) [] [])) else (bif (decide (dir > (7 : Int))) then (some (CR.mk true (AVal.agg [(i64 p_X), (i64 p_Y)]) [] [])) else (Option.bind F_grid_displacements fun t => (bif (((decide ((0 : Int) ≤ dir)) && (decide (dir < (8 : Int)))) && true) then (Option.bind ([[(i64 t.1), (i64 t.2.1)], [(i64 t.2.2.1), (i64 t.2.2.2.1)], [(i64 t.2.2.2.2.1), (i64 t.2.2.2.2.2.1)], [(i64 t.2.2.2.2.2.2.1), (i64 t.2.2.2.2.2.2.2.1)], [(i64 t.2.2.2.2.2.2.2.2.1), (i64 t.2.2.2.2.2.2.2.2.2.1)], [(i64 t.2.2.2.2.2.2.2.2.2.2.1), (i64 t.2.2.2.2.2.2.2.2.2.2.2.1)], [(i64 t.2.2.2.2.2.2.2.2.2.2.2.2.1), (i64 t.2.2.2.2.2.2.2.2.2.2.2.2.2.1)], [(i64 t.2.2.2.2.2.2.2.2.2.2.2.2.2.2.1), (i64 t.2.2.2.2.2.2.2.2.2.2.2.2.2.2.2)]][dir.toNat]?) fun r => (bif (chk [(LT.int IntKind.i64), (LT.int IntKind.i64)] r) then (Option.bind (F_grid_pos p_X p_Y) fun t1 => (some (CR.mk true (AVal.agg [(i64 (wr (t1.1 + (cI r 0)))), (i64 (wr (t1.2 + (cI r 1))))]) [] []))) else none)) else none))))) (by kernel_rfl)
    (n_condH rfl (fun h0 => rfl) fun h0 => (n_condH rfl (fun h1 => rfl) fun h1 => (n_bind fun t => (n_condH (n_andR rfl rfl) (fun h2 => (n_bind fun r => (n_condH rfl (fun h3 => (n_bind fun t1 => rfl)) fun h3 => n_none))) fun h2 => n_none))))
theorem lib11 : Lib Try.prog noG C11 :=
  Lib.fn lib38 mixed TT_ok Try.func11 (by decide +kernel) (by kernel_rfl) true noL (loops_of 0 (by kernel_rfl) below0) ks11 (F := fun us => F_grid_Step (toI (cIa (aggL (cIa us 0)) 0)) (toI (cIa (aggL (cIa us 0)) 1)) (toI (cIa us 1))) (fun us => rfl) (fun us => run11 (toI (cIa (aggL (cIa us 0)) 0)) (toI (cIa (aggL (cIa us 0)) 1)) (toI (cIa us 1))) (fun t => rfl)

/-! ### 44: skirmish/skirmishref06.near -/



/-- 'skirmish/skirmishref06.near' -/
noncomputable def F_skirmishref06_near (n : Int) : Option (Int) :=
  some (maxI (-(1048576 : Int)) (minI n (1048576 : Int)))
noncomputable def enc44 (t : Int) : CR := ⟨true, (.sc (.int .i64 t)), [], []⟩
noncomputable def ks44 : List SK := [.f (.int .i64)]
noncomputable def S44 (us : List AVal) : Call := bif chkA ks44 us then Call.of (F_skirmishref06_near (toI (cIa us 0))) enc44 else Call.none
noncomputable def C44 := AI.ext 44 S44 C11

theorem run44 (n : Int) : fcall TT TU noG C11 ownF true noL Try.f44 [(.sc (.int .i64 n))] = (F_skirmishref06_near n).bind fun t => some (enc44 t) :=
  Eq.trans (b := (some (CR.mk true (i64 (maxI (-(1048576 : Int)) (minI n (1048576 : Int)))) [] []))) (by kernel_rfl)
    rfl
theorem lib44 : Lib Try.prog noG C44 :=
  Lib.fn lib11 mixed TT_ok Try.func44 (by decide +kernel) (by kernel_rfl) true noL (loops_of 0 (by kernel_rfl) below0) ks44 (F := fun us => F_skirmishref06_near (toI (cIa us 0))) (fun us => rfl) (fun us => run44 (toI (cIa us 0))) (fun t => rfl)

/-! ### 39: skirmish/skirmishref06.pos -/



/-- 'skirmish/skirmishref06.pos' -/
noncomputable def F_skirmishref06_pos (p_X : Int) (p_Y : Int) : Option (Int × Int) :=
  Option.bind (F_skirmishref06_near p_X) fun t =>
  Option.bind (F_skirmishref06_near p_Y) fun t1 =>
  some (t, t1)
noncomputable def enc39 (t : Int × Int) : CR := ⟨true, (.agg [(.sc (.int .i64 t.1)), (.sc (.int .i64 t.2))]), [], []⟩
noncomputable def ks39 : List SK := [.agg [.int .i64, .int .i64]]
noncomputable def S39 (us : List AVal) : Call := bif chkA ks39 us then Call.of (F_skirmishref06_pos (toI (cIa (aggL (cIa us 0)) 0)) (toI (cIa (aggL (cIa us 0)) 1))) enc39 else Call.none
noncomputable def C39 := AI.ext 39 S39 C44

theorem run39 (p_X : Int) (p_Y : Int) : fcall TT TU noG C44 ownF true noL Try.f39 [(.agg [(.sc (.int .i64 p_X)), (.sc (.int .i64 p_Y))])] = (F_skirmishref06_pos p_X p_Y).bind fun t => some (enc39 t) :=
  Eq.trans (b := (Option.bind (F_skirmishref06_near p_X) fun t => (Option.bind (F_skirmishref06_near p_Y) fun t1 => (some (CR.mk true (AVal.agg [(i64 t), (i64 t1)]) [] []))))) (by kernel_rfl)
    (n_bind fun t => (n_bind fun t1 => rfl))
theorem lib39 : Lib Try.prog noG C39 :=
  Lib.fn lib44 mixed TT_ok Try.func39 (by decide +kernel) (by kernel_rfl) true noL (loops_of 0 (by kernel_rfl) below0) ks39 (F := fun us => F_skirmishref06_pos (toI (cIa (aggL (cIa us 0)) 0)) (toI (cIa (aggL (cIa us 0)) 1))) (fun us => rfl) (fun us => run39 (toI (cIa (aggL (cIa us 0)) 0)) (toI (cIa (aggL (cIa us 0)) 1))) (fun t => rfl)

/-! ### 40: skirmish/skirmishref06.Shift -/



/-- 'skirmish/skirmishref06.Shift' -/
noncomputable def F_skirmishref06_Shift (dir : Int) : Option (Int × Int) :=
  bif (dir == (0 : Int)) then
    some ((1 : Int), (0 : Int))
  else
  bif (dir == (1 : Int)) then
    some ((1 : Int), (1 : Int))
  else
  bif (dir == (2 : Int)) then
    some ((0 : Int), (1 : Int))
  else
  bif (dir == (3 : Int)) then
    some ((-(1 : Int)), (1 : Int))
  else
  bif (dir == (4 : Int)) then
    some ((-(1 : Int)), (0 : Int))
  else
  bif (dir == (5 : Int)) then
    some ((-(1 : Int)), (-(1 : Int)))
  else
  bif (dir == (6 : Int)) then
    some ((0 : Int), (-(1 : Int)))
  else
  bif (dir == (7 : Int)) then
    some ((1 : Int), (-(1 : Int)))
  else
  some ((0 : Int), (0 : Int))
noncomputable def enc40 (t : Int × Int) : CR := ⟨true, (.agg [(.sc (.int .i64 t.1)), (.sc (.int .i64 t.2))]), [], []⟩
noncomputable def ks40 : List SK := [.f (.int .i64)]
noncomputable def S40 (us : List AVal) : Call := bif chkA ks40 us then Call.of (F_skirmishref06_Shift (toI (cIa us 0))) enc40 else Call.none
noncomputable def C40 := AI.ext 40 S40 C39

theorem run40 (dir : Int) : fcall TT TU noG C39 ownF true noL Try.f40 [(.sc (.int .i64 dir))] = (F_skirmishref06_Shift dir).bind fun t => some (enc40 t) :=
  Eq.trans (b := (bif (dir == (0 : Int)) then (some (CR.mk true (AVal.agg [(i64 (1 : Int)), (i64 (0 : Int))]) [] [])) else (bif (dir == (1 : Int)) then (some (CR.mk true (AVal.agg [(i64 (1 : Int)), (i64 (1 : Int))]) [] [])) else (bif (dir == (2 : Int)) then (some (CR.mk true (AVal.agg [(i64 (0 : Int)), (i64 (1 : Int))]) [] [])) else (bif (dir == (3 : Int)) then (some (CR.mk true (AVal.agg [(i64 (-(1 : Int))), (i64 (1 : Int))]) [] [])) else (bif (dir == (4 : Int)) then (some (CR.mk true (AVal.agg [(i64 (-(1 : Int))), (i64 (0 : Int))]) [] [])) else (bif (dir == (5 : Int)) then (some (CR.mk true (AVal.agg [(i64 (-(1 : Int))), (i64 (-(1 : Int)))]) [] [])) else (bif (dir == (6 : Int)) then (some (CR.mk true (AVal.agg [(i64 (0 : Int)), (i64 (-(1 : Int)))]) [] [])) else (bif (dir == (7 : Int)) then (some (CR.mk true (AVal.agg [(i64 (1 : Int)), (i64 (-(1 : Int)))]) [] [])) else (some (CR.mk true (AVal.agg [(i64 (0 : Int)), (i64 (0 : Int))]) [] []))))))))))) (by kernel_rfl)
    (n_condH rfl (fun h0 => rfl) fun h0 => (n_condH rfl (fun h1 => rfl) fun h1 => (n_condH rfl (fun h2 => rfl) fun h2 => (n_condH rfl (fun h3 => rfl) fun h3 => (n_condH rfl (fun h4 => rfl) fun h4 => (n_condH rfl (fun h5 => rfl) fun h5 => (n_condH rfl (fun h6 => rfl) fun h6 => (n_condH rfl (fun h7 => rfl) fun h7 => rfl))))))))
theorem lib40 : Lib Try.prog noG C40 :=
  Lib.fn lib39 mixed TT_ok Try.func40 (by decide +kernel) (by kernel_rfl) true noL (loops_of 0 (by kernel_rfl) below0) ks40 (F := fun us => F_skirmishref06_Shift (toI (cIa us 0))) (fun us => rfl) (fun us => run40 (toI (cIa us 0))) (fun t => rfl)

/-! ### 12: skirmish/skirmishref06.Step -/



/-- 'skirmish/skirmishref06.Step' -/
noncomputable def F_skirmishref06_Step (p_X : Int) (p_Y : Int) (dir : Int) : Option (Int × Int) :=
  bif (decide (dir < (0 : Int))) then
    some (p_X, p_Y)
  else
  bif (decide (dir > (7 : Int))) then
    some (p_X, p_Y)
  else
  Option.bind (F_skirmishref06_pos p_X p_Y) fun t =>
  Option.bind (F_skirmishref06_Shift dir) fun t1 =>
  some ((wr (t.1 + t1.1)), (wr (t.2 + t1.2)))
noncomputable def enc12 (t : Int × Int) : CR := ⟨true, (.agg [(.sc (.int .i64 t.1)), (.sc (.int .i64 t.2))]), [], []⟩
noncomputable def ks12 : List SK := [.agg [.int .i64, .int .i64], .f (.int .i64)]
noncomputable def S12 (us : List AVal) : Call := bif chkA ks12 us then Call.of (F_skirmishref06_Step (toI (cIa (aggL (cIa us 0)) 0)) (toI (cIa (aggL (cIa us 0)) 1)) (toI (cIa us 1))) enc12 else Call.none
noncomputable def C12 := AI.ext 12 S12 C40

theorem run12 (p_X : Int) (p_Y : Int) (dir : Int) : fcall TT TU noG C40 ownF true noL Try.f12 [(.agg [(.sc (.int .i64 p_X)), (.sc (.int .i64 p_Y))]), (.sc (.int .i64 dir))] = (F_skirmishref06_Step p_X p_Y dir).bind fun t => some (enc12 t) :=
  Eq.trans (b := (bif (decide (dir < (0 : Int))) then (some (CR.mk true (AVal.agg [(i64 p_X), (i64 p_Y)]) [] [])) else (bif (decide (dir > (7 : Int))) then (some (CR.mk true (AVal.agg [(i64 p_X), (i64 p_Y)]) [] [])) else (Option.bind (F_skirmishref06_pos p_X p_Y) fun t => (Option.bind (F_skirmishref06_Shift dir) fun t1 => (some (CR.mk true (AVal.agg [(i64 (wr (t.1 + t1.1))), (i64 (wr (t.2 + t1.2)))]) [] []))))))) (by kernel_rfl)
    (n_condH rfl (fun h0 => rfl) fun h0 => (n_condH rfl (fun h1 => rfl) fun h1 => (n_bind fun t => (n_bind fun t1 => rfl))))
theorem lib12 : Lib Try.prog noG C12 :=
  Lib.fn lib40 mixed TT_ok Try.func12 (by decide +kernel) (by kernel_rfl) true noL (loops_of 0 (by kernel_rfl) below0) ks12 (F := fun us => F_skirmishref06_Step (toI (cIa (aggL (cIa us 0)) 0)) (toI (cIa (aggL (cIa us 0)) 1)) (toI (cIa us 1))) (fun us => rfl) (fun us => run12 (toI (cIa (aggL (cIa us 0)) 0)) (toI (cIa (aggL (cIa us 0)) 1)) (toI (cIa us 1))) (fun t => rfl)

/-! ### 21: skirmish/grid.Valid -/



/-- 'skirmish/grid.Valid' -/
noncomputable def F_grid_Valid (w : Int) (h : Int) : Option (Bool) :=
  bif (decide (w ≥ (1 : Int))) then
    bif (decide (w ≤ (32 : Int))) then
      bif (decide (h ≥ (1 : Int))) then
        some (decide (h ≤ (32 : Int)))
      else
      some false
    else
    some false
  else
  some false
noncomputable def enc21 (t : Bool) : CR := ⟨true, (.sc (.bool t)), [], []⟩
noncomputable def ks21 : List SK := [.f (.int .i64), .f (.int .i64)]
noncomputable def S21 (us : List AVal) : Call := bif chkA ks21 us then Call.of (F_grid_Valid (toI (cIa us 0)) (toI (cIa us 1))) enc21 else Call.none
noncomputable def C21 := AI.ext 21 S21 C12

theorem run21 (w : Int) (h : Int) : fcall TT TU noG C12 ownF true noL Try.f21 [(.sc (.int .i64 w)), (.sc (.int .i64 h))] = (F_grid_Valid w h).bind fun t => some (enc21 t) :=
  Eq.trans (b := (bif (decide (w ≥ (1 : Int))) then (bif (decide (w ≤ (32 : Int))) then (bif (decide (h ≥ (1 : Int))) then (some (CR.mk true (bo (decide (h ≤ (32 : Int)))) [] [])) else (some (CR.mk true (bo false) [] []))) else (some (CR.mk true (bo false) [] []))) else (some (CR.mk true (bo false) [] [])))) (by kernel_rfl)
    (n_condH rfl (fun h0 => (n_condH rfl (fun h1 => (n_condH rfl (fun h2 => rfl) fun h2 => rfl)) fun h1 => rfl)) fun h0 => rfl)
theorem lib21 : Lib Try.prog noG C21 :=
  Lib.fn lib12 mixed TT_ok Try.func21 (by decide +kernel) (by kernel_rfl) true noL (loops_of 0 (by kernel_rfl) below0) ks21 (F := fun us => F_grid_Valid (toI (cIa us 0)) (toI (cIa us 1))) (fun us => rfl) (fun us => run21 (toI (cIa us 0)) (toI (cIa us 1))) (fun t => rfl)

/-! ### 23: skirmish/grid.In -/



/-- 'skirmish/grid.In' -/
noncomputable def F_grid_In (w : Int) (h : Int) (p_X : Int) (p_Y : Int) : Option (Bool) :=
  bif (decide (p_X ≥ (0 : Int))) then
    bif (decide (p_X < w)) then
      bif (decide (p_Y ≥ (0 : Int))) then
        some (decide (p_Y < h))
      else
      some false
    else
    some false
  else
  some false
noncomputable def enc23 (t : Bool) : CR := ⟨true, (.sc (.bool t)), [], []⟩
noncomputable def ks23 : List SK := [.f (.int .i64), .f (.int .i64), .agg [.int .i64, .int .i64]]
noncomputable def S23 (us : List AVal) : Call := bif chkA ks23 us then Call.of (F_grid_In (toI (cIa us 0)) (toI (cIa us 1)) (toI (cIa (aggL (cIa us 2)) 0)) (toI (cIa (aggL (cIa us 2)) 1))) enc23 else Call.none
noncomputable def C23 := AI.ext 23 S23 C21

theorem run23 (w : Int) (h : Int) (p_X : Int) (p_Y : Int) : fcall TT TU noG C21 ownF true noL Try.f23 [(.sc (.int .i64 w)), (.sc (.int .i64 h)), (.agg [(.sc (.int .i64 p_X)), (.sc (.int .i64 p_Y))])] = (F_grid_In w h p_X p_Y).bind fun t => some (enc23 t) :=
  Eq.trans (b := (bif (decide (p_X ≥ (0 : Int))) then (bif (decide (p_X < w)) then (bif (decide (p_Y ≥ (0 : Int))) then (some (CR.mk true (bo (decide (p_Y < h))) [] [])) else (some (CR.mk true (bo false) [] []))) else (some (CR.mk true (bo false) [] []))) else (some (CR.mk true (bo false) [] [])))) (by kernel_rfl)
    (n_condH rfl (fun h0 => (n_condH rfl (fun h1 => (n_condH rfl (fun h2 => rfl) fun h2 => rfl)) fun h1 => rfl)) fun h0 => rfl)
theorem lib23 : Lib Try.prog noG C23 :=
  Lib.fn lib21 mixed TT_ok Try.func23 (by decide +kernel) (by kernel_rfl) true noL (loops_of 0 (by kernel_rfl) below0) ks23 (F := fun us => F_grid_In (toI (cIa us 0)) (toI (cIa us 1)) (toI (cIa (aggL (cIa us 2)) 0)) (toI (cIa (aggL (cIa us 2)) 1))) (fun us => rfl) (fun us => run23 (toI (cIa us 0)) (toI (cIa us 1)) (toI (cIa (aggL (cIa us 2)) 0)) (toI (cIa (aggL (cIa us 2)) 1))) (fun t => rfl)

/-! ### 14: skirmish/grid.Neighbors -/

noncomputable def W14_0 : Ex → List Bool
  | .ret => [false, false, false, false, false, false, true, false, false, false, false, false, false, false, false, false, false, false, false, false, false, false, false, false, false, false, false, false, false, false]
  | .exit n => bif Nat.beq n 0 then [false, false, false, false, false, false, false, true, false, false, false, false, false, false, false, false, false, false, false, false, false, false, false, false, false, false, false, false, false, false] else []
  | .normal => []
noncomputable def G_grid_Neighbors_0 (w : Int) (h : Int) (b0_0 : Int) (b0_1 : Int) : Nat → List (List AVal) → Int → Option (List (List AVal))
  | 0, _, _ => none
  | m + 1, R2, x14 =>
    bif (decide (x14 < (8 : Int))) then
      Option.bind (F_grid_Step b0_0 b0_1 x14) fun t =>
      Option.bind (F_grid_In w h t.1 t.2) fun t1 =>
      bif t1 then
        bif (roomOk (R2.length + 1) 16) then
          G_grid_Neighbors_0 w h b0_0 b0_1 m (R2 ++ [[(i64 t.1), (i64 t.2)]]) (wr (x14 + (1 : Int)))
        else
        none
      else
      G_grid_Neighbors_0 w h b0_0 b0_1 m R2 (wr (x14 + (1 : Int)))
    else
    some R2
noncomputable def E14_0 (R1 : List (List AVal)) (R2 : List (List AVal)) (w : Int) (h : Int) (x14 : Int) (b0_0 : Int) (b0_1 : Int) : St := ⟨[(.sc (.int .i64 w)), (.sc (.int .i64 h)), .dead, .dead, .dead, (.ref 8000 1 0 0), .dead, (.slc 12800 (R2).length), .dead, .dead, .dead, .dead, .dead, .dead, (.sc (.int .i64 x14)), .dead, .dead, .dead, .dead, .dead, .dead, .dead, .dead, .dead, .dead, .dead, .dead, .dead, .dead, .dead], [(8000, ⟨.box, 23, 2, [[(.sc (.int .i64 b0_0)), (.sc (.int .i64 b0_1))]]⟩), (8008, ⟨.arr, 23, 2, R1⟩), (12800, ⟨.arr, 23, 2, R2⟩)]⟩
noncomputable def X14_0 (R1 : List (List AVal)) (b0_0 : Int) (b0_1 : Int) (k : Ex → St → Option CR) (t : List (List AVal)) : Option CR := k (.exit 0) ⟨[.dead, .dead, .dead, .dead, .dead, .dead, .dead, (.slc 12800 (t).length), .dead, .dead, .dead, .dead, .dead, .dead, .dead, .dead, .dead, .dead, .dead, .dead, .dead, .dead, .dead, .dead, .dead, .dead, .dead, .dead, .dead, .dead], [(8000, ⟨.box, 23, 2, [[(.sc (.int .i64 b0_0)), (.sc (.int .i64 b0_1))]]⟩), (8008, ⟨.arr, 23, 2, R1⟩), (12800, ⟨.arr, 23, 2, t⟩)]⟩
noncomputable def ks14_0 : List SK := [.f (.int .i64), .f (.int .i64), .f .dead, .f .dead, .f .dead, .f (.ref 8000 1 0 0), .f .dead, .f (.slc 12800 2), .f .dead, .f .dead, .f .dead, .f .dead, .f .dead, .f .dead, .f (.int .i64), .f .dead, .f .dead, .f .dead, .f .dead, .f .dead, .f .dead, .f .dead, .f .dead, .f .dead, .f .dead, .f .dead, .f .dead, .f .dead, .f .dead, .f .dead]
noncomputable def hs14_0 : List HK := [⟨8000, .box, 23, 2, some [.int .i64, .int .i64]⟩, ⟨8008, .arr, 23, 2, none⟩, ⟨12800, .arr, 23, 2, none⟩]
noncomputable def L14_0 (s : St) (k : Ex → St → Option CR) : Option CR := bif chkS ks14_0 hs14_0 s then (G_grid_Neighbors_0 (toI (cIa s.tmps 0)) (toI (cIa s.tmps 1)) (toI (cIa (rows0 (blkAt s.heap 0).2) 0)) (toI (cIa (rows0 (blkAt s.heap 0).2) 1)) FU (blkAt s.heap 2).2.rows (toI (cIa s.tmps 14))).bind (X14_0 (blkAt s.heap 1).2.rows (toI (cIa (rows0 (blkAt s.heap 0).2) 0)) (toI (cIa (rows0 (blkAt s.heap 0).2) 1)) k) else none

noncomputable def L14 : LT' := fun i s k => bif Nat.beq i 0 then L14_0 s k else none

/-- 'skirmish/grid.Neighbors' -/
noncomputable def F_grid_Neighbors (w : Int) (h : Int) (p_X : Int) (p_Y : Int) : Option (List (List AVal)) :=
  Option.bind (F_grid_Valid w h) fun t =>
  bif (!t) then
    some []
  else
  Option.bind (G_grid_Neighbors_0 w h p_X p_Y FU [] (0 : Int)) fun t1 =>
  some t1
noncomputable def enc14 (t : List (List AVal)) : CR := ⟨true, (.slc 0 (t).length), [], [⟨.arr, 23, 2, t⟩]⟩
noncomputable def ks14 : List SK := [.f (.int .i64), .f (.int .i64), .agg [.int .i64, .int .i64]]
noncomputable def S14 (us : List AVal) : Call := bif chkA ks14 us then Call.of (F_grid_Neighbors (toI (cIa us 0)) (toI (cIa us 1)) (toI (cIa (aggL (cIa us 2)) 0)) (toI (cIa (aggL (cIa us 2)) 1))) enc14 else Call.none
noncomputable def C14 := AI.ext 14 S14 C23

@[reducible] noncomputable def B14_0 := bodyOf TT TU noG C23 ownF L14 (lp Try.f14 0)
@[reducible] noncomputable def K14_0 (k : Ex → St → Option CR) : Ex → St → Option CR := fun e s => k e (maskS (W14_0 e) s)
theorem spec14_0 (k : Ex → St → Option CR) : ∀ (m : Nat) (R1 : List (List AVal)) (R2 : List (List AVal)) (w : Int) (h : Int) (x14 : Int) (b0_0 : Int) (b0_1 : Int), loopN B14_0 m (E14_0 R1 R2 w h x14 b0_0 b0_1) (K14_0 k) = (G_grid_Neighbors_0 w h b0_0 b0_1 m R2 x14).bind (X14_0 R1 b0_0 b0_1 k)
  | 0, _, _, _, _, _, _, _ => rfl
  | m + 1, R1, R2, w, h, x14, b0_0, b0_1 =>
    Eq.trans (b := (bif (decide (x14 < (8 : Int))) then (Option.bind (F_grid_Step b0_0 b0_1 x14) fun t => (Option.bind (F_grid_In w h t.1 t.2) fun t1 => (bif t1 then (bif (((verEq R2.length R2.length) && true) && (roomOk (R2.length + 1) 16)) then (loopN B14_0 m ⟨[(i64 w), (i64 h), .dead, .dead, .dead, (AVal.ref 8000 1 0 0), .dead, (AVal.slc 12800 (R2 ++ [[(i64 t.1), (i64 t.2)]]).length), .dead, .dead, .dead, .dead, .dead, .dead, (i64 (wr (x14 + (1 : Int)))), .dead, .dead, .dead, .dead, .dead, .dead, .dead, .dead, .dead, .dead, .dead, .dead, .dead, .dead, .dead], [(Prod.mk 8000 (Blk.mk BKind.box 23 2 [[(i64 b0_0), (i64 b0_1)]])), (Prod.mk 8008 (Blk.mk BKind.arr 23 2 R1)), (Prod.mk 12800 (Blk.mk BKind.arr 23 2 (R2 ++ [[(i64 t.1), (i64 t.2)]])))]⟩ (K14_0 k)) else none) else (loopN B14_0 m ⟨[(i64 w), (i64 h), .dead, .dead, .dead, (AVal.ref 8000 1 0 0), .dead, (AVal.slc 12800 R2.length), .dead, .dead, .dead, .dead, .dead, .dead, (i64 (wr (x14 + (1 : Int)))), .dead, .dead, .dead, .dead, .dead, .dead, .dead, .dead, .dead, .dead, .dead, .dead, .dead, .dead, .dead], [(Prod.mk 8000 (Blk.mk BKind.box 23 2 [[(i64 b0_0), (i64 b0_1)]])), (Prod.mk 8008 (Blk.mk BKind.arr 23 2 R1)), (Prod.mk 12800 (Blk.mk BKind.arr 23 2 R2))]⟩ (K14_0 k))))) else (k (.exit 0) ⟨[.dead, .dead, .dead, .dead, .dead, .dead, .dead, (AVal.slc 12800 R2.length), .dead, .dead, .dead, .dead, .dead, .dead, .dead, .dead, .dead, .dead, .dead, .dead, .dead, .dead, .dead, .dead, .dead, .dead, .dead, .dead, .dead, .dead], [(Prod.mk 8000 (Blk.mk BKind.box 23 2 [[(i64 b0_0), (i64 b0_1)]])), (Prod.mk 8008 (Blk.mk BKind.arr 23 2 R1)), (Prod.mk 12800 (Blk.mk BKind.arr 23 2 R2))]⟩))) (by kernel_rfl)
      (n_condH rfl (fun h0 => (n_bind fun t => (n_bind fun t1 => (n_condH rfl (fun h1 => (n_condH (n_andL (n_andL (verEq_rfl _) rfl) rfl) (fun h2 => (spec14_0 k m R1 (R2 ++ [[(i64 t.1), (i64 t.2)]]) w h (wr (x14 + (1 : Int))) b0_0 b0_1)) fun h2 => n_none)) fun h1 => (spec14_0 k m R1 R2 w h (wr (x14 + (1 : Int))) b0_0 b0_1))))) fun h0 => rfl)
theorem okL14_0 : LoopOk TT TU noG C23 ownF L14 (lp Try.f14 0) :=
  loopOk_of ks14_0 hs14_0 W14_0 FU (fun s k => (G_grid_Neighbors_0 (toI (cIa s.tmps 0)) (toI (cIa s.tmps 1)) (toI (cIa (rows0 (blkAt s.heap 0).2) 0)) (toI (cIa (rows0 (blkAt s.heap 0).2) 1)) FU (blkAt s.heap 2).2.rows (toI (cIa s.tmps 14))).bind (X14_0 (blkAt s.heap 1).2.rows (toI (cIa (rows0 (blkAt s.heap 0).2) 0)) (toI (cIa (rows0 (blkAt s.heap 0).2) 1)) k)) (fun s k => by kernel_rfl) (fun s k => spec14_0 k FU (blkAt s.heap 1).2.rows (blkAt s.heap 2).2.rows (toI (cIa s.tmps 0)) (toI (cIa s.tmps 1)) (toI (cIa s.tmps 14)) (toI (cIa (rows0 (blkAt s.heap 0).2) 0)) (toI (cIa (rows0 (blkAt s.heap 0).2) 1)))
theorem run14 (w : Int) (h : Int) (p_X : Int) (p_Y : Int) : fcall TT TU noG C23 ownF true L14 Try.f14 [(.sc (.int .i64 w)), (.sc (.int .i64 h)), (.agg [(.sc (.int .i64 p_X)), (.sc (.int .i64 p_Y))])] = (F_grid_Neighbors w h p_X p_Y).bind fun t => some (enc14 t) :=
  Eq.trans (b := (Option.bind (F_grid_Valid w h) fun t => (bif (!t) then (some (CR.mk true (AVal.slc 0 0) [] [(Blk.mk BKind.arr 23 2 [])])) else (Option.bind (G_grid_Neighbors_0 w h p_X p_Y FU [] (0 : Int)) fun t1 => (bif (verEq t1.length t1.length) then (some (CR.mk true (AVal.slc 0 t1.length) [] [(Blk.mk BKind.arr 23 2 t1)])) else none))))) (by kernel_rfl)
    (n_bind fun t => (n_condH rfl (fun h0 => rfl) fun h0 => (n_bind fun t1 => (n_true (verEq_rfl _) rfl))))
theorem lib14 : Lib Try.prog noG C14 :=
  Lib.fn lib23 mixed TT_ok Try.func14 (by decide +kernel) (by kernel_rfl) true L14 (loops_of 1 (by kernel_rfl) (belowS below0 okL14_0)) ks14 (F := fun us => F_grid_Neighbors (toI (cIa us 0)) (toI (cIa us 1)) (toI (cIa (aggL (cIa us 2)) 0)) (toI (cIa (aggL (cIa us 2)) 1))) (fun us => rfl) (fun us => run14 (toI (cIa us 0)) (toI (cIa us 1)) (toI (cIa (aggL (cIa us 2)) 0)) (toI (cIa (aggL (cIa us 2)) 1))) (fun t => rfl)

/-! ### 22: skirmish/skirmishref06.Valid -/



/-- 'skirmish/skirmishref06.Valid' -/
noncomputable def F_skirmishref06_Valid (w : Int) (h : Int) : Option (Bool) :=
  bif (decide (w ≥ (1 : Int))) then
    bif (decide (w ≤ (32 : Int))) then
      bif (decide (h ≥ (1 : Int))) then
        some (decide (h ≤ (32 : Int)))
      else
      some false
    else
    some false
  else
  some false
noncomputable def enc22 (t : Bool) : CR := ⟨true, (.sc (.bool t)), [], []⟩
noncomputable def ks22 : List SK := [.f (.int .i64), .f (.int .i64)]
noncomputable def S22 (us : List AVal) : Call := bif chkA ks22 us then Call.of (F_skirmishref06_Valid (toI (cIa us 0)) (toI (cIa us 1))) enc22 else Call.none
noncomputable def C22 := AI.ext 22 S22 C14

theorem run22 (w : Int) (h : Int) : fcall TT TU noG C14 ownF true noL Try.f22 [(.sc (.int .i64 w)), (.sc (.int .i64 h))] = (F_skirmishref06_Valid w h).bind fun t => some (enc22 t) :=
  Eq.trans (b := (bif (decide (w ≥ (1 : Int))) then (bif (decide (w ≤ (32 : Int))) then (bif (decide (h ≥ (1 : Int))) then (some (CR.mk true (bo (decide (h ≤ (32 : Int)))) [] [])) else (some (CR.mk true (bo false) [] []))) else (some (CR.mk true (bo false) [] []))) else (some (CR.mk true (bo false) [] [])))) (by kernel_rfl)
    (n_condH rfl (fun h0 => (n_condH rfl (fun h1 => (n_condH rfl (fun h2 => rfl) fun h2 => rfl)) fun h1 => rfl)) fun h0 => rfl)
theorem lib22 : Lib Try.prog noG C22 :=
  Lib.fn lib14 mixed TT_ok Try.func22 (by decide +kernel) (by kernel_rfl) true noL (loops_of 0 (by kernel_rfl) below0) ks22 (F := fun us => F_skirmishref06_Valid (toI (cIa us 0)) (toI (cIa us 1))) (fun us => rfl) (fun us => run22 (toI (cIa us 0)) (toI (cIa us 1))) (fun t => rfl)

/-! ### 24: skirmish/skirmishref06.In -/



/-- 'skirmish/skirmishref06.In' -/
noncomputable def F_skirmishref06_In (w : Int) (h : Int) (p_X : Int) (p_Y : Int) : Option (Bool) :=
  bif (decide (p_X ≥ (0 : Int))) then
    bif (decide (p_X < w)) then
      bif (decide (p_Y ≥ (0 : Int))) then
        some (decide (p_Y < h))
      else
      some false
    else
    some false
  else
  some false
noncomputable def enc24 (t : Bool) : CR := ⟨true, (.sc (.bool t)), [], []⟩
noncomputable def ks24 : List SK := [.f (.int .i64), .f (.int .i64), .agg [.int .i64, .int .i64]]
noncomputable def S24 (us : List AVal) : Call := bif chkA ks24 us then Call.of (F_skirmishref06_In (toI (cIa us 0)) (toI (cIa us 1)) (toI (cIa (aggL (cIa us 2)) 0)) (toI (cIa (aggL (cIa us 2)) 1))) enc24 else Call.none
noncomputable def C24 := AI.ext 24 S24 C22

theorem run24 (w : Int) (h : Int) (p_X : Int) (p_Y : Int) : fcall TT TU noG C22 ownF true noL Try.f24 [(.sc (.int .i64 w)), (.sc (.int .i64 h)), (.agg [(.sc (.int .i64 p_X)), (.sc (.int .i64 p_Y))])] = (F_skirmishref06_In w h p_X p_Y).bind fun t => some (enc24 t) :=
  Eq.trans (b := (bif (decide (p_X ≥ (0 : Int))) then (bif (decide (p_X < w)) then (bif (decide (p_Y ≥ (0 : Int))) then (some (CR.mk true (bo (decide (p_Y < h))) [] [])) else (some (CR.mk true (bo false) [] []))) else (some (CR.mk true (bo false) [] []))) else (some (CR.mk true (bo false) [] [])))) (by kernel_rfl)
    (n_condH rfl (fun h0 => (n_condH rfl (fun h1 => (n_condH rfl (fun h2 => rfl) fun h2 => rfl)) fun h1 => rfl)) fun h0 => rfl)
theorem lib24 : Lib Try.prog noG C24 :=
  Lib.fn lib22 mixed TT_ok Try.func24 (by decide +kernel) (by kernel_rfl) true noL (loops_of 0 (by kernel_rfl) below0) ks24 (F := fun us => F_skirmishref06_In (toI (cIa us 0)) (toI (cIa us 1)) (toI (cIa (aggL (cIa us 2)) 0)) (toI (cIa (aggL (cIa us 2)) 1))) (fun us => rfl) (fun us => run24 (toI (cIa us 0)) (toI (cIa us 1)) (toI (cIa (aggL (cIa us 2)) 0)) (toI (cIa (aggL (cIa us 2)) 1))) (fun t => rfl)

/-! ### 15: skirmish/skirmishref06.Neighbors -/

noncomputable def W15_0 : Ex → List Bool
  | .ret => [false, false, false, false, false, false, true, false, false, false, false, false, false, false, false, false, false, false, false, false, false, false, false, false, false, false, false, false, false, false, false]
  | .exit n => bif Nat.beq n 0 then [false, false, false, false, false, false, false, true, false, false, false, false, false, false, false, false, false, false, false, false, false, false, false, false, false, false, false, false, false, false, false] else []
  | .normal => []
noncomputable def G_skirmishref06_Neighbors_0 (w : Int) (h : Int) (b0_0 : Int) (b0_1 : Int) : Nat → List (List AVal) → Int → Option (List (List AVal))
  | 0, _, _ => none
  | m + 1, R2, d =>
    bif (decide (d < (8 : Int))) then
      Option.bind (F_skirmishref06_Valid w h) fun t =>
      bif t then
        Option.bind (F_skirmishref06_Step b0_0 b0_1 d) fun t1 =>
        Option.bind (F_skirmishref06_In w h t1.1 t1.2) fun t2 =>
        bif t2 then
          bif (roomOk (R2.length + 1) 16) then
            G_skirmishref06_Neighbors_0 w h b0_0 b0_1 m (R2 ++ [[(i64 t1.1), (i64 t1.2)]]) (wr (d + (1 : Int)))
          else
          none
        else
        G_skirmishref06_Neighbors_0 w h b0_0 b0_1 m R2 (wr (d + (1 : Int)))
      else
      some R2
    else
    some R2
noncomputable def E15_0 (R1 : List (List AVal)) (R2 : List (List AVal)) (w : Int) (h : Int) (d : Int) (b0_0 : Int) (b0_1 : Int) : St := ⟨[(.sc (.int .i64 w)), (.sc (.int .i64 h)), .dead, .dead, .dead, (.ref 8000 1 0 0), .dead, (.slc 9600 (R2).length), (.sc (.int .i64 d)), .dead, .dead, .dead, .dead, .dead, .dead, .dead, .dead, .dead, .dead, .dead, .dead, .dead, .dead, .dead, .dead, .dead, .dead, .dead, .dead, .dead, .dead], [(8000, ⟨.box, 23, 2, [[(.sc (.int .i64 b0_0)), (.sc (.int .i64 b0_1))]]⟩), (8008, ⟨.arr, 23, 2, R1⟩), (9600, ⟨.arr, 23, 2, R2⟩)]⟩
noncomputable def X15_0 (R1 : List (List AVal)) (b0_0 : Int) (b0_1 : Int) (k : Ex → St → Option CR) (t : List (List AVal)) : Option CR := k (.exit 0) ⟨[.dead, .dead, .dead, .dead, .dead, .dead, .dead, (.slc 9600 (t).length), .dead, .dead, .dead, .dead, .dead, .dead, .dead, .dead, .dead, .dead, .dead, .dead, .dead, .dead, .dead, .dead, .dead, .dead, .dead, .dead, .dead, .dead, .dead], [(8000, ⟨.box, 23, 2, [[(.sc (.int .i64 b0_0)), (.sc (.int .i64 b0_1))]]⟩), (8008, ⟨.arr, 23, 2, R1⟩), (9600, ⟨.arr, 23, 2, t⟩)]⟩
noncomputable def ks15_0 : List SK := [.f (.int .i64), .f (.int .i64), .f .dead, .f .dead, .f .dead, .f (.ref 8000 1 0 0), .f .dead, .f (.slc 9600 2), .f (.int .i64), .f .dead, .f .dead, .f .dead, .f .dead, .f .dead, .f .dead, .f .dead, .f .dead, .f .dead, .f .dead, .f .dead, .f .dead, .f .dead, .f .dead, .f .dead, .f .dead, .f .dead, .f .dead, .f .dead, .f .dead, .f .dead, .f .dead]
noncomputable def hs15_0 : List HK := [⟨8000, .box, 23, 2, some [.int .i64, .int .i64]⟩, ⟨8008, .arr, 23, 2, none⟩, ⟨9600, .arr, 23, 2, none⟩]
noncomputable def L15_0 (s : St) (k : Ex → St → Option CR) : Option CR := bif chkS ks15_0 hs15_0 s then (G_skirmishref06_Neighbors_0 (toI (cIa s.tmps 0)) (toI (cIa s.tmps 1)) (toI (cIa (rows0 (blkAt s.heap 0).2) 0)) (toI (cIa (rows0 (blkAt s.heap 0).2) 1)) FU (blkAt s.heap 2).2.rows (toI (cIa s.tmps 8))).bind (X15_0 (blkAt s.heap 1).2.rows (toI (cIa (rows0 (blkAt s.heap 0).2) 0)) (toI (cIa (rows0 (blkAt s.heap 0).2) 1)) k) else none

noncomputable def L15 : LT' := fun i s k => bif Nat.beq i 0 then L15_0 s k else none

/-- 'skirmish/skirmishref06.Neighbors' -/
noncomputable def F_skirmishref06_Neighbors (w : Int) (h : Int) (p_X : Int) (p_Y : Int) : Option (List (List AVal)) :=
  Option.bind (G_skirmishref06_Neighbors_0 w h p_X p_Y FU [] (0 : Int)) fun t =>
  some t
noncomputable def enc15 (t : List (List AVal)) : CR := ⟨true, (.slc 0 (t).length), [], [⟨.arr, 23, 2, t⟩]⟩
noncomputable def ks15 : List SK := [.f (.int .i64), .f (.int .i64), .agg [.int .i64, .int .i64]]
noncomputable def S15 (us : List AVal) : Call := bif chkA ks15 us then Call.of (F_skirmishref06_Neighbors (toI (cIa us 0)) (toI (cIa us 1)) (toI (cIa (aggL (cIa us 2)) 0)) (toI (cIa (aggL (cIa us 2)) 1))) enc15 else Call.none
noncomputable def C15 := AI.ext 15 S15 C24

@[reducible] noncomputable def B15_0 := bodyOf TT TU noG C24 ownF L15 (lp Try.f15 0)
@[reducible] noncomputable def K15_0 (k : Ex → St → Option CR) : Ex → St → Option CR := fun e s => k e (maskS (W15_0 e) s)
theorem spec15_0 (k : Ex → St → Option CR) : ∀ (m : Nat) (R1 : List (List AVal)) (R2 : List (List AVal)) (w : Int) (h : Int) (d : Int) (b0_0 : Int) (b0_1 : Int), loopN B15_0 m (E15_0 R1 R2 w h d b0_0 b0_1) (K15_0 k) = (G_skirmishref06_Neighbors_0 w h b0_0 b0_1 m R2 d).bind (X15_0 R1 b0_0 b0_1 k)
  | 0, _, _, _, _, _, _, _ => rfl
  | m + 1, R1, R2, w, h, d, b0_0, b0_1 =>
    Eq.trans (b := (bif (decide (d < (8 : Int))) then (Option.bind (F_skirmishref06_Valid w h) fun t => (bif t then (Option.bind (F_skirmishref06_Step b0_0 b0_1 d) fun t1 => (Option.bind (F_skirmishref06_In w h t1.1 t1.2) fun t2 => (bif t2 then (bif (((verEq R2.length R2.length) && true) && (roomOk (R2.length + 1) 16)) then (loopN B15_0 m ⟨[(i64 w), (i64 h), .dead, .dead, .dead, (AVal.ref 8000 1 0 0), .dead, (AVal.slc 9600 (R2 ++ [[(i64 t1.1), (i64 t1.2)]]).length), (i64 (wr (d + (1 : Int)))), .dead, .dead, .dead, .dead, .dead, .dead, .dead, .dead, .dead, .dead, .dead, .dead, .dead, .dead, .dead, .dead, .dead, .dead, .dead, .dead, .dead, .dead], [(Prod.mk 8000 (Blk.mk BKind.box 23 2 [[(i64 b0_0), (i64 b0_1)]])), (Prod.mk 8008 (Blk.mk BKind.arr 23 2 R1)), (Prod.mk 9600 (Blk.mk BKind.arr 23 2 (R2 ++ [[(i64 t1.1), (i64 t1.2)]])))]⟩ (K15_0 k)) else none) else (loopN B15_0 m ⟨[(i64 w), (i64 h), .dead, .dead, .dead, (AVal.ref 8000 1 0 0), .dead, (AVal.slc 9600 R2.length), (i64 (wr (d + (1 : Int)))), .dead, .dead, .dead, .dead, .dead, .dead, .dead, .dead, .dead, .dead, .dead, .dead, .dead, .dead, .dead, .dead, .dead, .dead, .dead, .dead, .dead, .dead], [(Prod.mk 8000 (Blk.mk BKind.box 23 2 [[(i64 b0_0), (i64 b0_1)]])), (Prod.mk 8008 (Blk.mk BKind.arr 23 2 R1)), (Prod.mk 9600 (Blk.mk BKind.arr 23 2 R2))]⟩ (K15_0 k))))) else (k (.exit 0) ⟨[.dead, .dead, .dead, .dead, .dead, .dead, .dead, (AVal.slc 9600 R2.length), .dead, .dead, .dead, .dead, .dead, .dead, .dead, .dead, .dead, .dead, .dead, .dead, .dead, .dead, .dead, .dead, .dead, .dead, .dead, .dead, .dead, .dead, .dead], [(Prod.mk 8000 (Blk.mk BKind.box 23 2 [[(i64 b0_0), (i64 b0_1)]])), (Prod.mk 8008 (Blk.mk BKind.arr 23 2 R1)), (Prod.mk 9600 (Blk.mk BKind.arr 23 2 R2))]⟩))) else (k (.exit 0) ⟨[.dead, .dead, .dead, .dead, .dead, .dead, .dead, (AVal.slc 9600 R2.length), .dead, .dead, .dead, .dead, .dead, .dead, .dead, .dead, .dead, .dead, .dead, .dead, .dead, .dead, .dead, .dead, .dead, .dead, .dead, .dead, .dead, .dead, .dead], [(Prod.mk 8000 (Blk.mk BKind.box 23 2 [[(i64 b0_0), (i64 b0_1)]])), (Prod.mk 8008 (Blk.mk BKind.arr 23 2 R1)), (Prod.mk 9600 (Blk.mk BKind.arr 23 2 R2))]⟩))) (by kernel_rfl)
      (n_condH rfl (fun h0 => (n_bind fun t => (n_condH rfl (fun h1 => (n_bind fun t1 => (n_bind fun t2 => (n_condH rfl (fun h2 => (n_condH (n_andL (n_andL (verEq_rfl _) rfl) rfl) (fun h3 => (spec15_0 k m R1 (R2 ++ [[(i64 t1.1), (i64 t1.2)]]) w h (wr (d + (1 : Int))) b0_0 b0_1)) fun h3 => n_none)) fun h2 => (spec15_0 k m R1 R2 w h (wr (d + (1 : Int))) b0_0 b0_1))))) fun h1 => rfl))) fun h0 => rfl)
theorem okL15_0 : LoopOk TT TU noG C24 ownF L15 (lp Try.f15 0) :=
  loopOk_of ks15_0 hs15_0 W15_0 FU (fun s k => (G_skirmishref06_Neighbors_0 (toI (cIa s.tmps 0)) (toI (cIa s.tmps 1)) (toI (cIa (rows0 (blkAt s.heap 0).2) 0)) (toI (cIa (rows0 (blkAt s.heap 0).2) 1)) FU (blkAt s.heap 2).2.rows (toI (cIa s.tmps 8))).bind (X15_0 (blkAt s.heap 1).2.rows (toI (cIa (rows0 (blkAt s.heap 0).2) 0)) (toI (cIa (rows0 (blkAt s.heap 0).2) 1)) k)) (fun s k => by kernel_rfl) (fun s k => spec15_0 k FU (blkAt s.heap 1).2.rows (blkAt s.heap 2).2.rows (toI (cIa s.tmps 0)) (toI (cIa s.tmps 1)) (toI (cIa s.tmps 8)) (toI (cIa (rows0 (blkAt s.heap 0).2) 0)) (toI (cIa (rows0 (blkAt s.heap 0).2) 1)))
theorem run15 (w : Int) (h : Int) (p_X : Int) (p_Y : Int) : fcall TT TU noG C24 ownF true L15 Try.f15 [(.sc (.int .i64 w)), (.sc (.int .i64 h)), (.agg [(.sc (.int .i64 p_X)), (.sc (.int .i64 p_Y))])] = (F_skirmishref06_Neighbors w h p_X p_Y).bind fun t => some (enc15 t) :=
  Eq.trans (b := (Option.bind (G_skirmishref06_Neighbors_0 w h p_X p_Y FU [] (0 : Int)) fun t => (bif (verEq t.length t.length) then (some (CR.mk true (AVal.slc 0 t.length) [] [(Blk.mk BKind.arr 23 2 t)])) else none))) (by kernel_rfl)
    (n_bind fun t => (n_true (verEq_rfl _) rfl))
theorem lib15 : Lib Try.prog noG C15 :=
  Lib.fn lib24 mixed TT_ok Try.func15 (by decide +kernel) (by kernel_rfl) true L15 (loops_of 1 (by kernel_rfl) (belowS below0 okL15_0)) ks15 (F := fun us => F_skirmishref06_Neighbors (toI (cIa us 0)) (toI (cIa us 1)) (toI (cIa (aggL (cIa us 2)) 0)) (toI (cIa (aggL (cIa us 2)) 1))) (fun us => rfl) (fun us => run15 (toI (cIa us 0)) (toI (cIa us 1)) (toI (cIa (aggL (cIa us 2)) 0)) (toI (cIa (aggL (cIa us 2)) 1))) (fun t => rfl)

/-! ### 13: skirmish/skirmishref06.Same -/

noncomputable def W13_0 : Ex → List Bool
  | .ret => [false, false, false, false, true, false, false, false, false, false, false, false, false, false, false, false, false, false, false, false, false, false, false, false, false, false]
  | .exit n => bif Nat.beq n 0 then [false, false, false, false, false, false, false, false, false, false, false, false, false, false, false, false, false, false, false, false, false, false, false, false, false, false] else []
  | .normal => []
noncomputable def G_skirmishref06_Same_0 (a : List (List AVal)) (b : List (List AVal)) : Nat → Int → Option (Bool)
  | 0, _ => none
  | m + 1, i =>
    bif (decide (i < (Int.ofNat a.length))) then
      bif (decide ((0 : Int) ≤ i)) then
        Option.bind (a[i.toNat]?) fun r =>
        bif (chk [(LT.int IntKind.i64), (LT.int IntKind.i64)] r) then
          Option.bind (b[i.toNat]?) fun r1 =>
          bif (chk [(LT.int IntKind.i64), (LT.int IntKind.i64)] r1) then
            bif (!(((cI r 0) == (cI r1 0)) && ((cI r 1) == (cI r1 1)))) then
              some true
            else
            G_skirmishref06_Same_0 a b m (wr (i + (1 : Int)))
          else
          none
        else
        none
      else
      none
    else
    some false
noncomputable def E13_0 (a : List (List AVal)) (b : List (List AVal)) (i : Int) : St := ⟨[(.ro 2 a), (.ro 2 b), .dead, .dead, .dead, (.sc (.int .i64 i)), .dead, .dead, .dead, .dead, .dead, .dead, .dead, .dead, .dead, .dead, .dead, .dead, .dead, .dead, .dead, .dead, .dead, .dead, .dead, .dead], []⟩
noncomputable def X13_0 (k : Ex → St → Option CR) (t : Bool) : Option CR := bif t then k .ret ⟨[.dead, .dead, .dead, .dead, (.sc (.bool false)), .dead, .dead, .dead, .dead, .dead, .dead, .dead, .dead, .dead, .dead, .dead, .dead, .dead, .dead, .dead, .dead, .dead, .dead, .dead, .dead, .dead], []⟩ else k (.exit 0) ⟨[.dead, .dead, .dead, .dead, .dead, .dead, .dead, .dead, .dead, .dead, .dead, .dead, .dead, .dead, .dead, .dead, .dead, .dead, .dead, .dead, .dead, .dead, .dead, .dead, .dead, .dead], []⟩
noncomputable def ks13_0 : List SK := [.f (.ro 2), .f (.ro 2), .f .dead, .f .dead, .f .dead, .f (.int .i64), .f .dead, .f .dead, .f .dead, .f .dead, .f .dead, .f .dead, .f .dead, .f .dead, .f .dead, .f .dead, .f .dead, .f .dead, .f .dead, .f .dead, .f .dead, .f .dead, .f .dead, .f .dead, .f .dead, .f .dead]
noncomputable def hs13_0 : List HK := []
noncomputable def L13_0 (s : St) (k : Ex → St → Option CR) : Option CR := bif chkS ks13_0 hs13_0 s then (G_skirmishref06_Same_0 (roRows (cIa s.tmps 0)) (roRows (cIa s.tmps 1)) FU (toI (cIa s.tmps 5))).bind (X13_0 k) else none

noncomputable def L13 : LT' := fun i s k => bif Nat.beq i 0 then L13_0 s k else none

/-- 'skirmish/skirmishref06.Same' -/
noncomputable def F_skirmishref06_Same (a : List (List AVal)) (b : List (List AVal)) : Option (Bool) :=
  bif ((Int.ofNat a.length) != (Int.ofNat b.length)) then
    some false
  else
  Option.bind (G_skirmishref06_Same_0 a b FU (0 : Int)) fun t =>
  bif t then
    some false
  else
  some true
noncomputable def enc13 (t : Bool) : CR := ⟨true, (.sc (.bool t)), [], []⟩
noncomputable def ks13 : List SK := [.f (.ro 2), .f (.ro 2)]
noncomputable def S13 (us : List AVal) : Call := bif chkA ks13 us then Call.of (F_skirmishref06_Same (roRows (cIa us 0)) (roRows (cIa us 1))) enc13 else Call.none
noncomputable def C13 := AI.ext 13 S13 C15

@[reducible] noncomputable def B13_0 := bodyOf TT TU noG C15 ownF L13 (lp Try.f13 0)
@[reducible] noncomputable def K13_0 (k : Ex → St → Option CR) : Ex → St → Option CR := fun e s => k e (maskS (W13_0 e) s)
theorem spec13_0 (k : Ex → St → Option CR) : ∀ (m : Nat) (a : List (List AVal)) (b : List (List AVal)) (i : Int), loopN B13_0 m (E13_0 a b i) (K13_0 k) = (G_skirmishref06_Same_0 a b m i).bind (X13_0 k)
  | 0, _, _, _ => rfl
  | m + 1, a, b, i =>
    Eq.trans (b := (bif (decide (i < (Int.ofNat a.length))) then (bif (decide ((0 : Int) ≤ i)) then (Option.bind (a[i.toNat]?) fun r => (bif (chk [(LT.int IntKind.i64), (LT.int IntKind.i64)] r) then (bif (decide ((0 : Int) ≤ i)) then (Option.bind (b[i.toNat]?) fun r1 => (bif (chk [(LT.int IntKind.i64), (LT.int IntKind.i64)] r1) then (bif (!(((cI r 0) == (cI r1 0)) && ((cI r 1) == (cI r1 1)))) then (k .ret ⟨[.dead, .dead, .dead, .dead, (bo false), .dead, .dead, .dead, .dead, .dead, .dead, .dead, .dead, .dead, .dead, .dead, .dead, .dead, .dead, .dead, .dead, .dead, .dead, .dead, .dead, .dead], []⟩) else (loopN B13_0 m ⟨[(AVal.ro 2 a), (AVal.ro 2 b), .dead, .dead, .dead, (i64 (wr (i + (1 : Int)))), .dead, .dead, .dead, .dead, .dead, .dead, .dead, .dead, .dead, .dead, .dead, .dead, .dead, .dead, .dead, .dead, .dead, .dead, .dead, .dead], []⟩ (K13_0 k))) else none)) else none) else none)) else none) else (k (.exit 0) ⟨[.dead, .dead, .dead, .dead, .dead, .dead, .dead, .dead, .dead, .dead, .dead, .dead, .dead, .dead, .dead, .dead, .dead, .dead, .dead, .dead, .dead, .dead, .dead, .dead, .dead, .dead], []⟩))) (by kernel_rfl)
      (n_condH rfl (fun h0 => (n_condH rfl (fun h1 => (n_bind fun r => (n_condH rfl (fun h2 => (n_true h1 (n_bind fun r1 => (n_condH rfl (fun h3 => (n_condH rfl (fun h4 => rfl) fun h4 => (spec13_0 k m a b (wr (i + (1 : Int)))))) fun h3 => n_none)))) fun h2 => n_none))) fun h1 => n_none)) fun h0 => rfl)
theorem okL13_0 : LoopOk TT TU noG C15 ownF L13 (lp Try.f13 0) :=
  loopOk_of ks13_0 hs13_0 W13_0 FU (fun s k => (G_skirmishref06_Same_0 (roRows (cIa s.tmps 0)) (roRows (cIa s.tmps 1)) FU (toI (cIa s.tmps 5))).bind (X13_0 k)) (fun s k => by kernel_rfl) (fun s k => spec13_0 k FU (roRows (cIa s.tmps 0)) (roRows (cIa s.tmps 1)) (toI (cIa s.tmps 5)))
theorem run13 (a : List (List AVal)) (b : List (List AVal)) : fcall TT TU noG C15 ownF true L13 Try.f13 [(.ro 2 a), (.ro 2 b)] = (F_skirmishref06_Same a b).bind fun t => some (enc13 t) :=
  Eq.trans (b := (bif ((Int.ofNat a.length) != (Int.ofNat b.length)) then (some (CR.mk true (bo false) [] [])) else (Option.bind (G_skirmishref06_Same_0 a b FU (0 : Int)) fun t => (bif t then (some (CR.mk true (bo false) [] [])) else (some (CR.mk true (bo true) [] [])))))) (by kernel_rfl)
    (n_condH rfl (fun h0 => rfl) fun h0 => (n_bind fun t => (n_condH rfl (fun h1 => rfl) fun h1 => rfl)))
theorem lib13 : Lib Try.prog noG C13 :=
  Lib.fn lib15 mixed TT_ok Try.func13 (by decide +kernel) (by kernel_rfl) true L13 (loops_of 1 (by kernel_rfl) (belowS below0 okL13_0)) ks13 (F := fun us => F_skirmishref06_Same (roRows (cIa us 0)) (roRows (cIa us 1))) (fun us => rfl) (fun us => run13 (roRows (cIa us 0)) (roRows (cIa us 1))) (fun t => rfl)

/-! ### 41: skirmish/grid.apart -/



/-- 'skirmish/grid.apart' -/
noncomputable def F_grid_apart (a_X : Int) (a_Y : Int) (b_X : Int) (b_Y : Int) : Option (Int × Int) :=
  Option.bind (F_grid_pos a_X a_Y) fun t =>
  Option.bind (F_grid_pos b_X b_Y) fun t1 =>
  some ((minI (maxI (wr (t.1 - t1.1)) (wr ((0 : Int) - (wr (t.1 - t1.1))))) (maxI (wr (t.2 - t1.2)) (wr ((0 : Int) - (wr (t.2 - t1.2)))))), (maxI (maxI (wr (t.1 - t1.1)) (wr ((0 : Int) - (wr (t.1 - t1.1))))) (maxI (wr (t.2 - t1.2)) (wr ((0 : Int) - (wr (t.2 - t1.2)))))))
noncomputable def enc41 (t : Int × Int) : CR := ⟨true, (.tup [(.sc (.int .i64 t.1)), (.sc (.int .i64 t.2))]), [], []⟩
noncomputable def ks41 : List SK := [.agg [.int .i64, .int .i64], .agg [.int .i64, .int .i64]]
noncomputable def S41 (us : List AVal) : Call := bif chkA ks41 us then Call.of (F_grid_apart (toI (cIa (aggL (cIa us 0)) 0)) (toI (cIa (aggL (cIa us 0)) 1)) (toI (cIa (aggL (cIa us 1)) 0)) (toI (cIa (aggL (cIa us 1)) 1))) enc41 else Call.none
noncomputable def C41 := AI.ext 41 S41 C13

theorem run41 (a_X : Int) (a_Y : Int) (b_X : Int) (b_Y : Int) : fcall TT TU noG C13 ownF true noL Try.f41 [(.agg [(.sc (.int .i64 a_X)), (.sc (.int .i64 a_Y))]), (.agg [(.sc (.int .i64 b_X)), (.sc (.int .i64 b_Y))])] = (F_grid_apart a_X a_Y b_X b_Y).bind fun t => some (enc41 t) :=
  Eq.trans (b := (Option.bind (F_grid_pos a_X a_Y) fun t => (Option.bind (F_grid_pos b_X b_Y) fun t1 => (some (CR.mk true (AVal.tup [(i64 (minI (maxI (wr (t.1 - t1.1)) (wr ((0 : Int) - (wr (t.1 - t1.1))))) (maxI (wr (t.2 - t1.2)) (wr ((0 : Int) - (wr (t.2 - t1.2))))))), (i64 (maxI (maxI (wr (t.1 - t1.1)) (wr ((0 : Int) - (wr (t.1 - t1.1))))) (maxI (wr (t.2 - t1.2)) (wr ((0 : Int) - (wr (t.2 - t1.2)))))))]) [] []))))) (by kernel_rfl)
    (n_bind fun t => (n_bind fun t1 => rfl))
theorem lib41 : Lib Try.prog noG C41 :=
  Lib.fn lib13 mixed TT_ok Try.func41 (by decide +kernel) (by kernel_rfl) true noL (loops_of 0 (by kernel_rfl) below0) ks41 (F := fun us => F_grid_apart (toI (cIa (aggL (cIa us 0)) 0)) (toI (cIa (aggL (cIa us 0)) 1)) (toI (cIa (aggL (cIa us 1)) 0)) (toI (cIa (aggL (cIa us 1)) 1))) (fun us => rfl) (fun us => run41 (toI (cIa (aggL (cIa us 0)) 0)) (toI (cIa (aggL (cIa us 0)) 1)) (toI (cIa (aggL (cIa us 1)) 0)) (toI (cIa (aggL (cIa us 1)) 1))) (fun t => rfl)

/-! ### 17: skirmish/grid.Octile -/



/-- 'skirmish/grid.Octile' -/
noncomputable def F_grid_Octile (a_X : Int) (a_Y : Int) (b_X : Int) (b_Y : Int) : Option (Int) :=
  Option.bind (F_grid_apart a_X a_Y b_X b_Y) fun t =>
  some (wr ((wr ((14 : Int) * t.1)) + (wr ((10 : Int) * (wr (t.2 - t.1))))))
noncomputable def enc17 (t : Int) : CR := ⟨true, (.sc (.int .i64 t)), [], []⟩
noncomputable def ks17 : List SK := [.agg [.int .i64, .int .i64], .agg [.int .i64, .int .i64]]
noncomputable def S17 (us : List AVal) : Call := bif chkA ks17 us then Call.of (F_grid_Octile (toI (cIa (aggL (cIa us 0)) 0)) (toI (cIa (aggL (cIa us 0)) 1)) (toI (cIa (aggL (cIa us 1)) 0)) (toI (cIa (aggL (cIa us 1)) 1))) enc17 else Call.none
noncomputable def C17 := AI.ext 17 S17 C41

theorem run17 (a_X : Int) (a_Y : Int) (b_X : Int) (b_Y : Int) : fcall TT TU noG C41 ownF true noL Try.f17 [(.agg [(.sc (.int .i64 a_X)), (.sc (.int .i64 a_Y))]), (.agg [(.sc (.int .i64 b_X)), (.sc (.int .i64 b_Y))])] = (F_grid_Octile a_X a_Y b_X b_Y).bind fun t => some (enc17 t) :=
  Eq.trans (b := (Option.bind (F_grid_apart a_X a_Y b_X b_Y) fun t => (some (CR.mk true (i64 (wr ((wr ((14 : Int) * t.1)) + (wr ((10 : Int) * (wr (t.2 - t.1))))))) [] [])))) (by kernel_rfl)
    (n_bind fun t => rfl)
theorem lib17 : Lib Try.prog noG C17 :=
  Lib.fn lib41 mixed TT_ok Try.func17 (by decide +kernel) (by kernel_rfl) true noL (loops_of 0 (by kernel_rfl) below0) ks17 (F := fun us => F_grid_Octile (toI (cIa (aggL (cIa us 0)) 0)) (toI (cIa (aggL (cIa us 0)) 1)) (toI (cIa (aggL (cIa us 1)) 0)) (toI (cIa (aggL (cIa us 1)) 1))) (fun us => rfl) (fun us => run17 (toI (cIa (aggL (cIa us 0)) 0)) (toI (cIa (aggL (cIa us 0)) 1)) (toI (cIa (aggL (cIa us 1)) 0)) (toI (cIa (aggL (cIa us 1)) 1))) (fun t => rfl)

/-! ### 19: skirmish/grid.Chebyshev -/



/-- 'skirmish/grid.Chebyshev' -/
noncomputable def F_grid_Chebyshev (a_X : Int) (a_Y : Int) (b_X : Int) (b_Y : Int) : Option (Int) :=
  Option.bind (F_grid_apart a_X a_Y b_X b_Y) fun t =>
  some t.2
noncomputable def enc19 (t : Int) : CR := ⟨true, (.sc (.int .i64 t)), [], []⟩
noncomputable def ks19 : List SK := [.agg [.int .i64, .int .i64], .agg [.int .i64, .int .i64]]
noncomputable def S19 (us : List AVal) : Call := bif chkA ks19 us then Call.of (F_grid_Chebyshev (toI (cIa (aggL (cIa us 0)) 0)) (toI (cIa (aggL (cIa us 0)) 1)) (toI (cIa (aggL (cIa us 1)) 0)) (toI (cIa (aggL (cIa us 1)) 1))) enc19 else Call.none
noncomputable def C19 := AI.ext 19 S19 C17

theorem run19 (a_X : Int) (a_Y : Int) (b_X : Int) (b_Y : Int) : fcall TT TU noG C17 ownF true noL Try.f19 [(.agg [(.sc (.int .i64 a_X)), (.sc (.int .i64 a_Y))]), (.agg [(.sc (.int .i64 b_X)), (.sc (.int .i64 b_Y))])] = (F_grid_Chebyshev a_X a_Y b_X b_Y).bind fun t => some (enc19 t) :=
  Eq.trans (b := (Option.bind (F_grid_apart a_X a_Y b_X b_Y) fun t => (some (CR.mk true (i64 t.2) [] [])))) (by kernel_rfl)
    (n_bind fun t => rfl)
theorem lib19 : Lib Try.prog noG C19 :=
  Lib.fn lib17 mixed TT_ok Try.func19 (by decide +kernel) (by kernel_rfl) true noL (loops_of 0 (by kernel_rfl) below0) ks19 (F := fun us => F_grid_Chebyshev (toI (cIa (aggL (cIa us 0)) 0)) (toI (cIa (aggL (cIa us 0)) 1)) (toI (cIa (aggL (cIa us 1)) 0)) (toI (cIa (aggL (cIa us 1)) 1))) (fun us => rfl) (fun us => run19 (toI (cIa (aggL (cIa us 0)) 0)) (toI (cIa (aggL (cIa us 0)) 1)) (toI (cIa (aggL (cIa us 1)) 0)) (toI (cIa (aggL (cIa us 1)) 1))) (fun t => rfl)

/-! ### 45: skirmish/grid.rect -/



/-- 'skirmish/grid.rect' -/
noncomputable def F_grid_rect (r_X : Int) (r_Y : Int) (r_W : Int) (r_H : Int) : Option (Int × Int × Int × Int) :=
  Option.bind (F_grid_near r_X) fun t =>
  Option.bind (F_grid_near r_Y) fun t1 =>
  Option.bind (F_grid_near r_W) fun t2 =>
  Option.bind (F_grid_near r_H) fun t3 =>
  some (t, t1, t2, t3)
noncomputable def enc45 (t : Int × Int × Int × Int) : CR := ⟨true, (.agg [(.sc (.int .i64 t.1)), (.sc (.int .i64 t.2.1)), (.sc (.int .i64 t.2.2.1)), (.sc (.int .i64 t.2.2.2))]), [], []⟩
noncomputable def ks45 : List SK := [.agg [.int .i64, .int .i64, .int .i64, .int .i64]]
noncomputable def S45 (us : List AVal) : Call := bif chkA ks45 us then Call.of (F_grid_rect (toI (cIa (aggL (cIa us 0)) 0)) (toI (cIa (aggL (cIa us 0)) 1)) (toI (cIa (aggL (cIa us 0)) 2)) (toI (cIa (aggL (cIa us 0)) 3))) enc45 else Call.none
noncomputable def C45 := AI.ext 45 S45 C19

theorem run45 (r_X : Int) (r_Y : Int) (r_W : Int) (r_H : Int) : fcall TT TU noG C19 ownF true noL Try.f45 [(.agg [(.sc (.int .i64 r_X)), (.sc (.int .i64 r_Y)), (.sc (.int .i64 r_W)), (.sc (.int .i64 r_H))])] = (F_grid_rect r_X r_Y r_W r_H).bind fun t => some (enc45 t) :=
  Eq.trans (b := (Option.bind (F_grid_near r_X) fun t => (Option.bind (F_grid_near r_Y) fun t1 => (Option.bind (F_grid_near r_W) fun t2 => (Option.bind (F_grid_near r_H) fun t3 => (some (CR.mk true (AVal.agg [(i64 t), (i64 t1), (i64 t2), (i64 t3)]) [] []))))))) (by kernel_rfl)
    (n_bind fun t => (n_bind fun t1 => (n_bind fun t2 => (n_bind fun t3 => rfl))))
theorem lib45 : Lib Try.prog noG C45 :=
  Lib.fn lib19 mixed TT_ok Try.func45 (by decide +kernel) (by kernel_rfl) true noL (loops_of 0 (by kernel_rfl) below0) ks45 (F := fun us => F_grid_rect (toI (cIa (aggL (cIa us 0)) 0)) (toI (cIa (aggL (cIa us 0)) 1)) (toI (cIa (aggL (cIa us 0)) 2)) (toI (cIa (aggL (cIa us 0)) 3))) (fun us => rfl) (fun us => run45 (toI (cIa (aggL (cIa us 0)) 0)) (toI (cIa (aggL (cIa us 0)) 1)) (toI (cIa (aggL (cIa us 0)) 2)) (toI (cIa (aggL (cIa us 0)) 3))) (fun t => rfl)

/-! ### 47: skirmish/grid.meet -/



/-- 'skirmish/grid.meet' -/
noncomputable def F_grid_meet (a_X : Int) (a_Y : Int) (a_W : Int) (a_H : Int) (b_X : Int) (b_Y : Int) (b_W : Int) (b_H : Int) : Option (Int × Int × Int × Int) :=
  bif (decide (a_W < (1 : Int))) then
    some ((0 : Int), (0 : Int), (0 : Int), (0 : Int))
  else
  bif (decide (a_H < (1 : Int))) then
    some ((0 : Int), (0 : Int), (0 : Int), (0 : Int))
  else
  bif (decide (b_W < (1 : Int))) then
    some ((0 : Int), (0 : Int), (0 : Int), (0 : Int))
  else
  bif (decide (b_H < (1 : Int))) then
    some ((0 : Int), (0 : Int), (0 : Int), (0 : Int))
  else
  bif (decide ((wr ((minI (wr (a_X + a_W)) (wr (b_X + b_W))) - (maxI a_X b_X))) < (1 : Int))) then
    some ((0 : Int), (0 : Int), (0 : Int), (0 : Int))
  else
  bif (decide ((wr ((minI (wr (a_Y + a_H)) (wr (b_Y + b_H))) - (maxI a_Y b_Y))) < (1 : Int))) then
    some ((0 : Int), (0 : Int), (0 : Int), (0 : Int))
  else
  some ((maxI a_X b_X), (maxI a_Y b_Y), (wr ((minI (wr (a_X + a_W)) (wr (b_X + b_W))) - (maxI a_X b_X))), (wr ((minI (wr (a_Y + a_H)) (wr (b_Y + b_H))) - (maxI a_Y b_Y))))
noncomputable def enc47 (t : Int × Int × Int × Int) : CR := ⟨true, (.agg [(.sc (.int .i64 t.1)), (.sc (.int .i64 t.2.1)), (.sc (.int .i64 t.2.2.1)), (.sc (.int .i64 t.2.2.2))]), [], []⟩
noncomputable def ks47 : List SK := [.agg [.int .i64, .int .i64, .int .i64, .int .i64], .agg [.int .i64, .int .i64, .int .i64, .int .i64]]
noncomputable def S47 (us : List AVal) : Call := bif chkA ks47 us then Call.of (F_grid_meet (toI (cIa (aggL (cIa us 0)) 0)) (toI (cIa (aggL (cIa us 0)) 1)) (toI (cIa (aggL (cIa us 0)) 2)) (toI (cIa (aggL (cIa us 0)) 3)) (toI (cIa (aggL (cIa us 1)) 0)) (toI (cIa (aggL (cIa us 1)) 1)) (toI (cIa (aggL (cIa us 1)) 2)) (toI (cIa (aggL (cIa us 1)) 3))) enc47 else Call.none
noncomputable def C47 := AI.ext 47 S47 C45

theorem run47 (a_X : Int) (a_Y : Int) (a_W : Int) (a_H : Int) (b_X : Int) (b_Y : Int) (b_W : Int) (b_H : Int) : fcall TT TU noG C45 ownF true noL Try.f47 [(.agg [(.sc (.int .i64 a_X)), (.sc (.int .i64 a_Y)), (.sc (.int .i64 a_W)), (.sc (.int .i64 a_H))]), (.agg [(.sc (.int .i64 b_X)), (.sc (.int .i64 b_Y)), (.sc (.int .i64 b_W)), (.sc (.int .i64 b_H))])] = (F_grid_meet a_X a_Y a_W a_H b_X b_Y b_W b_H).bind fun t => some (enc47 t) :=
  Eq.trans (b := (bif (decide (a_W < (1 : Int))) then (some (CR.mk true (AVal.agg [(i64 (0 : Int)), (i64 (0 : Int)), (i64 (0 : Int)), (i64 (0 : Int))]) [] [])) else (bif (decide (a_H < (1 : Int))) then (some (CR.mk true (AVal.agg [(i64 (0 : Int)), (i64 (0 : Int)), (i64 (0 : Int)), (i64 (0 : Int))]) [] [])) else (bif (decide (b_W < (1 : Int))) then (some (CR.mk true (AVal.agg [(i64 (0 : Int)), (i64 (0 : Int)), (i64 (0 : Int)), (i64 (0 : Int))]) [] [])) else (bif (decide (b_H < (1 : Int))) then (some (CR.mk true (AVal.agg [(i64 (0 : Int)), (i64 (0 : Int)), (i64 (0 : Int)), (i64 (0 : Int))]) [] [])) else (bif (decide ((wr ((minI (wr (a_X + a_W)) (wr (b_X + b_W))) - (maxI a_X b_X))) < (1 : Int))) then (some (CR.mk true (AVal.agg [(i64 (0 : Int)), (i64 (0 : Int)), (i64 (0 : Int)), (i64 (0 : Int))]) [] [])) else (bif (decide ((wr ((minI (wr (a_Y + a_H)) (wr (b_Y + b_H))) - (maxI a_Y b_Y))) < (1 : Int))) then (some (CR.mk true (AVal.agg [(i64 (0 : Int)), (i64 (0 : Int)), (i64 (0 : Int)), (i64 (0 : Int))]) [] [])) else (some (CR.mk true (AVal.agg [(i64 (maxI a_X b_X)), (i64 (maxI a_Y b_Y)), (i64 (wr ((minI (wr (a_X + a_W)) (wr (b_X + b_W))) - (maxI a_X b_X)))), (i64 (wr ((minI (wr (a_Y + a_H)) (wr (b_Y + b_H))) - (maxI a_Y b_Y))))]) [] []))))))))) (by kernel_rfl)
    (n_condH rfl (fun h0 => rfl) fun h0 => (n_condH rfl (fun h1 => rfl) fun h1 => (n_condH rfl (fun h2 => rfl) fun h2 => (n_condH rfl (fun h3 => rfl) fun h3 => (n_condH rfl (fun h4 => rfl) fun h4 => (n_condH rfl (fun h5 => rfl) fun h5 => rfl))))))
theorem lib47 : Lib Try.prog noG C47 :=
  Lib.fn lib45 mixed TT_ok Try.func47 (by decide +kernel) (by kernel_rfl) true noL (loops_of 0 (by kernel_rfl) below0) ks47 (F := fun us => F_grid_meet (toI (cIa (aggL (cIa us 0)) 0)) (toI (cIa (aggL (cIa us 0)) 1)) (toI (cIa (aggL (cIa us 0)) 2)) (toI (cIa (aggL (cIa us 0)) 3)) (toI (cIa (aggL (cIa us 1)) 0)) (toI (cIa (aggL (cIa us 1)) 1)) (toI (cIa (aggL (cIa us 1)) 2)) (toI (cIa (aggL (cIa us 1)) 3))) (fun us => rfl) (fun us => run47 (toI (cIa (aggL (cIa us 0)) 0)) (toI (cIa (aggL (cIa us 0)) 1)) (toI (cIa (aggL (cIa us 0)) 2)) (toI (cIa (aggL (cIa us 0)) 3)) (toI (cIa (aggL (cIa us 1)) 0)) (toI (cIa (aggL (cIa us 1)) 1)) (toI (cIa (aggL (cIa us 1)) 2)) (toI (cIa (aggL (cIa us 1)) 3))) (fun t => rfl)

/-! ### 31: skirmish/grid.Clip -/



/-- 'skirmish/grid.Clip' -/
noncomputable def F_grid_Clip (w : Int) (h : Int) (r_X : Int) (r_Y : Int) (r_W : Int) (r_H : Int) : Option (Int × Int × Int × Int) :=
  Option.bind (F_grid_rect r_X r_Y r_W r_H) fun t =>
  Option.bind (F_grid_near w) fun t1 =>
  Option.bind (F_grid_near h) fun t2 =>
  Option.bind (F_grid_meet t.1 t.2.1 t.2.2.1 t.2.2.2 (0 : Int) (0 : Int) t1 t2) fun t3 =>
  some (t3.1, t3.2.1, t3.2.2.1, t3.2.2.2)
noncomputable def enc31 (t : Int × Int × Int × Int) : CR := ⟨true, (.agg [(.sc (.int .i64 t.1)), (.sc (.int .i64 t.2.1)), (.sc (.int .i64 t.2.2.1)), (.sc (.int .i64 t.2.2.2))]), [], []⟩
noncomputable def ks31 : List SK := [.f (.int .i64), .f (.int .i64), .agg [.int .i64, .int .i64, .int .i64, .int .i64]]
noncomputable def S31 (us : List AVal) : Call := bif chkA ks31 us then Call.of (F_grid_Clip (toI (cIa us 0)) (toI (cIa us 1)) (toI (cIa (aggL (cIa us 2)) 0)) (toI (cIa (aggL (cIa us 2)) 1)) (toI (cIa (aggL (cIa us 2)) 2)) (toI (cIa (aggL (cIa us 2)) 3))) enc31 else Call.none
noncomputable def C31 := AI.ext 31 S31 C47

theorem run31 (w : Int) (h : Int) (r_X : Int) (r_Y : Int) (r_W : Int) (r_H : Int) : fcall TT TU noG C47 ownF true noL Try.f31 [(.sc (.int .i64 w)), (.sc (.int .i64 h)), (.agg [(.sc (.int .i64 r_X)), (.sc (.int .i64 r_Y)), (.sc (.int .i64 r_W)), (.sc (.int .i64 r_H))])] = (F_grid_Clip w h r_X r_Y r_W r_H).bind fun t => some (enc31 t) :=
  Eq.trans (b := (Option.bind (F_grid_rect r_X r_Y r_W r_H) fun t => (Option.bind (F_grid_near w) fun t1 => (Option.bind (F_grid_near h) fun t2 => (Option.bind (F_grid_meet t.1 t.2.1 t.2.2.1 t.2.2.2 (0 : Int) (0 : Int) t1 t2) fun t3 => (some (CR.mk true (AVal.agg [(i64 t3.1), (i64 t3.2.1), (i64 t3.2.2.1), (i64 t3.2.2.2)]) [] []))))))) (by kernel_rfl)
    (n_bind fun t => (n_bind fun t1 => (n_bind fun t2 => (n_bind fun t3 => rfl))))
theorem lib31 : Lib Try.prog noG C31 :=
  Lib.fn lib47 mixed TT_ok Try.func31 (by decide +kernel) (by kernel_rfl) true noL (loops_of 0 (by kernel_rfl) below0) ks31 (F := fun us => F_grid_Clip (toI (cIa us 0)) (toI (cIa us 1)) (toI (cIa (aggL (cIa us 2)) 0)) (toI (cIa (aggL (cIa us 2)) 1)) (toI (cIa (aggL (cIa us 2)) 2)) (toI (cIa (aggL (cIa us 2)) 3))) (fun us => rfl) (fun us => run31 (toI (cIa us 0)) (toI (cIa us 1)) (toI (cIa (aggL (cIa us 2)) 0)) (toI (cIa (aggL (cIa us 2)) 1)) (toI (cIa (aggL (cIa us 2)) 2)) (toI (cIa (aggL (cIa us 2)) 3))) (fun t => rfl)

/-! ### 16: skirmish/skirmishlaw06.awake -/



/-- 'skirmish/skirmishlaw06.awake' -/
noncomputable def F_skirmishlaw06_awake : Option (Bool) :=
  Option.bind (F_grid_Neighbors (2 : Int) (2 : Int) (0 : Int) (0 : Int)) fun t =>
  Option.bind (F_grid_Step (0 : Int) (0 : Int) (1 : Int)) fun t1 =>
  bif ((t1.1 == (1 : Int)) && (t1.2 == (1 : Int))) then
    Option.bind (F_grid_Step (3 : Int) (3 : Int) (8 : Int)) fun t2 =>
    bif ((t2.1 == (3 : Int)) && (t2.2 == (3 : Int))) then
      bif ((Int.ofNat t.length) == (3 : Int)) then
        bif (decide ((0 : Int) < (Int.ofNat t.length))) then
          Option.bind (t[(0 : Int).toNat]?) fun r =>
          bif (chk [(LT.int IntKind.i64), (LT.int IntKind.i64)] r) then
            bif (((cI r 0) == (1 : Int)) && ((cI r 1) == (0 : Int))) then
              bif (decide ((2 : Int) < (Int.ofNat t.length))) then
                Option.bind (t[(2 : Int).toNat]?) fun r1 =>
                bif (chk [(LT.int IntKind.i64), (LT.int IntKind.i64)] r1) then
                  bif (((cI r1 0) == (0 : Int)) && ((cI r1 1) == (1 : Int))) then
                    Option.bind (F_grid_Octile (0 : Int) (0 : Int) (3 : Int) (1 : Int)) fun t3 =>
                    bif (t3 == (34 : Int)) then
                      Option.bind (F_grid_Chebyshev (0 : Int) (0 : Int) (3 : Int) (1 : Int)) fun t4 =>
                      bif (t4 == (3 : Int)) then
                        Option.bind (F_grid_Clip (4 : Int) (4 : Int) (-(1 : Int)) (2 : Int) (3 : Int) (9 : Int)) fun t5 =>
                        bif ((t5.1 == (0 : Int)) && ((t5.2.1 == (2 : Int)) && ((t5.2.2.1 == (2 : Int)) && (t5.2.2.2 == (2 : Int))))) then
                          Option.bind (F_grid_Valid (32 : Int) (1 : Int)) fun t6 =>
                          bif t6 then
                            Option.bind (F_grid_Valid (33 : Int) (1 : Int)) fun t7 =>
                            bif (!t7) then
                              Option.bind (F_grid_In (4 : Int) (4 : Int) (4 : Int) (0 : Int)) fun t8 =>
                              some (!t8)
                            else
                            some false
                          else
                          some false
                        else
                        some false
                      else
                      some false
                    else
                    some false
                  else
                  some false
                else
                none
              else
              none
            else
            some false
          else
          none
        else
        none
      else
      some false
    else
    some false
  else
  some false
noncomputable def enc16 (t : Bool) : CR := ⟨true, (.sc (.bool t)), [], []⟩
noncomputable def ks16 : List SK := []
noncomputable def S16 (us : List AVal) : Call := bif chkA ks16 us then Call.of (F_skirmishlaw06_awake) enc16 else Call.none
noncomputable def C16 := AI.ext 16 S16 C31

theorem run16 : fcall TT TU noG C31 ownF true noL Try.f16 [] = (F_skirmishlaw06_awake).bind fun t => some (enc16 t) :=
  Eq.trans (b := (Option.bind (F_grid_Neighbors (2 : Int) (2 : Int) (0 : Int) (0 : Int)) fun t => (bif ((((true && (verEq t.length t.length)) && true) && true) && true) then (Option.bind (F_grid_Step (0 : Int) (0 : Int) (1 : Int)) fun t1 => (bif ((t1.1 == (1 : Int)) && (t1.2 == (1 : Int))) then (Option.bind (F_grid_Step (3 : Int) (3 : Int) (8 : Int)) fun t2 => (bif ((t2.1 == (3 : Int)) && (t2.2 == (3 : Int))) then (bif (verEq t.length t.length) then (bif ((Int.ofNat t.length) == (3 : Int)) then (bif (((verEq t.length t.length) && (decide ((0 : Int) ≤ (0 : Int)))) && (decide ((0 : Int) < (Int.ofNat t.length)))) then (bif (verEq t.length t.length) then (Option.bind (t[(0 : Int).toNat]?) fun r => (bif (chk [(LT.int IntKind.i64), (LT.int IntKind.i64)] r) then (bif (((cI r 0) == (1 : Int)) && ((cI r 1) == (0 : Int))) then (bif (((verEq t.length t.length) && (decide ((0 : Int) ≤ (2 : Int)))) && (decide ((2 : Int) < (Int.ofNat t.length)))) then (bif (verEq t.length t.length) then (Option.bind (t[(2 : Int).toNat]?) fun r1 => (bif (chk [(LT.int IntKind.i64), (LT.int IntKind.i64)] r1) then (bif (((cI r1 0) == (0 : Int)) && ((cI r1 1) == (1 : Int))) then (Option.bind (F_grid_Octile (0 : Int) (0 : Int) (3 : Int) (1 : Int)) fun t3 => (bif (t3 == (34 : Int)) then (Option.bind (F_grid_Chebyshev (0 : Int) (0 : Int) (3 : Int) (1 : Int)) fun t4 => (bif (t4 == (3 : Int)) then (Option.bind (F_grid_Clip (4 : Int) (4 : Int) (-(1 : Int)) (2 : Int) (3 : Int) (9 : Int)) fun t5 => (bif ((t5.1 == (0 : Int)) && ((t5.2.1 == (2 : Int)) && ((t5.2.2.1 == (2 : Int)) && (t5.2.2.2 == (2 : Int))))) then (Option.bind (F_grid_Valid (32 : Int) (1 : Int)) fun t6 => (bif t6 then (Option.bind (F_grid_Valid (33 : Int) (1 : Int)) fun t7 => (bif (!t7) then (Option.bind (F_grid_In (4 : Int) (4 : Int) (4 : Int) (0 : Int)) fun t8 => (some (CR.mk true (bo (!t8)) [] []))) else (some (CR.mk true (bo false) [] [])))) else (some (CR.mk true (bo false) [] [])))) else (some (CR.mk true (bo false) [] [])))) else (some (CR.mk true (bo false) [] [])))) else (some (CR.mk true (bo false) [] [])))) else (some (CR.mk true (bo false) [] []))) else none)) else none) else none) else (some (CR.mk true (bo false) [] []))) else none)) else none) else none) else (some (CR.mk true (bo false) [] []))) else none) else (some (CR.mk true (bo false) [] [])))) else (some (CR.mk true (bo false) [] [])))) else none))) (by kernel_rfl)
    (n_bind fun t => (n_true (n_andL (n_andL (n_andL (n_andL rfl (verEq_rfl _)) rfl) rfl) rfl) (n_bind fun t1 => (n_condH rfl (fun h0 => (n_bind fun t2 => (n_condH rfl (fun h1 => (n_true (verEq_rfl _) (n_condH rfl (fun h2 => (n_condH (n_andL (n_andL (verEq_rfl _) (by kernel_rfl)) rfl) (fun h3 => (n_true (verEq_rfl _) (n_bind fun r => (n_condH rfl (fun h4 => (n_condH rfl (fun h5 => (n_condH (n_andL (n_andL (verEq_rfl _) (by kernel_rfl)) rfl) (fun h6 => (n_true (verEq_rfl _) (n_bind fun r1 => (n_condH rfl (fun h7 => (n_condH rfl (fun h8 => (n_bind fun t3 => (n_condH rfl (fun h9 => (n_bind fun t4 => (n_condH rfl (fun h10 => (n_bind fun t5 => (n_condH rfl (fun h11 => (n_bind fun t6 => (n_condH rfl (fun h12 => (n_bind fun t7 => (n_condH rfl (fun h13 => (n_bind fun t8 => rfl)) fun h13 => rfl))) fun h12 => rfl))) fun h11 => rfl))) fun h10 => rfl))) fun h9 => rfl))) fun h8 => rfl)) fun h7 => n_none)))) fun h6 => n_none)) fun h5 => rfl)) fun h4 => n_none)))) fun h3 => n_none)) fun h2 => rfl))) fun h1 => rfl))) fun h0 => rfl))))
theorem lib16 : Lib Try.prog noG C16 :=
  Lib.fn lib31 mixed TT_ok Try.func16 (by decide +kernel) (by kernel_rfl) true noL (loops_of 0 (by kernel_rfl) below0) ks16 (F := fun us => F_skirmishlaw06_awake) (fun us => rfl) (fun us => run16) (fun t => rfl)

/-! ### 3: skirmish/skirmishlaw06.GridSteps -/

noncomputable def W3_0 : Ex → List Bool
  | .ret => [false, false, false, false, false, false, true, false, false, false, false, false, false, false, false, false, false, false, false, false, false, false, false, false, false, false, false, false, false, false, false, false, false, false, false, false, false, false, false, false]
  | .exit n => bif Nat.beq n 0 then [true, true, false, false, false, true, false, false, false, false, false, false, false, false, false, false, false, false, false, false, false, false, false, false, false, false, false, true, true, true, true, true, true, true, true, true, false, false, true, false] else []
  | .normal => []
noncomputable def G_skirmishlaw06_GridSteps_0 (b0_0 : Int) (b0_1 : Int) : Nat → Int → Option (Bool)
  | 0, _ => none
  | m + 1, d =>
    bif (decide (d ≤ (8 : Int))) then
      Option.bind (F_grid_Step b0_0 b0_1 d) fun t =>
      Option.bind (F_skirmishref06_Step b0_0 b0_1 d) fun t1 =>
      bif (!((t.1 == t1.1) && (t.2 == t1.2))) then
        some true
      else
      G_skirmishlaw06_GridSteps_0 b0_0 b0_1 m (wr (d + (1 : Int)))
    else
    some false
noncomputable def E3_0 (w : Int) (h : Int) (d : Int) (b0_0 : Int) (b0_1 : Int) : St := ⟨[(.sc (.int .i64 w)), (.sc (.int .i64 h)), .dead, .dead, .dead, (.ref 8000 1 0 0), .dead, (.sc (.int .i64 d)), .dead, .dead, .dead, .dead, .dead, .dead, .dead, .dead, .dead, .dead, .dead, .dead, .dead, .dead, .dead, .dead, .dead, .dead, .dead, .dead, .dead, .dead, .dead, .dead, .dead, .dead, .dead, .dead, .dead, .dead, .dead, .dead], [(8000, ⟨.box, 23, 2, [[(.sc (.int .i64 b0_0)), (.sc (.int .i64 b0_1))]]⟩)]⟩
noncomputable def X3_0 (w : Int) (h : Int) (b0_0 : Int) (b0_1 : Int) (k : Ex → St → Option CR) (t : Bool) : Option CR := bif t then k .ret ⟨[.dead, .dead, .dead, .dead, .dead, .dead, (.sc (.bool false)), .dead, .dead, .dead, .dead, .dead, .dead, .dead, .dead, .dead, .dead, .dead, .dead, .dead, .dead, .dead, .dead, .dead, .dead, .dead, .dead, .dead, .dead, .dead, .dead, .dead, .dead, .dead, .dead, .dead, .dead, .dead, .dead, .dead], [(8000, ⟨.box, 23, 2, [[(.sc (.int .i64 b0_0)), (.sc (.int .i64 b0_1))]]⟩)]⟩ else k (.exit 0) ⟨[(.sc (.int .i64 w)), (.sc (.int .i64 h)), .dead, .dead, .dead, (.ref 8000 1 0 0), .dead, .dead, .dead, .dead, .dead, .dead, .dead, .dead, .dead, .dead, .dead, .dead, .dead, .dead, .dead, .dead, .dead, .dead, .dead, .dead, .dead, .dead, .dead, .dead, .dead, .dead, .dead, .dead, .dead, .dead, .dead, .dead, .dead, .dead], [(8000, ⟨.box, 23, 2, [[(.sc (.int .i64 b0_0)), (.sc (.int .i64 b0_1))]]⟩)]⟩
noncomputable def ks3_0 : List SK := [.f (.int .i64), .f (.int .i64), .f .dead, .f .dead, .f .dead, .f (.ref 8000 1 0 0), .f .dead, .f (.int .i64), .f .dead, .f .dead, .f .dead, .f .dead, .f .dead, .f .dead, .f .dead, .f .dead, .f .dead, .f .dead, .f .dead, .f .dead, .f .dead, .f .dead, .f .dead, .f .dead, .f .dead, .f .dead, .f .dead, .f .dead, .f .dead, .f .dead, .f .dead, .f .dead, .f .dead, .f .dead, .f .dead, .f .dead, .f .dead, .f .dead, .f .dead, .f .dead]
noncomputable def hs3_0 : List HK := [⟨8000, .box, 23, 2, some [.int .i64, .int .i64]⟩]
noncomputable def L3_0 (s : St) (k : Ex → St → Option CR) : Option CR := bif chkS ks3_0 hs3_0 s then (G_skirmishlaw06_GridSteps_0 (toI (cIa (rows0 (blkAt s.heap 0).2) 0)) (toI (cIa (rows0 (blkAt s.heap 0).2) 1)) FU (toI (cIa s.tmps 7))).bind (X3_0 (toI (cIa s.tmps 0)) (toI (cIa s.tmps 1)) (toI (cIa (rows0 (blkAt s.heap 0).2) 0)) (toI (cIa (rows0 (blkAt s.heap 0).2) 1)) k) else none

noncomputable def L3 : LT' := fun i s k => bif Nat.beq i 0 then L3_0 s k else none

/-- 'skirmish/skirmishlaw06.GridSteps' -/
noncomputable def F_skirmishlaw06_GridSteps (w : Int) (h : Int) (p_X : Int) (p_Y : Int) : Option (Bool) :=
  Option.bind (G_skirmishlaw06_GridSteps_0 p_X p_Y FU (-(1 : Int))) fun t =>
  bif t then
    some false
  else
  Option.bind (F_grid_Step p_X p_Y w) fun t1 =>
  Option.bind (F_skirmishref06_Step p_X p_Y w) fun t2 =>
  bif ((t1.1 == t2.1) && (t1.2 == t2.2)) then
    Option.bind (F_grid_Neighbors w h p_X p_Y) fun t3 =>
    Option.bind (F_skirmishref06_Neighbors w h p_X p_Y) fun t4 =>
    Option.bind (F_skirmishref06_Same t3 t4) fun t5 =>
    bif t5 then
      Option.bind F_skirmishlaw06_awake fun t6 =>
      some t6
    else
    some false
  else
  some false
noncomputable def enc3 (t : Bool) : CR := ⟨true, (.sc (.bool t)), [], []⟩
noncomputable def ks3 : List SK := [.f (.int .i64), .f (.int .i64), .agg [.int .i64, .int .i64]]
noncomputable def S3 (us : List AVal) : Call := bif chkA ks3 us then Call.of (F_skirmishlaw06_GridSteps (toI (cIa us 0)) (toI (cIa us 1)) (toI (cIa (aggL (cIa us 2)) 0)) (toI (cIa (aggL (cIa us 2)) 1))) enc3 else Call.none
noncomputable def C3 := AI.ext 3 S3 C16

@[reducible] noncomputable def B3_0 := bodyOf TT TU noG C16 ownF L3 (lp Try.f3 0)
@[reducible] noncomputable def K3_0 (k : Ex → St → Option CR) : Ex → St → Option CR := fun e s => k e (maskS (W3_0 e) s)
theorem spec3_0 (k : Ex → St → Option CR) : ∀ (m : Nat) (w : Int) (h : Int) (d : Int) (b0_0 : Int) (b0_1 : Int), loopN B3_0 m (E3_0 w h d b0_0 b0_1) (K3_0 k) = (G_skirmishlaw06_GridSteps_0 b0_0 b0_1 m d).bind (X3_0 w h b0_0 b0_1 k)
  | 0, _, _, _, _, _ => rfl
  | m + 1, w, h, d, b0_0, b0_1 =>
    Eq.trans (b := (bif (decide (d ≤ (8 : Int))) then (Option.bind (F_grid_Step b0_0 b0_1 d) fun t => (Option.bind (F_skirmishref06_Step b0_0 b0_1 d) fun t1 => (bif (!((t.1 == t1.1) && (t.2 == t1.2))) then (k .ret ⟨[.dead, .dead, .dead, .dead, .dead, .dead, (bo false), .dead, .dead, .dead, .dead, .dead, .dead, .dead, .dead, .dead, .dead, .dead, .dead, .dead, .dead, .dead, .dead, .dead, .dead, .dead, .dead, .dead, .dead, .dead, .dead, .dead, .dead, .dead, .dead, .dead, .dead, .dead, .dead, .dead], [(Prod.mk 8000 (Blk.mk BKind.box 23 2 [[(i64 b0_0), (i64 b0_1)]]))]⟩) else (loopN B3_0 m ⟨[(i64 w), (i64 h), .dead, .dead, .dead, (AVal.ref 8000 1 0 0), .dead, (i64 (wr (d + (1 : Int)))), .dead, .dead, .dead, .dead, .dead, .dead, .dead, .dead, .dead, .dead, .dead, .dead, .dead, .dead, .dead, .dead, .dead, .dead, .dead, .dead, .dead, .dead, .dead, .dead, .dead, .dead, .dead, .dead, .dead, .dead, .dead, .dead], [(Prod.mk 8000 (Blk.mk BKind.box 23 2 [[(i64 b0_0), (i64 b0_1)]]))]⟩ (K3_0 k))))) else (k (.exit 0) ⟨[(i64 w), (i64 h), .dead, .dead, .dead, (AVal.ref 8000 1 0 0), .dead, .dead, .dead, .dead, .dead, .dead, .dead, .dead, .dead, .dead, .dead, .dead, .dead, .dead, .dead, .dead, .dead, .dead, .dead, .dead, .dead, .dead, .dead, .dead, .dead, .dead, .dead, .dead, .dead, .dead, .dead, .dead, .dead, .dead], [(Prod.mk 8000 (Blk.mk BKind.box 23 2 [[(i64 b0_0), (i64 b0_1)]]))]⟩))) (by kernel_rfl)
      (n_condH rfl (fun h0 => (n_bind fun t => (n_bind fun t1 => (n_condH rfl (fun h1 => rfl) fun h1 => (spec3_0 k m w h (wr (d + (1 : Int))) b0_0 b0_1))))) fun h0 => rfl)
theorem okL3_0 : LoopOk TT TU noG C16 ownF L3 (lp Try.f3 0) :=
  loopOk_of ks3_0 hs3_0 W3_0 FU (fun s k => (G_skirmishlaw06_GridSteps_0 (toI (cIa (rows0 (blkAt s.heap 0).2) 0)) (toI (cIa (rows0 (blkAt s.heap 0).2) 1)) FU (toI (cIa s.tmps 7))).bind (X3_0 (toI (cIa s.tmps 0)) (toI (cIa s.tmps 1)) (toI (cIa (rows0 (blkAt s.heap 0).2) 0)) (toI (cIa (rows0 (blkAt s.heap 0).2) 1)) k)) (fun s k => by kernel_rfl) (fun s k => spec3_0 k FU (toI (cIa s.tmps 0)) (toI (cIa s.tmps 1)) (toI (cIa s.tmps 7)) (toI (cIa (rows0 (blkAt s.heap 0).2) 0)) (toI (cIa (rows0 (blkAt s.heap 0).2) 1)))
theorem run3 (w : Int) (h : Int) (p_X : Int) (p_Y : Int) : fcall TT TU noG C16 ownF true L3 Try.f3 [(.sc (.int .i64 w)), (.sc (.int .i64 h)), (.agg [(.sc (.int .i64 p_X)), (.sc (.int .i64 p_Y))])] = (F_skirmishlaw06_GridSteps w h p_X p_Y).bind fun t => some (enc3 t) :=
  Eq.trans (b := (Option.bind (G_skirmishlaw06_GridSteps_0 p_X p_Y FU (-(1 : Int))) fun t => (bif t then (some (CR.mk true (bo false) [] [])) else (Option.bind (F_grid_Step p_X p_Y w) fun t1 => (Option.bind (F_skirmishref06_Step p_X p_Y w) fun t2 => (bif ((t1.1 == t2.1) && (t1.2 == t2.2)) then (Option.bind (F_grid_Neighbors w h p_X p_Y) fun t3 => (bif ((((true && (verEq t3.length t3.length)) && true) && true) && true) then (Option.bind (F_skirmishref06_Neighbors w h p_X p_Y) fun t4 => (bif ((((true && (verEq t4.length t4.length)) && true) && true) && true) then (bif (verEq t3.length t3.length) then (bif (verEq t4.length t4.length) then (Option.bind (F_skirmishref06_Same t3 t4) fun t5 => (bif t5 then (Option.bind F_skirmishlaw06_awake fun t6 => (some (CR.mk true (bo t6) [] []))) else (some (CR.mk true (bo false) [] [])))) else none) else none) else none)) else none)) else (some (CR.mk true (bo false) [] [])))))))) (by kernel_rfl)
    (n_bind fun t => (n_condH rfl (fun h0 => rfl) fun h0 => (n_bind fun t1 => (n_bind fun t2 => (n_condH rfl (fun h1 => (n_bind fun t3 => (n_true (n_andL (n_andL (n_andL (n_andL rfl (verEq_rfl _)) rfl) rfl) rfl) (n_bind fun t4 => (n_true (n_andL (n_andL (n_andL (n_andL rfl (verEq_rfl _)) rfl) rfl) rfl) (n_true (verEq_rfl _) (n_true (verEq_rfl _) (n_bind fun t5 => (n_condH rfl (fun h2 => (n_bind fun t6 => rfl)) fun h2 => rfl))))))))) fun h1 => rfl)))))
theorem lib3 : Lib Try.prog noG C3 :=
  Lib.fn lib16 mixed TT_ok Try.func3 (by decide +kernel) (by kernel_rfl) true L3 (loops_of 1 (by kernel_rfl) (belowS below0 okL3_0)) ks3 (F := fun us => F_skirmishlaw06_GridSteps (toI (cIa us 0)) (toI (cIa us 1)) (toI (cIa (aggL (cIa us 2)) 0)) (toI (cIa (aggL (cIa us 2)) 1))) (fun us => rfl) (fun us => run3 (toI (cIa us 0)) (toI (cIa us 1)) (toI (cIa (aggL (cIa us 2)) 0)) (toI (cIa (aggL (cIa us 2)) 1))) (fun t => rfl)

/-! ### 42: skirmish/skirmishref06.abs -/



/-- 'skirmish/skirmishref06.abs' -/
noncomputable def F_skirmishref06_abs (n : Int) : Option (Int) :=
  some (maxI n (wr ((0 : Int) - n)))
noncomputable def enc42 (t : Int) : CR := ⟨true, (.sc (.int .i64 t)), [], []⟩
noncomputable def ks42 : List SK := [.f (.int .i64)]
noncomputable def S42 (us : List AVal) : Call := bif chkA ks42 us then Call.of (F_skirmishref06_abs (toI (cIa us 0))) enc42 else Call.none
noncomputable def C42 := AI.ext 42 S42 C3

theorem run42 (n : Int) : fcall TT TU noG C3 ownF true noL Try.f42 [(.sc (.int .i64 n))] = (F_skirmishref06_abs n).bind fun t => some (enc42 t) :=
  Eq.trans (b := (some (CR.mk true (i64 (maxI n (wr ((0 : Int) - n)))) [] []))) (by kernel_rfl)
    rfl
theorem lib42 : Lib Try.prog noG C42 :=
  Lib.fn lib3 mixed TT_ok Try.func42 (by decide +kernel) (by kernel_rfl) true noL (loops_of 0 (by kernel_rfl) below0) ks42 (F := fun us => F_skirmishref06_abs (toI (cIa us 0))) (fun us => rfl) (fun us => run42 (toI (cIa us 0))) (fun t => rfl)

/-! ### 18: skirmish/skirmishref06.Octile -/



/-- 'skirmish/skirmishref06.Octile' -/
noncomputable def F_skirmishref06_Octile (a_X : Int) (a_Y : Int) (b_X : Int) (b_Y : Int) : Option (Int) :=
  Option.bind (F_skirmishref06_pos a_X a_Y) fun t =>
  Option.bind (F_skirmishref06_pos b_X b_Y) fun t1 =>
  Option.bind (F_skirmishref06_abs (wr (t.1 - t1.1))) fun t2 =>
  Option.bind (F_skirmishref06_abs (wr (t.2 - t1.2))) fun t3 =>
  some (wr ((wr ((14 : Int) * (minI t2 t3))) + (wr ((10 : Int) * (wr ((maxI t2 t3) - (minI t2 t3)))))))
noncomputable def enc18 (t : Int) : CR := ⟨true, (.sc (.int .i64 t)), [], []⟩
noncomputable def ks18 : List SK := [.agg [.int .i64, .int .i64], .agg [.int .i64, .int .i64]]
noncomputable def S18 (us : List AVal) : Call := bif chkA ks18 us then Call.of (F_skirmishref06_Octile (toI (cIa (aggL (cIa us 0)) 0)) (toI (cIa (aggL (cIa us 0)) 1)) (toI (cIa (aggL (cIa us 1)) 0)) (toI (cIa (aggL (cIa us 1)) 1))) enc18 else Call.none
noncomputable def C18 := AI.ext 18 S18 C42

theorem run18 (a_X : Int) (a_Y : Int) (b_X : Int) (b_Y : Int) : fcall TT TU noG C42 ownF true noL Try.f18 [(.agg [(.sc (.int .i64 a_X)), (.sc (.int .i64 a_Y))]), (.agg [(.sc (.int .i64 b_X)), (.sc (.int .i64 b_Y))])] = (F_skirmishref06_Octile a_X a_Y b_X b_Y).bind fun t => some (enc18 t) :=
  Eq.trans (b := (Option.bind (F_skirmishref06_pos a_X a_Y) fun t => (Option.bind (F_skirmishref06_pos b_X b_Y) fun t1 => (Option.bind (F_skirmishref06_abs (wr (t.1 - t1.1))) fun t2 => (Option.bind (F_skirmishref06_abs (wr (t.2 - t1.2))) fun t3 => (some (CR.mk true (i64 (wr ((wr ((14 : Int) * (minI t2 t3))) + (wr ((10 : Int) * (wr ((maxI t2 t3) - (minI t2 t3)))))))) [] []))))))) (by kernel_rfl)
    (n_bind fun t => (n_bind fun t1 => (n_bind fun t2 => (n_bind fun t3 => rfl))))
theorem lib18 : Lib Try.prog noG C18 :=
  Lib.fn lib42 mixed TT_ok Try.func18 (by decide +kernel) (by kernel_rfl) true noL (loops_of 0 (by kernel_rfl) below0) ks18 (F := fun us => F_skirmishref06_Octile (toI (cIa (aggL (cIa us 0)) 0)) (toI (cIa (aggL (cIa us 0)) 1)) (toI (cIa (aggL (cIa us 1)) 0)) (toI (cIa (aggL (cIa us 1)) 1))) (fun us => rfl) (fun us => run18 (toI (cIa (aggL (cIa us 0)) 0)) (toI (cIa (aggL (cIa us 0)) 1)) (toI (cIa (aggL (cIa us 1)) 0)) (toI (cIa (aggL (cIa us 1)) 1))) (fun t => rfl)

/-! ### 20: skirmish/skirmishref06.Chebyshev -/



/-- 'skirmish/skirmishref06.Chebyshev' -/
noncomputable def F_skirmishref06_Chebyshev (a_X : Int) (a_Y : Int) (b_X : Int) (b_Y : Int) : Option (Int) :=
  Option.bind (F_skirmishref06_pos a_X a_Y) fun t =>
  Option.bind (F_skirmishref06_pos b_X b_Y) fun t1 =>
  Option.bind (F_skirmishref06_abs (wr (t.1 - t1.1))) fun t2 =>
  Option.bind (F_skirmishref06_abs (wr (t.2 - t1.2))) fun t3 =>
  some (maxI t2 t3)
noncomputable def enc20 (t : Int) : CR := ⟨true, (.sc (.int .i64 t)), [], []⟩
noncomputable def ks20 : List SK := [.agg [.int .i64, .int .i64], .agg [.int .i64, .int .i64]]
noncomputable def S20 (us : List AVal) : Call := bif chkA ks20 us then Call.of (F_skirmishref06_Chebyshev (toI (cIa (aggL (cIa us 0)) 0)) (toI (cIa (aggL (cIa us 0)) 1)) (toI (cIa (aggL (cIa us 1)) 0)) (toI (cIa (aggL (cIa us 1)) 1))) enc20 else Call.none
noncomputable def C20 := AI.ext 20 S20 C18

theorem run20 (a_X : Int) (a_Y : Int) (b_X : Int) (b_Y : Int) : fcall TT TU noG C18 ownF true noL Try.f20 [(.agg [(.sc (.int .i64 a_X)), (.sc (.int .i64 a_Y))]), (.agg [(.sc (.int .i64 b_X)), (.sc (.int .i64 b_Y))])] = (F_skirmishref06_Chebyshev a_X a_Y b_X b_Y).bind fun t => some (enc20 t) :=
  Eq.trans (b := (Option.bind (F_skirmishref06_pos a_X a_Y) fun t => (Option.bind (F_skirmishref06_pos b_X b_Y) fun t1 => (Option.bind (F_skirmishref06_abs (wr (t.1 - t1.1))) fun t2 => (Option.bind (F_skirmishref06_abs (wr (t.2 - t1.2))) fun t3 => (some (CR.mk true (i64 (maxI t2 t3)) [] []))))))) (by kernel_rfl)
    (n_bind fun t => (n_bind fun t1 => (n_bind fun t2 => (n_bind fun t3 => rfl))))
theorem lib20 : Lib Try.prog noG C20 :=
  Lib.fn lib18 mixed TT_ok Try.func20 (by decide +kernel) (by kernel_rfl) true noL (loops_of 0 (by kernel_rfl) below0) ks20 (F := fun us => F_skirmishref06_Chebyshev (toI (cIa (aggL (cIa us 0)) 0)) (toI (cIa (aggL (cIa us 0)) 1)) (toI (cIa (aggL (cIa us 1)) 0)) (toI (cIa (aggL (cIa us 1)) 1))) (fun us => rfl) (fun us => run20 (toI (cIa (aggL (cIa us 0)) 0)) (toI (cIa (aggL (cIa us 0)) 1)) (toI (cIa (aggL (cIa us 1)) 0)) (toI (cIa (aggL (cIa us 1)) 1))) (fun t => rfl)

/-! ### 4: skirmish/skirmishlaw06.GridDistances -/



/-- 'skirmish/skirmishlaw06.GridDistances' -/
noncomputable def F_skirmishlaw06_GridDistances (a_X : Int) (a_Y : Int) (b_X : Int) (b_Y : Int) : Option (Bool) :=
  Option.bind (F_grid_Octile a_X a_Y b_X b_Y) fun t =>
  Option.bind (F_skirmishref06_Octile a_X a_Y b_X b_Y) fun t1 =>
  bif (t == t1) then
    Option.bind (F_grid_Chebyshev a_X a_Y b_X b_Y) fun t2 =>
    Option.bind (F_skirmishref06_Chebyshev a_X a_Y b_X b_Y) fun t3 =>
    bif (t2 == t3) then
      Option.bind F_skirmishlaw06_awake fun t4 =>
      some t4
    else
    some false
  else
  some false
noncomputable def enc4 (t : Bool) : CR := ⟨true, (.sc (.bool t)), [], []⟩
noncomputable def ks4 : List SK := [.agg [.int .i64, .int .i64], .agg [.int .i64, .int .i64]]
noncomputable def S4 (us : List AVal) : Call := bif chkA ks4 us then Call.of (F_skirmishlaw06_GridDistances (toI (cIa (aggL (cIa us 0)) 0)) (toI (cIa (aggL (cIa us 0)) 1)) (toI (cIa (aggL (cIa us 1)) 0)) (toI (cIa (aggL (cIa us 1)) 1))) enc4 else Call.none
noncomputable def C4 := AI.ext 4 S4 C20

theorem run4 (a_X : Int) (a_Y : Int) (b_X : Int) (b_Y : Int) : fcall TT TU noG C20 ownF true noL Try.f4 [(.agg [(.sc (.int .i64 a_X)), (.sc (.int .i64 a_Y))]), (.agg [(.sc (.int .i64 b_X)), (.sc (.int .i64 b_Y))])] = (F_skirmishlaw06_GridDistances a_X a_Y b_X b_Y).bind fun t => some (enc4 t) :=
  Eq.trans (b := (Option.bind (F_grid_Octile a_X a_Y b_X b_Y) fun t => (Option.bind (F_skirmishref06_Octile a_X a_Y b_X b_Y) fun t1 => (bif (t == t1) then (Option.bind (F_grid_Chebyshev a_X a_Y b_X b_Y) fun t2 => (Option.bind (F_skirmishref06_Chebyshev a_X a_Y b_X b_Y) fun t3 => (bif (t2 == t3) then (Option.bind F_skirmishlaw06_awake fun t4 => (some (CR.mk true (bo t4) [] []))) else (some (CR.mk true (bo false) [] []))))) else (some (CR.mk true (bo false) [] [])))))) (by kernel_rfl)
    (n_bind fun t => (n_bind fun t1 => (n_condH rfl (fun h0 => (n_bind fun t2 => (n_bind fun t3 => (n_condH rfl (fun h1 => (n_bind fun t4 => rfl)) fun h1 => rfl)))) fun h0 => rfl)))
theorem lib4 : Lib Try.prog noG C4 :=
  Lib.fn lib20 mixed TT_ok Try.func4 (by decide +kernel) (by kernel_rfl) true noL (loops_of 0 (by kernel_rfl) below0) ks4 (F := fun us => F_skirmishlaw06_GridDistances (toI (cIa (aggL (cIa us 0)) 0)) (toI (cIa (aggL (cIa us 0)) 1)) (toI (cIa (aggL (cIa us 1)) 0)) (toI (cIa (aggL (cIa us 1)) 1))) (fun us => rfl) (fun us => run4 (toI (cIa (aggL (cIa us 0)) 0)) (toI (cIa (aggL (cIa us 0)) 1)) (toI (cIa (aggL (cIa us 1)) 0)) (toI (cIa (aggL (cIa us 1)) 1))) (fun t => rfl)

/-! ### 5: skirmish/skirmishlaw06.GridSymmetric -/

noncomputable def W5_0 : Ex → List Bool
  | .ret => [false, false, false, false, true, false, false, false, false, false, false, false, false, false, false, false, false, false, false, false, false, false, false, false, false, false, false, false, false, false, false, false, false, false, false, false, false, false, false, false, false, false, false, false, false, false, false, false, false, false, false, false, false, false, false, false, false, false, false, false, false, false, false, false, false, false, false, false, false, false, false, false, false, false, false, false, false, false, false, false, false, false, false, false, false, false, false, false, false, false, false, false, false, false, false, false, false, false, false, false, false, false, false, false, false, false, false, false, false, false, false, false, false, false, false, false, false, false, false, false, false, false, false, false, false, false, false, false, false, false, false, false, false, false]
  | .exit n => bif Nat.beq n 0 then [false, true, true, false, false, false, false, false, false, false, false, false, false, false, false, false, false, false, false, false, false, false, false, false, false, false, false, false, false, false, false, false, false, false, false, false, false, false, false, false, false, false, false, false, false, false, false, false, false, false, false, false, false, false, false, false, false, false, false, false, false, false, false, false, false, false, false, true, true, true, true, true, true, true, false, false, true, true, true, true, true, true, true, true, true, true, true, false, false, true, true, true, true, true, true, true, true, true, true, true, false, false, false, false, false, false, false, false, false, true, true, true, true, true, false, false, true, true, true, true, false, false, true, true, true, true, true, true, true, true, false, false, true, false] else []
  | .normal => []
noncomputable def L5_0 (s : St) (k : Ex → St → Option CR) : Option CR := loopN (bodyOf TT TU noG C4 ownF noL (lp Try.f5 0)) 4 (maskS [false, true, true, false, false, true, false, false, false, false, false, false, false, false, false, false, false, false, false, false, false, false, true, true, true, true, true, false, false, true, true, true, true, true, false, false, true, true, true, true, true, false, false, false, false, false, false, false, false, false, false, false, false, false, false, false, false, false, false, false, false, false, false, false, false, false, false, true, true, true, true, true, true, true, false, false, true, true, true, true, true, true, true, true, true, true, true, false, false, true, true, true, true, true, true, true, true, true, true, true, false, false, false, false, false, false, false, false, false, true, true, true, true, true, false, false, true, true, true, true, false, false, true, true, true, true, true, true, true, true, false, false, true, false] s) (fun e s' => k e (maskS (W5_0 e) s'))

noncomputable def L5 : LT' := fun i s k => bif Nat.beq i 0 then L5_0 s k else none

/-- 'skirmish/skirmishlaw06.GridSymmetric' -/
noncomputable def F_skirmishlaw06_GridSymmetric (l_0_X : Int) (l_0_Y : Int) (l_1_X : Int) (l_1_Y : Int) (l_2_X : Int) (l_2_Y : Int) (dir : Int) : Option (Bool) :=
  bif (decide (l_0_X < (-(1000 : Int)))) then
    Option.bind F_skirmishlaw06_awake fun t =>
    some t
  else
  bif (decide (l_0_X > (1000 : Int))) then
    Option.bind F_skirmishlaw06_awake fun t1 =>
    some t1
  else
  bif (decide (l_0_Y < (-(1000 : Int)))) then
    Option.bind F_skirmishlaw06_awake fun t2 =>
    some t2
  else
  bif (decide (l_0_Y > (1000 : Int))) then
    Option.bind F_skirmishlaw06_awake fun t3 =>
    some t3
  else
  bif (decide (l_1_X < (-(1000 : Int)))) then
    Option.bind F_skirmishlaw06_awake fun t4 =>
    some t4
  else
  bif (decide (l_1_X > (1000 : Int))) then
    Option.bind F_skirmishlaw06_awake fun t5 =>
    some t5
  else
  bif (decide (l_1_Y < (-(1000 : Int)))) then
    Option.bind F_skirmishlaw06_awake fun t6 =>
    some t6
  else
  bif (decide (l_1_Y > (1000 : Int))) then
    Option.bind F_skirmishlaw06_awake fun t7 =>
    some t7
  else
  bif (decide (l_2_X < (-(1000 : Int)))) then
    Option.bind F_skirmishlaw06_awake fun t8 =>
    some t8
  else
  bif (decide (l_2_X > (1000 : Int))) then
    Option.bind F_skirmishlaw06_awake fun t9 =>
    some t9
  else
  bif (decide (l_2_Y < (-(1000 : Int)))) then
    Option.bind F_skirmishlaw06_awake fun t10 =>
    some t10
  else
  bif (decide (l_2_Y > (1000 : Int))) then
    Option.bind F_skirmishlaw06_awake fun t11 =>
    some t11
  else
  Option.bind (F_grid_Step l_0_X l_0_Y (wr (Int.tmod dir (8 : Int)))) fun t12 =>
  Option.bind (F_grid_Octile l_0_X l_0_Y l_1_X l_1_Y) fun t13 =>
  Option.bind (F_grid_Octile l_1_X l_1_Y l_0_X l_0_Y) fun t14 =>
  bif (t13 != t14) then
    some false
  else
  Option.bind (F_grid_Chebyshev l_0_X l_0_Y l_1_X l_1_Y) fun t15 =>
  Option.bind (F_grid_Chebyshev l_1_X l_1_Y l_0_X l_0_Y) fun t16 =>
  bif (t15 != t16) then
    some false
  else
  Option.bind (F_grid_Octile l_0_X l_0_Y l_2_X l_2_Y) fun t17 =>
  Option.bind (F_grid_Octile l_0_X l_0_Y l_1_X l_1_Y) fun t18 =>
  Option.bind (F_grid_Octile l_1_X l_1_Y l_2_X l_2_Y) fun t19 =>
  bif (decide (t17 > (wr (t18 + t19)))) then
    some false
  else
  Option.bind (F_grid_Chebyshev l_0_X l_0_Y l_2_X l_2_Y) fun t20 =>
  Option.bind (F_grid_Chebyshev l_0_X l_0_Y l_1_X l_1_Y) fun t21 =>
  Option.bind (F_grid_Chebyshev l_1_X l_1_Y l_2_X l_2_Y) fun t22 =>
  bif (decide (t20 > (wr (t21 + t22)))) then
    some false
  else
  Option.bind (F_grid_Step t12.1 t12.2 (Int.tmod (wr ((wr (Int.tmod dir (8 : Int))) + (4 : Int))) (8 : Int))) fun t23 =>
  bif ((t23.1 == l_0_X) && (t23.2 == l_0_Y)) then
    Option.bind (F_grid_Octile l_0_X l_0_Y t12.1 t12.2) fun t24 =>
    bif (t24 == (wr ((10 : Int) + (wr ((Int.tmod (wr (Int.tmod dir (8 : Int))) (2 : Int)) * (4 : Int)))))) then
      Option.bind (F_grid_Chebyshev l_0_X l_0_Y t12.1 t12.2) fun t25 =>
      bif (t25 == (1 : Int)) then
        Option.bind (F_grid_Octile l_0_X l_0_Y l_1_X l_1_Y) fun t26 =>
        bif ((t26 == (0 : Int)) == ((l_0_X == l_1_X) && (l_0_Y == l_1_Y))) then
          Option.bind F_skirmishlaw06_awake fun t27 =>
          some t27
        else
        some false
      else
      some false
    else
    some false
  else
  some false
noncomputable def enc5 (t : Bool) : CR := ⟨true, (.sc (.bool t)), [], []⟩
noncomputable def ks5 : List SK := [.agg [.int .i64, .int .i64, .int .i64, .int .i64, .int .i64, .int .i64], .f (.int .u8)]
noncomputable def S5 (us : List AVal) : Call := bif chkA ks5 us then Call.of (F_skirmishlaw06_GridSymmetric (toI (cIa (aggL (cIa us 0)) 0)) (toI (cIa (aggL (cIa us 0)) 1)) (toI (cIa (aggL (cIa us 0)) 2)) (toI (cIa (aggL (cIa us 0)) 3)) (toI (cIa (aggL (cIa us 0)) 4)) (toI (cIa (aggL (cIa us 0)) 5)) (toI (cIa us 1))) enc5 else Call.none
noncomputable def C5 := AI.ext 5 S5 C4

theorem okL5_0 : LoopOk TT TU noG C4 ownF L5 (lp Try.f5 0) :=
  loopOk_unroll 4 [false, true, true, false, false, true, false, false, false, false, false, false, false, false, false, false, false, false, false, false, false, false, true, true, true, true, true, false, false, true, true, true, true, true, false, false, true, true, true, true, true, false, false, false, false, false, false, false, false, false, false, false, false, false, false, false, false, false, false, false, false, false, false, false, false, false, false, true, true, true, true, true, true, true, false, false, true, true, true, true, true, true, true, true, true, true, true, false, false, true, true, true, true, true, true, true, true, true, true, true, false, false, false, false, false, false, false, false, false, true, true, true, true, true, false, false, true, true, true, true, false, false, true, true, true, true, true, true, true, true, false, false, true, false] W5_0 (by kernel_rfl) (fun s k => by kernel_rfl)
theorem run5 (l_0_X : Int) (l_0_Y : Int) (l_1_X : Int) (l_1_Y : Int) (l_2_X : Int) (l_2_Y : Int) (dir : Int) : fcall TT TU noG C4 ownF true L5 Try.f5 [(.agg [(.sc (.int .i64 l_0_X)), (.sc (.int .i64 l_0_Y)), (.sc (.int .i64 l_1_X)), (.sc (.int .i64 l_1_Y)), (.sc (.int .i64 l_2_X)), (.sc (.int .i64 l_2_Y))]), (.sc (.int .u8 dir))] = (F_skirmishlaw06_GridSymmetric l_0_X l_0_Y l_1_X l_1_Y l_2_X l_2_Y dir).bind fun t => some (enc5 t) :=
  Eq.trans (b := (bif (decide (l_0_X < (-(1000 : Int)))) then (Option.bind F_skirmishlaw06_awake fun t => (some (CR.mk true (bo t) [] []))) else (bif (decide (l_0_X > (1000 : Int))) then (Option.bind F_skirmishlaw06_awake fun t1 => (some (CR.mk true (bo t1) [] []))) else (bif (decide (l_0_Y < (-(1000 : Int)))) then (Option.bind F_skirmishlaw06_awake fun t2 => (some (CR.mk true (bo t2) [] []))) else (bif (decide (l_0_Y > (1000 : Int))) then (Option.bind F_skirmishlaw06_awake fun t3 => (some (CR.mk true (bo t3) [] []))) else (bif (decide (l_1_X < (-(1000 : Int)))) then (Option.bind F_skirmishlaw06_awake fun t4 => (some (CR.mk true (bo t4) [] []))) else (bif (decide (l_1_X > (1000 : Int))) then (Option.bind F_skirmishlaw06_awake fun t5 => (some (CR.mk true (bo t5) [] []))) else (bif (decide (l_1_Y < (-(1000 : Int)))) then (Option.bind F_skirmishlaw06_awake fun t6 => (some (CR.mk true (bo t6) [] []))) else (bif (decide (l_1_Y > (1000 : Int))) then (Option.bind F_skirmishlaw06_awake fun t7 => (some (CR.mk true (bo t7) [] []))) else (bif (decide (l_2_X < (-(1000 : Int)))) then (Option.bind F_skirmishlaw06_awake fun t8 => (some (CR.mk true (bo t8) [] []))) else (bif (decide (l_2_X > (1000 : Int))) then (Option.bind F_skirmishlaw06_awake fun t9 => (some (CR.mk true (bo t9) [] []))) else (bif (decide (l_2_Y < (-(1000 : Int)))) then (Option.bind F_skirmishlaw06_awake fun t10 => (some (CR.mk true (bo t10) [] []))) else (bif (decide (l_2_Y > (1000 : Int))) then (Option.bind F_skirmishlaw06_awake fun t11 => (some (CR.mk true (bo t11) [] []))) else (Option.bind (F_grid_Step l_0_X l_0_Y (wr (Int.tmod dir (8 : Int)))) fun t12 => (Option.bind (F_grid_Octile l_0_X l_0_Y l_1_X l_1_Y) fun t13 => (Option.bind (F_grid_Octile l_1_X l_1_Y l_0_X l_0_Y) fun t14 => (bif (t13 != t14) then (some (CR.mk true (bo false) [] [])) else (Option.bind (F_grid_Chebyshev l_0_X l_0_Y l_1_X l_1_Y) fun t15 => (Option.bind (F_grid_Chebyshev l_1_X l_1_Y l_0_X l_0_Y) fun t16 => (bif (t15 != t16) then (some (CR.mk true (bo false) [] [])) else (Option.bind (F_grid_Octile l_0_X l_0_Y l_2_X l_2_Y) fun t17 => (Option.bind (F_grid_Octile l_0_X l_0_Y l_1_X l_1_Y) fun t18 => (Option.bind (F_grid_Octile l_1_X l_1_Y l_2_X l_2_Y) fun t19 => (bif (decide (t17 > (wr (t18 + t19)))) then (some (CR.mk true (bo false) [] [])) else (Option.bind (F_grid_Chebyshev l_0_X l_0_Y l_2_X l_2_Y) fun t20 => (Option.bind (F_grid_Chebyshev l_0_X l_0_Y l_1_X l_1_Y) fun t21 => (Option.bind (F_grid_Chebyshev l_1_X l_1_Y l_2_X l_2_Y) fun t22 => (bif (decide (t20 > (wr (t21 + t22)))) then (some (CR.mk true (bo false) [] [])) else (Option.bind (F_grid_Step t12.1 t12.2 (Int.tmod (wr ((wr (Int.tmod dir (8 : Int))) + (4 : Int))) (8 : Int))) fun t23 => (bif ((t23.1 == l_0_X) && (t23.2 == l_0_Y)) then (Option.bind (F_grid_Octile l_0_X l_0_Y t12.1 t12.2) fun t24 => (bif (t24 == (wr ((10 : Int) + (wr ((Int.tmod (wr (Int.tmod dir (8 : Int))) (2 : Int)) * (4 : Int)))))) then (Option.bind (F_grid_Chebyshev l_0_X l_0_Y t12.1 t12.2) fun t25 => (bif (t25 == (1 : Int)) then (Option.bind (F_grid_Octile l_0_X l_0_Y l_1_X l_1_Y) fun t26 => (bif ((t26 == (0 : Int)) == ((l_0_X == l_1_X) && (l_0_Y == l_1_Y))) then (Option.bind F_skirmishlaw06_awake fun t27 => (some (CR.mk true (bo t27) [] []))) else (some (CR.mk true (bo false) [] [])))) else (some (CR.mk true (bo false) [] [])))) else (some (CR.mk true (bo false) [] [])))) else (some (CR.mk true (bo false) [] [])))))))))))))))))))))))))))))))) (by kernel_rfl)
    (n_condH rfl (fun h0 => (n_bind fun t => rfl)) fun h0 => (n_condH rfl (fun h1 => (n_bind fun t1 => rfl)) fun h1 => (n_condH rfl (fun h2 => (n_bind fun t2 => rfl)) fun h2 => (n_condH rfl (fun h3 => (n_bind fun t3 => rfl)) fun h3 => (n_condH rfl (fun h4 => (n_bind fun t4 => rfl)) fun h4 => (n_condH rfl (fun h5 => (n_bind fun t5 => rfl)) fun h5 => (n_condH rfl (fun h6 => (n_bind fun t6 => rfl)) fun h6 => (n_condH rfl (fun h7 => (n_bind fun t7 => rfl)) fun h7 => (n_condH rfl (fun h8 => (n_bind fun t8 => rfl)) fun h8 => (n_condH rfl (fun h9 => (n_bind fun t9 => rfl)) fun h9 => (n_condH rfl (fun h10 => (n_bind fun t10 => rfl)) fun h10 => (n_condH rfl (fun h11 => (n_bind fun t11 => rfl)) fun h11 => (n_bind fun t12 => (n_bind fun t13 => (n_bind fun t14 => (n_condH rfl (fun h12 => rfl) fun h12 => (n_bind fun t15 => (n_bind fun t16 => (n_condH rfl (fun h13 => rfl) fun h13 => (n_bind fun t17 => (n_bind fun t18 => (n_bind fun t19 => (n_condH rfl (fun h14 => rfl) fun h14 => (n_bind fun t20 => (n_bind fun t21 => (n_bind fun t22 => (n_condH rfl (fun h15 => rfl) fun h15 => (n_bind fun t23 => (n_condH rfl (fun h16 => (n_bind fun t24 => (n_condH rfl (fun h17 => (n_bind fun t25 => (n_condH rfl (fun h18 => (n_bind fun t26 => (n_condH rfl (fun h19 => (n_bind fun t27 => rfl)) fun h19 => rfl))) fun h18 => rfl))) fun h17 => rfl))) fun h16 => rfl)))))))))))))))))))))))))))))
theorem lib5 : Lib Try.prog noG C5 :=
  Lib.fn lib4 mixed TT_ok Try.func5 (by decide +kernel) (by kernel_rfl) true L5 (loops_of 1 (by kernel_rfl) (belowS below0 okL5_0)) ks5 (F := fun us => F_skirmishlaw06_GridSymmetric (toI (cIa (aggL (cIa us 0)) 0)) (toI (cIa (aggL (cIa us 0)) 1)) (toI (cIa (aggL (cIa us 0)) 2)) (toI (cIa (aggL (cIa us 0)) 3)) (toI (cIa (aggL (cIa us 0)) 4)) (toI (cIa (aggL (cIa us 0)) 5)) (toI (cIa us 1))) (fun us => rfl) (fun us => run5 (toI (cIa (aggL (cIa us 0)) 0)) (toI (cIa (aggL (cIa us 0)) 1)) (toI (cIa (aggL (cIa us 0)) 2)) (toI (cIa (aggL (cIa us 0)) 3)) (toI (cIa (aggL (cIa us 0)) 4)) (toI (cIa (aggL (cIa us 0)) 5)) (toI (cIa us 1))) (fun t => rfl)

/-! ### 25: skirmish/grid.Index -/



/-- 'skirmish/grid.Index' -/
noncomputable def F_grid_Index (w : Int) (p_X : Int) (p_Y : Int) : Option (Int) :=
  Option.bind (F_grid_pos p_X p_Y) fun t =>
  Option.bind (F_grid_near w) fun t1 =>
  some (wr ((wr (t.2 * t1)) + t.1))
noncomputable def enc25 (t : Int) : CR := ⟨true, (.sc (.int .i64 t)), [], []⟩
noncomputable def ks25 : List SK := [.f (.int .i64), .agg [.int .i64, .int .i64]]
noncomputable def S25 (us : List AVal) : Call := bif chkA ks25 us then Call.of (F_grid_Index (toI (cIa us 0)) (toI (cIa (aggL (cIa us 1)) 0)) (toI (cIa (aggL (cIa us 1)) 1))) enc25 else Call.none
noncomputable def C25 := AI.ext 25 S25 C5

theorem run25 (w : Int) (p_X : Int) (p_Y : Int) : fcall TT TU noG C5 ownF true noL Try.f25 [(.sc (.int .i64 w)), (.agg [(.sc (.int .i64 p_X)), (.sc (.int .i64 p_Y))])] = (F_grid_Index w p_X p_Y).bind fun t => some (enc25 t) :=
  Eq.trans (b := (Option.bind (F_grid_pos p_X p_Y) fun t => (Option.bind (F_grid_near w) fun t1 => (some (CR.mk true (i64 (wr ((wr (t.2 * t1)) + t.1))) [] []))))) (by kernel_rfl)
    (n_bind fun t => (n_bind fun t1 => rfl))
theorem lib25 : Lib Try.prog noG C25 :=
  Lib.fn lib5 mixed TT_ok Try.func25 (by decide +kernel) (by kernel_rfl) true noL (loops_of 0 (by kernel_rfl) below0) ks25 (F := fun us => F_grid_Index (toI (cIa us 0)) (toI (cIa (aggL (cIa us 1)) 0)) (toI (cIa (aggL (cIa us 1)) 1))) (fun us => rfl) (fun us => run25 (toI (cIa us 0)) (toI (cIa (aggL (cIa us 1)) 0)) (toI (cIa (aggL (cIa us 1)) 1))) (fun t => rfl)

/-! ### 26: skirmish/skirmishref06.Index -/



/-- 'skirmish/skirmishref06.Index' -/
noncomputable def F_skirmishref06_Index (w : Int) (p_X : Int) (p_Y : Int) : Option (Int) :=
  Option.bind (F_skirmishref06_pos p_X p_Y) fun t =>
  Option.bind (F_skirmishref06_near w) fun t1 =>
  some (wr ((wr (t.2 * t1)) + t.1))
noncomputable def enc26 (t : Int) : CR := ⟨true, (.sc (.int .i64 t)), [], []⟩
noncomputable def ks26 : List SK := [.f (.int .i64), .agg [.int .i64, .int .i64]]
noncomputable def S26 (us : List AVal) : Call := bif chkA ks26 us then Call.of (F_skirmishref06_Index (toI (cIa us 0)) (toI (cIa (aggL (cIa us 1)) 0)) (toI (cIa (aggL (cIa us 1)) 1))) enc26 else Call.none
noncomputable def C26 := AI.ext 26 S26 C25

theorem run26 (w : Int) (p_X : Int) (p_Y : Int) : fcall TT TU noG C25 ownF true noL Try.f26 [(.sc (.int .i64 w)), (.agg [(.sc (.int .i64 p_X)), (.sc (.int .i64 p_Y))])] = (F_skirmishref06_Index w p_X p_Y).bind fun t => some (enc26 t) :=
  Eq.trans (b := (Option.bind (F_skirmishref06_pos p_X p_Y) fun t => (Option.bind (F_skirmishref06_near w) fun t1 => (some (CR.mk true (i64 (wr ((wr (t.2 * t1)) + t.1))) [] []))))) (by kernel_rfl)
    (n_bind fun t => (n_bind fun t1 => rfl))
theorem lib26 : Lib Try.prog noG C26 :=
  Lib.fn lib25 mixed TT_ok Try.func26 (by decide +kernel) (by kernel_rfl) true noL (loops_of 0 (by kernel_rfl) below0) ks26 (F := fun us => F_skirmishref06_Index (toI (cIa us 0)) (toI (cIa (aggL (cIa us 1)) 0)) (toI (cIa (aggL (cIa us 1)) 1))) (fun us => rfl) (fun us => run26 (toI (cIa us 0)) (toI (cIa (aggL (cIa us 1)) 0)) (toI (cIa (aggL (cIa us 1)) 1))) (fun t => rfl)

/-! ### 27: skirmish/grid.At -/



/-- 'skirmish/grid.At' -/
noncomputable def F_grid_At (w : Int) (index : Int) : Option (Int × Int) :=
  bif (decide (w < (1 : Int))) then
    some ((0 : Int), (0 : Int))
  else
  bif (decide (index < (0 : Int))) then
    some ((0 : Int), (0 : Int))
  else
  bif (w == (0 : Int)) then
    none
  else
  some ((Int.tmod index w), (wr (Int.tdiv index w)))
noncomputable def enc27 (t : Int × Int) : CR := ⟨true, (.agg [(.sc (.int .i64 t.1)), (.sc (.int .i64 t.2))]), [], []⟩
noncomputable def ks27 : List SK := [.f (.int .i64), .f (.int .i64)]
noncomputable def S27 (us : List AVal) : Call := bif chkA ks27 us then Call.of (F_grid_At (toI (cIa us 0)) (toI (cIa us 1))) enc27 else Call.none
noncomputable def C27 := AI.ext 27 S27 C26

theorem run27 (w : Int) (index : Int) : fcall TT TU noG C26 ownF true noL Try.f27 [(.sc (.int .i64 w)), (.sc (.int .i64 index))] = (F_grid_At w index).bind fun t => some (enc27 t) :=
  Eq.trans (b := (bif (decide (w < (1 : Int))) then (some (CR.mk true (AVal.agg [(i64 (0 : Int)), (i64 (0 : Int))]) [] [])) else (bif (decide (index < (0 : Int))) then (some (CR.mk true (AVal.agg [(i64 (0 : Int)), (i64 (0 : Int))]) [] [])) else (bif (w == (0 : Int)) then none else (bif (w == (0 : Int)) then none else (some (CR.mk true (AVal.agg [(i64 (Int.tmod index w)), (i64 (wr (Int.tdiv index w)))]) [] []))))))) (by kernel_rfl)
    (n_condH rfl (fun h0 => rfl) fun h0 => (n_condH rfl (fun h1 => rfl) fun h1 => (n_condH rfl (fun h2 => n_none) fun h2 => (n_false h2 rfl))))
theorem lib27 : Lib Try.prog noG C27 :=
  Lib.fn lib26 mixed TT_ok Try.func27 (by decide +kernel) (by kernel_rfl) true noL (loops_of 0 (by kernel_rfl) below0) ks27 (F := fun us => F_grid_At (toI (cIa us 0)) (toI (cIa us 1))) (fun us => rfl) (fun us => run27 (toI (cIa us 0)) (toI (cIa us 1))) (fun t => rfl)

/-! ### 28: skirmish/skirmishref06.At -/



/-- 'skirmish/skirmishref06.At' -/
noncomputable def F_skirmishref06_At (w : Int) (index : Int) : Option (Int × Int) :=
  bif (decide (w < (1 : Int))) then
    some ((0 : Int), (0 : Int))
  else
  bif (decide (index < (0 : Int))) then
    some ((0 : Int), (0 : Int))
  else
  bif (w == (0 : Int)) then
    none
  else
  some ((Int.tmod index w), (wr (Int.tdiv index w)))
noncomputable def enc28 (t : Int × Int) : CR := ⟨true, (.agg [(.sc (.int .i64 t.1)), (.sc (.int .i64 t.2))]), [], []⟩
noncomputable def ks28 : List SK := [.f (.int .i64), .f (.int .i64)]
noncomputable def S28 (us : List AVal) : Call := bif chkA ks28 us then Call.of (F_skirmishref06_At (toI (cIa us 0)) (toI (cIa us 1))) enc28 else Call.none
noncomputable def C28 := AI.ext 28 S28 C27

theorem run28 (w : Int) (index : Int) : fcall TT TU noG C27 ownF true noL Try.f28 [(.sc (.int .i64 w)), (.sc (.int .i64 index))] = (F_skirmishref06_At w index).bind fun t => some (enc28 t) :=
  Eq.trans (b := (bif (decide (w < (1 : Int))) then (some (CR.mk true (AVal.agg [(i64 (0 : Int)), (i64 (0 : Int))]) [] [])) else (bif (decide (index < (0 : Int))) then (some (CR.mk true (AVal.agg [(i64 (0 : Int)), (i64 (0 : Int))]) [] [])) else (bif (w == (0 : Int)) then none else (bif (w == (0 : Int)) then none else (some (CR.mk true (AVal.agg [(i64 (Int.tmod index w)), (i64 (wr (Int.tdiv index w)))]) [] []))))))) (by kernel_rfl)
    (n_condH rfl (fun h0 => rfl) fun h0 => (n_condH rfl (fun h1 => rfl) fun h1 => (n_condH rfl (fun h2 => n_none) fun h2 => (n_false h2 rfl))))
theorem lib28 : Lib Try.prog noG C28 :=
  Lib.fn lib27 mixed TT_ok Try.func28 (by decide +kernel) (by kernel_rfl) true noL (loops_of 0 (by kernel_rfl) below0) ks28 (F := fun us => F_skirmishref06_At (toI (cIa us 0)) (toI (cIa us 1))) (fun us => rfl) (fun us => run28 (toI (cIa us 0)) (toI (cIa us 1))) (fun t => rfl)

/-! ### 6: skirmish/skirmishlaw06.GridBasics -/



/-- 'skirmish/skirmishlaw06.GridBasics' -/
noncomputable def F_skirmishlaw06_GridBasics (w : Int) (h : Int) (p_X : Int) (p_Y : Int) : Option (Bool) :=
  Option.bind (F_grid_Valid w h) fun t =>
  Option.bind (F_skirmishref06_Valid w h) fun t1 =>
  bif (t == t1) then
    Option.bind (F_grid_In w h p_X p_Y) fun t2 =>
    Option.bind (F_skirmishref06_In w h p_X p_Y) fun t3 =>
    bif (t2 == t3) then
      Option.bind (F_grid_Index w p_X p_Y) fun t4 =>
      Option.bind (F_skirmishref06_Index w p_X p_Y) fun t5 =>
      bif (t4 == t5) then
        Option.bind (F_grid_At w h) fun t6 =>
        Option.bind (F_skirmishref06_At w h) fun t7 =>
        bif ((t6.1 == t7.1) && (t6.2 == t7.2)) then
          Option.bind (F_grid_At h p_X) fun t8 =>
          Option.bind (F_skirmishref06_At h p_X) fun t9 =>
          bif ((t8.1 == t9.1) && (t8.2 == t9.2)) then
            Option.bind F_skirmishlaw06_awake fun t10 =>
            some t10
          else
          some false
        else
        some false
      else
      some false
    else
    some false
  else
  some false
noncomputable def enc6 (t : Bool) : CR := ⟨true, (.sc (.bool t)), [], []⟩
noncomputable def ks6 : List SK := [.f (.int .i64), .f (.int .i64), .agg [.int .i64, .int .i64]]
noncomputable def S6 (us : List AVal) : Call := bif chkA ks6 us then Call.of (F_skirmishlaw06_GridBasics (toI (cIa us 0)) (toI (cIa us 1)) (toI (cIa (aggL (cIa us 2)) 0)) (toI (cIa (aggL (cIa us 2)) 1))) enc6 else Call.none
noncomputable def C6 := AI.ext 6 S6 C28

theorem run6 (w : Int) (h : Int) (p_X : Int) (p_Y : Int) : fcall TT TU noG C28 ownF true noL Try.f6 [(.sc (.int .i64 w)), (.sc (.int .i64 h)), (.agg [(.sc (.int .i64 p_X)), (.sc (.int .i64 p_Y))])] = (F_skirmishlaw06_GridBasics w h p_X p_Y).bind fun t => some (enc6 t) :=
  Eq.trans (b := (Option.bind (F_grid_Valid w h) fun t => (Option.bind (F_skirmishref06_Valid w h) fun t1 => (bif (t == t1) then (Option.bind (F_grid_In w h p_X p_Y) fun t2 => (Option.bind (F_skirmishref06_In w h p_X p_Y) fun t3 => (bif (t2 == t3) then (Option.bind (F_grid_Index w p_X p_Y) fun t4 => (Option.bind (F_skirmishref06_Index w p_X p_Y) fun t5 => (bif (t4 == t5) then (Option.bind (F_grid_At w h) fun t6 => (Option.bind (F_skirmishref06_At w h) fun t7 => (bif ((t6.1 == t7.1) && (t6.2 == t7.2)) then (Option.bind (F_grid_At h p_X) fun t8 => (Option.bind (F_skirmishref06_At h p_X) fun t9 => (bif ((t8.1 == t9.1) && (t8.2 == t9.2)) then (Option.bind F_skirmishlaw06_awake fun t10 => (some (CR.mk true (bo t10) [] []))) else (some (CR.mk true (bo false) [] []))))) else (some (CR.mk true (bo false) [] []))))) else (some (CR.mk true (bo false) [] []))))) else (some (CR.mk true (bo false) [] []))))) else (some (CR.mk true (bo false) [] [])))))) (by kernel_rfl)
    (n_bind fun t => (n_bind fun t1 => (n_condH rfl (fun h0 => (n_bind fun t2 => (n_bind fun t3 => (n_condH rfl (fun h1 => (n_bind fun t4 => (n_bind fun t5 => (n_condH rfl (fun h2 => (n_bind fun t6 => (n_bind fun t7 => (n_condH rfl (fun h3 => (n_bind fun t8 => (n_bind fun t9 => (n_condH rfl (fun h4 => (n_bind fun t10 => rfl)) fun h4 => rfl)))) fun h3 => rfl)))) fun h2 => rfl)))) fun h1 => rfl)))) fun h0 => rfl)))
theorem lib6 : Lib Try.prog noG C6 :=
  Lib.fn lib28 mixed TT_ok Try.func6 (by decide +kernel) (by kernel_rfl) true noL (loops_of 0 (by kernel_rfl) below0) ks6 (F := fun us => F_skirmishlaw06_GridBasics (toI (cIa us 0)) (toI (cIa us 1)) (toI (cIa (aggL (cIa us 2)) 0)) (toI (cIa (aggL (cIa us 2)) 1))) (fun us => rfl) (fun us => run6 (toI (cIa us 0)) (toI (cIa us 1)) (toI (cIa (aggL (cIa us 2)) 0)) (toI (cIa (aggL (cIa us 2)) 1))) (fun t => rfl)

/-! ### 7: skirmish/skirmishlaw06.GridIndexes -/

noncomputable def W7_0 : Ex → List Bool
  | .ret => [false, false, false, false, false, false, true, false, false, false, false, false, false, false, false, false, false, false, false, false, false, false, false, false, false, false, false, false, false, false, false, false, false, false, false, false, false, false, false, false, false, false, false, false, false, false, false, false, false, false, false, false, false, false, false, false, false, false, false, false, false, false, false, false, false, false, false, false, false, false]
  | .exit n => bif Nat.beq n 0 then [false, false, false, false, false, true, false, true, true, false, false, false, false, false, false, false, false, false, false, false, false, false, false, false, false, false, false, false, false, false, false, false, false, false, false, false, false, false, false, false, false, false, false, false, false, false, false, false, false, false, false, false, false, false, true, true, true, true, true, false, false, true, true, true, true, true, false, false, true, false] else []
  | .normal => []
noncomputable def G_skirmishlaw06_GridIndexes_0 (x : Int) (y : Int) : Nat → Int → Option (Bool × Int × Int)
  | 0, _ => none
  | m + 1, i =>
    bif (decide (i < (wr (x * y)))) then
      Option.bind (F_grid_At x i) fun t =>
      Option.bind (F_grid_In x y t.1 t.2) fun t1 =>
      bif (!t1) then
        some (true, t.1, t.2)
      else
      Option.bind (F_grid_Index x t.1 t.2) fun t2 =>
      bif (t2 != i) then
        some (true, t.1, t.2)
      else
      G_skirmishlaw06_GridIndexes_0 x y m (wr (i + (1 : Int)))
    else
    some (false, 0, 0)
noncomputable def E7_0 (x : Int) (y : Int) (i : Int) (b0_0 : Int) (b0_1 : Int) : St := ⟨[.dead, .dead, .dead, .dead, .dead, (.ref 8000 1 0 0), .dead, (.sc (.int .i64 x)), (.sc (.int .i64 y)), (.sc (.int .i64 i)), .dead, .dead, .dead, .dead, .dead, .dead, .dead, .dead, .dead, .dead, .dead, .dead, .dead, .dead, .dead, .dead, .dead, .dead, .dead, .dead, .dead, .dead, .dead, .dead, .dead, .dead, .dead, .dead, .dead, .dead, .dead, .dead, .dead, .dead, .dead, .dead, .dead, .dead, .dead, .dead, .dead, .dead, .dead, .dead, .dead, .dead, .dead, .dead, .dead, .dead, .dead, .dead, .dead, .dead, .dead, .dead, .dead, .dead, .dead, .dead], [(8000, ⟨.box, 23, 2, [[(.sc (.int .i64 b0_0)), (.sc (.int .i64 b0_1))]]⟩)]⟩
noncomputable def X7_0 (x : Int) (y : Int) (b0_0 : Int) (b0_1 : Int) (k : Ex → St → Option CR) (t : Bool × Int × Int) : Option CR := bif t.1 then k .ret ⟨[.dead, .dead, .dead, .dead, .dead, .dead, (.sc (.bool false)), .dead, .dead, .dead, .dead, .dead, .dead, .dead, .dead, .dead, .dead, .dead, .dead, .dead, .dead, .dead, .dead, .dead, .dead, .dead, .dead, .dead, .dead, .dead, .dead, .dead, .dead, .dead, .dead, .dead, .dead, .dead, .dead, .dead, .dead, .dead, .dead, .dead, .dead, .dead, .dead, .dead, .dead, .dead, .dead, .dead, .dead, .dead, .dead, .dead, .dead, .dead, .dead, .dead, .dead, .dead, .dead, .dead, .dead, .dead, .dead, .dead, .dead, .dead], [(8000, ⟨.box, 23, 2, [[(.sc (.int .i64 b0_0)), (.sc (.int .i64 b0_1))]]⟩), (16024, ⟨.box, 23, 2, [[(.sc (.int .i64 t.2.1)), (.sc (.int .i64 t.2.2))]]⟩)]⟩ else k (.exit 0) ⟨[.dead, .dead, .dead, .dead, .dead, (.ref 8000 1 0 0), .dead, (.sc (.int .i64 x)), (.sc (.int .i64 y)), .dead, .dead, .dead, .dead, .dead, .dead, .dead, .dead, .dead, .dead, .dead, .dead, .dead, .dead, .dead, .dead, .dead, .dead, .dead, .dead, .dead, .dead, .dead, .dead, .dead, .dead, .dead, .dead, .dead, .dead, .dead, .dead, .dead, .dead, .dead, .dead, .dead, .dead, .dead, .dead, .dead, .dead, .dead, .dead, .dead, .dead, .dead, .dead, .dead, .dead, .dead, .dead, .dead, .dead, .dead, .dead, .dead, .dead, .dead, .dead, .dead], [(8000, ⟨.box, 23, 2, [[(.sc (.int .i64 b0_0)), (.sc (.int .i64 b0_1))]]⟩)]⟩
noncomputable def ks7_0 : List SK := [.f .dead, .f .dead, .f .dead, .f .dead, .f .dead, .f (.ref 8000 1 0 0), .f .dead, .f (.int .i64), .f (.int .i64), .f (.int .i64), .f .dead, .f .dead, .f .dead, .f .dead, .f .dead, .f .dead, .f .dead, .f .dead, .f .dead, .f .dead, .f .dead, .f .dead, .f .dead, .f .dead, .f .dead, .f .dead, .f .dead, .f .dead, .f .dead, .f .dead, .f .dead, .f .dead, .f .dead, .f .dead, .f .dead, .f .dead, .f .dead, .f .dead, .f .dead, .f .dead, .f .dead, .f .dead, .f .dead, .f .dead, .f .dead, .f .dead, .f .dead, .f .dead, .f .dead, .f .dead, .f .dead, .f .dead, .f .dead, .f .dead, .f .dead, .f .dead, .f .dead, .f .dead, .f .dead, .f .dead, .f .dead, .f .dead, .f .dead, .f .dead, .f .dead, .f .dead, .f .dead, .f .dead, .f .dead, .f .dead]
noncomputable def hs7_0 : List HK := [⟨8000, .box, 23, 2, some [.int .i64, .int .i64]⟩]
noncomputable def L7_0 (s : St) (k : Ex → St → Option CR) : Option CR := bif chkS ks7_0 hs7_0 s then (G_skirmishlaw06_GridIndexes_0 (toI (cIa s.tmps 7)) (toI (cIa s.tmps 8)) FU (toI (cIa s.tmps 9))).bind (X7_0 (toI (cIa s.tmps 7)) (toI (cIa s.tmps 8)) (toI (cIa (rows0 (blkAt s.heap 0).2) 0)) (toI (cIa (rows0 (blkAt s.heap 0).2) 1)) k) else none

noncomputable def L7 : LT' := fun i s k => bif Nat.beq i 0 then L7_0 s k else none

/-- 'skirmish/skirmishlaw06.GridIndexes' -/
noncomputable def F_skirmishlaw06_GridIndexes (w : Int) (h : Int) (p_X : Int) (p_Y : Int) : Option (Bool) :=
  Option.bind (G_skirmishlaw06_GridIndexes_0 (wr ((wr (Int.tmod w (32 : Int))) + (1 : Int))) (wr ((wr (Int.tmod h (32 : Int))) + (1 : Int))) FU (0 : Int)) fun t =>
  bif t.1 then
    some false
  else
  Option.bind (F_grid_In (wr ((wr (Int.tmod w (32 : Int))) + (1 : Int))) (wr ((wr (Int.tmod h (32 : Int))) + (1 : Int))) p_X p_Y) fun t1 =>
  bif (!t1) then
    Option.bind F_skirmishlaw06_awake fun t2 =>
    some t2
  else
  Option.bind (F_grid_Index (wr ((wr (Int.tmod w (32 : Int))) + (1 : Int))) p_X p_Y) fun t3 =>
  bif (decide (t3 ≥ (0 : Int))) then
    bif (decide (t3 < (wr ((wr ((wr (Int.tmod w (32 : Int))) + (1 : Int))) * (wr ((wr (Int.tmod h (32 : Int))) + (1 : Int))))))) then
      Option.bind (F_grid_At (wr ((wr (Int.tmod w (32 : Int))) + (1 : Int))) t3) fun t4 =>
      bif ((t4.1 == p_X) && (t4.2 == p_Y)) then
        Option.bind F_skirmishlaw06_awake fun t5 =>
        some t5
      else
      some false
    else
    some false
  else
  some false
noncomputable def enc7 (t : Bool) : CR := ⟨true, (.sc (.bool t)), [], []⟩
noncomputable def ks7 : List SK := [.f (.int .u8), .f (.int .u8), .agg [.int .i64, .int .i64]]
noncomputable def S7 (us : List AVal) : Call := bif chkA ks7 us then Call.of (F_skirmishlaw06_GridIndexes (toI (cIa us 0)) (toI (cIa us 1)) (toI (cIa (aggL (cIa us 2)) 0)) (toI (cIa (aggL (cIa us 2)) 1))) enc7 else Call.none
noncomputable def C7 := AI.ext 7 S7 C6

@[reducible] noncomputable def B7_0 := bodyOf TT TU noG C6 ownF L7 (lp Try.f7 0)
@[reducible] noncomputable def K7_0 (k : Ex → St → Option CR) : Ex → St → Option CR := fun e s => k e (maskS (W7_0 e) s)
theorem spec7_0 (k : Ex → St → Option CR) : ∀ (m : Nat) (x : Int) (y : Int) (i : Int) (b0_0 : Int) (b0_1 : Int), loopN B7_0 m (E7_0 x y i b0_0 b0_1) (K7_0 k) = (G_skirmishlaw06_GridIndexes_0 x y m i).bind (X7_0 x y b0_0 b0_1 k)
  | 0, _, _, _, _, _ => rfl
  | m + 1, x, y, i, b0_0, b0_1 =>
    Eq.trans (b := (bif (decide (i < (wr (x * y)))) then (Option.bind (F_grid_At x i) fun t => (Option.bind (F_grid_In x y t.1 t.2) fun t1 => (bif (!t1) then (k .ret ⟨[.dead, .dead, .dead, .dead, .dead, .dead, (bo false), .dead, .dead, .dead, .dead, .dead, .dead, .dead, .dead, .dead, .dead, .dead, .dead, .dead, .dead, .dead, .dead, .dead, .dead, .dead, .dead, .dead, .dead, .dead, .dead, .dead, .dead, .dead, .dead, .dead, .dead, .dead, .dead, .dead, .dead, .dead, .dead, .dead, .dead, .dead, .dead, .dead, .dead, .dead, .dead, .dead, .dead, .dead, .dead, .dead, .dead, .dead, .dead, .dead, .dead, .dead, .dead, .dead, .dead, .dead, .dead, .dead, .dead, .dead], [(Prod.mk 8000 (Blk.mk BKind.box 23 2 [[(i64 b0_0), (i64 b0_1)]])), (Prod.mk 16024 (Blk.mk BKind.box 23 2 [[(i64 t.1), (i64 t.2)]]))]⟩) else (Option.bind (F_grid_Index x t.1 t.2) fun t2 => (bif (t2 != i) then (k .ret ⟨[.dead, .dead, .dead, .dead, .dead, .dead, (bo false), .dead, .dead, .dead, .dead, .dead, .dead, .dead, .dead, .dead, .dead, .dead, .dead, .dead, .dead, .dead, .dead, .dead, .dead, .dead, .dead, .dead, .dead, .dead, .dead, .dead, .dead, .dead, .dead, .dead, .dead, .dead, .dead, .dead, .dead, .dead, .dead, .dead, .dead, .dead, .dead, .dead, .dead, .dead, .dead, .dead, .dead, .dead, .dead, .dead, .dead, .dead, .dead, .dead, .dead, .dead, .dead, .dead, .dead, .dead, .dead, .dead, .dead, .dead], [(Prod.mk 8000 (Blk.mk BKind.box 23 2 [[(i64 b0_0), (i64 b0_1)]])), (Prod.mk 16024 (Blk.mk BKind.box 23 2 [[(i64 t.1), (i64 t.2)]]))]⟩) else (loopN B7_0 m ⟨[.dead, .dead, .dead, .dead, .dead, (AVal.ref 8000 1 0 0), .dead, (i64 x), (i64 y), (i64 (wr (i + (1 : Int)))), .dead, .dead, .dead, .dead, .dead, .dead, .dead, .dead, .dead, .dead, .dead, .dead, .dead, .dead, .dead, .dead, .dead, .dead, .dead, .dead, .dead, .dead, .dead, .dead, .dead, .dead, .dead, .dead, .dead, .dead, .dead, .dead, .dead, .dead, .dead, .dead, .dead, .dead, .dead, .dead, .dead, .dead, .dead, .dead, .dead, .dead, .dead, .dead, .dead, .dead, .dead, .dead, .dead, .dead, .dead, .dead, .dead, .dead, .dead, .dead], [(Prod.mk 8000 (Blk.mk BKind.box 23 2 [[(i64 b0_0), (i64 b0_1)]]))]⟩ (K7_0 k))))))) else (k (.exit 0) ⟨[.dead, .dead, .dead, .dead, .dead, (AVal.ref 8000 1 0 0), .dead, (i64 x), (i64 y), .dead, .dead, .dead, .dead, .dead, .dead, .dead, .dead, .dead, .dead, .dead, .dead, .dead, .dead, .dead, .dead, .dead, .dead, .dead, .dead, .dead, .dead, .dead, .dead, .dead, .dead, .dead, .dead, .dead, .dead, .dead, .dead, .dead, .dead, .dead, .dead, .dead, .dead, .dead, .dead, .dead, .dead, .dead, .dead, .dead, .dead, .dead, .dead, .dead, .dead, .dead, .dead, .dead, .dead, .dead, .dead, .dead, .dead, .dead, .dead, .dead], [(Prod.mk 8000 (Blk.mk BKind.box 23 2 [[(i64 b0_0), (i64 b0_1)]]))]⟩))) (by kernel_rfl)
      (n_condH rfl (fun h0 => (n_bind fun t => (n_bind fun t1 => (n_condH rfl (fun h1 => rfl) fun h1 => (n_bind fun t2 => (n_condH rfl (fun h2 => rfl) fun h2 => (spec7_0 k m x y (wr (i + (1 : Int))) b0_0 b0_1))))))) fun h0 => rfl)
theorem okL7_0 : LoopOk TT TU noG C6 ownF L7 (lp Try.f7 0) :=
  loopOk_of ks7_0 hs7_0 W7_0 FU (fun s k => (G_skirmishlaw06_GridIndexes_0 (toI (cIa s.tmps 7)) (toI (cIa s.tmps 8)) FU (toI (cIa s.tmps 9))).bind (X7_0 (toI (cIa s.tmps 7)) (toI (cIa s.tmps 8)) (toI (cIa (rows0 (blkAt s.heap 0).2) 0)) (toI (cIa (rows0 (blkAt s.heap 0).2) 1)) k)) (fun s k => by kernel_rfl) (fun s k => spec7_0 k FU (toI (cIa s.tmps 7)) (toI (cIa s.tmps 8)) (toI (cIa s.tmps 9)) (toI (cIa (rows0 (blkAt s.heap 0).2) 0)) (toI (cIa (rows0 (blkAt s.heap 0).2) 1)))
theorem run7 (w : Int) (h : Int) (p_X : Int) (p_Y : Int) : fcall TT TU noG C6 ownF true L7 Try.f7 [(.sc (.int .u8 w)), (.sc (.int .u8 h)), (.agg [(.sc (.int .i64 p_X)), (.sc (.int .i64 p_Y))])] = (F_skirmishlaw06_GridIndexes w h p_X p_Y).bind fun t => some (enc7 t) :=
  Eq.trans (b := (Option.bind (G_skirmishlaw06_GridIndexes_0 (wr ((wr (Int.tmod w (32 : Int))) + (1 : Int))) (wr ((wr (Int.tmod h (32 : Int))) + (1 : Int))) FU (0 : Int)) fun t => (bif t.1 then (some (CR.mk true (bo false) [] [])) else (Option.bind (F_grid_In (wr ((wr (Int.tmod w (32 : Int))) + (1 : Int))) (wr ((wr (Int.tmod h (32 : Int))) + (1 : Int))) p_X p_Y) fun t1 => (bif (!t1) then (Option.bind F_skirmishlaw06_awake fun t2 => (some (CR.mk true (bo t2) [] []))) else (Option.bind (F_grid_Index (wr ((wr (Int.tmod w (32 : Int))) + (1 : Int))) p_X p_Y) fun t3 => (bif (decide (t3 ≥ (0 : Int))) then (bif (decide (t3 < (wr ((wr ((wr (Int.tmod w (32 : Int))) + (1 : Int))) * (wr ((wr (Int.tmod h (32 : Int))) + (1 : Int))))))) then (Option.bind (F_grid_At (wr ((wr (Int.tmod w (32 : Int))) + (1 : Int))) t3) fun t4 => (bif ((t4.1 == p_X) && (t4.2 == p_Y)) then (Option.bind F_skirmishlaw06_awake fun t5 => (some (CR.mk true (bo t5) [] []))) else (some (CR.mk true (bo false) [] [])))) else (some (CR.mk true (bo false) [] []))) else (some (CR.mk true (bo false) [] []))))))))) (by kernel_rfl)
    (n_bind fun t => (n_condH rfl (fun h0 => rfl) fun h0 => (n_bind fun t1 => (n_condH rfl (fun h1 => (n_bind fun t2 => rfl)) fun h1 => (n_bind fun t3 => (n_condH rfl (fun h2 => (n_condH rfl (fun h3 => (n_bind fun t4 => (n_condH rfl (fun h4 => (n_bind fun t5 => rfl)) fun h4 => rfl))) fun h3 => rfl)) fun h2 => rfl))))))
theorem lib7 : Lib Try.prog noG C7 :=
  Lib.fn lib6 mixed TT_ok Try.func7 (by decide +kernel) (by kernel_rfl) true L7 (loops_of 1 (by kernel_rfl) (belowS below0 okL7_0)) ks7 (F := fun us => F_skirmishlaw06_GridIndexes (toI (cIa us 0)) (toI (cIa us 1)) (toI (cIa (aggL (cIa us 2)) 0)) (toI (cIa (aggL (cIa us 2)) 1))) (fun us => rfl) (fun us => run7 (toI (cIa us 0)) (toI (cIa us 1)) (toI (cIa (aggL (cIa us 2)) 0)) (toI (cIa (aggL (cIa us 2)) 1))) (fun t => rfl)

/-! ### 29: skirmish/grid.Inside -/



/-- 'skirmish/grid.Inside' -/
noncomputable def F_grid_Inside (r_X : Int) (r_Y : Int) (r_W : Int) (r_H : Int) (p_X : Int) (p_Y : Int) : Option (Bool) :=
  Option.bind (F_grid_rect r_X r_Y r_W r_H) fun t =>
  Option.bind (F_grid_pos p_X p_Y) fun t1 =>
  bif (decide (t1.1 ≥ t.1)) then
    bif (decide (t1.1 < (wr (t.1 + t.2.2.1)))) then
      bif (decide (t1.2 ≥ t.2.1)) then
        some (decide (t1.2 < (wr (t.2.1 + t.2.2.2))))
      else
      some false
    else
    some false
  else
  some false
noncomputable def enc29 (t : Bool) : CR := ⟨true, (.sc (.bool t)), [], []⟩
noncomputable def ks29 : List SK := [.agg [.int .i64, .int .i64, .int .i64, .int .i64], .agg [.int .i64, .int .i64]]
noncomputable def S29 (us : List AVal) : Call := bif chkA ks29 us then Call.of (F_grid_Inside (toI (cIa (aggL (cIa us 0)) 0)) (toI (cIa (aggL (cIa us 0)) 1)) (toI (cIa (aggL (cIa us 0)) 2)) (toI (cIa (aggL (cIa us 0)) 3)) (toI (cIa (aggL (cIa us 1)) 0)) (toI (cIa (aggL (cIa us 1)) 1))) enc29 else Call.none
noncomputable def C29 := AI.ext 29 S29 C7

theorem run29 (r_X : Int) (r_Y : Int) (r_W : Int) (r_H : Int) (p_X : Int) (p_Y : Int) : fcall TT TU noG C7 ownF true noL Try.f29 [(.agg [(.sc (.int .i64 r_X)), (.sc (.int .i64 r_Y)), (.sc (.int .i64 r_W)), (.sc (.int .i64 r_H))]), (.agg [(.sc (.int .i64 p_X)), (.sc (.int .i64 p_Y))])] = (F_grid_Inside r_X r_Y r_W r_H p_X p_Y).bind fun t => some (enc29 t) :=
  Eq.trans (b := (Option.bind (F_grid_rect r_X r_Y r_W r_H) fun t => (Option.bind (F_grid_pos p_X p_Y) fun t1 => (bif (decide (t1.1 ≥ t.1)) then (bif (decide (t1.1 < (wr (t.1 + t.2.2.1)))) then (bif (decide (t1.2 ≥ t.2.1)) then (some (CR.mk true (bo (decide (t1.2 < (wr (t.2.1 + t.2.2.2))))) [] [])) else (some (CR.mk true (bo false) [] []))) else (some (CR.mk true (bo false) [] []))) else (some (CR.mk true (bo false) [] [])))))) (by kernel_rfl)
    (n_bind fun t => (n_bind fun t1 => (n_condH rfl (fun h0 => (n_condH rfl (fun h1 => (n_condH rfl (fun h2 => rfl) fun h2 => rfl)) fun h1 => rfl)) fun h0 => rfl)))
theorem lib29 : Lib Try.prog noG C29 :=
  Lib.fn lib7 mixed TT_ok Try.func29 (by decide +kernel) (by kernel_rfl) true noL (loops_of 0 (by kernel_rfl) below0) ks29 (F := fun us => F_grid_Inside (toI (cIa (aggL (cIa us 0)) 0)) (toI (cIa (aggL (cIa us 0)) 1)) (toI (cIa (aggL (cIa us 0)) 2)) (toI (cIa (aggL (cIa us 0)) 3)) (toI (cIa (aggL (cIa us 1)) 0)) (toI (cIa (aggL (cIa us 1)) 1))) (fun us => rfl) (fun us => run29 (toI (cIa (aggL (cIa us 0)) 0)) (toI (cIa (aggL (cIa us 0)) 1)) (toI (cIa (aggL (cIa us 0)) 2)) (toI (cIa (aggL (cIa us 0)) 3)) (toI (cIa (aggL (cIa us 1)) 0)) (toI (cIa (aggL (cIa us 1)) 1))) (fun t => rfl)

/-! ### 46: skirmish/skirmishref06.rect -/



/-- 'skirmish/skirmishref06.rect' -/
noncomputable def F_skirmishref06_rect (r_X : Int) (r_Y : Int) (r_W : Int) (r_H : Int) : Option (Int × Int × Int × Int) :=
  Option.bind (F_skirmishref06_near r_X) fun t =>
  Option.bind (F_skirmishref06_near r_Y) fun t1 =>
  Option.bind (F_skirmishref06_near r_W) fun t2 =>
  Option.bind (F_skirmishref06_near r_H) fun t3 =>
  some (t, t1, t2, t3)
noncomputable def enc46 (t : Int × Int × Int × Int) : CR := ⟨true, (.agg [(.sc (.int .i64 t.1)), (.sc (.int .i64 t.2.1)), (.sc (.int .i64 t.2.2.1)), (.sc (.int .i64 t.2.2.2))]), [], []⟩
noncomputable def ks46 : List SK := [.agg [.int .i64, .int .i64, .int .i64, .int .i64]]
noncomputable def S46 (us : List AVal) : Call := bif chkA ks46 us then Call.of (F_skirmishref06_rect (toI (cIa (aggL (cIa us 0)) 0)) (toI (cIa (aggL (cIa us 0)) 1)) (toI (cIa (aggL (cIa us 0)) 2)) (toI (cIa (aggL (cIa us 0)) 3))) enc46 else Call.none
noncomputable def C46 := AI.ext 46 S46 C29

theorem run46 (r_X : Int) (r_Y : Int) (r_W : Int) (r_H : Int) : fcall TT TU noG C29 ownF true noL Try.f46 [(.agg [(.sc (.int .i64 r_X)), (.sc (.int .i64 r_Y)), (.sc (.int .i64 r_W)), (.sc (.int .i64 r_H))])] = (F_skirmishref06_rect r_X r_Y r_W r_H).bind fun t => some (enc46 t) :=
  Eq.trans (b := (Option.bind (F_skirmishref06_near r_X) fun t => (Option.bind (F_skirmishref06_near r_Y) fun t1 => (Option.bind (F_skirmishref06_near r_W) fun t2 => (Option.bind (F_skirmishref06_near r_H) fun t3 => (some (CR.mk true (AVal.agg [(i64 t), (i64 t1), (i64 t2), (i64 t3)]) [] []))))))) (by kernel_rfl)
    (n_bind fun t => (n_bind fun t1 => (n_bind fun t2 => (n_bind fun t3 => rfl))))
theorem lib46 : Lib Try.prog noG C46 :=
  Lib.fn lib29 mixed TT_ok Try.func46 (by decide +kernel) (by kernel_rfl) true noL (loops_of 0 (by kernel_rfl) below0) ks46 (F := fun us => F_skirmishref06_rect (toI (cIa (aggL (cIa us 0)) 0)) (toI (cIa (aggL (cIa us 0)) 1)) (toI (cIa (aggL (cIa us 0)) 2)) (toI (cIa (aggL (cIa us 0)) 3))) (fun us => rfl) (fun us => run46 (toI (cIa (aggL (cIa us 0)) 0)) (toI (cIa (aggL (cIa us 0)) 1)) (toI (cIa (aggL (cIa us 0)) 2)) (toI (cIa (aggL (cIa us 0)) 3))) (fun t => rfl)

/-! ### 30: skirmish/skirmishref06.Inside -/



/-- 'skirmish/skirmishref06.Inside' -/
noncomputable def F_skirmishref06_Inside (r_X : Int) (r_Y : Int) (r_W : Int) (r_H : Int) (p_X : Int) (p_Y : Int) : Option (Bool) :=
  Option.bind (F_skirmishref06_rect r_X r_Y r_W r_H) fun t =>
  Option.bind (F_skirmishref06_pos p_X p_Y) fun t1 =>
  bif (decide (t1.1 ≥ t.1)) then
    bif (decide (t1.1 < (wr (t.1 + t.2.2.1)))) then
      bif (decide (t1.2 ≥ t.2.1)) then
        some (decide (t1.2 < (wr (t.2.1 + t.2.2.2))))
      else
      some false
    else
    some false
  else
  some false
noncomputable def enc30 (t : Bool) : CR := ⟨true, (.sc (.bool t)), [], []⟩
noncomputable def ks30 : List SK := [.agg [.int .i64, .int .i64, .int .i64, .int .i64], .agg [.int .i64, .int .i64]]
noncomputable def S30 (us : List AVal) : Call := bif chkA ks30 us then Call.of (F_skirmishref06_Inside (toI (cIa (aggL (cIa us 0)) 0)) (toI (cIa (aggL (cIa us 0)) 1)) (toI (cIa (aggL (cIa us 0)) 2)) (toI (cIa (aggL (cIa us 0)) 3)) (toI (cIa (aggL (cIa us 1)) 0)) (toI (cIa (aggL (cIa us 1)) 1))) enc30 else Call.none
noncomputable def C30 := AI.ext 30 S30 C46

theorem run30 (r_X : Int) (r_Y : Int) (r_W : Int) (r_H : Int) (p_X : Int) (p_Y : Int) : fcall TT TU noG C46 ownF true noL Try.f30 [(.agg [(.sc (.int .i64 r_X)), (.sc (.int .i64 r_Y)), (.sc (.int .i64 r_W)), (.sc (.int .i64 r_H))]), (.agg [(.sc (.int .i64 p_X)), (.sc (.int .i64 p_Y))])] = (F_skirmishref06_Inside r_X r_Y r_W r_H p_X p_Y).bind fun t => some (enc30 t) :=
  Eq.trans (b := (Option.bind (F_skirmishref06_rect r_X r_Y r_W r_H) fun t => (Option.bind (F_skirmishref06_pos p_X p_Y) fun t1 => (bif (decide (t1.1 ≥ t.1)) then (bif (decide (t1.1 < (wr (t.1 + t.2.2.1)))) then (bif (decide (t1.2 ≥ t.2.1)) then (some (CR.mk true (bo (decide (t1.2 < (wr (t.2.1 + t.2.2.2))))) [] [])) else (some (CR.mk true (bo false) [] []))) else (some (CR.mk true (bo false) [] []))) else (some (CR.mk true (bo false) [] [])))))) (by kernel_rfl)
    (n_bind fun t => (n_bind fun t1 => (n_condH rfl (fun h0 => (n_condH rfl (fun h1 => (n_condH rfl (fun h2 => rfl) fun h2 => rfl)) fun h1 => rfl)) fun h0 => rfl)))
theorem lib30 : Lib Try.prog noG C30 :=
  Lib.fn lib46 mixed TT_ok Try.func30 (by decide +kernel) (by kernel_rfl) true noL (loops_of 0 (by kernel_rfl) below0) ks30 (F := fun us => F_skirmishref06_Inside (toI (cIa (aggL (cIa us 0)) 0)) (toI (cIa (aggL (cIa us 0)) 1)) (toI (cIa (aggL (cIa us 0)) 2)) (toI (cIa (aggL (cIa us 0)) 3)) (toI (cIa (aggL (cIa us 1)) 0)) (toI (cIa (aggL (cIa us 1)) 1))) (fun us => rfl) (fun us => run30 (toI (cIa (aggL (cIa us 0)) 0)) (toI (cIa (aggL (cIa us 0)) 1)) (toI (cIa (aggL (cIa us 0)) 2)) (toI (cIa (aggL (cIa us 0)) 3)) (toI (cIa (aggL (cIa us 1)) 0)) (toI (cIa (aggL (cIa us 1)) 1))) (fun t => rfl)

/-! ### 48: skirmish/skirmishref06.common -/



/-- 'skirmish/skirmishref06.common' -/
noncomputable def F_skirmishref06_common (a_X : Int) (a_Y : Int) (a_W : Int) (a_H : Int) (b_X : Int) (b_Y : Int) (b_W : Int) (b_H : Int) : Option (Int × Int × Int × Int) :=
  bif (decide (a_W < (1 : Int))) then
    some ((0 : Int), (0 : Int), (0 : Int), (0 : Int))
  else
  bif (decide (a_H < (1 : Int))) then
    some ((0 : Int), (0 : Int), (0 : Int), (0 : Int))
  else
  bif (decide (b_W < (1 : Int))) then
    some ((0 : Int), (0 : Int), (0 : Int), (0 : Int))
  else
  bif (decide (b_H < (1 : Int))) then
    some ((0 : Int), (0 : Int), (0 : Int), (0 : Int))
  else
  bif (decide ((wr ((minI (wr (a_X + a_W)) (wr (b_X + b_W))) - (maxI a_X b_X))) < (1 : Int))) then
    some ((0 : Int), (0 : Int), (0 : Int), (0 : Int))
  else
  bif (decide ((wr ((minI (wr (a_Y + a_H)) (wr (b_Y + b_H))) - (maxI a_Y b_Y))) < (1 : Int))) then
    some ((0 : Int), (0 : Int), (0 : Int), (0 : Int))
  else
  some ((maxI a_X b_X), (maxI a_Y b_Y), (wr ((minI (wr (a_X + a_W)) (wr (b_X + b_W))) - (maxI a_X b_X))), (wr ((minI (wr (a_Y + a_H)) (wr (b_Y + b_H))) - (maxI a_Y b_Y))))
noncomputable def enc48 (t : Int × Int × Int × Int) : CR := ⟨true, (.agg [(.sc (.int .i64 t.1)), (.sc (.int .i64 t.2.1)), (.sc (.int .i64 t.2.2.1)), (.sc (.int .i64 t.2.2.2))]), [], []⟩
noncomputable def ks48 : List SK := [.agg [.int .i64, .int .i64, .int .i64, .int .i64], .agg [.int .i64, .int .i64, .int .i64, .int .i64]]
noncomputable def S48 (us : List AVal) : Call := bif chkA ks48 us then Call.of (F_skirmishref06_common (toI (cIa (aggL (cIa us 0)) 0)) (toI (cIa (aggL (cIa us 0)) 1)) (toI (cIa (aggL (cIa us 0)) 2)) (toI (cIa (aggL (cIa us 0)) 3)) (toI (cIa (aggL (cIa us 1)) 0)) (toI (cIa (aggL (cIa us 1)) 1)) (toI (cIa (aggL (cIa us 1)) 2)) (toI (cIa (aggL (cIa us 1)) 3))) enc48 else Call.none
noncomputable def C48 := AI.ext 48 S48 C30

theorem run48 (a_X : Int) (a_Y : Int) (a_W : Int) (a_H : Int) (b_X : Int) (b_Y : Int) (b_W : Int) (b_H : Int) : fcall TT TU noG C30 ownF true noL Try.f48 [(.agg [(.sc (.int .i64 a_X)), (.sc (.int .i64 a_Y)), (.sc (.int .i64 a_W)), (.sc (.int .i64 a_H))]), (.agg [(.sc (.int .i64 b_X)), (.sc (.int .i64 b_Y)), (.sc (.int .i64 b_W)), (.sc (.int .i64 b_H))])] = (F_skirmishref06_common a_X a_Y a_W a_H b_X b_Y b_W b_H).bind fun t => some (enc48 t) :=
  Eq.trans (b := (bif (decide (a_W < (1 : Int))) then (some (CR.mk true (AVal.agg [(i64 (0 : Int)), (i64 (0 : Int)), (i64 (0 : Int)), (i64 (0 : Int))]) [] [])) else (bif (decide (a_H < (1 : Int))) then (some (CR.mk true (AVal.agg [(i64 (0 : Int)), (i64 (0 : Int)), (i64 (0 : Int)), (i64 (0 : Int))]) [] [])) else (bif (decide (b_W < (1 : Int))) then (some (CR.mk true (AVal.agg [(i64 (0 : Int)), (i64 (0 : Int)), (i64 (0 : Int)), (i64 (0 : Int))]) [] [])) else (bif (decide (b_H < (1 : Int))) then (some (CR.mk true (AVal.agg [(i64 (0 : Int)), (i64 (0 : Int)), (i64 (0 : Int)), (i64 (0 : Int))]) [] [])) else (bif (decide ((wr ((minI (wr (a_X + a_W)) (wr (b_X + b_W))) - (maxI a_X b_X))) < (1 : Int))) then (some (CR.mk true (AVal.agg [(i64 (0 : Int)), (i64 (0 : Int)), (i64 (0 : Int)), (i64 (0 : Int))]) [] [])) else (bif (decide ((wr ((minI (wr (a_Y + a_H)) (wr (b_Y + b_H))) - (maxI a_Y b_Y))) < (1 : Int))) then (some (CR.mk true (AVal.agg [(i64 (0 : Int)), (i64 (0 : Int)), (i64 (0 : Int)), (i64 (0 : Int))]) [] [])) else (some (CR.mk true (AVal.agg [(i64 (maxI a_X b_X)), (i64 (maxI a_Y b_Y)), (i64 (wr ((minI (wr (a_X + a_W)) (wr (b_X + b_W))) - (maxI a_X b_X)))), (i64 (wr ((minI (wr (a_Y + a_H)) (wr (b_Y + b_H))) - (maxI a_Y b_Y))))]) [] []))))))))) (by kernel_rfl)
    (n_condH rfl (fun h0 => rfl) fun h0 => (n_condH rfl (fun h1 => rfl) fun h1 => (n_condH rfl (fun h2 => rfl) fun h2 => (n_condH rfl (fun h3 => rfl) fun h3 => (n_condH rfl (fun h4 => rfl) fun h4 => (n_condH rfl (fun h5 => rfl) fun h5 => rfl))))))
theorem lib48 : Lib Try.prog noG C48 :=
  Lib.fn lib30 mixed TT_ok Try.func48 (by decide +kernel) (by kernel_rfl) true noL (loops_of 0 (by kernel_rfl) below0) ks48 (F := fun us => F_skirmishref06_common (toI (cIa (aggL (cIa us 0)) 0)) (toI (cIa (aggL (cIa us 0)) 1)) (toI (cIa (aggL (cIa us 0)) 2)) (toI (cIa (aggL (cIa us 0)) 3)) (toI (cIa (aggL (cIa us 1)) 0)) (toI (cIa (aggL (cIa us 1)) 1)) (toI (cIa (aggL (cIa us 1)) 2)) (toI (cIa (aggL (cIa us 1)) 3))) (fun us => rfl) (fun us => run48 (toI (cIa (aggL (cIa us 0)) 0)) (toI (cIa (aggL (cIa us 0)) 1)) (toI (cIa (aggL (cIa us 0)) 2)) (toI (cIa (aggL (cIa us 0)) 3)) (toI (cIa (aggL (cIa us 1)) 0)) (toI (cIa (aggL (cIa us 1)) 1)) (toI (cIa (aggL (cIa us 1)) 2)) (toI (cIa (aggL (cIa us 1)) 3))) (fun t => rfl)

/-! ### 32: skirmish/skirmishref06.Clip -/



/-- 'skirmish/skirmishref06.Clip' -/
noncomputable def F_skirmishref06_Clip (w : Int) (h : Int) (r_X : Int) (r_Y : Int) (r_W : Int) (r_H : Int) : Option (Int × Int × Int × Int) :=
  Option.bind (F_skirmishref06_rect (0 : Int) (0 : Int) w h) fun t =>
  Option.bind (F_skirmishref06_rect r_X r_Y r_W r_H) fun t1 =>
  Option.bind (F_skirmishref06_common t.1 t.2.1 t.2.2.1 t.2.2.2 t1.1 t1.2.1 t1.2.2.1 t1.2.2.2) fun t2 =>
  some (t2.1, t2.2.1, t2.2.2.1, t2.2.2.2)
noncomputable def enc32 (t : Int × Int × Int × Int) : CR := ⟨true, (.agg [(.sc (.int .i64 t.1)), (.sc (.int .i64 t.2.1)), (.sc (.int .i64 t.2.2.1)), (.sc (.int .i64 t.2.2.2))]), [], []⟩
noncomputable def ks32 : List SK := [.f (.int .i64), .f (.int .i64), .agg [.int .i64, .int .i64, .int .i64, .int .i64]]
noncomputable def S32 (us : List AVal) : Call := bif chkA ks32 us then Call.of (F_skirmishref06_Clip (toI (cIa us 0)) (toI (cIa us 1)) (toI (cIa (aggL (cIa us 2)) 0)) (toI (cIa (aggL (cIa us 2)) 1)) (toI (cIa (aggL (cIa us 2)) 2)) (toI (cIa (aggL (cIa us 2)) 3))) enc32 else Call.none
noncomputable def C32 := AI.ext 32 S32 C48

theorem run32 (w : Int) (h : Int) (r_X : Int) (r_Y : Int) (r_W : Int) (r_H : Int) : fcall TT TU noG C48 ownF true noL Try.f32 [(.sc (.int .i64 w)), (.sc (.int .i64 h)), (.agg [(.sc (.int .i64 r_X)), (.sc (.int .i64 r_Y)), (.sc (.int .i64 r_W)), (.sc (.int .i64 r_H))])] = (F_skirmishref06_Clip w h r_X r_Y r_W r_H).bind fun t => some (enc32 t) :=
  Eq.trans (b := (Option.bind (F_skirmishref06_rect (0 : Int) (0 : Int) w h) fun t => (Option.bind (F_skirmishref06_rect r_X r_Y r_W r_H) fun t1 => (Option.bind (F_skirmishref06_common t.1 t.2.1 t.2.2.1 t.2.2.2 t1.1 t1.2.1 t1.2.2.1 t1.2.2.2) fun t2 => (some (CR.mk true (AVal.agg [(i64 t2.1), (i64 t2.2.1), (i64 t2.2.2.1), (i64 t2.2.2.2)]) [] [])))))) (by kernel_rfl)
    (n_bind fun t => (n_bind fun t1 => (n_bind fun t2 => rfl)))
theorem lib32 : Lib Try.prog noG C32 :=
  Lib.fn lib48 mixed TT_ok Try.func32 (by decide +kernel) (by kernel_rfl) true noL (loops_of 0 (by kernel_rfl) below0) ks32 (F := fun us => F_skirmishref06_Clip (toI (cIa us 0)) (toI (cIa us 1)) (toI (cIa (aggL (cIa us 2)) 0)) (toI (cIa (aggL (cIa us 2)) 1)) (toI (cIa (aggL (cIa us 2)) 2)) (toI (cIa (aggL (cIa us 2)) 3))) (fun us => rfl) (fun us => run32 (toI (cIa us 0)) (toI (cIa us 1)) (toI (cIa (aggL (cIa us 2)) 0)) (toI (cIa (aggL (cIa us 2)) 1)) (toI (cIa (aggL (cIa us 2)) 2)) (toI (cIa (aggL (cIa us 2)) 3))) (fun t => rfl)

/-! ### 33: skirmish/grid.Cells -/

noncomputable def W33_0 : Ex → List Bool
  | .ret => [false, false, true, false, false, false, false, false, false, false, false, false, false, false, false, false, false, false, false, false, false, false, false, false, false, false, false, false, false, false, false, false, false, false, false, false, false, false, false, false, false, false, false, false, false, false, false, false, false, false]
  | .exit n => bif Nat.beq n 0 then [false, false, false, false, true, false, false, false, false, false, false, false, false, false, false, false, false, false, false, false, false, false, false, false, false, false, false, false, false, false, false, false, false, false, false, false, false, false, false, false, false, false, false, false, false, false, false, false, false, false] else []
  | .normal => []
noncomputable def W33_1 : Ex → List Bool
  | .ret => [false, false, true, false, false, false, false, false, false, false, false, false, false, false, false, false, false, false, false, false, false, false, false, false, false, false, false, false, false, false, false, false, false, false, false, false, false, false, false, false, false, false, false, false, false, false, false, false, false, false]
  | .exit n => bif Nat.beq n 2 then [false, false, false, true, true, false, false, false, false, false, false, false, false, false, false, false, false, false, false, false, false, false, false, false, false, false, true, true, false, false, false, false, false, false, false, false, false, false, false, false, false, false, false, false, false, false, false, false, false, false] else bif Nat.beq n 1 then [false, false, false, true, true, false, false, false, false, false, false, false, false, false, false, false, false, false, false, false, false, false, false, false, false, false, true, true, false, false, false, false, false, false, false, false, false, false, false, false, false, false, false, false, false, false, false, false, false, false] else bif Nat.beq n 0 then [false, false, false, false, true, false, false, false, false, false, false, false, false, false, false, false, false, false, false, false, false, false, false, false, false, false, false, false, false, false, false, false, false, false, false, false, false, false, false, false, false, false, false, false, false, false, false, false, false, false] else []
  | .normal => []
noncomputable def G_grid_Cells_1 (j : Int) (x31 : Int) (b2_0 : Int) (b2_1 : Int) : Nat → List (List AVal) → Int → Option (List (List AVal))
  | 0, _, _ => none
  | m + 1, R3, x32 =>
    bif (decide (x32 < x31)) then
      bif (roomOk (R3.length + 1) 16) then
        G_grid_Cells_1 j x31 b2_0 b2_1 m (R3 ++ [[(i64 (wr (b2_0 + x32))), (i64 (wr (b2_1 + j)))]]) (wr (x32 + (1 : Int)))
      else
      none
    else
    some R3
noncomputable def E33_1 (R1 : List (List AVal)) (R3 : List (List AVal)) (j : Int) (x26 : Int) (x27 : Int) (x31 : Int) (x32 : Int) (b0_0 : Int) (b0_1 : Int) (b0_2 : Int) (b0_3 : Int) (b2_0 : Int) (b2_1 : Int) (b2_2 : Int) (b2_3 : Int) : St := ⟨[.dead, .dead, .dead, (.ref 9616 1 0 0), (.slc 14400 (R3).length), (.sc (.int .i64 j)), .dead, .dead, .dead, .dead, .dead, .dead, .dead, .dead, .dead, .dead, .dead, .dead, .dead, .dead, .dead, .dead, .dead, .dead, .dead, .dead, (.sc (.int .i64 x26)), (.sc (.int .i64 x27)), .dead, .dead, .dead, (.sc (.int .i64 x31)), (.sc (.int .i64 x32)), .dead, .dead, .dead, .dead, .dead, .dead, .dead, .dead, .dead, .dead, .dead, .dead, .dead, .dead, .dead, .dead, .dead], [(8000, ⟨.box, 39, 4, [[(.sc (.int .i64 b0_0)), (.sc (.int .i64 b0_1)), (.sc (.int .i64 b0_2)), (.sc (.int .i64 b0_3))]]⟩), (8008, ⟨.arr, 23, 2, R1⟩), (9616, ⟨.box, 39, 4, [[(.sc (.int .i64 b2_0)), (.sc (.int .i64 b2_1)), (.sc (.int .i64 b2_2)), (.sc (.int .i64 b2_3))]]⟩), (14400, ⟨.arr, 23, 2, R3⟩)]⟩
noncomputable def X33_1 (R1 : List (List AVal)) (x26 : Int) (x27 : Int) (b0_0 : Int) (b0_1 : Int) (b0_2 : Int) (b0_3 : Int) (b2_0 : Int) (b2_1 : Int) (b2_2 : Int) (b2_3 : Int) (k : Ex → St → Option CR) (t : List (List AVal)) : Option CR := k (.exit 2) ⟨[.dead, .dead, .dead, (.ref 9616 1 0 0), (.slc 14400 (t).length), .dead, .dead, .dead, .dead, .dead, .dead, .dead, .dead, .dead, .dead, .dead, .dead, .dead, .dead, .dead, .dead, .dead, .dead, .dead, .dead, .dead, (.sc (.int .i64 x26)), (.sc (.int .i64 x27)), .dead, .dead, .dead, .dead, .dead, .dead, .dead, .dead, .dead, .dead, .dead, .dead, .dead, .dead, .dead, .dead, .dead, .dead, .dead, .dead, .dead, .dead], [(8000, ⟨.box, 39, 4, [[(.sc (.int .i64 b0_0)), (.sc (.int .i64 b0_1)), (.sc (.int .i64 b0_2)), (.sc (.int .i64 b0_3))]]⟩), (8008, ⟨.arr, 23, 2, R1⟩), (9616, ⟨.box, 39, 4, [[(.sc (.int .i64 b2_0)), (.sc (.int .i64 b2_1)), (.sc (.int .i64 b2_2)), (.sc (.int .i64 b2_3))]]⟩), (14400, ⟨.arr, 23, 2, t⟩)]⟩
noncomputable def ks33_1 : List SK := [.f .dead, .f .dead, .f .dead, .f (.ref 9616 1 0 0), .f (.slc 14400 3), .f (.int .i64), .f .dead, .f .dead, .f .dead, .f .dead, .f .dead, .f .dead, .f .dead, .f .dead, .f .dead, .f .dead, .f .dead, .f .dead, .f .dead, .f .dead, .f .dead, .f .dead, .f .dead, .f .dead, .f .dead, .f .dead, .f (.int .i64), .f (.int .i64), .f .dead, .f .dead, .f .dead, .f (.int .i64), .f (.int .i64), .f .dead, .f .dead, .f .dead, .f .dead, .f .dead, .f .dead, .f .dead, .f .dead, .f .dead, .f .dead, .f .dead, .f .dead, .f .dead, .f .dead, .f .dead, .f .dead, .f .dead]
noncomputable def hs33_1 : List HK := [⟨8000, .box, 39, 4, some [.int .i64, .int .i64, .int .i64, .int .i64]⟩, ⟨8008, .arr, 23, 2, none⟩, ⟨9616, .box, 39, 4, some [.int .i64, .int .i64, .int .i64, .int .i64]⟩, ⟨14400, .arr, 23, 2, none⟩]
noncomputable def L33_1 (s : St) (k : Ex → St → Option CR) : Option CR := bif chkS ks33_1 hs33_1 s then (G_grid_Cells_1 (toI (cIa s.tmps 5)) (toI (cIa s.tmps 31)) (toI (cIa (rows0 (blkAt s.heap 2).2) 0)) (toI (cIa (rows0 (blkAt s.heap 2).2) 1)) FU (blkAt s.heap 3).2.rows (toI (cIa s.tmps 32))).bind (X33_1 (blkAt s.heap 1).2.rows (toI (cIa s.tmps 26)) (toI (cIa s.tmps 27)) (toI (cIa (rows0 (blkAt s.heap 0).2) 0)) (toI (cIa (rows0 (blkAt s.heap 0).2) 1)) (toI (cIa (rows0 (blkAt s.heap 0).2) 2)) (toI (cIa (rows0 (blkAt s.heap 0).2) 3)) (toI (cIa (rows0 (blkAt s.heap 2).2) 0)) (toI (cIa (rows0 (blkAt s.heap 2).2) 1)) (toI (cIa (rows0 (blkAt s.heap 2).2) 2)) (toI (cIa (rows0 (blkAt s.heap 2).2) 3)) k) else none
noncomputable def G_grid_Cells_0 (x26 : Int) (b2_0 : Int) (b2_1 : Int) (b2_2 : Int) : Nat → List (List AVal) → Int → Option (List (List AVal))
  | 0, _, _ => none
  | m + 1, R3, x27 =>
    bif (decide (x27 < x26)) then
      Option.bind (G_grid_Cells_1 x27 b2_2 b2_0 b2_1 FU R3 (0 : Int)) fun t =>
      G_grid_Cells_0 x26 b2_0 b2_1 b2_2 m t (wr (x27 + (1 : Int)))
    else
    some R3
noncomputable def E33_0 (R1 : List (List AVal)) (R3 : List (List AVal)) (x26 : Int) (x27 : Int) (b0_0 : Int) (b0_1 : Int) (b0_2 : Int) (b0_3 : Int) (b2_0 : Int) (b2_1 : Int) (b2_2 : Int) (b2_3 : Int) : St := ⟨[.dead, .dead, .dead, (.ref 9616 1 0 0), (.slc 14400 (R3).length), .dead, .dead, .dead, .dead, .dead, .dead, .dead, .dead, .dead, .dead, .dead, .dead, .dead, .dead, .dead, .dead, .dead, .dead, .dead, .dead, .dead, (.sc (.int .i64 x26)), (.sc (.int .i64 x27)), .dead, .dead, .dead, .dead, .dead, .dead, .dead, .dead, .dead, .dead, .dead, .dead, .dead, .dead, .dead, .dead, .dead, .dead, .dead, .dead, .dead, .dead], [(8000, ⟨.box, 39, 4, [[(.sc (.int .i64 b0_0)), (.sc (.int .i64 b0_1)), (.sc (.int .i64 b0_2)), (.sc (.int .i64 b0_3))]]⟩), (8008, ⟨.arr, 23, 2, R1⟩), (9616, ⟨.box, 39, 4, [[(.sc (.int .i64 b2_0)), (.sc (.int .i64 b2_1)), (.sc (.int .i64 b2_2)), (.sc (.int .i64 b2_3))]]⟩), (14400, ⟨.arr, 23, 2, R3⟩)]⟩
noncomputable def X33_0 (R1 : List (List AVal)) (b0_0 : Int) (b0_1 : Int) (b0_2 : Int) (b0_3 : Int) (b2_0 : Int) (b2_1 : Int) (b2_2 : Int) (b2_3 : Int) (k : Ex → St → Option CR) (t : List (List AVal)) : Option CR := k (.exit 0) ⟨[.dead, .dead, .dead, .dead, (.slc 14400 (t).length), .dead, .dead, .dead, .dead, .dead, .dead, .dead, .dead, .dead, .dead, .dead, .dead, .dead, .dead, .dead, .dead, .dead, .dead, .dead, .dead, .dead, .dead, .dead, .dead, .dead, .dead, .dead, .dead, .dead, .dead, .dead, .dead, .dead, .dead, .dead, .dead, .dead, .dead, .dead, .dead, .dead, .dead, .dead, .dead, .dead], [(8000, ⟨.box, 39, 4, [[(.sc (.int .i64 b0_0)), (.sc (.int .i64 b0_1)), (.sc (.int .i64 b0_2)), (.sc (.int .i64 b0_3))]]⟩), (8008, ⟨.arr, 23, 2, R1⟩), (9616, ⟨.box, 39, 4, [[(.sc (.int .i64 b2_0)), (.sc (.int .i64 b2_1)), (.sc (.int .i64 b2_2)), (.sc (.int .i64 b2_3))]]⟩), (14400, ⟨.arr, 23, 2, t⟩)]⟩
noncomputable def ks33_0 : List SK := [.f .dead, .f .dead, .f .dead, .f (.ref 9616 1 0 0), .f (.slc 14400 3), .f .dead, .f .dead, .f .dead, .f .dead, .f .dead, .f .dead, .f .dead, .f .dead, .f .dead, .f .dead, .f .dead, .f .dead, .f .dead, .f .dead, .f .dead, .f .dead, .f .dead, .f .dead, .f .dead, .f .dead, .f .dead, .f (.int .i64), .f (.int .i64), .f .dead, .f .dead, .f .dead, .f .dead, .f .dead, .f .dead, .f .dead, .f .dead, .f .dead, .f .dead, .f .dead, .f .dead, .f .dead, .f .dead, .f .dead, .f .dead, .f .dead, .f .dead, .f .dead, .f .dead, .f .dead, .f .dead]
noncomputable def hs33_0 : List HK := [⟨8000, .box, 39, 4, some [.int .i64, .int .i64, .int .i64, .int .i64]⟩, ⟨8008, .arr, 23, 2, none⟩, ⟨9616, .box, 39, 4, some [.int .i64, .int .i64, .int .i64, .int .i64]⟩, ⟨14400, .arr, 23, 2, none⟩]
noncomputable def L33_0 (s : St) (k : Ex → St → Option CR) : Option CR := bif chkS ks33_0 hs33_0 s then (G_grid_Cells_0 (toI (cIa s.tmps 26)) (toI (cIa (rows0 (blkAt s.heap 2).2) 0)) (toI (cIa (rows0 (blkAt s.heap 2).2) 1)) (toI (cIa (rows0 (blkAt s.heap 2).2) 2)) FU (blkAt s.heap 3).2.rows (toI (cIa s.tmps 27))).bind (X33_0 (blkAt s.heap 1).2.rows (toI (cIa (rows0 (blkAt s.heap 0).2) 0)) (toI (cIa (rows0 (blkAt s.heap 0).2) 1)) (toI (cIa (rows0 (blkAt s.heap 0).2) 2)) (toI (cIa (rows0 (blkAt s.heap 0).2) 3)) (toI (cIa (rows0 (blkAt s.heap 2).2) 0)) (toI (cIa (rows0 (blkAt s.heap 2).2) 1)) (toI (cIa (rows0 (blkAt s.heap 2).2) 2)) (toI (cIa (rows0 (blkAt s.heap 2).2) 3)) k) else none

noncomputable def L33 : LT' := fun i s k => bif Nat.beq i 0 then L33_0 s k else bif Nat.beq i 2 then L33_1 s k else none

/-- 'skirmish/grid.Cells' -/
noncomputable def F_grid_Cells (r_X : Int) (r_Y : Int) (r_W : Int) (r_H : Int) : Option (List (List AVal)) :=
  Option.bind (F_grid_rect r_X r_Y r_W r_H) fun t =>
  bif (decide (t.2.2.1 < (1 : Int))) then
    some []
  else
  bif (decide (t.2.2.2 < (1 : Int))) then
    some []
  else
  bif (decide ((wr (t.2.2.1 * t.2.2.2)) > (1024 : Int))) then
    some []
  else
  Option.bind (G_grid_Cells_0 t.2.2.2 t.1 t.2.1 t.2.2.1 FU [] (0 : Int)) fun t1 =>
  some t1
noncomputable def enc33 (t : List (List AVal)) : CR := ⟨true, (.slc 0 (t).length), [], [⟨.arr, 23, 2, t⟩]⟩
noncomputable def ks33 : List SK := [.agg [.int .i64, .int .i64, .int .i64, .int .i64]]
noncomputable def S33 (us : List AVal) : Call := bif chkA ks33 us then Call.of (F_grid_Cells (toI (cIa (aggL (cIa us 0)) 0)) (toI (cIa (aggL (cIa us 0)) 1)) (toI (cIa (aggL (cIa us 0)) 2)) (toI (cIa (aggL (cIa us 0)) 3))) enc33 else Call.none
noncomputable def C33 := AI.ext 33 S33 C32

@[reducible] noncomputable def B33_1 := bodyOf TT TU noG C32 ownF L33 (lp Try.f33 1)
@[reducible] noncomputable def K33_1 (k : Ex → St → Option CR) : Ex → St → Option CR := fun e s => k e (maskS (W33_1 e) s)
theorem spec33_1 (k : Ex → St → Option CR) : ∀ (m : Nat) (R1 : List (List AVal)) (R3 : List (List AVal)) (j : Int) (x26 : Int) (x27 : Int) (x31 : Int) (x32 : Int) (b0_0 : Int) (b0_1 : Int) (b0_2 : Int) (b0_3 : Int) (b2_0 : Int) (b2_1 : Int) (b2_2 : Int) (b2_3 : Int), loopN B33_1 m (E33_1 R1 R3 j x26 x27 x31 x32 b0_0 b0_1 b0_2 b0_3 b2_0 b2_1 b2_2 b2_3) (K33_1 k) = (G_grid_Cells_1 j x31 b2_0 b2_1 m R3 x32).bind (X33_1 R1 x26 x27 b0_0 b0_1 b0_2 b0_3 b2_0 b2_1 b2_2 b2_3 k)
  | 0, _, _, _, _, _, _, _, _, _, _, _, _, _, _, _ => rfl
  | m + 1, R1, R3, j, x26, x27, x31, x32, b0_0, b0_1, b0_2, b0_3, b2_0, b2_1, b2_2, b2_3 =>
    Eq.trans (b := (bif (decide (x32 < x31)) then (bif (((verEq R3.length R3.length) && true) && (roomOk (R3.length + 1) 16)) then (loopN B33_1 m ⟨[.dead, .dead, .dead, (AVal.ref 9616 1 0 0), (AVal.slc 14400 (R3 ++ [[(i64 (wr (b2_0 + x32))), (i64 (wr (b2_1 + j)))]]).length), (i64 j), .dead, .dead, .dead, .dead, .dead, .dead, .dead, .dead, .dead, .dead, .dead, .dead, .dead, .dead, .dead, .dead, .dead, .dead, .dead, .dead, (i64 x26), (i64 x27), .dead, .dead, .dead, (i64 x31), (i64 (wr (x32 + (1 : Int)))), .dead, .dead, .dead, .dead, .dead, .dead, .dead, .dead, .dead, .dead, .dead, .dead, .dead, .dead, .dead, .dead, .dead], [(Prod.mk 8000 (Blk.mk BKind.box 39 4 [[(i64 b0_0), (i64 b0_1), (i64 b0_2), (i64 b0_3)]])), (Prod.mk 8008 (Blk.mk BKind.arr 23 2 R1)), (Prod.mk 9616 (Blk.mk BKind.box 39 4 [[(i64 b2_0), (i64 b2_1), (i64 b2_2), (i64 b2_3)]])), (Prod.mk 14400 (Blk.mk BKind.arr 23 2 (R3 ++ [[(i64 (wr (b2_0 + x32))), (i64 (wr (b2_1 + j)))]])))]⟩ (K33_1 k)) else none) else (k (.exit 2) ⟨[.dead, .dead, .dead, (AVal.ref 9616 1 0 0), (AVal.slc 14400 R3.length), .dead, .dead, .dead, .dead, .dead, .dead, .dead, .dead, .dead, .dead, .dead, .dead, .dead, .dead, .dead, .dead, .dead, .dead, .dead, .dead, .dead, (i64 x26), (i64 x27), .dead, .dead, .dead, .dead, .dead, .dead, .dead, .dead, .dead, .dead, .dead, .dead, .dead, .dead, .dead, .dead, .dead, .dead, .dead, .dead, .dead, .dead], [(Prod.mk 8000 (Blk.mk BKind.box 39 4 [[(i64 b0_0), (i64 b0_1), (i64 b0_2), (i64 b0_3)]])), (Prod.mk 8008 (Blk.mk BKind.arr 23 2 R1)), (Prod.mk 9616 (Blk.mk BKind.box 39 4 [[(i64 b2_0), (i64 b2_1), (i64 b2_2), (i64 b2_3)]])), (Prod.mk 14400 (Blk.mk BKind.arr 23 2 R3))]⟩))) (by kernel_rfl)
      (n_condH rfl (fun h0 => (n_condH (n_andL (n_andL (verEq_rfl _) rfl) rfl) (fun h1 => (spec33_1 k m R1 (R3 ++ [[(i64 (wr (b2_0 + x32))), (i64 (wr (b2_1 + j)))]]) j x26 x27 x31 (wr (x32 + (1 : Int))) b0_0 b0_1 b0_2 b0_3 b2_0 b2_1 b2_2 b2_3)) fun h1 => n_none)) fun h0 => rfl)
theorem okL33_1 : LoopOk TT TU noG C32 ownF L33 (lp Try.f33 1) :=
  loopOk_of ks33_1 hs33_1 W33_1 FU (fun s k => (G_grid_Cells_1 (toI (cIa s.tmps 5)) (toI (cIa s.tmps 31)) (toI (cIa (rows0 (blkAt s.heap 2).2) 0)) (toI (cIa (rows0 (blkAt s.heap 2).2) 1)) FU (blkAt s.heap 3).2.rows (toI (cIa s.tmps 32))).bind (X33_1 (blkAt s.heap 1).2.rows (toI (cIa s.tmps 26)) (toI (cIa s.tmps 27)) (toI (cIa (rows0 (blkAt s.heap 0).2) 0)) (toI (cIa (rows0 (blkAt s.heap 0).2) 1)) (toI (cIa (rows0 (blkAt s.heap 0).2) 2)) (toI (cIa (rows0 (blkAt s.heap 0).2) 3)) (toI (cIa (rows0 (blkAt s.heap 2).2) 0)) (toI (cIa (rows0 (blkAt s.heap 2).2) 1)) (toI (cIa (rows0 (blkAt s.heap 2).2) 2)) (toI (cIa (rows0 (blkAt s.heap 2).2) 3)) k)) (fun s k => by kernel_rfl) (fun s k => spec33_1 k FU (blkAt s.heap 1).2.rows (blkAt s.heap 3).2.rows (toI (cIa s.tmps 5)) (toI (cIa s.tmps 26)) (toI (cIa s.tmps 27)) (toI (cIa s.tmps 31)) (toI (cIa s.tmps 32)) (toI (cIa (rows0 (blkAt s.heap 0).2) 0)) (toI (cIa (rows0 (blkAt s.heap 0).2) 1)) (toI (cIa (rows0 (blkAt s.heap 0).2) 2)) (toI (cIa (rows0 (blkAt s.heap 0).2) 3)) (toI (cIa (rows0 (blkAt s.heap 2).2) 0)) (toI (cIa (rows0 (blkAt s.heap 2).2) 1)) (toI (cIa (rows0 (blkAt s.heap 2).2) 2)) (toI (cIa (rows0 (blkAt s.heap 2).2) 3)))
@[reducible] noncomputable def B33_0 := bodyOf TT TU noG C32 ownF L33 (lp Try.f33 0)
@[reducible] noncomputable def K33_0 (k : Ex → St → Option CR) : Ex → St → Option CR := fun e s => k e (maskS (W33_0 e) s)
theorem spec33_0 (k : Ex → St → Option CR) : ∀ (m : Nat) (R1 : List (List AVal)) (R3 : List (List AVal)) (x26 : Int) (x27 : Int) (b0_0 : Int) (b0_1 : Int) (b0_2 : Int) (b0_3 : Int) (b2_0 : Int) (b2_1 : Int) (b2_2 : Int) (b2_3 : Int), loopN B33_0 m (E33_0 R1 R3 x26 x27 b0_0 b0_1 b0_2 b0_3 b2_0 b2_1 b2_2 b2_3) (K33_0 k) = (G_grid_Cells_0 x26 b2_0 b2_1 b2_2 m R3 x27).bind (X33_0 R1 b0_0 b0_1 b0_2 b0_3 b2_0 b2_1 b2_2 b2_3 k)
  | 0, _, _, _, _, _, _, _, _, _, _, _, _ => rfl
  | m + 1, R1, R3, x26, x27, b0_0, b0_1, b0_2, b0_3, b2_0, b2_1, b2_2, b2_3 =>
    Eq.trans (b := (bif (decide (x27 < x26)) then (bif (((true && (verEq R3.length (blkLen [(Prod.mk 8000 (Blk.mk BKind.box 39 4 [[(i64 b0_0), (i64 b0_1), (i64 b0_2), (i64 b0_3)]])), (Prod.mk 8008 (Blk.mk BKind.arr 23 2 R1)), (Prod.mk 9616 (Blk.mk BKind.box 39 4 [[(i64 b2_0), (i64 b2_1), (i64 b2_2), (i64 b2_3)]])), (Prod.mk 14400 (Blk.mk BKind.arr 23 2 R3))] 3))) && true) && true) then (Option.bind (G_grid_Cells_1 x27 b2_2 b2_0 b2_1 FU R3 (0 : Int)) fun t => (loopN B33_0 m ⟨[.dead, .dead, .dead, (AVal.ref 9616 1 0 0), (AVal.slc 14400 t.length), .dead, .dead, .dead, .dead, .dead, .dead, .dead, .dead, .dead, .dead, .dead, .dead, .dead, .dead, .dead, .dead, .dead, .dead, .dead, .dead, .dead, (i64 x26), (i64 (wr (x27 + (1 : Int)))), .dead, .dead, .dead, .dead, .dead, .dead, .dead, .dead, .dead, .dead, .dead, .dead, .dead, .dead, .dead, .dead, .dead, .dead, .dead, .dead, .dead, .dead], [(Prod.mk 8000 (Blk.mk BKind.box 39 4 [[(i64 b0_0), (i64 b0_1), (i64 b0_2), (i64 b0_3)]])), (Prod.mk 8008 (Blk.mk BKind.arr 23 2 R1)), (Prod.mk 9616 (Blk.mk BKind.box 39 4 [[(i64 b2_0), (i64 b2_1), (i64 b2_2), (i64 b2_3)]])), (Prod.mk 14400 (Blk.mk BKind.arr 23 2 t))]⟩ (K33_0 k))) else none) else (k (.exit 0) ⟨[.dead, .dead, .dead, .dead, (AVal.slc 14400 R3.length), .dead, .dead, .dead, .dead, .dead, .dead, .dead, .dead, .dead, .dead, .dead, .dead, .dead, .dead, .dead, .dead, .dead, .dead, .dead, .dead, .dead, .dead, .dead, .dead, .dead, .dead, .dead, .dead, .dead, .dead, .dead, .dead, .dead, .dead, .dead, .dead, .dead, .dead, .dead, .dead, .dead, .dead, .dead, .dead, .dead], [(Prod.mk 8000 (Blk.mk BKind.box 39 4 [[(i64 b0_0), (i64 b0_1), (i64 b0_2), (i64 b0_3)]])), (Prod.mk 8008 (Blk.mk BKind.arr 23 2 R1)), (Prod.mk 9616 (Blk.mk BKind.box 39 4 [[(i64 b2_0), (i64 b2_1), (i64 b2_2), (i64 b2_3)]])), (Prod.mk 14400 (Blk.mk BKind.arr 23 2 R3))]⟩))) (by kernel_rfl)
      (n_condH rfl (fun h0 => (n_true (n_andL (n_andL (n_andL rfl (by first | exact verEq_of rfl | simp [verEq])) rfl) rfl) (n_bind fun t => (spec33_0 k m R1 t x26 (wr (x27 + (1 : Int))) b0_0 b0_1 b0_2 b0_3 b2_0 b2_1 b2_2 b2_3)))) fun h0 => rfl)
theorem okL33_0 : LoopOk TT TU noG C32 ownF L33 (lp Try.f33 0) :=
  loopOk_of ks33_0 hs33_0 W33_0 FU (fun s k => (G_grid_Cells_0 (toI (cIa s.tmps 26)) (toI (cIa (rows0 (blkAt s.heap 2).2) 0)) (toI (cIa (rows0 (blkAt s.heap 2).2) 1)) (toI (cIa (rows0 (blkAt s.heap 2).2) 2)) FU (blkAt s.heap 3).2.rows (toI (cIa s.tmps 27))).bind (X33_0 (blkAt s.heap 1).2.rows (toI (cIa (rows0 (blkAt s.heap 0).2) 0)) (toI (cIa (rows0 (blkAt s.heap 0).2) 1)) (toI (cIa (rows0 (blkAt s.heap 0).2) 2)) (toI (cIa (rows0 (blkAt s.heap 0).2) 3)) (toI (cIa (rows0 (blkAt s.heap 2).2) 0)) (toI (cIa (rows0 (blkAt s.heap 2).2) 1)) (toI (cIa (rows0 (blkAt s.heap 2).2) 2)) (toI (cIa (rows0 (blkAt s.heap 2).2) 3)) k)) (fun s k => by kernel_rfl) (fun s k => spec33_0 k FU (blkAt s.heap 1).2.rows (blkAt s.heap 3).2.rows (toI (cIa s.tmps 26)) (toI (cIa s.tmps 27)) (toI (cIa (rows0 (blkAt s.heap 0).2) 0)) (toI (cIa (rows0 (blkAt s.heap 0).2) 1)) (toI (cIa (rows0 (blkAt s.heap 0).2) 2)) (toI (cIa (rows0 (blkAt s.heap 0).2) 3)) (toI (cIa (rows0 (blkAt s.heap 2).2) 0)) (toI (cIa (rows0 (blkAt s.heap 2).2) 1)) (toI (cIa (rows0 (blkAt s.heap 2).2) 2)) (toI (cIa (rows0 (blkAt s.heap 2).2) 3)))
theorem run33 (r_X : Int) (r_Y : Int) (r_W : Int) (r_H : Int) : fcall TT TU noG C32 ownF true L33 Try.f33 [(.agg [(.sc (.int .i64 r_X)), (.sc (.int .i64 r_Y)), (.sc (.int .i64 r_W)), (.sc (.int .i64 r_H))])] = (F_grid_Cells r_X r_Y r_W r_H).bind fun t => some (enc33 t) :=
  Eq.trans (b := (Option.bind (F_grid_rect r_X r_Y r_W r_H) fun t => (bif (decide (t.2.2.1 < (1 : Int))) then (some (CR.mk true (AVal.slc 0 0) [] [(Blk.mk BKind.arr 23 2 [])])) else (bif (decide (t.2.2.2 < (1 : Int))) then (some (CR.mk true (AVal.slc 0 0) [] [(Blk.mk BKind.arr 23 2 [])])) else (bif (decide ((wr (t.2.2.1 * t.2.2.2)) > (1024 : Int))) then (some (CR.mk true (AVal.slc 0 0) [] [(Blk.mk BKind.arr 23 2 [])])) else (Option.bind (G_grid_Cells_0 t.2.2.2 t.1 t.2.1 t.2.2.1 FU [] (0 : Int)) fun t1 => (bif (verEq t1.length t1.length) then (some (CR.mk true (AVal.slc 0 t1.length) [] [(Blk.mk BKind.arr 23 2 t1)])) else none))))))) (by kernel_rfl)
    (n_bind fun t => (n_condH rfl (fun h0 => rfl) fun h0 => (n_condH rfl (fun h1 => rfl) fun h1 => (n_condH rfl (fun h2 => rfl) fun h2 => (n_bind fun t1 => (n_true (verEq_rfl _) rfl))))))
theorem lib33 : Lib Try.prog noG C33 :=
  Lib.fn lib32 mixed TT_ok Try.func33 (by decide +kernel) (by kernel_rfl) true L33 (loops_of 2 (by kernel_rfl) (belowS (belowS below0 okL33_0) okL33_1)) ks33 (F := fun us => F_grid_Cells (toI (cIa (aggL (cIa us 0)) 0)) (toI (cIa (aggL (cIa us 0)) 1)) (toI (cIa (aggL (cIa us 0)) 2)) (toI (cIa (aggL (cIa us 0)) 3))) (fun us => rfl) (fun us => run33 (toI (cIa (aggL (cIa us 0)) 0)) (toI (cIa (aggL (cIa us 0)) 1)) (toI (cIa (aggL (cIa us 0)) 2)) (toI (cIa (aggL (cIa us 0)) 3))) (fun t => rfl)

/-! ### 34: skirmish/skirmishref06.Cells -/

noncomputable def W34_0 : Ex → List Bool
  | .ret => [false, false, true, false, false, false, false, false, false, false, false, false, false, false, false, false, false, false, false, false, false, false, false, false, false, false, false, false, false, false, false, false, false, false, false, false, false, false, false, false, false, false, false, false, false, false, false, false, false, false]
  | .exit n => bif Nat.beq n 0 then [false, false, false, false, true, false, false, false, false, false, false, false, false, false, false, false, false, false, false, false, false, false, false, false, false, false, false, false, false, false, false, false, false, false, false, false, false, false, false, false, false, false, false, false, false, false, false, false, false, false] else []
  | .normal => []
noncomputable def W34_1 : Ex → List Bool
  | .ret => [false, false, true, false, false, false, false, false, false, false, false, false, false, false, false, false, false, false, false, false, false, false, false, false, false, false, false, false, false, false, false, false, false, false, false, false, false, false, false, false, false, false, false, false, false, false, false, false, false, false]
  | .exit n => bif Nat.beq n 2 then [false, false, false, true, true, true, false, false, false, false, false, false, false, false, false, false, false, false, false, false, false, false, false, false, false, false, false, false, false, false, false, false, false, false, false, false, false, false, false, false, false, false, false, false, false, false, false, false, false, false] else bif Nat.beq n 1 then [false, false, false, true, true, true, false, false, false, false, false, false, false, false, false, false, false, false, false, false, false, false, false, false, false, false, false, false, false, false, false, false, false, false, false, false, false, false, false, false, false, false, false, false, false, false, false, false, false, false] else bif Nat.beq n 0 then [false, false, false, false, true, false, false, false, false, false, false, false, false, false, false, false, false, false, false, false, false, false, false, false, false, false, false, false, false, false, false, false, false, false, false, false, false, false, false, false, false, false, false, false, false, false, false, false, false, false] else []
  | .normal => []
noncomputable def G_skirmishref06_Cells_1 (y : Int) (b2_0 : Int) (b2_1 : Int) (b2_2 : Int) : Nat → List (List AVal) → Int → Option (List (List AVal))
  | 0, _, _ => none
  | m + 1, R3, x =>
    bif (decide (x < b2_2)) then
      bif (roomOk (R3.length + 1) 16) then
        G_skirmishref06_Cells_1 y b2_0 b2_1 b2_2 m (R3 ++ [[(i64 (wr (b2_0 + x))), (i64 (wr (b2_1 + y)))]]) (wr (x + (1 : Int)))
      else
      none
    else
    some R3
noncomputable def E34_1 (R1 : List (List AVal)) (R3 : List (List AVal)) (y : Int) (x : Int) (b0_0 : Int) (b0_1 : Int) (b0_2 : Int) (b0_3 : Int) (b2_0 : Int) (b2_1 : Int) (b2_2 : Int) (b2_3 : Int) : St := ⟨[.dead, .dead, .dead, (.ref 9616 1 0 0), (.slc 14400 (R3).length), (.sc (.int .i64 y)), (.sc (.int .i64 x)), .dead, .dead, .dead, .dead, .dead, .dead, .dead, .dead, .dead, .dead, .dead, .dead, .dead, .dead, .dead, .dead, .dead, .dead, .dead, .dead, .dead, .dead, .dead, .dead, .dead, .dead, .dead, .dead, .dead, .dead, .dead, .dead, .dead, .dead, .dead, .dead, .dead, .dead, .dead, .dead, .dead, .dead, .dead], [(8000, ⟨.box, 39, 4, [[(.sc (.int .i64 b0_0)), (.sc (.int .i64 b0_1)), (.sc (.int .i64 b0_2)), (.sc (.int .i64 b0_3))]]⟩), (8008, ⟨.arr, 23, 2, R1⟩), (9616, ⟨.box, 39, 4, [[(.sc (.int .i64 b2_0)), (.sc (.int .i64 b2_1)), (.sc (.int .i64 b2_2)), (.sc (.int .i64 b2_3))]]⟩), (14400, ⟨.arr, 23, 2, R3⟩)]⟩
noncomputable def X34_1 (R1 : List (List AVal)) (y : Int) (b0_0 : Int) (b0_1 : Int) (b0_2 : Int) (b0_3 : Int) (b2_0 : Int) (b2_1 : Int) (b2_2 : Int) (b2_3 : Int) (k : Ex → St → Option CR) (t : List (List AVal)) : Option CR := k (.exit 2) ⟨[.dead, .dead, .dead, (.ref 9616 1 0 0), (.slc 14400 (t).length), (.sc (.int .i64 y)), .dead, .dead, .dead, .dead, .dead, .dead, .dead, .dead, .dead, .dead, .dead, .dead, .dead, .dead, .dead, .dead, .dead, .dead, .dead, .dead, .dead, .dead, .dead, .dead, .dead, .dead, .dead, .dead, .dead, .dead, .dead, .dead, .dead, .dead, .dead, .dead, .dead, .dead, .dead, .dead, .dead, .dead, .dead, .dead], [(8000, ⟨.box, 39, 4, [[(.sc (.int .i64 b0_0)), (.sc (.int .i64 b0_1)), (.sc (.int .i64 b0_2)), (.sc (.int .i64 b0_3))]]⟩), (8008, ⟨.arr, 23, 2, R1⟩), (9616, ⟨.box, 39, 4, [[(.sc (.int .i64 b2_0)), (.sc (.int .i64 b2_1)), (.sc (.int .i64 b2_2)), (.sc (.int .i64 b2_3))]]⟩), (14400, ⟨.arr, 23, 2, t⟩)]⟩
noncomputable def ks34_1 : List SK := [.f .dead, .f .dead, .f .dead, .f (.ref 9616 1 0 0), .f (.slc 14400 3), .f (.int .i64), .f (.int .i64), .f .dead, .f .dead, .f .dead, .f .dead, .f .dead, .f .dead, .f .dead, .f .dead, .f .dead, .f .dead, .f .dead, .f .dead, .f .dead, .f .dead, .f .dead, .f .dead, .f .dead, .f .dead, .f .dead, .f .dead, .f .dead, .f .dead, .f .dead, .f .dead, .f .dead, .f .dead, .f .dead, .f .dead, .f .dead, .f .dead, .f .dead, .f .dead, .f .dead, .f .dead, .f .dead, .f .dead, .f .dead, .f .dead, .f .dead, .f .dead, .f .dead, .f .dead, .f .dead]
noncomputable def hs34_1 : List HK := [⟨8000, .box, 39, 4, some [.int .i64, .int .i64, .int .i64, .int .i64]⟩, ⟨8008, .arr, 23, 2, none⟩, ⟨9616, .box, 39, 4, some [.int .i64, .int .i64, .int .i64, .int .i64]⟩, ⟨14400, .arr, 23, 2, none⟩]
noncomputable def L34_1 (s : St) (k : Ex → St → Option CR) : Option CR := bif chkS ks34_1 hs34_1 s then (G_skirmishref06_Cells_1 (toI (cIa s.tmps 5)) (toI (cIa (rows0 (blkAt s.heap 2).2) 0)) (toI (cIa (rows0 (blkAt s.heap 2).2) 1)) (toI (cIa (rows0 (blkAt s.heap 2).2) 2)) FU (blkAt s.heap 3).2.rows (toI (cIa s.tmps 6))).bind (X34_1 (blkAt s.heap 1).2.rows (toI (cIa s.tmps 5)) (toI (cIa (rows0 (blkAt s.heap 0).2) 0)) (toI (cIa (rows0 (blkAt s.heap 0).2) 1)) (toI (cIa (rows0 (blkAt s.heap 0).2) 2)) (toI (cIa (rows0 (blkAt s.heap 0).2) 3)) (toI (cIa (rows0 (blkAt s.heap 2).2) 0)) (toI (cIa (rows0 (blkAt s.heap 2).2) 1)) (toI (cIa (rows0 (blkAt s.heap 2).2) 2)) (toI (cIa (rows0 (blkAt s.heap 2).2) 3)) k) else none
noncomputable def G_skirmishref06_Cells_0 (b2_0 : Int) (b2_1 : Int) (b2_2 : Int) (b2_3 : Int) : Nat → List (List AVal) → Int → Option (List (List AVal))
  | 0, _, _ => none
  | m + 1, R3, y =>
    bif (decide (y < b2_3)) then
      Option.bind (G_skirmishref06_Cells_1 y b2_0 b2_1 b2_2 FU R3 (0 : Int)) fun t =>
      G_skirmishref06_Cells_0 b2_0 b2_1 b2_2 b2_3 m t (wr (y + (1 : Int)))
    else
    some R3
noncomputable def E34_0 (R1 : List (List AVal)) (R3 : List (List AVal)) (y : Int) (b0_0 : Int) (b0_1 : Int) (b0_2 : Int) (b0_3 : Int) (b2_0 : Int) (b2_1 : Int) (b2_2 : Int) (b2_3 : Int) : St := ⟨[.dead, .dead, .dead, (.ref 9616 1 0 0), (.slc 14400 (R3).length), (.sc (.int .i64 y)), .dead, .dead, .dead, .dead, .dead, .dead, .dead, .dead, .dead, .dead, .dead, .dead, .dead, .dead, .dead, .dead, .dead, .dead, .dead, .dead, .dead, .dead, .dead, .dead, .dead, .dead, .dead, .dead, .dead, .dead, .dead, .dead, .dead, .dead, .dead, .dead, .dead, .dead, .dead, .dead, .dead, .dead, .dead, .dead], [(8000, ⟨.box, 39, 4, [[(.sc (.int .i64 b0_0)), (.sc (.int .i64 b0_1)), (.sc (.int .i64 b0_2)), (.sc (.int .i64 b0_3))]]⟩), (8008, ⟨.arr, 23, 2, R1⟩), (9616, ⟨.box, 39, 4, [[(.sc (.int .i64 b2_0)), (.sc (.int .i64 b2_1)), (.sc (.int .i64 b2_2)), (.sc (.int .i64 b2_3))]]⟩), (14400, ⟨.arr, 23, 2, R3⟩)]⟩
noncomputable def X34_0 (R1 : List (List AVal)) (b0_0 : Int) (b0_1 : Int) (b0_2 : Int) (b0_3 : Int) (b2_0 : Int) (b2_1 : Int) (b2_2 : Int) (b2_3 : Int) (k : Ex → St → Option CR) (t : List (List AVal)) : Option CR := k (.exit 0) ⟨[.dead, .dead, .dead, .dead, (.slc 14400 (t).length), .dead, .dead, .dead, .dead, .dead, .dead, .dead, .dead, .dead, .dead, .dead, .dead, .dead, .dead, .dead, .dead, .dead, .dead, .dead, .dead, .dead, .dead, .dead, .dead, .dead, .dead, .dead, .dead, .dead, .dead, .dead, .dead, .dead, .dead, .dead, .dead, .dead, .dead, .dead, .dead, .dead, .dead, .dead, .dead, .dead], [(8000, ⟨.box, 39, 4, [[(.sc (.int .i64 b0_0)), (.sc (.int .i64 b0_1)), (.sc (.int .i64 b0_2)), (.sc (.int .i64 b0_3))]]⟩), (8008, ⟨.arr, 23, 2, R1⟩), (9616, ⟨.box, 39, 4, [[(.sc (.int .i64 b2_0)), (.sc (.int .i64 b2_1)), (.sc (.int .i64 b2_2)), (.sc (.int .i64 b2_3))]]⟩), (14400, ⟨.arr, 23, 2, t⟩)]⟩
noncomputable def ks34_0 : List SK := [.f .dead, .f .dead, .f .dead, .f (.ref 9616 1 0 0), .f (.slc 14400 3), .f (.int .i64), .f .dead, .f .dead, .f .dead, .f .dead, .f .dead, .f .dead, .f .dead, .f .dead, .f .dead, .f .dead, .f .dead, .f .dead, .f .dead, .f .dead, .f .dead, .f .dead, .f .dead, .f .dead, .f .dead, .f .dead, .f .dead, .f .dead, .f .dead, .f .dead, .f .dead, .f .dead, .f .dead, .f .dead, .f .dead, .f .dead, .f .dead, .f .dead, .f .dead, .f .dead, .f .dead, .f .dead, .f .dead, .f .dead, .f .dead, .f .dead, .f .dead, .f .dead, .f .dead, .f .dead]
noncomputable def hs34_0 : List HK := [⟨8000, .box, 39, 4, some [.int .i64, .int .i64, .int .i64, .int .i64]⟩, ⟨8008, .arr, 23, 2, none⟩, ⟨9616, .box, 39, 4, some [.int .i64, .int .i64, .int .i64, .int .i64]⟩, ⟨14400, .arr, 23, 2, none⟩]
noncomputable def L34_0 (s : St) (k : Ex → St → Option CR) : Option CR := bif chkS ks34_0 hs34_0 s then (G_skirmishref06_Cells_0 (toI (cIa (rows0 (blkAt s.heap 2).2) 0)) (toI (cIa (rows0 (blkAt s.heap 2).2) 1)) (toI (cIa (rows0 (blkAt s.heap 2).2) 2)) (toI (cIa (rows0 (blkAt s.heap 2).2) 3)) FU (blkAt s.heap 3).2.rows (toI (cIa s.tmps 5))).bind (X34_0 (blkAt s.heap 1).2.rows (toI (cIa (rows0 (blkAt s.heap 0).2) 0)) (toI (cIa (rows0 (blkAt s.heap 0).2) 1)) (toI (cIa (rows0 (blkAt s.heap 0).2) 2)) (toI (cIa (rows0 (blkAt s.heap 0).2) 3)) (toI (cIa (rows0 (blkAt s.heap 2).2) 0)) (toI (cIa (rows0 (blkAt s.heap 2).2) 1)) (toI (cIa (rows0 (blkAt s.heap 2).2) 2)) (toI (cIa (rows0 (blkAt s.heap 2).2) 3)) k) else none

noncomputable def L34 : LT' := fun i s k => bif Nat.beq i 0 then L34_0 s k else bif Nat.beq i 2 then L34_1 s k else none

/-- 'skirmish/skirmishref06.Cells' -/
noncomputable def F_skirmishref06_Cells (r_X : Int) (r_Y : Int) (r_W : Int) (r_H : Int) : Option (List (List AVal)) :=
  Option.bind (F_skirmishref06_rect r_X r_Y r_W r_H) fun t =>
  bif (decide (t.2.2.1 < (1 : Int))) then
    some []
  else
  bif (decide (t.2.2.2 < (1 : Int))) then
    some []
  else
  bif (decide ((wr (t.2.2.1 * t.2.2.2)) > (1024 : Int))) then
    some []
  else
  Option.bind (G_skirmishref06_Cells_0 t.1 t.2.1 t.2.2.1 t.2.2.2 FU [] (0 : Int)) fun t1 =>
  some t1
noncomputable def enc34 (t : List (List AVal)) : CR := ⟨true, (.slc 0 (t).length), [], [⟨.arr, 23, 2, t⟩]⟩
noncomputable def ks34 : List SK := [.agg [.int .i64, .int .i64, .int .i64, .int .i64]]
noncomputable def S34 (us : List AVal) : Call := bif chkA ks34 us then Call.of (F_skirmishref06_Cells (toI (cIa (aggL (cIa us 0)) 0)) (toI (cIa (aggL (cIa us 0)) 1)) (toI (cIa (aggL (cIa us 0)) 2)) (toI (cIa (aggL (cIa us 0)) 3))) enc34 else Call.none
noncomputable def C34 := AI.ext 34 S34 C33

@[reducible] noncomputable def B34_1 := bodyOf TT TU noG C33 ownF L34 (lp Try.f34 1)
@[reducible] noncomputable def K34_1 (k : Ex → St → Option CR) : Ex → St → Option CR := fun e s => k e (maskS (W34_1 e) s)
theorem spec34_1 (k : Ex → St → Option CR) : ∀ (m : Nat) (R1 : List (List AVal)) (R3 : List (List AVal)) (y : Int) (x : Int) (b0_0 : Int) (b0_1 : Int) (b0_2 : Int) (b0_3 : Int) (b2_0 : Int) (b2_1 : Int) (b2_2 : Int) (b2_3 : Int), loopN B34_1 m (E34_1 R1 R3 y x b0_0 b0_1 b0_2 b0_3 b2_0 b2_1 b2_2 b2_3) (K34_1 k) = (G_skirmishref06_Cells_1 y b2_0 b2_1 b2_2 m R3 x).bind (X34_1 R1 y b0_0 b0_1 b0_2 b0_3 b2_0 b2_1 b2_2 b2_3 k)
  | 0, _, _, _, _, _, _, _, _, _, _, _, _ => rfl
  | m + 1, R1, R3, y, x, b0_0, b0_1, b0_2, b0_3, b2_0, b2_1, b2_2, b2_3 =>
    Eq.trans (b := (bif (decide (x < b2_2)) then (bif (((verEq R3.length R3.length) && true) && (roomOk (R3.length + 1) 16)) then (loopN B34_1 m ⟨[.dead, .dead, .dead, (AVal.ref 9616 1 0 0), (AVal.slc 14400 (R3 ++ [[(i64 (wr (b2_0 + x))), (i64 (wr (b2_1 + y)))]]).length), (i64 y), (i64 (wr (x + (1 : Int)))), .dead, .dead, .dead, .dead, .dead, .dead, .dead, .dead, .dead, .dead, .dead, .dead, .dead, .dead, .dead, .dead, .dead, .dead, .dead, .dead, .dead, .dead, .dead, .dead, .dead, .dead, .dead, .dead, .dead, .dead, .dead, .dead, .dead, .dead, .dead, .dead, .dead, .dead, .dead, .dead, .dead, .dead, .dead], [(Prod.mk 8000 (Blk.mk BKind.box 39 4 [[(i64 b0_0), (i64 b0_1), (i64 b0_2), (i64 b0_3)]])), (Prod.mk 8008 (Blk.mk BKind.arr 23 2 R1)), (Prod.mk 9616 (Blk.mk BKind.box 39 4 [[(i64 b2_0), (i64 b2_1), (i64 b2_2), (i64 b2_3)]])), (Prod.mk 14400 (Blk.mk BKind.arr 23 2 (R3 ++ [[(i64 (wr (b2_0 + x))), (i64 (wr (b2_1 + y)))]])))]⟩ (K34_1 k)) else none) else (k (.exit 2) ⟨[.dead, .dead, .dead, (AVal.ref 9616 1 0 0), (AVal.slc 14400 R3.length), (i64 y), .dead, .dead, .dead, .dead, .dead, .dead, .dead, .dead, .dead, .dead, .dead, .dead, .dead, .dead, .dead, .dead, .dead, .dead, .dead, .dead, .dead, .dead, .dead, .dead, .dead, .dead, .dead, .dead, .dead, .dead, .dead, .dead, .dead, .dead, .dead, .dead, .dead, .dead, .dead, .dead, .dead, .dead, .dead, .dead], [(Prod.mk 8000 (Blk.mk BKind.box 39 4 [[(i64 b0_0), (i64 b0_1), (i64 b0_2), (i64 b0_3)]])), (Prod.mk 8008 (Blk.mk BKind.arr 23 2 R1)), (Prod.mk 9616 (Blk.mk BKind.box 39 4 [[(i64 b2_0), (i64 b2_1), (i64 b2_2), (i64 b2_3)]])), (Prod.mk 14400 (Blk.mk BKind.arr 23 2 R3))]⟩))) (by kernel_rfl)
      (n_condH rfl (fun h0 => (n_condH (n_andL (n_andL (verEq_rfl _) rfl) rfl) (fun h1 => (spec34_1 k m R1 (R3 ++ [[(i64 (wr (b2_0 + x))), (i64 (wr (b2_1 + y)))]]) y (wr (x + (1 : Int))) b0_0 b0_1 b0_2 b0_3 b2_0 b2_1 b2_2 b2_3)) fun h1 => n_none)) fun h0 => rfl)
theorem okL34_1 : LoopOk TT TU noG C33 ownF L34 (lp Try.f34 1) :=
  loopOk_of ks34_1 hs34_1 W34_1 FU (fun s k => (G_skirmishref06_Cells_1 (toI (cIa s.tmps 5)) (toI (cIa (rows0 (blkAt s.heap 2).2) 0)) (toI (cIa (rows0 (blkAt s.heap 2).2) 1)) (toI (cIa (rows0 (blkAt s.heap 2).2) 2)) FU (blkAt s.heap 3).2.rows (toI (cIa s.tmps 6))).bind (X34_1 (blkAt s.heap 1).2.rows (toI (cIa s.tmps 5)) (toI (cIa (rows0 (blkAt s.heap 0).2) 0)) (toI (cIa (rows0 (blkAt s.heap 0).2) 1)) (toI (cIa (rows0 (blkAt s.heap 0).2) 2)) (toI (cIa (rows0 (blkAt s.heap 0).2) 3)) (toI (cIa (rows0 (blkAt s.heap 2).2) 0)) (toI (cIa (rows0 (blkAt s.heap 2).2) 1)) (toI (cIa (rows0 (blkAt s.heap 2).2) 2)) (toI (cIa (rows0 (blkAt s.heap 2).2) 3)) k)) (fun s k => by kernel_rfl) (fun s k => spec34_1 k FU (blkAt s.heap 1).2.rows (blkAt s.heap 3).2.rows (toI (cIa s.tmps 5)) (toI (cIa s.tmps 6)) (toI (cIa (rows0 (blkAt s.heap 0).2) 0)) (toI (cIa (rows0 (blkAt s.heap 0).2) 1)) (toI (cIa (rows0 (blkAt s.heap 0).2) 2)) (toI (cIa (rows0 (blkAt s.heap 0).2) 3)) (toI (cIa (rows0 (blkAt s.heap 2).2) 0)) (toI (cIa (rows0 (blkAt s.heap 2).2) 1)) (toI (cIa (rows0 (blkAt s.heap 2).2) 2)) (toI (cIa (rows0 (blkAt s.heap 2).2) 3)))
@[reducible] noncomputable def B34_0 := bodyOf TT TU noG C33 ownF L34 (lp Try.f34 0)
@[reducible] noncomputable def K34_0 (k : Ex → St → Option CR) : Ex → St → Option CR := fun e s => k e (maskS (W34_0 e) s)
theorem spec34_0 (k : Ex → St → Option CR) : ∀ (m : Nat) (R1 : List (List AVal)) (R3 : List (List AVal)) (y : Int) (b0_0 : Int) (b0_1 : Int) (b0_2 : Int) (b0_3 : Int) (b2_0 : Int) (b2_1 : Int) (b2_2 : Int) (b2_3 : Int), loopN B34_0 m (E34_0 R1 R3 y b0_0 b0_1 b0_2 b0_3 b2_0 b2_1 b2_2 b2_3) (K34_0 k) = (G_skirmishref06_Cells_0 b2_0 b2_1 b2_2 b2_3 m R3 y).bind (X34_0 R1 b0_0 b0_1 b0_2 b0_3 b2_0 b2_1 b2_2 b2_3 k)
  | 0, _, _, _, _, _, _, _, _, _, _, _ => rfl
  | m + 1, R1, R3, y, b0_0, b0_1, b0_2, b0_3, b2_0, b2_1, b2_2, b2_3 =>
    Eq.trans (b := (bif (decide (y < b2_3)) then (bif (((true && (verEq R3.length (blkLen [(Prod.mk 8000 (Blk.mk BKind.box 39 4 [[(i64 b0_0), (i64 b0_1), (i64 b0_2), (i64 b0_3)]])), (Prod.mk 8008 (Blk.mk BKind.arr 23 2 R1)), (Prod.mk 9616 (Blk.mk BKind.box 39 4 [[(i64 b2_0), (i64 b2_1), (i64 b2_2), (i64 b2_3)]])), (Prod.mk 14400 (Blk.mk BKind.arr 23 2 R3))] 3))) && true) && true) then (Option.bind (G_skirmishref06_Cells_1 y b2_0 b2_1 b2_2 FU R3 (0 : Int)) fun t => (loopN B34_0 m ⟨[.dead, .dead, .dead, (AVal.ref 9616 1 0 0), (AVal.slc 14400 t.length), (i64 (wr (y + (1 : Int)))), .dead, .dead, .dead, .dead, .dead, .dead, .dead, .dead, .dead, .dead, .dead, .dead, .dead, .dead, .dead, .dead, .dead, .dead, .dead, .dead, .dead, .dead, .dead, .dead, .dead, .dead, .dead, .dead, .dead, .dead, .dead, .dead, .dead, .dead, .dead, .dead, .dead, .dead, .dead, .dead, .dead, .dead, .dead, .dead], [(Prod.mk 8000 (Blk.mk BKind.box 39 4 [[(i64 b0_0), (i64 b0_1), (i64 b0_2), (i64 b0_3)]])), (Prod.mk 8008 (Blk.mk BKind.arr 23 2 R1)), (Prod.mk 9616 (Blk.mk BKind.box 39 4 [[(i64 b2_0), (i64 b2_1), (i64 b2_2), (i64 b2_3)]])), (Prod.mk 14400 (Blk.mk BKind.arr 23 2 t))]⟩ (K34_0 k))) else none) else (k (.exit 0) ⟨[.dead, .dead, .dead, .dead, (AVal.slc 14400 R3.length), .dead, .dead, .dead, .dead, .dead, .dead, .dead, .dead, .dead, .dead, .dead, .dead, .dead, .dead, .dead, .dead, .dead, .dead, .dead, .dead, .dead, .dead, .dead, .dead, .dead, .dead, .dead, .dead, .dead, .dead, .dead, .dead, .dead, .dead, .dead, .dead, .dead, .dead, .dead, .dead, .dead, .dead, .dead, .dead, .dead], [(Prod.mk 8000 (Blk.mk BKind.box 39 4 [[(i64 b0_0), (i64 b0_1), (i64 b0_2), (i64 b0_3)]])), (Prod.mk 8008 (Blk.mk BKind.arr 23 2 R1)), (Prod.mk 9616 (Blk.mk BKind.box 39 4 [[(i64 b2_0), (i64 b2_1), (i64 b2_2), (i64 b2_3)]])), (Prod.mk 14400 (Blk.mk BKind.arr 23 2 R3))]⟩))) (by kernel_rfl)
      (n_condH rfl (fun h0 => (n_true (n_andL (n_andL (n_andL rfl (by first | exact verEq_of rfl | simp [verEq])) rfl) rfl) (n_bind fun t => (spec34_0 k m R1 t (wr (y + (1 : Int))) b0_0 b0_1 b0_2 b0_3 b2_0 b2_1 b2_2 b2_3)))) fun h0 => rfl)
theorem okL34_0 : LoopOk TT TU noG C33 ownF L34 (lp Try.f34 0) :=
  loopOk_of ks34_0 hs34_0 W34_0 FU (fun s k => (G_skirmishref06_Cells_0 (toI (cIa (rows0 (blkAt s.heap 2).2) 0)) (toI (cIa (rows0 (blkAt s.heap 2).2) 1)) (toI (cIa (rows0 (blkAt s.heap 2).2) 2)) (toI (cIa (rows0 (blkAt s.heap 2).2) 3)) FU (blkAt s.heap 3).2.rows (toI (cIa s.tmps 5))).bind (X34_0 (blkAt s.heap 1).2.rows (toI (cIa (rows0 (blkAt s.heap 0).2) 0)) (toI (cIa (rows0 (blkAt s.heap 0).2) 1)) (toI (cIa (rows0 (blkAt s.heap 0).2) 2)) (toI (cIa (rows0 (blkAt s.heap 0).2) 3)) (toI (cIa (rows0 (blkAt s.heap 2).2) 0)) (toI (cIa (rows0 (blkAt s.heap 2).2) 1)) (toI (cIa (rows0 (blkAt s.heap 2).2) 2)) (toI (cIa (rows0 (blkAt s.heap 2).2) 3)) k)) (fun s k => by kernel_rfl) (fun s k => spec34_0 k FU (blkAt s.heap 1).2.rows (blkAt s.heap 3).2.rows (toI (cIa s.tmps 5)) (toI (cIa (rows0 (blkAt s.heap 0).2) 0)) (toI (cIa (rows0 (blkAt s.heap 0).2) 1)) (toI (cIa (rows0 (blkAt s.heap 0).2) 2)) (toI (cIa (rows0 (blkAt s.heap 0).2) 3)) (toI (cIa (rows0 (blkAt s.heap 2).2) 0)) (toI (cIa (rows0 (blkAt s.heap 2).2) 1)) (toI (cIa (rows0 (blkAt s.heap 2).2) 2)) (toI (cIa (rows0 (blkAt s.heap 2).2) 3)))
theorem run34 (r_X : Int) (r_Y : Int) (r_W : Int) (r_H : Int) : fcall TT TU noG C33 ownF true L34 Try.f34 [(.agg [(.sc (.int .i64 r_X)), (.sc (.int .i64 r_Y)), (.sc (.int .i64 r_W)), (.sc (.int .i64 r_H))])] = (F_skirmishref06_Cells r_X r_Y r_W r_H).bind fun t => some (enc34 t) :=
  Eq.trans (b := (Option.bind (F_skirmishref06_rect r_X r_Y r_W r_H) fun t => (bif (decide (t.2.2.1 < (1 : Int))) then (some (CR.mk true (AVal.slc 0 0) [] [(Blk.mk BKind.arr 23 2 [])])) else (bif (decide (t.2.2.2 < (1 : Int))) then (some (CR.mk true (AVal.slc 0 0) [] [(Blk.mk BKind.arr 23 2 [])])) else (bif (decide ((wr (t.2.2.1 * t.2.2.2)) > (1024 : Int))) then (some (CR.mk true (AVal.slc 0 0) [] [(Blk.mk BKind.arr 23 2 [])])) else (Option.bind (G_skirmishref06_Cells_0 t.1 t.2.1 t.2.2.1 t.2.2.2 FU [] (0 : Int)) fun t1 => (bif (verEq t1.length t1.length) then (some (CR.mk true (AVal.slc 0 t1.length) [] [(Blk.mk BKind.arr 23 2 t1)])) else none))))))) (by kernel_rfl)
    (n_bind fun t => (n_condH rfl (fun h0 => rfl) fun h0 => (n_condH rfl (fun h1 => rfl) fun h1 => (n_condH rfl (fun h2 => rfl) fun h2 => (n_bind fun t1 => (n_true (verEq_rfl _) rfl))))))
theorem lib34 : Lib Try.prog noG C34 :=
  Lib.fn lib33 mixed TT_ok Try.func34 (by decide +kernel) (by kernel_rfl) true L34 (loops_of 2 (by kernel_rfl) (belowS (belowS below0 okL34_0) okL34_1)) ks34 (F := fun us => F_skirmishref06_Cells (toI (cIa (aggL (cIa us 0)) 0)) (toI (cIa (aggL (cIa us 0)) 1)) (toI (cIa (aggL (cIa us 0)) 2)) (toI (cIa (aggL (cIa us 0)) 3))) (fun us => rfl) (fun us => run34 (toI (cIa (aggL (cIa us 0)) 0)) (toI (cIa (aggL (cIa us 0)) 1)) (toI (cIa (aggL (cIa us 0)) 2)) (toI (cIa (aggL (cIa us 0)) 3))) (fun t => rfl)

/-! ### 8: skirmish/skirmishlaw06.GridRects -/



/-- 'skirmish/skirmishlaw06.GridRects' -/
noncomputable def F_skirmishlaw06_GridRects (r_X : Int) (r_Y : Int) (r_W : Int) (r_H : Int) (p_X : Int) (p_Y : Int) (size_0 : Int) (size_1 : Int) : Option (Bool) :=
  Option.bind (F_grid_Inside r_X r_Y r_W r_H p_X p_Y) fun t =>
  Option.bind (F_skirmishref06_Inside r_X r_Y r_W r_H p_X p_Y) fun t1 =>
  bif (t == t1) then
    Option.bind (F_grid_Clip size_0 size_1 r_X r_Y r_W r_H) fun t2 =>
    Option.bind (F_skirmishref06_Clip size_0 size_1 r_X r_Y r_W r_H) fun t3 =>
    bif ((t2.1 == t3.1) && ((t2.2.1 == t3.2.1) && ((t2.2.2.1 == t3.2.2.1) && (t2.2.2.2 == t3.2.2.2)))) then
      Option.bind (F_grid_Cells r_X r_Y r_W r_H) fun t4 =>
      Option.bind (F_skirmishref06_Cells r_X r_Y r_W r_H) fun t5 =>
      Option.bind (F_skirmishref06_Same t4 t5) fun t6 =>
      bif t6 then
        Option.bind F_skirmishlaw06_awake fun t7 =>
        some t7
      else
      some false
    else
    some false
  else
  some false
noncomputable def enc8 (t : Bool) : CR := ⟨true, (.sc (.bool t)), [], []⟩
noncomputable def ks8 : List SK := [.agg [.int .i64, .int .i64, .int .i64, .int .i64], .agg [.int .i64, .int .i64], .agg [.int .i64, .int .i64]]
noncomputable def S8 (us : List AVal) : Call := bif chkA ks8 us then Call.of (F_skirmishlaw06_GridRects (toI (cIa (aggL (cIa us 0)) 0)) (toI (cIa (aggL (cIa us 0)) 1)) (toI (cIa (aggL (cIa us 0)) 2)) (toI (cIa (aggL (cIa us 0)) 3)) (toI (cIa (aggL (cIa us 1)) 0)) (toI (cIa (aggL (cIa us 1)) 1)) (toI (cIa (aggL (cIa us 2)) 0)) (toI (cIa (aggL (cIa us 2)) 1))) enc8 else Call.none
noncomputable def C8 := AI.ext 8 S8 C34

theorem run8 (r_X : Int) (r_Y : Int) (r_W : Int) (r_H : Int) (p_X : Int) (p_Y : Int) (size_0 : Int) (size_1 : Int) : fcall TT TU noG C34 ownF true noL Try.f8 [(.agg [(.sc (.int .i64 r_X)), (.sc (.int .i64 r_Y)), (.sc (.int .i64 r_W)), (.sc (.int .i64 r_H))]), (.agg [(.sc (.int .i64 p_X)), (.sc (.int .i64 p_Y))]), (.agg [(.sc (.int .i64 size_0)), (.sc (.int .i64 size_1))])] = (F_skirmishlaw06_GridRects r_X r_Y r_W r_H p_X p_Y size_0 size_1).bind fun t => some (enc8 t) :=
  Eq.trans (b := (Option.bind (F_grid_Inside r_X r_Y r_W r_H p_X p_Y) fun t => (Option.bind (F_skirmishref06_Inside r_X r_Y r_W r_H p_X p_Y) fun t1 => (bif (t == t1) then (Option.bind (F_grid_Clip size_0 size_1 r_X r_Y r_W r_H) fun t2 => (Option.bind (F_skirmishref06_Clip size_0 size_1 r_X r_Y r_W r_H) fun t3 => (bif ((t2.1 == t3.1) && ((t2.2.1 == t3.2.1) && ((t2.2.2.1 == t3.2.2.1) && (t2.2.2.2 == t3.2.2.2)))) then (Option.bind (F_grid_Cells r_X r_Y r_W r_H) fun t4 => (bif ((((true && (verEq t4.length t4.length)) && true) && true) && true) then (Option.bind (F_skirmishref06_Cells r_X r_Y r_W r_H) fun t5 => (bif ((((true && (verEq t5.length t5.length)) && true) && true) && true) then (bif (verEq t4.length t4.length) then (bif (verEq t5.length t5.length) then (Option.bind (F_skirmishref06_Same t4 t5) fun t6 => (bif t6 then (Option.bind F_skirmishlaw06_awake fun t7 => (some (CR.mk true (bo t7) [] []))) else (some (CR.mk true (bo false) [] [])))) else none) else none) else none)) else none)) else (some (CR.mk true (bo false) [] []))))) else (some (CR.mk true (bo false) [] [])))))) (by kernel_rfl)
    (n_bind fun t => (n_bind fun t1 => (n_condH rfl (fun h0 => (n_bind fun t2 => (n_bind fun t3 => (n_condH rfl (fun h1 => (n_bind fun t4 => (n_true (n_andL (n_andL (n_andL (n_andL rfl (verEq_rfl _)) rfl) rfl) rfl) (n_bind fun t5 => (n_true (n_andL (n_andL (n_andL (n_andL rfl (verEq_rfl _)) rfl) rfl) rfl) (n_true (verEq_rfl _) (n_true (verEq_rfl _) (n_bind fun t6 => (n_condH rfl (fun h2 => (n_bind fun t7 => rfl)) fun h2 => rfl))))))))) fun h1 => rfl)))) fun h0 => rfl)))
theorem lib8 : Lib Try.prog noG C8 :=
  Lib.fn lib34 mixed TT_ok Try.func8 (by decide +kernel) (by kernel_rfl) true noL (loops_of 0 (by kernel_rfl) below0) ks8 (F := fun us => F_skirmishlaw06_GridRects (toI (cIa (aggL (cIa us 0)) 0)) (toI (cIa (aggL (cIa us 0)) 1)) (toI (cIa (aggL (cIa us 0)) 2)) (toI (cIa (aggL (cIa us 0)) 3)) (toI (cIa (aggL (cIa us 1)) 0)) (toI (cIa (aggL (cIa us 1)) 1)) (toI (cIa (aggL (cIa us 2)) 0)) (toI (cIa (aggL (cIa us 2)) 1))) (fun us => rfl) (fun us => run8 (toI (cIa (aggL (cIa us 0)) 0)) (toI (cIa (aggL (cIa us 0)) 1)) (toI (cIa (aggL (cIa us 0)) 2)) (toI (cIa (aggL (cIa us 0)) 3)) (toI (cIa (aggL (cIa us 1)) 0)) (toI (cIa (aggL (cIa us 1)) 1)) (toI (cIa (aggL (cIa us 2)) 0)) (toI (cIa (aggL (cIa us 2)) 1))) (fun t => rfl)

/-! ### 35: skirmish/grid.Meet -/



/-- 'skirmish/grid.Meet' -/
noncomputable def F_grid_Meet (a_X : Int) (a_Y : Int) (a_W : Int) (a_H : Int) (b_X : Int) (b_Y : Int) (b_W : Int) (b_H : Int) : Option (Bool) :=
  Option.bind (F_grid_rect a_X a_Y a_W a_H) fun t =>
  Option.bind (F_grid_rect b_X b_Y b_W b_H) fun t1 =>
  Option.bind (F_grid_meet t.1 t.2.1 t.2.2.1 t.2.2.2 t1.1 t1.2.1 t1.2.2.1 t1.2.2.2) fun t2 =>
  some (decide (t2.2.2.1 > (0 : Int)))
noncomputable def enc35 (t : Bool) : CR := ⟨true, (.sc (.bool t)), [], []⟩
noncomputable def ks35 : List SK := [.agg [.int .i64, .int .i64, .int .i64, .int .i64], .agg [.int .i64, .int .i64, .int .i64, .int .i64]]
noncomputable def S35 (us : List AVal) : Call := bif chkA ks35 us then Call.of (F_grid_Meet (toI (cIa (aggL (cIa us 0)) 0)) (toI (cIa (aggL (cIa us 0)) 1)) (toI (cIa (aggL (cIa us 0)) 2)) (toI (cIa (aggL (cIa us 0)) 3)) (toI (cIa (aggL (cIa us 1)) 0)) (toI (cIa (aggL (cIa us 1)) 1)) (toI (cIa (aggL (cIa us 1)) 2)) (toI (cIa (aggL (cIa us 1)) 3))) enc35 else Call.none
noncomputable def C35 := AI.ext 35 S35 C8

theorem run35 (a_X : Int) (a_Y : Int) (a_W : Int) (a_H : Int) (b_X : Int) (b_Y : Int) (b_W : Int) (b_H : Int) : fcall TT TU noG C8 ownF true noL Try.f35 [(.agg [(.sc (.int .i64 a_X)), (.sc (.int .i64 a_Y)), (.sc (.int .i64 a_W)), (.sc (.int .i64 a_H))]), (.agg [(.sc (.int .i64 b_X)), (.sc (.int .i64 b_Y)), (.sc (.int .i64 b_W)), (.sc (.int .i64 b_H))])] = (F_grid_Meet a_X a_Y a_W a_H b_X b_Y b_W b_H).bind fun t => some (enc35 t) :=
  Eq.trans (b := (Option.bind (F_grid_rect a_X a_Y a_W a_H) fun t => (Option.bind (F_grid_rect b_X b_Y b_W b_H) fun t1 => (Option.bind (F_grid_meet t.1 t.2.1 t.2.2.1 t.2.2.2 t1.1 t1.2.1 t1.2.2.1 t1.2.2.2) fun t2 => (some (CR.mk true (bo (decide (t2.2.2.1 > (0 : Int)))) [] [])))))) (by kernel_rfl)
    (n_bind fun t => (n_bind fun t1 => (n_bind fun t2 => rfl)))
theorem lib35 : Lib Try.prog noG C35 :=
  Lib.fn lib8 mixed TT_ok Try.func35 (by decide +kernel) (by kernel_rfl) true noL (loops_of 0 (by kernel_rfl) below0) ks35 (F := fun us => F_grid_Meet (toI (cIa (aggL (cIa us 0)) 0)) (toI (cIa (aggL (cIa us 0)) 1)) (toI (cIa (aggL (cIa us 0)) 2)) (toI (cIa (aggL (cIa us 0)) 3)) (toI (cIa (aggL (cIa us 1)) 0)) (toI (cIa (aggL (cIa us 1)) 1)) (toI (cIa (aggL (cIa us 1)) 2)) (toI (cIa (aggL (cIa us 1)) 3))) (fun us => rfl) (fun us => run35 (toI (cIa (aggL (cIa us 0)) 0)) (toI (cIa (aggL (cIa us 0)) 1)) (toI (cIa (aggL (cIa us 0)) 2)) (toI (cIa (aggL (cIa us 0)) 3)) (toI (cIa (aggL (cIa us 1)) 0)) (toI (cIa (aggL (cIa us 1)) 1)) (toI (cIa (aggL (cIa us 1)) 2)) (toI (cIa (aggL (cIa us 1)) 3))) (fun t => rfl)

/-! ### 36: skirmish/skirmishref06.Meet -/



/-- 'skirmish/skirmishref06.Meet' -/
noncomputable def F_skirmishref06_Meet (a_X : Int) (a_Y : Int) (a_W : Int) (a_H : Int) (b_X : Int) (b_Y : Int) (b_W : Int) (b_H : Int) : Option (Bool) :=
  Option.bind (F_skirmishref06_rect a_X a_Y a_W a_H) fun t =>
  Option.bind (F_skirmishref06_rect b_X b_Y b_W b_H) fun t1 =>
  Option.bind (F_skirmishref06_common t.1 t.2.1 t.2.2.1 t.2.2.2 t1.1 t1.2.1 t1.2.2.1 t1.2.2.2) fun t2 =>
  some (decide (t2.2.2.1 > (0 : Int)))
noncomputable def enc36 (t : Bool) : CR := ⟨true, (.sc (.bool t)), [], []⟩
noncomputable def ks36 : List SK := [.agg [.int .i64, .int .i64, .int .i64, .int .i64], .agg [.int .i64, .int .i64, .int .i64, .int .i64]]
noncomputable def S36 (us : List AVal) : Call := bif chkA ks36 us then Call.of (F_skirmishref06_Meet (toI (cIa (aggL (cIa us 0)) 0)) (toI (cIa (aggL (cIa us 0)) 1)) (toI (cIa (aggL (cIa us 0)) 2)) (toI (cIa (aggL (cIa us 0)) 3)) (toI (cIa (aggL (cIa us 1)) 0)) (toI (cIa (aggL (cIa us 1)) 1)) (toI (cIa (aggL (cIa us 1)) 2)) (toI (cIa (aggL (cIa us 1)) 3))) enc36 else Call.none
noncomputable def C36 := AI.ext 36 S36 C35

theorem run36 (a_X : Int) (a_Y : Int) (a_W : Int) (a_H : Int) (b_X : Int) (b_Y : Int) (b_W : Int) (b_H : Int) : fcall TT TU noG C35 ownF true noL Try.f36 [(.agg [(.sc (.int .i64 a_X)), (.sc (.int .i64 a_Y)), (.sc (.int .i64 a_W)), (.sc (.int .i64 a_H))]), (.agg [(.sc (.int .i64 b_X)), (.sc (.int .i64 b_Y)), (.sc (.int .i64 b_W)), (.sc (.int .i64 b_H))])] = (F_skirmishref06_Meet a_X a_Y a_W a_H b_X b_Y b_W b_H).bind fun t => some (enc36 t) :=
  Eq.trans (b := (Option.bind (F_skirmishref06_rect a_X a_Y a_W a_H) fun t => (Option.bind (F_skirmishref06_rect b_X b_Y b_W b_H) fun t1 => (Option.bind (F_skirmishref06_common t.1 t.2.1 t.2.2.1 t.2.2.2 t1.1 t1.2.1 t1.2.2.1 t1.2.2.2) fun t2 => (some (CR.mk true (bo (decide (t2.2.2.1 > (0 : Int)))) [] [])))))) (by kernel_rfl)
    (n_bind fun t => (n_bind fun t1 => (n_bind fun t2 => rfl)))
theorem lib36 : Lib Try.prog noG C36 :=
  Lib.fn lib35 mixed TT_ok Try.func36 (by decide +kernel) (by kernel_rfl) true noL (loops_of 0 (by kernel_rfl) below0) ks36 (F := fun us => F_skirmishref06_Meet (toI (cIa (aggL (cIa us 0)) 0)) (toI (cIa (aggL (cIa us 0)) 1)) (toI (cIa (aggL (cIa us 0)) 2)) (toI (cIa (aggL (cIa us 0)) 3)) (toI (cIa (aggL (cIa us 1)) 0)) (toI (cIa (aggL (cIa us 1)) 1)) (toI (cIa (aggL (cIa us 1)) 2)) (toI (cIa (aggL (cIa us 1)) 3))) (fun us => rfl) (fun us => run36 (toI (cIa (aggL (cIa us 0)) 0)) (toI (cIa (aggL (cIa us 0)) 1)) (toI (cIa (aggL (cIa us 0)) 2)) (toI (cIa (aggL (cIa us 0)) 3)) (toI (cIa (aggL (cIa us 1)) 0)) (toI (cIa (aggL (cIa us 1)) 1)) (toI (cIa (aggL (cIa us 1)) 2)) (toI (cIa (aggL (cIa us 1)) 3))) (fun t => rfl)

/-! ### 9: skirmish/skirmishlaw06.GridMeets -/

noncomputable def W9_0 : Ex → List Bool
  | .ret => [false, false, false, false, true, false, false, false, false, false, false, false, false, false, false, false, false, false, false, false, false, false, false, false, false, false, false, false, false, false, false, false, false, false, false, false, false, false, false, false, false, false, false, false, false, false, false, false, false, false, false]
  | .exit n => bif Nat.beq n 0 then [false, false, false, false, false, true, false, true, false, false, false, false, false, false, false, false, false, false, false, false, false, false, false, false, false, false, false, false, false, false, false, false, false, false, false, false, false, false, false, false, false, false, false, false, false, false, false, false, false, true, false] else []
  | .normal => []
noncomputable def G_skirmishlaw06_GridMeets_0 (R2 : List (List AVal)) (b1_0 : Int) (b1_1 : Int) (b1_2 : Int) (b1_3 : Int) : Nat → Bool → Int → Option (Bool)
  | 0, _, _ => none
  | m + 1, found, i =>
    bif (decide (i < (Int.ofNat R2.length))) then
      bif found then
        G_skirmishlaw06_GridMeets_0 R2 b1_0 b1_1 b1_2 b1_3 m true (wr (i + (1 : Int)))
      else
      bif ((decide ((0 : Int) ≤ i)) && (decide (i < (Int.ofNat R2.length)))) then
        Option.bind (R2[i.toNat]?) fun r =>
        bif (chk [(LT.int IntKind.i64), (LT.int IntKind.i64)] r) then
          Option.bind (F_grid_Inside b1_0 b1_1 b1_2 b1_3 (toI (i64 (cI r 0))) (toI (i64 (cI r 1)))) fun t =>
          G_skirmishlaw06_GridMeets_0 R2 b1_0 b1_1 b1_2 b1_3 m t (wr (i + (1 : Int)))
        else
        none
      else
      none
    else
    some found
noncomputable def E9_0 (R2 : List (List AVal)) (m1 : Bool) (found : Bool) (i : Int) (b0_0 : Int) (b0_1 : Int) (b0_2 : Int) (b0_3 : Int) (b1_0 : Int) (b1_1 : Int) (b1_2 : Int) (b1_3 : Int) : St := ⟨[.dead, .dead, .dead, (.ref 8008 1 0 0), .dead, (.sc (.bool m1)), (.slc 14408 (R2).length), (.sc (.bool found)), (.sc (.int .i64 i)), .dead, .dead, .dead, .dead, .dead, .dead, .dead, .dead, .dead, .dead, .dead, .dead, .dead, .dead, .dead, .dead, .dead, .dead, .dead, .dead, .dead, .dead, .dead, .dead, .dead, .dead, .dead, .dead, .dead, .dead, .dead, .dead, .dead, .dead, .dead, .dead, .dead, .dead, .dead, .dead, .dead, .dead], [(8000, ⟨.box, 39, 4, [[(.sc (.int .i64 b0_0)), (.sc (.int .i64 b0_1)), (.sc (.int .i64 b0_2)), (.sc (.int .i64 b0_3))]]⟩), (8008, ⟨.box, 39, 4, [[(.sc (.int .i64 b1_0)), (.sc (.int .i64 b1_1)), (.sc (.int .i64 b1_2)), (.sc (.int .i64 b1_3))]]⟩), (14408, ⟨.arr, 23, 2, R2⟩)]⟩
noncomputable def X9_0 (R2 : List (List AVal)) (m1 : Bool) (b0_0 : Int) (b0_1 : Int) (b0_2 : Int) (b0_3 : Int) (b1_0 : Int) (b1_1 : Int) (b1_2 : Int) (b1_3 : Int) (k : Ex → St → Option CR) (t : Bool) : Option CR := k (.exit 0) ⟨[.dead, .dead, .dead, .dead, .dead, (.sc (.bool m1)), .dead, (.sc (.bool t)), .dead, .dead, .dead, .dead, .dead, .dead, .dead, .dead, .dead, .dead, .dead, .dead, .dead, .dead, .dead, .dead, .dead, .dead, .dead, .dead, .dead, .dead, .dead, .dead, .dead, .dead, .dead, .dead, .dead, .dead, .dead, .dead, .dead, .dead, .dead, .dead, .dead, .dead, .dead, .dead, .dead, .dead, .dead], [(8000, ⟨.box, 39, 4, [[(.sc (.int .i64 b0_0)), (.sc (.int .i64 b0_1)), (.sc (.int .i64 b0_2)), (.sc (.int .i64 b0_3))]]⟩), (8008, ⟨.box, 39, 4, [[(.sc (.int .i64 b1_0)), (.sc (.int .i64 b1_1)), (.sc (.int .i64 b1_2)), (.sc (.int .i64 b1_3))]]⟩), (14408, ⟨.arr, 23, 2, R2⟩)]⟩
noncomputable def ks9_0 : List SK := [.f .dead, .f .dead, .f .dead, .f (.ref 8008 1 0 0), .f .dead, .f (.bool), .f (.slc 14408 2), .f (.bool), .f (.int .i64), .f .dead, .f .dead, .f .dead, .f .dead, .f .dead, .f .dead, .f .dead, .f .dead, .f .dead, .f .dead, .f .dead, .f .dead, .f .dead, .f .dead, .f .dead, .f .dead, .f .dead, .f .dead, .f .dead, .f .dead, .f .dead, .f .dead, .f .dead, .f .dead, .f .dead, .f .dead, .f .dead, .f .dead, .f .dead, .f .dead, .f .dead, .f .dead, .f .dead, .f .dead, .f .dead, .f .dead, .f .dead, .f .dead, .f .dead, .f .dead, .f .dead, .f .dead]
noncomputable def hs9_0 : List HK := [⟨8000, .box, 39, 4, some [.int .i64, .int .i64, .int .i64, .int .i64]⟩, ⟨8008, .box, 39, 4, some [.int .i64, .int .i64, .int .i64, .int .i64]⟩, ⟨14408, .arr, 23, 2, none⟩]
noncomputable def L9_0 (s : St) (k : Ex → St → Option CR) : Option CR := bif chkS ks9_0 hs9_0 s then (G_skirmishlaw06_GridMeets_0 (blkAt s.heap 2).2.rows (toI (cIa (rows0 (blkAt s.heap 1).2) 0)) (toI (cIa (rows0 (blkAt s.heap 1).2) 1)) (toI (cIa (rows0 (blkAt s.heap 1).2) 2)) (toI (cIa (rows0 (blkAt s.heap 1).2) 3)) FU (toB (cIa s.tmps 7)) (toI (cIa s.tmps 8))).bind (X9_0 (blkAt s.heap 2).2.rows (toB (cIa s.tmps 5)) (toI (cIa (rows0 (blkAt s.heap 0).2) 0)) (toI (cIa (rows0 (blkAt s.heap 0).2) 1)) (toI (cIa (rows0 (blkAt s.heap 0).2) 2)) (toI (cIa (rows0 (blkAt s.heap 0).2) 3)) (toI (cIa (rows0 (blkAt s.heap 1).2) 0)) (toI (cIa (rows0 (blkAt s.heap 1).2) 1)) (toI (cIa (rows0 (blkAt s.heap 1).2) 2)) (toI (cIa (rows0 (blkAt s.heap 1).2) 3)) k) else none

noncomputable def L9 : LT' := fun i s k => bif Nat.beq i 0 then L9_0 s k else none

/-- 'skirmish/skirmishlaw06.GridMeets' -/
noncomputable def F_skirmishlaw06_GridMeets (a_X : Int) (a_Y : Int) (a_W : Int) (a_H : Int) (b_X : Int) (b_Y : Int) (b_W : Int) (b_H : Int) : Option (Bool) :=
  Option.bind (F_grid_Meet a_X a_Y a_W a_H b_X b_Y b_W b_H) fun t =>
  Option.bind (F_skirmishref06_Meet a_X a_Y a_W a_H b_X b_Y b_W b_H) fun t1 =>
  bif (!(t == t1)) then
    some false
  else
  Option.bind (F_grid_Meet b_X b_Y b_W b_H a_X a_Y a_W a_H) fun t2 =>
  bif (!(t == t2)) then
    some false
  else
  Option.bind (F_grid_Cells a_X a_Y a_W a_H) fun t3 =>
  bif ((Int.ofNat t3.length) == (0 : Int)) then
    Option.bind F_skirmishlaw06_awake fun t4 =>
    some t4
  else
  Option.bind (G_skirmishlaw06_GridMeets_0 t3 b_X b_Y b_W b_H FU false (0 : Int)) fun t5 =>
  bif (t5 == t) then
    Option.bind F_skirmishlaw06_awake fun t6 =>
    some t6
  else
  some false
noncomputable def enc9 (t : Bool) : CR := ⟨true, (.sc (.bool t)), [], []⟩
noncomputable def ks9 : List SK := [.agg [.int .i64, .int .i64, .int .i64, .int .i64], .agg [.int .i64, .int .i64, .int .i64, .int .i64]]
noncomputable def S9 (us : List AVal) : Call := bif chkA ks9 us then Call.of (F_skirmishlaw06_GridMeets (toI (cIa (aggL (cIa us 0)) 0)) (toI (cIa (aggL (cIa us 0)) 1)) (toI (cIa (aggL (cIa us 0)) 2)) (toI (cIa (aggL (cIa us 0)) 3)) (toI (cIa (aggL (cIa us 1)) 0)) (toI (cIa (aggL (cIa us 1)) 1)) (toI (cIa (aggL (cIa us 1)) 2)) (toI (cIa (aggL (cIa us 1)) 3))) enc9 else Call.none
noncomputable def C9 := AI.ext 9 S9 C36

@[reducible] noncomputable def B9_0 := bodyOf TT TU noG C36 ownF L9 (lp Try.f9 0)
@[reducible] noncomputable def K9_0 (k : Ex → St → Option CR) : Ex → St → Option CR := fun e s => k e (maskS (W9_0 e) s)
theorem spec9_0 (k : Ex → St → Option CR) : ∀ (m : Nat) (R2 : List (List AVal)) (m1 : Bool) (found : Bool) (i : Int) (b0_0 : Int) (b0_1 : Int) (b0_2 : Int) (b0_3 : Int) (b1_0 : Int) (b1_1 : Int) (b1_2 : Int) (b1_3 : Int), loopN B9_0 m (E9_0 R2 m1 found i b0_0 b0_1 b0_2 b0_3 b1_0 b1_1 b1_2 b1_3) (K9_0 k) = (G_skirmishlaw06_GridMeets_0 R2 b1_0 b1_1 b1_2 b1_3 m found i).bind (X9_0 R2 m1 b0_0 b0_1 b0_2 b0_3 b1_0 b1_1 b1_2 b1_3 k)
  | 0, _, _, _, _, _, _, _, _, _, _, _, _ => rfl
  | m + 1, R2, m1, found, i, b0_0, b0_1, b0_2, b0_3, b1_0, b1_1, b1_2, b1_3 =>
    Eq.trans (b := (bif (verEq R2.length R2.length) then (bif (decide (i < (Int.ofNat R2.length))) then (bif found then (loopN B9_0 m ⟨[.dead, .dead, .dead, (AVal.ref 8008 1 0 0), .dead, (bo m1), (AVal.slc 14408 R2.length), (bo true), (i64 (wr (i + (1 : Int)))), .dead, .dead, .dead, .dead, .dead, .dead, .dead, .dead, .dead, .dead, .dead, .dead, .dead, .dead, .dead, .dead, .dead, .dead, .dead, .dead, .dead, .dead, .dead, .dead, .dead, .dead, .dead, .dead, .dead, .dead, .dead, .dead, .dead, .dead, .dead, .dead, .dead, .dead, .dead, .dead, .dead, .dead], [(Prod.mk 8000 (Blk.mk BKind.box 39 4 [[(i64 b0_0), (i64 b0_1), (i64 b0_2), (i64 b0_3)]])), (Prod.mk 8008 (Blk.mk BKind.box 39 4 [[(i64 b1_0), (i64 b1_1), (i64 b1_2), (i64 b1_3)]])), (Prod.mk 14408 (Blk.mk BKind.arr 23 2 R2))]⟩ (K9_0 k)) else (bif (((verEq R2.length R2.length) && (decide ((0 : Int) ≤ i))) && (decide (i < (Int.ofNat R2.length)))) then (bif (verEq R2.length R2.length) then (Option.bind (R2[i.toNat]?) fun r => (bif (chk [(LT.int IntKind.i64), (LT.int IntKind.i64)] r) then (Option.bind (F_grid_Inside b1_0 b1_1 b1_2 b1_3 (toI (i64 (cI r 0))) (toI (i64 (cI r 1)))) fun t => (loopN B9_0 m ⟨[.dead, .dead, .dead, (AVal.ref 8008 1 0 0), .dead, (bo m1), (AVal.slc 14408 R2.length), (bo t), (i64 (wr (i + (1 : Int)))), .dead, .dead, .dead, .dead, .dead, .dead, .dead, .dead, .dead, .dead, .dead, .dead, .dead, .dead, .dead, .dead, .dead, .dead, .dead, .dead, .dead, .dead, .dead, .dead, .dead, .dead, .dead, .dead, .dead, .dead, .dead, .dead, .dead, .dead, .dead, .dead, .dead, .dead, .dead, .dead, .dead, .dead], [(Prod.mk 8000 (Blk.mk BKind.box 39 4 [[(i64 b0_0), (i64 b0_1), (i64 b0_2), (i64 b0_3)]])), (Prod.mk 8008 (Blk.mk BKind.box 39 4 [[(i64 b1_0), (i64 b1_1), (i64 b1_2), (i64 b1_3)]])), (Prod.mk 14408 (Blk.mk BKind.arr 23 2 R2))]⟩ (K9_0 k))) else none)) else none) else none)) else (k (.exit 0) ⟨[.dead, .dead, .dead, .dead, .dead, (bo m1), .dead, (bo found), .dead, .dead, .dead, .dead, .dead, .dead, .dead, .dead, .dead, .dead, .dead, .dead, .dead, .dead, .dead, .dead, .dead, .dead, .dead, .dead, .dead, .dead, .dead, .dead, .dead, .dead, .dead, .dead, .dead, .dead, .dead, .dead, .dead, .dead, .dead, .dead, .dead, .dead, .dead, .dead, .dead, .dead, .dead], [(Prod.mk 8000 (Blk.mk BKind.box 39 4 [[(i64 b0_0), (i64 b0_1), (i64 b0_2), (i64 b0_3)]])), (Prod.mk 8008 (Blk.mk BKind.box 39 4 [[(i64 b1_0), (i64 b1_1), (i64 b1_2), (i64 b1_3)]])), (Prod.mk 14408 (Blk.mk BKind.arr 23 2 R2))]⟩)) else none)) (by kernel_rfl)
      (n_true (verEq_rfl _) (n_condH rfl (fun h0 => (n_condH rfl (fun h1 => (spec9_0 k m R2 m1 true (wr (i + (1 : Int))) b0_0 b0_1 b0_2 b0_3 b1_0 b1_1 b1_2 b1_3)) fun h1 => (n_condH (n_and (n_andL (verEq_rfl _) rfl) rfl) (fun h2 => (n_true (verEq_rfl _) (n_bind fun r => (n_condH rfl (fun h3 => (n_bind fun t => (spec9_0 k m R2 m1 t (wr (i + (1 : Int))) b0_0 b0_1 b0_2 b0_3 b1_0 b1_1 b1_2 b1_3))) fun h3 => n_none)))) fun h2 => n_none))) fun h0 => rfl))
theorem okL9_0 : LoopOk TT TU noG C36 ownF L9 (lp Try.f9 0) :=
  loopOk_of ks9_0 hs9_0 W9_0 FU (fun s k => (G_skirmishlaw06_GridMeets_0 (blkAt s.heap 2).2.rows (toI (cIa (rows0 (blkAt s.heap 1).2) 0)) (toI (cIa (rows0 (blkAt s.heap 1).2) 1)) (toI (cIa (rows0 (blkAt s.heap 1).2) 2)) (toI (cIa (rows0 (blkAt s.heap 1).2) 3)) FU (toB (cIa s.tmps 7)) (toI (cIa s.tmps 8))).bind (X9_0 (blkAt s.heap 2).2.rows (toB (cIa s.tmps 5)) (toI (cIa (rows0 (blkAt s.heap 0).2) 0)) (toI (cIa (rows0 (blkAt s.heap 0).2) 1)) (toI (cIa (rows0 (blkAt s.heap 0).2) 2)) (toI (cIa (rows0 (blkAt s.heap 0).2) 3)) (toI (cIa (rows0 (blkAt s.heap 1).2) 0)) (toI (cIa (rows0 (blkAt s.heap 1).2) 1)) (toI (cIa (rows0 (blkAt s.heap 1).2) 2)) (toI (cIa (rows0 (blkAt s.heap 1).2) 3)) k)) (fun s k => by kernel_rfl) (fun s k => spec9_0 k FU (blkAt s.heap 2).2.rows (toB (cIa s.tmps 5)) (toB (cIa s.tmps 7)) (toI (cIa s.tmps 8)) (toI (cIa (rows0 (blkAt s.heap 0).2) 0)) (toI (cIa (rows0 (blkAt s.heap 0).2) 1)) (toI (cIa (rows0 (blkAt s.heap 0).2) 2)) (toI (cIa (rows0 (blkAt s.heap 0).2) 3)) (toI (cIa (rows0 (blkAt s.heap 1).2) 0)) (toI (cIa (rows0 (blkAt s.heap 1).2) 1)) (toI (cIa (rows0 (blkAt s.heap 1).2) 2)) (toI (cIa (rows0 (blkAt s.heap 1).2) 3)))
theorem run9 (a_X : Int) (a_Y : Int) (a_W : Int) (a_H : Int) (b_X : Int) (b_Y : Int) (b_W : Int) (b_H : Int) : fcall TT TU noG C36 ownF true L9 Try.f9 [(.agg [(.sc (.int .i64 a_X)), (.sc (.int .i64 a_Y)), (.sc (.int .i64 a_W)), (.sc (.int .i64 a_H))]), (.agg [(.sc (.int .i64 b_X)), (.sc (.int .i64 b_Y)), (.sc (.int .i64 b_W)), (.sc (.int .i64 b_H))])] = (F_skirmishlaw06_GridMeets a_X a_Y a_W a_H b_X b_Y b_W b_H).bind fun t => some (enc9 t) :=
  Eq.trans (b := (Option.bind (F_grid_Meet a_X a_Y a_W a_H b_X b_Y b_W b_H) fun t => (Option.bind (F_skirmishref06_Meet a_X a_Y a_W a_H b_X b_Y b_W b_H) fun t1 => (bif (!(t == t1)) then (some (CR.mk true (bo false) [] [])) else (Option.bind (F_grid_Meet b_X b_Y b_W b_H a_X a_Y a_W a_H) fun t2 => (bif (!(t == t2)) then (some (CR.mk true (bo false) [] [])) else (Option.bind (F_grid_Cells a_X a_Y a_W a_H) fun t3 => (bif ((((true && (verEq t3.length t3.length)) && true) && true) && true) then (bif (verEq t3.length t3.length) then (bif ((Int.ofNat t3.length) == (0 : Int)) then (Option.bind F_skirmishlaw06_awake fun t4 => (some (CR.mk true (bo t4) [] []))) else (bif (((true && (verEq t3.length (blkLen [(Prod.mk 8000 (Blk.mk BKind.box 39 4 [[(i64 a_X), (i64 a_Y), (i64 a_W), (i64 a_H)]])), (Prod.mk 8008 (Blk.mk BKind.box 39 4 [[(i64 b_X), (i64 b_Y), (i64 b_W), (i64 b_H)]])), (Prod.mk 14408 (Blk.mk BKind.arr 23 2 t3))] 2))) && true) && true) then (Option.bind (G_skirmishlaw06_GridMeets_0 t3 b_X b_Y b_W b_H FU false (0 : Int)) fun t5 => (bif (t5 == t) then (Option.bind F_skirmishlaw06_awake fun t6 => (some (CR.mk true (bo t6) [] []))) else (some (CR.mk true (bo false) [] [])))) else none)) else none) else none)))))))) (by kernel_rfl)
    (n_bind fun t => (n_bind fun t1 => (n_condH rfl (fun h0 => rfl) fun h0 => (n_bind fun t2 => (n_condH rfl (fun h1 => rfl) fun h1 => (n_bind fun t3 => (n_true (n_andL (n_andL (n_andL (n_andL rfl (verEq_rfl _)) rfl) rfl) rfl) (n_true (verEq_rfl _) (n_condH rfl (fun h2 => (n_bind fun t4 => rfl)) fun h2 => (n_true (n_andL (n_andL (n_andL rfl (by first | exact verEq_of rfl | simp [verEq])) rfl) rfl) (n_bind fun t5 => (n_condH rfl (fun h3 => (n_bind fun t6 => rfl)) fun h3 => rfl))))))))))))
theorem lib9 : Lib Try.prog noG C9 :=
  Lib.fn lib36 mixed TT_ok Try.func9 (by decide +kernel) (by kernel_rfl) true L9 (loops_of 1 (by kernel_rfl) (belowS below0 okL9_0)) ks9 (F := fun us => F_skirmishlaw06_GridMeets (toI (cIa (aggL (cIa us 0)) 0)) (toI (cIa (aggL (cIa us 0)) 1)) (toI (cIa (aggL (cIa us 0)) 2)) (toI (cIa (aggL (cIa us 0)) 3)) (toI (cIa (aggL (cIa us 1)) 0)) (toI (cIa (aggL (cIa us 1)) 1)) (toI (cIa (aggL (cIa us 1)) 2)) (toI (cIa (aggL (cIa us 1)) 3))) (fun us => rfl) (fun us => run9 (toI (cIa (aggL (cIa us 0)) 0)) (toI (cIa (aggL (cIa us 0)) 1)) (toI (cIa (aggL (cIa us 0)) 2)) (toI (cIa (aggL (cIa us 0)) 3)) (toI (cIa (aggL (cIa us 1)) 0)) (toI (cIa (aggL (cIa us 1)) 1)) (toI (cIa (aggL (cIa us 1)) 2)) (toI (cIa (aggL (cIa us 1)) 3))) (fun t => rfl)

/-! ### 10: skirmish/skirmishlaw06.GridClips -/

noncomputable def W10_0 : Ex → List Bool
  | .ret => [false, false, false, false, false, false, true, false, false, false, false, false, false, false, false, false, false, false, false, false, false, false, false, false, false, false, false, false, false, false, false, false, false, false, false, false, false, false, false, false, false, false, false, false, false, false, false, false, false, false, false, false, false, false, false, false, false]
  | .exit n => bif Nat.beq n 0 then [false, false, false, false, false, false, false, false, false, true, true, false, false, false, false, false, false, false, false, false, false, false, false, false, false, false, false, false, false, false, false, false, false, false, false, false, false, false, false, false, false, false, false, false, false, false, false, false, false, false, false, false, false, false, false, true, false] else []
  | .normal => []
noncomputable def G_skirmishlaw06_GridClips_0 (x : Int) (y : Int) (b0_0 : Int) (b0_1 : Int) (b0_2 : Int) (b0_3 : Int) (b1_0 : Int) (b1_1 : Int) (b1_2 : Int) (b1_3 : Int) : Nat → Int → Int → Option (Bool × Int)
  | 0, _, _ => none
  | m + 1, n, i =>
    bif (decide (i < (wr (x * y)))) then
      Option.bind (F_grid_At x i) fun t =>
      Option.bind (F_grid_Inside b0_0 b0_1 b0_2 b0_3 t.1 t.2) fun t1 =>
      bif t1 then
        Option.bind (F_grid_At x i) fun t2 =>
        Option.bind (F_grid_Inside b0_0 b0_1 b0_2 b0_3 t2.1 t2.2) fun t3 =>
        Option.bind (F_grid_At x i) fun t4 =>
        Option.bind (F_grid_Inside b1_0 b1_1 b1_2 b1_3 t4.1 t4.2) fun t5 =>
        bif (!(t3 == t5)) then
          some (true, 0)
        else
        G_skirmishlaw06_GridClips_0 x y b0_0 b0_1 b0_2 b0_3 b1_0 b1_1 b1_2 b1_3 m (wr (n + (1 : Int))) (wr (i + (1 : Int)))
      else
      Option.bind (F_grid_At x i) fun t6 =>
      Option.bind (F_grid_Inside b0_0 b0_1 b0_2 b0_3 t6.1 t6.2) fun t7 =>
      Option.bind (F_grid_At x i) fun t8 =>
      Option.bind (F_grid_Inside b1_0 b1_1 b1_2 b1_3 t8.1 t8.2) fun t9 =>
      bif (!(t7 == t9)) then
        some (true, 0)
      else
      G_skirmishlaw06_GridClips_0 x y b0_0 b0_1 b0_2 b0_3 b1_0 b1_1 b1_2 b1_3 m n (wr (i + (1 : Int)))
    else
    some (false, n)
noncomputable def E10_0 (x : Int) (y : Int) (n : Int) (i : Int) (b0_0 : Int) (b0_1 : Int) (b0_2 : Int) (b0_3 : Int) (b1_0 : Int) (b1_1 : Int) (b1_2 : Int) (b1_3 : Int) : St := ⟨[.dead, .dead, .dead, .dead, .dead, (.ref 8000 1 0 0), .dead, (.sc (.int .i64 x)), (.sc (.int .i64 y)), (.ref 11232 1 0 0), (.sc (.int .i64 n)), (.sc (.int .i64 i)), .dead, .dead, .dead, .dead, .dead, .dead, .dead, .dead, .dead, .dead, .dead, .dead, .dead, .dead, .dead, .dead, .dead, .dead, .dead, .dead, .dead, .dead, .dead, .dead, .dead, .dead, .dead, .dead, .dead, .dead, .dead, .dead, .dead, .dead, .dead, .dead, .dead, .dead, .dead, .dead, .dead, .dead, .dead, .dead, .dead], [(8000, ⟨.box, 39, 4, [[(.sc (.int .i64 b0_0)), (.sc (.int .i64 b0_1)), (.sc (.int .i64 b0_2)), (.sc (.int .i64 b0_3))]]⟩), (11232, ⟨.box, 39, 4, [[(.sc (.int .i64 b1_0)), (.sc (.int .i64 b1_1)), (.sc (.int .i64 b1_2)), (.sc (.int .i64 b1_3))]]⟩)]⟩
noncomputable def X10_0 (b0_0 : Int) (b0_1 : Int) (b0_2 : Int) (b0_3 : Int) (b1_0 : Int) (b1_1 : Int) (b1_2 : Int) (b1_3 : Int) (k : Ex → St → Option CR) (t : Bool × Int) : Option CR := bif t.1 then k .ret ⟨[.dead, .dead, .dead, .dead, .dead, .dead, (.sc (.bool false)), .dead, .dead, .dead, .dead, .dead, .dead, .dead, .dead, .dead, .dead, .dead, .dead, .dead, .dead, .dead, .dead, .dead, .dead, .dead, .dead, .dead, .dead, .dead, .dead, .dead, .dead, .dead, .dead, .dead, .dead, .dead, .dead, .dead, .dead, .dead, .dead, .dead, .dead, .dead, .dead, .dead, .dead, .dead, .dead, .dead, .dead, .dead, .dead, .dead, .dead], [(8000, ⟨.box, 39, 4, [[(.sc (.int .i64 b0_0)), (.sc (.int .i64 b0_1)), (.sc (.int .i64 b0_2)), (.sc (.int .i64 b0_3))]]⟩), (11232, ⟨.box, 39, 4, [[(.sc (.int .i64 b1_0)), (.sc (.int .i64 b1_1)), (.sc (.int .i64 b1_2)), (.sc (.int .i64 b1_3))]]⟩)]⟩ else k (.exit 0) ⟨[.dead, .dead, .dead, .dead, .dead, .dead, .dead, .dead, .dead, (.ref 11232 1 0 0), (.sc (.int .i64 t.2)), .dead, .dead, .dead, .dead, .dead, .dead, .dead, .dead, .dead, .dead, .dead, .dead, .dead, .dead, .dead, .dead, .dead, .dead, .dead, .dead, .dead, .dead, .dead, .dead, .dead, .dead, .dead, .dead, .dead, .dead, .dead, .dead, .dead, .dead, .dead, .dead, .dead, .dead, .dead, .dead, .dead, .dead, .dead, .dead, .dead, .dead], [(8000, ⟨.box, 39, 4, [[(.sc (.int .i64 b0_0)), (.sc (.int .i64 b0_1)), (.sc (.int .i64 b0_2)), (.sc (.int .i64 b0_3))]]⟩), (11232, ⟨.box, 39, 4, [[(.sc (.int .i64 b1_0)), (.sc (.int .i64 b1_1)), (.sc (.int .i64 b1_2)), (.sc (.int .i64 b1_3))]]⟩)]⟩
noncomputable def ks10_0 : List SK := [.f .dead, .f .dead, .f .dead, .f .dead, .f .dead, .f (.ref 8000 1 0 0), .f .dead, .f (.int .i64), .f (.int .i64), .f (.ref 11232 1 0 0), .f (.int .i64), .f (.int .i64), .f .dead, .f .dead, .f .dead, .f .dead, .f .dead, .f .dead, .f .dead, .f .dead, .f .dead, .f .dead, .f .dead, .f .dead, .f .dead, .f .dead, .f .dead, .f .dead, .f .dead, .f .dead, .f .dead, .f .dead, .f .dead, .f .dead, .f .dead, .f .dead, .f .dead, .f .dead, .f .dead, .f .dead, .f .dead, .f .dead, .f .dead, .f .dead, .f .dead, .f .dead, .f .dead, .f .dead, .f .dead, .f .dead, .f .dead, .f .dead, .f .dead, .f .dead, .f .dead, .f .dead, .f .dead]
noncomputable def hs10_0 : List HK := [⟨8000, .box, 39, 4, some [.int .i64, .int .i64, .int .i64, .int .i64]⟩, ⟨11232, .box, 39, 4, some [.int .i64, .int .i64, .int .i64, .int .i64]⟩]
noncomputable def L10_0 (s : St) (k : Ex → St → Option CR) : Option CR := bif chkS ks10_0 hs10_0 s then (G_skirmishlaw06_GridClips_0 (toI (cIa s.tmps 7)) (toI (cIa s.tmps 8)) (toI (cIa (rows0 (blkAt s.heap 0).2) 0)) (toI (cIa (rows0 (blkAt s.heap 0).2) 1)) (toI (cIa (rows0 (blkAt s.heap 0).2) 2)) (toI (cIa (rows0 (blkAt s.heap 0).2) 3)) (toI (cIa (rows0 (blkAt s.heap 1).2) 0)) (toI (cIa (rows0 (blkAt s.heap 1).2) 1)) (toI (cIa (rows0 (blkAt s.heap 1).2) 2)) (toI (cIa (rows0 (blkAt s.heap 1).2) 3)) FU (toI (cIa s.tmps 10)) (toI (cIa s.tmps 11))).bind (X10_0 (toI (cIa (rows0 (blkAt s.heap 0).2) 0)) (toI (cIa (rows0 (blkAt s.heap 0).2) 1)) (toI (cIa (rows0 (blkAt s.heap 0).2) 2)) (toI (cIa (rows0 (blkAt s.heap 0).2) 3)) (toI (cIa (rows0 (blkAt s.heap 1).2) 0)) (toI (cIa (rows0 (blkAt s.heap 1).2) 1)) (toI (cIa (rows0 (blkAt s.heap 1).2) 2)) (toI (cIa (rows0 (blkAt s.heap 1).2) 3)) k) else none

noncomputable def L10 : LT' := fun i s k => bif Nat.beq i 0 then L10_0 s k else none

/-- 'skirmish/skirmishlaw06.GridClips' -/
noncomputable def F_skirmishlaw06_GridClips (w : Int) (h : Int) (r_X : Int) (r_Y : Int) (r_W : Int) (r_H : Int) : Option (Bool) :=
  Option.bind (F_grid_Clip (wr ((wr (Int.tmod w (32 : Int))) + (1 : Int))) (wr ((wr (Int.tmod h (32 : Int))) + (1 : Int))) r_X r_Y r_W r_H) fun t =>
  Option.bind (G_skirmishlaw06_GridClips_0 (wr ((wr (Int.tmod w (32 : Int))) + (1 : Int))) (wr ((wr (Int.tmod h (32 : Int))) + (1 : Int))) r_X r_Y r_W r_H t.1 t.2.1 t.2.2.1 t.2.2.2 FU (0 : Int) (0 : Int)) fun t1 =>
  bif t1.1 then
    some false
  else
  Option.bind (F_grid_Cells t.1 t.2.1 t.2.2.1 t.2.2.2) fun t2 =>
  bif ((Int.ofNat t2.length) == t1.2) then
    Option.bind F_skirmishlaw06_awake fun t3 =>
    some t3
  else
  some false
noncomputable def enc10 (t : Bool) : CR := ⟨true, (.sc (.bool t)), [], []⟩
noncomputable def ks10 : List SK := [.f (.int .u8), .f (.int .u8), .agg [.int .i64, .int .i64, .int .i64, .int .i64]]
noncomputable def S10 (us : List AVal) : Call := bif chkA ks10 us then Call.of (F_skirmishlaw06_GridClips (toI (cIa us 0)) (toI (cIa us 1)) (toI (cIa (aggL (cIa us 2)) 0)) (toI (cIa (aggL (cIa us 2)) 1)) (toI (cIa (aggL (cIa us 2)) 2)) (toI (cIa (aggL (cIa us 2)) 3))) enc10 else Call.none
noncomputable def C10 := AI.ext 10 S10 C9

@[reducible] noncomputable def B10_0 := bodyOf TT TU noG C9 ownF L10 (lp Try.f10 0)
@[reducible] noncomputable def K10_0 (k : Ex → St → Option CR) : Ex → St → Option CR := fun e s => k e (maskS (W10_0 e) s)
theorem spec10_0 (k : Ex → St → Option CR) : ∀ (m : Nat) (x : Int) (y : Int) (n : Int) (i : Int) (b0_0 : Int) (b0_1 : Int) (b0_2 : Int) (b0_3 : Int) (b1_0 : Int) (b1_1 : Int) (b1_2 : Int) (b1_3 : Int), loopN B10_0 m (E10_0 x y n i b0_0 b0_1 b0_2 b0_3 b1_0 b1_1 b1_2 b1_3) (K10_0 k) = (G_skirmishlaw06_GridClips_0 x y b0_0 b0_1 b0_2 b0_3 b1_0 b1_1 b1_2 b1_3 m n i).bind (X10_0 b0_0 b0_1 b0_2 b0_3 b1_0 b1_1 b1_2 b1_3 k)
  | 0, _, _, _, _, _, _, _, _, _, _, _, _ => rfl
  | m + 1, x, y, n, i, b0_0, b0_1, b0_2, b0_3, b1_0, b1_1, b1_2, b1_3 =>
    Eq.trans (b := (bif (decide (i < (wr (x * y)))) then (Option.bind (F_grid_At x i) fun t => (Option.bind (F_grid_Inside b0_0 b0_1 b0_2 b0_3 t.1 t.2) fun t1 => (bif t1 then (Option.bind (F_grid_At x i) fun t2 => (Option.bind (F_grid_Inside b0_0 b0_1 b0_2 b0_3 t2.1 t2.2) fun t3 => (Option.bind (F_grid_At x i) fun t4 => (Option.bind (F_grid_Inside b1_0 b1_1 b1_2 b1_3 t4.1 t4.2) fun t5 => (bif (!(t3 == t5)) then (k .ret ⟨[.dead, .dead, .dead, .dead, .dead, .dead, (bo false), .dead, .dead, .dead, .dead, .dead, .dead, .dead, .dead, .dead, .dead, .dead, .dead, .dead, .dead, .dead, .dead, .dead, .dead, .dead, .dead, .dead, .dead, .dead, .dead, .dead, .dead, .dead, .dead, .dead, .dead, .dead, .dead, .dead, .dead, .dead, .dead, .dead, .dead, .dead, .dead, .dead, .dead, .dead, .dead, .dead, .dead, .dead, .dead, .dead, .dead], [(Prod.mk 8000 (Blk.mk BKind.box 39 4 [[(i64 b0_0), (i64 b0_1), (i64 b0_2), (i64 b0_3)]])), (Prod.mk 11232 (Blk.mk BKind.box 39 4 [[(i64 b1_0), (i64 b1_1), (i64 b1_2), (i64 b1_3)]]))]⟩) else (loopN B10_0 m ⟨[.dead, .dead, .dead, .dead, .dead, (AVal.ref 8000 1 0 0), .dead, (i64 x), (i64 y), (AVal.ref 11232 1 0 0), (i64 (wr (n + (1 : Int)))), (i64 (wr (i + (1 : Int)))), .dead, .dead, .dead, .dead, .dead, .dead, .dead, .dead, .dead, .dead, .dead, .dead, .dead, .dead, .dead, .dead, .dead, .dead, .dead, .dead, .dead, .dead, .dead, .dead, .dead, .dead, .dead, .dead, .dead, .dead, .dead, .dead, .dead, .dead, .dead, .dead, .dead, .dead, .dead, .dead, .dead, .dead, .dead, .dead, .dead], [(Prod.mk 8000 (Blk.mk BKind.box 39 4 [[(i64 b0_0), (i64 b0_1), (i64 b0_2), (i64 b0_3)]])), (Prod.mk 11232 (Blk.mk BKind.box 39 4 [[(i64 b1_0), (i64 b1_1), (i64 b1_2), (i64 b1_3)]]))]⟩ (K10_0 k))))))) else (Option.bind (F_grid_At x i) fun t6 => (Option.bind (F_grid_Inside b0_0 b0_1 b0_2 b0_3 t6.1 t6.2) fun t7 => (Option.bind (F_grid_At x i) fun t8 => (Option.bind (F_grid_Inside b1_0 b1_1 b1_2 b1_3 t8.1 t8.2) fun t9 => (bif (!(t7 == t9)) then (k .ret ⟨[.dead, .dead, .dead, .dead, .dead, .dead, (bo false), .dead, .dead, .dead, .dead, .dead, .dead, .dead, .dead, .dead, .dead, .dead, .dead, .dead, .dead, .dead, .dead, .dead, .dead, .dead, .dead, .dead, .dead, .dead, .dead, .dead, .dead, .dead, .dead, .dead, .dead, .dead, .dead, .dead, .dead, .dead, .dead, .dead, .dead, .dead, .dead, .dead, .dead, .dead, .dead, .dead, .dead, .dead, .dead, .dead, .dead], [(Prod.mk 8000 (Blk.mk BKind.box 39 4 [[(i64 b0_0), (i64 b0_1), (i64 b0_2), (i64 b0_3)]])), (Prod.mk 11232 (Blk.mk BKind.box 39 4 [[(i64 b1_0), (i64 b1_1), (i64 b1_2), (i64 b1_3)]]))]⟩) else (loopN B10_0 m ⟨[.dead, .dead, .dead, .dead, .dead, (AVal.ref 8000 1 0 0), .dead, (i64 x), (i64 y), (AVal.ref 11232 1 0 0), (i64 n), (i64 (wr (i + (1 : Int)))), .dead, .dead, .dead, .dead, .dead, .dead, .dead, .dead, .dead, .dead, .dead, .dead, .dead, .dead, .dead, .dead, .dead, .dead, .dead, .dead, .dead, .dead, .dead, .dead, .dead, .dead, .dead, .dead, .dead, .dead, .dead, .dead, .dead, .dead, .dead, .dead, .dead, .dead, .dead, .dead, .dead, .dead, .dead, .dead, .dead], [(Prod.mk 8000 (Blk.mk BKind.box 39 4 [[(i64 b0_0), (i64 b0_1), (i64 b0_2), (i64 b0_3)]])), (Prod.mk 11232 (Blk.mk BKind.box 39 4 [[(i64 b1_0), (i64 b1_1), (i64 b1_2), (i64 b1_3)]]))]⟩ (K10_0 k)))))))))) else (k (.exit 0) ⟨[.dead, .dead, .dead, .dead, .dead, .dead, .dead, .dead, .dead, (AVal.ref 11232 1 0 0), (i64 n), .dead, .dead, .dead, .dead, .dead, .dead, .dead, .dead, .dead, .dead, .dead, .dead, .dead, .dead, .dead, .dead, .dead, .dead, .dead, .dead, .dead, .dead, .dead, .dead, .dead, .dead, .dead, .dead, .dead, .dead, .dead, .dead, .dead, .dead, .dead, .dead, .dead, .dead, .dead, .dead, .dead, .dead, .dead, .dead, .dead, .dead], [(Prod.mk 8000 (Blk.mk BKind.box 39 4 [[(i64 b0_0), (i64 b0_1), (i64 b0_2), (i64 b0_3)]])), (Prod.mk 11232 (Blk.mk BKind.box 39 4 [[(i64 b1_0), (i64 b1_1), (i64 b1_2), (i64 b1_3)]]))]⟩))) (by kernel_rfl)
      (n_condH rfl (fun h0 => (n_bind fun t => (n_bind fun t1 => (n_condH rfl (fun h1 => (n_bind fun t2 => (n_bind fun t3 => (n_bind fun t4 => (n_bind fun t5 => (n_condH rfl (fun h2 => rfl) fun h2 => (spec10_0 k m x y (wr (n + (1 : Int))) (wr (i + (1 : Int))) b0_0 b0_1 b0_2 b0_3 b1_0 b1_1 b1_2 b1_3))))))) fun h1 => (n_bind fun t6 => (n_bind fun t7 => (n_bind fun t8 => (n_bind fun t9 => (n_condH rfl (fun h2 => rfl) fun h2 => (spec10_0 k m x y n (wr (i + (1 : Int))) b0_0 b0_1 b0_2 b0_3 b1_0 b1_1 b1_2 b1_3)))))))))) fun h0 => rfl)
theorem okL10_0 : LoopOk TT TU noG C9 ownF L10 (lp Try.f10 0) :=
  loopOk_of ks10_0 hs10_0 W10_0 FU (fun s k => (G_skirmishlaw06_GridClips_0 (toI (cIa s.tmps 7)) (toI (cIa s.tmps 8)) (toI (cIa (rows0 (blkAt s.heap 0).2) 0)) (toI (cIa (rows0 (blkAt s.heap 0).2) 1)) (toI (cIa (rows0 (blkAt s.heap 0).2) 2)) (toI (cIa (rows0 (blkAt s.heap 0).2) 3)) (toI (cIa (rows0 (blkAt s.heap 1).2) 0)) (toI (cIa (rows0 (blkAt s.heap 1).2) 1)) (toI (cIa (rows0 (blkAt s.heap 1).2) 2)) (toI (cIa (rows0 (blkAt s.heap 1).2) 3)) FU (toI (cIa s.tmps 10)) (toI (cIa s.tmps 11))).bind (X10_0 (toI (cIa (rows0 (blkAt s.heap 0).2) 0)) (toI (cIa (rows0 (blkAt s.heap 0).2) 1)) (toI (cIa (rows0 (blkAt s.heap 0).2) 2)) (toI (cIa (rows0 (blkAt s.heap 0).2) 3)) (toI (cIa (rows0 (blkAt s.heap 1).2) 0)) (toI (cIa (rows0 (blkAt s.heap 1).2) 1)) (toI (cIa (rows0 (blkAt s.heap 1).2) 2)) (toI (cIa (rows0 (blkAt s.heap 1).2) 3)) k)) (fun s k => by kernel_rfl) (fun s k => spec10_0 k FU (toI (cIa s.tmps 7)) (toI (cIa s.tmps 8)) (toI (cIa s.tmps 10)) (toI (cIa s.tmps 11)) (toI (cIa (rows0 (blkAt s.heap 0).2) 0)) (toI (cIa (rows0 (blkAt s.heap 0).2) 1)) (toI (cIa (rows0 (blkAt s.heap 0).2) 2)) (toI (cIa (rows0 (blkAt s.heap 0).2) 3)) (toI (cIa (rows0 (blkAt s.heap 1).2) 0)) (toI (cIa (rows0 (blkAt s.heap 1).2) 1)) (toI (cIa (rows0 (blkAt s.heap 1).2) 2)) (toI (cIa (rows0 (blkAt s.heap 1).2) 3)))
theorem run10 (w : Int) (h : Int) (r_X : Int) (r_Y : Int) (r_W : Int) (r_H : Int) : fcall TT TU noG C9 ownF true L10 Try.f10 [(.sc (.int .u8 w)), (.sc (.int .u8 h)), (.agg [(.sc (.int .i64 r_X)), (.sc (.int .i64 r_Y)), (.sc (.int .i64 r_W)), (.sc (.int .i64 r_H))])] = (F_skirmishlaw06_GridClips w h r_X r_Y r_W r_H).bind fun t => some (enc10 t) :=
  Eq.trans (b := (Option.bind (F_grid_Clip (wr ((wr (Int.tmod w (32 : Int))) + (1 : Int))) (wr ((wr (Int.tmod h (32 : Int))) + (1 : Int))) r_X r_Y r_W r_H) fun t => (Option.bind (G_skirmishlaw06_GridClips_0 (wr ((wr (Int.tmod w (32 : Int))) + (1 : Int))) (wr ((wr (Int.tmod h (32 : Int))) + (1 : Int))) r_X r_Y r_W r_H t.1 t.2.1 t.2.2.1 t.2.2.2 FU (0 : Int) (0 : Int)) fun t1 => (bif t1.1 then (some (CR.mk true (bo false) [] [])) else (Option.bind (F_grid_Cells t.1 t.2.1 t.2.2.1 t.2.2.2) fun t2 => (bif ((((true && (verEq t2.length t2.length)) && true) && true) && true) then (bif (verEq t2.length t2.length) then (bif ((Int.ofNat t2.length) == t1.2) then (Option.bind F_skirmishlaw06_awake fun t3 => (some (CR.mk true (bo t3) [] []))) else (some (CR.mk true (bo false) [] []))) else none) else none)))))) (by kernel_rfl)
    (n_bind fun t => (n_bind fun t1 => (n_condH rfl (fun h0 => rfl) fun h0 => (n_bind fun t2 => (n_true (n_andL (n_andL (n_andL (n_andL rfl (verEq_rfl _)) rfl) rfl) rfl) (n_true (verEq_rfl _) (n_condH rfl (fun h1 => (n_bind fun t3 => rfl)) fun h1 => rfl)))))))
theorem lib10 : Lib Try.prog noG C10 :=
  Lib.fn lib9 mixed TT_ok Try.func10 (by decide +kernel) (by kernel_rfl) true L10 (loops_of 1 (by kernel_rfl) (belowS below0 okL10_0)) ks10 (F := fun us => F_skirmishlaw06_GridClips (toI (cIa us 0)) (toI (cIa us 1)) (toI (cIa (aggL (cIa us 2)) 0)) (toI (cIa (aggL (cIa us 2)) 1)) (toI (cIa (aggL (cIa us 2)) 2)) (toI (cIa (aggL (cIa us 2)) 3))) (fun us => rfl) (fun us => run10 (toI (cIa us 0)) (toI (cIa us 1)) (toI (cIa (aggL (cIa us 2)) 0)) (toI (cIa (aggL (cIa us 2)) 1)) (toI (cIa (aggL (cIa us 2)) 2)) (toI (cIa (aggL (cIa us 2)) 3))) (fun t => rfl)

end Go.Proofs.Ytkmclpgkcdpgbaa.AI
