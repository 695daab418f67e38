/- What functions answer: printed by wip/tool2/Ev.lean out of the interpreter's run; each print is checked by Lean. -/
import Derived.Test.YtocgekefbdcdmaaDoorTab
namespace Go.Proofs.YtocgekefbdcdmaaDoor.AI
open Go.RowKit
set_option linter.unusedVariables false
set_option maxRecDepth 100000
/-! ### 10: skirmish/skirmishlaw07.huge -/



/-- 'skirmish/skirmishlaw07.huge' -/
noncomputable def F_skirmishlaw07_huge (m_W : Int) (m_H : Int) (m_Cells : List (List AVal)) : Option (Bool) :=
  some (decide ((Int.ofNat m_Cells.length) > (2000 : Int)))
noncomputable def enc10 (t : Bool) : CR := ⟨true, (.sc (.bool t)), [], []⟩
noncomputable def ks10 : List SK := [.agg [.int .i64, .int .i64, .ro 3]]
noncomputable def S10 (us : List AVal) : Call := bif chkA ks10 us then Call.of (F_skirmishlaw07_huge (toI (cIa (aggL (cIa us 0)) 0)) (toI (cIa (aggL (cIa us 0)) 1)) (roRows (cIa (aggL (cIa us 0)) 2))) enc10 else Call.none
noncomputable def C10 := AI.ext 10 S10 Cnone

theorem run10 (m_W : Int) (m_H : Int) (m_Cells : List (List AVal)) : fcall TT TU GL0 Cnone ownF true noL Tryd.f10 [(.agg [(.sc (.int .i64 m_W)), (.sc (.int .i64 m_H)), (.ro 3 m_Cells)])] = (F_skirmishlaw07_huge m_W m_H m_Cells).bind fun t => some (enc10 t) :=
  Eq.trans (b := (some (CR.mk true (bo (decide ((Int.ofNat m_Cells.length) > (2000 : Int)))) [] []))) (by kernel_rfl)
    rfl
theorem lib10 : Lib Tryd.prog GL0 C10 :=
  Lib.fn libnone mixed TT_ok Tryd.func10 (by decide +kernel) (by kernel_rfl) true noL (loops_of 0 (by kernel_rfl) below0) ks10 (F := fun us => F_skirmishlaw07_huge (toI (cIa (aggL (cIa us 0)) 0)) (toI (cIa (aggL (cIa us 0)) 1)) (roRows (cIa (aggL (cIa us 0)) 2))) (fun us => rfl) (fun us => run10 (toI (cIa (aggL (cIa us 0)) 0)) (toI (cIa (aggL (cIa us 0)) 1)) (roRows (cIa (aggL (cIa us 0)) 2))) (fun t => rfl)

/-! ### 30: skirmish/skirmishlaw07.flat -/



/-- 'skirmish/skirmishlaw07.flat' -/
noncomputable def F_skirmishlaw07_flat : Option (List (List AVal) × Int × Int) :=
  some ([[(i64 (1 : Int)), (i64 (0 : Int)), (i64 (0 : Int))], [(i64 (1 : Int)), (i64 (0 : Int)), (i64 (0 : Int))], [(i64 (5 : Int)), (i64 (0 : Int)), (i64 (3 : Int))], [(i64 (1 : Int)), (i64 (0 : Int)), (i64 (0 : Int))]], (2 : Int), (2 : Int))
noncomputable def enc30 (t : List (List AVal) × Int × Int) : CR := ⟨true, (.agg [(.sc (.int .i64 t.2.1)), (.sc (.int .i64 t.2.2)), (.slc 0 (t.1).length)]), [], [⟨.arr, 28, 3, t.1⟩]⟩
noncomputable def ks30 : List SK := []
noncomputable def S30 (us : List AVal) : Call := bif chkA ks30 us then Call.of (F_skirmishlaw07_flat) enc30 else Call.none
noncomputable def C30 := AI.ext 30 S30 C10

theorem run30 : fcall TT TU GL0 C10 ownF true noL Tryd.f30 [] = (F_skirmishlaw07_flat).bind fun t => some (enc30 t) :=
  Eq.trans (b := (some (CR.mk true (AVal.agg [(i64 (2 : Int)), (i64 (2 : Int)), (AVal.slc 0 4)]) [] [(Blk.mk BKind.arr 28 3 [[(i64 (1 : Int)), (i64 (0 : Int)), (i64 (0 : Int))], [(i64 (1 : Int)), (i64 (0 : Int)), (i64 (0 : Int))], [(i64 (5 : Int)), (i64 (0 : Int)), (i64 (3 : Int))], [(i64 (1 : Int)), (i64 (0 : Int)), (i64 (0 : Int))]])]))) (by kernel_rfl)
    rfl
theorem lib30 : Lib Tryd.prog GL0 C30 :=
  Lib.fn lib10 mixed TT_ok Tryd.func30 (by decide +kernel) (by kernel_rfl) true noL (loops_of 0 (by kernel_rfl) below0) ks30 (F := fun us => F_skirmishlaw07_flat) (fun us => rfl) (fun us => run30) (fun t => rfl)

/-! ### 55: skirmish/grid.Valid -/



/-- 'skirmish/grid.Valid' -/
noncomputable def F_grid_Valid (w : Int) (h : Int) : Option (Bool) :=
  bif (decide (w ≥ (1 : Int))) then
    bif (decide (w ≤ (32 : Int))) then
      bif (decide (h ≥ (1 : Int))) then
        some (decide (h ≤ (32 : Int)))
      else
      some false
    else
    some false
  else
  some false
noncomputable def enc55 (t : Bool) : CR := ⟨true, (.sc (.bool t)), [], []⟩
noncomputable def ks55 : List SK := [.f (.int .i64), .f (.int .i64)]
noncomputable def S55 (us : List AVal) : Call := bif chkA ks55 us then Call.of (F_grid_Valid (toI (cIa us 0)) (toI (cIa us 1))) enc55 else Call.none
noncomputable def C55 := AI.ext 55 S55 C30

theorem run55 (w : Int) (h : Int) : fcall TT TU GL0 C30 ownF true noL Tryd.f55 [(.sc (.int .i64 w)), (.sc (.int .i64 h))] = (F_grid_Valid w h).bind fun t => some (enc55 t) :=
  Eq.trans (b := (bif (decide (w ≥ (1 : Int))) then (bif (decide (w ≤ (32 : Int))) then (bif (decide (h ≥ (1 : Int))) then (some (CR.mk true (bo (decide (h ≤ (32 : Int)))) [] [])) else (some (CR.mk true (bo false) [] []))) else (some (CR.mk true (bo false) [] []))) else (some (CR.mk true (bo false) [] [])))) (by kernel_rfl)
    (n_condH rfl (fun h0 => (n_condH rfl (fun h1 => (n_condH rfl (fun h2 => rfl) fun h2 => rfl)) fun h1 => rfl)) fun h0 => rfl)
theorem lib55 : Lib Tryd.prog GL0 C55 :=
  Lib.fn lib30 mixed TT_ok Tryd.func55 (by decide +kernel) (by kernel_rfl) true noL (loops_of 0 (by kernel_rfl) below0) ks55 (F := fun us => F_grid_Valid (toI (cIa us 0)) (toI (cIa us 1))) (fun us => rfl) (fun us => run55 (toI (cIa us 0)) (toI (cIa us 1))) (fun t => rfl)

/-! ### 39: skirmish/terrain.formed -/



/-- 'skirmish/terrain.formed' -/
noncomputable def F_terrain_formed (m_W : Int) (m_H : Int) (m_Cells : List (List AVal)) : Option (Bool) :=
  Option.bind (F_grid_Valid m_W m_H) fun t =>
  bif t then
    some ((Int.ofNat m_Cells.length) == (wr (m_W * m_H)))
  else
  some false
noncomputable def enc39 (t : Bool) : CR := ⟨true, (.sc (.bool t)), [], []⟩
noncomputable def ks39 : List SK := [.agg [.int .i64, .int .i64, .ro 3]]
noncomputable def S39 (us : List AVal) : Call := bif chkA ks39 us then Call.of (F_terrain_formed (toI (cIa (aggL (cIa us 0)) 0)) (toI (cIa (aggL (cIa us 0)) 1)) (roRows (cIa (aggL (cIa us 0)) 2))) enc39 else Call.none
noncomputable def C39 := AI.ext 39 S39 C55

theorem run39 (m_W : Int) (m_H : Int) (m_Cells : List (List AVal)) : fcall TT TU GL0 C55 ownF true noL Tryd.f39 [(.agg [(.sc (.int .i64 m_W)), (.sc (.int .i64 m_H)), (.ro 3 m_Cells)])] = (F_terrain_formed m_W m_H m_Cells).bind fun t => some (enc39 t) :=
  Eq.trans (b := (Option.bind (F_grid_Valid m_W m_H) fun t => (bif t then (some (CR.mk true (bo ((Int.ofNat m_Cells.length) == (wr (m_W * m_H)))) [] [])) else (some (CR.mk true (bo false) [] []))))) (by kernel_rfl)
    (n_bind fun t => (n_condH rfl (fun h0 => rfl) fun h0 => rfl))
theorem lib39 : Lib Tryd.prog GL0 C39 :=
  Lib.fn lib55 mixed TT_ok Tryd.func39 (by decide +kernel) (by kernel_rfl) true noL (loops_of 0 (by kernel_rfl) below0) ks39 (F := fun us => F_terrain_formed (toI (cIa (aggL (cIa us 0)) 0)) (toI (cIa (aggL (cIa us 0)) 1)) (roRows (cIa (aggL (cIa us 0)) 2))) (fun us => rfl) (fun us => run39 (toI (cIa (aggL (cIa us 0)) 0)) (toI (cIa (aggL (cIa us 0)) 1)) (roRows (cIa (aggL (cIa us 0)) 2))) (fun t => rfl)

/-! ### 26: skirmish/grid.In -/



/-- 'skirmish/grid.In' -/
noncomputable def F_grid_In (w : Int) (h : Int) (p_X : Int) (p_Y : Int) : Option (Bool) :=
  bif (decide (p_X ≥ (0 : Int))) then
    bif (decide (p_X < w)) then
      bif (decide (p_Y ≥ (0 : Int))) then
        some (decide (p_Y < h))
      else
      some false
    else
    some false
  else
  some false
noncomputable def enc26 (t : Bool) : CR := ⟨true, (.sc (.bool t)), [], []⟩
noncomputable def ks26 : List SK := [.f (.int .i64), .f (.int .i64), .agg [.int .i64, .int .i64]]
noncomputable def S26 (us : List AVal) : Call := bif chkA ks26 us then Call.of (F_grid_In (toI (cIa us 0)) (toI (cIa us 1)) (toI (cIa (aggL (cIa us 2)) 0)) (toI (cIa (aggL (cIa us 2)) 1))) enc26 else Call.none
noncomputable def C26 := AI.ext 26 S26 C39

theorem run26 (w : Int) (h : Int) (p_X : Int) (p_Y : Int) : fcall TT TU GL0 C39 ownF true noL Tryd.f26 [(.sc (.int .i64 w)), (.sc (.int .i64 h)), (.agg [(.sc (.int .i64 p_X)), (.sc (.int .i64 p_Y))])] = (F_grid_In w h p_X p_Y).bind fun t => some (enc26 t) :=
  Eq.trans (b := (bif (decide (p_X ≥ (0 : Int))) then (bif (decide (p_X < w)) then (bif (decide (p_Y ≥ (0 : Int))) then (some (CR.mk true (bo (decide (p_Y < h))) [] [])) else (some (CR.mk true (bo false) [] []))) else (some (CR.mk true (bo false) [] []))) else (some (CR.mk true (bo false) [] [])))) (by kernel_rfl)
    (n_condH rfl (fun h0 => (n_condH rfl (fun h1 => (n_condH rfl (fun h2 => rfl) fun h2 => rfl)) fun h1 => rfl)) fun h0 => rfl)
theorem lib26 : Lib Tryd.prog GL0 C26 :=
  Lib.fn lib39 mixed TT_ok Tryd.func26 (by decide +kernel) (by kernel_rfl) true noL (loops_of 0 (by kernel_rfl) below0) ks26 (F := fun us => F_grid_In (toI (cIa us 0)) (toI (cIa us 1)) (toI (cIa (aggL (cIa us 2)) 0)) (toI (cIa (aggL (cIa us 2)) 1))) (fun us => rfl) (fun us => run26 (toI (cIa us 0)) (toI (cIa us 1)) (toI (cIa (aggL (cIa us 2)) 0)) (toI (cIa (aggL (cIa us 2)) 1))) (fun t => rfl)

/-! ### 31: skirmish/terrain.inside -/



/-- 'skirmish/terrain.inside' -/
noncomputable def F_terrain_inside (m_W : Int) (m_H : Int) (m_Cells : List (List AVal)) (p_X : Int) (p_Y : Int) : Option (Bool) :=
  Option.bind (F_terrain_formed m_W m_H m_Cells) fun t =>
  bif t then
    Option.bind (F_grid_In m_W m_H p_X p_Y) fun t1 =>
    some t1
  else
  some false
noncomputable def enc31 (t : Bool) : CR := ⟨true, (.sc (.bool t)), [], []⟩
noncomputable def ks31 : List SK := [.agg [.int .i64, .int .i64, .ro 3], .agg [.int .i64, .int .i64]]
noncomputable def S31 (us : List AVal) : Call := bif chkA ks31 us then Call.of (F_terrain_inside (toI (cIa (aggL (cIa us 0)) 0)) (toI (cIa (aggL (cIa us 0)) 1)) (roRows (cIa (aggL (cIa us 0)) 2)) (toI (cIa (aggL (cIa us 1)) 0)) (toI (cIa (aggL (cIa us 1)) 1))) enc31 else Call.none
noncomputable def C31 := AI.ext 31 S31 C26

theorem run31 (m_W : Int) (m_H : Int) (m_Cells : List (List AVal)) (p_X : Int) (p_Y : Int) : fcall TT TU GL0 C26 ownF true noL Tryd.f31 [(.agg [(.sc (.int .i64 m_W)), (.sc (.int .i64 m_H)), (.ro 3 m_Cells)]), (.agg [(.sc (.int .i64 p_X)), (.sc (.int .i64 p_Y))])] = (F_terrain_inside m_W m_H m_Cells p_X p_Y).bind fun t => some (enc31 t) :=
  Eq.trans (b := (Option.bind (F_terrain_formed m_W m_H m_Cells) fun t => (bif t then (Option.bind (F_grid_In m_W m_H p_X p_Y) fun t1 => (some (CR.mk true (bo t1) [] []))) else (some (CR.mk true (bo false) [] []))))) (by kernel_rfl)
    (n_bind fun t => (n_condH rfl (fun h0 => (n_bind fun t1 => rfl)) fun h0 => rfl))
theorem lib31 : Lib Tryd.prog GL0 C31 :=
  Lib.fn lib26 mixed TT_ok Tryd.func31 (by decide +kernel) (by kernel_rfl) true noL (loops_of 0 (by kernel_rfl) below0) ks31 (F := fun us => F_terrain_inside (toI (cIa (aggL (cIa us 0)) 0)) (toI (cIa (aggL (cIa us 0)) 1)) (roRows (cIa (aggL (cIa us 0)) 2)) (toI (cIa (aggL (cIa us 1)) 0)) (toI (cIa (aggL (cIa us 1)) 1))) (fun us => rfl) (fun us => run31 (toI (cIa (aggL (cIa us 0)) 0)) (toI (cIa (aggL (cIa us 0)) 1)) (roRows (cIa (aggL (cIa us 0)) 2)) (toI (cIa (aggL (cIa us 1)) 0)) (toI (cIa (aggL (cIa us 1)) 1))) (fun t => rfl)

/-! ### 58: skirmish/grid.displacements -/



/-- 'skirmish/grid.displacements' -/
noncomputable def F_grid_displacements : Option (Int × Int × Int × Int × Int × Int × Int × Int × Int × Int × Int × Int × Int × Int × Int × Int) :=
  some ((1 : Int), (0 : Int), (1 : Int), (1 : Int), (0 : Int), (1 : Int), (-(1 : Int)), (1 : Int), (-(1 : Int)), (0 : Int), (-(1 : Int)), (-(1 : Int)), (0 : Int), (-(1 : Int)), (1 : Int), (-(1 : Int)))
noncomputable def enc58 (t : Int × Int × Int × Int × Int × Int × Int × Int × Int × Int × Int × Int × Int × Int × Int × Int) : CR := ⟨true, (.agg [(.sc (.int .i64 t.1)), (.sc (.int .i64 t.2.1)), (.sc (.int .i64 t.2.2.1)), (.sc (.int .i64 t.2.2.2.1)), (.sc (.int .i64 t.2.2.2.2.1)), (.sc (.int .i64 t.2.2.2.2.2.1)), (.sc (.int .i64 t.2.2.2.2.2.2.1)), (.sc (.int .i64 t.2.2.2.2.2.2.2.1)), (.sc (.int .i64 t.2.2.2.2.2.2.2.2.1)), (.sc (.int .i64 t.2.2.2.2.2.2.2.2.2.1)), (.sc (.int .i64 t.2.2.2.2.2.2.2.2.2.2.1)), (.sc (.int .i64 t.2.2.2.2.2.2.2.2.2.2.2.1)), (.sc (.int .i64 t.2.2.2.2.2.2.2.2.2.2.2.2.1)), (.sc (.int .i64 t.2.2.2.2.2.2.2.2.2.2.2.2.2.1)), (.sc (.int .i64 t.2.2.2.2.2.2.2.2.2.2.2.2.2.2.1)), (.sc (.int .i64 t.2.2.2.2.2.2.2.2.2.2.2.2.2.2.2))]), [], []⟩
noncomputable def ks58 : List SK := []
noncomputable def S58 (us : List AVal) : Call := bif chkA ks58 us then Call.of (F_grid_displacements) enc58 else Call.none
noncomputable def C58 := AI.ext 58 S58 C31

theorem run58 : fcall TT TU GL0 C31 ownF true noL Tryd.f58 [] = (F_grid_displacements).bind fun t => some (enc58 t) :=
  Eq.trans (b := (some (CR.mk true (AVal.agg [(i64 (1 : Int)), (i64 (0 : Int)), (i64 (1 : Int)), (i64 (1 : Int)), (i64 (0 : Int)), (i64 (1 : Int)), (i64 (-(1 : Int))), (i64 (1 : Int)), (i64 (-(1 : Int))), (i64 (0 : Int)), (i64 (-(1 : Int))), (i64 (-(1 : Int))), (i64 (0 : Int)), (i64 (-(1 : Int))), (i64 (1 : Int)), (i64 (-(1 : Int)))]) [] []))) (by kernel_rfl)
    rfl
theorem lib58 : Lib Tryd.prog GL0 C58 :=
  Lib.fn lib31 mixed TT_ok Tryd.func58 (by decide +kernel) (by kernel_rfl) true noL (loops_of 0 (by kernel_rfl) below0) ks58 (F := fun us => F_grid_displacements) (fun us => rfl) (fun us => run58) (fun t => rfl)

/-! ### 62: skirmish/num.Clamp -/



/-- 'skirmish/num.Clamp' -/
noncomputable def F_num_Clamp (n : Int) (lo : Int) (hi : Int) : Option (Int) :=
  some (maxI lo (minI n hi))
noncomputable def enc62 (t : Int) : CR := ⟨true, (.sc (.int .i64 t)), [], []⟩
noncomputable def ks62 : List SK := [.f (.int .i64), .f (.int .i64), .f (.int .i64)]
noncomputable def S62 (us : List AVal) : Call := bif chkA ks62 us then Call.of (F_num_Clamp (toI (cIa us 0)) (toI (cIa us 1)) (toI (cIa us 2))) enc62 else Call.none
noncomputable def C62 := AI.ext 62 S62 C58

theorem run62 (n : Int) (lo : Int) (hi : Int) : fcall TT TU GL0 C58 ownF true noL Tryd.f62 [(.sc (.int .i64 n)), (.sc (.int .i64 lo)), (.sc (.int .i64 hi))] = (F_num_Clamp n lo hi).bind fun t => some (enc62 t) :=
  Eq.trans (b := (some (CR.mk true (i64 (maxI lo (minI n hi))) [] []))) (by kernel_rfl)
    rfl
theorem lib62 : Lib Tryd.prog GL0 C62 :=
  Lib.fn lib58 mixed TT_ok Tryd.func62 (by decide +kernel) (by kernel_rfl) true noL (loops_of 0 (by kernel_rfl) below0) ks62 (F := fun us => F_num_Clamp (toI (cIa us 0)) (toI (cIa us 1)) (toI (cIa us 2))) (fun us => rfl) (fun us => run62 (toI (cIa us 0)) (toI (cIa us 1)) (toI (cIa us 2))) (fun t => rfl)

/-! ### 51: skirmish/grid.near -/



/-- 'skirmish/grid.near' -/
noncomputable def F_grid_near (n : Int) : Option (Int) :=
  Option.bind (F_num_Clamp n (-(1048576 : Int)) (1048576 : Int)) fun t =>
  some t
noncomputable def enc51 (t : Int) : CR := ⟨true, (.sc (.int .i64 t)), [], []⟩
noncomputable def ks51 : List SK := [.f (.int .i64)]
noncomputable def S51 (us : List AVal) : Call := bif chkA ks51 us then Call.of (F_grid_near (toI (cIa us 0))) enc51 else Call.none
noncomputable def C51 := AI.ext 51 S51 C62

theorem run51 (n : Int) : fcall TT TU GL0 C62 ownF true noL Tryd.f51 [(.sc (.int .i64 n))] = (F_grid_near n).bind fun t => some (enc51 t) :=
  Eq.trans (b := (Option.bind (F_num_Clamp n (-(1048576 : Int)) (1048576 : Int)) fun t => (some (CR.mk true (i64 t) [] [])))) (by kernel_rfl)
    (n_bind fun t => rfl)
theorem lib51 : Lib Tryd.prog GL0 C51 :=
  Lib.fn lib62 mixed TT_ok Tryd.func51 (by decide +kernel) (by kernel_rfl) true noL (loops_of 0 (by kernel_rfl) below0) ks51 (F := fun us => F_grid_near (toI (cIa us 0))) (fun us => rfl) (fun us => run51 (toI (cIa us 0))) (fun t => rfl)

/-! ### 50: skirmish/grid.pos -/



/-- 'skirmish/grid.pos' -/
noncomputable def F_grid_pos (p_X : Int) (p_Y : Int) : Option (Int × Int) :=
  Option.bind (F_grid_near p_X) fun t =>
  Option.bind (F_grid_near p_Y) fun t1 =>
  some (t, t1)
noncomputable def enc50 (t : Int × Int) : CR := ⟨true, (.agg [(.sc (.int .i64 t.1)), (.sc (.int .i64 t.2))]), [], []⟩
noncomputable def ks50 : List SK := [.agg [.int .i64, .int .i64]]
noncomputable def S50 (us : List AVal) : Call := bif chkA ks50 us then Call.of (F_grid_pos (toI (cIa (aggL (cIa us 0)) 0)) (toI (cIa (aggL (cIa us 0)) 1))) enc50 else Call.none
noncomputable def C50 := AI.ext 50 S50 C51

theorem run50 (p_X : Int) (p_Y : Int) : fcall TT TU GL0 C51 ownF true noL Tryd.f50 [(.agg [(.sc (.int .i64 p_X)), (.sc (.int .i64 p_Y))])] = (F_grid_pos p_X p_Y).bind fun t => some (enc50 t) :=
  Eq.trans (b := (Option.bind (F_grid_near p_X) fun t => (Option.bind (F_grid_near p_Y) fun t1 => (some (CR.mk true (AVal.agg [(i64 t), (i64 t1)]) [] []))))) (by kernel_rfl)
    (n_bind fun t => (n_bind fun t1 => rfl))
theorem lib50 : Lib Tryd.prog GL0 C50 :=
  Lib.fn lib51 mixed TT_ok Tryd.func50 (by decide +kernel) (by kernel_rfl) true noL (loops_of 0 (by kernel_rfl) below0) ks50 (F := fun us => F_grid_pos (toI (cIa (aggL (cIa us 0)) 0)) (toI (cIa (aggL (cIa us 0)) 1))) (fun us => rfl) (fun us => run50 (toI (cIa (aggL (cIa us 0)) 0)) (toI (cIa (aggL (cIa us 0)) 1))) (fun t => rfl)

/-! ### 43: skirmish/grid.Step -/



/-- 'skirmish/grid.Step' -/
noncomputable def F_grid_Step (p_X : Int) (p_Y : Int) (dir : Int) : Option (Int × Int) :=
  bif (decide (dir < (0 : Int))) then
    some (p_X, p_Y)
  else
  bif (decide (dir > (7 : Int))) then
    some (p_X, p_Y)
  else
  Option.bind F_grid_displacements fun t =>
  bif ((decide ((0 : Int) ≤ dir)) && (decide (dir < (8 : Int)))) then
    Option.bind ([[(i64 t.1), (i64 t.2.1)], [(i64 t.2.2.1), (i64 t.2.2.2.1)], [(i64 t.2.2.2.2.1), (i64 t.2.2.2.2.2.1)], [(i64 t.2.2.2.2.2.2.1), (i64 t.2.2.2.2.2.2.2.1)], [(i64 t.2.2.2.2.2.2.2.2.1), (i64 t.2.2.2.2.2.2.2.2.2.1)], [(i64 t.2.2.2.2.2.2.2.2.2.2.1), (i64 t.2.2.2.2.2.2.2.2.2.2.2.1)], [(i64 t.2.2.2.2.2.2.2.2.2.2.2.2.1), (i64 t.2.2.2.2.2.2.2.2.2.2.2.2.2.1)], [(i64 t.2.2.2.2.2.2.2.2.2.2.2.2.2.2.1), (i64 t.2.2.2.2.2.2.2.2.2.2.2.2.2.2.2)]][dir.toNat]?) fun r =>
    bif (chk [(LT.int IntKind.i64), (LT.int IntKind.i64)] r) then
      Option.bind (F_grid_pos p_X p_Y) fun t1 =>
      some ((wr (t1.1 + (cI r 0))), (wr (t1.2 + (cI r 1))))
    else
    none
  else
  none
noncomputable def enc43 (t : Int × Int) : CR := ⟨true, (.agg [(.sc (.int .i64 t.1)), (.sc (.int .i64 t.2))]), [], []⟩
noncomputable def ks43 : List SK := [.agg [.int .i64, .int .i64], .f (.int .i64)]
noncomputable def S43 (us : List AVal) : Call := bif chkA ks43 us then Call.of (F_grid_Step (toI (cIa (aggL (cIa us 0)) 0)) (toI (cIa (aggL (cIa us 0)) 1)) (toI (cIa us 1))) enc43 else Call.none
noncomputable def C43 := AI.ext 43 S43 C50

theorem run43 (p_X : Int) (p_Y : Int) (dir : Int) : fcall TT TU GL0 C50 ownF true noL Tryd.f43 [(.agg [(.sc (.int .i64 p_X)), (.sc (.int .i64 p_Y))]), (.sc (.int .i64 dir))] = (F_grid_Step p_X p_Y dir).bind fun t => some (enc43 t) :=
  Eq.trans (b := (bif (decide (dir < (0 : Int))) then (some (CR.mk true (AVal.agg [(i64 p_X), (i64 p_Y)]) [] [])) else (bif (decide (dir > (7 : Int))) then (some (CR.mk true (AVal.agg [(i64 p_X), (i64 p_Y)]) [] [])) else (Option.bind F_grid_displacements fun t => (bif (((decide ((0 : Int) ≤ dir)) && (decide (dir < (8 : Int)))) && true) then (Option.bind ([[(i64 t.1), (i64 t.2.1)], [(i64 t.2.2.1), (i64 t.2.2.2.1)], [(i64 t.2.2.2.2.1), (i64 t.2.2.2.2.2.1)], [(i64 t.2.2.2.2.2.2.1), (i64 t.2.2.2.2.2.2.2.1)], [(i64 t.2.2.2.2.2.2.2.2.1), (i64 t.2.2.2.2.2.2.2.2.2.1)], [(i64 t.2.2.2.2.2.2.2.2.2.2.1), (i64 t.2.2.2.2.2.2.2.2.2.2.2.1)], [(i64 t.2.2.2.2.2.2.2.2.2.2.2.2.1), (i64 t.2.2.2.2.2.2.2.2.2.2.2.2.2.1)], [(i64 t.2.2.2.2.2.2.2.2.2.2.2.2.2.2.1), (i64 t.2.2.2.2.2.2.2.2.2.2.2.2.2.2.2)]][dir.toNat]?) fun r => (bif (chk [(LT.int IntKind.i64), (LT.int IntKind.i64)] r) then (Option.bind (F_grid_pos p_X p_Y) fun t1 => (some (CR.mk true (AVal.agg [(i64 (wr (t1.1 + (cI r 0)))), (i64 (wr (t1.2 + (cI r 1))))]) [] []))) else none)) else none))))) (by kernel_rfl)
    (n_condH rfl (fun h0 => rfl) fun h0 => (n_condH rfl (fun h1 => rfl) fun h1 => (n_bind fun t => (n_condH (n_andR rfl rfl) (fun h2 => (n_bind fun r => (n_condH rfl (fun h3 => (n_bind fun t1 => rfl)) fun h3 => n_none))) fun h2 => n_none))))
theorem lib43 : Lib Tryd.prog GL0 C43 :=
  Lib.fn lib50 mixed TT_ok Tryd.func43 (by decide +kernel) (by kernel_rfl) true noL (loops_of 0 (by kernel_rfl) below0) ks43 (F := fun us => F_grid_Step (toI (cIa (aggL (cIa us 0)) 0)) (toI (cIa (aggL (cIa us 0)) 1)) (toI (cIa us 1))) (fun us => rfl) (fun us => run43 (toI (cIa (aggL (cIa us 0)) 0)) (toI (cIa (aggL (cIa us 0)) 1)) (toI (cIa us 1))) (fun t => rfl)

/-! ### 32: skirmish/grid.Index -/



/-- 'skirmish/grid.Index' -/
noncomputable def F_grid_Index (w : Int) (p_X : Int) (p_Y : Int) : Option (Int) :=
  Option.bind (F_grid_pos p_X p_Y) fun t =>
  Option.bind (F_grid_near w) fun t1 =>
  some (wr ((wr (t.2 * t1)) + t.1))
noncomputable def enc32 (t : Int) : CR := ⟨true, (.sc (.int .i64 t)), [], []⟩
noncomputable def ks32 : List SK := [.f (.int .i64), .agg [.int .i64, .int .i64]]
noncomputable def S32 (us : List AVal) : Call := bif chkA ks32 us then Call.of (F_grid_Index (toI (cIa us 0)) (toI (cIa (aggL (cIa us 1)) 0)) (toI (cIa (aggL (cIa us 1)) 1))) enc32 else Call.none
noncomputable def C32 := AI.ext 32 S32 C43

theorem run32 (w : Int) (p_X : Int) (p_Y : Int) : fcall TT TU GL0 C43 ownF true noL Tryd.f32 [(.sc (.int .i64 w)), (.agg [(.sc (.int .i64 p_X)), (.sc (.int .i64 p_Y))])] = (F_grid_Index w p_X p_Y).bind fun t => some (enc32 t) :=
  Eq.trans (b := (Option.bind (F_grid_pos p_X p_Y) fun t => (Option.bind (F_grid_near w) fun t1 => (some (CR.mk true (i64 (wr ((wr (t.2 * t1)) + t.1))) [] []))))) (by kernel_rfl)
    (n_bind fun t => (n_bind fun t1 => rfl))
theorem lib32 : Lib Tryd.prog GL0 C32 :=
  Lib.fn lib43 mixed TT_ok Tryd.func32 (by decide +kernel) (by kernel_rfl) true noL (loops_of 0 (by kernel_rfl) below0) ks32 (F := fun us => F_grid_Index (toI (cIa us 0)) (toI (cIa (aggL (cIa us 1)) 0)) (toI (cIa (aggL (cIa us 1)) 1))) (fun us => rfl) (fun us => run32 (toI (cIa us 0)) (toI (cIa (aggL (cIa us 1)) 0)) (toI (cIa (aggL (cIa us 1)) 1))) (fun t => rfl)

/-! ### 12: skirmish/terrain.Get -/



/-- 'skirmish/terrain.Get' -/
noncomputable def F_terrain_Get (m_W : Int) (m_H : Int) (m_Cells : List (List AVal)) (p_X : Int) (p_Y : Int) : Option (Int × Int × Int × Bool) :=
  Option.bind (F_terrain_inside m_W m_H m_Cells p_X p_Y) fun t =>
  bif (!t) then
    some ((0 : Int), (0 : Int), (0 : Int), false)
  else
  Option.bind (F_grid_Index m_W p_X p_Y) fun t1 =>
  bif (decide ((0 : Int) ≤ t1)) then
    Option.bind (m_Cells[t1.toNat]?) fun r =>
    bif (chk [(LT.int IntKind.i64), (LT.int IntKind.i64), (LT.int IntKind.i64)] r) then
      some ((cI r 0), (cI r 1), (cI r 2), true)
    else
    none
  else
  none
noncomputable def enc12 (t : Int × Int × Int × Bool) : CR := ⟨true, (.tup [(.agg [(.sc (.int .i64 t.1)), (.sc (.int .i64 t.2.1)), (.sc (.int .i64 t.2.2.1))]), (.sc (.bool t.2.2.2))]), [], []⟩
noncomputable def ks12 : List SK := [.agg [.int .i64, .int .i64, .ro 3], .agg [.int .i64, .int .i64]]
noncomputable def S12 (us : List AVal) : Call := bif chkA ks12 us then Call.of (F_terrain_Get (toI (cIa (aggL (cIa us 0)) 0)) (toI (cIa (aggL (cIa us 0)) 1)) (roRows (cIa (aggL (cIa us 0)) 2)) (toI (cIa (aggL (cIa us 1)) 0)) (toI (cIa (aggL (cIa us 1)) 1))) enc12 else Call.none
noncomputable def C12 := AI.ext 12 S12 C32

theorem run12 (m_W : Int) (m_H : Int) (m_Cells : List (List AVal)) (p_X : Int) (p_Y : Int) : fcall TT TU GL0 C32 ownF true noL Tryd.f12 [(.agg [(.sc (.int .i64 m_W)), (.sc (.int .i64 m_H)), (.ro 3 m_Cells)]), (.agg [(.sc (.int .i64 p_X)), (.sc (.int .i64 p_Y))])] = (F_terrain_Get m_W m_H m_Cells p_X p_Y).bind fun t => some (enc12 t) :=
  Eq.trans (b := (Option.bind (F_terrain_inside m_W m_H m_Cells p_X p_Y) fun t => (bif (!t) then (some (CR.mk true (AVal.tup [(AVal.agg [(i64 (0 : Int)), (i64 (0 : Int)), (i64 (0 : Int))]), (bo false)]) [] [])) else (Option.bind (F_grid_Index m_W p_X p_Y) fun t1 => (bif (decide ((0 : Int) ≤ t1)) then (Option.bind (m_Cells[t1.toNat]?) fun r => (bif (chk [(LT.int IntKind.i64), (LT.int IntKind.i64), (LT.int IntKind.i64)] r) then (some (CR.mk true (AVal.tup [(AVal.agg [(i64 (cI r 0)), (i64 (cI r 1)), (i64 (cI r 2))]), (bo true)]) [] [])) else none)) else none))))) (by kernel_rfl)
    (n_bind fun t => (n_condH rfl (fun h0 => rfl) fun h0 => (n_bind fun t1 => (n_condH rfl (fun h1 => (n_bind fun r => (n_condH rfl (fun h2 => rfl) fun h2 => n_none))) fun h1 => n_none))))
theorem lib12 : Lib Tryd.prog GL0 C12 :=
  Lib.fn lib32 mixed TT_ok Tryd.func12 (by decide +kernel) (by kernel_rfl) true noL (loops_of 0 (by kernel_rfl) below0) ks12 (F := fun us => F_terrain_Get (toI (cIa (aggL (cIa us 0)) 0)) (toI (cIa (aggL (cIa us 0)) 1)) (roRows (cIa (aggL (cIa us 0)) 2)) (toI (cIa (aggL (cIa us 1)) 0)) (toI (cIa (aggL (cIa us 1)) 1))) (fun us => rfl) (fun us => run12 (toI (cIa (aggL (cIa us 0)) 0)) (toI (cIa (aggL (cIa us 0)) 1)) (roRows (cIa (aggL (cIa us 0)) 2)) (toI (cIa (aggL (cIa us 1)) 0)) (toI (cIa (aggL (cIa us 1)) 1))) (fun t => rfl)

/-! ### 19: skirmish/terrain.Passable -/



/-- 'skirmish/terrain.Passable' -/
noncomputable def F_terrain_Passable (m_W : Int) (m_H : Int) (m_Cells : List (List AVal)) (class_ : Int) (p_X : Int) (p_Y : Int) : Option (Bool) :=
  Option.bind (F_terrain_Get m_W m_H m_Cells p_X p_Y) fun t =>
  bif (!t.2.2.2) then
    some false
  else
  bif (decide (class_ < (1 : Int))) then
    some false
  else
  bif (decide (class_ > (3 : Int))) then
    some false
  else
  bif (class_ == (3 : Int)) then
    some true
  else
  bif (decide (t.1 ≥ (0 : Int))) then
    bif (decide (t.1 < (6 : Int))) then
      bif ((decide ((0 : Int) ≤ class_)) && (decide (class_ < (4 : Int)))) then
        Option.bind ([[(bo false), (bo false), (bo false), (bo false), (bo false), (bo false)], [(bo false), (bo true), (bo false), (bo false), (bo false), (bo true)], [(bo false), (bo true), (bo true), (bo false), (bo false), (bo true)], [(bo false), (bo true), (bo true), (bo true), (bo true), (bo true)]][class_.toNat]?) fun r =>
        bif (chk [LT.bool, LT.bool, LT.bool, LT.bool, LT.bool, LT.bool] r) then
          bif ((decide ((0 : Int) ≤ t.1)) && (decide (t.1 < (6 : Int)))) then
            Option.bind ([[(bo (cB r 0))], [(bo (cB r 1))], [(bo (cB r 2))], [(bo (cB r 3))], [(bo (cB r 4))], [(bo (cB r 5))]][t.1.toNat]?) fun r1 =>
            bif (chk [LT.bool] r1) then
              some (cB r1 0)
            else
            none
          else
          none
        else
        none
      else
      none
    else
    some false
  else
  some false
noncomputable def enc19 (t : Bool) : CR := ⟨true, (.sc (.bool t)), [], []⟩
noncomputable def ks19 : List SK := [.agg [.int .i64, .int .i64, .ro 3], .f (.int .i64), .agg [.int .i64, .int .i64]]
noncomputable def S19 (us : List AVal) : Call := bif chkA ks19 us then Call.of (F_terrain_Passable (toI (cIa (aggL (cIa us 0)) 0)) (toI (cIa (aggL (cIa us 0)) 1)) (roRows (cIa (aggL (cIa us 0)) 2)) (toI (cIa us 1)) (toI (cIa (aggL (cIa us 2)) 0)) (toI (cIa (aggL (cIa us 2)) 1))) enc19 else Call.none
noncomputable def C19 := AI.ext 19 S19 C12

theorem run19 (m_W : Int) (m_H : Int) (m_Cells : List (List AVal)) (class_ : Int) (p_X : Int) (p_Y : Int) : fcall TT TU GL0 C12 ownF true noL Tryd.f19 [(.agg [(.sc (.int .i64 m_W)), (.sc (.int .i64 m_H)), (.ro 3 m_Cells)]), (.sc (.int .i64 class_)), (.agg [(.sc (.int .i64 p_X)), (.sc (.int .i64 p_Y))])] = (F_terrain_Passable m_W m_H m_Cells class_ p_X p_Y).bind fun t => some (enc19 t) :=
  Eq.trans (b := (Option.bind (F_terrain_Get m_W m_H m_Cells p_X p_Y) fun t => (bif (!t.2.2.2) then (some (CR.mk true (bo false) [] [])) else (bif (decide (class_ < (1 : Int))) then (some (CR.mk true (bo false) [] [])) else (bif (decide (class_ > (3 : Int))) then (some (CR.mk true (bo false) [] [])) else (bif (class_ == (3 : Int)) then (some (CR.mk true (bo true) [] [])) else (bif (decide (t.1 ≥ (0 : Int))) then (bif (decide (t.1 < (6 : Int))) then (bif (((decide ((0 : Int) ≤ class_)) && (decide (class_ < (4 : Int)))) && true) then (Option.bind ([[(bo false), (bo false), (bo false), (bo false), (bo false), (bo false)], [(bo false), (bo true), (bo false), (bo false), (bo false), (bo true)], [(bo false), (bo true), (bo true), (bo false), (bo false), (bo true)], [(bo false), (bo true), (bo true), (bo true), (bo true), (bo true)]][class_.toNat]?) fun r => (bif (chk [LT.bool, LT.bool, LT.bool, LT.bool, LT.bool, LT.bool] r) then (bif (((decide ((0 : Int) ≤ t.1)) && (decide (t.1 < (6 : Int)))) && true) then (Option.bind ([[(bo (cB r 0))], [(bo (cB r 1))], [(bo (cB r 2))], [(bo (cB r 3))], [(bo (cB r 4))], [(bo (cB r 5))]][t.1.toNat]?) fun r1 => (bif (chk [LT.bool] r1) then (some (CR.mk true (bo (cB r1 0)) [] [])) else none)) else none) else none)) else none) else (some (CR.mk true (bo false) [] []))) else (some (CR.mk true (bo false) [] []))))))))) (by kernel_rfl)
    (n_bind fun t => (n_condH rfl (fun h0 => rfl) fun h0 => (n_condH rfl (fun h1 => rfl) fun h1 => (n_condH rfl (fun h2 => rfl) fun h2 => (n_condH rfl (fun h3 => rfl) fun h3 => (n_condH rfl (fun h4 => (n_condH rfl (fun h5 => (n_condH (n_andR rfl rfl) (fun h6 => (n_bind fun r => (n_condH rfl (fun h7 => (n_condH (n_andR rfl rfl) (fun h8 => (n_bind fun r1 => (n_condH rfl (fun h9 => rfl) fun h9 => n_none))) fun h8 => n_none)) fun h7 => n_none))) fun h6 => n_none)) fun h5 => rfl)) fun h4 => rfl))))))
theorem lib19 : Lib Tryd.prog GL0 C19 :=
  Lib.fn lib12 mixed TT_ok Tryd.func19 (by decide +kernel) (by kernel_rfl) true noL (loops_of 0 (by kernel_rfl) below0) ks19 (F := fun us => F_terrain_Passable (toI (cIa (aggL (cIa us 0)) 0)) (toI (cIa (aggL (cIa us 0)) 1)) (roRows (cIa (aggL (cIa us 0)) 2)) (toI (cIa us 1)) (toI (cIa (aggL (cIa us 2)) 0)) (toI (cIa (aggL (cIa us 2)) 1))) (fun us => rfl) (fun us => run19 (toI (cIa (aggL (cIa us 0)) 0)) (toI (cIa (aggL (cIa us 0)) 1)) (roRows (cIa (aggL (cIa us 0)) 2)) (toI (cIa us 1)) (toI (cIa (aggL (cIa us 2)) 0)) (toI (cIa (aggL (cIa us 2)) 1))) (fun t => rfl)

/-! ### 59: skirmish/terrain.open -/



/-- 'skirmish/terrain.open' -/
noncomputable def F_terrain_open (m_W : Int) (m_H : Int) (m_Cells : List (List AVal)) (blocked : List (List AVal)) (class_ : Int) (p_X : Int) (p_Y : Int) : Option (Bool) :=
  Option.bind (F_terrain_Passable m_W m_H m_Cells class_ p_X p_Y) fun t =>
  bif (!t) then
    some false
  else
  Option.bind (F_grid_Index m_W p_X p_Y) fun t1 =>
  bif (class_ == (3 : Int)) then
    some true
  else
  bif (decide (t1 ≥ (Int.ofNat blocked.length))) then
    some true
  else
  bif (decide ((0 : Int) ≤ t1)) then
    Option.bind (blocked[t1.toNat]?) fun r =>
    bif (chk [LT.bool] r) then
      some (!(cB r 0))
    else
    none
  else
  none
noncomputable def enc59 (t : Bool) : CR := ⟨true, (.sc (.bool t)), [], []⟩
noncomputable def ks59 : List SK := [.agg [.int .i64, .int .i64, .ro 3], .f (.ro 1), .f (.int .i64), .agg [.int .i64, .int .i64]]
noncomputable def S59 (us : List AVal) : Call := bif chkA ks59 us then Call.of (F_terrain_open (toI (cIa (aggL (cIa us 0)) 0)) (toI (cIa (aggL (cIa us 0)) 1)) (roRows (cIa (aggL (cIa us 0)) 2)) (roRows (cIa us 1)) (toI (cIa us 2)) (toI (cIa (aggL (cIa us 3)) 0)) (toI (cIa (aggL (cIa us 3)) 1))) enc59 else Call.none
noncomputable def C59 := AI.ext 59 S59 C19

theorem run59 (m_W : Int) (m_H : Int) (m_Cells : List (List AVal)) (blocked : List (List AVal)) (class_ : Int) (p_X : Int) (p_Y : Int) : fcall TT TU GL0 C19 ownF true noL Tryd.f59 [(.agg [(.sc (.int .i64 m_W)), (.sc (.int .i64 m_H)), (.ro 3 m_Cells)]), (.ro 1 blocked), (.sc (.int .i64 class_)), (.agg [(.sc (.int .i64 p_X)), (.sc (.int .i64 p_Y))])] = (F_terrain_open m_W m_H m_Cells blocked class_ p_X p_Y).bind fun t => some (enc59 t) :=
  Eq.trans (b := (Option.bind (F_terrain_Passable m_W m_H m_Cells class_ p_X p_Y) fun t => (bif (!t) then (some (CR.mk true (bo false) [] [])) else (Option.bind (F_grid_Index m_W p_X p_Y) fun t1 => (bif (class_ == (3 : Int)) then (some (CR.mk true (bo true) [] [])) else (bif (decide (t1 ≥ (Int.ofNat blocked.length))) then (some (CR.mk true (bo true) [] [])) else (bif (decide ((0 : Int) ≤ t1)) then (Option.bind (blocked[t1.toNat]?) fun r => (bif (chk [LT.bool] r) then (some (CR.mk true (bo (!(cB r 0))) [] [])) else none)) else none))))))) (by kernel_rfl)
    (n_bind fun t => (n_condH rfl (fun h0 => rfl) fun h0 => (n_bind fun t1 => (n_condH rfl (fun h1 => rfl) fun h1 => (n_condH rfl (fun h2 => rfl) fun h2 => (n_condH rfl (fun h3 => (n_bind fun r => (n_condH rfl (fun h4 => rfl) fun h4 => n_none))) fun h3 => n_none))))))
theorem lib59 : Lib Tryd.prog GL0 C59 :=
  Lib.fn lib19 mixed TT_ok Tryd.func59 (by decide +kernel) (by kernel_rfl) true noL (loops_of 0 (by kernel_rfl) below0) ks59 (F := fun us => F_terrain_open (toI (cIa (aggL (cIa us 0)) 0)) (toI (cIa (aggL (cIa us 0)) 1)) (roRows (cIa (aggL (cIa us 0)) 2)) (roRows (cIa us 1)) (toI (cIa us 2)) (toI (cIa (aggL (cIa us 3)) 0)) (toI (cIa (aggL (cIa us 3)) 1))) (fun us => rfl) (fun us => run59 (toI (cIa (aggL (cIa us 0)) 0)) (toI (cIa (aggL (cIa us 0)) 1)) (roRows (cIa (aggL (cIa us 0)) 2)) (roRows (cIa us 1)) (toI (cIa us 2)) (toI (cIa (aggL (cIa us 3)) 0)) (toI (cIa (aggL (cIa us 3)) 1))) (fun t => rfl)

/-! ### 60: skirmish/terrain.flat -/



/-- 'skirmish/terrain.flat' -/
noncomputable def F_terrain_flat (m_W : Int) (m_H : Int) (m_Cells : List (List AVal)) (class_ : Int) (p_X : Int) (p_Y : Int) (q_X : Int) (q_Y : Int) : Option (Bool) :=
  Option.bind (F_grid_Index m_W p_X p_Y) fun t =>
  bif (decide ((0 : Int) ≤ t)) then
    Option.bind (m_Cells[t.toNat]?) fun r =>
    bif (chk [(LT.int IntKind.i64), (LT.int IntKind.i64), (LT.int IntKind.i64)] r) then
      Option.bind (F_grid_Index m_W q_X q_Y) fun t1 =>
      bif (decide ((0 : Int) ≤ t1)) then
        Option.bind (m_Cells[t1.toNat]?) fun r1 =>
        bif (chk [(LT.int IntKind.i64), (LT.int IntKind.i64), (LT.int IntKind.i64)] r1) then
          bif (class_ == (3 : Int)) then
            some true
          else
          bif ((cI r 1) == (cI r1 1)) then
            some true
          else
          bif (decide ((cI r 1) > (cI r1 1))) then
            bif ((wr ((cI r 1) - (1 : Int))) == (cI r1 1)) then
              some true
            else
            bif (decide ((cI r1 1) > (cI r 1))) then
              some ((wr ((cI r1 1) - (1 : Int))) == (cI r 1))
            else
            some false
          else
          bif (decide ((cI r1 1) > (cI r 1))) then
            some ((wr ((cI r1 1) - (1 : Int))) == (cI r 1))
          else
          some false
        else
        none
      else
      none
    else
    none
  else
  none
noncomputable def enc60 (t : Bool) : CR := ⟨true, (.sc (.bool t)), [], []⟩
noncomputable def ks60 : List SK := [.agg [.int .i64, .int .i64, .ro 3], .f (.int .i64), .agg [.int .i64, .int .i64], .agg [.int .i64, .int .i64]]
noncomputable def S60 (us : List AVal) : Call := bif chkA ks60 us then Call.of (F_terrain_flat (toI (cIa (aggL (cIa us 0)) 0)) (toI (cIa (aggL (cIa us 0)) 1)) (roRows (cIa (aggL (cIa us 0)) 2)) (toI (cIa us 1)) (toI (cIa (aggL (cIa us 2)) 0)) (toI (cIa (aggL (cIa us 2)) 1)) (toI (cIa (aggL (cIa us 3)) 0)) (toI (cIa (aggL (cIa us 3)) 1))) enc60 else Call.none
noncomputable def C60 := AI.ext 60 S60 C59

theorem run60 (m_W : Int) (m_H : Int) (m_Cells : List (List AVal)) (class_ : Int) (p_X : Int) (p_Y : Int) (q_X : Int) (q_Y : Int) : fcall TT TU GL0 C59 ownF true noL Tryd.f60 [(.agg [(.sc (.int .i64 m_W)), (.sc (.int .i64 m_H)), (.ro 3 m_Cells)]), (.sc (.int .i64 class_)), (.agg [(.sc (.int .i64 p_X)), (.sc (.int .i64 p_Y))]), (.agg [(.sc (.int .i64 q_X)), (.sc (.int .i64 q_Y))])] = (F_terrain_flat m_W m_H m_Cells class_ p_X p_Y q_X q_Y).bind fun t => some (enc60 t) :=
  Eq.trans (b := (Option.bind (F_grid_Index m_W p_X p_Y) fun t => (bif (decide ((0 : Int) ≤ t)) then (Option.bind (m_Cells[t.toNat]?) fun r => (bif (chk [(LT.int IntKind.i64), (LT.int IntKind.i64), (LT.int IntKind.i64)] r) then (Option.bind (F_grid_Index m_W q_X q_Y) fun t1 => (bif (decide ((0 : Int) ≤ t1)) then (Option.bind (m_Cells[t1.toNat]?) fun r1 => (bif (chk [(LT.int IntKind.i64), (LT.int IntKind.i64), (LT.int IntKind.i64)] r1) then (bif (class_ == (3 : Int)) then (some (CR.mk true (bo true) [] [])) else (bif ((cI r 1) == (cI r1 1)) then (some (CR.mk true (bo true) [] [])) else (bif (decide ((cI r 1) > (cI r1 1))) then (bif ((wr ((cI r 1) - (1 : Int))) == (cI r1 1)) then (some (CR.mk true (bo true) [] [])) else (bif (decide ((cI r1 1) > (cI r 1))) then (some (CR.mk true (bo ((wr ((cI r1 1) - (1 : Int))) == (cI r 1))) [] [])) else (some (CR.mk true (bo false) [] [])))) else (bif (decide ((cI r1 1) > (cI r 1))) then (some (CR.mk true (bo ((wr ((cI r1 1) - (1 : Int))) == (cI r 1))) [] [])) else (some (CR.mk true (bo false) [] [])))))) else none)) else none)) else none)) else none))) (by kernel_rfl)
    (n_bind fun t => (n_condH rfl (fun h0 => (n_bind fun r => (n_condH rfl (fun h1 => (n_bind fun t1 => (n_condH rfl (fun h2 => (n_bind fun r1 => (n_condH rfl (fun h3 => (n_condH rfl (fun h4 => rfl) fun h4 => (n_condH rfl (fun h5 => rfl) fun h5 => (n_condH rfl (fun h6 => (n_condH rfl (fun h7 => rfl) fun h7 => (n_condH rfl (fun h8 => rfl) fun h8 => rfl))) fun h6 => (n_condH rfl (fun h7 => rfl) fun h7 => rfl))))) fun h3 => n_none))) fun h2 => n_none))) fun h1 => n_none))) fun h0 => n_none))
theorem lib60 : Lib Tryd.prog GL0 C60 :=
  Lib.fn lib59 mixed TT_ok Tryd.func60 (by decide +kernel) (by kernel_rfl) true noL (loops_of 0 (by kernel_rfl) below0) ks60 (F := fun us => F_terrain_flat (toI (cIa (aggL (cIa us 0)) 0)) (toI (cIa (aggL (cIa us 0)) 1)) (roRows (cIa (aggL (cIa us 0)) 2)) (toI (cIa us 1)) (toI (cIa (aggL (cIa us 2)) 0)) (toI (cIa (aggL (cIa us 2)) 1)) (toI (cIa (aggL (cIa us 3)) 0)) (toI (cIa (aggL (cIa us 3)) 1))) (fun us => rfl) (fun us => run60 (toI (cIa (aggL (cIa us 0)) 0)) (toI (cIa (aggL (cIa us 0)) 1)) (roRows (cIa (aggL (cIa us 0)) 2)) (toI (cIa us 1)) (toI (cIa (aggL (cIa us 2)) 0)) (toI (cIa (aggL (cIa us 2)) 1)) (toI (cIa (aggL (cIa us 3)) 0)) (toI (cIa (aggL (cIa us 3)) 1))) (fun t => rfl)

/-! ### 44: skirmish/terrain.possible -/



/-- 'skirmish/terrain.possible' -/
noncomputable def F_terrain_possible (m_W : Int) (m_H : Int) (m_Cells : List (List AVal)) (blocked : List (List AVal)) (class_ : Int) (p_X : Int) (p_Y : Int) (q_X : Int) (q_Y : Int) : Option (Bool) :=
  Option.bind (F_terrain_open m_W m_H m_Cells blocked class_ p_X p_Y) fun t =>
  bif t then
    Option.bind (F_terrain_open m_W m_H m_Cells blocked class_ q_X q_Y) fun t1 =>
    bif t1 then
      Option.bind (F_terrain_flat m_W m_H m_Cells class_ p_X p_Y q_X q_Y) fun t2 =>
      some t2
    else
    some false
  else
  some false
noncomputable def enc44 (t : Bool) : CR := ⟨true, (.sc (.bool t)), [], []⟩
noncomputable def ks44 : List SK := [.agg [.int .i64, .int .i64, .ro 3], .f (.ro 1), .f (.int .i64), .agg [.int .i64, .int .i64], .agg [.int .i64, .int .i64]]
noncomputable def S44 (us : List AVal) : Call := bif chkA ks44 us then Call.of (F_terrain_possible (toI (cIa (aggL (cIa us 0)) 0)) (toI (cIa (aggL (cIa us 0)) 1)) (roRows (cIa (aggL (cIa us 0)) 2)) (roRows (cIa us 1)) (toI (cIa us 2)) (toI (cIa (aggL (cIa us 3)) 0)) (toI (cIa (aggL (cIa us 3)) 1)) (toI (cIa (aggL (cIa us 4)) 0)) (toI (cIa (aggL (cIa us 4)) 1))) enc44 else Call.none
noncomputable def C44 := AI.ext 44 S44 C60

theorem run44 (m_W : Int) (m_H : Int) (m_Cells : List (List AVal)) (blocked : List (List AVal)) (class_ : Int) (p_X : Int) (p_Y : Int) (q_X : Int) (q_Y : Int) : fcall TT TU GL0 C60 ownF true noL Tryd.f44 [(.agg [(.sc (.int .i64 m_W)), (.sc (.int .i64 m_H)), (.ro 3 m_Cells)]), (.ro 1 blocked), (.sc (.int .i64 class_)), (.agg [(.sc (.int .i64 p_X)), (.sc (.int .i64 p_Y))]), (.agg [(.sc (.int .i64 q_X)), (.sc (.int .i64 q_Y))])] = (F_terrain_possible m_W m_H m_Cells blocked class_ p_X p_Y q_X q_Y).bind fun t => some (enc44 t) :=
  Eq.trans (b := (Option.bind (F_terrain_open m_W m_H m_Cells blocked class_ p_X p_Y) fun t => (bif t then (Option.bind (F_terrain_open m_W m_H m_Cells blocked class_ q_X q_Y) fun t1 => (bif t1 then (Option.bind (F_terrain_flat m_W m_H m_Cells class_ p_X p_Y q_X q_Y) fun t2 => (some (CR.mk true (bo t2) [] []))) else (some (CR.mk true (bo false) [] [])))) else (some (CR.mk true (bo false) [] []))))) (by kernel_rfl)
    (n_bind fun t => (n_condH rfl (fun h0 => (n_bind fun t1 => (n_condH rfl (fun h1 => (n_bind fun t2 => rfl)) fun h1 => rfl))) fun h0 => rfl))
theorem lib44 : Lib Tryd.prog GL0 C44 :=
  Lib.fn lib60 mixed TT_ok Tryd.func44 (by decide +kernel) (by kernel_rfl) true noL (loops_of 0 (by kernel_rfl) below0) ks44 (F := fun us => F_terrain_possible (toI (cIa (aggL (cIa us 0)) 0)) (toI (cIa (aggL (cIa us 0)) 1)) (roRows (cIa (aggL (cIa us 0)) 2)) (roRows (cIa us 1)) (toI (cIa us 2)) (toI (cIa (aggL (cIa us 3)) 0)) (toI (cIa (aggL (cIa us 3)) 1)) (toI (cIa (aggL (cIa us 4)) 0)) (toI (cIa (aggL (cIa us 4)) 1))) (fun us => rfl) (fun us => run44 (toI (cIa (aggL (cIa us 0)) 0)) (toI (cIa (aggL (cIa us 0)) 1)) (roRows (cIa (aggL (cIa us 0)) 2)) (roRows (cIa us 1)) (toI (cIa us 2)) (toI (cIa (aggL (cIa us 3)) 0)) (toI (cIa (aggL (cIa us 3)) 1)) (toI (cIa (aggL (cIa us 4)) 0)) (toI (cIa (aggL (cIa us 4)) 1))) (fun t => rfl)

/-! ### 23: skirmish/terrain.Step -/

noncomputable def W23_0 : Ex → List Bool
  | .ret => [false, false, false, false, false, false, false, false, false, false, true, true, false, false, false, false, false, false, false, false, false, false, false, false, false, false, false, false, false, false, false, false, false, false, false, false, false, false, false, false, false, false, false, false, false, false, false, false, false, false, false, false, false, false, false, false, false, false, false, false, false, false, false, false, false, false, false, false, false, false, false, false, false, false, false, false, false, false, false, false, false, false, false, false, false, false, false, false, false, false, false, false, false, false, false, false, false, false, false, false, false, false]
  | .exit n => bif Nat.beq n 0 then [false, false, true, false, false, true, false, false, true, false, false, false, true, true, false, false, false, false, false, false, false, false, false, false, false, false, false, false, false, false, false, false, false, false, false, false, false, false, false, false, false, false, false, false, false, false, false, false, false, false, false, false, false, false, false, false, false, false, false, false, false, false, false, false, false, false, false, false, false, false, false, false, false, false, false, false, false, false, false, true, true, true, true, true, true, true, true, true, true, true, true, true, true, true, true, true, true, true, false, false, false, false] else []
  | .normal => []
noncomputable def L23_0 (s : St) (k : Ex → St → Option CR) : Option CR := loopN (bodyOf TT TU GL0 C44 ownF noL (lp Tryd.f23 0)) 3 (maskS [false, true, true, false, false, true, false, false, true, false, false, false, true, true, false, false, false, false, false, false, false, false, false, false, false, false, false, false, false, false, false, false, false, false, false, false, false, false, false, false, false, false, false, false, false, false, false, false, false, false, false, true, true, false, false, false, false, false, true, true, true, true, true, true, true, true, true, true, true, true, true, true, true, true, false, false, false, false, false, true, true, true, true, true, true, true, true, true, true, true, true, true, true, true, true, true, true, true, false, false, false, false] s) (fun e s' => k e (maskS (W23_0 e) s'))

noncomputable def L23 : LT' := fun i s k => bif Nat.beq i 0 then L23_0 s k else none

/-- 'skirmish/terrain.Step' -/
noncomputable def F_terrain_Step (m_W : Int) (m_H : Int) (m_Cells : List (List AVal)) (blocked : List (List AVal)) (class_ : Int) (p_X : Int) (p_Y : Int) (dir : Int) : Option (Int × Bool) :=
  bif (decide (dir < (0 : Int))) then
    some ((0 : Int), false)
  else
  bif (decide (dir > (7 : Int))) then
    some ((0 : Int), false)
  else
  Option.bind (F_terrain_inside m_W m_H m_Cells p_X p_Y) fun t =>
  bif (!t) then
    some ((0 : Int), false)
  else
  Option.bind (F_grid_Step p_X p_Y dir) fun t1 =>
  Option.bind (F_terrain_possible m_W m_H m_Cells blocked class_ p_X p_Y t1.1 t1.2) fun t2 =>
  bif (!t2) then
    some ((0 : Int), false)
  else
  bif ((Int.tmod dir (2 : Int)) == (1 : Int)) then
    Option.bind ([[(i64 p_X), (i64 t1.2)], [(i64 t1.1), (i64 p_Y)]][(0 : Int).toNat]?) fun r =>
    bif (chk [(LT.int IntKind.i64), (LT.int IntKind.i64)] r) then
      bif (class_ != (3 : Int)) then
        Option.bind (F_terrain_possible m_W m_H m_Cells blocked class_ p_X p_Y (cI r 0) (cI r 1)) fun t3 =>
        bif (!t3) then
          some ((0 : Int), false)
        else
        Option.bind (F_terrain_possible m_W m_H m_Cells blocked class_ (cI r 0) (cI r 1) t1.1 t1.2) fun t4 =>
        bif (!t4) then
          some ((0 : Int), false)
        else
        Option.bind ([[(i64 p_X), (i64 t1.2)], [(i64 t1.1), (i64 p_Y)]][(wr ((0 : Int) + (1 : Int))).toNat]?) fun r1 =>
        bif (chk [(LT.int IntKind.i64), (LT.int IntKind.i64)] r1) then
          Option.bind (F_terrain_possible m_W m_H m_Cells blocked class_ p_X p_Y (cI r1 0) (cI r1 1)) fun t5 =>
          bif (!t5) then
            some ((0 : Int), false)
          else
          Option.bind (F_terrain_possible m_W m_H m_Cells blocked class_ (cI r1 0) (cI r1 1) t1.1 t1.2) fun t6 =>
          bif (!t6) then
            some ((0 : Int), false)
          else
          Option.bind (F_grid_Index m_W p_X p_Y) fun t7 =>
          bif (decide ((0 : Int) ≤ t7)) then
            Option.bind (m_Cells[t7.toNat]?) fun r2 =>
            bif (chk [(LT.int IntKind.i64), (LT.int IntKind.i64), (LT.int IntKind.i64)] r2) then
              Option.bind (F_grid_Index m_W t1.1 t1.2) fun t8 =>
              bif (decide ((0 : Int) ≤ t8)) then
                Option.bind (m_Cells[t8.toNat]?) fun r3 =>
                bif (chk [(LT.int IntKind.i64), (LT.int IntKind.i64), (LT.int IntKind.i64)] r3) then
                  bif ((cI r2 1) != (cI r3 1)) then
                    some ((wr ((14 : Int) + (5 : Int))), true)
                  else
                  some ((14 : Int), true)
                else
                none
              else
              none
            else
            none
          else
          none
        else
        none
      else
      Option.bind ([[(i64 p_X), (i64 t1.2)], [(i64 t1.1), (i64 p_Y)]][(wr ((0 : Int) + (1 : Int))).toNat]?) fun r6 =>
      bif (chk [(LT.int IntKind.i64), (LT.int IntKind.i64)] r6) then
        some ((14 : Int), true)
      else
      none
    else
    none
  else
  bif (class_ != (3 : Int)) then
    Option.bind (F_grid_Index m_W p_X p_Y) fun t17 =>
    bif (decide ((0 : Int) ≤ t17)) then
      Option.bind (m_Cells[t17.toNat]?) fun r11 =>
      bif (chk [(LT.int IntKind.i64), (LT.int IntKind.i64), (LT.int IntKind.i64)] r11) then
        Option.bind (F_grid_Index m_W t1.1 t1.2) fun t18 =>
        bif (decide ((0 : Int) ≤ t18)) then
          Option.bind (m_Cells[t18.toNat]?) fun r12 =>
          bif (chk [(LT.int IntKind.i64), (LT.int IntKind.i64), (LT.int IntKind.i64)] r12) then
            bif ((cI r11 1) != (cI r12 1)) then
              some ((wr ((10 : Int) + (5 : Int))), true)
            else
            some ((10 : Int), true)
          else
          none
        else
        none
      else
      none
    else
    none
  else
  some ((10 : Int), true)
noncomputable def enc23 (t : Int × Bool) : CR := ⟨true, (.tup [(.sc (.int .i64 t.1)), (.sc (.bool t.2))]), [], []⟩
noncomputable def ks23 : List SK := [.agg [.int .i64, .int .i64, .ro 3], .f (.ro 1), .f (.int .i64), .agg [.int .i64, .int .i64], .f (.int .i64)]
noncomputable def S23 (us : List AVal) : Call := bif chkA ks23 us then Call.of (F_terrain_Step (toI (cIa (aggL (cIa us 0)) 0)) (toI (cIa (aggL (cIa us 0)) 1)) (roRows (cIa (aggL (cIa us 0)) 2)) (roRows (cIa us 1)) (toI (cIa us 2)) (toI (cIa (aggL (cIa us 3)) 0)) (toI (cIa (aggL (cIa us 3)) 1)) (toI (cIa us 4))) enc23 else Call.none
noncomputable def C23 := AI.ext 23 S23 C44

theorem okL23_0 : LoopOk TT TU GL0 C44 ownF L23 (lp Tryd.f23 0) :=
  loopOk_unroll 3 [false, true, true, false, false, true, false, false, true, false, false, false, true, true, false, false, false, false, false, false, false, false, false, false, false, false, false, false, false, false, false, false, false, false, false, false, false, false, false, false, false, false, false, false, false, false, false, false, false, false, false, true, true, false, false, false, false, false, true, true, true, true, true, true, true, true, true, true, true, true, true, true, true, true, false, false, false, false, false, true, true, true, true, true, true, true, true, true, true, true, true, true, true, true, true, true, true, true, false, false, false, false] W23_0 (by kernel_rfl) (fun s k => by kernel_rfl)
theorem run23 (m_W : Int) (m_H : Int) (m_Cells : List (List AVal)) (blocked : List (List AVal)) (class_ : Int) (p_X : Int) (p_Y : Int) (dir : Int) : fcall TT TU GL0 C44 ownF true L23 Tryd.f23 [(.agg [(.sc (.int .i64 m_W)), (.sc (.int .i64 m_H)), (.ro 3 m_Cells)]), (.ro 1 blocked), (.sc (.int .i64 class_)), (.agg [(.sc (.int .i64 p_X)), (.sc (.int .i64 p_Y))]), (.sc (.int .i64 dir))] = (F_terrain_Step m_W m_H m_Cells blocked class_ p_X p_Y dir).bind fun t => some (enc23 t) :=
  Eq.trans (b := (bif (decide (dir < (0 : Int))) then (some (CR.mk true (AVal.tup [(i64 (0 : Int)), (bo false)]) [] [])) else (bif (decide (dir > (7 : Int))) then (some (CR.mk true (AVal.tup [(i64 (0 : Int)), (bo false)]) [] [])) else (Option.bind (F_terrain_inside m_W m_H m_Cells p_X p_Y) fun t => (bif (!t) then (some (CR.mk true (AVal.tup [(i64 (0 : Int)), (bo false)]) [] [])) else (Option.bind (F_grid_Step p_X p_Y dir) fun t1 => (Option.bind (F_terrain_possible m_W m_H m_Cells blocked class_ p_X p_Y t1.1 t1.2) fun t2 => (bif (!t2) then (some (CR.mk true (AVal.tup [(i64 (0 : Int)), (bo false)]) [] [])) else (bif ((Int.tmod dir (2 : Int)) == (1 : Int)) then (bif (((decide ((0 : Int) ≤ (0 : Int))) && (decide ((0 : Int) < (2 : Int)))) && true) then (Option.bind ([[(i64 p_X), (i64 t1.2)], [(i64 t1.1), (i64 p_Y)]][(0 : Int).toNat]?) fun r => (bif (chk [(LT.int IntKind.i64), (LT.int IntKind.i64)] r) then (bif (class_ != (3 : Int)) then (Option.bind (F_terrain_possible m_W m_H m_Cells blocked class_ p_X p_Y (cI r 0) (cI r 1)) fun t3 => (bif (!t3) then (some (CR.mk true (AVal.tup [(i64 (0 : Int)), (bo false)]) [] [])) else (Option.bind (F_terrain_possible m_W m_H m_Cells blocked class_ (cI r 0) (cI r 1) t1.1 t1.2) fun t4 => (bif (!t4) then (some (CR.mk true (AVal.tup [(i64 (0 : Int)), (bo false)]) [] [])) else (bif (((decide ((0 : Int) ≤ (wr ((0 : Int) + (1 : Int))))) && (decide ((wr ((0 : Int) + (1 : Int))) < (2 : Int)))) && true) then (Option.bind ([[(i64 p_X), (i64 t1.2)], [(i64 t1.1), (i64 p_Y)]][(wr ((0 : Int) + (1 : Int))).toNat]?) fun r1 => (bif (chk [(LT.int IntKind.i64), (LT.int IntKind.i64)] r1) then (bif (class_ != (3 : Int)) then (Option.bind (F_terrain_possible m_W m_H m_Cells blocked class_ p_X p_Y (cI r1 0) (cI r1 1)) fun t5 => (bif (!t5) then (some (CR.mk true (AVal.tup [(i64 (0 : Int)), (bo false)]) [] [])) else (Option.bind (F_terrain_possible m_W m_H m_Cells blocked class_ (cI r1 0) (cI r1 1) t1.1 t1.2) fun t6 => (bif (!t6) then (some (CR.mk true (AVal.tup [(i64 (0 : Int)), (bo false)]) [] [])) else (bif (class_ != (3 : Int)) then (Option.bind (F_grid_Index m_W p_X p_Y) fun t7 => (bif (decide ((0 : Int) ≤ t7)) then (Option.bind (m_Cells[t7.toNat]?) fun r2 => (bif (chk [(LT.int IntKind.i64), (LT.int IntKind.i64), (LT.int IntKind.i64)] r2) then (Option.bind (F_grid_Index m_W t1.1 t1.2) fun t8 => (bif (decide ((0 : Int) ≤ t8)) then (Option.bind (m_Cells[t8.toNat]?) fun r3 => (bif (chk [(LT.int IntKind.i64), (LT.int IntKind.i64), (LT.int IntKind.i64)] r3) then (bif ((cI r2 1) != (cI r3 1)) then (some (CR.mk true (AVal.tup [(i64 (wr ((14 : Int) + (5 : Int)))), (bo true)]) [] [])) else (some (CR.mk true (AVal.tup [(i64 (14 : Int)), (bo true)]) [] []))) else none)) else none)) else none)) else none)) else (some (CR.mk true (AVal.tup [(i64 (14 : Int)), (bo true)]) [] []))))))) else (bif (class_ != (3 : Int)) then (Option.bind (F_grid_Index m_W p_X p_Y) fun t9 => (bif (decide ((0 : Int) ≤ t9)) then (Option.bind (m_Cells[t9.toNat]?) fun r4 => (bif (chk [(LT.int IntKind.i64), (LT.int IntKind.i64), (LT.int IntKind.i64)] r4) then (Option.bind (F_grid_Index m_W t1.1 t1.2) fun t10 => (bif (decide ((0 : Int) ≤ t10)) then (Option.bind (m_Cells[t10.toNat]?) fun r5 => (bif (chk [(LT.int IntKind.i64), (LT.int IntKind.i64), (LT.int IntKind.i64)] r5) then (bif ((cI r4 1) != (cI r5 1)) then (some (CR.mk true (AVal.tup [(i64 (wr ((14 : Int) + (5 : Int)))), (bo true)]) [] [])) else (some (CR.mk true (AVal.tup [(i64 (14 : Int)), (bo true)]) [] []))) else none)) else none)) else none)) else none)) else (some (CR.mk true (AVal.tup [(i64 (14 : Int)), (bo true)]) [] [])))) else none)) else none))))) else (bif (((decide ((0 : Int) ≤ (wr ((0 : Int) + (1 : Int))))) && (decide ((wr ((0 : Int) + (1 : Int))) < (2 : Int)))) && true) then (Option.bind ([[(i64 p_X), (i64 t1.2)], [(i64 t1.1), (i64 p_Y)]][(wr ((0 : Int) + (1 : Int))).toNat]?) fun r6 => (bif (chk [(LT.int IntKind.i64), (LT.int IntKind.i64)] r6) then (bif (class_ != (3 : Int)) then (Option.bind (F_terrain_possible m_W m_H m_Cells blocked class_ p_X p_Y (cI r6 0) (cI r6 1)) fun t11 => (bif (!t11) then (some (CR.mk true (AVal.tup [(i64 (0 : Int)), (bo false)]) [] [])) else (Option.bind (F_terrain_possible m_W m_H m_Cells blocked class_ (cI r6 0) (cI r6 1) t1.1 t1.2) fun t12 => (bif (!t12) then (some (CR.mk true (AVal.tup [(i64 (0 : Int)), (bo false)]) [] [])) else (bif (class_ != (3 : Int)) then (Option.bind (F_grid_Index m_W p_X p_Y) fun t13 => (bif (decide ((0 : Int) ≤ t13)) then (Option.bind (m_Cells[t13.toNat]?) fun r7 => (bif (chk [(LT.int IntKind.i64), (LT.int IntKind.i64), (LT.int IntKind.i64)] r7) then (Option.bind (F_grid_Index m_W t1.1 t1.2) fun t14 => (bif (decide ((0 : Int) ≤ t14)) then (Option.bind (m_Cells[t14.toNat]?) fun r8 => (bif (chk [(LT.int IntKind.i64), (LT.int IntKind.i64), (LT.int IntKind.i64)] r8) then (bif ((cI r7 1) != (cI r8 1)) then (some (CR.mk true (AVal.tup [(i64 (wr ((14 : Int) + (5 : Int)))), (bo true)]) [] [])) else (some (CR.mk true (AVal.tup [(i64 (14 : Int)), (bo true)]) [] []))) else none)) else none)) else none)) else none)) else (some (CR.mk true (AVal.tup [(i64 (14 : Int)), (bo true)]) [] []))))))) else (bif (class_ != (3 : Int)) then (Option.bind (F_grid_Index m_W p_X p_Y) fun t15 => (bif (decide ((0 : Int) ≤ t15)) then (Option.bind (m_Cells[t15.toNat]?) fun r9 => (bif (chk [(LT.int IntKind.i64), (LT.int IntKind.i64), (LT.int IntKind.i64)] r9) then (Option.bind (F_grid_Index m_W t1.1 t1.2) fun t16 => (bif (decide ((0 : Int) ≤ t16)) then (Option.bind (m_Cells[t16.toNat]?) fun r10 => (bif (chk [(LT.int IntKind.i64), (LT.int IntKind.i64), (LT.int IntKind.i64)] r10) then (bif ((cI r9 1) != (cI r10 1)) then (some (CR.mk true (AVal.tup [(i64 (wr ((14 : Int) + (5 : Int)))), (bo true)]) [] [])) else (some (CR.mk true (AVal.tup [(i64 (14 : Int)), (bo true)]) [] []))) else none)) else none)) else none)) else none)) else (some (CR.mk true (AVal.tup [(i64 (14 : Int)), (bo true)]) [] [])))) else none)) else none)) else none)) else none) else (bif (class_ != (3 : Int)) then (Option.bind (F_grid_Index m_W p_X p_Y) fun t17 => (bif (decide ((0 : Int) ≤ t17)) then (Option.bind (m_Cells[t17.toNat]?) fun r11 => (bif (chk [(LT.int IntKind.i64), (LT.int IntKind.i64), (LT.int IntKind.i64)] r11) then (Option.bind (F_grid_Index m_W t1.1 t1.2) fun t18 => (bif (decide ((0 : Int) ≤ t18)) then (Option.bind (m_Cells[t18.toNat]?) fun r12 => (bif (chk [(LT.int IntKind.i64), (LT.int IntKind.i64), (LT.int IntKind.i64)] r12) then (bif ((cI r11 1) != (cI r12 1)) then (some (CR.mk true (AVal.tup [(i64 (wr ((10 : Int) + (5 : Int)))), (bo true)]) [] [])) else (some (CR.mk true (AVal.tup [(i64 (10 : Int)), (bo true)]) [] []))) else none)) else none)) else none)) else none)) else (some (CR.mk true (AVal.tup [(i64 (10 : Int)), (bo true)]) [] [])))))))))))) (by kernel_rfl)
    (n_condH rfl (fun h0 => rfl) fun h0 => (n_condH rfl (fun h1 => rfl) fun h1 => (n_bind fun t => (n_condH rfl (fun h2 => rfl) fun h2 => (n_bind fun t1 => (n_bind fun t2 => (n_condH rfl (fun h3 => rfl) fun h3 => (n_condH rfl (fun h4 => (n_true (by kernel_rfl) (n_bind fun r => (n_condH rfl (fun h5 => (n_condH rfl (fun h6 => (n_bind fun t3 => (n_condH rfl (fun h7 => rfl) fun h7 => (n_bind fun t4 => (n_condH rfl (fun h8 => rfl) fun h8 => (n_true (by kernel_rfl) (n_bind fun r1 => (n_condH rfl (fun h9 => (n_true h6 (n_bind fun t5 => (n_condH rfl (fun h10 => rfl) fun h10 => (n_bind fun t6 => (n_condH rfl (fun h11 => rfl) fun h11 => (n_true h6 (n_bind fun t7 => (n_condH rfl (fun h12 => (n_bind fun r2 => (n_condH rfl (fun h13 => (n_bind fun t8 => (n_condH rfl (fun h14 => (n_bind fun r3 => (n_condH rfl (fun h15 => (n_condH rfl (fun h16 => rfl) fun h16 => rfl)) fun h15 => n_none))) fun h14 => n_none))) fun h13 => n_none))) fun h12 => n_none))))))))) fun h9 => n_none)))))))) fun h6 => (n_true (by kernel_rfl) (n_bind fun r6 => (n_condH rfl (fun h7 => (n_false h6 (n_false h6 rfl))) fun h7 => n_none))))) fun h5 => n_none)))) fun h4 => (n_condH rfl (fun h5 => (n_bind fun t17 => (n_condH rfl (fun h6 => (n_bind fun r11 => (n_condH rfl (fun h7 => (n_bind fun t18 => (n_condH rfl (fun h8 => (n_bind fun r12 => (n_condH rfl (fun h9 => (n_condH rfl (fun h10 => rfl) fun h10 => rfl)) fun h9 => n_none))) fun h8 => n_none))) fun h7 => n_none))) fun h6 => n_none))) fun h5 => rfl)))))))))
theorem lib23 : Lib Tryd.prog GL0 C23 :=
  Lib.fn lib44 mixed TT_ok Tryd.func23 (by decide +kernel) (by kernel_rfl) true L23 (loops_of 1 (by kernel_rfl) (belowS below0 okL23_0)) ks23 (F := fun us => F_terrain_Step (toI (cIa (aggL (cIa us 0)) 0)) (toI (cIa (aggL (cIa us 0)) 1)) (roRows (cIa (aggL (cIa us 0)) 2)) (roRows (cIa us 1)) (toI (cIa us 2)) (toI (cIa (aggL (cIa us 3)) 0)) (toI (cIa (aggL (cIa us 3)) 1)) (toI (cIa us 4))) (fun us => rfl) (fun us => run23 (toI (cIa (aggL (cIa us 0)) 0)) (toI (cIa (aggL (cIa us 0)) 1)) (roRows (cIa (aggL (cIa us 0)) 2)) (roRows (cIa us 1)) (toI (cIa us 2)) (toI (cIa (aggL (cIa us 3)) 0)) (toI (cIa (aggL (cIa us 3)) 1)) (toI (cIa us 4))) (fun t => rfl)

/-! ### 35: skirmish/terrain.validCell -/



/-- 'skirmish/terrain.validCell' -/
noncomputable def F_terrain_validCell (c_Kind : Int) (c_Height : Int) (c_Amount : Int) : Option (Bool) :=
  bif (decide (c_Kind < (1 : Int))) then
    some false
  else
  bif (decide (c_Kind > (5 : Int))) then
    some false
  else
  bif (decide (c_Height < (0 : Int))) then
    some false
  else
  bif (decide (c_Height > (3 : Int))) then
    some false
  else
  bif (decide (c_Amount < (0 : Int))) then
    some false
  else
  bif (decide (c_Amount > (1000000 : Int))) then
    some false
  else
  bif (c_Kind == (4 : Int)) then
    some ((decide (c_Amount > (0 : Int))) == true)
  else
  some ((decide (c_Amount > (0 : Int))) == (c_Kind == (5 : Int)))
noncomputable def enc35 (t : Bool) : CR := ⟨true, (.sc (.bool t)), [], []⟩
noncomputable def ks35 : List SK := [.agg [.int .i64, .int .i64, .int .i64]]
noncomputable def S35 (us : List AVal) : Call := bif chkA ks35 us then Call.of (F_terrain_validCell (toI (cIa (aggL (cIa us 0)) 0)) (toI (cIa (aggL (cIa us 0)) 1)) (toI (cIa (aggL (cIa us 0)) 2))) enc35 else Call.none
noncomputable def C35 := AI.ext 35 S35 C23

theorem run35 (c_Kind : Int) (c_Height : Int) (c_Amount : Int) : fcall TT TU GL0 C23 ownF true noL Tryd.f35 [(.agg [(.sc (.int .i64 c_Kind)), (.sc (.int .i64 c_Height)), (.sc (.int .i64 c_Amount))])] = (F_terrain_validCell c_Kind c_Height c_Amount).bind fun t => some (enc35 t) :=
  Eq.trans (b := (bif (decide (c_Kind < (1 : Int))) then (some (CR.mk true (bo false) [] [])) else (bif (decide (c_Kind > (5 : Int))) then (some (CR.mk true (bo false) [] [])) else (bif (decide (c_Height < (0 : Int))) then (some (CR.mk true (bo false) [] [])) else (bif (decide (c_Height > (3 : Int))) then (some (CR.mk true (bo false) [] [])) else (bif (decide (c_Amount < (0 : Int))) then (some (CR.mk true (bo false) [] [])) else (bif (decide (c_Amount > (1000000 : Int))) then (some (CR.mk true (bo false) [] [])) else (bif (c_Kind == (4 : Int)) then (some (CR.mk true (bo ((decide (c_Amount > (0 : Int))) == true)) [] [])) else (some (CR.mk true (bo ((decide (c_Amount > (0 : Int))) == (c_Kind == (5 : Int)))) [] [])))))))))) (by kernel_rfl)
    (n_condH rfl (fun h0 => rfl) fun h0 => (n_condH rfl (fun h1 => rfl) fun h1 => (n_condH rfl (fun h2 => rfl) fun h2 => (n_condH rfl (fun h3 => rfl) fun h3 => (n_condH rfl (fun h4 => rfl) fun h4 => (n_condH rfl (fun h5 => rfl) fun h5 => (n_condH rfl (fun h6 => rfl) fun h6 => rfl)))))))
theorem lib35 : Lib Tryd.prog GL0 C35 :=
  Lib.fn lib23 mixed TT_ok Tryd.func35 (by decide +kernel) (by kernel_rfl) true noL (loops_of 0 (by kernel_rfl) below0) ks35 (F := fun us => F_terrain_validCell (toI (cIa (aggL (cIa us 0)) 0)) (toI (cIa (aggL (cIa us 0)) 1)) (toI (cIa (aggL (cIa us 0)) 2))) (fun us => rfl) (fun us => run35 (toI (cIa (aggL (cIa us 0)) 0)) (toI (cIa (aggL (cIa us 0)) 1)) (toI (cIa (aggL (cIa us 0)) 2))) (fun t => rfl)

/-! ### 41: skirmish/terrain.Valid$1 -/



/-- 'skirmish/terrain.Valid$1' -/
noncomputable def F_terrain_Valid_1 (c_Kind : Int) (c_Height : Int) (c_Amount : Int) : Option (Bool) :=
  Option.bind (F_terrain_validCell c_Kind c_Height c_Amount) fun t =>
  some (!t)
noncomputable def enc41 (t : Bool) : CR := ⟨true, (.sc (.bool t)), [], []⟩
noncomputable def ks41 : List SK := [.agg [.int .i64, .int .i64, .int .i64]]
noncomputable def S41 (us : List AVal) : Call := bif chkA ks41 us then Call.of (F_terrain_Valid_1 (toI (cIa (aggL (cIa us 0)) 0)) (toI (cIa (aggL (cIa us 0)) 1)) (toI (cIa (aggL (cIa us 0)) 2))) enc41 else Call.none
noncomputable def C41 := AI.ext 41 S41 C35

theorem run41 (c_Kind : Int) (c_Height : Int) (c_Amount : Int) : fcall TT TU GL0 C35 ownF true noL Tryd.f41 [(.agg [(.sc (.int .i64 c_Kind)), (.sc (.int .i64 c_Height)), (.sc (.int .i64 c_Amount))])] = (F_terrain_Valid_1 c_Kind c_Height c_Amount).bind fun t => some (enc41 t) :=
  Eq.trans (b := (Option.bind (F_terrain_validCell c_Kind c_Height c_Amount) fun t => (some (CR.mk true (bo (!t)) [] [])))) (by kernel_rfl)
    (n_bind fun t => rfl)
theorem lib41 : Lib Tryd.prog GL0 C41 :=
  Lib.fn lib35 mixed TT_ok Tryd.func41 (by decide +kernel) (by kernel_rfl) true noL (loops_of 0 (by kernel_rfl) below0) ks41 (F := fun us => F_terrain_Valid_1 (toI (cIa (aggL (cIa us 0)) 0)) (toI (cIa (aggL (cIa us 0)) 1)) (toI (cIa (aggL (cIa us 0)) 2))) (fun us => rfl) (fun us => run41 (toI (cIa (aggL (cIa us 0)) 0)) (toI (cIa (aggL (cIa us 0)) 1)) (toI (cIa (aggL (cIa us 0)) 2))) (fun t => rfl)

/-! ### 56: slices.IndexFunc[[]skirmish/api.Cell,skirmish/api.Cell] -/

noncomputable def W56_0 : Ex → List Bool
  | .ret => [false, false, false, false, true, false, false, false, false, false, false, false, false, false, false, false, false, false, false]
  | .exit n => bif Nat.beq n 0 then [false, false, false, false, false, false, false, false, false, false, false, false, false, false, false, false, false, false, false] else []
  | .normal => []
noncomputable def G_slices_IndexFunc_Cell_0 (s1 : List (List AVal)) (x7 : Int) : Nat → Int → Option (Bool × Int)
  | 0, _ => none
  | m + 1, x8 =>
    bif (decide (x8 < x7)) then
      bif (decide ((0 : Int) ≤ x8)) then
        Option.bind (s1[x8.toNat]?) fun r =>
        bif (chk [(LT.int IntKind.i64), (LT.int IntKind.i64), (LT.int IntKind.i64)] r) then
          Option.bind (F_terrain_Valid_1 (cI r 0) (cI r 1) (cI r 2)) fun t =>
          bif t then
            some (true, x8)
          else
          G_slices_IndexFunc_Cell_0 s1 x7 m (wr (x8 + (1 : Int)))
        else
        none
      else
      none
    else
    some (false, 0)
noncomputable def E56_0 (s1 : List (List AVal)) (x7 : Int) (x8 : Int) : St := ⟨[(.ro 3 s1), (.clo 41 []), .dead, .dead, .dead, .dead, .dead, (.sc (.int .i64 x7)), (.sc (.int .i64 x8)), .dead, .dead, .dead, .dead, .dead, .dead, .dead, .dead, .dead, .dead], []⟩
noncomputable def X56_0 (k : Ex → St → Option CR) (t : Bool × Int) : Option CR := bif t.1 then k .ret ⟨[.dead, .dead, .dead, .dead, (.sc (.int .i64 t.2)), .dead, .dead, .dead, .dead, .dead, .dead, .dead, .dead, .dead, .dead, .dead, .dead, .dead, .dead], []⟩ else k (.exit 0) ⟨[.dead, .dead, .dead, .dead, .dead, .dead, .dead, .dead, .dead, .dead, .dead, .dead, .dead, .dead, .dead, .dead, .dead, .dead, .dead], []⟩
noncomputable def ks56_0 : List SK := [.f (.ro 3), .f (.clo 41 []), .f .dead, .f .dead, .f .dead, .f .dead, .f .dead, .f (.int .i64), .f (.int .i64), .f .dead, .f .dead, .f .dead, .f .dead, .f .dead, .f .dead, .f .dead, .f .dead, .f .dead, .f .dead]
noncomputable def hs56_0 : List HK := []
noncomputable def L56_0 (s : St) (k : Ex → St → Option CR) : Option CR := bif chkS ks56_0 hs56_0 s then (G_slices_IndexFunc_Cell_0 (roRows (cIa s.tmps 0)) (toI (cIa s.tmps 7)) FU (toI (cIa s.tmps 8))).bind (X56_0 k) else none

noncomputable def L56 : LT' := fun i s k => bif Nat.beq i 0 then L56_0 s k else none

/-- 'slices.IndexFunc[[]skirmish/api.Cell,skirmish/api.Cell]' -/
noncomputable def F_slices_IndexFunc_Cell (s1 : List (List AVal)) : Option (Int) :=
  Option.bind (G_slices_IndexFunc_Cell_0 s1 (Int.ofNat s1.length) FU (0 : Int)) fun t =>
  bif t.1 then
    some t.2
  else
  some (-(1 : Int))
noncomputable def enc56 (t : Int) : CR := ⟨true, (.sc (.int .i64 t)), [], []⟩
noncomputable def ks56 : List SK := [.f (.ro 3), .f (.clo 41 [])]
noncomputable def S56 (us : List AVal) : Call := bif chkA ks56 us then Call.of (F_slices_IndexFunc_Cell (roRows (cIa us 0))) enc56 else Call.none
noncomputable def C56 := AI.ext 56 S56 C41

@[reducible] noncomputable def B56_0 := bodyOf TT TU GL0 C41 ownF L56 (lp Tryd.f56 0)
@[reducible] noncomputable def K56_0 (k : Ex → St → Option CR) : Ex → St → Option CR := fun e s => k e (maskS (W56_0 e) s)
theorem spec56_0 (k : Ex → St → Option CR) : ∀ (m : Nat) (s1 : List (List AVal)) (x7 : Int) (x8 : Int), loopN B56_0 m (E56_0 s1 x7 x8) (K56_0 k) = (G_slices_IndexFunc_Cell_0 s1 x7 m x8).bind (X56_0 k)
  | 0, _, _, _ => rfl
  | m + 1, s1, x7, x8 =>
    Eq.trans (b := (bif (decide (x8 < x7)) then (bif (decide ((0 : Int) ≤ x8)) then (Option.bind (s1[x8.toNat]?) fun r => (bif (chk [(LT.int IntKind.i64), (LT.int IntKind.i64), (LT.int IntKind.i64)] r) then (Option.bind (F_terrain_Valid_1 (cI r 0) (cI r 1) (cI r 2)) fun t => (bif t then (k .ret ⟨[.dead, .dead, .dead, .dead, (i64 x8), .dead, .dead, .dead, .dead, .dead, .dead, .dead, .dead, .dead, .dead, .dead, .dead, .dead, .dead], []⟩) else (loopN B56_0 m ⟨[(AVal.ro 3 s1), (AVal.clo 41 []), .dead, .dead, .dead, .dead, .dead, (i64 x7), (i64 (wr (x8 + (1 : Int)))), .dead, .dead, .dead, .dead, .dead, .dead, .dead, .dead, .dead, .dead], []⟩ (K56_0 k)))) else none)) else none) else (k (.exit 0) ⟨[.dead, .dead, .dead, .dead, .dead, .dead, .dead, .dead, .dead, .dead, .dead, .dead, .dead, .dead, .dead, .dead, .dead, .dead, .dead], []⟩))) (by kernel_rfl)
      (n_condH rfl (fun h0 => (n_condH rfl (fun h1 => (n_bind fun r => (n_condH rfl (fun h2 => (n_bind fun t => (n_condH rfl (fun h3 => rfl) fun h3 => (spec56_0 k m s1 x7 (wr (x8 + (1 : Int))))))) fun h2 => n_none))) fun h1 => n_none)) fun h0 => rfl)
theorem okL56_0 : LoopOk TT TU GL0 C41 ownF L56 (lp Tryd.f56 0) :=
  loopOk_of ks56_0 hs56_0 W56_0 FU (fun s k => (G_slices_IndexFunc_Cell_0 (roRows (cIa s.tmps 0)) (toI (cIa s.tmps 7)) FU (toI (cIa s.tmps 8))).bind (X56_0 k)) (fun s k => by kernel_rfl) (fun s k => spec56_0 k FU (roRows (cIa s.tmps 0)) (toI (cIa s.tmps 7)) (toI (cIa s.tmps 8)))
theorem run56 (s1 : List (List AVal)) : fcall TT TU GL0 C41 ownF true L56 Tryd.f56 [(.ro 3 s1), (.clo 41 [])] = (F_slices_IndexFunc_Cell s1).bind fun t => some (enc56 t) :=
  Eq.trans (b := (Option.bind (G_slices_IndexFunc_Cell_0 s1 (Int.ofNat s1.length) FU (0 : Int)) fun t => (bif t.1 then (some (CR.mk true (i64 t.2) [] [])) else (some (CR.mk true (i64 (-(1 : Int))) [] []))))) (by kernel_rfl)
    (n_bind fun t => (n_condH rfl (fun h0 => rfl) fun h0 => rfl))
theorem lib56 : Lib Tryd.prog GL0 C56 :=
  Lib.fn lib41 mixed TT_ok Tryd.func56 (by decide +kernel) (by kernel_rfl) true L56 (loops_of 1 (by kernel_rfl) (belowS below0 okL56_0)) ks56 (F := fun us => F_slices_IndexFunc_Cell (roRows (cIa us 0))) (fun us => rfl) (fun us => run56 (roRows (cIa us 0))) (fun t => rfl)

/-! ### 40: slices.ContainsFunc[[]skirmish/api.Cell,skirmish/api.Cell] -/



/-- 'slices.ContainsFunc[[]skirmish/api.Cell,skirmish/api.Cell]' -/
noncomputable def F_slices_ContainsFunc_Cell (s1 : List (List AVal)) : Option (Bool) :=
  Option.bind (F_slices_IndexFunc_Cell s1) fun t =>
  some (decide (t ≥ (0 : Int)))
noncomputable def enc40 (t : Bool) : CR := ⟨true, (.sc (.bool t)), [], []⟩
noncomputable def ks40 : List SK := [.f (.ro 3), .f (.clo 41 [])]
noncomputable def S40 (us : List AVal) : Call := bif chkA ks40 us then Call.of (F_slices_ContainsFunc_Cell (roRows (cIa us 0))) enc40 else Call.none
noncomputable def C40 := AI.ext 40 S40 C56

theorem run40 (s1 : List (List AVal)) : fcall TT TU GL0 C56 ownF true noL Tryd.f40 [(.ro 3 s1), (.clo 41 [])] = (F_slices_ContainsFunc_Cell s1).bind fun t => some (enc40 t) :=
  Eq.trans (b := (Option.bind (F_slices_IndexFunc_Cell s1) fun t => (some (CR.mk true (bo (decide (t ≥ (0 : Int)))) [] [])))) (by kernel_rfl)
    (n_bind fun t => rfl)
theorem lib40 : Lib Tryd.prog GL0 C40 :=
  Lib.fn lib56 mixed TT_ok Tryd.func40 (by decide +kernel) (by kernel_rfl) true noL (loops_of 0 (by kernel_rfl) below0) ks40 (F := fun us => F_slices_ContainsFunc_Cell (roRows (cIa us 0))) (fun us => rfl) (fun us => run40 (roRows (cIa us 0))) (fun t => rfl)

/-! ### 16: skirmish/terrain.Valid -/



/-- 'skirmish/terrain.Valid' -/
noncomputable def F_terrain_Valid (m_W : Int) (m_H : Int) (m_Cells : List (List AVal)) : Option (Bool) :=
  Option.bind (F_terrain_formed m_W m_H m_Cells) fun t =>
  bif t then
    Option.bind (F_slices_ContainsFunc_Cell m_Cells) fun t1 =>
    some (!t1)
  else
  some false
noncomputable def enc16 (t : Bool) : CR := ⟨true, (.sc (.bool t)), [], []⟩
noncomputable def ks16 : List SK := [.agg [.int .i64, .int .i64, .ro 3]]
noncomputable def S16 (us : List AVal) : Call := bif chkA ks16 us then Call.of (F_terrain_Valid (toI (cIa (aggL (cIa us 0)) 0)) (toI (cIa (aggL (cIa us 0)) 1)) (roRows (cIa (aggL (cIa us 0)) 2))) enc16 else Call.none
noncomputable def C16 := AI.ext 16 S16 C40

theorem run16 (m_W : Int) (m_H : Int) (m_Cells : List (List AVal)) : fcall TT TU GL0 C40 ownF true noL Tryd.f16 [(.agg [(.sc (.int .i64 m_W)), (.sc (.int .i64 m_H)), (.ro 3 m_Cells)])] = (F_terrain_Valid m_W m_H m_Cells).bind fun t => some (enc16 t) :=
  Eq.trans (b := (Option.bind (F_terrain_formed m_W m_H m_Cells) fun t => (bif t then (Option.bind (F_slices_ContainsFunc_Cell m_Cells) fun t1 => (some (CR.mk true (bo (!t1)) [] []))) else (some (CR.mk true (bo false) [] []))))) (by kernel_rfl)
    (n_bind fun t => (n_condH rfl (fun h0 => (n_bind fun t1 => rfl)) fun h0 => rfl))
theorem lib16 : Lib Tryd.prog GL0 C16 :=
  Lib.fn lib40 mixed TT_ok Tryd.func16 (by decide +kernel) (by kernel_rfl) true noL (loops_of 0 (by kernel_rfl) below0) ks16 (F := fun us => F_terrain_Valid (toI (cIa (aggL (cIa us 0)) 0)) (toI (cIa (aggL (cIa us 0)) 1)) (roRows (cIa (aggL (cIa us 0)) 2))) (fun us => rfl) (fun us => run16 (toI (cIa (aggL (cIa us 0)) 0)) (toI (cIa (aggL (cIa us 0)) 1)) (roRows (cIa (aggL (cIa us 0)) 2))) (fun t => rfl)

/-! ### 54: slices.Clone[[]skirmish/api.Cell,skirmish/api.Cell] -/



/-- 'slices.Clone[[]skirmish/api.Cell,skirmish/api.Cell]' -/
noncomputable def F_slices_Clone_Cell_ne (s1 : List (List AVal)) : Option (List (List AVal)) :=
  bif (List.isEmpty s1) then
    none
  else
  bif (roomOk (0 + s1.length) 24) then
    some s1
  else
  none
noncomputable def F_slices_Clone_Cell (s1 : List (List AVal)) : Option (List (List AVal)) := bif s1.isEmpty then some [] else F_slices_Clone_Cell_ne s1
noncomputable def enc54 (t : List (List AVal)) : CR := ⟨true, (.slc 0 (t).length), [], [⟨.arr, 28, 3, t⟩]⟩
noncomputable def S54 (us : List AVal) : Call := bif chkA [.f (.ro 3)] us then Call.of (F_slices_Clone_Cell (roRows (cIa us 0))) enc54 else Call.none
noncomputable def C54 := AI.ext 54 S54 C16

theorem run54 (s1 : List (List AVal)) : fcall TT TU GL0 C16 ownF true noL Tryd.f54 [(.ro 3 s1)] = (F_slices_Clone_Cell_ne s1).bind fun t => some (enc54 t) :=
  Eq.trans (b := (bif (List.isEmpty s1) then none else (bif (roomOk (0 + s1.length) 24) then (bif (verEq s1.length s1.length) then (some (CR.mk true (AVal.slc 0 s1.length) [] [(Blk.mk BKind.arr 28 3 s1)])) else none) else none))) (by kernel_rfl)
    (n_condH rfl (fun h0 => n_none) fun h0 => (n_condH rfl (fun h1 => (n_true (verEq_rfl _) rfl)) fun h1 => n_none))
theorem lib54 : Lib Tryd.prog GL0 C54 :=
  Lib.clone lib16 mixed TT_ok Tryd.func54 (by decide +kernel) (by kernel_rfl) true noL (loops_of 0 (by kernel_rfl) below0)  3 (fun us => rfl) run54 (fun a cap => by cases a <;> kernel_rfl) (fun t => rfl)

/-! ### 36: skirmish/terrain.with -/



/-- 'skirmish/terrain.with' -/
noncomputable def F_terrain_with (m_W : Int) (m_H : Int) (m_Cells : List (List AVal)) (p_X : Int) (p_Y : Int) (c_Kind : Int) (c_Height : Int) (c_Amount : Int) : Option (List (List AVal) × Int × Int) :=
  Option.bind (F_slices_Clone_Cell m_Cells) fun t =>
  Option.bind (F_grid_Index m_W p_X p_Y) fun t1 =>
  bif ((decide ((0 : Int) ≤ t1)) && (decide (t1 < (Int.ofNat t.length)))) then
    some ((List.set t t1.toNat [(i64 c_Kind), (i64 c_Height), (i64 c_Amount)]), m_W, m_H)
  else
  none
noncomputable def enc36 (t : List (List AVal) × Int × Int) : CR := ⟨true, (.agg [(.sc (.int .i64 t.2.1)), (.sc (.int .i64 t.2.2)), (.slc 0 (t.1).length)]), [], [⟨.arr, 28, 3, t.1⟩]⟩
noncomputable def ks36 : List SK := [.agg [.int .i64, .int .i64, .ro 3], .agg [.int .i64, .int .i64], .agg [.int .i64, .int .i64, .int .i64]]
noncomputable def S36 (us : List AVal) : Call := bif chkA ks36 us then Call.of (F_terrain_with (toI (cIa (aggL (cIa us 0)) 0)) (toI (cIa (aggL (cIa us 0)) 1)) (roRows (cIa (aggL (cIa us 0)) 2)) (toI (cIa (aggL (cIa us 1)) 0)) (toI (cIa (aggL (cIa us 1)) 1)) (toI (cIa (aggL (cIa us 2)) 0)) (toI (cIa (aggL (cIa us 2)) 1)) (toI (cIa (aggL (cIa us 2)) 2))) enc36 else Call.none
noncomputable def C36 := AI.ext 36 S36 C54

theorem run36 (m_W : Int) (m_H : Int) (m_Cells : List (List AVal)) (p_X : Int) (p_Y : Int) (c_Kind : Int) (c_Height : Int) (c_Amount : Int) : fcall TT TU GL0 C54 ownF true noL Tryd.f36 [(.agg [(.sc (.int .i64 m_W)), (.sc (.int .i64 m_H)), (.ro 3 m_Cells)]), (.agg [(.sc (.int .i64 p_X)), (.sc (.int .i64 p_Y))]), (.agg [(.sc (.int .i64 c_Kind)), (.sc (.int .i64 c_Height)), (.sc (.int .i64 c_Amount))])] = (F_terrain_with m_W m_H m_Cells p_X p_Y c_Kind c_Height c_Amount).bind fun t => some (enc36 t) :=
  Eq.trans (b := (Option.bind (F_slices_Clone_Cell m_Cells) fun t => (bif ((((true && (verEq t.length t.length)) && true) && true) && true) then (Option.bind (F_grid_Index m_W p_X p_Y) fun t1 => (bif (((verEq t.length t.length) && (decide ((0 : Int) ≤ t1))) && (decide (t1 < (Int.ofNat t.length)))) then (bif ((((verEq t.length t.length) && true) && true) && true) then (bif (verEq (Blk.rows (Blk.mk BKind.arr 28 3 (List.set t t1.toNat [(i64 c_Kind), (i64 c_Height), (i64 c_Amount)]))).length t.length) then (some (CR.mk true (AVal.agg [(i64 m_W), (i64 m_H), (AVal.slc 0 (Blk.rows (Blk.mk BKind.arr 28 3 (List.set t t1.toNat [(i64 c_Kind), (i64 c_Height), (i64 c_Amount)]))).length)]) [] [(Blk.mk BKind.arr 28 3 (List.set t t1.toNat [(i64 c_Kind), (i64 c_Height), (i64 c_Amount)]))])) else none) else none) else none)) else none))) (by kernel_rfl)
    (n_bind fun t => (n_true (n_andL (n_andL (n_andL (n_andL rfl (verEq_rfl _)) rfl) rfl) rfl) (n_bind fun t1 => (n_condH (n_and (n_andL (verEq_rfl _) rfl) rfl) (fun h0 => (n_true (n_andL (n_andL (n_andL (verEq_rfl _) rfl) rfl) rfl) (n_true (by first | exact verEq_of rfl | simp [verEq]) rfl))) fun h0 => n_none))))
theorem lib36 : Lib Tryd.prog GL0 C36 :=
  Lib.fn lib54 mixed TT_ok Tryd.func36 (by decide +kernel) (by kernel_rfl) true noL (loops_of 0 (by kernel_rfl) below0) ks36 (F := fun us => F_terrain_with (toI (cIa (aggL (cIa us 0)) 0)) (toI (cIa (aggL (cIa us 0)) 1)) (roRows (cIa (aggL (cIa us 0)) 2)) (toI (cIa (aggL (cIa us 1)) 0)) (toI (cIa (aggL (cIa us 1)) 1)) (toI (cIa (aggL (cIa us 2)) 0)) (toI (cIa (aggL (cIa us 2)) 1)) (toI (cIa (aggL (cIa us 2)) 2))) (fun us => rfl) (fun us => run36 (toI (cIa (aggL (cIa us 0)) 0)) (toI (cIa (aggL (cIa us 0)) 1)) (roRows (cIa (aggL (cIa us 0)) 2)) (toI (cIa (aggL (cIa us 1)) 0)) (toI (cIa (aggL (cIa us 1)) 1)) (toI (cIa (aggL (cIa us 2)) 0)) (toI (cIa (aggL (cIa us 2)) 1)) (toI (cIa (aggL (cIa us 2)) 2))) (fun t => rfl)

/-! ### 14: skirmish/terrain.Set -/



/-- 'skirmish/terrain.Set' -/
noncomputable def F_terrain_Set (m_W : Int) (m_H : Int) (m_Cells : List (List AVal)) (p_X : Int) (p_Y : Int) (c_Kind : Int) (c_Height : Int) (c_Amount : Int) : Option (List (List AVal) × Int × Int × Int) :=
  Option.bind (F_terrain_Valid m_W m_H m_Cells) fun t =>
  bif (!t) then
    some ([], (0 : Int), (0 : Int), (1 : Int))
  else
  Option.bind (F_terrain_validCell c_Kind c_Height c_Amount) fun t1 =>
  bif (!t1) then
    some ([], (0 : Int), (0 : Int), (1 : Int))
  else
  Option.bind (F_terrain_inside m_W m_H m_Cells p_X p_Y) fun t2 =>
  bif (!t2) then
    some ([], (0 : Int), (0 : Int), (8 : Int))
  else
  Option.bind (F_terrain_with m_W m_H m_Cells p_X p_Y c_Kind c_Height c_Amount) fun t3 =>
  some (t3.1, t3.2.1, t3.2.2, (0 : Int))
noncomputable def enc14 (t : List (List AVal) × Int × Int × Int) : CR := ⟨true, (.tup [(.agg [(.sc (.int .i64 t.2.1)), (.sc (.int .i64 t.2.2.1)), (.slc 0 (t.1).length)]), (.sc (.int .i64 t.2.2.2))]), [], [⟨.arr, 28, 3, t.1⟩]⟩
noncomputable def ks14 : List SK := [.agg [.int .i64, .int .i64, .ro 3], .agg [.int .i64, .int .i64], .agg [.int .i64, .int .i64, .int .i64]]
noncomputable def S14 (us : List AVal) : Call := bif chkA ks14 us then Call.of (F_terrain_Set (toI (cIa (aggL (cIa us 0)) 0)) (toI (cIa (aggL (cIa us 0)) 1)) (roRows (cIa (aggL (cIa us 0)) 2)) (toI (cIa (aggL (cIa us 1)) 0)) (toI (cIa (aggL (cIa us 1)) 1)) (toI (cIa (aggL (cIa us 2)) 0)) (toI (cIa (aggL (cIa us 2)) 1)) (toI (cIa (aggL (cIa us 2)) 2))) enc14 else Call.none
noncomputable def C14 := AI.ext 14 S14 C36

theorem run14 (m_W : Int) (m_H : Int) (m_Cells : List (List AVal)) (p_X : Int) (p_Y : Int) (c_Kind : Int) (c_Height : Int) (c_Amount : Int) : fcall TT TU GL0 C36 ownF true noL Tryd.f14 [(.agg [(.sc (.int .i64 m_W)), (.sc (.int .i64 m_H)), (.ro 3 m_Cells)]), (.agg [(.sc (.int .i64 p_X)), (.sc (.int .i64 p_Y))]), (.agg [(.sc (.int .i64 c_Kind)), (.sc (.int .i64 c_Height)), (.sc (.int .i64 c_Amount))])] = (F_terrain_Set m_W m_H m_Cells p_X p_Y c_Kind c_Height c_Amount).bind fun t => some (enc14 t) :=
  Eq.trans (b := (Option.bind (F_terrain_Valid m_W m_H m_Cells) fun t => (bif (!t) then (some (CR.mk true (AVal.tup [(AVal.agg [(i64 (0 : Int)), (i64 (0 : Int)), (AVal.slc 0 0)]), (i64 (1 : Int))]) [] [(Blk.mk BKind.arr 28 3 [])])) else (Option.bind (F_terrain_validCell c_Kind c_Height c_Amount) fun t1 => (bif (!t1) then (some (CR.mk true (AVal.tup [(AVal.agg [(i64 (0 : Int)), (i64 (0 : Int)), (AVal.slc 0 0)]), (i64 (1 : Int))]) [] [(Blk.mk BKind.arr 28 3 [])])) else (Option.bind (F_terrain_inside m_W m_H m_Cells p_X p_Y) fun t2 => (bif (!t2) then (some (CR.mk true (AVal.tup [(AVal.agg [(i64 (0 : Int)), (i64 (0 : Int)), (AVal.slc 0 0)]), (i64 (8 : Int))]) [] [(Blk.mk BKind.arr 28 3 [])])) else (Option.bind (F_terrain_with m_W m_H m_Cells p_X p_Y c_Kind c_Height c_Amount) fun t3 => (bif ((((true && (verEq t3.1.length t3.1.length)) && true) && true) && true) then (bif (verEq t3.1.length t3.1.length) then (some (CR.mk true (AVal.tup [(AVal.agg [(i64 t3.2.1), (i64 t3.2.2), (AVal.slc 0 t3.1.length)]), (i64 (0 : Int))]) [] [(Blk.mk BKind.arr 28 3 t3.1)])) else none) else none))))))))) (by kernel_rfl)
    (n_bind fun t => (n_condH rfl (fun h0 => rfl) fun h0 => (n_bind fun t1 => (n_condH rfl (fun h1 => rfl) fun h1 => (n_bind fun t2 => (n_condH rfl (fun h2 => rfl) fun h2 => (n_bind fun t3 => (n_true (n_andL (n_andL (n_andL (n_andL rfl (verEq_rfl _)) rfl) rfl) rfl) (n_true (verEq_rfl _) rfl)))))))))
theorem lib14 : Lib Tryd.prog GL0 C14 :=
  Lib.fn lib36 mixed TT_ok Tryd.func14 (by decide +kernel) (by kernel_rfl) true noL (loops_of 0 (by kernel_rfl) below0) ks14 (F := fun us => F_terrain_Set (toI (cIa (aggL (cIa us 0)) 0)) (toI (cIa (aggL (cIa us 0)) 1)) (roRows (cIa (aggL (cIa us 0)) 2)) (toI (cIa (aggL (cIa us 1)) 0)) (toI (cIa (aggL (cIa us 1)) 1)) (toI (cIa (aggL (cIa us 2)) 0)) (toI (cIa (aggL (cIa us 2)) 1)) (toI (cIa (aggL (cIa us 2)) 2))) (fun us => rfl) (fun us => run14 (toI (cIa (aggL (cIa us 0)) 0)) (toI (cIa (aggL (cIa us 0)) 1)) (roRows (cIa (aggL (cIa us 0)) 2)) (toI (cIa (aggL (cIa us 1)) 0)) (toI (cIa (aggL (cIa us 1)) 1)) (toI (cIa (aggL (cIa us 2)) 0)) (toI (cIa (aggL (cIa us 2)) 1)) (toI (cIa (aggL (cIa us 2)) 2))) (fun t => rfl)

/-! ### 27: skirmish/terrain.Take -/



/-- 'skirmish/terrain.Take' -/
noncomputable def F_terrain_Take (m_W : Int) (m_H : Int) (m_Cells : List (List AVal)) (p_X : Int) (p_Y : Int) (n : Int) : Option (List (List AVal) × Int × Int × Int × Int) :=
  Option.bind (F_terrain_Valid m_W m_H m_Cells) fun t =>
  bif (!t) then
    some ([], (0 : Int), (0 : Int), (0 : Int), (1 : Int))
  else
  bif (decide (n < (1 : Int))) then
    some ([], (0 : Int), (0 : Int), (0 : Int), (1 : Int))
  else
  Option.bind (F_terrain_Get m_W m_H m_Cells p_X p_Y) fun t1 =>
  bif (!t1.2.2.2) then
    some ([], (0 : Int), (0 : Int), (0 : Int), (8 : Int))
  else
  bif (t1.2.2.1 == (0 : Int)) then
    some ([], (0 : Int), (0 : Int), (0 : Int), (8 : Int))
  else
  bif ((wr (t1.2.2.1 - (minI n t1.2.2.1))) == (0 : Int)) then
    Option.bind (F_terrain_with m_W m_H m_Cells p_X p_Y (1 : Int) t1.2.1 (wr (t1.2.2.1 - (minI n t1.2.2.1)))) fun t2 =>
    some (t2.1, t2.2.1, t2.2.2, (minI n t1.2.2.1), (0 : Int))
  else
  Option.bind (F_terrain_with m_W m_H m_Cells p_X p_Y t1.1 t1.2.1 (wr (t1.2.2.1 - (minI n t1.2.2.1)))) fun t3 =>
  some (t3.1, t3.2.1, t3.2.2, (minI n t1.2.2.1), (0 : Int))
noncomputable def enc27 (t : List (List AVal) × Int × Int × Int × Int) : CR := ⟨true, (.tup [(.agg [(.sc (.int .i64 t.2.1)), (.sc (.int .i64 t.2.2.1)), (.slc 0 (t.1).length)]), (.sc (.int .i64 t.2.2.2.1)), (.sc (.int .i64 t.2.2.2.2))]), [], [⟨.arr, 28, 3, t.1⟩]⟩
noncomputable def ks27 : List SK := [.agg [.int .i64, .int .i64, .ro 3], .agg [.int .i64, .int .i64], .f (.int .i64)]
noncomputable def S27 (us : List AVal) : Call := bif chkA ks27 us then Call.of (F_terrain_Take (toI (cIa (aggL (cIa us 0)) 0)) (toI (cIa (aggL (cIa us 0)) 1)) (roRows (cIa (aggL (cIa us 0)) 2)) (toI (cIa (aggL (cIa us 1)) 0)) (toI (cIa (aggL (cIa us 1)) 1)) (toI (cIa us 2))) enc27 else Call.none
noncomputable def C27 := AI.ext 27 S27 C14

theorem run27 (m_W : Int) (m_H : Int) (m_Cells : List (List AVal)) (p_X : Int) (p_Y : Int) (n : Int) : fcall TT TU GL0 C14 ownF true noL Tryd.f27 [(.agg [(.sc (.int .i64 m_W)), (.sc (.int .i64 m_H)), (.ro 3 m_Cells)]), (.agg [(.sc (.int .i64 p_X)), (.sc (.int .i64 p_Y))]), (.sc (.int .i64 n))] = (F_terrain_Take m_W m_H m_Cells p_X p_Y n).bind fun t => some (enc27 t) :=
  Eq.trans (b := (Option.bind (F_terrain_Valid m_W m_H m_Cells) fun t => (bif (!t) then (some (CR.mk true (AVal.tup [(AVal.agg [(i64 (0 : Int)), (i64 (0 : Int)), (AVal.slc 0 0)]), (i64 (0 : Int)), (i64 (1 : Int))]) [] [(Blk.mk BKind.arr 28 3 [])])) else (bif (decide (n < (1 : Int))) then (some (CR.mk true (AVal.tup [(AVal.agg [(i64 (0 : Int)), (i64 (0 : Int)), (AVal.slc 0 0)]), (i64 (0 : Int)), (i64 (1 : Int))]) [] [(Blk.mk BKind.arr 28 3 [])])) else (Option.bind (F_terrain_Get m_W m_H m_Cells p_X p_Y) fun t1 => (bif (!t1.2.2.2) then (some (CR.mk true (AVal.tup [(AVal.agg [(i64 (0 : Int)), (i64 (0 : Int)), (AVal.slc 0 0)]), (i64 (0 : Int)), (i64 (8 : Int))]) [] [(Blk.mk BKind.arr 28 3 [])])) else (bif (t1.2.2.1 == (0 : Int)) then (some (CR.mk true (AVal.tup [(AVal.agg [(i64 (0 : Int)), (i64 (0 : Int)), (AVal.slc 0 0)]), (i64 (0 : Int)), (i64 (8 : Int))]) [] [(Blk.mk BKind.arr 28 3 [])])) else (bif ((wr (t1.2.2.1 - (minI n t1.2.2.1))) == (0 : Int)) then (Option.bind (F_terrain_with m_W m_H m_Cells p_X p_Y (1 : Int) t1.2.1 (wr (t1.2.2.1 - (minI n t1.2.2.1)))) fun t2 => (bif ((((true && (verEq t2.1.length t2.1.length)) && true) && true) && true) then (bif (verEq t2.1.length t2.1.length) then (some (CR.mk true (AVal.tup [(AVal.agg [(i64 t2.2.1), (i64 t2.2.2), (AVal.slc 0 t2.1.length)]), (i64 (minI n t1.2.2.1)), (i64 (0 : Int))]) [] [(Blk.mk BKind.arr 28 3 t2.1)])) else none) else none)) else (Option.bind (F_terrain_with m_W m_H m_Cells p_X p_Y t1.1 t1.2.1 (wr (t1.2.2.1 - (minI n t1.2.2.1)))) fun t3 => (bif ((((true && (verEq t3.1.length t3.1.length)) && true) && true) && true) then (bif (verEq t3.1.length t3.1.length) then (some (CR.mk true (AVal.tup [(AVal.agg [(i64 t3.2.1), (i64 t3.2.2), (AVal.slc 0 t3.1.length)]), (i64 (minI n t1.2.2.1)), (i64 (0 : Int))]) [] [(Blk.mk BKind.arr 28 3 t3.1)])) else none) else none)))))))))) (by kernel_rfl)
    (n_bind fun t => (n_condH rfl (fun h0 => rfl) fun h0 => (n_condH rfl (fun h1 => rfl) fun h1 => (n_bind fun t1 => (n_condH rfl (fun h2 => rfl) fun h2 => (n_condH rfl (fun h3 => rfl) fun h3 => (n_condH rfl (fun h4 => (n_bind fun t2 => (n_true (n_andL (n_andL (n_andL (n_andL rfl (verEq_rfl _)) rfl) rfl) rfl) (n_true (verEq_rfl _) rfl)))) fun h4 => (n_bind fun t3 => (n_true (n_andL (n_andL (n_andL (n_andL rfl (verEq_rfl _)) rfl) rfl) rfl) (n_true (verEq_rfl _) rfl))))))))))
theorem lib27 : Lib Tryd.prog GL0 C27 :=
  Lib.fn lib14 mixed TT_ok Tryd.func27 (by decide +kernel) (by kernel_rfl) true noL (loops_of 0 (by kernel_rfl) below0) ks27 (F := fun us => F_terrain_Take (toI (cIa (aggL (cIa us 0)) 0)) (toI (cIa (aggL (cIa us 0)) 1)) (roRows (cIa (aggL (cIa us 0)) 2)) (toI (cIa (aggL (cIa us 1)) 0)) (toI (cIa (aggL (cIa us 1)) 1)) (toI (cIa us 2))) (fun us => rfl) (fun us => run27 (toI (cIa (aggL (cIa us 0)) 0)) (toI (cIa (aggL (cIa us 0)) 1)) (roRows (cIa (aggL (cIa us 0)) 2)) (toI (cIa (aggL (cIa us 1)) 0)) (toI (cIa (aggL (cIa us 1)) 1)) (toI (cIa us 2))) (fun t => rfl)

/-! ### 21: skirmish/terrain.Opaque -/



/-- 'skirmish/terrain.Opaque' -/
noncomputable def F_terrain_Opaque (m_W : Int) (m_H : Int) (m_Cells : List (List AVal)) (p_X : Int) (p_Y : Int) : Option (Bool) :=
  Option.bind (F_terrain_Get m_W m_H m_Cells p_X p_Y) fun t =>
  bif (!t.2.2.2) then
    some true
  else
  bif (t.1 == (3 : Int)) then
    some true
  else
  some (t.1 == (4 : Int))
noncomputable def enc21 (t : Bool) : CR := ⟨true, (.sc (.bool t)), [], []⟩
noncomputable def ks21 : List SK := [.agg [.int .i64, .int .i64, .ro 3], .agg [.int .i64, .int .i64]]
noncomputable def S21 (us : List AVal) : Call := bif chkA ks21 us then Call.of (F_terrain_Opaque (toI (cIa (aggL (cIa us 0)) 0)) (toI (cIa (aggL (cIa us 0)) 1)) (roRows (cIa (aggL (cIa us 0)) 2)) (toI (cIa (aggL (cIa us 1)) 0)) (toI (cIa (aggL (cIa us 1)) 1))) enc21 else Call.none
noncomputable def C21 := AI.ext 21 S21 C27

theorem run21 (m_W : Int) (m_H : Int) (m_Cells : List (List AVal)) (p_X : Int) (p_Y : Int) : fcall TT TU GL0 C27 ownF true noL Tryd.f21 [(.agg [(.sc (.int .i64 m_W)), (.sc (.int .i64 m_H)), (.ro 3 m_Cells)]), (.agg [(.sc (.int .i64 p_X)), (.sc (.int .i64 p_Y))])] = (F_terrain_Opaque m_W m_H m_Cells p_X p_Y).bind fun t => some (enc21 t) :=
  Eq.trans (b := (Option.bind (F_terrain_Get m_W m_H m_Cells p_X p_Y) fun t => (bif (!t.2.2.2) then (some (CR.mk true (bo true) [] [])) else (bif (t.1 == (3 : Int)) then (some (CR.mk true (bo true) [] [])) else (some (CR.mk true (bo (t.1 == (4 : Int))) [] [])))))) (by kernel_rfl)
    (n_bind fun t => (n_condH rfl (fun h0 => rfl) fun h0 => (n_condH rfl (fun h1 => rfl) fun h1 => rfl)))
theorem lib21 : Lib Tryd.prog GL0 C21 :=
  Lib.fn lib27 mixed TT_ok Tryd.func21 (by decide +kernel) (by kernel_rfl) true noL (loops_of 0 (by kernel_rfl) below0) ks21 (F := fun us => F_terrain_Opaque (toI (cIa (aggL (cIa us 0)) 0)) (toI (cIa (aggL (cIa us 0)) 1)) (roRows (cIa (aggL (cIa us 0)) 2)) (toI (cIa (aggL (cIa us 1)) 0)) (toI (cIa (aggL (cIa us 1)) 1))) (fun us => rfl) (fun us => run21 (toI (cIa (aggL (cIa us 0)) 0)) (toI (cIa (aggL (cIa us 0)) 1)) (roRows (cIa (aggL (cIa us 0)) 2)) (toI (cIa (aggL (cIa us 1)) 0)) (toI (cIa (aggL (cIa us 1)) 1))) (fun t => rfl)

/-! ### 11: skirmish/skirmishlaw07.awake -/



/-- 'skirmish/skirmishlaw07.awake' -/
noncomputable def F_skirmishlaw07_awake : Option (Bool) :=
  Option.bind F_skirmishlaw07_flat fun t =>
  Option.bind (F_terrain_Step t.2.1 t.2.2 t.1 [] (1 : Int) (0 : Int) (0 : Int) (1 : Int)) fun t1 =>
  Option.bind (F_terrain_Step t.2.1 t.2.2 t.1 [[(bo false)], [(bo true)]] (1 : Int) (0 : Int) (0 : Int) (1 : Int)) fun t2 =>
  Option.bind (F_terrain_Step t.2.1 t.2.2 t.1 [[(bo false)], [(bo true)]] (3 : Int) (0 : Int) (0 : Int) (1 : Int)) fun t3 =>
  Option.bind (F_terrain_Set t.2.1 t.2.2 t.1 (1 : Int) (1 : Int) (1 : Int) (1 : Int) (0 : Int)) fun t4 =>
  Option.bind (F_terrain_Step t4.2.1 t4.2.2.1 t4.1 [] (1 : Int) (0 : Int) (0 : Int) (1 : Int)) fun t5 =>
  Option.bind (F_terrain_Step t4.2.1 t4.2.2.1 t4.1 [] (1 : Int) (1 : Int) (0 : Int) (2 : Int)) fun t6 =>
  Option.bind (F_terrain_Take t.2.1 t.2.2 t.1 (0 : Int) (1 : Int) (5 : Int)) fun t7 =>
  Option.bind (F_terrain_Get t7.2.1 t7.2.2.1 t7.1 (0 : Int) (1 : Int)) fun t8 =>
  bif (t1.1 == (14 : Int)) then
    bif t1.2 then
      bif (!t2.2) then
        bif (t3.1 == (14 : Int)) then
          bif t3.2 then
            bif (t4.2.2.2 == (0 : Int)) then
              bif (t5.1 == (19 : Int)) then
                bif t5.2 then
                  bif (t6.1 == (15 : Int)) then
                    bif t6.2 then
                      bif (t7.2.2.2.1 == (3 : Int)) then
                        bif (t7.2.2.2.2 == (0 : Int)) then
                          bif ((t8.1 == (1 : Int)) && ((t8.2.1 == (0 : Int)) && (t8.2.2.1 == (0 : Int)))) then
                            bif t8.2.2.2 then
                              Option.bind (F_terrain_Valid t.2.1 t.2.2 t.1) fun t9 =>
                              bif t9 then
                                Option.bind (F_terrain_Opaque t.2.1 t.2.2 t.1 (2 : Int) (0 : Int)) fun t10 =>
                                bif t10 then
                                  Option.bind (F_terrain_Opaque t.2.1 t.2.2 t.1 (0 : Int) (0 : Int)) fun t11 =>
                                  some (!t11)
                                else
                                some false
                              else
                              some false
                            else
                            some false
                          else
                          some false
                        else
                        some false
                      else
                      some false
                    else
                    some false
                  else
                  some false
                else
                some false
              else
              some false
            else
            some false
          else
          some false
        else
        some false
      else
      some false
    else
    some false
  else
  some false
noncomputable def enc11 (t : Bool) : CR := ⟨true, (.sc (.bool t)), [], []⟩
noncomputable def ks11 : List SK := []
noncomputable def S11 (us : List AVal) : Call := bif chkA ks11 us then Call.of (F_skirmishlaw07_awake) enc11 else Call.none
noncomputable def C11 := AI.ext 11 S11 C21

theorem run11 : fcall TT TU GL0 C21 ownF true noL Tryd.f11 [] = (F_skirmishlaw07_awake).bind fun t => some (enc11 t) :=
  Eq.trans (b := (Option.bind F_skirmishlaw07_flat fun t => (bif ((((true && (verEq t.1.length t.1.length)) && true) && true) && true) then (bif (verEq t.1.length t.1.length) then (Option.bind (F_terrain_Step t.2.1 t.2.2 t.1 [] (1 : Int) (0 : Int) (0 : Int) (1 : Int)) fun t1 => (bif (verEq t.1.length t.1.length) then (Option.bind (F_terrain_Step t.2.1 t.2.2 t.1 [[(bo false)], [(bo true)]] (1 : Int) (0 : Int) (0 : Int) (1 : Int)) fun t2 => (bif (verEq t.1.length t.1.length) then (Option.bind (F_terrain_Step t.2.1 t.2.2 t.1 [[(bo false)], [(bo true)]] (3 : Int) (0 : Int) (0 : Int) (1 : Int)) fun t3 => (bif (verEq t.1.length t.1.length) then (Option.bind (F_terrain_Set t.2.1 t.2.2 t.1 (1 : Int) (1 : Int) (1 : Int) (1 : Int) (0 : Int)) fun t4 => (bif ((((true && (verEq t4.1.length t4.1.length)) && true) && true) && true) then (bif (verEq t4.1.length t4.1.length) then (Option.bind (F_terrain_Step t4.2.1 t4.2.2.1 t4.1 [] (1 : Int) (0 : Int) (0 : Int) (1 : Int)) fun t5 => (bif (verEq t4.1.length t4.1.length) then (Option.bind (F_terrain_Step t4.2.1 t4.2.2.1 t4.1 [] (1 : Int) (1 : Int) (0 : Int) (2 : Int)) fun t6 => (bif (verEq t.1.length t.1.length) then (Option.bind (F_terrain_Take t.2.1 t.2.2 t.1 (0 : Int) (1 : Int) (5 : Int)) fun t7 => (bif ((((true && (verEq t7.1.length t7.1.length)) && true) && true) && true) then (bif (verEq t7.1.length t7.1.length) then (Option.bind (F_terrain_Get t7.2.1 t7.2.2.1 t7.1 (0 : Int) (1 : Int)) fun t8 => (bif (t1.1 == (14 : Int)) then (bif t1.2 then (bif (!t2.2) then (bif (t3.1 == (14 : Int)) then (bif t3.2 then (bif (t4.2.2.2 == (0 : Int)) then (bif (t5.1 == (19 : Int)) then (bif t5.2 then (bif (t6.1 == (15 : Int)) then (bif t6.2 then (bif (t7.2.2.2.1 == (3 : Int)) then (bif (t7.2.2.2.2 == (0 : Int)) then (bif ((t8.1 == (1 : Int)) && ((t8.2.1 == (0 : Int)) && (t8.2.2.1 == (0 : Int)))) then (bif t8.2.2.2 then (bif (verEq t.1.length t.1.length) then (Option.bind (F_terrain_Valid t.2.1 t.2.2 t.1) fun t9 => (bif t9 then (bif (verEq t.1.length t.1.length) then (Option.bind (F_terrain_Opaque t.2.1 t.2.2 t.1 (2 : Int) (0 : Int)) fun t10 => (bif t10 then (bif (verEq t.1.length t.1.length) then (Option.bind (F_terrain_Opaque t.2.1 t.2.2 t.1 (0 : Int) (0 : Int)) fun t11 => (some (CR.mk true (bo (!t11)) [] []))) else none) else (some (CR.mk true (bo false) [] [])))) else none) else (some (CR.mk true (bo false) [] [])))) else none) else (some (CR.mk true (bo false) [] []))) else (some (CR.mk true (bo false) [] []))) else (some (CR.mk true (bo false) [] []))) else (some (CR.mk true (bo false) [] []))) else (some (CR.mk true (bo false) [] []))) else (some (CR.mk true (bo false) [] []))) else (some (CR.mk true (bo false) [] []))) else (some (CR.mk true (bo false) [] []))) else (some (CR.mk true (bo false) [] []))) else (some (CR.mk true (bo false) [] []))) else (some (CR.mk true (bo false) [] []))) else (some (CR.mk true (bo false) [] []))) else (some (CR.mk true (bo false) [] []))) else (some (CR.mk true (bo false) [] [])))) else none) else none)) else none)) else none)) else none) else none)) else none)) else none)) else none)) else none) else none))) (by kernel_rfl)
    (n_bind fun t => (n_true (n_andL (n_andL (n_andL (n_andL rfl (verEq_rfl _)) rfl) rfl) rfl) (n_true (verEq_rfl _) (n_bind fun t1 => (n_true (verEq_rfl _) (n_bind fun t2 => (n_true (verEq_rfl _) (n_bind fun t3 => (n_true (verEq_rfl _) (n_bind fun t4 => (n_true (n_andL (n_andL (n_andL (n_andL rfl (verEq_rfl _)) rfl) rfl) rfl) (n_true (verEq_rfl _) (n_bind fun t5 => (n_true (verEq_rfl _) (n_bind fun t6 => (n_true (verEq_rfl _) (n_bind fun t7 => (n_true (n_andL (n_andL (n_andL (n_andL rfl (verEq_rfl _)) rfl) rfl) rfl) (n_true (verEq_rfl _) (n_bind fun t8 => (n_condH rfl (fun h0 => (n_condH rfl (fun h1 => (n_condH rfl (fun h2 => (n_condH rfl (fun h3 => (n_condH rfl (fun h4 => (n_condH rfl (fun h5 => (n_condH rfl (fun h6 => (n_condH rfl (fun h7 => (n_condH rfl (fun h8 => (n_condH rfl (fun h9 => (n_condH rfl (fun h10 => (n_condH rfl (fun h11 => (n_condH rfl (fun h12 => (n_condH rfl (fun h13 => (n_true (verEq_rfl _) (n_bind fun t9 => (n_condH rfl (fun h14 => (n_true (verEq_rfl _) (n_bind fun t10 => (n_condH rfl (fun h15 => (n_true (verEq_rfl _) (n_bind fun t11 => rfl))) fun h15 => rfl)))) fun h14 => rfl)))) fun h13 => rfl)) fun h12 => rfl)) fun h11 => rfl)) fun h10 => rfl)) fun h9 => rfl)) fun h8 => rfl)) fun h7 => rfl)) fun h6 => rfl)) fun h5 => rfl)) fun h4 => rfl)) fun h3 => rfl)) fun h2 => rfl)) fun h1 => rfl)) fun h0 => rfl)))))))))))))))))))))
theorem lib11 : Lib Tryd.prog GL0 C11 :=
  Lib.fn lib21 mixed TT_ok Tryd.func11 (by decide +kernel) (by kernel_rfl) true noL (loops_of 0 (by kernel_rfl) below0) ks11 (F := fun us => F_skirmishlaw07_awake) (fun us => rfl) (fun us => run11) (fun t => rfl)

/-! ### 57: skirmish/skirmishref06.Valid -/



/-- 'skirmish/skirmishref06.Valid' -/
noncomputable def F_skirmishref06_Valid (w : Int) (h : Int) : Option (Bool) :=
  bif (decide (w ≥ (1 : Int))) then
    bif (decide (w ≤ (32 : Int))) then
      bif (decide (h ≥ (1 : Int))) then
        some (decide (h ≤ (32 : Int)))
      else
      some false
    else
    some false
  else
  some false
noncomputable def enc57 (t : Bool) : CR := ⟨true, (.sc (.bool t)), [], []⟩
noncomputable def ks57 : List SK := [.f (.int .i64), .f (.int .i64)]
noncomputable def S57 (us : List AVal) : Call := bif chkA ks57 us then Call.of (F_skirmishref06_Valid (toI (cIa us 0)) (toI (cIa us 1))) enc57 else Call.none
noncomputable def C57 := AI.ext 57 S57 C11

theorem run57 (w : Int) (h : Int) : fcall TT TU GL0 C11 ownF true noL Tryd.f57 [(.sc (.int .i64 w)), (.sc (.int .i64 h))] = (F_skirmishref06_Valid w h).bind fun t => some (enc57 t) :=
  Eq.trans (b := (bif (decide (w ≥ (1 : Int))) then (bif (decide (w ≤ (32 : Int))) then (bif (decide (h ≥ (1 : Int))) then (some (CR.mk true (bo (decide (h ≤ (32 : Int)))) [] [])) else (some (CR.mk true (bo false) [] []))) else (some (CR.mk true (bo false) [] []))) else (some (CR.mk true (bo false) [] [])))) (by kernel_rfl)
    (n_condH rfl (fun h0 => (n_condH rfl (fun h1 => (n_condH rfl (fun h2 => rfl) fun h2 => rfl)) fun h1 => rfl)) fun h0 => rfl)
theorem lib57 : Lib Tryd.prog GL0 C57 :=
  Lib.fn lib11 mixed TT_ok Tryd.func57 (by decide +kernel) (by kernel_rfl) true noL (loops_of 0 (by kernel_rfl) below0) ks57 (F := fun us => F_skirmishref06_Valid (toI (cIa us 0)) (toI (cIa us 1))) (fun us => rfl) (fun us => run57 (toI (cIa us 0)) (toI (cIa us 1))) (fun t => rfl)

/-! ### 42: skirmish/skirmishref07.Formed -/



/-- 'skirmish/skirmishref07.Formed' -/
noncomputable def F_skirmishref07_Formed (m_W : Int) (m_H : Int) (m_Cells : List (List AVal)) : Option (Bool) :=
  Option.bind (F_skirmishref06_Valid m_W m_H) fun t =>
  bif t then
    some ((Int.ofNat m_Cells.length) == (wr (m_W * m_H)))
  else
  some false
noncomputable def enc42 (t : Bool) : CR := ⟨true, (.sc (.bool t)), [], []⟩
noncomputable def ks42 : List SK := [.agg [.int .i64, .int .i64, .ro 3]]
noncomputable def S42 (us : List AVal) : Call := bif chkA ks42 us then Call.of (F_skirmishref07_Formed (toI (cIa (aggL (cIa us 0)) 0)) (toI (cIa (aggL (cIa us 0)) 1)) (roRows (cIa (aggL (cIa us 0)) 2))) enc42 else Call.none
noncomputable def C42 := AI.ext 42 S42 C57

theorem run42 (m_W : Int) (m_H : Int) (m_Cells : List (List AVal)) : fcall TT TU GL0 C57 ownF true noL Tryd.f42 [(.agg [(.sc (.int .i64 m_W)), (.sc (.int .i64 m_H)), (.ro 3 m_Cells)])] = (F_skirmishref07_Formed m_W m_H m_Cells).bind fun t => some (enc42 t) :=
  Eq.trans (b := (Option.bind (F_skirmishref06_Valid m_W m_H) fun t => (bif t then (some (CR.mk true (bo ((Int.ofNat m_Cells.length) == (wr (m_W * m_H)))) [] [])) else (some (CR.mk true (bo false) [] []))))) (by kernel_rfl)
    (n_bind fun t => (n_condH rfl (fun h0 => rfl) fun h0 => rfl))
theorem lib42 : Lib Tryd.prog GL0 C42 :=
  Lib.fn lib57 mixed TT_ok Tryd.func42 (by decide +kernel) (by kernel_rfl) true noL (loops_of 0 (by kernel_rfl) below0) ks42 (F := fun us => F_skirmishref07_Formed (toI (cIa (aggL (cIa us 0)) 0)) (toI (cIa (aggL (cIa us 0)) 1)) (roRows (cIa (aggL (cIa us 0)) 2))) (fun us => rfl) (fun us => run42 (toI (cIa (aggL (cIa us 0)) 0)) (toI (cIa (aggL (cIa us 0)) 1)) (roRows (cIa (aggL (cIa us 0)) 2))) (fun t => rfl)

/-! ### 52: skirmish/skirmishref06.In -/



/-- 'skirmish/skirmishref06.In' -/
noncomputable def F_skirmishref06_In (w : Int) (h : Int) (p_X : Int) (p_Y : Int) : Option (Bool) :=
  bif (decide (p_X ≥ (0 : Int))) then
    bif (decide (p_X < w)) then
      bif (decide (p_Y ≥ (0 : Int))) then
        some (decide (p_Y < h))
      else
      some false
    else
    some false
  else
  some false
noncomputable def enc52 (t : Bool) : CR := ⟨true, (.sc (.bool t)), [], []⟩
noncomputable def ks52 : List SK := [.f (.int .i64), .f (.int .i64), .agg [.int .i64, .int .i64]]
noncomputable def S52 (us : List AVal) : Call := bif chkA ks52 us then Call.of (F_skirmishref06_In (toI (cIa us 0)) (toI (cIa us 1)) (toI (cIa (aggL (cIa us 2)) 0)) (toI (cIa (aggL (cIa us 2)) 1))) enc52 else Call.none
noncomputable def C52 := AI.ext 52 S52 C42

theorem run52 (w : Int) (h : Int) (p_X : Int) (p_Y : Int) : fcall TT TU GL0 C42 ownF true noL Tryd.f52 [(.sc (.int .i64 w)), (.sc (.int .i64 h)), (.agg [(.sc (.int .i64 p_X)), (.sc (.int .i64 p_Y))])] = (F_skirmishref06_In w h p_X p_Y).bind fun t => some (enc52 t) :=
  Eq.trans (b := (bif (decide (p_X ≥ (0 : Int))) then (bif (decide (p_X < w)) then (bif (decide (p_Y ≥ (0 : Int))) then (some (CR.mk true (bo (decide (p_Y < h))) [] [])) else (some (CR.mk true (bo false) [] []))) else (some (CR.mk true (bo false) [] []))) else (some (CR.mk true (bo false) [] [])))) (by kernel_rfl)
    (n_condH rfl (fun h0 => (n_condH rfl (fun h1 => (n_condH rfl (fun h2 => rfl) fun h2 => rfl)) fun h1 => rfl)) fun h0 => rfl)
theorem lib52 : Lib Tryd.prog GL0 C52 :=
  Lib.fn lib42 mixed TT_ok Tryd.func52 (by decide +kernel) (by kernel_rfl) true noL (loops_of 0 (by kernel_rfl) below0) ks52 (F := fun us => F_skirmishref06_In (toI (cIa us 0)) (toI (cIa us 1)) (toI (cIa (aggL (cIa us 2)) 0)) (toI (cIa (aggL (cIa us 2)) 1))) (fun us => rfl) (fun us => run52 (toI (cIa us 0)) (toI (cIa us 1)) (toI (cIa (aggL (cIa us 2)) 0)) (toI (cIa (aggL (cIa us 2)) 1))) (fun t => rfl)

/-! ### 33: skirmish/skirmishref07.Inside -/



/-- 'skirmish/skirmishref07.Inside' -/
noncomputable def F_skirmishref07_Inside (m_W : Int) (m_H : Int) (m_Cells : List (List AVal)) (p_X : Int) (p_Y : Int) : Option (Bool) :=
  Option.bind (F_skirmishref07_Formed m_W m_H m_Cells) fun t =>
  bif t then
    Option.bind (F_skirmishref06_In m_W m_H p_X p_Y) fun t1 =>
    some t1
  else
  some false
noncomputable def enc33 (t : Bool) : CR := ⟨true, (.sc (.bool t)), [], []⟩
noncomputable def ks33 : List SK := [.agg [.int .i64, .int .i64, .ro 3], .agg [.int .i64, .int .i64]]
noncomputable def S33 (us : List AVal) : Call := bif chkA ks33 us then Call.of (F_skirmishref07_Inside (toI (cIa (aggL (cIa us 0)) 0)) (toI (cIa (aggL (cIa us 0)) 1)) (roRows (cIa (aggL (cIa us 0)) 2)) (toI (cIa (aggL (cIa us 1)) 0)) (toI (cIa (aggL (cIa us 1)) 1))) enc33 else Call.none
noncomputable def C33 := AI.ext 33 S33 C52

theorem run33 (m_W : Int) (m_H : Int) (m_Cells : List (List AVal)) (p_X : Int) (p_Y : Int) : fcall TT TU GL0 C52 ownF true noL Tryd.f33 [(.agg [(.sc (.int .i64 m_W)), (.sc (.int .i64 m_H)), (.ro 3 m_Cells)]), (.agg [(.sc (.int .i64 p_X)), (.sc (.int .i64 p_Y))])] = (F_skirmishref07_Inside m_W m_H m_Cells p_X p_Y).bind fun t => some (enc33 t) :=
  Eq.trans (b := (Option.bind (F_skirmishref07_Formed m_W m_H m_Cells) fun t => (bif t then (Option.bind (F_skirmishref06_In m_W m_H p_X p_Y) fun t1 => (some (CR.mk true (bo t1) [] []))) else (some (CR.mk true (bo false) [] []))))) (by kernel_rfl)
    (n_bind fun t => (n_condH rfl (fun h0 => (n_bind fun t1 => rfl)) fun h0 => rfl))
theorem lib33 : Lib Tryd.prog GL0 C33 :=
  Lib.fn lib52 mixed TT_ok Tryd.func33 (by decide +kernel) (by kernel_rfl) true noL (loops_of 0 (by kernel_rfl) below0) ks33 (F := fun us => F_skirmishref07_Inside (toI (cIa (aggL (cIa us 0)) 0)) (toI (cIa (aggL (cIa us 0)) 1)) (roRows (cIa (aggL (cIa us 0)) 2)) (toI (cIa (aggL (cIa us 1)) 0)) (toI (cIa (aggL (cIa us 1)) 1))) (fun us => rfl) (fun us => run33 (toI (cIa (aggL (cIa us 0)) 0)) (toI (cIa (aggL (cIa us 0)) 1)) (roRows (cIa (aggL (cIa us 0)) 2)) (toI (cIa (aggL (cIa us 1)) 0)) (toI (cIa (aggL (cIa us 1)) 1))) (fun t => rfl)

/-! ### 53: skirmish/skirmishref06.near -/



/-- 'skirmish/skirmishref06.near' -/
noncomputable def F_skirmishref06_near (n : Int) : Option (Int) :=
  some (maxI (-(1048576 : Int)) (minI n (1048576 : Int)))
noncomputable def enc53 (t : Int) : CR := ⟨true, (.sc (.int .i64 t)), [], []⟩
noncomputable def ks53 : List SK := [.f (.int .i64)]
noncomputable def S53 (us : List AVal) : Call := bif chkA ks53 us then Call.of (F_skirmishref06_near (toI (cIa us 0))) enc53 else Call.none
noncomputable def C53 := AI.ext 53 S53 C33

theorem run53 (n : Int) : fcall TT TU GL0 C33 ownF true noL Tryd.f53 [(.sc (.int .i64 n))] = (F_skirmishref06_near n).bind fun t => some (enc53 t) :=
  Eq.trans (b := (some (CR.mk true (i64 (maxI (-(1048576 : Int)) (minI n (1048576 : Int)))) [] []))) (by kernel_rfl)
    rfl
theorem lib53 : Lib Tryd.prog GL0 C53 :=
  Lib.fn lib33 mixed TT_ok Tryd.func53 (by decide +kernel) (by kernel_rfl) true noL (loops_of 0 (by kernel_rfl) below0) ks53 (F := fun us => F_skirmishref06_near (toI (cIa us 0))) (fun us => rfl) (fun us => run53 (toI (cIa us 0))) (fun t => rfl)

/-! ### 47: skirmish/skirmishref06.pos -/



/-- 'skirmish/skirmishref06.pos' -/
noncomputable def F_skirmishref06_pos (p_X : Int) (p_Y : Int) : Option (Int × Int) :=
  Option.bind (F_skirmishref06_near p_X) fun t =>
  Option.bind (F_skirmishref06_near p_Y) fun t1 =>
  some (t, t1)
noncomputable def enc47 (t : Int × Int) : CR := ⟨true, (.agg [(.sc (.int .i64 t.1)), (.sc (.int .i64 t.2))]), [], []⟩
noncomputable def ks47 : List SK := [.agg [.int .i64, .int .i64]]
noncomputable def S47 (us : List AVal) : Call := bif chkA ks47 us then Call.of (F_skirmishref06_pos (toI (cIa (aggL (cIa us 0)) 0)) (toI (cIa (aggL (cIa us 0)) 1))) enc47 else Call.none
noncomputable def C47 := AI.ext 47 S47 C53

theorem run47 (p_X : Int) (p_Y : Int) : fcall TT TU GL0 C53 ownF true noL Tryd.f47 [(.agg [(.sc (.int .i64 p_X)), (.sc (.int .i64 p_Y))])] = (F_skirmishref06_pos p_X p_Y).bind fun t => some (enc47 t) :=
  Eq.trans (b := (Option.bind (F_skirmishref06_near p_X) fun t => (Option.bind (F_skirmishref06_near p_Y) fun t1 => (some (CR.mk true (AVal.agg [(i64 t), (i64 t1)]) [] []))))) (by kernel_rfl)
    (n_bind fun t => (n_bind fun t1 => rfl))
theorem lib47 : Lib Tryd.prog GL0 C47 :=
  Lib.fn lib53 mixed TT_ok Tryd.func47 (by decide +kernel) (by kernel_rfl) true noL (loops_of 0 (by kernel_rfl) below0) ks47 (F := fun us => F_skirmishref06_pos (toI (cIa (aggL (cIa us 0)) 0)) (toI (cIa (aggL (cIa us 0)) 1))) (fun us => rfl) (fun us => run47 (toI (cIa (aggL (cIa us 0)) 0)) (toI (cIa (aggL (cIa us 0)) 1))) (fun t => rfl)

/-! ### 34: skirmish/skirmishref06.Index -/



/-- 'skirmish/skirmishref06.Index' -/
noncomputable def F_skirmishref06_Index (w : Int) (p_X : Int) (p_Y : Int) : Option (Int) :=
  Option.bind (F_skirmishref06_pos p_X p_Y) fun t =>
  Option.bind (F_skirmishref06_near w) fun t1 =>
  some (wr ((wr (t.2 * t1)) + t.1))
noncomputable def enc34 (t : Int) : CR := ⟨true, (.sc (.int .i64 t)), [], []⟩
noncomputable def ks34 : List SK := [.f (.int .i64), .agg [.int .i64, .int .i64]]
noncomputable def S34 (us : List AVal) : Call := bif chkA ks34 us then Call.of (F_skirmishref06_Index (toI (cIa us 0)) (toI (cIa (aggL (cIa us 1)) 0)) (toI (cIa (aggL (cIa us 1)) 1))) enc34 else Call.none
noncomputable def C34 := AI.ext 34 S34 C47

theorem run34 (w : Int) (p_X : Int) (p_Y : Int) : fcall TT TU GL0 C47 ownF true noL Tryd.f34 [(.sc (.int .i64 w)), (.agg [(.sc (.int .i64 p_X)), (.sc (.int .i64 p_Y))])] = (F_skirmishref06_Index w p_X p_Y).bind fun t => some (enc34 t) :=
  Eq.trans (b := (Option.bind (F_skirmishref06_pos p_X p_Y) fun t => (Option.bind (F_skirmishref06_near w) fun t1 => (some (CR.mk true (i64 (wr ((wr (t.2 * t1)) + t.1))) [] []))))) (by kernel_rfl)
    (n_bind fun t => (n_bind fun t1 => rfl))
theorem lib34 : Lib Tryd.prog GL0 C34 :=
  Lib.fn lib47 mixed TT_ok Tryd.func34 (by decide +kernel) (by kernel_rfl) true noL (loops_of 0 (by kernel_rfl) below0) ks34 (F := fun us => F_skirmishref06_Index (toI (cIa us 0)) (toI (cIa (aggL (cIa us 1)) 0)) (toI (cIa (aggL (cIa us 1)) 1))) (fun us => rfl) (fun us => run34 (toI (cIa us 0)) (toI (cIa (aggL (cIa us 1)) 0)) (toI (cIa (aggL (cIa us 1)) 1))) (fun t => rfl)

/-! ### 13: skirmish/skirmishref07.Get -/



/-- 'skirmish/skirmishref07.Get' -/
noncomputable def F_skirmishref07_Get (m_W : Int) (m_H : Int) (m_Cells : List (List AVal)) (p_X : Int) (p_Y : Int) : Option (Int × Int × Int × Bool) :=
  Option.bind (F_skirmishref07_Inside m_W m_H m_Cells p_X p_Y) fun t =>
  bif (!t) then
    some ((0 : Int), (0 : Int), (0 : Int), false)
  else
  Option.bind (F_skirmishref06_Index m_W p_X p_Y) fun t1 =>
  bif (decide ((0 : Int) ≤ t1)) then
    Option.bind (m_Cells[t1.toNat]?) fun r =>
    bif (chk [(LT.int IntKind.i64), (LT.int IntKind.i64), (LT.int IntKind.i64)] r) then
      some ((cI r 0), (cI r 1), (cI r 2), true)
    else
    none
  else
  none
noncomputable def enc13 (t : Int × Int × Int × Bool) : CR := ⟨true, (.tup [(.agg [(.sc (.int .i64 t.1)), (.sc (.int .i64 t.2.1)), (.sc (.int .i64 t.2.2.1))]), (.sc (.bool t.2.2.2))]), [], []⟩
noncomputable def ks13 : List SK := [.agg [.int .i64, .int .i64, .ro 3], .agg [.int .i64, .int .i64]]
noncomputable def S13 (us : List AVal) : Call := bif chkA ks13 us then Call.of (F_skirmishref07_Get (toI (cIa (aggL (cIa us 0)) 0)) (toI (cIa (aggL (cIa us 0)) 1)) (roRows (cIa (aggL (cIa us 0)) 2)) (toI (cIa (aggL (cIa us 1)) 0)) (toI (cIa (aggL (cIa us 1)) 1))) enc13 else Call.none
noncomputable def C13 := AI.ext 13 S13 C34

theorem run13 (m_W : Int) (m_H : Int) (m_Cells : List (List AVal)) (p_X : Int) (p_Y : Int) : fcall TT TU GL0 C34 ownF true noL Tryd.f13 [(.agg [(.sc (.int .i64 m_W)), (.sc (.int .i64 m_H)), (.ro 3 m_Cells)]), (.agg [(.sc (.int .i64 p_X)), (.sc (.int .i64 p_Y))])] = (F_skirmishref07_Get m_W m_H m_Cells p_X p_Y).bind fun t => some (enc13 t) :=
  Eq.trans (b := (Option.bind (F_skirmishref07_Inside m_W m_H m_Cells p_X p_Y) fun t => (bif (!t) then (some (CR.mk true (AVal.tup [(AVal.agg [(i64 (0 : Int)), (i64 (0 : Int)), (i64 (0 : Int))]), (bo false)]) [] [])) else (Option.bind (F_skirmishref06_Index m_W p_X p_Y) fun t1 => (bif (decide ((0 : Int) ≤ t1)) then (Option.bind (m_Cells[t1.toNat]?) fun r => (bif (chk [(LT.int IntKind.i64), (LT.int IntKind.i64), (LT.int IntKind.i64)] r) then (some (CR.mk true (AVal.tup [(AVal.agg [(i64 (cI r 0)), (i64 (cI r 1)), (i64 (cI r 2))]), (bo true)]) [] [])) else none)) else none))))) (by kernel_rfl)
    (n_bind fun t => (n_condH rfl (fun h0 => rfl) fun h0 => (n_bind fun t1 => (n_condH rfl (fun h1 => (n_bind fun r => (n_condH rfl (fun h2 => rfl) fun h2 => n_none))) fun h1 => n_none))))
theorem lib13 : Lib Tryd.prog GL0 C13 :=
  Lib.fn lib34 mixed TT_ok Tryd.func13 (by decide +kernel) (by kernel_rfl) true noL (loops_of 0 (by kernel_rfl) below0) ks13 (F := fun us => F_skirmishref07_Get (toI (cIa (aggL (cIa us 0)) 0)) (toI (cIa (aggL (cIa us 0)) 1)) (roRows (cIa (aggL (cIa us 0)) 2)) (toI (cIa (aggL (cIa us 1)) 0)) (toI (cIa (aggL (cIa us 1)) 1))) (fun us => rfl) (fun us => run13 (toI (cIa (aggL (cIa us 0)) 0)) (toI (cIa (aggL (cIa us 0)) 1)) (roRows (cIa (aggL (cIa us 0)) 2)) (toI (cIa (aggL (cIa us 1)) 0)) (toI (cIa (aggL (cIa us 1)) 1))) (fun t => rfl)

/-! ### 37: skirmish/skirmishref07.ValidCell -/



/-- 'skirmish/skirmishref07.ValidCell' -/
noncomputable def F_skirmishref07_ValidCell (c_Kind : Int) (c_Height : Int) (c_Amount : Int) : Option (Bool) :=
  bif (decide (c_Kind < (1 : Int))) then
    some false
  else
  bif (decide (c_Kind > (5 : Int))) then
    some false
  else
  bif (decide (c_Height < (0 : Int))) then
    some false
  else
  bif (decide (c_Height > (3 : Int))) then
    some false
  else
  bif (decide (c_Amount < (0 : Int))) then
    some false
  else
  bif (decide (c_Amount > (1000000 : Int))) then
    some false
  else
  bif (c_Kind == (4 : Int)) then
    some ((decide (c_Amount > (0 : Int))) == true)
  else
  some ((decide (c_Amount > (0 : Int))) == (c_Kind == (5 : Int)))
noncomputable def enc37 (t : Bool) : CR := ⟨true, (.sc (.bool t)), [], []⟩
noncomputable def ks37 : List SK := [.agg [.int .i64, .int .i64, .int .i64]]
noncomputable def S37 (us : List AVal) : Call := bif chkA ks37 us then Call.of (F_skirmishref07_ValidCell (toI (cIa (aggL (cIa us 0)) 0)) (toI (cIa (aggL (cIa us 0)) 1)) (toI (cIa (aggL (cIa us 0)) 2))) enc37 else Call.none
noncomputable def C37 := AI.ext 37 S37 C13

theorem run37 (c_Kind : Int) (c_Height : Int) (c_Amount : Int) : fcall TT TU GL0 C13 ownF true noL Tryd.f37 [(.agg [(.sc (.int .i64 c_Kind)), (.sc (.int .i64 c_Height)), (.sc (.int .i64 c_Amount))])] = (F_skirmishref07_ValidCell c_Kind c_Height c_Amount).bind fun t => some (enc37 t) :=
  Eq.trans (b := (bif (decide (c_Kind < (1 : Int))) then (some (CR.mk true (bo false) [] [])) else (bif (decide (c_Kind > (5 : Int))) then (some (CR.mk true (bo false) [] [])) else (bif (decide (c_Height < (0 : Int))) then (some (CR.mk true (bo false) [] [])) else (bif (decide (c_Height > (3 : Int))) then (some (CR.mk true (bo false) [] [])) else (bif (decide (c_Amount < (0 : Int))) then (some (CR.mk true (bo false) [] [])) else (bif (decide (c_Amount > (1000000 : Int))) then (some (CR.mk true (bo false) [] [])) else (bif (c_Kind == (4 : Int)) then (some (CR.mk true (bo ((decide (c_Amount > (0 : Int))) == true)) [] [])) else (some (CR.mk true (bo ((decide (c_Amount > (0 : Int))) == (c_Kind == (5 : Int)))) [] [])))))))))) (by kernel_rfl)
    (n_condH rfl (fun h0 => rfl) fun h0 => (n_condH rfl (fun h1 => rfl) fun h1 => (n_condH rfl (fun h2 => rfl) fun h2 => (n_condH rfl (fun h3 => rfl) fun h3 => (n_condH rfl (fun h4 => rfl) fun h4 => (n_condH rfl (fun h5 => rfl) fun h5 => (n_condH rfl (fun h6 => rfl) fun h6 => rfl)))))))
theorem lib37 : Lib Tryd.prog GL0 C37 :=
  Lib.fn lib13 mixed TT_ok Tryd.func37 (by decide +kernel) (by kernel_rfl) true noL (loops_of 0 (by kernel_rfl) below0) ks37 (F := fun us => F_skirmishref07_ValidCell (toI (cIa (aggL (cIa us 0)) 0)) (toI (cIa (aggL (cIa us 0)) 1)) (toI (cIa (aggL (cIa us 0)) 2))) (fun us => rfl) (fun us => run37 (toI (cIa (aggL (cIa us 0)) 0)) (toI (cIa (aggL (cIa us 0)) 1)) (toI (cIa (aggL (cIa us 0)) 2))) (fun t => rfl)

/-! ### 17: skirmish/skirmishref07.Valid -/

noncomputable def W17_0 : Ex → List Bool
  | .ret => [false, false, true, false, false, false, false, false, false, false, false, false, false, false, false, false, false, false, false, false, false]
  | .exit n => bif Nat.beq n 0 then [false, false, false, false, false, false, false, false, false, false, false, false, false, false, false, false, false, false, false, false, false] else []
  | .normal => []
noncomputable def G_skirmishref07_Valid_0 (b0_2 : List (List AVal)) : Nat → Int → Option (Bool)
  | 0, _ => none
  | m + 1, i =>
    bif (decide (i < (Int.ofNat b0_2.length))) then
      bif (decide ((0 : Int) ≤ i)) then
        Option.bind (b0_2[i.toNat]?) fun r =>
        bif (chk [(LT.int IntKind.i64), (LT.int IntKind.i64), (LT.int IntKind.i64)] r) then
          Option.bind (F_skirmishref07_ValidCell (cI r 0) (cI r 1) (cI r 2)) fun t =>
          bif (!t) then
            some true
          else
          G_skirmishref07_Valid_0 b0_2 m (wr (i + (1 : Int)))
        else
        none
      else
      none
    else
    some false
noncomputable def E17_0 (i : Int) (b0_0 : Int) (b0_1 : Int) (b0_2 : List (List AVal)) : St := ⟨[.dead, (.ref 8000 1 0 0), .dead, (.sc (.int .i64 i)), .dead, .dead, .dead, .dead, .dead, .dead, .dead, .dead, .dead, .dead, .dead, .dead, .dead, .dead, .dead, .dead, .dead], [(8000, ⟨.box, 24, 3, [[(.sc (.int .i64 b0_0)), (.sc (.int .i64 b0_1)), (.ro 3 b0_2)]]⟩)]⟩
noncomputable def X17_0 (b0_0 : Int) (b0_1 : Int) (b0_2 : List (List AVal)) (k : Ex → St → Option CR) (t : Bool) : Option CR := bif t then k .ret ⟨[.dead, .dead, (.sc (.bool false)), .dead, .dead, .dead, .dead, .dead, .dead, .dead, .dead, .dead, .dead, .dead, .dead, .dead, .dead, .dead, .dead, .dead, .dead], [(8000, ⟨.box, 24, 3, [[(.sc (.int .i64 b0_0)), (.sc (.int .i64 b0_1)), (.ro 3 b0_2)]]⟩)]⟩ else k (.exit 0) ⟨[.dead, .dead, .dead, .dead, .dead, .dead, .dead, .dead, .dead, .dead, .dead, .dead, .dead, .dead, .dead, .dead, .dead, .dead, .dead, .dead, .dead], [(8000, ⟨.box, 24, 3, [[(.sc (.int .i64 b0_0)), (.sc (.int .i64 b0_1)), (.ro 3 b0_2)]]⟩)]⟩
noncomputable def ks17_0 : List SK := [.f .dead, .f (.ref 8000 1 0 0), .f .dead, .f (.int .i64), .f .dead, .f .dead, .f .dead, .f .dead, .f .dead, .f .dead, .f .dead, .f .dead, .f .dead, .f .dead, .f .dead, .f .dead, .f .dead, .f .dead, .f .dead, .f .dead, .f .dead]
noncomputable def hs17_0 : List HK := [⟨8000, .box, 24, 3, some [.int .i64, .int .i64, .ro 3]⟩]
noncomputable def L17_0 (s : St) (k : Ex → St → Option CR) : Option CR := bif chkS ks17_0 hs17_0 s then (G_skirmishref07_Valid_0 (roRows (cIa (rows0 (blkAt s.heap 0).2) 2)) FU (toI (cIa s.tmps 3))).bind (X17_0 (toI (cIa (rows0 (blkAt s.heap 0).2) 0)) (toI (cIa (rows0 (blkAt s.heap 0).2) 1)) (roRows (cIa (rows0 (blkAt s.heap 0).2) 2)) k) else none

noncomputable def L17 : LT' := fun i s k => bif Nat.beq i 0 then L17_0 s k else none

/-- 'skirmish/skirmishref07.Valid' -/
noncomputable def F_skirmishref07_Valid (m_W : Int) (m_H : Int) (m_Cells : List (List AVal)) : Option (Bool) :=
  Option.bind (F_skirmishref07_Formed m_W m_H m_Cells) fun t =>
  bif (!t) then
    some false
  else
  Option.bind (G_skirmishref07_Valid_0 m_Cells FU (0 : Int)) fun t1 =>
  bif t1 then
    some false
  else
  some true
noncomputable def enc17 (t : Bool) : CR := ⟨true, (.sc (.bool t)), [], []⟩
noncomputable def ks17 : List SK := [.agg [.int .i64, .int .i64, .ro 3]]
noncomputable def S17 (us : List AVal) : Call := bif chkA ks17 us then Call.of (F_skirmishref07_Valid (toI (cIa (aggL (cIa us 0)) 0)) (toI (cIa (aggL (cIa us 0)) 1)) (roRows (cIa (aggL (cIa us 0)) 2))) enc17 else Call.none
noncomputable def C17 := AI.ext 17 S17 C37

@[reducible] noncomputable def B17_0 := bodyOf TT TU GL0 C37 ownF L17 (lp Tryd.f17 0)
@[reducible] noncomputable def K17_0 (k : Ex → St → Option CR) : Ex → St → Option CR := fun e s => k e (maskS (W17_0 e) s)
theorem spec17_0 (k : Ex → St → Option CR) : ∀ (m : Nat) (i : Int) (b0_0 : Int) (b0_1 : Int) (b0_2 : List (List AVal)), loopN B17_0 m (E17_0 i b0_0 b0_1 b0_2) (K17_0 k) = (G_skirmishref07_Valid_0 b0_2 m i).bind (X17_0 b0_0 b0_1 b0_2 k)
  | 0, _, _, _, _ => rfl
  | m + 1, i, b0_0, b0_1, b0_2 =>
    Eq.trans (b := (bif (decide (i < (Int.ofNat b0_2.length))) then (bif (decide ((0 : Int) ≤ i)) then (Option.bind (b0_2[i.toNat]?) fun r => (bif (chk [(LT.int IntKind.i64), (LT.int IntKind.i64), (LT.int IntKind.i64)] r) then (Option.bind (F_skirmishref07_ValidCell (cI r 0) (cI r 1) (cI r 2)) fun t => (bif (!t) then (k .ret ⟨[.dead, .dead, (bo false), .dead, .dead, .dead, .dead, .dead, .dead, .dead, .dead, .dead, .dead, .dead, .dead, .dead, .dead, .dead, .dead, .dead, .dead], [(Prod.mk 8000 (Blk.mk BKind.box 24 3 [[(i64 b0_0), (i64 b0_1), (AVal.ro 3 b0_2)]]))]⟩) else (loopN B17_0 m ⟨[.dead, (AVal.ref 8000 1 0 0), .dead, (i64 (wr (i + (1 : Int)))), .dead, .dead, .dead, .dead, .dead, .dead, .dead, .dead, .dead, .dead, .dead, .dead, .dead, .dead, .dead, .dead, .dead], [(Prod.mk 8000 (Blk.mk BKind.box 24 3 [[(i64 b0_0), (i64 b0_1), (AVal.ro 3 b0_2)]]))]⟩ (K17_0 k)))) else none)) else none) else (k (.exit 0) ⟨[.dead, .dead, .dead, .dead, .dead, .dead, .dead, .dead, .dead, .dead, .dead, .dead, .dead, .dead, .dead, .dead, .dead, .dead, .dead, .dead, .dead], [(Prod.mk 8000 (Blk.mk BKind.box 24 3 [[(i64 b0_0), (i64 b0_1), (AVal.ro 3 b0_2)]]))]⟩))) (by kernel_rfl)
      (n_condH rfl (fun h0 => (n_condH rfl (fun h1 => (n_bind fun r => (n_condH rfl (fun h2 => (n_bind fun t => (n_condH rfl (fun h3 => rfl) fun h3 => (spec17_0 k m (wr (i + (1 : Int))) b0_0 b0_1 b0_2)))) fun h2 => n_none))) fun h1 => n_none)) fun h0 => rfl)
theorem okL17_0 : LoopOk TT TU GL0 C37 ownF L17 (lp Tryd.f17 0) :=
  loopOk_of ks17_0 hs17_0 W17_0 FU (fun s k => (G_skirmishref07_Valid_0 (roRows (cIa (rows0 (blkAt s.heap 0).2) 2)) FU (toI (cIa s.tmps 3))).bind (X17_0 (toI (cIa (rows0 (blkAt s.heap 0).2) 0)) (toI (cIa (rows0 (blkAt s.heap 0).2) 1)) (roRows (cIa (rows0 (blkAt s.heap 0).2) 2)) k)) (fun s k => by kernel_rfl) (fun s k => spec17_0 k FU (toI (cIa s.tmps 3)) (toI (cIa (rows0 (blkAt s.heap 0).2) 0)) (toI (cIa (rows0 (blkAt s.heap 0).2) 1)) (roRows (cIa (rows0 (blkAt s.heap 0).2) 2)))
theorem run17 (m_W : Int) (m_H : Int) (m_Cells : List (List AVal)) : fcall TT TU GL0 C37 ownF true L17 Tryd.f17 [(.agg [(.sc (.int .i64 m_W)), (.sc (.int .i64 m_H)), (.ro 3 m_Cells)])] = (F_skirmishref07_Valid m_W m_H m_Cells).bind fun t => some (enc17 t) :=
  Eq.trans (b := (Option.bind (F_skirmishref07_Formed m_W m_H m_Cells) fun t => (bif (!t) then (some (CR.mk true (bo false) [] [])) else (Option.bind (G_skirmishref07_Valid_0 m_Cells FU (0 : Int)) fun t1 => (bif t1 then (some (CR.mk true (bo false) [] [])) else (some (CR.mk true (bo true) [] []))))))) (by kernel_rfl)
    (n_bind fun t => (n_condH rfl (fun h0 => rfl) fun h0 => (n_bind fun t1 => (n_condH rfl (fun h1 => rfl) fun h1 => rfl))))
theorem lib17 : Lib Tryd.prog GL0 C17 :=
  Lib.fn lib37 mixed TT_ok Tryd.func17 (by decide +kernel) (by kernel_rfl) true L17 (loops_of 1 (by kernel_rfl) (belowS below0 okL17_0)) ks17 (F := fun us => F_skirmishref07_Valid (toI (cIa (aggL (cIa us 0)) 0)) (toI (cIa (aggL (cIa us 0)) 1)) (roRows (cIa (aggL (cIa us 0)) 2))) (fun us => rfl) (fun us => run17 (toI (cIa (aggL (cIa us 0)) 0)) (toI (cIa (aggL (cIa us 0)) 1)) (roRows (cIa (aggL (cIa us 0)) 2))) (fun t => rfl)

/-! ### 38: skirmish/skirmishref07.with -/



/-- 'skirmish/skirmishref07.with' -/
noncomputable def F_skirmishref07_with (m_W : Int) (m_H : Int) (m_Cells : List (List AVal)) (p_X : Int) (p_Y : Int) (c_Kind : Int) (c_Height : Int) (c_Amount : Int) : Option (List (List AVal) × Int × Int) :=
  bif (roomOk (0 + m_Cells.length) 24) then
    Option.bind (F_skirmishref06_Index m_W p_X p_Y) fun t =>
    bif ((decide ((0 : Int) ≤ t)) && (decide (t < (Int.ofNat m_Cells.length)))) then
      some ((List.set m_Cells t.toNat [(i64 c_Kind), (i64 c_Height), (i64 c_Amount)]), m_W, m_H)
    else
    none
  else
  none
noncomputable def enc38 (t : List (List AVal) × Int × Int) : CR := ⟨true, (.agg [(.sc (.int .i64 t.2.1)), (.sc (.int .i64 t.2.2)), (.slc 0 (t.1).length)]), [], [⟨.arr, 28, 3, t.1⟩]⟩
noncomputable def ks38 : List SK := [.agg [.int .i64, .int .i64, .ro 3], .agg [.int .i64, .int .i64], .agg [.int .i64, .int .i64, .int .i64]]
noncomputable def S38 (us : List AVal) : Call := bif chkA ks38 us then Call.of (F_skirmishref07_with (toI (cIa (aggL (cIa us 0)) 0)) (toI (cIa (aggL (cIa us 0)) 1)) (roRows (cIa (aggL (cIa us 0)) 2)) (toI (cIa (aggL (cIa us 1)) 0)) (toI (cIa (aggL (cIa us 1)) 1)) (toI (cIa (aggL (cIa us 2)) 0)) (toI (cIa (aggL (cIa us 2)) 1)) (toI (cIa (aggL (cIa us 2)) 2))) enc38 else Call.none
noncomputable def C38 := AI.ext 38 S38 C17

theorem run38 (m_W : Int) (m_H : Int) (m_Cells : List (List AVal)) (p_X : Int) (p_Y : Int) (c_Kind : Int) (c_Height : Int) (c_Amount : Int) : fcall TT TU GL0 C17 ownF true noL Tryd.f38 [(.agg [(.sc (.int .i64 m_W)), (.sc (.int .i64 m_H)), (.ro 3 m_Cells)]), (.agg [(.sc (.int .i64 p_X)), (.sc (.int .i64 p_Y))]), (.agg [(.sc (.int .i64 c_Kind)), (.sc (.int .i64 c_Height)), (.sc (.int .i64 c_Amount))])] = (F_skirmishref07_with m_W m_H m_Cells p_X p_Y c_Kind c_Height c_Amount).bind fun t => some (enc38 t) :=
  Eq.trans (b := (bif (roomOk (0 + m_Cells.length) 24) then (Option.bind (F_skirmishref06_Index m_W p_X p_Y) fun t => (bif (((verEq m_Cells.length m_Cells.length) && (decide ((0 : Int) ≤ t))) && (decide (t < (Int.ofNat m_Cells.length)))) then (bif ((((verEq m_Cells.length m_Cells.length) && true) && true) && true) then (bif (verEq (Blk.rows (Blk.mk BKind.arr 28 3 (List.set m_Cells t.toNat [(i64 c_Kind), (i64 c_Height), (i64 c_Amount)]))).length m_Cells.length) then (some (CR.mk true (AVal.agg [(i64 m_W), (i64 m_H), (AVal.slc 0 (Blk.rows (Blk.mk BKind.arr 28 3 (List.set m_Cells t.toNat [(i64 c_Kind), (i64 c_Height), (i64 c_Amount)]))).length)]) [] [(Blk.mk BKind.arr 28 3 (List.set m_Cells t.toNat [(i64 c_Kind), (i64 c_Height), (i64 c_Amount)]))])) else none) else none) else none)) else none)) (by kernel_rfl)
    (n_condH rfl (fun h0 => (n_bind fun t => (n_condH (n_and (n_andL (verEq_rfl _) rfl) rfl) (fun h1 => (n_true (n_andL (n_andL (n_andL (verEq_rfl _) rfl) rfl) rfl) (n_true (by first | exact verEq_of rfl | simp [verEq]) rfl))) fun h1 => n_none))) fun h0 => n_none)
theorem lib38 : Lib Tryd.prog GL0 C38 :=
  Lib.fn lib17 mixed TT_ok Tryd.func38 (by decide +kernel) (by kernel_rfl) true noL (loops_of 0 (by kernel_rfl) below0) ks38 (F := fun us => F_skirmishref07_with (toI (cIa (aggL (cIa us 0)) 0)) (toI (cIa (aggL (cIa us 0)) 1)) (roRows (cIa (aggL (cIa us 0)) 2)) (toI (cIa (aggL (cIa us 1)) 0)) (toI (cIa (aggL (cIa us 1)) 1)) (toI (cIa (aggL (cIa us 2)) 0)) (toI (cIa (aggL (cIa us 2)) 1)) (toI (cIa (aggL (cIa us 2)) 2))) (fun us => rfl) (fun us => run38 (toI (cIa (aggL (cIa us 0)) 0)) (toI (cIa (aggL (cIa us 0)) 1)) (roRows (cIa (aggL (cIa us 0)) 2)) (toI (cIa (aggL (cIa us 1)) 0)) (toI (cIa (aggL (cIa us 1)) 1)) (toI (cIa (aggL (cIa us 2)) 0)) (toI (cIa (aggL (cIa us 2)) 1)) (toI (cIa (aggL (cIa us 2)) 2))) (fun t => rfl)

/-! ### 15: skirmish/skirmishref07.Set -/



/-- 'skirmish/skirmishref07.Set' -/
noncomputable def F_skirmishref07_Set (m_W : Int) (m_H : Int) (m_Cells : List (List AVal)) (p_X : Int) (p_Y : Int) (c_Kind : Int) (c_Height : Int) (c_Amount : Int) : Option (List (List AVal) × Int × Int × Int) :=
  Option.bind (F_skirmishref07_Valid m_W m_H m_Cells) fun t =>
  bif (!t) then
    some ([], (0 : Int), (0 : Int), (1 : Int))
  else
  Option.bind (F_skirmishref07_ValidCell c_Kind c_Height c_Amount) fun t1 =>
  bif (!t1) then
    some ([], (0 : Int), (0 : Int), (1 : Int))
  else
  Option.bind (F_skirmishref07_Inside m_W m_H m_Cells p_X p_Y) fun t2 =>
  bif (!t2) then
    some ([], (0 : Int), (0 : Int), (8 : Int))
  else
  Option.bind (F_skirmishref07_with m_W m_H m_Cells p_X p_Y c_Kind c_Height c_Amount) fun t3 =>
  some (t3.1, t3.2.1, t3.2.2, (0 : Int))
noncomputable def enc15 (t : List (List AVal) × Int × Int × Int) : CR := ⟨true, (.tup [(.agg [(.sc (.int .i64 t.2.1)), (.sc (.int .i64 t.2.2.1)), (.slc 0 (t.1).length)]), (.sc (.int .i64 t.2.2.2))]), [], [⟨.arr, 28, 3, t.1⟩]⟩
noncomputable def ks15 : List SK := [.agg [.int .i64, .int .i64, .ro 3], .agg [.int .i64, .int .i64], .agg [.int .i64, .int .i64, .int .i64]]
noncomputable def S15 (us : List AVal) : Call := bif chkA ks15 us then Call.of (F_skirmishref07_Set (toI (cIa (aggL (cIa us 0)) 0)) (toI (cIa (aggL (cIa us 0)) 1)) (roRows (cIa (aggL (cIa us 0)) 2)) (toI (cIa (aggL (cIa us 1)) 0)) (toI (cIa (aggL (cIa us 1)) 1)) (toI (cIa (aggL (cIa us 2)) 0)) (toI (cIa (aggL (cIa us 2)) 1)) (toI (cIa (aggL (cIa us 2)) 2))) enc15 else Call.none
noncomputable def C15 := AI.ext 15 S15 C38

theorem run15 (m_W : Int) (m_H : Int) (m_Cells : List (List AVal)) (p_X : Int) (p_Y : Int) (c_Kind : Int) (c_Height : Int) (c_Amount : Int) : fcall TT TU GL0 C38 ownF true noL Tryd.f15 [(.agg [(.sc (.int .i64 m_W)), (.sc (.int .i64 m_H)), (.ro 3 m_Cells)]), (.agg [(.sc (.int .i64 p_X)), (.sc (.int .i64 p_Y))]), (.agg [(.sc (.int .i64 c_Kind)), (.sc (.int .i64 c_Height)), (.sc (.int .i64 c_Amount))])] = (F_skirmishref07_Set m_W m_H m_Cells p_X p_Y c_Kind c_Height c_Amount).bind fun t => some (enc15 t) :=
  Eq.trans (b := (Option.bind (F_skirmishref07_Valid m_W m_H m_Cells) fun t => (bif (!t) then (some (CR.mk true (AVal.tup [(AVal.agg [(i64 (0 : Int)), (i64 (0 : Int)), (AVal.slc 0 0)]), (i64 (1 : Int))]) [] [(Blk.mk BKind.arr 28 3 [])])) else (Option.bind (F_skirmishref07_ValidCell c_Kind c_Height c_Amount) fun t1 => (bif (!t1) then (some (CR.mk true (AVal.tup [(AVal.agg [(i64 (0 : Int)), (i64 (0 : Int)), (AVal.slc 0 0)]), (i64 (1 : Int))]) [] [(Blk.mk BKind.arr 28 3 [])])) else (Option.bind (F_skirmishref07_Inside m_W m_H m_Cells p_X p_Y) fun t2 => (bif (!t2) then (some (CR.mk true (AVal.tup [(AVal.agg [(i64 (0 : Int)), (i64 (0 : Int)), (AVal.slc 0 0)]), (i64 (8 : Int))]) [] [(Blk.mk BKind.arr 28 3 [])])) else (Option.bind (F_skirmishref07_with m_W m_H m_Cells p_X p_Y c_Kind c_Height c_Amount) fun t3 => (bif ((((true && (verEq t3.1.length t3.1.length)) && true) && true) && true) then (bif (verEq t3.1.length t3.1.length) then (some (CR.mk true (AVal.tup [(AVal.agg [(i64 t3.2.1), (i64 t3.2.2), (AVal.slc 0 t3.1.length)]), (i64 (0 : Int))]) [] [(Blk.mk BKind.arr 28 3 t3.1)])) else none) else none))))))))) (by kernel_rfl)
    (n_bind fun t => (n_condH rfl (fun h0 => rfl) fun h0 => (n_bind fun t1 => (n_condH rfl (fun h1 => rfl) fun h1 => (n_bind fun t2 => (n_condH rfl (fun h2 => rfl) fun h2 => (n_bind fun t3 => (n_true (n_andL (n_andL (n_andL (n_andL rfl (verEq_rfl _)) rfl) rfl) rfl) (n_true (verEq_rfl _) rfl)))))))))
theorem lib15 : Lib Tryd.prog GL0 C15 :=
  Lib.fn lib38 mixed TT_ok Tryd.func15 (by decide +kernel) (by kernel_rfl) true noL (loops_of 0 (by kernel_rfl) below0) ks15 (F := fun us => F_skirmishref07_Set (toI (cIa (aggL (cIa us 0)) 0)) (toI (cIa (aggL (cIa us 0)) 1)) (roRows (cIa (aggL (cIa us 0)) 2)) (toI (cIa (aggL (cIa us 1)) 0)) (toI (cIa (aggL (cIa us 1)) 1)) (toI (cIa (aggL (cIa us 2)) 0)) (toI (cIa (aggL (cIa us 2)) 1)) (toI (cIa (aggL (cIa us 2)) 2))) (fun us => rfl) (fun us => run15 (toI (cIa (aggL (cIa us 0)) 0)) (toI (cIa (aggL (cIa us 0)) 1)) (roRows (cIa (aggL (cIa us 0)) 2)) (toI (cIa (aggL (cIa us 1)) 0)) (toI (cIa (aggL (cIa us 1)) 1)) (toI (cIa (aggL (cIa us 2)) 0)) (toI (cIa (aggL (cIa us 2)) 1)) (toI (cIa (aggL (cIa us 2)) 2))) (fun t => rfl)

/-! ### 18: skirmish/skirmishref07.Same -/

noncomputable def W18_0 : Ex → List Bool
  | .ret => [false, false, false, false, true, false, false, false, false, false, false, false, false, false, false, false, false, false, false, false, false, false, false, false, false, false, false, false, false, false, false, false, false, false, false, false, false, false, false, false, false, false, false, false, false]
  | .exit n => bif Nat.beq n 0 then [false, false, false, false, false, false, false, false, false, false, false, false, false, false, false, false, false, false, false, false, false, false, false, false, false, false, false, false, false, false, false, false, false, false, false, false, false, false, false, false, false, false, false, false, false] else []
  | .normal => []
noncomputable def G_skirmishref07_Same_0 (b0_2 : List (List AVal)) (b1_2 : List (List AVal)) : Nat → Int → Option (Bool)
  | 0, _ => none
  | m + 1, i =>
    bif (decide (i < (Int.ofNat b0_2.length))) then
      bif (decide ((0 : Int) ≤ i)) then
        Option.bind (b0_2[i.toNat]?) fun r =>
        bif (chk [(LT.int IntKind.i64), (LT.int IntKind.i64), (LT.int IntKind.i64)] r) then
          Option.bind (b1_2[i.toNat]?) fun r1 =>
          bif (chk [(LT.int IntKind.i64), (LT.int IntKind.i64), (LT.int IntKind.i64)] r1) then
            bif (!(((cI r 0) == (cI r1 0)) && (((cI r 1) == (cI r1 1)) && ((cI r 2) == (cI r1 2))))) then
              some true
            else
            G_skirmishref07_Same_0 b0_2 b1_2 m (wr (i + (1 : Int)))
          else
          none
        else
        none
      else
      none
    else
    some false
noncomputable def E18_0 (i : Int) (b0_0 : Int) (b0_1 : Int) (b0_2 : List (List AVal)) (b1_0 : Int) (b1_1 : Int) (b1_2 : List (List AVal)) : St := ⟨[.dead, .dead, (.ref 8000 1 0 0), (.ref 8008 1 0 0), .dead, (.sc (.int .i64 i)), .dead, .dead, .dead, .dead, .dead, .dead, .dead, .dead, .dead, .dead, .dead, .dead, .dead, .dead, .dead, .dead, .dead, .dead, .dead, .dead, .dead, .dead, .dead, .dead, .dead, .dead, .dead, .dead, .dead, .dead, .dead, .dead, .dead, .dead, .dead, .dead, .dead, .dead, .dead], [(8000, ⟨.box, 24, 3, [[(.sc (.int .i64 b0_0)), (.sc (.int .i64 b0_1)), (.ro 3 b0_2)]]⟩), (8008, ⟨.box, 24, 3, [[(.sc (.int .i64 b1_0)), (.sc (.int .i64 b1_1)), (.ro 3 b1_2)]]⟩)]⟩
noncomputable def X18_0 (b0_0 : Int) (b0_1 : Int) (b0_2 : List (List AVal)) (b1_0 : Int) (b1_1 : Int) (b1_2 : List (List AVal)) (k : Ex → St → Option CR) (t : Bool) : Option CR := bif t then k .ret ⟨[.dead, .dead, .dead, .dead, (.sc (.bool false)), .dead, .dead, .dead, .dead, .dead, .dead, .dead, .dead, .dead, .dead, .dead, .dead, .dead, .dead, .dead, .dead, .dead, .dead, .dead, .dead, .dead, .dead, .dead, .dead, .dead, .dead, .dead, .dead, .dead, .dead, .dead, .dead, .dead, .dead, .dead, .dead, .dead, .dead, .dead, .dead], [(8000, ⟨.box, 24, 3, [[(.sc (.int .i64 b0_0)), (.sc (.int .i64 b0_1)), (.ro 3 b0_2)]]⟩), (8008, ⟨.box, 24, 3, [[(.sc (.int .i64 b1_0)), (.sc (.int .i64 b1_1)), (.ro 3 b1_2)]]⟩)]⟩ else k (.exit 0) ⟨[.dead, .dead, .dead, .dead, .dead, .dead, .dead, .dead, .dead, .dead, .dead, .dead, .dead, .dead, .dead, .dead, .dead, .dead, .dead, .dead, .dead, .dead, .dead, .dead, .dead, .dead, .dead, .dead, .dead, .dead, .dead, .dead, .dead, .dead, .dead, .dead, .dead, .dead, .dead, .dead, .dead, .dead, .dead, .dead, .dead], [(8000, ⟨.box, 24, 3, [[(.sc (.int .i64 b0_0)), (.sc (.int .i64 b0_1)), (.ro 3 b0_2)]]⟩), (8008, ⟨.box, 24, 3, [[(.sc (.int .i64 b1_0)), (.sc (.int .i64 b1_1)), (.ro 3 b1_2)]]⟩)]⟩
noncomputable def ks18_0 : List SK := [.f .dead, .f .dead, .f (.ref 8000 1 0 0), .f (.ref 8008 1 0 0), .f .dead, .f (.int .i64), .f .dead, .f .dead, .f .dead, .f .dead, .f .dead, .f .dead, .f .dead, .f .dead, .f .dead, .f .dead, .f .dead, .f .dead, .f .dead, .f .dead, .f .dead, .f .dead, .f .dead, .f .dead, .f .dead, .f .dead, .f .dead, .f .dead, .f .dead, .f .dead, .f .dead, .f .dead, .f .dead, .f .dead, .f .dead, .f .dead, .f .dead, .f .dead, .f .dead, .f .dead, .f .dead, .f .dead, .f .dead, .f .dead, .f .dead]
noncomputable def hs18_0 : List HK := [⟨8000, .box, 24, 3, some [.int .i64, .int .i64, .ro 3]⟩, ⟨8008, .box, 24, 3, some [.int .i64, .int .i64, .ro 3]⟩]
noncomputable def L18_0 (s : St) (k : Ex → St → Option CR) : Option CR := bif chkS ks18_0 hs18_0 s then (G_skirmishref07_Same_0 (roRows (cIa (rows0 (blkAt s.heap 0).2) 2)) (roRows (cIa (rows0 (blkAt s.heap 1).2) 2)) FU (toI (cIa s.tmps 5))).bind (X18_0 (toI (cIa (rows0 (blkAt s.heap 0).2) 0)) (toI (cIa (rows0 (blkAt s.heap 0).2) 1)) (roRows (cIa (rows0 (blkAt s.heap 0).2) 2)) (toI (cIa (rows0 (blkAt s.heap 1).2) 0)) (toI (cIa (rows0 (blkAt s.heap 1).2) 1)) (roRows (cIa (rows0 (blkAt s.heap 1).2) 2)) k) else none

noncomputable def L18 : LT' := fun i s k => bif Nat.beq i 0 then L18_0 s k else none

/-- 'skirmish/skirmishref07.Same' -/
noncomputable def F_skirmishref07_Same (a_W : Int) (a_H : Int) (a_Cells : List (List AVal)) (b_W : Int) (b_H : Int) (b_Cells : List (List AVal)) : Option (Bool) :=
  bif (a_W != b_W) then
    some false
  else
  bif (a_H != b_H) then
    some false
  else
  bif ((Int.ofNat a_Cells.length) != (Int.ofNat b_Cells.length)) then
    some false
  else
  Option.bind (G_skirmishref07_Same_0 a_Cells b_Cells FU (0 : Int)) fun t =>
  bif t then
    some false
  else
  some true
noncomputable def enc18 (t : Bool) : CR := ⟨true, (.sc (.bool t)), [], []⟩
noncomputable def ks18 : List SK := [.agg [.int .i64, .int .i64, .ro 3], .agg [.int .i64, .int .i64, .ro 3]]
noncomputable def S18 (us : List AVal) : Call := bif chkA ks18 us then Call.of (F_skirmishref07_Same (toI (cIa (aggL (cIa us 0)) 0)) (toI (cIa (aggL (cIa us 0)) 1)) (roRows (cIa (aggL (cIa us 0)) 2)) (toI (cIa (aggL (cIa us 1)) 0)) (toI (cIa (aggL (cIa us 1)) 1)) (roRows (cIa (aggL (cIa us 1)) 2))) enc18 else Call.none
noncomputable def C18 := AI.ext 18 S18 C15

@[reducible] noncomputable def B18_0 := bodyOf TT TU GL0 C15 ownF L18 (lp Tryd.f18 0)
@[reducible] noncomputable def K18_0 (k : Ex → St → Option CR) : Ex → St → Option CR := fun e s => k e (maskS (W18_0 e) s)
theorem spec18_0 (k : Ex → St → Option CR) : ∀ (m : Nat) (i : Int) (b0_0 : Int) (b0_1 : Int) (b0_2 : List (List AVal)) (b1_0 : Int) (b1_1 : Int) (b1_2 : List (List AVal)), loopN B18_0 m (E18_0 i b0_0 b0_1 b0_2 b1_0 b1_1 b1_2) (K18_0 k) = (G_skirmishref07_Same_0 b0_2 b1_2 m i).bind (X18_0 b0_0 b0_1 b0_2 b1_0 b1_1 b1_2 k)
  | 0, _, _, _, _, _, _, _ => rfl
  | m + 1, i, b0_0, b0_1, b0_2, b1_0, b1_1, b1_2 =>
    Eq.trans (b := (bif (decide (i < (Int.ofNat b0_2.length))) then (bif (decide ((0 : Int) ≤ i)) then (Option.bind (b0_2[i.toNat]?) fun r => (bif (chk [(LT.int IntKind.i64), (LT.int IntKind.i64), (LT.int IntKind.i64)] r) then (bif (decide ((0 : Int) ≤ i)) then (Option.bind (b1_2[i.toNat]?) fun r1 => (bif (chk [(LT.int IntKind.i64), (LT.int IntKind.i64), (LT.int IntKind.i64)] r1) then (bif (!(((cI r 0) == (cI r1 0)) && (((cI r 1) == (cI r1 1)) && ((cI r 2) == (cI r1 2))))) then (k .ret ⟨[.dead, .dead, .dead, .dead, (bo false), .dead, .dead, .dead, .dead, .dead, .dead, .dead, .dead, .dead, .dead, .dead, .dead, .dead, .dead, .dead, .dead, .dead, .dead, .dead, .dead, .dead, .dead, .dead, .dead, .dead, .dead, .dead, .dead, .dead, .dead, .dead, .dead, .dead, .dead, .dead, .dead, .dead, .dead, .dead, .dead], [(Prod.mk 8000 (Blk.mk BKind.box 24 3 [[(i64 b0_0), (i64 b0_1), (AVal.ro 3 b0_2)]])), (Prod.mk 8008 (Blk.mk BKind.box 24 3 [[(i64 b1_0), (i64 b1_1), (AVal.ro 3 b1_2)]]))]⟩) else (loopN B18_0 m ⟨[.dead, .dead, (AVal.ref 8000 1 0 0), (AVal.ref 8008 1 0 0), .dead, (i64 (wr (i + (1 : Int)))), .dead, .dead, .dead, .dead, .dead, .dead, .dead, .dead, .dead, .dead, .dead, .dead, .dead, .dead, .dead, .dead, .dead, .dead, .dead, .dead, .dead, .dead, .dead, .dead, .dead, .dead, .dead, .dead, .dead, .dead, .dead, .dead, .dead, .dead, .dead, .dead, .dead, .dead, .dead], [(Prod.mk 8000 (Blk.mk BKind.box 24 3 [[(i64 b0_0), (i64 b0_1), (AVal.ro 3 b0_2)]])), (Prod.mk 8008 (Blk.mk BKind.box 24 3 [[(i64 b1_0), (i64 b1_1), (AVal.ro 3 b1_2)]]))]⟩ (K18_0 k))) else none)) else none) else none)) else none) else (k (.exit 0) ⟨[.dead, .dead, .dead, .dead, .dead, .dead, .dead, .dead, .dead, .dead, .dead, .dead, .dead, .dead, .dead, .dead, .dead, .dead, .dead, .dead, .dead, .dead, .dead, .dead, .dead, .dead, .dead, .dead, .dead, .dead, .dead, .dead, .dead, .dead, .dead, .dead, .dead, .dead, .dead, .dead, .dead, .dead, .dead, .dead, .dead], [(Prod.mk 8000 (Blk.mk BKind.box 24 3 [[(i64 b0_0), (i64 b0_1), (AVal.ro 3 b0_2)]])), (Prod.mk 8008 (Blk.mk BKind.box 24 3 [[(i64 b1_0), (i64 b1_1), (AVal.ro 3 b1_2)]]))]⟩))) (by kernel_rfl)
      (n_condH rfl (fun h0 => (n_condH rfl (fun h1 => (n_bind fun r => (n_condH rfl (fun h2 => (n_true h1 (n_bind fun r1 => (n_condH rfl (fun h3 => (n_condH rfl (fun h4 => rfl) fun h4 => (spec18_0 k m (wr (i + (1 : Int))) b0_0 b0_1 b0_2 b1_0 b1_1 b1_2))) fun h3 => n_none)))) fun h2 => n_none))) fun h1 => n_none)) fun h0 => rfl)
theorem okL18_0 : LoopOk TT TU GL0 C15 ownF L18 (lp Tryd.f18 0) :=
  loopOk_of ks18_0 hs18_0 W18_0 FU (fun s k => (G_skirmishref07_Same_0 (roRows (cIa (rows0 (blkAt s.heap 0).2) 2)) (roRows (cIa (rows0 (blkAt s.heap 1).2) 2)) FU (toI (cIa s.tmps 5))).bind (X18_0 (toI (cIa (rows0 (blkAt s.heap 0).2) 0)) (toI (cIa (rows0 (blkAt s.heap 0).2) 1)) (roRows (cIa (rows0 (blkAt s.heap 0).2) 2)) (toI (cIa (rows0 (blkAt s.heap 1).2) 0)) (toI (cIa (rows0 (blkAt s.heap 1).2) 1)) (roRows (cIa (rows0 (blkAt s.heap 1).2) 2)) k)) (fun s k => by kernel_rfl) (fun s k => spec18_0 k FU (toI (cIa s.tmps 5)) (toI (cIa (rows0 (blkAt s.heap 0).2) 0)) (toI (cIa (rows0 (blkAt s.heap 0).2) 1)) (roRows (cIa (rows0 (blkAt s.heap 0).2) 2)) (toI (cIa (rows0 (blkAt s.heap 1).2) 0)) (toI (cIa (rows0 (blkAt s.heap 1).2) 1)) (roRows (cIa (rows0 (blkAt s.heap 1).2) 2)))
theorem run18 (a_W : Int) (a_H : Int) (a_Cells : List (List AVal)) (b_W : Int) (b_H : Int) (b_Cells : List (List AVal)) : fcall TT TU GL0 C15 ownF true L18 Tryd.f18 [(.agg [(.sc (.int .i64 a_W)), (.sc (.int .i64 a_H)), (.ro 3 a_Cells)]), (.agg [(.sc (.int .i64 b_W)), (.sc (.int .i64 b_H)), (.ro 3 b_Cells)])] = (F_skirmishref07_Same a_W a_H a_Cells b_W b_H b_Cells).bind fun t => some (enc18 t) :=
  Eq.trans (b := (bif (a_W != b_W) then (some (CR.mk true (bo false) [] [])) else (bif (a_H != b_H) then (some (CR.mk true (bo false) [] [])) else (bif ((Int.ofNat a_Cells.length) != (Int.ofNat b_Cells.length)) then (some (CR.mk true (bo false) [] [])) else (Option.bind (G_skirmishref07_Same_0 a_Cells b_Cells FU (0 : Int)) fun t => (bif t then (some (CR.mk true (bo false) [] [])) else (some (CR.mk true (bo true) [] [])))))))) (by kernel_rfl)
    (n_condH rfl (fun h0 => rfl) fun h0 => (n_condH rfl (fun h1 => rfl) fun h1 => (n_condH rfl (fun h2 => rfl) fun h2 => (n_bind fun t => (n_condH rfl (fun h3 => rfl) fun h3 => rfl)))))
theorem lib18 : Lib Tryd.prog GL0 C18 :=
  Lib.fn lib15 mixed TT_ok Tryd.func18 (by decide +kernel) (by kernel_rfl) true L18 (loops_of 1 (by kernel_rfl) (belowS below0 okL18_0)) ks18 (F := fun us => F_skirmishref07_Same (toI (cIa (aggL (cIa us 0)) 0)) (toI (cIa (aggL (cIa us 0)) 1)) (roRows (cIa (aggL (cIa us 0)) 2)) (toI (cIa (aggL (cIa us 1)) 0)) (toI (cIa (aggL (cIa us 1)) 1)) (roRows (cIa (aggL (cIa us 1)) 2))) (fun us => rfl) (fun us => run18 (toI (cIa (aggL (cIa us 0)) 0)) (toI (cIa (aggL (cIa us 0)) 1)) (roRows (cIa (aggL (cIa us 0)) 2)) (toI (cIa (aggL (cIa us 1)) 0)) (toI (cIa (aggL (cIa us 1)) 1)) (roRows (cIa (aggL (cIa us 1)) 2))) (fun t => rfl)

/-! ### 3: skirmish/skirmishlaw07.TerrainValid -/



/-- 'skirmish/skirmishlaw07.TerrainValid' -/
noncomputable def F_skirmishlaw07_TerrainValid (m_W : Int) (m_H : Int) (m_Cells : List (List AVal)) (p_X : Int) (p_Y : Int) (c_Kind : Int) (c_Height : Int) (c_Amount : Int) : Option (Bool) :=
  Option.bind (F_skirmishlaw07_huge m_W m_H m_Cells) fun t =>
  bif t then
    Option.bind F_skirmishlaw07_awake fun t1 =>
    some t1
  else
  Option.bind (F_terrain_Get m_W m_H m_Cells p_X p_Y) fun t2 =>
  Option.bind (F_skirmishref07_Get m_W m_H m_Cells p_X p_Y) fun t3 =>
  Option.bind (F_terrain_Set m_W m_H m_Cells p_X p_Y c_Kind c_Height c_Amount) fun t4 =>
  Option.bind (F_skirmishref07_Set m_W m_H m_Cells p_X p_Y c_Kind c_Height c_Amount) fun t5 =>
  Option.bind (F_terrain_Valid m_W m_H m_Cells) fun t6 =>
  Option.bind (F_skirmishref07_Valid m_W m_H m_Cells) fun t7 =>
  bif (!(t6 == t7)) then
    some false
  else
  bif (!((t2.1 == t3.1) && ((t2.2.1 == t3.2.1) && (t2.2.2.1 == t3.2.2.1)))) then
    some false
  else
  bif (!(t2.2.2.2 == t3.2.2.2)) then
    some false
  else
  bif (t4.2.2.2 != t5.2.2.2) then
    some false
  else
  Option.bind (F_skirmishref07_Same t4.2.1 t4.2.2.1 t4.1 t5.2.1 t5.2.2.1 t5.1) fun t8 =>
  bif (!t8) then
    some false
  else
  bif (t4.2.2.2 != (0 : Int)) then
    Option.bind F_skirmishlaw07_awake fun t9 =>
    some t9
  else
  Option.bind (F_terrain_Get t4.2.1 t4.2.2.1 t4.1 p_X p_Y) fun t10 =>
  bif t10.2.2.2 then
    bif ((t10.1 == c_Kind) && ((t10.2.1 == c_Height) && (t10.2.2.1 == c_Amount))) then
      Option.bind (F_terrain_Valid t4.2.1 t4.2.2.1 t4.1) fun t11 =>
      bif t11 then
        Option.bind F_skirmishlaw07_awake fun t12 =>
        some t12
      else
      some false
    else
    some false
  else
  some false
noncomputable def enc3 (t : Bool) : CR := ⟨true, (.sc (.bool t)), [], []⟩
noncomputable def ks3 : List SK := [.agg [.int .i64, .int .i64, .ro 3], .agg [.int .i64, .int .i64], .agg [.int .i64, .int .i64, .int .i64]]
noncomputable def S3 (us : List AVal) : Call := bif chkA ks3 us then Call.of (F_skirmishlaw07_TerrainValid (toI (cIa (aggL (cIa us 0)) 0)) (toI (cIa (aggL (cIa us 0)) 1)) (roRows (cIa (aggL (cIa us 0)) 2)) (toI (cIa (aggL (cIa us 1)) 0)) (toI (cIa (aggL (cIa us 1)) 1)) (toI (cIa (aggL (cIa us 2)) 0)) (toI (cIa (aggL (cIa us 2)) 1)) (toI (cIa (aggL (cIa us 2)) 2))) enc3 else Call.none
noncomputable def C3 := AI.ext 3 S3 C18

theorem run3 (m_W : Int) (m_H : Int) (m_Cells : List (List AVal)) (p_X : Int) (p_Y : Int) (c_Kind : Int) (c_Height : Int) (c_Amount : Int) : fcall TT TU GL0 C18 ownF true noL Tryd.f3 [(.agg [(.sc (.int .i64 m_W)), (.sc (.int .i64 m_H)), (.ro 3 m_Cells)]), (.agg [(.sc (.int .i64 p_X)), (.sc (.int .i64 p_Y))]), (.agg [(.sc (.int .i64 c_Kind)), (.sc (.int .i64 c_Height)), (.sc (.int .i64 c_Amount))])] = (F_skirmishlaw07_TerrainValid m_W m_H m_Cells p_X p_Y c_Kind c_Height c_Amount).bind fun t => some (enc3 t) :=
  Eq.trans (b := (Option.bind (F_skirmishlaw07_huge m_W m_H m_Cells) fun t => (bif t then (Option.bind F_skirmishlaw07_awake fun t1 => (some (CR.mk true (bo t1) [] []))) else (Option.bind (F_terrain_Get m_W m_H m_Cells p_X p_Y) fun t2 => (Option.bind (F_skirmishref07_Get m_W m_H m_Cells p_X p_Y) fun t3 => (Option.bind (F_terrain_Set m_W m_H m_Cells p_X p_Y c_Kind c_Height c_Amount) fun t4 => (bif ((((true && (verEq t4.1.length t4.1.length)) && true) && true) && true) then (Option.bind (F_skirmishref07_Set m_W m_H m_Cells p_X p_Y c_Kind c_Height c_Amount) fun t5 => (bif ((((true && (verEq t5.1.length t5.1.length)) && true) && true) && true) then (Option.bind (F_terrain_Valid m_W m_H m_Cells) fun t6 => (Option.bind (F_skirmishref07_Valid m_W m_H m_Cells) fun t7 => (bif (!(t6 == t7)) then (some (CR.mk true (bo false) [] [])) else (bif (!((t2.1 == t3.1) && ((t2.2.1 == t3.2.1) && (t2.2.2.1 == t3.2.2.1)))) then (some (CR.mk true (bo false) [] [])) else (bif (!(t2.2.2.2 == t3.2.2.2)) then (some (CR.mk true (bo false) [] [])) else (bif (t4.2.2.2 != t5.2.2.2) then (some (CR.mk true (bo false) [] [])) else (bif (verEq t4.1.length t4.1.length) then (bif (verEq t5.1.length t5.1.length) then (Option.bind (F_skirmishref07_Same t4.2.1 t4.2.2.1 t4.1 t5.2.1 t5.2.2.1 t5.1) fun t8 => (bif (!t8) then (some (CR.mk true (bo false) [] [])) else (bif (t4.2.2.2 != (0 : Int)) then (Option.bind F_skirmishlaw07_awake fun t9 => (some (CR.mk true (bo t9) [] []))) else (bif (verEq t4.1.length t4.1.length) then (Option.bind (F_terrain_Get t4.2.1 t4.2.2.1 t4.1 p_X p_Y) fun t10 => (bif t10.2.2.2 then (bif ((t10.1 == c_Kind) && ((t10.2.1 == c_Height) && (t10.2.2.1 == c_Amount))) then (bif (verEq t4.1.length t4.1.length) then (Option.bind (F_terrain_Valid t4.2.1 t4.2.2.1 t4.1) fun t11 => (bif t11 then (Option.bind F_skirmishlaw07_awake fun t12 => (some (CR.mk true (bo t12) [] []))) else (some (CR.mk true (bo false) [] [])))) else none) else (some (CR.mk true (bo false) [] []))) else (some (CR.mk true (bo false) [] [])))) else none)))) else none) else none))))))) else none)) else none))))))) (by kernel_rfl)
    (n_bind fun t => (n_condH rfl (fun h0 => (n_bind fun t1 => rfl)) fun h0 => (n_bind fun t2 => (n_bind fun t3 => (n_bind fun t4 => (n_true (n_andL (n_andL (n_andL (n_andL rfl (verEq_rfl _)) rfl) rfl) rfl) (n_bind fun t5 => (n_true (n_andL (n_andL (n_andL (n_andL rfl (verEq_rfl _)) rfl) rfl) rfl) (n_bind fun t6 => (n_bind fun t7 => (n_condH rfl (fun h1 => rfl) fun h1 => (n_condH rfl (fun h2 => rfl) fun h2 => (n_condH rfl (fun h3 => rfl) fun h3 => (n_condH rfl (fun h4 => rfl) fun h4 => (n_true (verEq_rfl _) (n_true (verEq_rfl _) (n_bind fun t8 => (n_condH rfl (fun h5 => rfl) fun h5 => (n_condH rfl (fun h6 => (n_bind fun t9 => rfl)) fun h6 => (n_true (verEq_rfl _) (n_bind fun t10 => (n_condH rfl (fun h7 => (n_condH rfl (fun h8 => (n_true (verEq_rfl _) (n_bind fun t11 => (n_condH rfl (fun h9 => (n_bind fun t12 => rfl)) fun h9 => rfl)))) fun h8 => rfl)) fun h7 => rfl))))))))))))))))))))))
theorem lib3 : Lib Tryd.prog GL0 C3 :=
  Lib.fn lib18 mixed TT_ok Tryd.func3 (by decide +kernel) (by kernel_rfl) true noL (loops_of 0 (by kernel_rfl) below0) ks3 (F := fun us => F_skirmishlaw07_TerrainValid (toI (cIa (aggL (cIa us 0)) 0)) (toI (cIa (aggL (cIa us 0)) 1)) (roRows (cIa (aggL (cIa us 0)) 2)) (toI (cIa (aggL (cIa us 1)) 0)) (toI (cIa (aggL (cIa us 1)) 1)) (toI (cIa (aggL (cIa us 2)) 0)) (toI (cIa (aggL (cIa us 2)) 1)) (toI (cIa (aggL (cIa us 2)) 2))) (fun us => rfl) (fun us => run3 (toI (cIa (aggL (cIa us 0)) 0)) (toI (cIa (aggL (cIa us 0)) 1)) (roRows (cIa (aggL (cIa us 0)) 2)) (toI (cIa (aggL (cIa us 1)) 0)) (toI (cIa (aggL (cIa us 1)) 1)) (toI (cIa (aggL (cIa us 2)) 0)) (toI (cIa (aggL (cIa us 2)) 1)) (toI (cIa (aggL (cIa us 2)) 2))) (fun t => rfl)

/-! ### 20: skirmish/skirmishref07.Passable -/



/-- 'skirmish/skirmishref07.Passable' -/
noncomputable def F_skirmishref07_Passable (m_W : Int) (m_H : Int) (m_Cells : List (List AVal)) (class_ : Int) (p_X : Int) (p_Y : Int) : Option (Bool) :=
  Option.bind (F_skirmishref07_Get m_W m_H m_Cells p_X p_Y) fun t =>
  bif (class_ == (1 : Int)) then
    bif t.2.2.2 then
      bif (t.1 == (1 : Int)) then
        some true
      else
      some (t.1 == (5 : Int))
    else
    some false
  else
  bif (class_ == (2 : Int)) then
    bif t.2.2.2 then
      bif (t.1 == (1 : Int)) then
        some true
      else
      bif (t.1 == (5 : Int)) then
        some true
      else
      some (t.1 == (2 : Int))
    else
    some false
  else
  bif (class_ == (3 : Int)) then
    some t.2.2.2
  else
  some false
noncomputable def enc20 (t : Bool) : CR := ⟨true, (.sc (.bool t)), [], []⟩
noncomputable def ks20 : List SK := [.agg [.int .i64, .int .i64, .ro 3], .f (.int .i64), .agg [.int .i64, .int .i64]]
noncomputable def S20 (us : List AVal) : Call := bif chkA ks20 us then Call.of (F_skirmishref07_Passable (toI (cIa (aggL (cIa us 0)) 0)) (toI (cIa (aggL (cIa us 0)) 1)) (roRows (cIa (aggL (cIa us 0)) 2)) (toI (cIa us 1)) (toI (cIa (aggL (cIa us 2)) 0)) (toI (cIa (aggL (cIa us 2)) 1))) enc20 else Call.none
noncomputable def C20 := AI.ext 20 S20 C3

theorem run20 (m_W : Int) (m_H : Int) (m_Cells : List (List AVal)) (class_ : Int) (p_X : Int) (p_Y : Int) : fcall TT TU GL0 C3 ownF true noL Tryd.f20 [(.agg [(.sc (.int .i64 m_W)), (.sc (.int .i64 m_H)), (.ro 3 m_Cells)]), (.sc (.int .i64 class_)), (.agg [(.sc (.int .i64 p_X)), (.sc (.int .i64 p_Y))])] = (F_skirmishref07_Passable m_W m_H m_Cells class_ p_X p_Y).bind fun t => some (enc20 t) :=
  Eq.trans (b := (Option.bind (F_skirmishref07_Get m_W m_H m_Cells p_X p_Y) fun t => (bif (class_ == (1 : Int)) then (bif t.2.2.2 then (bif (t.1 == (1 : Int)) then (some (CR.mk true (bo true) [] [])) else (some (CR.mk true (bo (t.1 == (5 : Int))) [] []))) else (some (CR.mk true (bo false) [] []))) else (bif (class_ == (2 : Int)) then (bif t.2.2.2 then (bif (t.1 == (1 : Int)) then (some (CR.mk true (bo true) [] [])) else (bif (t.1 == (5 : Int)) then (some (CR.mk true (bo true) [] [])) else (some (CR.mk true (bo (t.1 == (2 : Int))) [] [])))) else (some (CR.mk true (bo false) [] []))) else (bif (class_ == (3 : Int)) then (some (CR.mk true (bo t.2.2.2) [] [])) else (some (CR.mk true (bo false) [] []))))))) (by kernel_rfl)
    (n_bind fun t => (n_condH rfl (fun h0 => (n_condH rfl (fun h1 => (n_condH rfl (fun h2 => rfl) fun h2 => rfl)) fun h1 => rfl)) fun h0 => (n_condH rfl (fun h1 => (n_condH rfl (fun h2 => (n_condH rfl (fun h3 => rfl) fun h3 => (n_condH rfl (fun h4 => rfl) fun h4 => rfl))) fun h2 => rfl)) fun h1 => (n_condH rfl (fun h2 => rfl) fun h2 => rfl))))
theorem lib20 : Lib Tryd.prog GL0 C20 :=
  Lib.fn lib3 mixed TT_ok Tryd.func20 (by decide +kernel) (by kernel_rfl) true noL (loops_of 0 (by kernel_rfl) below0) ks20 (F := fun us => F_skirmishref07_Passable (toI (cIa (aggL (cIa us 0)) 0)) (toI (cIa (aggL (cIa us 0)) 1)) (roRows (cIa (aggL (cIa us 0)) 2)) (toI (cIa us 1)) (toI (cIa (aggL (cIa us 2)) 0)) (toI (cIa (aggL (cIa us 2)) 1))) (fun us => rfl) (fun us => run20 (toI (cIa (aggL (cIa us 0)) 0)) (toI (cIa (aggL (cIa us 0)) 1)) (roRows (cIa (aggL (cIa us 0)) 2)) (toI (cIa us 1)) (toI (cIa (aggL (cIa us 2)) 0)) (toI (cIa (aggL (cIa us 2)) 1))) (fun t => rfl)

/-! ### 22: skirmish/skirmishref07.Opaque -/



/-- 'skirmish/skirmishref07.Opaque' -/
noncomputable def F_skirmishref07_Opaque (m_W : Int) (m_H : Int) (m_Cells : List (List AVal)) (p_X : Int) (p_Y : Int) : Option (Bool) :=
  Option.bind (F_skirmishref07_Get m_W m_H m_Cells p_X p_Y) fun t =>
  bif (!t.2.2.2) then
    some true
  else
  bif (t.1 == (3 : Int)) then
    some true
  else
  some (t.1 == (4 : Int))
noncomputable def enc22 (t : Bool) : CR := ⟨true, (.sc (.bool t)), [], []⟩
noncomputable def ks22 : List SK := [.agg [.int .i64, .int .i64, .ro 3], .agg [.int .i64, .int .i64]]
noncomputable def S22 (us : List AVal) : Call := bif chkA ks22 us then Call.of (F_skirmishref07_Opaque (toI (cIa (aggL (cIa us 0)) 0)) (toI (cIa (aggL (cIa us 0)) 1)) (roRows (cIa (aggL (cIa us 0)) 2)) (toI (cIa (aggL (cIa us 1)) 0)) (toI (cIa (aggL (cIa us 1)) 1))) enc22 else Call.none
noncomputable def C22 := AI.ext 22 S22 C20

theorem run22 (m_W : Int) (m_H : Int) (m_Cells : List (List AVal)) (p_X : Int) (p_Y : Int) : fcall TT TU GL0 C20 ownF true noL Tryd.f22 [(.agg [(.sc (.int .i64 m_W)), (.sc (.int .i64 m_H)), (.ro 3 m_Cells)]), (.agg [(.sc (.int .i64 p_X)), (.sc (.int .i64 p_Y))])] = (F_skirmishref07_Opaque m_W m_H m_Cells p_X p_Y).bind fun t => some (enc22 t) :=
  Eq.trans (b := (Option.bind (F_skirmishref07_Get m_W m_H m_Cells p_X p_Y) fun t => (bif (!t.2.2.2) then (some (CR.mk true (bo true) [] [])) else (bif (t.1 == (3 : Int)) then (some (CR.mk true (bo true) [] [])) else (some (CR.mk true (bo (t.1 == (4 : Int))) [] [])))))) (by kernel_rfl)
    (n_bind fun t => (n_condH rfl (fun h0 => rfl) fun h0 => (n_condH rfl (fun h1 => rfl) fun h1 => rfl)))
theorem lib22 : Lib Tryd.prog GL0 C22 :=
  Lib.fn lib20 mixed TT_ok Tryd.func22 (by decide +kernel) (by kernel_rfl) true noL (loops_of 0 (by kernel_rfl) below0) ks22 (F := fun us => F_skirmishref07_Opaque (toI (cIa (aggL (cIa us 0)) 0)) (toI (cIa (aggL (cIa us 0)) 1)) (roRows (cIa (aggL (cIa us 0)) 2)) (toI (cIa (aggL (cIa us 1)) 0)) (toI (cIa (aggL (cIa us 1)) 1))) (fun us => rfl) (fun us => run22 (toI (cIa (aggL (cIa us 0)) 0)) (toI (cIa (aggL (cIa us 0)) 1)) (roRows (cIa (aggL (cIa us 0)) 2)) (toI (cIa (aggL (cIa us 1)) 0)) (toI (cIa (aggL (cIa us 1)) 1))) (fun t => rfl)

/-! ### 4: skirmish/skirmishlaw07.TerrainPassable -/



/-- 'skirmish/skirmishlaw07.TerrainPassable' -/
noncomputable def F_skirmishlaw07_TerrainPassable (m_W : Int) (m_H : Int) (m_Cells : List (List AVal)) (class_ : Int) (p_X : Int) (p_Y : Int) : Option (Bool) :=
  Option.bind (F_skirmishlaw07_huge m_W m_H m_Cells) fun t =>
  bif t then
    Option.bind F_skirmishlaw07_awake fun t1 =>
    some t1
  else
  Option.bind (F_terrain_Passable m_W m_H m_Cells class_ p_X p_Y) fun t2 =>
  Option.bind (F_skirmishref07_Passable m_W m_H m_Cells class_ p_X p_Y) fun t3 =>
  bif (t2 == t3) then
    Option.bind (F_terrain_Opaque m_W m_H m_Cells p_X p_Y) fun t4 =>
    Option.bind (F_skirmishref07_Opaque m_W m_H m_Cells p_X p_Y) fun t5 =>
    bif (t4 == t5) then
      Option.bind F_skirmishlaw07_awake fun t6 =>
      some t6
    else
    some false
  else
  some false
noncomputable def enc4 (t : Bool) : CR := ⟨true, (.sc (.bool t)), [], []⟩
noncomputable def ks4 : List SK := [.agg [.int .i64, .int .i64, .ro 3], .f (.int .i64), .agg [.int .i64, .int .i64]]
noncomputable def S4 (us : List AVal) : Call := bif chkA ks4 us then Call.of (F_skirmishlaw07_TerrainPassable (toI (cIa (aggL (cIa us 0)) 0)) (toI (cIa (aggL (cIa us 0)) 1)) (roRows (cIa (aggL (cIa us 0)) 2)) (toI (cIa us 1)) (toI (cIa (aggL (cIa us 2)) 0)) (toI (cIa (aggL (cIa us 2)) 1))) enc4 else Call.none
noncomputable def C4 := AI.ext 4 S4 C22

theorem run4 (m_W : Int) (m_H : Int) (m_Cells : List (List AVal)) (class_ : Int) (p_X : Int) (p_Y : Int) : fcall TT TU GL0 C22 ownF true noL Tryd.f4 [(.agg [(.sc (.int .i64 m_W)), (.sc (.int .i64 m_H)), (.ro 3 m_Cells)]), (.sc (.int .i64 class_)), (.agg [(.sc (.int .i64 p_X)), (.sc (.int .i64 p_Y))])] = (F_skirmishlaw07_TerrainPassable m_W m_H m_Cells class_ p_X p_Y).bind fun t => some (enc4 t) :=
  Eq.trans (b := (Option.bind (F_skirmishlaw07_huge m_W m_H m_Cells) fun t => (bif t then (Option.bind F_skirmishlaw07_awake fun t1 => (some (CR.mk true (bo t1) [] []))) else (Option.bind (F_terrain_Passable m_W m_H m_Cells class_ p_X p_Y) fun t2 => (Option.bind (F_skirmishref07_Passable m_W m_H m_Cells class_ p_X p_Y) fun t3 => (bif (t2 == t3) then (Option.bind (F_terrain_Opaque m_W m_H m_Cells p_X p_Y) fun t4 => (Option.bind (F_skirmishref07_Opaque m_W m_H m_Cells p_X p_Y) fun t5 => (bif (t4 == t5) then (Option.bind F_skirmishlaw07_awake fun t6 => (some (CR.mk true (bo t6) [] []))) else (some (CR.mk true (bo false) [] []))))) else (some (CR.mk true (bo false) [] [])))))))) (by kernel_rfl)
    (n_bind fun t => (n_condH rfl (fun h0 => (n_bind fun t1 => rfl)) fun h0 => (n_bind fun t2 => (n_bind fun t3 => (n_condH rfl (fun h1 => (n_bind fun t4 => (n_bind fun t5 => (n_condH rfl (fun h2 => (n_bind fun t6 => rfl)) fun h2 => rfl)))) fun h1 => rfl)))))
theorem lib4 : Lib Tryd.prog GL0 C4 :=
  Lib.fn lib22 mixed TT_ok Tryd.func4 (by decide +kernel) (by kernel_rfl) true noL (loops_of 0 (by kernel_rfl) below0) ks4 (F := fun us => F_skirmishlaw07_TerrainPassable (toI (cIa (aggL (cIa us 0)) 0)) (toI (cIa (aggL (cIa us 0)) 1)) (roRows (cIa (aggL (cIa us 0)) 2)) (toI (cIa us 1)) (toI (cIa (aggL (cIa us 2)) 0)) (toI (cIa (aggL (cIa us 2)) 1))) (fun us => rfl) (fun us => run4 (toI (cIa (aggL (cIa us 0)) 0)) (toI (cIa (aggL (cIa us 0)) 1)) (roRows (cIa (aggL (cIa us 0)) 2)) (toI (cIa us 1)) (toI (cIa (aggL (cIa us 2)) 0)) (toI (cIa (aggL (cIa us 2)) 1))) (fun t => rfl)

/-! ### 48: skirmish/skirmishref06.Shift -/



/-- 'skirmish/skirmishref06.Shift' -/
noncomputable def F_skirmishref06_Shift (dir : Int) : Option (Int × Int) :=
  bif (dir == (0 : Int)) then
    some ((1 : Int), (0 : Int))
  else
  bif (dir == (1 : Int)) then
    some ((1 : Int), (1 : Int))
  else
  bif (dir == (2 : Int)) then
    some ((0 : Int), (1 : Int))
  else
  bif (dir == (3 : Int)) then
    some ((-(1 : Int)), (1 : Int))
  else
  bif (dir == (4 : Int)) then
    some ((-(1 : Int)), (0 : Int))
  else
  bif (dir == (5 : Int)) then
    some ((-(1 : Int)), (-(1 : Int)))
  else
  bif (dir == (6 : Int)) then
    some ((0 : Int), (-(1 : Int)))
  else
  bif (dir == (7 : Int)) then
    some ((1 : Int), (-(1 : Int)))
  else
  some ((0 : Int), (0 : Int))
noncomputable def enc48 (t : Int × Int) : CR := ⟨true, (.agg [(.sc (.int .i64 t.1)), (.sc (.int .i64 t.2))]), [], []⟩
noncomputable def ks48 : List SK := [.f (.int .i64)]
noncomputable def S48 (us : List AVal) : Call := bif chkA ks48 us then Call.of (F_skirmishref06_Shift (toI (cIa us 0))) enc48 else Call.none
noncomputable def C48 := AI.ext 48 S48 C4

theorem run48 (dir : Int) : fcall TT TU GL0 C4 ownF true noL Tryd.f48 [(.sc (.int .i64 dir))] = (F_skirmishref06_Shift dir).bind fun t => some (enc48 t) :=
  Eq.trans (b := (bif (dir == (0 : Int)) then (some (CR.mk true (AVal.agg [(i64 (1 : Int)), (i64 (0 : Int))]) [] [])) else (bif (dir == (1 : Int)) then (some (CR.mk true (AVal.agg [(i64 (1 : Int)), (i64 (1 : Int))]) [] [])) else (bif (dir == (2 : Int)) then (some (CR.mk true (AVal.agg [(i64 (0 : Int)), (i64 (1 : Int))]) [] [])) else (bif (dir == (3 : Int)) then (some (CR.mk true (AVal.agg [(i64 (-(1 : Int))), (i64 (1 : Int))]) [] [])) else (bif (dir == (4 : Int)) then (some (CR.mk true (AVal.agg [(i64 (-(1 : Int))), (i64 (0 : Int))]) [] [])) else (bif (dir == (5 : Int)) then (some (CR.mk true (AVal.agg [(i64 (-(1 : Int))), (i64 (-(1 : Int)))]) [] [])) else (bif (dir == (6 : Int)) then (some (CR.mk true (AVal.agg [(i64 (0 : Int)), (i64 (-(1 : Int)))]) [] [])) else (bif (dir == (7 : Int)) then (some (CR.mk true (AVal.agg [(i64 (1 : Int)), (i64 (-(1 : Int)))]) [] [])) else (some (CR.mk true (AVal.agg [(i64 (0 : Int)), (i64 (0 : Int))]) [] []))))))))))) (by kernel_rfl)
    (n_condH rfl (fun h0 => rfl) fun h0 => (n_condH rfl (fun h1 => rfl) fun h1 => (n_condH rfl (fun h2 => rfl) fun h2 => (n_condH rfl (fun h3 => rfl) fun h3 => (n_condH rfl (fun h4 => rfl) fun h4 => (n_condH rfl (fun h5 => rfl) fun h5 => (n_condH rfl (fun h6 => rfl) fun h6 => (n_condH rfl (fun h7 => rfl) fun h7 => rfl))))))))
theorem lib48 : Lib Tryd.prog GL0 C48 :=
  Lib.fn lib4 mixed TT_ok Tryd.func48 (by decide +kernel) (by kernel_rfl) true noL (loops_of 0 (by kernel_rfl) below0) ks48 (F := fun us => F_skirmishref06_Shift (toI (cIa us 0))) (fun us => rfl) (fun us => run48 (toI (cIa us 0))) (fun t => rfl)

/-! ### 25: skirmish/skirmishref06.Step -/



/-- 'skirmish/skirmishref06.Step' -/
noncomputable def F_skirmishref06_Step (p_X : Int) (p_Y : Int) (dir : Int) : Option (Int × Int) :=
  bif (decide (dir < (0 : Int))) then
    some (p_X, p_Y)
  else
  bif (decide (dir > (7 : Int))) then
    some (p_X, p_Y)
  else
  Option.bind (F_skirmishref06_pos p_X p_Y) fun t =>
  Option.bind (F_skirmishref06_Shift dir) fun t1 =>
  some ((wr (t.1 + t1.1)), (wr (t.2 + t1.2)))
noncomputable def enc25 (t : Int × Int) : CR := ⟨true, (.agg [(.sc (.int .i64 t.1)), (.sc (.int .i64 t.2))]), [], []⟩
noncomputable def ks25 : List SK := [.agg [.int .i64, .int .i64], .f (.int .i64)]
noncomputable def S25 (us : List AVal) : Call := bif chkA ks25 us then Call.of (F_skirmishref06_Step (toI (cIa (aggL (cIa us 0)) 0)) (toI (cIa (aggL (cIa us 0)) 1)) (toI (cIa us 1))) enc25 else Call.none
noncomputable def C25 := AI.ext 25 S25 C48

theorem run25 (p_X : Int) (p_Y : Int) (dir : Int) : fcall TT TU GL0 C48 ownF true noL Tryd.f25 [(.agg [(.sc (.int .i64 p_X)), (.sc (.int .i64 p_Y))]), (.sc (.int .i64 dir))] = (F_skirmishref06_Step p_X p_Y dir).bind fun t => some (enc25 t) :=
  Eq.trans (b := (bif (decide (dir < (0 : Int))) then (some (CR.mk true (AVal.agg [(i64 p_X), (i64 p_Y)]) [] [])) else (bif (decide (dir > (7 : Int))) then (some (CR.mk true (AVal.agg [(i64 p_X), (i64 p_Y)]) [] [])) else (Option.bind (F_skirmishref06_pos p_X p_Y) fun t => (Option.bind (F_skirmishref06_Shift dir) fun t1 => (some (CR.mk true (AVal.agg [(i64 (wr (t.1 + t1.1))), (i64 (wr (t.2 + t1.2)))]) [] []))))))) (by kernel_rfl)
    (n_condH rfl (fun h0 => rfl) fun h0 => (n_condH rfl (fun h1 => rfl) fun h1 => (n_bind fun t => (n_bind fun t1 => rfl))))
theorem lib25 : Lib Tryd.prog GL0 C25 :=
  Lib.fn lib48 mixed TT_ok Tryd.func25 (by decide +kernel) (by kernel_rfl) true noL (loops_of 0 (by kernel_rfl) below0) ks25 (F := fun us => F_skirmishref06_Step (toI (cIa (aggL (cIa us 0)) 0)) (toI (cIa (aggL (cIa us 0)) 1)) (toI (cIa us 1))) (fun us => rfl) (fun us => run25 (toI (cIa (aggL (cIa us 0)) 0)) (toI (cIa (aggL (cIa us 0)) 1)) (toI (cIa us 1))) (fun t => rfl)

/-! ### 61: skirmish/skirmishref07.Open -/



/-- 'skirmish/skirmishref07.Open' -/
noncomputable def F_skirmishref07_Open (m_W : Int) (m_H : Int) (m_Cells : List (List AVal)) (blocked : List (List AVal)) (class_ : Int) (p_X : Int) (p_Y : Int) : Option (Bool) :=
  Option.bind (F_skirmishref07_Passable m_W m_H m_Cells class_ p_X p_Y) fun t =>
  bif (!t) then
    some false
  else
  Option.bind (F_skirmishref06_Index m_W p_X p_Y) fun t1 =>
  bif (class_ == (3 : Int)) then
    some true
  else
  bif (decide (t1 ≥ (Int.ofNat blocked.length))) then
    some true
  else
  bif (decide ((0 : Int) ≤ t1)) then
    Option.bind (blocked[t1.toNat]?) fun r =>
    bif (chk [LT.bool] r) then
      some (!(cB r 0))
    else
    none
  else
  none
noncomputable def enc61 (t : Bool) : CR := ⟨true, (.sc (.bool t)), [], []⟩
noncomputable def ks61 : List SK := [.agg [.int .i64, .int .i64, .ro 3], .f (.ro 1), .f (.int .i64), .agg [.int .i64, .int .i64]]
noncomputable def S61 (us : List AVal) : Call := bif chkA ks61 us then Call.of (F_skirmishref07_Open (toI (cIa (aggL (cIa us 0)) 0)) (toI (cIa (aggL (cIa us 0)) 1)) (roRows (cIa (aggL (cIa us 0)) 2)) (roRows (cIa us 1)) (toI (cIa us 2)) (toI (cIa (aggL (cIa us 3)) 0)) (toI (cIa (aggL (cIa us 3)) 1))) enc61 else Call.none
noncomputable def C61 := AI.ext 61 S61 C25

theorem run61 (m_W : Int) (m_H : Int) (m_Cells : List (List AVal)) (blocked : List (List AVal)) (class_ : Int) (p_X : Int) (p_Y : Int) : fcall TT TU GL0 C25 ownF true noL Tryd.f61 [(.agg [(.sc (.int .i64 m_W)), (.sc (.int .i64 m_H)), (.ro 3 m_Cells)]), (.ro 1 blocked), (.sc (.int .i64 class_)), (.agg [(.sc (.int .i64 p_X)), (.sc (.int .i64 p_Y))])] = (F_skirmishref07_Open m_W m_H m_Cells blocked class_ p_X p_Y).bind fun t => some (enc61 t) :=
  Eq.trans (b := (Option.bind (F_skirmishref07_Passable m_W m_H m_Cells class_ p_X p_Y) fun t => (bif (!t) then (some (CR.mk true (bo false) [] [])) else (Option.bind (F_skirmishref06_Index m_W p_X p_Y) fun t1 => (bif (class_ == (3 : Int)) then (some (CR.mk true (bo true) [] [])) else (bif (decide (t1 ≥ (Int.ofNat blocked.length))) then (some (CR.mk true (bo true) [] [])) else (bif (decide ((0 : Int) ≤ t1)) then (Option.bind (blocked[t1.toNat]?) fun r => (bif (chk [LT.bool] r) then (some (CR.mk true (bo (!(cB r 0))) [] [])) else none)) else none))))))) (by kernel_rfl)
    (n_bind fun t => (n_condH rfl (fun h0 => rfl) fun h0 => (n_bind fun t1 => (n_condH rfl (fun h1 => rfl) fun h1 => (n_condH rfl (fun h2 => rfl) fun h2 => (n_condH rfl (fun h3 => (n_bind fun r => (n_condH rfl (fun h4 => rfl) fun h4 => n_none))) fun h3 => n_none))))))
theorem lib61 : Lib Tryd.prog GL0 C61 :=
  Lib.fn lib25 mixed TT_ok Tryd.func61 (by decide +kernel) (by kernel_rfl) true noL (loops_of 0 (by kernel_rfl) below0) ks61 (F := fun us => F_skirmishref07_Open (toI (cIa (aggL (cIa us 0)) 0)) (toI (cIa (aggL (cIa us 0)) 1)) (roRows (cIa (aggL (cIa us 0)) 2)) (roRows (cIa us 1)) (toI (cIa us 2)) (toI (cIa (aggL (cIa us 3)) 0)) (toI (cIa (aggL (cIa us 3)) 1))) (fun us => rfl) (fun us => run61 (toI (cIa (aggL (cIa us 0)) 0)) (toI (cIa (aggL (cIa us 0)) 1)) (roRows (cIa (aggL (cIa us 0)) 2)) (roRows (cIa us 1)) (toI (cIa us 2)) (toI (cIa (aggL (cIa us 3)) 0)) (toI (cIa (aggL (cIa us 3)) 1))) (fun t => rfl)

/-! ### 46: skirmish/skirmishref07.rise -/



/-- 'skirmish/skirmishref07.rise' -/
noncomputable def F_skirmishref07_rise (a_Kind : Int) (a_Height : Int) (a_Amount : Int) (b_Kind : Int) (b_Height : Int) (b_Amount : Int) : Option (Int) :=
  bif ((maxI a_Height b_Height) == (minI a_Height b_Height)) then
    some (0 : Int)
  else
  bif ((wr ((maxI a_Height b_Height) - (1 : Int))) == (minI a_Height b_Height)) then
    some (1 : Int)
  else
  some (2 : Int)
noncomputable def enc46 (t : Int) : CR := ⟨true, (.sc (.int .i64 t)), [], []⟩
noncomputable def ks46 : List SK := [.agg [.int .i64, .int .i64, .int .i64], .agg [.int .i64, .int .i64, .int .i64]]
noncomputable def S46 (us : List AVal) : Call := bif chkA ks46 us then Call.of (F_skirmishref07_rise (toI (cIa (aggL (cIa us 0)) 0)) (toI (cIa (aggL (cIa us 0)) 1)) (toI (cIa (aggL (cIa us 0)) 2)) (toI (cIa (aggL (cIa us 1)) 0)) (toI (cIa (aggL (cIa us 1)) 1)) (toI (cIa (aggL (cIa us 1)) 2))) enc46 else Call.none
noncomputable def C46 := AI.ext 46 S46 C61

theorem run46 (a_Kind : Int) (a_Height : Int) (a_Amount : Int) (b_Kind : Int) (b_Height : Int) (b_Amount : Int) : fcall TT TU GL0 C61 ownF true noL Tryd.f46 [(.agg [(.sc (.int .i64 a_Kind)), (.sc (.int .i64 a_Height)), (.sc (.int .i64 a_Amount))]), (.agg [(.sc (.int .i64 b_Kind)), (.sc (.int .i64 b_Height)), (.sc (.int .i64 b_Amount))])] = (F_skirmishref07_rise a_Kind a_Height a_Amount b_Kind b_Height b_Amount).bind fun t => some (enc46 t) :=
  Eq.trans (b := (bif ((maxI a_Height b_Height) == (minI a_Height b_Height)) then (some (CR.mk true (i64 (0 : Int)) [] [])) else (bif ((wr ((maxI a_Height b_Height) - (1 : Int))) == (minI a_Height b_Height)) then (some (CR.mk true (i64 (1 : Int)) [] [])) else (some (CR.mk true (i64 (2 : Int)) [] []))))) (by kernel_rfl)
    (n_condH rfl (fun h0 => rfl) fun h0 => (n_condH rfl (fun h1 => rfl) fun h1 => rfl))
theorem lib46 : Lib Tryd.prog GL0 C46 :=
  Lib.fn lib61 mixed TT_ok Tryd.func46 (by decide +kernel) (by kernel_rfl) true noL (loops_of 0 (by kernel_rfl) below0) ks46 (F := fun us => F_skirmishref07_rise (toI (cIa (aggL (cIa us 0)) 0)) (toI (cIa (aggL (cIa us 0)) 1)) (toI (cIa (aggL (cIa us 0)) 2)) (toI (cIa (aggL (cIa us 1)) 0)) (toI (cIa (aggL (cIa us 1)) 1)) (toI (cIa (aggL (cIa us 1)) 2))) (fun us => rfl) (fun us => run46 (toI (cIa (aggL (cIa us 0)) 0)) (toI (cIa (aggL (cIa us 0)) 1)) (toI (cIa (aggL (cIa us 0)) 2)) (toI (cIa (aggL (cIa us 1)) 0)) (toI (cIa (aggL (cIa us 1)) 1)) (toI (cIa (aggL (cIa us 1)) 2))) (fun t => rfl)

/-! ### 45: skirmish/skirmishref07.near -/



/-- 'skirmish/skirmishref07.near' -/
noncomputable def F_skirmishref07_near (m_W : Int) (m_H : Int) (m_Cells : List (List AVal)) (blocked : List (List AVal)) (class_ : Int) (p_X : Int) (p_Y : Int) (q_X : Int) (q_Y : Int) : Option (Bool) :=
  Option.bind (F_skirmishref07_Open m_W m_H m_Cells blocked class_ p_X p_Y) fun t =>
  bif (!t) then
    some false
  else
  Option.bind (F_skirmishref07_Open m_W m_H m_Cells blocked class_ q_X q_Y) fun t1 =>
  bif (!t1) then
    some false
  else
  Option.bind (F_skirmishref07_Get m_W m_H m_Cells p_X p_Y) fun t2 =>
  Option.bind (F_skirmishref07_Get m_W m_H m_Cells q_X q_Y) fun t3 =>
  bif (class_ == (3 : Int)) then
    some true
  else
  Option.bind (F_skirmishref07_rise t2.1 t2.2.1 t2.2.2.1 t3.1 t3.2.1 t3.2.2.1) fun t4 =>
  some (decide (t4 < (2 : Int)))
noncomputable def enc45 (t : Bool) : CR := ⟨true, (.sc (.bool t)), [], []⟩
noncomputable def ks45 : List SK := [.agg [.int .i64, .int .i64, .ro 3], .f (.ro 1), .f (.int .i64), .agg [.int .i64, .int .i64], .agg [.int .i64, .int .i64]]
noncomputable def S45 (us : List AVal) : Call := bif chkA ks45 us then Call.of (F_skirmishref07_near (toI (cIa (aggL (cIa us 0)) 0)) (toI (cIa (aggL (cIa us 0)) 1)) (roRows (cIa (aggL (cIa us 0)) 2)) (roRows (cIa us 1)) (toI (cIa us 2)) (toI (cIa (aggL (cIa us 3)) 0)) (toI (cIa (aggL (cIa us 3)) 1)) (toI (cIa (aggL (cIa us 4)) 0)) (toI (cIa (aggL (cIa us 4)) 1))) enc45 else Call.none
noncomputable def C45 := AI.ext 45 S45 C46

theorem run45 (m_W : Int) (m_H : Int) (m_Cells : List (List AVal)) (blocked : List (List AVal)) (class_ : Int) (p_X : Int) (p_Y : Int) (q_X : Int) (q_Y : Int) : fcall TT TU GL0 C46 ownF true noL Tryd.f45 [(.agg [(.sc (.int .i64 m_W)), (.sc (.int .i64 m_H)), (.ro 3 m_Cells)]), (.ro 1 blocked), (.sc (.int .i64 class_)), (.agg [(.sc (.int .i64 p_X)), (.sc (.int .i64 p_Y))]), (.agg [(.sc (.int .i64 q_X)), (.sc (.int .i64 q_Y))])] = (F_skirmishref07_near m_W m_H m_Cells blocked class_ p_X p_Y q_X q_Y).bind fun t => some (enc45 t) :=
  Eq.trans (b := (Option.bind (F_skirmishref07_Open m_W m_H m_Cells blocked class_ p_X p_Y) fun t => (bif (!t) then (some (CR.mk true (bo false) [] [])) else (Option.bind (F_skirmishref07_Open m_W m_H m_Cells blocked class_ q_X q_Y) fun t1 => (bif (!t1) then (some (CR.mk true (bo false) [] [])) else (Option.bind (F_skirmishref07_Get m_W m_H m_Cells p_X p_Y) fun t2 => (Option.bind (F_skirmishref07_Get m_W m_H m_Cells q_X q_Y) fun t3 => (bif (class_ == (3 : Int)) then (some (CR.mk true (bo true) [] [])) else (Option.bind (F_skirmishref07_rise t2.1 t2.2.1 t2.2.2.1 t3.1 t3.2.1 t3.2.2.1) fun t4 => (some (CR.mk true (bo (decide (t4 < (2 : Int)))) [] []))))))))))) (by kernel_rfl)
    (n_bind fun t => (n_condH rfl (fun h0 => rfl) fun h0 => (n_bind fun t1 => (n_condH rfl (fun h1 => rfl) fun h1 => (n_bind fun t2 => (n_bind fun t3 => (n_condH rfl (fun h2 => rfl) fun h2 => (n_bind fun t4 => rfl))))))))
theorem lib45 : Lib Tryd.prog GL0 C45 :=
  Lib.fn lib46 mixed TT_ok Tryd.func45 (by decide +kernel) (by kernel_rfl) true noL (loops_of 0 (by kernel_rfl) below0) ks45 (F := fun us => F_skirmishref07_near (toI (cIa (aggL (cIa us 0)) 0)) (toI (cIa (aggL (cIa us 0)) 1)) (roRows (cIa (aggL (cIa us 0)) 2)) (roRows (cIa us 1)) (toI (cIa us 2)) (toI (cIa (aggL (cIa us 3)) 0)) (toI (cIa (aggL (cIa us 3)) 1)) (toI (cIa (aggL (cIa us 4)) 0)) (toI (cIa (aggL (cIa us 4)) 1))) (fun us => rfl) (fun us => run45 (toI (cIa (aggL (cIa us 0)) 0)) (toI (cIa (aggL (cIa us 0)) 1)) (roRows (cIa (aggL (cIa us 0)) 2)) (roRows (cIa us 1)) (toI (cIa us 2)) (toI (cIa (aggL (cIa us 3)) 0)) (toI (cIa (aggL (cIa us 3)) 1)) (toI (cIa (aggL (cIa us 4)) 0)) (toI (cIa (aggL (cIa us 4)) 1))) (fun t => rfl)

/-! ### 24: skirmish/skirmishref07.Step -/



/-- 'skirmish/skirmishref07.Step' -/
noncomputable def F_skirmishref07_Step (m_W : Int) (m_H : Int) (m_Cells : List (List AVal)) (blocked : List (List AVal)) (class_ : Int) (p_X : Int) (p_Y : Int) (dir : Int) : Option (Int × Bool) :=
  bif (decide (dir < (0 : Int))) then
    some ((0 : Int), false)
  else
  bif (decide (dir > (7 : Int))) then
    some ((0 : Int), false)
  else
  Option.bind (F_skirmishref06_Step p_X p_Y dir) fun t =>
  Option.bind (F_skirmishref07_near m_W m_H m_Cells blocked class_ p_X p_Y t.1 t.2) fun t1 =>
  bif (!t1) then
    some ((0 : Int), false)
  else
  bif ((Int.tmod dir (2 : Int)) == (1 : Int)) then
    bif (class_ != (3 : Int)) then
      Option.bind (F_skirmishref07_near m_W m_H m_Cells blocked class_ p_X p_Y p_X t.2) fun t2 =>
      bif t2 then
        Option.bind (F_skirmishref07_near m_W m_H m_Cells blocked class_ p_X t.2 t.1 t.2) fun t3 =>
        bif t3 then
          Option.bind (F_skirmishref07_near m_W m_H m_Cells blocked class_ p_X p_Y t.1 p_Y) fun t4 =>
          bif t4 then
            Option.bind (F_skirmishref07_near m_W m_H m_Cells blocked class_ t.1 p_Y t.1 t.2) fun t5 =>
            bif (!t5) then
              some ((0 : Int), false)
            else
            Option.bind (F_skirmishref07_Get m_W m_H m_Cells p_X p_Y) fun t6 =>
            Option.bind (F_skirmishref07_Get m_W m_H m_Cells t.1 t.2) fun t7 =>
            Option.bind (F_skirmishref07_rise t6.1 t6.2.1 t6.2.2.1 t7.1 t7.2.1 t7.2.2.1) fun t8 =>
            bif (t8 == (1 : Int)) then
              some ((wr ((14 : Int) + (5 : Int))), true)
            else
            some ((14 : Int), true)
          else
          some ((0 : Int), false)
        else
        some ((0 : Int), false)
      else
      some ((0 : Int), false)
    else
    Option.bind (F_skirmishref07_Get m_W m_H m_Cells p_X p_Y) fun t9 =>
    Option.bind (F_skirmishref07_Get m_W m_H m_Cells t.1 t.2) fun t10 =>
    some ((14 : Int), true)
  else
  Option.bind (F_skirmishref07_Get m_W m_H m_Cells p_X p_Y) fun t12 =>
  Option.bind (F_skirmishref07_Get m_W m_H m_Cells t.1 t.2) fun t13 =>
  bif (class_ != (3 : Int)) then
    Option.bind (F_skirmishref07_rise t12.1 t12.2.1 t12.2.2.1 t13.1 t13.2.1 t13.2.2.1) fun t14 =>
    bif (t14 == (1 : Int)) then
      some ((wr ((10 : Int) + (5 : Int))), true)
    else
    some ((10 : Int), true)
  else
  some ((10 : Int), true)
noncomputable def enc24 (t : Int × Bool) : CR := ⟨true, (.tup [(.sc (.int .i64 t.1)), (.sc (.bool t.2))]), [], []⟩
noncomputable def ks24 : List SK := [.agg [.int .i64, .int .i64, .ro 3], .f (.ro 1), .f (.int .i64), .agg [.int .i64, .int .i64], .f (.int .i64)]
noncomputable def S24 (us : List AVal) : Call := bif chkA ks24 us then Call.of (F_skirmishref07_Step (toI (cIa (aggL (cIa us 0)) 0)) (toI (cIa (aggL (cIa us 0)) 1)) (roRows (cIa (aggL (cIa us 0)) 2)) (roRows (cIa us 1)) (toI (cIa us 2)) (toI (cIa (aggL (cIa us 3)) 0)) (toI (cIa (aggL (cIa us 3)) 1)) (toI (cIa us 4))) enc24 else Call.none
noncomputable def C24 := AI.ext 24 S24 C45

theorem run24 (m_W : Int) (m_H : Int) (m_Cells : List (List AVal)) (blocked : List (List AVal)) (class_ : Int) (p_X : Int) (p_Y : Int) (dir : Int) : fcall TT TU GL0 C45 ownF true noL Tryd.f24 [(.agg [(.sc (.int .i64 m_W)), (.sc (.int .i64 m_H)), (.ro 3 m_Cells)]), (.ro 1 blocked), (.sc (.int .i64 class_)), (.agg [(.sc (.int .i64 p_X)), (.sc (.int .i64 p_Y))]), (.sc (.int .i64 dir))] = (F_skirmishref07_Step m_W m_H m_Cells blocked class_ p_X p_Y dir).bind fun t => some (enc24 t) :=
  Eq.trans (b := (bif (decide (dir < (0 : Int))) then (some (CR.mk true (AVal.tup [(i64 (0 : Int)), (bo false)]) [] [])) else (bif (decide (dir > (7 : Int))) then (some (CR.mk true (AVal.tup [(i64 (0 : Int)), (bo false)]) [] [])) else (Option.bind (F_skirmishref06_Step p_X p_Y dir) fun t => (Option.bind (F_skirmishref07_near m_W m_H m_Cells blocked class_ p_X p_Y t.1 t.2) fun t1 => (bif (!t1) then (some (CR.mk true (AVal.tup [(i64 (0 : Int)), (bo false)]) [] [])) else (bif ((Int.tmod dir (2 : Int)) == (1 : Int)) then (bif (class_ != (3 : Int)) then (Option.bind (F_skirmishref07_near m_W m_H m_Cells blocked class_ p_X p_Y p_X t.2) fun t2 => (bif t2 then (Option.bind (F_skirmishref07_near m_W m_H m_Cells blocked class_ p_X t.2 t.1 t.2) fun t3 => (bif t3 then (Option.bind (F_skirmishref07_near m_W m_H m_Cells blocked class_ p_X p_Y t.1 p_Y) fun t4 => (bif t4 then (Option.bind (F_skirmishref07_near m_W m_H m_Cells blocked class_ t.1 p_Y t.1 t.2) fun t5 => (bif (!t5) then (some (CR.mk true (AVal.tup [(i64 (0 : Int)), (bo false)]) [] [])) else (Option.bind (F_skirmishref07_Get m_W m_H m_Cells p_X p_Y) fun t6 => (Option.bind (F_skirmishref07_Get m_W m_H m_Cells t.1 t.2) fun t7 => (bif (class_ != (3 : Int)) then (Option.bind (F_skirmishref07_rise t6.1 t6.2.1 t6.2.2.1 t7.1 t7.2.1 t7.2.2.1) fun t8 => (bif (t8 == (1 : Int)) then (some (CR.mk true (AVal.tup [(i64 (wr ((14 : Int) + (5 : Int)))), (bo true)]) [] [])) else (some (CR.mk true (AVal.tup [(i64 (14 : Int)), (bo true)]) [] [])))) else (some (CR.mk true (AVal.tup [(i64 (14 : Int)), (bo true)]) [] []))))))) else (some (CR.mk true (AVal.tup [(i64 (0 : Int)), (bo false)]) [] [])))) else (some (CR.mk true (AVal.tup [(i64 (0 : Int)), (bo false)]) [] [])))) else (some (CR.mk true (AVal.tup [(i64 (0 : Int)), (bo false)]) [] [])))) else (Option.bind (F_skirmishref07_Get m_W m_H m_Cells p_X p_Y) fun t9 => (Option.bind (F_skirmishref07_Get m_W m_H m_Cells t.1 t.2) fun t10 => (bif (class_ != (3 : Int)) then (Option.bind (F_skirmishref07_rise t9.1 t9.2.1 t9.2.2.1 t10.1 t10.2.1 t10.2.2.1) fun t11 => (bif (t11 == (1 : Int)) then (some (CR.mk true (AVal.tup [(i64 (wr ((14 : Int) + (5 : Int)))), (bo true)]) [] [])) else (some (CR.mk true (AVal.tup [(i64 (14 : Int)), (bo true)]) [] [])))) else (some (CR.mk true (AVal.tup [(i64 (14 : Int)), (bo true)]) [] [])))))) else (Option.bind (F_skirmishref07_Get m_W m_H m_Cells p_X p_Y) fun t12 => (Option.bind (F_skirmishref07_Get m_W m_H m_Cells t.1 t.2) fun t13 => (bif (class_ != (3 : Int)) then (Option.bind (F_skirmishref07_rise t12.1 t12.2.1 t12.2.2.1 t13.1 t13.2.1 t13.2.2.1) fun t14 => (bif (t14 == (1 : Int)) then (some (CR.mk true (AVal.tup [(i64 (wr ((10 : Int) + (5 : Int)))), (bo true)]) [] [])) else (some (CR.mk true (AVal.tup [(i64 (10 : Int)), (bo true)]) [] [])))) else (some (CR.mk true (AVal.tup [(i64 (10 : Int)), (bo true)]) [] [])))))))))))) (by kernel_rfl)
    (n_condH rfl (fun h0 => rfl) fun h0 => (n_condH rfl (fun h1 => rfl) fun h1 => (n_bind fun t => (n_bind fun t1 => (n_condH rfl (fun h2 => rfl) fun h2 => (n_condH rfl (fun h3 => (n_condH rfl (fun h4 => (n_bind fun t2 => (n_condH rfl (fun h5 => (n_bind fun t3 => (n_condH rfl (fun h6 => (n_bind fun t4 => (n_condH rfl (fun h7 => (n_bind fun t5 => (n_condH rfl (fun h8 => rfl) fun h8 => (n_bind fun t6 => (n_bind fun t7 => (n_true h4 (n_bind fun t8 => (n_condH rfl (fun h9 => rfl) fun h9 => rfl)))))))) fun h7 => rfl))) fun h6 => rfl))) fun h5 => rfl))) fun h4 => (n_bind fun t9 => (n_bind fun t10 => (n_false h4 rfl))))) fun h3 => (n_bind fun t12 => (n_bind fun t13 => (n_condH rfl (fun h4 => (n_bind fun t14 => (n_condH rfl (fun h5 => rfl) fun h5 => rfl))) fun h4 => rfl)))))))))
theorem lib24 : Lib Tryd.prog GL0 C24 :=
  Lib.fn lib45 mixed TT_ok Tryd.func24 (by decide +kernel) (by kernel_rfl) true noL (loops_of 0 (by kernel_rfl) below0) ks24 (F := fun us => F_skirmishref07_Step (toI (cIa (aggL (cIa us 0)) 0)) (toI (cIa (aggL (cIa us 0)) 1)) (roRows (cIa (aggL (cIa us 0)) 2)) (roRows (cIa us 1)) (toI (cIa us 2)) (toI (cIa (aggL (cIa us 3)) 0)) (toI (cIa (aggL (cIa us 3)) 1)) (toI (cIa us 4))) (fun us => rfl) (fun us => run24 (toI (cIa (aggL (cIa us 0)) 0)) (toI (cIa (aggL (cIa us 0)) 1)) (roRows (cIa (aggL (cIa us 0)) 2)) (roRows (cIa us 1)) (toI (cIa us 2)) (toI (cIa (aggL (cIa us 3)) 0)) (toI (cIa (aggL (cIa us 3)) 1)) (toI (cIa us 4))) (fun t => rfl)

/-! ### 5: skirmish/skirmishlaw07.TerrainSteps -/



/-- 'skirmish/skirmishlaw07.TerrainSteps' -/
noncomputable def F_skirmishlaw07_TerrainSteps (m_W : Int) (m_H : Int) (m_Cells : List (List AVal)) (blocked : List (List AVal)) (w_Class : Int) (w_Dir : Int) (w_At_X : Int) (w_At_Y : Int) : Option (Bool) :=
  Option.bind (F_skirmishlaw07_huge m_W m_H m_Cells) fun t =>
  bif t then
    Option.bind F_skirmishlaw07_awake fun t1 =>
    some t1
  else
  bif (decide ((Int.ofNat blocked.length) > (3000 : Int))) then
    Option.bind F_skirmishlaw07_awake fun t2 =>
    some t2
  else
  Option.bind (F_terrain_Step m_W m_H m_Cells blocked w_Class w_At_X w_At_Y w_Dir) fun t3 =>
  Option.bind (F_skirmishref07_Step m_W m_H m_Cells blocked w_Class w_At_X w_At_Y w_Dir) fun t4 =>
  bif (t3.1 == t4.1) then
    bif (t3.2 == t4.2) then
      Option.bind F_skirmishlaw07_awake fun t5 =>
      some t5
    else
    some false
  else
  some false
noncomputable def enc5 (t : Bool) : CR := ⟨true, (.sc (.bool t)), [], []⟩
noncomputable def ks5 : List SK := [.agg [.int .i64, .int .i64, .ro 3], .f (.ro 1), .agg [.int .i64, .int .i64, .int .i64, .int .i64]]
noncomputable def S5 (us : List AVal) : Call := bif chkA ks5 us then Call.of (F_skirmishlaw07_TerrainSteps (toI (cIa (aggL (cIa us 0)) 0)) (toI (cIa (aggL (cIa us 0)) 1)) (roRows (cIa (aggL (cIa us 0)) 2)) (roRows (cIa us 1)) (toI (cIa (aggL (cIa us 2)) 0)) (toI (cIa (aggL (cIa us 2)) 1)) (toI (cIa (aggL (cIa us 2)) 2)) (toI (cIa (aggL (cIa us 2)) 3))) enc5 else Call.none
noncomputable def C5 := AI.ext 5 S5 C24

theorem run5 (m_W : Int) (m_H : Int) (m_Cells : List (List AVal)) (blocked : List (List AVal)) (w_Class : Int) (w_Dir : Int) (w_At_X : Int) (w_At_Y : Int) : fcall TT TU GL0 C24 ownF true noL Tryd.f5 [(.agg [(.sc (.int .i64 m_W)), (.sc (.int .i64 m_H)), (.ro 3 m_Cells)]), (.ro 1 blocked), (.agg [(.sc (.int .i64 w_Class)), (.sc (.int .i64 w_Dir)), (.sc (.int .i64 w_At_X)), (.sc (.int .i64 w_At_Y))])] = (F_skirmishlaw07_TerrainSteps m_W m_H m_Cells blocked w_Class w_Dir w_At_X w_At_Y).bind fun t => some (enc5 t) :=
  Eq.trans (b := (Option.bind (F_skirmishlaw07_huge m_W m_H m_Cells) fun t => (bif t then (Option.bind F_skirmishlaw07_awake fun t1 => (some (CR.mk true (bo t1) [] []))) else (bif (decide ((Int.ofNat blocked.length) > (3000 : Int))) then (Option.bind F_skirmishlaw07_awake fun t2 => (some (CR.mk true (bo t2) [] []))) else (Option.bind (F_terrain_Step m_W m_H m_Cells blocked w_Class w_At_X w_At_Y w_Dir) fun t3 => (Option.bind (F_skirmishref07_Step m_W m_H m_Cells blocked w_Class w_At_X w_At_Y w_Dir) fun t4 => (bif (t3.1 == t4.1) then (bif (t3.2 == t4.2) then (Option.bind F_skirmishlaw07_awake fun t5 => (some (CR.mk true (bo t5) [] []))) else (some (CR.mk true (bo false) [] []))) else (some (CR.mk true (bo false) [] []))))))))) (by kernel_rfl)
    (n_bind fun t => (n_condH rfl (fun h0 => (n_bind fun t1 => rfl)) fun h0 => (n_condH rfl (fun h1 => (n_bind fun t2 => rfl)) fun h1 => (n_bind fun t3 => (n_bind fun t4 => (n_condH rfl (fun h2 => (n_condH rfl (fun h3 => (n_bind fun t5 => rfl)) fun h3 => rfl)) fun h2 => rfl))))))
theorem lib5 : Lib Tryd.prog GL0 C5 :=
  Lib.fn lib24 mixed TT_ok Tryd.func5 (by decide +kernel) (by kernel_rfl) true noL (loops_of 0 (by kernel_rfl) below0) ks5 (F := fun us => F_skirmishlaw07_TerrainSteps (toI (cIa (aggL (cIa us 0)) 0)) (toI (cIa (aggL (cIa us 0)) 1)) (roRows (cIa (aggL (cIa us 0)) 2)) (roRows (cIa us 1)) (toI (cIa (aggL (cIa us 2)) 0)) (toI (cIa (aggL (cIa us 2)) 1)) (toI (cIa (aggL (cIa us 2)) 2)) (toI (cIa (aggL (cIa us 2)) 3))) (fun us => rfl) (fun us => run5 (toI (cIa (aggL (cIa us 0)) 0)) (toI (cIa (aggL (cIa us 0)) 1)) (roRows (cIa (aggL (cIa us 0)) 2)) (roRows (cIa us 1)) (toI (cIa (aggL (cIa us 2)) 0)) (toI (cIa (aggL (cIa us 2)) 1)) (toI (cIa (aggL (cIa us 2)) 2)) (toI (cIa (aggL (cIa us 2)) 3))) (fun t => rfl)

/-! ### 6: skirmish/skirmishlaw07.TerrainSymmetric -/

noncomputable def W6_0 : Ex → List Bool
  | .ret => [false, false, false, false, false, false, true, false, false, false, false, false, false, false, false, false, false, false, false, false, false, false, false, false, false, false, false, false, false, false, false, false, false, false, false, false, false, false, false, false, false, false, false, false, false, false, false, false, false, false, false, false, false, false, false, false, false, false, false, false, false, false, false, false, false, false, false, false, false, false, false, false, false, false, false, false, false, false, false, false, false, false, false]
  | .exit n => bif Nat.beq n 0 then [false, false, false, false, false, false, false, false, false, false, false, false, false, false, false, false, false, false, false, false, false, false, false, false, false, false, false, false, false, false, false, false, false, false, false, false, false, false, false, false, false, false, false, false, false, false, false, false, false, false, false, false, false, false, false, false, false, false, false, false, false, false, false, false, false, false, false, false, false, false, false, false, false, false, false, false, false, false, false, false, false, false, false] else []
  | .normal => []
noncomputable def G_skirmishlaw07_TerrainSymmetric_0 (blocked : List (List AVal)) (b0_0 : Int) (b0_1 : Int) (b0_2 : List (List AVal)) (b1_0 : Int) (b1_2 : Int) (b1_3 : Int) : Nat → Int → Option (Bool × Int × Int)
  | 0, _ => none
  | m + 1, dir =>
    bif (decide (dir < (8 : Int))) then
      Option.bind (F_skirmishref06_Step b1_2 b1_3 dir) fun t =>
      Option.bind (F_terrain_Step b0_0 b0_1 b0_2 blocked b1_0 b1_2 b1_3 dir) fun t1 =>
      Option.bind (F_terrain_Step b0_0 b0_1 b0_2 blocked b1_0 t.1 t.2 (Int.tmod (wr (dir + (4 : Int))) (8 : Int))) fun t2 =>
      bif (t1.1 != t2.1) then
        some (true, t.1, t.2)
      else
      bif (!(t1.2 == t2.2)) then
        some (true, t.1, t.2)
      else
      bif t1.2 then
        Option.bind (F_grid_In b0_0 b0_1 t.1 t.2) fun t3 =>
        bif (!t3) then
          some (true, t.1, t.2)
        else
        Option.bind (F_grid_In b0_0 b0_1 b1_2 b1_3) fun t4 =>
        bif (!t4) then
          some (true, t.1, t.2)
        else
        G_skirmishlaw07_TerrainSymmetric_0 blocked b0_0 b0_1 b0_2 b1_0 b1_2 b1_3 m (wr (dir + (1 : Int)))
      else
      G_skirmishlaw07_TerrainSymmetric_0 blocked b0_0 b0_1 b0_2 b1_0 b1_2 b1_3 m (wr (dir + (1 : Int)))
    else
    some (false, 0, 0)
noncomputable def E6_0 (blocked : List (List AVal)) (dir : Int) (b0_0 : Int) (b0_1 : Int) (b0_2 : List (List AVal)) (b1_0 : Int) (b1_1 : Int) (b1_2 : Int) (b1_3 : Int) : St := ⟨[.dead, (.ro 1 blocked), .dead, (.ref 8000 1 0 0), .dead, (.ref 8008 1 0 0), .dead, (.sc (.int .i64 dir)), .dead, .dead, .dead, .dead, .dead, .dead, .dead, .dead, .dead, .dead, .dead, .dead, .dead, .dead, .dead, .dead, .dead, .dead, .dead, .dead, .dead, .dead, .dead, .dead, .dead, .dead, .dead, .dead, .dead, .dead, .dead, .dead, .dead, .dead, .dead, .dead, .dead, .dead, .dead, .dead, .dead, .dead, .dead, .dead, .dead, .dead, .dead, .dead, .dead, .dead, .dead, .dead, .dead, .dead, .dead, .dead, .dead, .dead, .dead, .dead, .dead, .dead, .dead, .dead, .dead, .dead, .dead, .dead, .dead, .dead, .dead, .dead, .dead, .dead, .dead], [(8000, ⟨.box, 24, 3, [[(.sc (.int .i64 b0_0)), (.sc (.int .i64 b0_1)), (.ro 3 b0_2)]]⟩), (8008, ⟨.box, 42, 4, [[(.sc (.int .i64 b1_0)), (.sc (.int .i64 b1_1)), (.sc (.int .i64 b1_2)), (.sc (.int .i64 b1_3))]]⟩)]⟩
noncomputable def X6_0 (b0_0 : Int) (b0_1 : Int) (b0_2 : List (List AVal)) (b1_0 : Int) (b1_1 : Int) (b1_2 : Int) (b1_3 : Int) (k : Ex → St → Option CR) (t : Bool × Int × Int) : Option CR := bif t.1 then k .ret ⟨[.dead, .dead, .dead, .dead, .dead, .dead, (.sc (.bool false)), .dead, .dead, .dead, .dead, .dead, .dead, .dead, .dead, .dead, .dead, .dead, .dead, .dead, .dead, .dead, .dead, .dead, .dead, .dead, .dead, .dead, .dead, .dead, .dead, .dead, .dead, .dead, .dead, .dead, .dead, .dead, .dead, .dead, .dead, .dead, .dead, .dead, .dead, .dead, .dead, .dead, .dead, .dead, .dead, .dead, .dead, .dead, .dead, .dead, .dead, .dead, .dead, .dead, .dead, .dead, .dead, .dead, .dead, .dead, .dead, .dead, .dead, .dead, .dead, .dead, .dead, .dead, .dead, .dead, .dead, .dead, .dead, .dead, .dead, .dead, .dead], [(8000, ⟨.box, 24, 3, [[(.sc (.int .i64 b0_0)), (.sc (.int .i64 b0_1)), (.ro 3 b0_2)]]⟩), (8008, ⟨.box, 42, 4, [[(.sc (.int .i64 b1_0)), (.sc (.int .i64 b1_1)), (.sc (.int .i64 b1_2)), (.sc (.int .i64 b1_3))]]⟩), (17632, ⟨.box, 26, 2, [[(.sc (.int .i64 t.2.1)), (.sc (.int .i64 t.2.2))]]⟩)]⟩ else k (.exit 0) ⟨[.dead, .dead, .dead, .dead, .dead, .dead, .dead, .dead, .dead, .dead, .dead, .dead, .dead, .dead, .dead, .dead, .dead, .dead, .dead, .dead, .dead, .dead, .dead, .dead, .dead, .dead, .dead, .dead, .dead, .dead, .dead, .dead, .dead, .dead, .dead, .dead, .dead, .dead, .dead, .dead, .dead, .dead, .dead, .dead, .dead, .dead, .dead, .dead, .dead, .dead, .dead, .dead, .dead, .dead, .dead, .dead, .dead, .dead, .dead, .dead, .dead, .dead, .dead, .dead, .dead, .dead, .dead, .dead, .dead, .dead, .dead, .dead, .dead, .dead, .dead, .dead, .dead, .dead, .dead, .dead, .dead, .dead, .dead], [(8000, ⟨.box, 24, 3, [[(.sc (.int .i64 b0_0)), (.sc (.int .i64 b0_1)), (.ro 3 b0_2)]]⟩), (8008, ⟨.box, 42, 4, [[(.sc (.int .i64 b1_0)), (.sc (.int .i64 b1_1)), (.sc (.int .i64 b1_2)), (.sc (.int .i64 b1_3))]]⟩)]⟩
noncomputable def ks6_0 : List SK := [.f .dead, .f (.ro 1), .f .dead, .f (.ref 8000 1 0 0), .f .dead, .f (.ref 8008 1 0 0), .f .dead, .f (.int .i64), .f .dead, .f .dead, .f .dead, .f .dead, .f .dead, .f .dead, .f .dead, .f .dead, .f .dead, .f .dead, .f .dead, .f .dead, .f .dead, .f .dead, .f .dead, .f .dead, .f .dead, .f .dead, .f .dead, .f .dead, .f .dead, .f .dead, .f .dead, .f .dead, .f .dead, .f .dead, .f .dead, .f .dead, .f .dead, .f .dead, .f .dead, .f .dead, .f .dead, .f .dead, .f .dead, .f .dead, .f .dead, .f .dead, .f .dead, .f .dead, .f .dead, .f .dead, .f .dead, .f .dead, .f .dead, .f .dead, .f .dead, .f .dead, .f .dead, .f .dead, .f .dead, .f .dead, .f .dead, .f .dead, .f .dead, .f .dead, .f .dead, .f .dead, .f .dead, .f .dead, .f .dead, .f .dead, .f .dead, .f .dead, .f .dead, .f .dead, .f .dead, .f .dead, .f .dead, .f .dead, .f .dead, .f .dead, .f .dead, .f .dead, .f .dead]
noncomputable def hs6_0 : List HK := [⟨8000, .box, 24, 3, some [.int .i64, .int .i64, .ro 3]⟩, ⟨8008, .box, 42, 4, some [.int .i64, .int .i64, .int .i64, .int .i64]⟩]
noncomputable def L6_0 (s : St) (k : Ex → St → Option CR) : Option CR := bif chkS ks6_0 hs6_0 s then (G_skirmishlaw07_TerrainSymmetric_0 (roRows (cIa s.tmps 1)) (toI (cIa (rows0 (blkAt s.heap 0).2) 0)) (toI (cIa (rows0 (blkAt s.heap 0).2) 1)) (roRows (cIa (rows0 (blkAt s.heap 0).2) 2)) (toI (cIa (rows0 (blkAt s.heap 1).2) 0)) (toI (cIa (rows0 (blkAt s.heap 1).2) 2)) (toI (cIa (rows0 (blkAt s.heap 1).2) 3)) FU (toI (cIa s.tmps 7))).bind (X6_0 (toI (cIa (rows0 (blkAt s.heap 0).2) 0)) (toI (cIa (rows0 (blkAt s.heap 0).2) 1)) (roRows (cIa (rows0 (blkAt s.heap 0).2) 2)) (toI (cIa (rows0 (blkAt s.heap 1).2) 0)) (toI (cIa (rows0 (blkAt s.heap 1).2) 1)) (toI (cIa (rows0 (blkAt s.heap 1).2) 2)) (toI (cIa (rows0 (blkAt s.heap 1).2) 3)) k) else none

noncomputable def L6 : LT' := fun i s k => bif Nat.beq i 0 then L6_0 s k else none

/-- 'skirmish/skirmishlaw07.TerrainSymmetric' -/
noncomputable def F_skirmishlaw07_TerrainSymmetric (m_W : Int) (m_H : Int) (m_Cells : List (List AVal)) (blocked : List (List AVal)) (w_Class : Int) (w_Dir : Int) (w_At_X : Int) (w_At_Y : Int) : Option (Bool) :=
  Option.bind (F_skirmishlaw07_huge m_W m_H m_Cells) fun t =>
  bif t then
    Option.bind F_skirmishlaw07_awake fun t1 =>
    some t1
  else
  bif (decide ((Int.ofNat blocked.length) > (3000 : Int))) then
    Option.bind F_skirmishlaw07_awake fun t2 =>
    some t2
  else
  Option.bind (G_skirmishlaw07_TerrainSymmetric_0 blocked m_W m_H m_Cells w_Class w_At_X w_At_Y FU (0 : Int)) fun t3 =>
  bif t3.1 then
    some false
  else
  Option.bind F_skirmishlaw07_awake fun t4 =>
  some t4
noncomputable def enc6 (t : Bool) : CR := ⟨true, (.sc (.bool t)), [], []⟩
noncomputable def ks6 : List SK := [.agg [.int .i64, .int .i64, .ro 3], .f (.ro 1), .agg [.int .i64, .int .i64, .int .i64, .int .i64]]
noncomputable def S6 (us : List AVal) : Call := bif chkA ks6 us then Call.of (F_skirmishlaw07_TerrainSymmetric (toI (cIa (aggL (cIa us 0)) 0)) (toI (cIa (aggL (cIa us 0)) 1)) (roRows (cIa (aggL (cIa us 0)) 2)) (roRows (cIa us 1)) (toI (cIa (aggL (cIa us 2)) 0)) (toI (cIa (aggL (cIa us 2)) 1)) (toI (cIa (aggL (cIa us 2)) 2)) (toI (cIa (aggL (cIa us 2)) 3))) enc6 else Call.none
noncomputable def C6 := AI.ext 6 S6 C5

@[reducible] noncomputable def B6_0 := bodyOf TT TU GL0 C5 ownF L6 (lp Tryd.f6 0)
@[reducible] noncomputable def K6_0 (k : Ex → St → Option CR) : Ex → St → Option CR := fun e s => k e (maskS (W6_0 e) s)
theorem spec6_0 (k : Ex → St → Option CR) : ∀ (m : Nat) (blocked : List (List AVal)) (dir : Int) (b0_0 : Int) (b0_1 : Int) (b0_2 : List (List AVal)) (b1_0 : Int) (b1_1 : Int) (b1_2 : Int) (b1_3 : Int), loopN B6_0 m (E6_0 blocked dir b0_0 b0_1 b0_2 b1_0 b1_1 b1_2 b1_3) (K6_0 k) = (G_skirmishlaw07_TerrainSymmetric_0 blocked b0_0 b0_1 b0_2 b1_0 b1_2 b1_3 m dir).bind (X6_0 b0_0 b0_1 b0_2 b1_0 b1_1 b1_2 b1_3 k)
  | 0, _, _, _, _, _, _, _, _, _ => rfl
  | m + 1, blocked, dir, b0_0, b0_1, b0_2, b1_0, b1_1, b1_2, b1_3 =>
    Eq.trans (b := (bif (decide (dir < (8 : Int))) then (Option.bind (F_skirmishref06_Step b1_2 b1_3 dir) fun t => (Option.bind (F_terrain_Step b0_0 b0_1 b0_2 blocked b1_0 b1_2 b1_3 dir) fun t1 => (Option.bind (F_terrain_Step b0_0 b0_1 b0_2 blocked b1_0 t.1 t.2 (Int.tmod (wr (dir + (4 : Int))) (8 : Int))) fun t2 => (bif (t1.1 != t2.1) then (k .ret ⟨[.dead, .dead, .dead, .dead, .dead, .dead, (bo false), .dead, .dead, .dead, .dead, .dead, .dead, .dead, .dead, .dead, .dead, .dead, .dead, .dead, .dead, .dead, .dead, .dead, .dead, .dead, .dead, .dead, .dead, .dead, .dead, .dead, .dead, .dead, .dead, .dead, .dead, .dead, .dead, .dead, .dead, .dead, .dead, .dead, .dead, .dead, .dead, .dead, .dead, .dead, .dead, .dead, .dead, .dead, .dead, .dead, .dead, .dead, .dead, .dead, .dead, .dead, .dead, .dead, .dead, .dead, .dead, .dead, .dead, .dead, .dead, .dead, .dead, .dead, .dead, .dead, .dead, .dead, .dead, .dead, .dead, .dead, .dead], [(Prod.mk 8000 (Blk.mk BKind.box 24 3 [[(i64 b0_0), (i64 b0_1), (AVal.ro 3 b0_2)]])), (Prod.mk 8008 (Blk.mk BKind.box 42 4 [[(i64 b1_0), (i64 b1_1), (i64 b1_2), (i64 b1_3)]])), (Prod.mk 17632 (Blk.mk BKind.box 26 2 [[(i64 t.1), (i64 t.2)]]))]⟩) else (bif (!(t1.2 == t2.2)) then (k .ret ⟨[.dead, .dead, .dead, .dead, .dead, .dead, (bo false), .dead, .dead, .dead, .dead, .dead, .dead, .dead, .dead, .dead, .dead, .dead, .dead, .dead, .dead, .dead, .dead, .dead, .dead, .dead, .dead, .dead, .dead, .dead, .dead, .dead, .dead, .dead, .dead, .dead, .dead, .dead, .dead, .dead, .dead, .dead, .dead, .dead, .dead, .dead, .dead, .dead, .dead, .dead, .dead, .dead, .dead, .dead, .dead, .dead, .dead, .dead, .dead, .dead, .dead, .dead, .dead, .dead, .dead, .dead, .dead, .dead, .dead, .dead, .dead, .dead, .dead, .dead, .dead, .dead, .dead, .dead, .dead, .dead, .dead, .dead, .dead], [(Prod.mk 8000 (Blk.mk BKind.box 24 3 [[(i64 b0_0), (i64 b0_1), (AVal.ro 3 b0_2)]])), (Prod.mk 8008 (Blk.mk BKind.box 42 4 [[(i64 b1_0), (i64 b1_1), (i64 b1_2), (i64 b1_3)]])), (Prod.mk 17632 (Blk.mk BKind.box 26 2 [[(i64 t.1), (i64 t.2)]]))]⟩) else (bif t1.2 then (Option.bind (F_grid_In b0_0 b0_1 t.1 t.2) fun t3 => (bif (!t3) then (k .ret ⟨[.dead, .dead, .dead, .dead, .dead, .dead, (bo false), .dead, .dead, .dead, .dead, .dead, .dead, .dead, .dead, .dead, .dead, .dead, .dead, .dead, .dead, .dead, .dead, .dead, .dead, .dead, .dead, .dead, .dead, .dead, .dead, .dead, .dead, .dead, .dead, .dead, .dead, .dead, .dead, .dead, .dead, .dead, .dead, .dead, .dead, .dead, .dead, .dead, .dead, .dead, .dead, .dead, .dead, .dead, .dead, .dead, .dead, .dead, .dead, .dead, .dead, .dead, .dead, .dead, .dead, .dead, .dead, .dead, .dead, .dead, .dead, .dead, .dead, .dead, .dead, .dead, .dead, .dead, .dead, .dead, .dead, .dead, .dead], [(Prod.mk 8000 (Blk.mk BKind.box 24 3 [[(i64 b0_0), (i64 b0_1), (AVal.ro 3 b0_2)]])), (Prod.mk 8008 (Blk.mk BKind.box 42 4 [[(i64 b1_0), (i64 b1_1), (i64 b1_2), (i64 b1_3)]])), (Prod.mk 17632 (Blk.mk BKind.box 26 2 [[(i64 t.1), (i64 t.2)]]))]⟩) else (Option.bind (F_grid_In b0_0 b0_1 b1_2 b1_3) fun t4 => (bif (!t4) then (k .ret ⟨[.dead, .dead, .dead, .dead, .dead, .dead, (bo false), .dead, .dead, .dead, .dead, .dead, .dead, .dead, .dead, .dead, .dead, .dead, .dead, .dead, .dead, .dead, .dead, .dead, .dead, .dead, .dead, .dead, .dead, .dead, .dead, .dead, .dead, .dead, .dead, .dead, .dead, .dead, .dead, .dead, .dead, .dead, .dead, .dead, .dead, .dead, .dead, .dead, .dead, .dead, .dead, .dead, .dead, .dead, .dead, .dead, .dead, .dead, .dead, .dead, .dead, .dead, .dead, .dead, .dead, .dead, .dead, .dead, .dead, .dead, .dead, .dead, .dead, .dead, .dead, .dead, .dead, .dead, .dead, .dead, .dead, .dead, .dead], [(Prod.mk 8000 (Blk.mk BKind.box 24 3 [[(i64 b0_0), (i64 b0_1), (AVal.ro 3 b0_2)]])), (Prod.mk 8008 (Blk.mk BKind.box 42 4 [[(i64 b1_0), (i64 b1_1), (i64 b1_2), (i64 b1_3)]])), (Prod.mk 17632 (Blk.mk BKind.box 26 2 [[(i64 t.1), (i64 t.2)]]))]⟩) else (loopN B6_0 m ⟨[.dead, (AVal.ro 1 blocked), .dead, (AVal.ref 8000 1 0 0), .dead, (AVal.ref 8008 1 0 0), .dead, (i64 (wr (dir + (1 : Int)))), .dead, .dead, .dead, .dead, .dead, .dead, .dead, .dead, .dead, .dead, .dead, .dead, .dead, .dead, .dead, .dead, .dead, .dead, .dead, .dead, .dead, .dead, .dead, .dead, .dead, .dead, .dead, .dead, .dead, .dead, .dead, .dead, .dead, .dead, .dead, .dead, .dead, .dead, .dead, .dead, .dead, .dead, .dead, .dead, .dead, .dead, .dead, .dead, .dead, .dead, .dead, .dead, .dead, .dead, .dead, .dead, .dead, .dead, .dead, .dead, .dead, .dead, .dead, .dead, .dead, .dead, .dead, .dead, .dead, .dead, .dead, .dead, .dead, .dead, .dead], [(Prod.mk 8000 (Blk.mk BKind.box 24 3 [[(i64 b0_0), (i64 b0_1), (AVal.ro 3 b0_2)]])), (Prod.mk 8008 (Blk.mk BKind.box 42 4 [[(i64 b1_0), (i64 b1_1), (i64 b1_2), (i64 b1_3)]]))]⟩ (K6_0 k)))))) else (loopN B6_0 m ⟨[.dead, (AVal.ro 1 blocked), .dead, (AVal.ref 8000 1 0 0), .dead, (AVal.ref 8008 1 0 0), .dead, (i64 (wr (dir + (1 : Int)))), .dead, .dead, .dead, .dead, .dead, .dead, .dead, .dead, .dead, .dead, .dead, .dead, .dead, .dead, .dead, .dead, .dead, .dead, .dead, .dead, .dead, .dead, .dead, .dead, .dead, .dead, .dead, .dead, .dead, .dead, .dead, .dead, .dead, .dead, .dead, .dead, .dead, .dead, .dead, .dead, .dead, .dead, .dead, .dead, .dead, .dead, .dead, .dead, .dead, .dead, .dead, .dead, .dead, .dead, .dead, .dead, .dead, .dead, .dead, .dead, .dead, .dead, .dead, .dead, .dead, .dead, .dead, .dead, .dead, .dead, .dead, .dead, .dead, .dead, .dead], [(Prod.mk 8000 (Blk.mk BKind.box 24 3 [[(i64 b0_0), (i64 b0_1), (AVal.ro 3 b0_2)]])), (Prod.mk 8008 (Blk.mk BKind.box 42 4 [[(i64 b1_0), (i64 b1_1), (i64 b1_2), (i64 b1_3)]]))]⟩ (K6_0 k)))))))) else (k (.exit 0) ⟨[.dead, .dead, .dead, .dead, .dead, .dead, .dead, .dead, .dead, .dead, .dead, .dead, .dead, .dead, .dead, .dead, .dead, .dead, .dead, .dead, .dead, .dead, .dead, .dead, .dead, .dead, .dead, .dead, .dead, .dead, .dead, .dead, .dead, .dead, .dead, .dead, .dead, .dead, .dead, .dead, .dead, .dead, .dead, .dead, .dead, .dead, .dead, .dead, .dead, .dead, .dead, .dead, .dead, .dead, .dead, .dead, .dead, .dead, .dead, .dead, .dead, .dead, .dead, .dead, .dead, .dead, .dead, .dead, .dead, .dead, .dead, .dead, .dead, .dead, .dead, .dead, .dead, .dead, .dead, .dead, .dead, .dead, .dead], [(Prod.mk 8000 (Blk.mk BKind.box 24 3 [[(i64 b0_0), (i64 b0_1), (AVal.ro 3 b0_2)]])), (Prod.mk 8008 (Blk.mk BKind.box 42 4 [[(i64 b1_0), (i64 b1_1), (i64 b1_2), (i64 b1_3)]]))]⟩))) (by kernel_rfl)
      (n_condH rfl (fun h0 => (n_bind fun t => (n_bind fun t1 => (n_bind fun t2 => (n_condH rfl (fun h1 => rfl) fun h1 => (n_condH rfl (fun h2 => rfl) fun h2 => (n_condH rfl (fun h3 => (n_bind fun t3 => (n_condH rfl (fun h4 => rfl) fun h4 => (n_bind fun t4 => (n_condH rfl (fun h5 => rfl) fun h5 => (spec6_0 k m blocked (wr (dir + (1 : Int))) b0_0 b0_1 b0_2 b1_0 b1_1 b1_2 b1_3)))))) fun h3 => (spec6_0 k m blocked (wr (dir + (1 : Int))) b0_0 b0_1 b0_2 b1_0 b1_1 b1_2 b1_3)))))))) fun h0 => rfl)
theorem okL6_0 : LoopOk TT TU GL0 C5 ownF L6 (lp Tryd.f6 0) :=
  loopOk_of ks6_0 hs6_0 W6_0 FU (fun s k => (G_skirmishlaw07_TerrainSymmetric_0 (roRows (cIa s.tmps 1)) (toI (cIa (rows0 (blkAt s.heap 0).2) 0)) (toI (cIa (rows0 (blkAt s.heap 0).2) 1)) (roRows (cIa (rows0 (blkAt s.heap 0).2) 2)) (toI (cIa (rows0 (blkAt s.heap 1).2) 0)) (toI (cIa (rows0 (blkAt s.heap 1).2) 2)) (toI (cIa (rows0 (blkAt s.heap 1).2) 3)) FU (toI (cIa s.tmps 7))).bind (X6_0 (toI (cIa (rows0 (blkAt s.heap 0).2) 0)) (toI (cIa (rows0 (blkAt s.heap 0).2) 1)) (roRows (cIa (rows0 (blkAt s.heap 0).2) 2)) (toI (cIa (rows0 (blkAt s.heap 1).2) 0)) (toI (cIa (rows0 (blkAt s.heap 1).2) 1)) (toI (cIa (rows0 (blkAt s.heap 1).2) 2)) (toI (cIa (rows0 (blkAt s.heap 1).2) 3)) k)) (fun s k => by kernel_rfl) (fun s k => spec6_0 k FU (roRows (cIa s.tmps 1)) (toI (cIa s.tmps 7)) (toI (cIa (rows0 (blkAt s.heap 0).2) 0)) (toI (cIa (rows0 (blkAt s.heap 0).2) 1)) (roRows (cIa (rows0 (blkAt s.heap 0).2) 2)) (toI (cIa (rows0 (blkAt s.heap 1).2) 0)) (toI (cIa (rows0 (blkAt s.heap 1).2) 1)) (toI (cIa (rows0 (blkAt s.heap 1).2) 2)) (toI (cIa (rows0 (blkAt s.heap 1).2) 3)))
theorem run6 (m_W : Int) (m_H : Int) (m_Cells : List (List AVal)) (blocked : List (List AVal)) (w_Class : Int) (w_Dir : Int) (w_At_X : Int) (w_At_Y : Int) : fcall TT TU GL0 C5 ownF true L6 Tryd.f6 [(.agg [(.sc (.int .i64 m_W)), (.sc (.int .i64 m_H)), (.ro 3 m_Cells)]), (.ro 1 blocked), (.agg [(.sc (.int .i64 w_Class)), (.sc (.int .i64 w_Dir)), (.sc (.int .i64 w_At_X)), (.sc (.int .i64 w_At_Y))])] = (F_skirmishlaw07_TerrainSymmetric m_W m_H m_Cells blocked w_Class w_Dir w_At_X w_At_Y).bind fun t => some (enc6 t) :=
  Eq.trans (b := (Option.bind (F_skirmishlaw07_huge m_W m_H m_Cells) fun t => (bif t then (Option.bind F_skirmishlaw07_awake fun t1 => (some (CR.mk true (bo t1) [] []))) else (bif (decide ((Int.ofNat blocked.length) > (3000 : Int))) then (Option.bind F_skirmishlaw07_awake fun t2 => (some (CR.mk true (bo t2) [] []))) else (Option.bind (G_skirmishlaw07_TerrainSymmetric_0 blocked m_W m_H m_Cells w_Class w_At_X w_At_Y FU (0 : Int)) fun t3 => (bif t3.1 then (some (CR.mk true (bo false) [] [])) else (Option.bind F_skirmishlaw07_awake fun t4 => (some (CR.mk true (bo t4) [] []))))))))) (by kernel_rfl)
    (n_bind fun t => (n_condH rfl (fun h0 => (n_bind fun t1 => rfl)) fun h0 => (n_condH rfl (fun h1 => (n_bind fun t2 => rfl)) fun h1 => (n_bind fun t3 => (n_condH rfl (fun h2 => rfl) fun h2 => (n_bind fun t4 => rfl))))))
theorem lib6 : Lib Tryd.prog GL0 C6 :=
  Lib.fn lib5 mixed TT_ok Tryd.func6 (by decide +kernel) (by kernel_rfl) true L6 (loops_of 1 (by kernel_rfl) (belowS below0 okL6_0)) ks6 (F := fun us => F_skirmishlaw07_TerrainSymmetric (toI (cIa (aggL (cIa us 0)) 0)) (toI (cIa (aggL (cIa us 0)) 1)) (roRows (cIa (aggL (cIa us 0)) 2)) (roRows (cIa us 1)) (toI (cIa (aggL (cIa us 2)) 0)) (toI (cIa (aggL (cIa us 2)) 1)) (toI (cIa (aggL (cIa us 2)) 2)) (toI (cIa (aggL (cIa us 2)) 3))) (fun us => rfl) (fun us => run6 (toI (cIa (aggL (cIa us 0)) 0)) (toI (cIa (aggL (cIa us 0)) 1)) (roRows (cIa (aggL (cIa us 0)) 2)) (roRows (cIa us 1)) (toI (cIa (aggL (cIa us 2)) 0)) (toI (cIa (aggL (cIa us 2)) 1)) (toI (cIa (aggL (cIa us 2)) 2)) (toI (cIa (aggL (cIa us 2)) 3))) (fun t => rfl)

/-! ### 7: skirmish/skirmishlaw07.TerrainClasses -/



/-- 'skirmish/skirmishlaw07.TerrainClasses' -/
noncomputable def F_skirmishlaw07_TerrainClasses (m_W : Int) (m_H : Int) (m_Cells : List (List AVal)) (blocked : List (List AVal)) (w_Class : Int) (w_Dir : Int) (w_At_X : Int) (w_At_Y : Int) : Option (Bool) :=
  Option.bind (F_skirmishlaw07_huge m_W m_H m_Cells) fun t =>
  bif t then
    Option.bind F_skirmishlaw07_awake fun t1 =>
    some t1
  else
  bif (decide ((Int.ofNat blocked.length) > (3000 : Int))) then
    Option.bind F_skirmishlaw07_awake fun t2 =>
    some t2
  else
  Option.bind (F_terrain_Step m_W m_H m_Cells blocked (1 : Int) w_At_X w_At_Y w_Dir) fun t3 =>
  Option.bind (F_terrain_Step m_W m_H m_Cells blocked (2 : Int) w_At_X w_At_Y w_Dir) fun t4 =>
  Option.bind (F_terrain_Step m_W m_H m_Cells blocked (3 : Int) w_At_X w_At_Y w_Dir) fun t5 =>
  bif (!t3.2) then
    bif (!t4.2) then
      Option.bind F_skirmishlaw07_awake fun t6 =>
      some t6
    else
    bif t5.2 then
      bif (decide (t5.1 ≤ t4.1)) then
        Option.bind F_skirmishlaw07_awake fun t7 =>
        some t7
      else
      some false
    else
    some false
  else
  bif t4.2 then
    bif (t3.1 == t4.1) then
      bif t5.2 then
        bif (decide (t5.1 ≤ t4.1)) then
          Option.bind F_skirmishlaw07_awake fun t9 =>
          some t9
        else
        some false
      else
      some false
    else
    some false
  else
  some false
noncomputable def enc7 (t : Bool) : CR := ⟨true, (.sc (.bool t)), [], []⟩
noncomputable def ks7 : List SK := [.agg [.int .i64, .int .i64, .ro 3], .f (.ro 1), .agg [.int .i64, .int .i64, .int .i64, .int .i64]]
noncomputable def S7 (us : List AVal) : Call := bif chkA ks7 us then Call.of (F_skirmishlaw07_TerrainClasses (toI (cIa (aggL (cIa us 0)) 0)) (toI (cIa (aggL (cIa us 0)) 1)) (roRows (cIa (aggL (cIa us 0)) 2)) (roRows (cIa us 1)) (toI (cIa (aggL (cIa us 2)) 0)) (toI (cIa (aggL (cIa us 2)) 1)) (toI (cIa (aggL (cIa us 2)) 2)) (toI (cIa (aggL (cIa us 2)) 3))) enc7 else Call.none
noncomputable def C7 := AI.ext 7 S7 C6

theorem run7 (m_W : Int) (m_H : Int) (m_Cells : List (List AVal)) (blocked : List (List AVal)) (w_Class : Int) (w_Dir : Int) (w_At_X : Int) (w_At_Y : Int) : fcall TT TU GL0 C6 ownF true noL Tryd.f7 [(.agg [(.sc (.int .i64 m_W)), (.sc (.int .i64 m_H)), (.ro 3 m_Cells)]), (.ro 1 blocked), (.agg [(.sc (.int .i64 w_Class)), (.sc (.int .i64 w_Dir)), (.sc (.int .i64 w_At_X)), (.sc (.int .i64 w_At_Y))])] = (F_skirmishlaw07_TerrainClasses m_W m_H m_Cells blocked w_Class w_Dir w_At_X w_At_Y).bind fun t => some (enc7 t) :=
  Eq.trans (b := (Option.bind (F_skirmishlaw07_huge m_W m_H m_Cells) fun t => (bif t then (Option.bind F_skirmishlaw07_awake fun t1 => (some (CR.mk true (bo t1) [] []))) else (bif (decide ((Int.ofNat blocked.length) > (3000 : Int))) then (Option.bind F_skirmishlaw07_awake fun t2 => (some (CR.mk true (bo t2) [] []))) else (Option.bind (F_terrain_Step m_W m_H m_Cells blocked (1 : Int) w_At_X w_At_Y w_Dir) fun t3 => (Option.bind (F_terrain_Step m_W m_H m_Cells blocked (2 : Int) w_At_X w_At_Y w_Dir) fun t4 => (Option.bind (F_terrain_Step m_W m_H m_Cells blocked (3 : Int) w_At_X w_At_Y w_Dir) fun t5 => (bif (!t3.2) then (bif (!t4.2) then (Option.bind F_skirmishlaw07_awake fun t6 => (some (CR.mk true (bo t6) [] []))) else (bif t5.2 then (bif (decide (t5.1 ≤ t4.1)) then (Option.bind F_skirmishlaw07_awake fun t7 => (some (CR.mk true (bo t7) [] []))) else (some (CR.mk true (bo false) [] []))) else (some (CR.mk true (bo false) [] [])))) else (bif t4.2 then (bif (t3.1 == t4.1) then (bif (!t4.2) then (Option.bind F_skirmishlaw07_awake fun t8 => (some (CR.mk true (bo t8) [] []))) else (bif t5.2 then (bif (decide (t5.1 ≤ t4.1)) then (Option.bind F_skirmishlaw07_awake fun t9 => (some (CR.mk true (bo t9) [] []))) else (some (CR.mk true (bo false) [] []))) else (some (CR.mk true (bo false) [] [])))) else (some (CR.mk true (bo false) [] []))) else (some (CR.mk true (bo false) [] []))))))))))) (by kernel_rfl)
    (n_bind fun t => (n_condH rfl (fun h0 => (n_bind fun t1 => rfl)) fun h0 => (n_condH rfl (fun h1 => (n_bind fun t2 => rfl)) fun h1 => (n_bind fun t3 => (n_bind fun t4 => (n_bind fun t5 => (n_condH rfl (fun h2 => (n_condH rfl (fun h3 => (n_bind fun t6 => rfl)) fun h3 => (n_condH rfl (fun h4 => (n_condH rfl (fun h5 => (n_bind fun t7 => rfl)) fun h5 => rfl)) fun h4 => rfl))) fun h2 => (n_condH rfl (fun h3 => (n_condH rfl (fun h4 => (n_false (n_tn h3) (n_condH rfl (fun h5 => (n_condH rfl (fun h6 => (n_bind fun t9 => rfl)) fun h6 => rfl)) fun h5 => rfl))) fun h4 => rfl)) fun h3 => rfl))))))))
theorem lib7 : Lib Tryd.prog GL0 C7 :=
  Lib.fn lib6 mixed TT_ok Tryd.func7 (by decide +kernel) (by kernel_rfl) true noL (loops_of 0 (by kernel_rfl) below0) ks7 (F := fun us => F_skirmishlaw07_TerrainClasses (toI (cIa (aggL (cIa us 0)) 0)) (toI (cIa (aggL (cIa us 0)) 1)) (roRows (cIa (aggL (cIa us 0)) 2)) (roRows (cIa us 1)) (toI (cIa (aggL (cIa us 2)) 0)) (toI (cIa (aggL (cIa us 2)) 1)) (toI (cIa (aggL (cIa us 2)) 2)) (toI (cIa (aggL (cIa us 2)) 3))) (fun us => rfl) (fun us => run7 (toI (cIa (aggL (cIa us 0)) 0)) (toI (cIa (aggL (cIa us 0)) 1)) (roRows (cIa (aggL (cIa us 0)) 2)) (roRows (cIa us 1)) (toI (cIa (aggL (cIa us 2)) 0)) (toI (cIa (aggL (cIa us 2)) 1)) (toI (cIa (aggL (cIa us 2)) 2)) (toI (cIa (aggL (cIa us 2)) 3))) (fun t => rfl)

/-! ### 28: skirmish/skirmishref07.Take -/



/-- 'skirmish/skirmishref07.Take' -/
noncomputable def F_skirmishref07_Take (m_W : Int) (m_H : Int) (m_Cells : List (List AVal)) (p_X : Int) (p_Y : Int) (n : Int) : Option (List (List AVal) × Int × Int × Int × Int) :=
  Option.bind (F_skirmishref07_Valid m_W m_H m_Cells) fun t =>
  bif (!t) then
    some ([], (0 : Int), (0 : Int), (0 : Int), (1 : Int))
  else
  bif (decide (n < (1 : Int))) then
    some ([], (0 : Int), (0 : Int), (0 : Int), (1 : Int))
  else
  Option.bind (F_skirmishref07_Get m_W m_H m_Cells p_X p_Y) fun t1 =>
  bif (!t1.2.2.2) then
    some ([], (0 : Int), (0 : Int), (0 : Int), (8 : Int))
  else
  bif (t1.2.2.1 == (0 : Int)) then
    some ([], (0 : Int), (0 : Int), (0 : Int), (8 : Int))
  else
  bif ((wr (t1.2.2.1 - (minI n t1.2.2.1))) == (0 : Int)) then
    Option.bind (F_skirmishref07_with m_W m_H m_Cells p_X p_Y (1 : Int) t1.2.1 (wr (t1.2.2.1 - (minI n t1.2.2.1)))) fun t2 =>
    some (t2.1, t2.2.1, t2.2.2, (minI n t1.2.2.1), (0 : Int))
  else
  Option.bind (F_skirmishref07_with m_W m_H m_Cells p_X p_Y t1.1 t1.2.1 (wr (t1.2.2.1 - (minI n t1.2.2.1)))) fun t3 =>
  some (t3.1, t3.2.1, t3.2.2, (minI n t1.2.2.1), (0 : Int))
noncomputable def enc28 (t : List (List AVal) × Int × Int × Int × Int) : CR := ⟨true, (.tup [(.agg [(.sc (.int .i64 t.2.1)), (.sc (.int .i64 t.2.2.1)), (.slc 0 (t.1).length)]), (.sc (.int .i64 t.2.2.2.1)), (.sc (.int .i64 t.2.2.2.2))]), [], [⟨.arr, 28, 3, t.1⟩]⟩
noncomputable def ks28 : List SK := [.agg [.int .i64, .int .i64, .ro 3], .agg [.int .i64, .int .i64], .f (.int .i64)]
noncomputable def S28 (us : List AVal) : Call := bif chkA ks28 us then Call.of (F_skirmishref07_Take (toI (cIa (aggL (cIa us 0)) 0)) (toI (cIa (aggL (cIa us 0)) 1)) (roRows (cIa (aggL (cIa us 0)) 2)) (toI (cIa (aggL (cIa us 1)) 0)) (toI (cIa (aggL (cIa us 1)) 1)) (toI (cIa us 2))) enc28 else Call.none
noncomputable def C28 := AI.ext 28 S28 C7

theorem run28 (m_W : Int) (m_H : Int) (m_Cells : List (List AVal)) (p_X : Int) (p_Y : Int) (n : Int) : fcall TT TU GL0 C7 ownF true noL Tryd.f28 [(.agg [(.sc (.int .i64 m_W)), (.sc (.int .i64 m_H)), (.ro 3 m_Cells)]), (.agg [(.sc (.int .i64 p_X)), (.sc (.int .i64 p_Y))]), (.sc (.int .i64 n))] = (F_skirmishref07_Take m_W m_H m_Cells p_X p_Y n).bind fun t => some (enc28 t) :=
  Eq.trans (b := (Option.bind (F_skirmishref07_Valid m_W m_H m_Cells) fun t => (bif (!t) then (some (CR.mk true (AVal.tup [(AVal.agg [(i64 (0 : Int)), (i64 (0 : Int)), (AVal.slc 0 0)]), (i64 (0 : Int)), (i64 (1 : Int))]) [] [(Blk.mk BKind.arr 28 3 [])])) else (bif (decide (n < (1 : Int))) then (some (CR.mk true (AVal.tup [(AVal.agg [(i64 (0 : Int)), (i64 (0 : Int)), (AVal.slc 0 0)]), (i64 (0 : Int)), (i64 (1 : Int))]) [] [(Blk.mk BKind.arr 28 3 [])])) else (Option.bind (F_skirmishref07_Get m_W m_H m_Cells p_X p_Y) fun t1 => (bif (!t1.2.2.2) then (some (CR.mk true (AVal.tup [(AVal.agg [(i64 (0 : Int)), (i64 (0 : Int)), (AVal.slc 0 0)]), (i64 (0 : Int)), (i64 (8 : Int))]) [] [(Blk.mk BKind.arr 28 3 [])])) else (bif (t1.2.2.1 == (0 : Int)) then (some (CR.mk true (AVal.tup [(AVal.agg [(i64 (0 : Int)), (i64 (0 : Int)), (AVal.slc 0 0)]), (i64 (0 : Int)), (i64 (8 : Int))]) [] [(Blk.mk BKind.arr 28 3 [])])) else (bif ((wr (t1.2.2.1 - (minI n t1.2.2.1))) == (0 : Int)) then (Option.bind (F_skirmishref07_with m_W m_H m_Cells p_X p_Y (1 : Int) t1.2.1 (wr (t1.2.2.1 - (minI n t1.2.2.1)))) fun t2 => (bif ((((true && (verEq t2.1.length t2.1.length)) && true) && true) && true) then (bif (verEq t2.1.length t2.1.length) then (some (CR.mk true (AVal.tup [(AVal.agg [(i64 t2.2.1), (i64 t2.2.2), (AVal.slc 0 t2.1.length)]), (i64 (minI n t1.2.2.1)), (i64 (0 : Int))]) [] [(Blk.mk BKind.arr 28 3 t2.1)])) else none) else none)) else (Option.bind (F_skirmishref07_with m_W m_H m_Cells p_X p_Y t1.1 t1.2.1 (wr (t1.2.2.1 - (minI n t1.2.2.1)))) fun t3 => (bif ((((true && (verEq t3.1.length t3.1.length)) && true) && true) && true) then (bif (verEq t3.1.length t3.1.length) then (some (CR.mk true (AVal.tup [(AVal.agg [(i64 t3.2.1), (i64 t3.2.2), (AVal.slc 0 t3.1.length)]), (i64 (minI n t1.2.2.1)), (i64 (0 : Int))]) [] [(Blk.mk BKind.arr 28 3 t3.1)])) else none) else none)))))))))) (by kernel_rfl)
    (n_bind fun t => (n_condH rfl (fun h0 => rfl) fun h0 => (n_condH rfl (fun h1 => rfl) fun h1 => (n_bind fun t1 => (n_condH rfl (fun h2 => rfl) fun h2 => (n_condH rfl (fun h3 => rfl) fun h3 => (n_condH rfl (fun h4 => (n_bind fun t2 => (n_true (n_andL (n_andL (n_andL (n_andL rfl (verEq_rfl _)) rfl) rfl) rfl) (n_true (verEq_rfl _) rfl)))) fun h4 => (n_bind fun t3 => (n_true (n_andL (n_andL (n_andL (n_andL rfl (verEq_rfl _)) rfl) rfl) rfl) (n_true (verEq_rfl _) rfl))))))))))
theorem lib28 : Lib Tryd.prog GL0 C28 :=
  Lib.fn lib7 mixed TT_ok Tryd.func28 (by decide +kernel) (by kernel_rfl) true noL (loops_of 0 (by kernel_rfl) below0) ks28 (F := fun us => F_skirmishref07_Take (toI (cIa (aggL (cIa us 0)) 0)) (toI (cIa (aggL (cIa us 0)) 1)) (roRows (cIa (aggL (cIa us 0)) 2)) (toI (cIa (aggL (cIa us 1)) 0)) (toI (cIa (aggL (cIa us 1)) 1)) (toI (cIa us 2))) (fun us => rfl) (fun us => run28 (toI (cIa (aggL (cIa us 0)) 0)) (toI (cIa (aggL (cIa us 0)) 1)) (roRows (cIa (aggL (cIa us 0)) 2)) (toI (cIa (aggL (cIa us 1)) 0)) (toI (cIa (aggL (cIa us 1)) 1)) (toI (cIa us 2))) (fun t => rfl)

/-! ### 8: skirmish/skirmishlaw07.TerrainTakes -/



/-- 'skirmish/skirmishlaw07.TerrainTakes' -/
noncomputable def F_skirmishlaw07_TerrainTakes (m_W : Int) (m_H : Int) (m_Cells : List (List AVal)) (p_X : Int) (p_Y : Int) (n : Int) : Option (Bool) :=
  Option.bind (F_skirmishlaw07_huge m_W m_H m_Cells) fun t =>
  bif t then
    Option.bind F_skirmishlaw07_awake fun t1 =>
    some t1
  else
  Option.bind (F_terrain_Take m_W m_H m_Cells p_X p_Y n) fun t2 =>
  Option.bind (F_skirmishref07_Take m_W m_H m_Cells p_X p_Y n) fun t3 =>
  bif (t2.2.2.2.1 != t3.2.2.2.1) then
    some false
  else
  bif (t2.2.2.2.2 != t3.2.2.2.2) then
    some false
  else
  Option.bind (F_skirmishref07_Same t2.2.1 t2.2.2.1 t2.1 t3.2.1 t3.2.2.1 t3.1) fun t4 =>
  bif (!t4) then
    some false
  else
  bif (t2.2.2.2.2 != (0 : Int)) then
    Option.bind F_skirmishlaw07_awake fun t5 =>
    some t5
  else
  Option.bind (F_terrain_Get m_W m_H m_Cells p_X p_Y) fun t6 =>
  Option.bind (F_terrain_Get t2.2.1 t2.2.2.1 t2.1 p_X p_Y) fun t7 =>
  bif t7.2.2.2 then
    bif (t7.2.2.1 == (wr (t6.2.2.1 - t2.2.2.2.1))) then
      bif (decide (t2.2.2.2.1 ≥ (1 : Int))) then
        bif (decide (t2.2.2.2.1 ≤ n)) then
          Option.bind (F_terrain_Valid t2.2.1 t2.2.2.1 t2.1) fun t8 =>
          bif t8 then
            Option.bind F_skirmishlaw07_awake fun t9 =>
            some t9
          else
          some false
        else
        some false
      else
      some false
    else
    some false
  else
  some false
noncomputable def enc8 (t : Bool) : CR := ⟨true, (.sc (.bool t)), [], []⟩
noncomputable def ks8 : List SK := [.agg [.int .i64, .int .i64, .ro 3], .agg [.int .i64, .int .i64], .f (.int .i64)]
noncomputable def S8 (us : List AVal) : Call := bif chkA ks8 us then Call.of (F_skirmishlaw07_TerrainTakes (toI (cIa (aggL (cIa us 0)) 0)) (toI (cIa (aggL (cIa us 0)) 1)) (roRows (cIa (aggL (cIa us 0)) 2)) (toI (cIa (aggL (cIa us 1)) 0)) (toI (cIa (aggL (cIa us 1)) 1)) (toI (cIa us 2))) enc8 else Call.none
noncomputable def C8 := AI.ext 8 S8 C28

theorem run8 (m_W : Int) (m_H : Int) (m_Cells : List (List AVal)) (p_X : Int) (p_Y : Int) (n : Int) : fcall TT TU GL0 C28 ownF true noL Tryd.f8 [(.agg [(.sc (.int .i64 m_W)), (.sc (.int .i64 m_H)), (.ro 3 m_Cells)]), (.agg [(.sc (.int .i64 p_X)), (.sc (.int .i64 p_Y))]), (.sc (.int .i64 n))] = (F_skirmishlaw07_TerrainTakes m_W m_H m_Cells p_X p_Y n).bind fun t => some (enc8 t) :=
  Eq.trans (b := (Option.bind (F_skirmishlaw07_huge m_W m_H m_Cells) fun t => (bif t then (Option.bind F_skirmishlaw07_awake fun t1 => (some (CR.mk true (bo t1) [] []))) else (Option.bind (F_terrain_Take m_W m_H m_Cells p_X p_Y n) fun t2 => (bif ((((true && (verEq t2.1.length t2.1.length)) && true) && true) && true) then (Option.bind (F_skirmishref07_Take m_W m_H m_Cells p_X p_Y n) fun t3 => (bif ((((true && (verEq t3.1.length t3.1.length)) && true) && true) && true) then (bif (t2.2.2.2.1 != t3.2.2.2.1) then (some (CR.mk true (bo false) [] [])) else (bif (t2.2.2.2.2 != t3.2.2.2.2) then (some (CR.mk true (bo false) [] [])) else (bif (verEq t2.1.length t2.1.length) then (bif (verEq t3.1.length t3.1.length) then (Option.bind (F_skirmishref07_Same t2.2.1 t2.2.2.1 t2.1 t3.2.1 t3.2.2.1 t3.1) fun t4 => (bif (!t4) then (some (CR.mk true (bo false) [] [])) else (bif (t2.2.2.2.2 != (0 : Int)) then (Option.bind F_skirmishlaw07_awake fun t5 => (some (CR.mk true (bo t5) [] []))) else (Option.bind (F_terrain_Get m_W m_H m_Cells p_X p_Y) fun t6 => (bif (verEq t2.1.length t2.1.length) then (Option.bind (F_terrain_Get t2.2.1 t2.2.2.1 t2.1 p_X p_Y) fun t7 => (bif t7.2.2.2 then (bif (t7.2.2.1 == (wr (t6.2.2.1 - t2.2.2.2.1))) then (bif (decide (t2.2.2.2.1 ≥ (1 : Int))) then (bif (decide (t2.2.2.2.1 ≤ n)) then (bif (verEq t2.1.length t2.1.length) then (Option.bind (F_terrain_Valid t2.2.1 t2.2.2.1 t2.1) fun t8 => (bif t8 then (Option.bind F_skirmishlaw07_awake fun t9 => (some (CR.mk true (bo t9) [] []))) else (some (CR.mk true (bo false) [] [])))) else none) else (some (CR.mk true (bo false) [] []))) else (some (CR.mk true (bo false) [] []))) else (some (CR.mk true (bo false) [] []))) else (some (CR.mk true (bo false) [] [])))) else none))))) else none) else none))) else none)) else none))))) (by kernel_rfl)
    (n_bind fun t => (n_condH rfl (fun h0 => (n_bind fun t1 => rfl)) fun h0 => (n_bind fun t2 => (n_true (n_andL (n_andL (n_andL (n_andL rfl (verEq_rfl _)) rfl) rfl) rfl) (n_bind fun t3 => (n_true (n_andL (n_andL (n_andL (n_andL rfl (verEq_rfl _)) rfl) rfl) rfl) (n_condH rfl (fun h1 => rfl) fun h1 => (n_condH rfl (fun h2 => rfl) fun h2 => (n_true (verEq_rfl _) (n_true (verEq_rfl _) (n_bind fun t4 => (n_condH rfl (fun h3 => rfl) fun h3 => (n_condH rfl (fun h4 => (n_bind fun t5 => rfl)) fun h4 => (n_bind fun t6 => (n_true (verEq_rfl _) (n_bind fun t7 => (n_condH rfl (fun h5 => (n_condH rfl (fun h6 => (n_condH rfl (fun h7 => (n_condH rfl (fun h8 => (n_true (verEq_rfl _) (n_bind fun t8 => (n_condH rfl (fun h9 => (n_bind fun t9 => rfl)) fun h9 => rfl)))) fun h8 => rfl)) fun h7 => rfl)) fun h6 => rfl)) fun h5 => rfl)))))))))))))))))
theorem lib8 : Lib Tryd.prog GL0 C8 :=
  Lib.fn lib28 mixed TT_ok Tryd.func8 (by decide +kernel) (by kernel_rfl) true noL (loops_of 0 (by kernel_rfl) below0) ks8 (F := fun us => F_skirmishlaw07_TerrainTakes (toI (cIa (aggL (cIa us 0)) 0)) (toI (cIa (aggL (cIa us 0)) 1)) (roRows (cIa (aggL (cIa us 0)) 2)) (toI (cIa (aggL (cIa us 1)) 0)) (toI (cIa (aggL (cIa us 1)) 1)) (toI (cIa us 2))) (fun us => rfl) (fun us => run8 (toI (cIa (aggL (cIa us 0)) 0)) (toI (cIa (aggL (cIa us 0)) 1)) (roRows (cIa (aggL (cIa us 0)) 2)) (toI (cIa (aggL (cIa us 1)) 0)) (toI (cIa (aggL (cIa us 1)) 1)) (toI (cIa us 2))) (fun t => rfl)

/-! ### 49: slices.Equal[[]skirmish/api.Cell,skirmish/api.Cell] -/

noncomputable def W49_0 : Ex → List Bool
  | .ret => [false, false, false, false, true, false, false, false, false, false, false, false, false, false, false, false, false, false, false, false, false, false, false, false, false, false]
  | .exit n => bif Nat.beq n 0 then [false, false, false, false, false, false, false, false, false, false, false, false, false, false, false, false, false, false, false, false, false, false, false, false, false, false] else []
  | .normal => []
noncomputable def G_slices_Equal_Cell_0 (s1 : List (List AVal)) (s2 : List (List AVal)) (x12 : Int) : Nat → Int → Option (Bool)
  | 0, _ => none
  | m + 1, x13 =>
    bif (decide (x13 < x12)) then
      bif (decide ((0 : Int) ≤ x13)) then
        Option.bind (s1[x13.toNat]?) fun r =>
        bif (chk [(LT.int IntKind.i64), (LT.int IntKind.i64), (LT.int IntKind.i64)] r) then
          Option.bind (s2[x13.toNat]?) fun r1 =>
          bif (chk [(LT.int IntKind.i64), (LT.int IntKind.i64), (LT.int IntKind.i64)] r1) then
            bif (!(((cI r 0) == (cI r1 0)) && (((cI r 1) == (cI r1 1)) && ((cI r 2) == (cI r1 2))))) then
              some true
            else
            G_slices_Equal_Cell_0 s1 s2 x12 m (wr (x13 + (1 : Int)))
          else
          none
        else
        none
      else
      none
    else
    some false
noncomputable def E49_0 (s1 : List (List AVal)) (s2 : List (List AVal)) (x12 : Int) (x13 : Int) : St := ⟨[(.ro 3 s1), (.ro 3 s2), .dead, .dead, .dead, .dead, .dead, .dead, .dead, .dead, .dead, .dead, (.sc (.int .i64 x12)), (.sc (.int .i64 x13)), .dead, .dead, .dead, .dead, .dead, .dead, .dead, .dead, .dead, .dead, .dead, .dead], []⟩
noncomputable def X49_0 (k : Ex → St → Option CR) (t : Bool) : Option CR := bif t then k .ret ⟨[.dead, .dead, .dead, .dead, (.sc (.bool false)), .dead, .dead, .dead, .dead, .dead, .dead, .dead, .dead, .dead, .dead, .dead, .dead, .dead, .dead, .dead, .dead, .dead, .dead, .dead, .dead, .dead], []⟩ else k (.exit 0) ⟨[.dead, .dead, .dead, .dead, .dead, .dead, .dead, .dead, .dead, .dead, .dead, .dead, .dead, .dead, .dead, .dead, .dead, .dead, .dead, .dead, .dead, .dead, .dead, .dead, .dead, .dead], []⟩
noncomputable def ks49_0 : List SK := [.f (.ro 3), .f (.ro 3), .f .dead, .f .dead, .f .dead, .f .dead, .f .dead, .f .dead, .f .dead, .f .dead, .f .dead, .f .dead, .f (.int .i64), .f (.int .i64), .f .dead, .f .dead, .f .dead, .f .dead, .f .dead, .f .dead, .f .dead, .f .dead, .f .dead, .f .dead, .f .dead, .f .dead]
noncomputable def hs49_0 : List HK := []
noncomputable def L49_0 (s : St) (k : Ex → St → Option CR) : Option CR := bif chkS ks49_0 hs49_0 s then (G_slices_Equal_Cell_0 (roRows (cIa s.tmps 0)) (roRows (cIa s.tmps 1)) (toI (cIa s.tmps 12)) FU (toI (cIa s.tmps 13))).bind (X49_0 k) else none

noncomputable def L49 : LT' := fun i s k => bif Nat.beq i 0 then L49_0 s k else none

/-- 'slices.Equal[[]skirmish/api.Cell,skirmish/api.Cell]' -/
noncomputable def F_slices_Equal_Cell (s1 : List (List AVal)) (s2 : List (List AVal)) : Option (Bool) :=
  bif ((Int.ofNat s1.length) != (Int.ofNat s2.length)) then
    some false
  else
  Option.bind (G_slices_Equal_Cell_0 s1 s2 (Int.ofNat s1.length) FU (0 : Int)) fun t =>
  bif t then
    some false
  else
  some true
noncomputable def enc49 (t : Bool) : CR := ⟨true, (.sc (.bool t)), [], []⟩
noncomputable def ks49 : List SK := [.f (.ro 3), .f (.ro 3)]
noncomputable def S49 (us : List AVal) : Call := bif chkA ks49 us then Call.of (F_slices_Equal_Cell (roRows (cIa us 0)) (roRows (cIa us 1))) enc49 else Call.none
noncomputable def C49 := AI.ext 49 S49 C8

@[reducible] noncomputable def B49_0 := bodyOf TT TU GL0 C8 ownF L49 (lp Tryd.f49 0)
@[reducible] noncomputable def K49_0 (k : Ex → St → Option CR) : Ex → St → Option CR := fun e s => k e (maskS (W49_0 e) s)
theorem spec49_0 (k : Ex → St → Option CR) : ∀ (m : Nat) (s1 : List (List AVal)) (s2 : List (List AVal)) (x12 : Int) (x13 : Int), loopN B49_0 m (E49_0 s1 s2 x12 x13) (K49_0 k) = (G_slices_Equal_Cell_0 s1 s2 x12 m x13).bind (X49_0 k)
  | 0, _, _, _, _ => rfl
  | m + 1, s1, s2, x12, x13 =>
    Eq.trans (b := (bif (decide (x13 < x12)) then (bif (decide ((0 : Int) ≤ x13)) then (Option.bind (s1[x13.toNat]?) fun r => (bif (chk [(LT.int IntKind.i64), (LT.int IntKind.i64), (LT.int IntKind.i64)] r) then (bif (decide ((0 : Int) ≤ x13)) then (Option.bind (s2[x13.toNat]?) fun r1 => (bif (chk [(LT.int IntKind.i64), (LT.int IntKind.i64), (LT.int IntKind.i64)] r1) then (bif (!(((cI r 0) == (cI r1 0)) && (((cI r 1) == (cI r1 1)) && ((cI r 2) == (cI r1 2))))) then (k .ret ⟨[.dead, .dead, .dead, .dead, (bo false), .dead, .dead, .dead, .dead, .dead, .dead, .dead, .dead, .dead, .dead, .dead, .dead, .dead, .dead, .dead, .dead, .dead, .dead, .dead, .dead, .dead], []⟩) else (loopN B49_0 m ⟨[(AVal.ro 3 s1), (AVal.ro 3 s2), .dead, .dead, .dead, .dead, .dead, .dead, .dead, .dead, .dead, .dead, (i64 x12), (i64 (wr (x13 + (1 : Int)))), .dead, .dead, .dead, .dead, .dead, .dead, .dead, .dead, .dead, .dead, .dead, .dead], []⟩ (K49_0 k))) else none)) else none) else none)) else none) else (k (.exit 0) ⟨[.dead, .dead, .dead, .dead, .dead, .dead, .dead, .dead, .dead, .dead, .dead, .dead, .dead, .dead, .dead, .dead, .dead, .dead, .dead, .dead, .dead, .dead, .dead, .dead, .dead, .dead], []⟩))) (by kernel_rfl)
      (n_condH rfl (fun h0 => (n_condH rfl (fun h1 => (n_bind fun r => (n_condH rfl (fun h2 => (n_true h1 (n_bind fun r1 => (n_condH rfl (fun h3 => (n_condH rfl (fun h4 => rfl) fun h4 => (spec49_0 k m s1 s2 x12 (wr (x13 + (1 : Int)))))) fun h3 => n_none)))) fun h2 => n_none))) fun h1 => n_none)) fun h0 => rfl)
theorem okL49_0 : LoopOk TT TU GL0 C8 ownF L49 (lp Tryd.f49 0) :=
  loopOk_of ks49_0 hs49_0 W49_0 FU (fun s k => (G_slices_Equal_Cell_0 (roRows (cIa s.tmps 0)) (roRows (cIa s.tmps 1)) (toI (cIa s.tmps 12)) FU (toI (cIa s.tmps 13))).bind (X49_0 k)) (fun s k => by kernel_rfl) (fun s k => spec49_0 k FU (roRows (cIa s.tmps 0)) (roRows (cIa s.tmps 1)) (toI (cIa s.tmps 12)) (toI (cIa s.tmps 13)))
theorem run49 (s1 : List (List AVal)) (s2 : List (List AVal)) : fcall TT TU GL0 C8 ownF true L49 Tryd.f49 [(.ro 3 s1), (.ro 3 s2)] = (F_slices_Equal_Cell s1 s2).bind fun t => some (enc49 t) :=
  Eq.trans (b := (bif ((Int.ofNat s1.length) != (Int.ofNat s2.length)) then (some (CR.mk true (bo false) [] [])) else (Option.bind (G_slices_Equal_Cell_0 s1 s2 (Int.ofNat s1.length) FU (0 : Int)) fun t => (bif t then (some (CR.mk true (bo false) [] [])) else (some (CR.mk true (bo true) [] [])))))) (by kernel_rfl)
    (n_condH rfl (fun h0 => rfl) fun h0 => (n_bind fun t => (n_condH rfl (fun h1 => rfl) fun h1 => rfl)))
theorem lib49 : Lib Tryd.prog GL0 C49 :=
  Lib.fn lib8 mixed TT_ok Tryd.func49 (by decide +kernel) (by kernel_rfl) true L49 (loops_of 1 (by kernel_rfl) (belowS below0 okL49_0)) ks49 (F := fun us => F_slices_Equal_Cell (roRows (cIa us 0)) (roRows (cIa us 1))) (fun us => rfl) (fun us => run49 (roRows (cIa us 0)) (roRows (cIa us 1))) (fun t => rfl)

/-! ### 29: skirmish/terrain.Same -/



/-- 'skirmish/terrain.Same' -/
noncomputable def F_terrain_Same (a_W : Int) (a_H : Int) (a_Cells : List (List AVal)) (b_W : Int) (b_H : Int) (b_Cells : List (List AVal)) : Option (Bool) :=
  bif (a_W == b_W) then
    bif (a_H == b_H) then
      Option.bind (F_slices_Equal_Cell a_Cells b_Cells) fun t =>
      some t
    else
    some false
  else
  some false
noncomputable def enc29 (t : Bool) : CR := ⟨true, (.sc (.bool t)), [], []⟩
noncomputable def ks29 : List SK := [.agg [.int .i64, .int .i64, .ro 3], .agg [.int .i64, .int .i64, .ro 3]]
noncomputable def S29 (us : List AVal) : Call := bif chkA ks29 us then Call.of (F_terrain_Same (toI (cIa (aggL (cIa us 0)) 0)) (toI (cIa (aggL (cIa us 0)) 1)) (roRows (cIa (aggL (cIa us 0)) 2)) (toI (cIa (aggL (cIa us 1)) 0)) (toI (cIa (aggL (cIa us 1)) 1)) (roRows (cIa (aggL (cIa us 1)) 2))) enc29 else Call.none
noncomputable def C29 := AI.ext 29 S29 C49

theorem run29 (a_W : Int) (a_H : Int) (a_Cells : List (List AVal)) (b_W : Int) (b_H : Int) (b_Cells : List (List AVal)) : fcall TT TU GL0 C49 ownF true noL Tryd.f29 [(.agg [(.sc (.int .i64 a_W)), (.sc (.int .i64 a_H)), (.ro 3 a_Cells)]), (.agg [(.sc (.int .i64 b_W)), (.sc (.int .i64 b_H)), (.ro 3 b_Cells)])] = (F_terrain_Same a_W a_H a_Cells b_W b_H b_Cells).bind fun t => some (enc29 t) :=
  Eq.trans (b := (bif (a_W == b_W) then (bif (a_H == b_H) then (Option.bind (F_slices_Equal_Cell a_Cells b_Cells) fun t => (some (CR.mk true (bo t) [] []))) else (some (CR.mk true (bo false) [] []))) else (some (CR.mk true (bo false) [] [])))) (by kernel_rfl)
    (n_condH rfl (fun h0 => (n_condH rfl (fun h1 => (n_bind fun t => rfl)) fun h1 => rfl)) fun h0 => rfl)
theorem lib29 : Lib Tryd.prog GL0 C29 :=
  Lib.fn lib49 mixed TT_ok Tryd.func29 (by decide +kernel) (by kernel_rfl) true noL (loops_of 0 (by kernel_rfl) below0) ks29 (F := fun us => F_terrain_Same (toI (cIa (aggL (cIa us 0)) 0)) (toI (cIa (aggL (cIa us 0)) 1)) (roRows (cIa (aggL (cIa us 0)) 2)) (toI (cIa (aggL (cIa us 1)) 0)) (toI (cIa (aggL (cIa us 1)) 1)) (roRows (cIa (aggL (cIa us 1)) 2))) (fun us => rfl) (fun us => run29 (toI (cIa (aggL (cIa us 0)) 0)) (toI (cIa (aggL (cIa us 0)) 1)) (roRows (cIa (aggL (cIa us 0)) 2)) (toI (cIa (aggL (cIa us 1)) 0)) (toI (cIa (aggL (cIa us 1)) 1)) (roRows (cIa (aggL (cIa us 1)) 2))) (fun t => rfl)

/-! ### 9: skirmish/skirmishlaw07.TerrainSame -/



/-- 'skirmish/skirmishlaw07.TerrainSame' -/
noncomputable def F_skirmishlaw07_TerrainSame (a_W : Int) (a_H : Int) (a_Cells : List (List AVal)) (b_W : Int) (b_H : Int) (b_Cells : List (List AVal)) : Option (Bool) :=
  Option.bind (F_skirmishlaw07_huge a_W a_H a_Cells) fun t =>
  bif t then
    Option.bind F_skirmishlaw07_awake fun t1 =>
    some t1
  else
  Option.bind (F_skirmishlaw07_huge b_W b_H b_Cells) fun t2 =>
  bif t2 then
    Option.bind F_skirmishlaw07_awake fun t3 =>
    some t3
  else
  Option.bind (F_terrain_Same a_W a_H a_Cells b_W b_H b_Cells) fun t4 =>
  Option.bind (F_skirmishref07_Same a_W a_H a_Cells b_W b_H b_Cells) fun t5 =>
  bif (t4 == t5) then
    Option.bind (F_terrain_Same a_W a_H a_Cells a_W a_H a_Cells) fun t6 =>
    bif t6 then
      Option.bind F_skirmishlaw07_awake fun t7 =>
      some t7
    else
    some false
  else
  some false
noncomputable def enc9 (t : Bool) : CR := ⟨true, (.sc (.bool t)), [], []⟩
noncomputable def ks9 : List SK := [.agg [.int .i64, .int .i64, .ro 3], .agg [.int .i64, .int .i64, .ro 3]]
noncomputable def S9 (us : List AVal) : Call := bif chkA ks9 us then Call.of (F_skirmishlaw07_TerrainSame (toI (cIa (aggL (cIa us 0)) 0)) (toI (cIa (aggL (cIa us 0)) 1)) (roRows (cIa (aggL (cIa us 0)) 2)) (toI (cIa (aggL (cIa us 1)) 0)) (toI (cIa (aggL (cIa us 1)) 1)) (roRows (cIa (aggL (cIa us 1)) 2))) enc9 else Call.none
noncomputable def C9 := AI.ext 9 S9 C29

theorem run9 (a_W : Int) (a_H : Int) (a_Cells : List (List AVal)) (b_W : Int) (b_H : Int) (b_Cells : List (List AVal)) : fcall TT TU GL0 C29 ownF true noL Tryd.f9 [(.agg [(.sc (.int .i64 a_W)), (.sc (.int .i64 a_H)), (.ro 3 a_Cells)]), (.agg [(.sc (.int .i64 b_W)), (.sc (.int .i64 b_H)), (.ro 3 b_Cells)])] = (F_skirmishlaw07_TerrainSame a_W a_H a_Cells b_W b_H b_Cells).bind fun t => some (enc9 t) :=
  Eq.trans (b := (Option.bind (F_skirmishlaw07_huge a_W a_H a_Cells) fun t => (bif t then (Option.bind F_skirmishlaw07_awake fun t1 => (some (CR.mk true (bo t1) [] []))) else (Option.bind (F_skirmishlaw07_huge b_W b_H b_Cells) fun t2 => (bif t2 then (Option.bind F_skirmishlaw07_awake fun t3 => (some (CR.mk true (bo t3) [] []))) else (Option.bind (F_terrain_Same a_W a_H a_Cells b_W b_H b_Cells) fun t4 => (Option.bind (F_skirmishref07_Same a_W a_H a_Cells b_W b_H b_Cells) fun t5 => (bif (t4 == t5) then (Option.bind (F_terrain_Same a_W a_H a_Cells a_W a_H a_Cells) fun t6 => (bif t6 then (Option.bind F_skirmishlaw07_awake fun t7 => (some (CR.mk true (bo t7) [] []))) else (some (CR.mk true (bo false) [] [])))) else (some (CR.mk true (bo false) [] [])))))))))) (by kernel_rfl)
    (n_bind fun t => (n_condH rfl (fun h0 => (n_bind fun t1 => rfl)) fun h0 => (n_bind fun t2 => (n_condH rfl (fun h1 => (n_bind fun t3 => rfl)) fun h1 => (n_bind fun t4 => (n_bind fun t5 => (n_condH rfl (fun h2 => (n_bind fun t6 => (n_condH rfl (fun h3 => (n_bind fun t7 => rfl)) fun h3 => rfl))) fun h2 => rfl)))))))
theorem lib9 : Lib Tryd.prog GL0 C9 :=
  Lib.fn lib29 mixed TT_ok Tryd.func9 (by decide +kernel) (by kernel_rfl) true noL (loops_of 0 (by kernel_rfl) below0) ks9 (F := fun us => F_skirmishlaw07_TerrainSame (toI (cIa (aggL (cIa us 0)) 0)) (toI (cIa (aggL (cIa us 0)) 1)) (roRows (cIa (aggL (cIa us 0)) 2)) (toI (cIa (aggL (cIa us 1)) 0)) (toI (cIa (aggL (cIa us 1)) 1)) (roRows (cIa (aggL (cIa us 1)) 2))) (fun us => rfl) (fun us => run9 (toI (cIa (aggL (cIa us 0)) 0)) (toI (cIa (aggL (cIa us 0)) 1)) (roRows (cIa (aggL (cIa us 0)) 2)) (toI (cIa (aggL (cIa us 1)) 0)) (toI (cIa (aggL (cIa us 1)) 1)) (roRows (cIa (aggL (cIa us 1)) 2))) (fun t => rfl)

end Go.Proofs.YtocgekefbdcdmaaDoor.AI
