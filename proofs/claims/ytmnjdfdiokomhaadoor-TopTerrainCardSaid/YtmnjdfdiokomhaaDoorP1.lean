/- What functions answer: printed by wip/tool2/Ev.lean out of the interpreter's run; each print is checked by Lean. -/
import Derived.Test.YtmnjdfdiokomhaaDoorTab
namespace Go.Proofs.YtmnjdfdiokomhaaDoor.AI
open Go.RowKit
set_option linter.unusedVariables false
set_option linter.unusedSimpArgs false
set_option maxRecDepth 100000
/-! ### 37: skirmish/num.Clamp -/



/-- 'skirmish/num.Clamp' -/
noncomputable def F_num_Clamp (n : Int) (lo : Int) (hi : Int) : Option (Int) :=
  some (maxI lo (minI n hi))
noncomputable def enc37 (t : Int) : CR := ⟨true, (.sc (.int .i64 t)), [], []⟩
noncomputable def ks37 : List SK := [.f (.int .i64), .f (.int .i64), .f (.int .i64)]
noncomputable def S37 (us : List AVal) : Call := bif chkA ks37 us then Call.of (F_num_Clamp (toI (cIa us 0)) (toI (cIa us 1)) (toI (cIa us 2))) enc37 else Call.none
noncomputable def C37 := AI.ext 37 S37 Cnone

theorem run37 (n : Int) (lo : Int) (hi : Int) : fcall TT TU GL0 Cnone ownF true noL Tryd.f37 [(.sc (.int .i64 n)), (.sc (.int .i64 lo)), (.sc (.int .i64 hi))] = (F_num_Clamp n lo hi).bind fun t => some (enc37 t) :=
  Eq.trans (b := (some (CR.mk true (i64 (maxI lo (minI n hi))) [] []))) (by kernel_rfl)
    rfl
theorem lib37 : Lib Tryd.prog GL0 C37 :=
  Lib.fn libnone mixed TT_ok Tryd.func37 (by decide +kernel) (by kernel_rfl) true noL (loops_of 0 (by kernel_rfl) below0) ks37 (F := fun us => F_num_Clamp (toI (cIa us 0)) (toI (cIa us 1)) (toI (cIa us 2))) (fun us => rfl) (fun us => run37 (toI (cIa us 0)) (toI (cIa us 1)) (toI (cIa us 2))) (fun t => rfl)

/-! ### 28: skirmish/grid.near -/



/-- 'skirmish/grid.near' -/
noncomputable def F_grid_near (n : Int) : Option (Int) :=
  Option.bind (F_num_Clamp n (-(1048576 : Int)) (1048576 : Int)) fun t =>
  some t
noncomputable def enc28 (t : Int) : CR := ⟨true, (.sc (.int .i64 t)), [], []⟩
noncomputable def ks28 : List SK := [.f (.int .i64)]
noncomputable def S28 (us : List AVal) : Call := bif chkA ks28 us then Call.of (F_grid_near (toI (cIa us 0))) enc28 else Call.none
noncomputable def C28 := AI.ext 28 S28 C37

theorem run28 (n : Int) : fcall TT TU GL0 C37 ownF true noL Tryd.f28 [(.sc (.int .i64 n))] = (F_grid_near n).bind fun t => some (enc28 t) :=
  Eq.trans (b := (Option.bind (F_num_Clamp n (-(1048576 : Int)) (1048576 : Int)) fun t => (some (CR.mk true (i64 t) [] [])))) (by kernel_rfl)
    (n_bind fun t => rfl)
theorem lib28 : Lib Tryd.prog GL0 C28 :=
  Lib.fn lib37 mixed TT_ok Tryd.func28 (by decide +kernel) (by kernel_rfl) true noL (loops_of 0 (by kernel_rfl) below0) ks28 (F := fun us => F_grid_near (toI (cIa us 0))) (fun us => rfl) (fun us => run28 (toI (cIa us 0))) (fun t => rfl)

/-! ### 27: skirmish/grid.pos -/



/-- 'skirmish/grid.pos' -/
noncomputable def F_grid_pos (p_X : Int) (p_Y : Int) : Option (Int × Int) :=
  Option.bind (F_grid_near p_X) fun t =>
  Option.bind (F_grid_near p_Y) fun t1 =>
  some (t, t1)
noncomputable def enc27 (t : Int × Int) : CR := ⟨true, (.agg [(.sc (.int .i64 t.1)), (.sc (.int .i64 t.2))]), [], []⟩
noncomputable def ks27 : List SK := [.agg [.int .i64, .int .i64]]
noncomputable def S27 (us : List AVal) : Call := bif chkA ks27 us then Call.of (F_grid_pos (toI (cIa (aggL (cIa us 0)) 0)) (toI (cIa (aggL (cIa us 0)) 1))) enc27 else Call.none
noncomputable def C27 := AI.ext 27 S27 C28

theorem run27 (p_X : Int) (p_Y : Int) : fcall TT TU GL0 C28 ownF true noL Tryd.f27 [(.agg [(.sc (.int .i64 p_X)), (.sc (.int .i64 p_Y))])] = (F_grid_pos p_X p_Y).bind fun t => some (enc27 t) :=
  Eq.trans (b := (Option.bind (F_grid_near p_X) fun t => (Option.bind (F_grid_near p_Y) fun t1 => (some (CR.mk true (AVal.agg [(i64 t), (i64 t1)]) [] []))))) (by kernel_rfl)
    (n_bind fun t => (n_bind fun t1 => rfl))
theorem lib27 : Lib Tryd.prog GL0 C27 :=
  Lib.fn lib28 mixed TT_ok Tryd.func27 (by decide +kernel) (by kernel_rfl) true noL (loops_of 0 (by kernel_rfl) below0) ks27 (F := fun us => F_grid_pos (toI (cIa (aggL (cIa us 0)) 0)) (toI (cIa (aggL (cIa us 0)) 1))) (fun us => rfl) (fun us => run27 (toI (cIa (aggL (cIa us 0)) 0)) (toI (cIa (aggL (cIa us 0)) 1))) (fun t => rfl)

/-! ### 14: skirmish/grid.Index -/



/-- 'skirmish/grid.Index' -/
noncomputable def F_grid_Index (w : Int) (p_X : Int) (p_Y : Int) : Option (Int) :=
  Option.bind (F_grid_pos p_X p_Y) fun t =>
  Option.bind (F_grid_near w) fun t1 =>
  some (wr ((wr (t.2 * t1)) + t.1))
noncomputable def enc14 (t : Int) : CR := ⟨true, (.sc (.int .i64 t)), [], []⟩
noncomputable def ks14 : List SK := [.f (.int .i64), .agg [.int .i64, .int .i64]]
noncomputable def S14 (us : List AVal) : Call := bif chkA ks14 us then Call.of (F_grid_Index (toI (cIa us 0)) (toI (cIa (aggL (cIa us 1)) 0)) (toI (cIa (aggL (cIa us 1)) 1))) enc14 else Call.none
noncomputable def C14 := AI.ext 14 S14 C27

theorem run14 (w : Int) (p_X : Int) (p_Y : Int) : fcall TT TU GL0 C27 ownF true noL Tryd.f14 [(.sc (.int .i64 w)), (.agg [(.sc (.int .i64 p_X)), (.sc (.int .i64 p_Y))])] = (F_grid_Index w p_X p_Y).bind fun t => some (enc14 t) :=
  Eq.trans (b := (Option.bind (F_grid_pos p_X p_Y) fun t => (Option.bind (F_grid_near w) fun t1 => (some (CR.mk true (i64 (wr ((wr (t.2 * t1)) + t.1))) [] []))))) (by kernel_rfl)
    (n_bind fun t => (n_bind fun t1 => rfl))
theorem lib14 : Lib Tryd.prog GL0 C14 :=
  Lib.fn lib27 mixed TT_ok Tryd.func14 (by decide +kernel) (by kernel_rfl) true noL (loops_of 0 (by kernel_rfl) below0) ks14 (F := fun us => F_grid_Index (toI (cIa us 0)) (toI (cIa (aggL (cIa us 1)) 0)) (toI (cIa (aggL (cIa us 1)) 1))) (fun us => rfl) (fun us => run14 (toI (cIa us 0)) (toI (cIa (aggL (cIa us 1)) 0)) (toI (cIa (aggL (cIa us 1)) 1))) (fun t => rfl)

/-! ### 13: skirmish/astar.Path$1 -/



/-- 'skirmish/astar.Path$1' -/
noncomputable def F_astar_Path_1 (p_X : Int) (p_Y : Int) (a1 : List (List AVal)) (a2_W : Int) (a2_H : Int) (a2_Cells : List (List AVal)) : Option (Int) :=
  Option.bind (F_grid_Index a2_W p_X p_Y) fun t =>
  bif ((decide ((0 : Int) ≤ t)) && (decide (t < (Int.ofNat a1.length)))) then
    Option.bind (a1[t.toNat]?) fun r =>
    bif (chk [(LT.int IntKind.i64)] r) then
      some (cI r 0)
    else
    none
  else
  none
noncomputable def enc13 (p_X : Int) (p_Y : Int) (a1 : List (List AVal)) (a2_W : Int) (a2_H : Int) (a2_Cells : List (List AVal)) (t : Int) : CR := ⟨true, (.sc (.int .i64 t)), [[[(.slc 2 (a1).length)]], [[(.sc (.int .i64 a2_W)), (.sc (.int .i64 a2_H)), (.ro 3 a2_Cells)]], a1], []⟩
noncomputable def ks13 : List SK := [.agg [.int .i64, .int .i64], .f (.ref 0 1 0 0), .f (.ref 1 1 0 0)]
noncomputable def hs13 : List HK := [⟨0, .box, 28, 1, some [.slc 2 2]⟩, ⟨1, .box, 24, 3, some [.int .i64, .int .i64, .ro 3]⟩, ⟨2, .arr, 3, 1, none⟩]
noncomputable def S13 (us : List AVal) (bs : List Blk) : Call := Call.guard (chkS ks13 hs13 ⟨us, numK 0 bs⟩) (Call.of (F_astar_Path_1 (toI (cIa (aggL (cIa us 0)) 0)) (toI (cIa (aggL (cIa us 0)) 1)) (blkAt (numK 0 bs) 2).2.rows (toI (cIa (rows0 (blkAt (numK 0 bs) 1).2) 0)) (toI (cIa (rows0 (blkAt (numK 0 bs) 1).2) 1)) (roRows (cIa (rows0 (blkAt (numK 0 bs) 1).2) 2))) (enc13 (toI (cIa (aggL (cIa us 0)) 0)) (toI (cIa (aggL (cIa us 0)) 1)) (blkAt (numK 0 bs) 2).2.rows (toI (cIa (rows0 (blkAt (numK 0 bs) 1).2) 0)) (toI (cIa (rows0 (blkAt (numK 0 bs) 1).2) 1)) (roRows (cIa (rows0 (blkAt (numK 0 bs) 1).2) 2))))
noncomputable def C13 := AI.extH 13 S13 C14

theorem run13 (p_X : Int) (p_Y : Int) (a1 : List (List AVal)) (a2_W : Int) (a2_H : Int) (a2_Cells : List (List AVal)) : fcallH TT TU GL0 C14 ownF noL Tryd.f13 [(.agg [(.sc (.int .i64 p_X)), (.sc (.int .i64 p_Y))]), (.ref 0 1 0 0), (.ref 1 1 0 0)] [(0, (⟨.box, 28, 1, [[(.slc 2 (List.length a1))]]⟩ : Blk)), (1, (⟨.box, 24, 3, [[(.sc (.int .i64 a2_W)), (.sc (.int .i64 a2_H)), (.ro 3 a2_Cells)]]⟩ : Blk)), (2, (⟨.arr, 3, 1, a1⟩ : Blk))] = (F_astar_Path_1 p_X p_Y a1 a2_W a2_H a2_Cells).bind fun t => some (enc13 p_X p_Y a1 a2_W a2_H a2_Cells t) :=
  Eq.trans (b := (Option.bind (F_grid_Index a2_W p_X p_Y) fun t => (bif (((verEq a1.length a1.length) && (decide ((0 : Int) ≤ t))) && (decide (t < (Int.ofNat a1.length)))) then (bif (verEq a1.length a1.length) then (Option.bind (a1[t.toNat]?) fun r => (bif (chk [(LT.int IntKind.i64)] r) then (bif (verEq a1.length a1.length) then (some (CR.mk true (i64 (cI r 0)) [[[(AVal.slc 2 a1.length)]], [[(i64 a2_W), (i64 a2_H), (AVal.ro 3 a2_Cells)]], a1] [])) else none) else none)) else none) else none))) (by kernel_rfl)
    (n_bind fun t => (n_condH (n_and (n_andL (verEq_rfl _) rfl) rfl) (fun h0 => (n_true (verEq_rfl _) (n_bind fun r => (n_condH rfl (fun h1 => (n_true (verEq_rfl _) rfl)) fun h1 => n_none)))) fun h0 => n_none))
theorem lib13 : Lib Tryd.prog GL0 C13 :=
  Lib.fnH lib14 mixed TT_ok Tryd.func13 (by decide +kernel) (by kernel_rfl) noL (loops_of 0 (by kernel_rfl) below0) ks13 hs13 (by kernel_rfl) (F := fun us H => F_astar_Path_1 (toI (cIa (aggL (cIa us 0)) 0)) (toI (cIa (aggL (cIa us 0)) 1)) (blkAt H 2).2.rows (toI (cIa (rows0 (blkAt H 1).2) 0)) (toI (cIa (rows0 (blkAt H 1).2) 1)) (roRows (cIa (rows0 (blkAt H 1).2) 2))) (enc := fun us H => enc13 (toI (cIa (aggL (cIa us 0)) 0)) (toI (cIa (aggL (cIa us 0)) 1)) (blkAt H 2).2.rows (toI (cIa (rows0 (blkAt H 1).2) 0)) (toI (cIa (rows0 (blkAt H 1).2) 1)) (roRows (cIa (rows0 (blkAt H 1).2) 2))) (fun us bs => rfl) (fun us H => run13 (toI (cIa (aggL (cIa us 0)) 0)) (toI (cIa (aggL (cIa us 0)) 1)) (blkAt H 2).2.rows (toI (cIa (rows0 (blkAt H 1).2) 0)) (toI (cIa (rows0 (blkAt H 1).2) 1)) (roRows (cIa (rows0 (blkAt H 1).2) 2)))

/-! ### 34: skirmish/terrain.validCell -/



/-- 'skirmish/terrain.validCell' -/
noncomputable def F_terrain_validCell (c_Kind : Int) (c_Height : Int) (c_Amount : Int) : Option (Bool) :=
  bif (decide (c_Kind < (1 : Int))) then
    some false
  else
  bif (decide (c_Kind > (5 : Int))) then
    some false
  else
  bif (decide (c_Height < (0 : Int))) then
    some false
  else
  bif (decide (c_Height > (3 : Int))) then
    some false
  else
  bif (decide (c_Amount < (0 : Int))) then
    some false
  else
  bif (decide (c_Amount > (1000000 : Int))) then
    some false
  else
  bif (c_Kind == (4 : Int)) then
    some ((decide (c_Amount > (0 : Int))) == true)
  else
  some ((decide (c_Amount > (0 : Int))) == (c_Kind == (5 : Int)))
noncomputable def enc34 (t : Bool) : CR := ⟨true, (.sc (.bool t)), [], []⟩
noncomputable def ks34 : List SK := [.agg [.int .i64, .int .i64, .int .i64]]
noncomputable def S34 (us : List AVal) : Call := bif chkA ks34 us then Call.of (F_terrain_validCell (toI (cIa (aggL (cIa us 0)) 0)) (toI (cIa (aggL (cIa us 0)) 1)) (toI (cIa (aggL (cIa us 0)) 2))) enc34 else Call.none
noncomputable def C34 := AI.ext 34 S34 C13

theorem run34 (c_Kind : Int) (c_Height : Int) (c_Amount : Int) : fcall TT TU GL0 C13 ownF true noL Tryd.f34 [(.agg [(.sc (.int .i64 c_Kind)), (.sc (.int .i64 c_Height)), (.sc (.int .i64 c_Amount))])] = (F_terrain_validCell c_Kind c_Height c_Amount).bind fun t => some (enc34 t) :=
  Eq.trans (b := (bif (decide (c_Kind < (1 : Int))) then (some (CR.mk true (bo false) [] [])) else (bif (decide (c_Kind > (5 : Int))) then (some (CR.mk true (bo false) [] [])) else (bif (decide (c_Height < (0 : Int))) then (some (CR.mk true (bo false) [] [])) else (bif (decide (c_Height > (3 : Int))) then (some (CR.mk true (bo false) [] [])) else (bif (decide (c_Amount < (0 : Int))) then (some (CR.mk true (bo false) [] [])) else (bif (decide (c_Amount > (1000000 : Int))) then (some (CR.mk true (bo false) [] [])) else (bif (c_Kind == (4 : Int)) then (some (CR.mk true (bo ((decide (c_Amount > (0 : Int))) == true)) [] [])) else (some (CR.mk true (bo ((decide (c_Amount > (0 : Int))) == (c_Kind == (5 : Int)))) [] [])))))))))) (by kernel_rfl)
    (n_condH rfl (fun h0 => rfl) fun h0 => (n_condH rfl (fun h1 => rfl) fun h1 => (n_condH rfl (fun h2 => rfl) fun h2 => (n_condH rfl (fun h3 => rfl) fun h3 => (n_condH rfl (fun h4 => rfl) fun h4 => (n_condH rfl (fun h5 => rfl) fun h5 => (n_condH rfl (fun h6 => rfl) fun h6 => rfl)))))))
theorem lib34 : Lib Tryd.prog GL0 C34 :=
  Lib.fn lib13 mixed TT_ok Tryd.func34 (by decide +kernel) (by kernel_rfl) true noL (loops_of 0 (by kernel_rfl) below0) ks34 (F := fun us => F_terrain_validCell (toI (cIa (aggL (cIa us 0)) 0)) (toI (cIa (aggL (cIa us 0)) 1)) (toI (cIa (aggL (cIa us 0)) 2))) (fun us => rfl) (fun us => run34 (toI (cIa (aggL (cIa us 0)) 0)) (toI (cIa (aggL (cIa us 0)) 1)) (toI (cIa (aggL (cIa us 0)) 2))) (fun t => rfl)

/-! ### 33: skirmish/terrain.Valid$1 -/



/-- 'skirmish/terrain.Valid$1' -/
noncomputable def F_terrain_Valid_1 (c_Kind : Int) (c_Height : Int) (c_Amount : Int) : Option (Bool) :=
  Option.bind (F_terrain_validCell c_Kind c_Height c_Amount) fun t =>
  some (!t)
noncomputable def enc33 (t : Bool) : CR := ⟨true, (.sc (.bool t)), [], []⟩
noncomputable def ks33 : List SK := [.agg [.int .i64, .int .i64, .int .i64]]
noncomputable def S33 (us : List AVal) : Call := bif chkA ks33 us then Call.of (F_terrain_Valid_1 (toI (cIa (aggL (cIa us 0)) 0)) (toI (cIa (aggL (cIa us 0)) 1)) (toI (cIa (aggL (cIa us 0)) 2))) enc33 else Call.none
noncomputable def C33 := AI.ext 33 S33 C34

theorem run33 (c_Kind : Int) (c_Height : Int) (c_Amount : Int) : fcall TT TU GL0 C34 ownF true noL Tryd.f33 [(.agg [(.sc (.int .i64 c_Kind)), (.sc (.int .i64 c_Height)), (.sc (.int .i64 c_Amount))])] = (F_terrain_Valid_1 c_Kind c_Height c_Amount).bind fun t => some (enc33 t) :=
  Eq.trans (b := (Option.bind (F_terrain_validCell c_Kind c_Height c_Amount) fun t => (some (CR.mk true (bo (!t)) [] [])))) (by kernel_rfl)
    (n_bind fun t => rfl)
theorem lib33 : Lib Tryd.prog GL0 C33 :=
  Lib.fn lib34 mixed TT_ok Tryd.func33 (by decide +kernel) (by kernel_rfl) true noL (loops_of 0 (by kernel_rfl) below0) ks33 (F := fun us => F_terrain_Valid_1 (toI (cIa (aggL (cIa us 0)) 0)) (toI (cIa (aggL (cIa us 0)) 1)) (toI (cIa (aggL (cIa us 0)) 2))) (fun us => rfl) (fun us => run33 (toI (cIa (aggL (cIa us 0)) 0)) (toI (cIa (aggL (cIa us 0)) 1)) (toI (cIa (aggL (cIa us 0)) 2))) (fun t => rfl)

/-! ### 40: skirmish/grid.Valid -/



/-- 'skirmish/grid.Valid' -/
noncomputable def F_grid_Valid (w : Int) (h : Int) : Option (Bool) :=
  bif (decide (w ≥ (1 : Int))) then
    bif (decide (w ≤ (32 : Int))) then
      bif (decide (h ≥ (1 : Int))) then
        some (decide (h ≤ (32 : Int)))
      else
      some false
    else
    some false
  else
  some false
noncomputable def enc40 (t : Bool) : CR := ⟨true, (.sc (.bool t)), [], []⟩
noncomputable def ks40 : List SK := [.f (.int .i64), .f (.int .i64)]
noncomputable def S40 (us : List AVal) : Call := bif chkA ks40 us then Call.of (F_grid_Valid (toI (cIa us 0)) (toI (cIa us 1))) enc40 else Call.none
noncomputable def C40 := AI.ext 40 S40 C33

theorem run40 (w : Int) (h : Int) : fcall TT TU GL0 C33 ownF true noL Tryd.f40 [(.sc (.int .i64 w)), (.sc (.int .i64 h))] = (F_grid_Valid w h).bind fun t => some (enc40 t) :=
  Eq.trans (b := (bif (decide (w ≥ (1 : Int))) then (bif (decide (w ≤ (32 : Int))) then (bif (decide (h ≥ (1 : Int))) then (some (CR.mk true (bo (decide (h ≤ (32 : Int)))) [] [])) else (some (CR.mk true (bo false) [] []))) else (some (CR.mk true (bo false) [] []))) else (some (CR.mk true (bo false) [] [])))) (by kernel_rfl)
    (n_condH rfl (fun h0 => (n_condH rfl (fun h1 => (n_condH rfl (fun h2 => rfl) fun h2 => rfl)) fun h1 => rfl)) fun h0 => rfl)
theorem lib40 : Lib Tryd.prog GL0 C40 :=
  Lib.fn lib33 mixed TT_ok Tryd.func40 (by decide +kernel) (by kernel_rfl) true noL (loops_of 0 (by kernel_rfl) below0) ks40 (F := fun us => F_grid_Valid (toI (cIa us 0)) (toI (cIa us 1))) (fun us => rfl) (fun us => run40 (toI (cIa us 0)) (toI (cIa us 1))) (fun t => rfl)

/-! ### 31: skirmish/terrain.formed -/



/-- 'skirmish/terrain.formed' -/
noncomputable def F_terrain_formed (m_W : Int) (m_H : Int) (m_Cells : List (List AVal)) : Option (Bool) :=
  Option.bind (F_grid_Valid m_W m_H) fun t =>
  bif t then
    some ((Int.ofNat m_Cells.length) == (wr (m_W * m_H)))
  else
  some false
noncomputable def enc31 (t : Bool) : CR := ⟨true, (.sc (.bool t)), [], []⟩
noncomputable def ks31 : List SK := [.agg [.int .i64, .int .i64, .ro 3]]
noncomputable def S31 (us : List AVal) : Call := bif chkA ks31 us then Call.of (F_terrain_formed (toI (cIa (aggL (cIa us 0)) 0)) (toI (cIa (aggL (cIa us 0)) 1)) (roRows (cIa (aggL (cIa us 0)) 2))) enc31 else Call.none
noncomputable def C31 := AI.ext 31 S31 C40

theorem run31 (m_W : Int) (m_H : Int) (m_Cells : List (List AVal)) : fcall TT TU GL0 C40 ownF true noL Tryd.f31 [(.agg [(.sc (.int .i64 m_W)), (.sc (.int .i64 m_H)), (.ro 3 m_Cells)])] = (F_terrain_formed m_W m_H m_Cells).bind fun t => some (enc31 t) :=
  Eq.trans (b := (Option.bind (F_grid_Valid m_W m_H) fun t => (bif t then (some (CR.mk true (bo ((Int.ofNat m_Cells.length) == (wr (m_W * m_H)))) [] [])) else (some (CR.mk true (bo false) [] []))))) (by kernel_rfl)
    (n_bind fun t => (n_condH rfl (fun h0 => rfl) fun h0 => rfl))
theorem lib31 : Lib Tryd.prog GL0 C31 :=
  Lib.fn lib40 mixed TT_ok Tryd.func31 (by decide +kernel) (by kernel_rfl) true noL (loops_of 0 (by kernel_rfl) below0) ks31 (F := fun us => F_terrain_formed (toI (cIa (aggL (cIa us 0)) 0)) (toI (cIa (aggL (cIa us 0)) 1)) (roRows (cIa (aggL (cIa us 0)) 2))) (fun us => rfl) (fun us => run31 (toI (cIa (aggL (cIa us 0)) 0)) (toI (cIa (aggL (cIa us 0)) 1)) (roRows (cIa (aggL (cIa us 0)) 2))) (fun t => rfl)

/-! ### 41: slices.IndexFunc[[]skirmish/api.Cell,skirmish/api.Cell] -/

noncomputable def W41_0 : Ex → List Bool
  | .ret => [false, false, false, false, true, false, false, false, false, false, false, false, false, false, false, false, false, false, false]
  | .exit n => bif Nat.beq n 0 then [false, false, false, false, false, false, false, false, false, false, false, false, false, false, false, false, false, false, false] else []
  | _ => []
noncomputable def G_slices_IndexFunc_Cell_0 (s1 : List (List AVal)) (x7 : Int) : Nat → Int → Option (Bool × Int)
  | 0, _ => none
  | m + 1, x8 =>
    bif (decide (x8 < x7)) then
      bif (decide ((0 : Int) ≤ x8)) then
        Option.bind (s1[x8.toNat]?) fun r =>
        bif (chk [(LT.int IntKind.i64), (LT.int IntKind.i64), (LT.int IntKind.i64)] r) then
          Option.bind (F_terrain_Valid_1 (cI r 0) (cI r 1) (cI r 2)) fun t =>
          bif t then
            some (true, x8)
          else
          G_slices_IndexFunc_Cell_0 s1 x7 m (wr (x8 + (1 : Int)))
        else
        none
      else
      none
    else
    some (false, 0)
noncomputable def E41_0 (s1 : List (List AVal)) (x7 : Int) (x8 : Int) : St := ⟨[(.ro 3 s1), (.clo 33 []), .dead, .dead, .dead, .dead, .dead, (.sc (.int .i64 x7)), (.sc (.int .i64 x8)), .dead, .dead, .dead, .dead, .dead, .dead, .dead, .dead, .dead, .dead], []⟩
noncomputable def X41_0 (k : Ex → St → Option CR) (t : Bool × Int) : Option CR := bif t.1 then k .ret ⟨[.dead, .dead, .dead, .dead, (.sc (.int .i64 t.2)), .dead, .dead, .dead, .dead, .dead, .dead, .dead, .dead, .dead, .dead, .dead, .dead, .dead, .dead], []⟩ else k (.exit 0) ⟨[.dead, .dead, .dead, .dead, .dead, .dead, .dead, .dead, .dead, .dead, .dead, .dead, .dead, .dead, .dead, .dead, .dead, .dead, .dead], []⟩
noncomputable def ks41_0 : List SK := [.f (.ro 3), .f (.clo 33 []), .f .dead, .f .dead, .f .dead, .f .dead, .f .dead, .f (.int .i64), .f (.int .i64), .f .dead, .f .dead, .f .dead, .f .dead, .f .dead, .f .dead, .f .dead, .f .dead, .f .dead, .f .dead]
noncomputable def hs41_0 : List HK := []
noncomputable def Lm41_0 (s : St) (k : Ex → St → Option CR) : Option CR := bif chkS ks41_0 hs41_0 s then (G_slices_IndexFunc_Cell_0 (roRows (cIa s.tmps 0)) (toI (cIa s.tmps 7)) FU (toI (cIa s.tmps 8))).bind (X41_0 k) else none
noncomputable def L41_0 (s : St) (k : Ex → St → Option CR) : Option CR := Lm41_0 (maskS (maskOf ks41_0) s) k

noncomputable def L41 : LT' := fun i s k => bif Nat.beq i 0 then L41_0 s k else none

/-- 'slices.IndexFunc[[]skirmish/api.Cell,skirmish/api.Cell]' -/
noncomputable def F_slices_IndexFunc_Cell (s1 : List (List AVal)) : Option (Int) :=
  Option.bind (G_slices_IndexFunc_Cell_0 s1 (Int.ofNat s1.length) FU (0 : Int)) fun t =>
  bif t.1 then
    some t.2
  else
  some (-(1 : Int))
noncomputable def enc41 (t : Int) : CR := ⟨true, (.sc (.int .i64 t)), [], []⟩
noncomputable def ks41 : List SK := [.f (.ro 3), .f (.clo 33 [])]
noncomputable def S41 (us : List AVal) : Call := bif chkA ks41 us then Call.of (F_slices_IndexFunc_Cell (roRows (cIa us 0))) enc41 else Call.none
noncomputable def C41 := AI.ext 41 S41 C31

@[reducible] noncomputable def B41_0 := bodyOf TT TU GL0 C31 ownF L41 (lp Tryd.f41 0)
@[reducible] noncomputable def K41_0 (k : Ex → St → Option CR) : Ex → St → Option CR := fun e s => k e (maskS (W41_0 e) s)
theorem spec41_0 (k : Ex → St → Option CR) : ∀ (m : Nat) (s1 : List (List AVal)) (x7 : Int) (x8 : Int), loopN B41_0 m (E41_0 s1 x7 x8) (K41_0 k) = (G_slices_IndexFunc_Cell_0 s1 x7 m x8).bind (X41_0 k)
  | 0, _, _, _ => rfl
  | m + 1, s1, x7, x8 =>
    Eq.trans (b := (bif (decide (x8 < x7)) then (bif (decide ((0 : Int) ≤ x8)) then (Option.bind (s1[x8.toNat]?) fun r => (bif (chk [(LT.int IntKind.i64), (LT.int IntKind.i64), (LT.int IntKind.i64)] r) then (Option.bind (F_terrain_Valid_1 (cI r 0) (cI r 1) (cI r 2)) fun t => (bif t then (k .ret ⟨[.dead, .dead, .dead, .dead, (i64 x8), .dead, .dead, .dead, .dead, .dead, .dead, .dead, .dead, .dead, .dead, .dead, .dead, .dead, .dead], []⟩) else (loopN B41_0 m ⟨[(AVal.ro 3 s1), (AVal.clo 33 []), .dead, .dead, .dead, .dead, .dead, (i64 x7), (i64 (wr (x8 + (1 : Int)))), .dead, .dead, .dead, .dead, .dead, .dead, .dead, .dead, .dead, .dead], []⟩ (K41_0 k)))) else none)) else none) else (k (.exit 0) ⟨[.dead, .dead, .dead, .dead, .dead, .dead, .dead, .dead, .dead, .dead, .dead, .dead, .dead, .dead, .dead, .dead, .dead, .dead, .dead], []⟩))) (by kernel_rfl)
      (n_condH rfl (fun h0 => (n_condH rfl (fun h1 => (n_bind fun r => (n_condH rfl (fun h2 => (n_bind fun t => (n_condH rfl (fun h3 => rfl) fun h3 => (spec41_0 k m s1 x7 (wr (x8 + (1 : Int))))))) fun h2 => n_none))) fun h1 => n_none)) fun h0 => rfl)
theorem okL41_0 : LoopOk TT TU GL0 C31 ownF L41 (lp Tryd.f41 0) :=
  loopOk_of ks41_0 hs41_0 W41_0 FU (fun s k => (G_slices_IndexFunc_Cell_0 (roRows (cIa s.tmps 0)) (toI (cIa s.tmps 7)) FU (toI (cIa s.tmps 8))).bind (X41_0 k)) (fun s k => by kernel_rfl) (fun s k => spec41_0 k FU (roRows (cIa s.tmps 0)) (toI (cIa s.tmps 7)) (toI (cIa s.tmps 8)))
theorem run41 (s1 : List (List AVal)) : fcall TT TU GL0 C31 ownF true L41 Tryd.f41 [(.ro 3 s1), (.clo 33 [])] = (F_slices_IndexFunc_Cell s1).bind fun t => some (enc41 t) :=
  Eq.trans (b := (Option.bind (G_slices_IndexFunc_Cell_0 s1 (Int.ofNat s1.length) FU (0 : Int)) fun t => (bif t.1 then (some (CR.mk true (i64 t.2) [] [])) else (some (CR.mk true (i64 (-(1 : Int))) [] []))))) (by kernel_rfl)
    (n_bind fun t => (n_condH rfl (fun h0 => rfl) fun h0 => rfl))
theorem lib41 : Lib Tryd.prog GL0 C41 :=
  Lib.fn lib31 mixed TT_ok Tryd.func41 (by decide +kernel) (by kernel_rfl) true L41 (loops_of 1 (by kernel_rfl) (belowS below0 okL41_0)) ks41 (F := fun us => F_slices_IndexFunc_Cell (roRows (cIa us 0))) (fun us => rfl) (fun us => run41 (roRows (cIa us 0))) (fun t => rfl)

/-! ### 32: slices.ContainsFunc[[]skirmish/api.Cell,skirmish/api.Cell] -/



/-- 'slices.ContainsFunc[[]skirmish/api.Cell,skirmish/api.Cell]' -/
noncomputable def F_slices_ContainsFunc_Cell (s1 : List (List AVal)) : Option (Bool) :=
  Option.bind (F_slices_IndexFunc_Cell s1) fun t =>
  some (decide (t ≥ (0 : Int)))
noncomputable def enc32 (t : Bool) : CR := ⟨true, (.sc (.bool t)), [], []⟩
noncomputable def ks32 : List SK := [.f (.ro 3), .f (.clo 33 [])]
noncomputable def S32 (us : List AVal) : Call := bif chkA ks32 us then Call.of (F_slices_ContainsFunc_Cell (roRows (cIa us 0))) enc32 else Call.none
noncomputable def C32 := AI.ext 32 S32 C41

theorem run32 (s1 : List (List AVal)) : fcall TT TU GL0 C41 ownF true noL Tryd.f32 [(.ro 3 s1), (.clo 33 [])] = (F_slices_ContainsFunc_Cell s1).bind fun t => some (enc32 t) :=
  Eq.trans (b := (Option.bind (F_slices_IndexFunc_Cell s1) fun t => (some (CR.mk true (bo (decide (t ≥ (0 : Int)))) [] [])))) (by kernel_rfl)
    (n_bind fun t => rfl)
theorem lib32 : Lib Tryd.prog GL0 C32 :=
  Lib.fn lib41 mixed TT_ok Tryd.func32 (by decide +kernel) (by kernel_rfl) true noL (loops_of 0 (by kernel_rfl) below0) ks32 (F := fun us => F_slices_ContainsFunc_Cell (roRows (cIa us 0))) (fun us => rfl) (fun us => run32 (roRows (cIa us 0))) (fun t => rfl)

/-! ### 18: skirmish/terrain.Valid -/



/-- 'skirmish/terrain.Valid' -/
noncomputable def F_terrain_Valid (m_W : Int) (m_H : Int) (m_Cells : List (List AVal)) : Option (Bool) :=
  Option.bind (F_terrain_formed m_W m_H m_Cells) fun t =>
  bif t then
    Option.bind (F_slices_ContainsFunc_Cell m_Cells) fun t1 =>
    some (!t1)
  else
  some false
noncomputable def enc18 (t : Bool) : CR := ⟨true, (.sc (.bool t)), [], []⟩
noncomputable def ks18 : List SK := [.agg [.int .i64, .int .i64, .ro 3]]
noncomputable def S18 (us : List AVal) : Call := bif chkA ks18 us then Call.of (F_terrain_Valid (toI (cIa (aggL (cIa us 0)) 0)) (toI (cIa (aggL (cIa us 0)) 1)) (roRows (cIa (aggL (cIa us 0)) 2))) enc18 else Call.none
noncomputable def C18 := AI.ext 18 S18 C32

theorem run18 (m_W : Int) (m_H : Int) (m_Cells : List (List AVal)) : fcall TT TU GL0 C32 ownF true noL Tryd.f18 [(.agg [(.sc (.int .i64 m_W)), (.sc (.int .i64 m_H)), (.ro 3 m_Cells)])] = (F_terrain_Valid m_W m_H m_Cells).bind fun t => some (enc18 t) :=
  Eq.trans (b := (Option.bind (F_terrain_formed m_W m_H m_Cells) fun t => (bif t then (Option.bind (F_slices_ContainsFunc_Cell m_Cells) fun t1 => (some (CR.mk true (bo (!t1)) [] []))) else (some (CR.mk true (bo false) [] []))))) (by kernel_rfl)
    (n_bind fun t => (n_condH rfl (fun h0 => (n_bind fun t1 => rfl)) fun h0 => rfl))
theorem lib18 : Lib Tryd.prog GL0 C18 :=
  Lib.fn lib32 mixed TT_ok Tryd.func18 (by decide +kernel) (by kernel_rfl) true noL (loops_of 0 (by kernel_rfl) below0) ks18 (F := fun us => F_terrain_Valid (toI (cIa (aggL (cIa us 0)) 0)) (toI (cIa (aggL (cIa us 0)) 1)) (roRows (cIa (aggL (cIa us 0)) 2))) (fun us => rfl) (fun us => run18 (toI (cIa (aggL (cIa us 0)) 0)) (toI (cIa (aggL (cIa us 0)) 1)) (roRows (cIa (aggL (cIa us 0)) 2))) (fun t => rfl)

/-! ### 9: (skirmish/astar.ground).valid -/



/-- '(skirmish/astar.ground).valid' -/
noncomputable def F_astar_ground__valid (g_m_W : Int) (g_m_H : Int) (g_m_Cells : List (List AVal)) (g_blocked : List (List AVal)) (g_class : Int) : Option (Bool) :=
  Option.bind (F_terrain_Valid g_m_W g_m_H g_m_Cells) fun t =>
  bif t then
    bif (decide (g_class ≥ (1 : Int))) then
      some (decide (g_class ≤ (3 : Int)))
    else
    some false
  else
  some false
noncomputable def enc9 (t : Bool) : CR := ⟨true, (.sc (.bool t)), [], []⟩
noncomputable def ks9 : List SK := [.agg [.int .i64, .int .i64, .ro 3, .ro 1, .int .i64]]
noncomputable def S9 (us : List AVal) : Call := bif chkA ks9 us then Call.of (F_astar_ground__valid (toI (cIa (aggL (cIa us 0)) 0)) (toI (cIa (aggL (cIa us 0)) 1)) (roRows (cIa (aggL (cIa us 0)) 2)) (roRows (cIa (aggL (cIa us 0)) 3)) (toI (cIa (aggL (cIa us 0)) 4))) enc9 else Call.none
noncomputable def C9 := AI.ext 9 S9 C18

theorem run9 (g_m_W : Int) (g_m_H : Int) (g_m_Cells : List (List AVal)) (g_blocked : List (List AVal)) (g_class : Int) : fcall TT TU GL0 C18 ownF true noL Tryd.f9 [(.agg [(.sc (.int .i64 g_m_W)), (.sc (.int .i64 g_m_H)), (.ro 3 g_m_Cells), (.ro 1 g_blocked), (.sc (.int .i64 g_class))])] = (F_astar_ground__valid g_m_W g_m_H g_m_Cells g_blocked g_class).bind fun t => some (enc9 t) :=
  Eq.trans (b := (Option.bind (F_terrain_Valid g_m_W g_m_H g_m_Cells) fun t => (bif t then (bif (decide (g_class ≥ (1 : Int))) then (some (CR.mk true (bo (decide (g_class ≤ (3 : Int)))) [] [])) else (some (CR.mk true (bo false) [] []))) else (some (CR.mk true (bo false) [] []))))) (by kernel_rfl)
    (n_bind fun t => (n_condH rfl (fun h0 => (n_condH rfl (fun h1 => rfl) fun h1 => rfl)) fun h0 => rfl))
theorem lib9 : Lib Tryd.prog GL0 C9 :=
  Lib.fn lib18 mixed TT_ok Tryd.func9 (by decide +kernel) (by kernel_rfl) true noL (loops_of 0 (by kernel_rfl) below0) ks9 (F := fun us => F_astar_ground__valid (toI (cIa (aggL (cIa us 0)) 0)) (toI (cIa (aggL (cIa us 0)) 1)) (roRows (cIa (aggL (cIa us 0)) 2)) (roRows (cIa (aggL (cIa us 0)) 3)) (toI (cIa (aggL (cIa us 0)) 4))) (fun us => rfl) (fun us => run9 (toI (cIa (aggL (cIa us 0)) 0)) (toI (cIa (aggL (cIa us 0)) 1)) (roRows (cIa (aggL (cIa us 0)) 2)) (roRows (cIa (aggL (cIa us 0)) 3)) (toI (cIa (aggL (cIa us 0)) 4))) (fun t => rfl)

/-! ### 23: skirmish/grid.In -/



/-- 'skirmish/grid.In' -/
noncomputable def F_grid_In (w : Int) (h : Int) (p_X : Int) (p_Y : Int) : Option (Bool) :=
  bif (decide (p_X ≥ (0 : Int))) then
    bif (decide (p_X < w)) then
      bif (decide (p_Y ≥ (0 : Int))) then
        some (decide (p_Y < h))
      else
      some false
    else
    some false
  else
  some false
noncomputable def enc23 (t : Bool) : CR := ⟨true, (.sc (.bool t)), [], []⟩
noncomputable def ks23 : List SK := [.f (.int .i64), .f (.int .i64), .agg [.int .i64, .int .i64]]
noncomputable def S23 (us : List AVal) : Call := bif chkA ks23 us then Call.of (F_grid_In (toI (cIa us 0)) (toI (cIa us 1)) (toI (cIa (aggL (cIa us 2)) 0)) (toI (cIa (aggL (cIa us 2)) 1))) enc23 else Call.none
noncomputable def C23 := AI.ext 23 S23 C9

theorem run23 (w : Int) (h : Int) (p_X : Int) (p_Y : Int) : fcall TT TU GL0 C9 ownF true noL Tryd.f23 [(.sc (.int .i64 w)), (.sc (.int .i64 h)), (.agg [(.sc (.int .i64 p_X)), (.sc (.int .i64 p_Y))])] = (F_grid_In w h p_X p_Y).bind fun t => some (enc23 t) :=
  Eq.trans (b := (bif (decide (p_X ≥ (0 : Int))) then (bif (decide (p_X < w)) then (bif (decide (p_Y ≥ (0 : Int))) then (some (CR.mk true (bo (decide (p_Y < h))) [] [])) else (some (CR.mk true (bo false) [] []))) else (some (CR.mk true (bo false) [] []))) else (some (CR.mk true (bo false) [] [])))) (by kernel_rfl)
    (n_condH rfl (fun h0 => (n_condH rfl (fun h1 => (n_condH rfl (fun h2 => rfl) fun h2 => rfl)) fun h1 => rfl)) fun h0 => rfl)
theorem lib23 : Lib Tryd.prog GL0 C23 :=
  Lib.fn lib9 mixed TT_ok Tryd.func23 (by decide +kernel) (by kernel_rfl) true noL (loops_of 0 (by kernel_rfl) below0) ks23 (F := fun us => F_grid_In (toI (cIa us 0)) (toI (cIa us 1)) (toI (cIa (aggL (cIa us 2)) 0)) (toI (cIa (aggL (cIa us 2)) 1))) (fun us => rfl) (fun us => run23 (toI (cIa us 0)) (toI (cIa us 1)) (toI (cIa (aggL (cIa us 2)) 0)) (toI (cIa (aggL (cIa us 2)) 1))) (fun t => rfl)

/-! ### 10: (skirmish/astar.ground).inside -/



/-- '(skirmish/astar.ground).inside' -/
noncomputable def F_astar_ground__inside (g_m_W : Int) (g_m_H : Int) (g_m_Cells : List (List AVal)) (g_blocked : List (List AVal)) (g_class : Int) (p_X : Int) (p_Y : Int) : Option (Bool) :=
  Option.bind (F_grid_In g_m_W g_m_H p_X p_Y) fun t =>
  some t
noncomputable def enc10 (t : Bool) : CR := ⟨true, (.sc (.bool t)), [], []⟩
noncomputable def ks10 : List SK := [.agg [.int .i64, .int .i64, .ro 3, .ro 1, .int .i64], .agg [.int .i64, .int .i64]]
noncomputable def S10 (us : List AVal) : Call := bif chkA ks10 us then Call.of (F_astar_ground__inside (toI (cIa (aggL (cIa us 0)) 0)) (toI (cIa (aggL (cIa us 0)) 1)) (roRows (cIa (aggL (cIa us 0)) 2)) (roRows (cIa (aggL (cIa us 0)) 3)) (toI (cIa (aggL (cIa us 0)) 4)) (toI (cIa (aggL (cIa us 1)) 0)) (toI (cIa (aggL (cIa us 1)) 1))) enc10 else Call.none
noncomputable def C10 := AI.ext 10 S10 C23

theorem run10 (g_m_W : Int) (g_m_H : Int) (g_m_Cells : List (List AVal)) (g_blocked : List (List AVal)) (g_class : Int) (p_X : Int) (p_Y : Int) : fcall TT TU GL0 C23 ownF true noL Tryd.f10 [(.agg [(.sc (.int .i64 g_m_W)), (.sc (.int .i64 g_m_H)), (.ro 3 g_m_Cells), (.ro 1 g_blocked), (.sc (.int .i64 g_class))]), (.agg [(.sc (.int .i64 p_X)), (.sc (.int .i64 p_Y))])] = (F_astar_ground__inside g_m_W g_m_H g_m_Cells g_blocked g_class p_X p_Y).bind fun t => some (enc10 t) :=
  Eq.trans (b := (Option.bind (F_grid_In g_m_W g_m_H p_X p_Y) fun t => (some (CR.mk true (bo t) [] [])))) (by kernel_rfl)
    (n_bind fun t => rfl)
theorem lib10 : Lib Tryd.prog GL0 C10 :=
  Lib.fn lib23 mixed TT_ok Tryd.func10 (by decide +kernel) (by kernel_rfl) true noL (loops_of 0 (by kernel_rfl) below0) ks10 (F := fun us => F_astar_ground__inside (toI (cIa (aggL (cIa us 0)) 0)) (toI (cIa (aggL (cIa us 0)) 1)) (roRows (cIa (aggL (cIa us 0)) 2)) (roRows (cIa (aggL (cIa us 0)) 3)) (toI (cIa (aggL (cIa us 0)) 4)) (toI (cIa (aggL (cIa us 1)) 0)) (toI (cIa (aggL (cIa us 1)) 1))) (fun us => rfl) (fun us => run10 (toI (cIa (aggL (cIa us 0)) 0)) (toI (cIa (aggL (cIa us 0)) 1)) (roRows (cIa (aggL (cIa us 0)) 2)) (roRows (cIa (aggL (cIa us 0)) 3)) (toI (cIa (aggL (cIa us 0)) 4)) (toI (cIa (aggL (cIa us 1)) 0)) (toI (cIa (aggL (cIa us 1)) 1))) (fun t => rfl)

/-! ### 19: skirmish/terrain.inside -/



/-- 'skirmish/terrain.inside' -/
noncomputable def F_terrain_inside (m_W : Int) (m_H : Int) (m_Cells : List (List AVal)) (p_X : Int) (p_Y : Int) : Option (Bool) :=
  Option.bind (F_terrain_formed m_W m_H m_Cells) fun t =>
  bif t then
    Option.bind (F_grid_In m_W m_H p_X p_Y) fun t1 =>
    some t1
  else
  some false
noncomputable def enc19 (t : Bool) : CR := ⟨true, (.sc (.bool t)), [], []⟩
noncomputable def ks19 : List SK := [.agg [.int .i64, .int .i64, .ro 3], .agg [.int .i64, .int .i64]]
noncomputable def S19 (us : List AVal) : Call := bif chkA ks19 us then Call.of (F_terrain_inside (toI (cIa (aggL (cIa us 0)) 0)) (toI (cIa (aggL (cIa us 0)) 1)) (roRows (cIa (aggL (cIa us 0)) 2)) (toI (cIa (aggL (cIa us 1)) 0)) (toI (cIa (aggL (cIa us 1)) 1))) enc19 else Call.none
noncomputable def C19 := AI.ext 19 S19 C10

theorem run19 (m_W : Int) (m_H : Int) (m_Cells : List (List AVal)) (p_X : Int) (p_Y : Int) : fcall TT TU GL0 C10 ownF true noL Tryd.f19 [(.agg [(.sc (.int .i64 m_W)), (.sc (.int .i64 m_H)), (.ro 3 m_Cells)]), (.agg [(.sc (.int .i64 p_X)), (.sc (.int .i64 p_Y))])] = (F_terrain_inside m_W m_H m_Cells p_X p_Y).bind fun t => some (enc19 t) :=
  Eq.trans (b := (Option.bind (F_terrain_formed m_W m_H m_Cells) fun t => (bif t then (Option.bind (F_grid_In m_W m_H p_X p_Y) fun t1 => (some (CR.mk true (bo t1) [] []))) else (some (CR.mk true (bo false) [] []))))) (by kernel_rfl)
    (n_bind fun t => (n_condH rfl (fun h0 => (n_bind fun t1 => rfl)) fun h0 => rfl))
theorem lib19 : Lib Tryd.prog GL0 C19 :=
  Lib.fn lib10 mixed TT_ok Tryd.func19 (by decide +kernel) (by kernel_rfl) true noL (loops_of 0 (by kernel_rfl) below0) ks19 (F := fun us => F_terrain_inside (toI (cIa (aggL (cIa us 0)) 0)) (toI (cIa (aggL (cIa us 0)) 1)) (roRows (cIa (aggL (cIa us 0)) 2)) (toI (cIa (aggL (cIa us 1)) 0)) (toI (cIa (aggL (cIa us 1)) 1))) (fun us => rfl) (fun us => run19 (toI (cIa (aggL (cIa us 0)) 0)) (toI (cIa (aggL (cIa us 0)) 1)) (roRows (cIa (aggL (cIa us 0)) 2)) (toI (cIa (aggL (cIa us 1)) 0)) (toI (cIa (aggL (cIa us 1)) 1))) (fun t => rfl)

/-! ### 6: skirmish/terrain.Get -/



/-- 'skirmish/terrain.Get' -/
noncomputable def F_terrain_Get (m_W : Int) (m_H : Int) (m_Cells : List (List AVal)) (p_X : Int) (p_Y : Int) : Option (Int × Int × Int × Bool) :=
  Option.bind (F_terrain_inside m_W m_H m_Cells p_X p_Y) fun t =>
  bif (!t) then
    some ((0 : Int), (0 : Int), (0 : Int), false)
  else
  Option.bind (F_grid_Index m_W p_X p_Y) fun t1 =>
  bif (decide ((0 : Int) ≤ t1)) then
    Option.bind (m_Cells[t1.toNat]?) fun r =>
    bif (chk [(LT.int IntKind.i64), (LT.int IntKind.i64), (LT.int IntKind.i64)] r) then
      some ((cI r 0), (cI r 1), (cI r 2), true)
    else
    none
  else
  none
noncomputable def enc6 (t : Int × Int × Int × Bool) : CR := ⟨true, (.tup [(.agg [(.sc (.int .i64 t.1)), (.sc (.int .i64 t.2.1)), (.sc (.int .i64 t.2.2.1))]), (.sc (.bool t.2.2.2))]), [], []⟩
noncomputable def ks6 : List SK := [.agg [.int .i64, .int .i64, .ro 3], .agg [.int .i64, .int .i64]]
noncomputable def S6 (us : List AVal) : Call := bif chkA ks6 us then Call.of (F_terrain_Get (toI (cIa (aggL (cIa us 0)) 0)) (toI (cIa (aggL (cIa us 0)) 1)) (roRows (cIa (aggL (cIa us 0)) 2)) (toI (cIa (aggL (cIa us 1)) 0)) (toI (cIa (aggL (cIa us 1)) 1))) enc6 else Call.none
noncomputable def C6 := AI.ext 6 S6 C19

theorem run6 (m_W : Int) (m_H : Int) (m_Cells : List (List AVal)) (p_X : Int) (p_Y : Int) : fcall TT TU GL0 C19 ownF true noL Tryd.f6 [(.agg [(.sc (.int .i64 m_W)), (.sc (.int .i64 m_H)), (.ro 3 m_Cells)]), (.agg [(.sc (.int .i64 p_X)), (.sc (.int .i64 p_Y))])] = (F_terrain_Get m_W m_H m_Cells p_X p_Y).bind fun t => some (enc6 t) :=
  Eq.trans (b := (Option.bind (F_terrain_inside m_W m_H m_Cells p_X p_Y) fun t => (bif (!t) then (some (CR.mk true (AVal.tup [(AVal.agg [(i64 (0 : Int)), (i64 (0 : Int)), (i64 (0 : Int))]), (bo false)]) [] [])) else (Option.bind (F_grid_Index m_W p_X p_Y) fun t1 => (bif (decide ((0 : Int) ≤ t1)) then (Option.bind (m_Cells[t1.toNat]?) fun r => (bif (chk [(LT.int IntKind.i64), (LT.int IntKind.i64), (LT.int IntKind.i64)] r) then (some (CR.mk true (AVal.tup [(AVal.agg [(i64 (cI r 0)), (i64 (cI r 1)), (i64 (cI r 2))]), (bo true)]) [] [])) else none)) else none))))) (by kernel_rfl)
    (n_bind fun t => (n_condH rfl (fun h0 => rfl) fun h0 => (n_bind fun t1 => (n_condH rfl (fun h1 => (n_bind fun r => (n_condH rfl (fun h2 => rfl) fun h2 => n_none))) fun h1 => n_none))))
theorem lib6 : Lib Tryd.prog GL0 C6 :=
  Lib.fn lib19 mixed TT_ok Tryd.func6 (by decide +kernel) (by kernel_rfl) true noL (loops_of 0 (by kernel_rfl) below0) ks6 (F := fun us => F_terrain_Get (toI (cIa (aggL (cIa us 0)) 0)) (toI (cIa (aggL (cIa us 0)) 1)) (roRows (cIa (aggL (cIa us 0)) 2)) (toI (cIa (aggL (cIa us 1)) 0)) (toI (cIa (aggL (cIa us 1)) 1))) (fun us => rfl) (fun us => run6 (toI (cIa (aggL (cIa us 0)) 0)) (toI (cIa (aggL (cIa us 0)) 1)) (roRows (cIa (aggL (cIa us 0)) 2)) (toI (cIa (aggL (cIa us 1)) 0)) (toI (cIa (aggL (cIa us 1)) 1))) (fun t => rfl)

/-! ### 24: skirmish/terrain.Passable -/



/-- 'skirmish/terrain.Passable' -/
noncomputable def F_terrain_Passable (m_W : Int) (m_H : Int) (m_Cells : List (List AVal)) (class_ : Int) (p_X : Int) (p_Y : Int) : Option (Bool) :=
  Option.bind (F_terrain_Get m_W m_H m_Cells p_X p_Y) fun t =>
  bif (!t.2.2.2) then
    some false
  else
  bif (decide (class_ < (1 : Int))) then
    some false
  else
  bif (decide (class_ > (3 : Int))) then
    some false
  else
  bif (class_ == (3 : Int)) then
    some true
  else
  bif (decide (t.1 ≥ (0 : Int))) then
    bif (decide (t.1 < (6 : Int))) then
      bif ((decide ((0 : Int) ≤ class_)) && (decide (class_ < (4 : Int)))) then
        Option.bind ([[(bo false), (bo false), (bo false), (bo false), (bo false), (bo false)], [(bo false), (bo true), (bo false), (bo false), (bo false), (bo true)], [(bo false), (bo true), (bo true), (bo false), (bo false), (bo true)], [(bo false), (bo true), (bo true), (bo true), (bo true), (bo true)]][class_.toNat]?) fun r =>
        bif (chk [LT.bool, LT.bool, LT.bool, LT.bool, LT.bool, LT.bool] r) then
          bif ((decide ((0 : Int) ≤ t.1)) && (decide (t.1 < (6 : Int)))) then
            Option.bind ([[(bo (cB r 0))], [(bo (cB r 1))], [(bo (cB r 2))], [(bo (cB r 3))], [(bo (cB r 4))], [(bo (cB r 5))]][t.1.toNat]?) fun r1 =>
            bif (chk [LT.bool] r1) then
              some (cB r1 0)
            else
            none
          else
          none
        else
        none
      else
      none
    else
    some false
  else
  some false
noncomputable def enc24 (t : Bool) : CR := ⟨true, (.sc (.bool t)), [], []⟩
noncomputable def ks24 : List SK := [.agg [.int .i64, .int .i64, .ro 3], .f (.int .i64), .agg [.int .i64, .int .i64]]
noncomputable def S24 (us : List AVal) : Call := bif chkA ks24 us then Call.of (F_terrain_Passable (toI (cIa (aggL (cIa us 0)) 0)) (toI (cIa (aggL (cIa us 0)) 1)) (roRows (cIa (aggL (cIa us 0)) 2)) (toI (cIa us 1)) (toI (cIa (aggL (cIa us 2)) 0)) (toI (cIa (aggL (cIa us 2)) 1))) enc24 else Call.none
noncomputable def C24 := AI.ext 24 S24 C6

theorem run24 (m_W : Int) (m_H : Int) (m_Cells : List (List AVal)) (class_ : Int) (p_X : Int) (p_Y : Int) : fcall TT TU GL0 C6 ownF true noL Tryd.f24 [(.agg [(.sc (.int .i64 m_W)), (.sc (.int .i64 m_H)), (.ro 3 m_Cells)]), (.sc (.int .i64 class_)), (.agg [(.sc (.int .i64 p_X)), (.sc (.int .i64 p_Y))])] = (F_terrain_Passable m_W m_H m_Cells class_ p_X p_Y).bind fun t => some (enc24 t) :=
  Eq.trans (b := (Option.bind (F_terrain_Get m_W m_H m_Cells p_X p_Y) fun t => (bif (!t.2.2.2) then (some (CR.mk true (bo false) [] [])) else (bif (decide (class_ < (1 : Int))) then (some (CR.mk true (bo false) [] [])) else (bif (decide (class_ > (3 : Int))) then (some (CR.mk true (bo false) [] [])) else (bif (class_ == (3 : Int)) then (some (CR.mk true (bo true) [] [])) else (bif (decide (t.1 ≥ (0 : Int))) then (bif (decide (t.1 < (6 : Int))) then (bif (((decide ((0 : Int) ≤ class_)) && (decide (class_ < (4 : Int)))) && true) then (Option.bind ([[(bo false), (bo false), (bo false), (bo false), (bo false), (bo false)], [(bo false), (bo true), (bo false), (bo false), (bo false), (bo true)], [(bo false), (bo true), (bo true), (bo false), (bo false), (bo true)], [(bo false), (bo true), (bo true), (bo true), (bo true), (bo true)]][class_.toNat]?) fun r => (bif (chk [LT.bool, LT.bool, LT.bool, LT.bool, LT.bool, LT.bool] r) then (bif (((decide ((0 : Int) ≤ t.1)) && (decide (t.1 < (6 : Int)))) && true) then (Option.bind ([[(bo (cB r 0))], [(bo (cB r 1))], [(bo (cB r 2))], [(bo (cB r 3))], [(bo (cB r 4))], [(bo (cB r 5))]][t.1.toNat]?) fun r1 => (bif (chk [LT.bool] r1) then (some (CR.mk true (bo (cB r1 0)) [] [])) else none)) else none) else none)) else none) else (some (CR.mk true (bo false) [] []))) else (some (CR.mk true (bo false) [] []))))))))) (by kernel_rfl)
    (n_bind fun t => (n_condH rfl (fun h0 => rfl) fun h0 => (n_condH rfl (fun h1 => rfl) fun h1 => (n_condH rfl (fun h2 => rfl) fun h2 => (n_condH rfl (fun h3 => rfl) fun h3 => (n_condH rfl (fun h4 => (n_condH rfl (fun h5 => (n_condH (n_andR rfl rfl) (fun h6 => (n_bind fun r => (n_condH rfl (fun h7 => (n_condH (n_andR rfl rfl) (fun h8 => (n_bind fun r1 => (n_condH rfl (fun h9 => rfl) fun h9 => n_none))) fun h8 => n_none)) fun h7 => n_none))) fun h6 => n_none)) fun h5 => rfl)) fun h4 => rfl))))))
theorem lib24 : Lib Tryd.prog GL0 C24 :=
  Lib.fn lib6 mixed TT_ok Tryd.func24 (by decide +kernel) (by kernel_rfl) true noL (loops_of 0 (by kernel_rfl) below0) ks24 (F := fun us => F_terrain_Passable (toI (cIa (aggL (cIa us 0)) 0)) (toI (cIa (aggL (cIa us 0)) 1)) (roRows (cIa (aggL (cIa us 0)) 2)) (toI (cIa us 1)) (toI (cIa (aggL (cIa us 2)) 0)) (toI (cIa (aggL (cIa us 2)) 1))) (fun us => rfl) (fun us => run24 (toI (cIa (aggL (cIa us 0)) 0)) (toI (cIa (aggL (cIa us 0)) 1)) (roRows (cIa (aggL (cIa us 0)) 2)) (toI (cIa us 1)) (toI (cIa (aggL (cIa us 2)) 0)) (toI (cIa (aggL (cIa us 2)) 1))) (fun t => rfl)

/-! ### 11: (skirmish/astar.ground).free -/



/-- '(skirmish/astar.ground).free' -/
noncomputable def F_astar_ground__free (g_m_W : Int) (g_m_H : Int) (g_m_Cells : List (List AVal)) (g_blocked : List (List AVal)) (g_class : Int) (p_X : Int) (p_Y : Int) : Option (Bool) :=
  Option.bind (F_terrain_Passable g_m_W g_m_H g_m_Cells g_class p_X p_Y) fun t =>
  bif (!t) then
    some false
  else
  Option.bind (F_grid_Index g_m_W p_X p_Y) fun t1 =>
  bif (g_class == (3 : Int)) then
    some true
  else
  bif (decide (t1 ≥ (Int.ofNat g_blocked.length))) then
    some true
  else
  bif (decide ((0 : Int) ≤ t1)) then
    Option.bind (g_blocked[t1.toNat]?) fun r =>
    bif (chk [LT.bool] r) then
      some (!(cB r 0))
    else
    none
  else
  none
noncomputable def enc11 (t : Bool) : CR := ⟨true, (.sc (.bool t)), [], []⟩
noncomputable def ks11 : List SK := [.agg [.int .i64, .int .i64, .ro 3, .ro 1, .int .i64], .agg [.int .i64, .int .i64]]
noncomputable def S11 (us : List AVal) : Call := bif chkA ks11 us then Call.of (F_astar_ground__free (toI (cIa (aggL (cIa us 0)) 0)) (toI (cIa (aggL (cIa us 0)) 1)) (roRows (cIa (aggL (cIa us 0)) 2)) (roRows (cIa (aggL (cIa us 0)) 3)) (toI (cIa (aggL (cIa us 0)) 4)) (toI (cIa (aggL (cIa us 1)) 0)) (toI (cIa (aggL (cIa us 1)) 1))) enc11 else Call.none
noncomputable def C11 := AI.ext 11 S11 C24

theorem run11 (g_m_W : Int) (g_m_H : Int) (g_m_Cells : List (List AVal)) (g_blocked : List (List AVal)) (g_class : Int) (p_X : Int) (p_Y : Int) : fcall TT TU GL0 C24 ownF true noL Tryd.f11 [(.agg [(.sc (.int .i64 g_m_W)), (.sc (.int .i64 g_m_H)), (.ro 3 g_m_Cells), (.ro 1 g_blocked), (.sc (.int .i64 g_class))]), (.agg [(.sc (.int .i64 p_X)), (.sc (.int .i64 p_Y))])] = (F_astar_ground__free g_m_W g_m_H g_m_Cells g_blocked g_class p_X p_Y).bind fun t => some (enc11 t) :=
  Eq.trans (b := (Option.bind (F_terrain_Passable g_m_W g_m_H g_m_Cells g_class p_X p_Y) fun t => (bif (!t) then (some (CR.mk true (bo false) [] [])) else (Option.bind (F_grid_Index g_m_W p_X p_Y) fun t1 => (bif (g_class == (3 : Int)) then (some (CR.mk true (bo true) [] [])) else (bif (decide (t1 ≥ (Int.ofNat g_blocked.length))) then (some (CR.mk true (bo true) [] [])) else (bif (decide ((0 : Int) ≤ t1)) then (Option.bind (g_blocked[t1.toNat]?) fun r => (bif (chk [LT.bool] r) then (some (CR.mk true (bo (!(cB r 0))) [] [])) else none)) else none))))))) (by kernel_rfl)
    (n_bind fun t => (n_condH rfl (fun h0 => rfl) fun h0 => (n_bind fun t1 => (n_condH rfl (fun h1 => rfl) fun h1 => (n_condH rfl (fun h2 => rfl) fun h2 => (n_condH rfl (fun h3 => (n_bind fun r => (n_condH rfl (fun h4 => rfl) fun h4 => n_none))) fun h3 => n_none))))))
theorem lib11 : Lib Tryd.prog GL0 C11 :=
  Lib.fn lib24 mixed TT_ok Tryd.func11 (by decide +kernel) (by kernel_rfl) true noL (loops_of 0 (by kernel_rfl) below0) ks11 (F := fun us => F_astar_ground__free (toI (cIa (aggL (cIa us 0)) 0)) (toI (cIa (aggL (cIa us 0)) 1)) (roRows (cIa (aggL (cIa us 0)) 2)) (roRows (cIa (aggL (cIa us 0)) 3)) (toI (cIa (aggL (cIa us 0)) 4)) (toI (cIa (aggL (cIa us 1)) 0)) (toI (cIa (aggL (cIa us 1)) 1))) (fun us => rfl) (fun us => run11 (toI (cIa (aggL (cIa us 0)) 0)) (toI (cIa (aggL (cIa us 0)) 1)) (roRows (cIa (aggL (cIa us 0)) 2)) (roRows (cIa (aggL (cIa us 0)) 3)) (toI (cIa (aggL (cIa us 0)) 4)) (toI (cIa (aggL (cIa us 1)) 0)) (toI (cIa (aggL (cIa us 1)) 1))) (fun t => rfl)

/-! ### 25: (skirmish/astar.ground).reach$1 -/



/-- '(skirmish/astar.ground).reach$1' -/
noncomputable def F_astar_ground__reach_1 (a0 : Int) : Option (Unit) :=
  bif (a0 != (0 : Int)) then
    none
  else
  some ()
noncomputable def enc25 (t : Unit) : CR := ⟨true, (.tup []), [], []⟩
noncomputable def ks25 : List SK := [.rptr [.int .i64]]
noncomputable def S25 (us : List AVal) : Call := bif chkA ks25 us then Call.of (F_astar_ground__reach_1 (toI (cIa (rptrL (cIa us 0)) 0))) enc25 else Call.none
noncomputable def C25 := AI.ext 25 S25 C11

theorem run25 (a0 : Int) : fcall TT TU GL0 C11 ownF true noL Tryd.f25 [(.rptr [(.sc (.int .i64 a0))])] = (F_astar_ground__reach_1 a0).bind fun t => some (enc25 t) :=
  Eq.trans (b := (bif (a0 != (0 : Int)) then none else (some (CR.mk true (AVal.tup []) [] [])))) (by kernel_rfl)
    (n_condH rfl (fun h0 => n_none) fun h0 => rfl)
theorem lib25 : Lib Tryd.prog GL0 C25 :=
  Lib.fn lib11 mixed TT_ok Tryd.func25 (by decide +kernel) (by kernel_rfl) true noL (loops_of 0 (by kernel_rfl) below0) ks25 (F := fun us => F_astar_ground__reach_1 (toI (cIa (rptrL (cIa us 0)) 0))) (fun us => rfl) (fun us => run25 (toI (cIa (rptrL (cIa us 0)) 0))) (fun t => rfl)
theorem dok25 : DOk Tryd.prog GL0 25 S25 :=
  DOk.fn lib11 mixed TT_ok Tryd.func25 (by decide +kernel) (by kernel_rfl) true noL (loops_of 0 (by kernel_rfl) below0) ks25 (F := fun us => F_astar_ground__reach_1 (toI (cIa (rptrL (cIa us 0)) 0))) (fun us => rfl) (fun us => run25 (toI (cIa (rptrL (cIa us 0)) 0))) (fun t => rfl)

/-! ### 26: (skirmish/astar.ground).reach$2 -/

noncomputable def W26_0 : Ex → List Bool
  | .ret => [false, false, false, false, false, false, false, false, false, false, false, false, false, false, false, false, false, false, false, false, false, false, false, false, false, false, false, false, false, false, false, false, false, false, false]
  | .exit n => bif Nat.beq n 0 then [false, true, true, true, true, true, true, false, false, false, false, false, false, false, false, false, false, false, false, false, false, false, false, false, false, false, false, false, false, false, false, false, false, false, false] else []
  | _ => []
noncomputable def G_astar_ground__reach_2_0 (c : Int) : Nat → List (List AVal) → Option (List (List AVal))
  | 0, _ => none
  | m + 1, R4 =>
    bif (decide ((Int.ofNat R4.length) ≤ c)) then
      bif (roomOk (R4.length + 1) 24) then
        G_astar_ground__reach_2_0 c m (Blk.rows (Blk.mk (BKind.ns 0 27 2) 29 1 (R4 ++ [[(AVal.ro 2 [])]])))
      else
      none
    else
    some R4
noncomputable def E26_0 (R4 : List (List AVal)) (R5 : List (List AVal)) (c : Int) (b2_0 : Int) (b2_1 : Int) (b2_2 : List (List AVal)) (b2_3 : List (List AVal)) (b2_4 : Int) (b3_0 : Int) (b6_0 : Int) (b6_1 : Int) : St := ⟨[.dead, (.sc (.int .i64 c)), (.ref 0 1 0 0), (.ref 1 1 0 0), (.ref 2 1 0 0), (.ref 3 1 0 0), (.ref 16000 1 0 0), .dead, .dead, .dead, .dead, .dead, .dead, .dead, .dead, .dead, .dead, .dead, .dead, .dead, .dead, .dead, .dead, .dead, .dead, .dead, .dead, .dead, .dead, .dead, .dead, .dead, .dead, .dead, .dead], [(0, ⟨.box, 57, 1, [[(.slc 4 (R4).length)]]⟩), (1, ⟨.box, 28, 1, [[(.slc 5 (R5).length)]]⟩), (2, ⟨.box, 43, 5, [[(.sc (.int .i64 b2_0)), (.sc (.int .i64 b2_1)), (.ro 3 b2_2), (.ro 1 b2_3), (.sc (.int .i64 b2_4))]]⟩), (3, ⟨.box, 3, 1, [[(.sc (.int .i64 b3_0))]]⟩), (4, ⟨(.ns 0 27 2), 29, 1, R4⟩), (5, ⟨.arr, 3, 1, R5⟩), (16000, ⟨.box, 27, 2, [[(.sc (.int .i64 b6_0)), (.sc (.int .i64 b6_1))]]⟩)]⟩
noncomputable def X26_0 (R5 : List (List AVal)) (c : Int) (b2_0 : Int) (b2_1 : Int) (b2_2 : List (List AVal)) (b2_3 : List (List AVal)) (b2_4 : Int) (b3_0 : Int) (b6_0 : Int) (b6_1 : Int) (k : Ex → St → Option CR) (t : List (List AVal)) : Option CR := k (.exit 0) ⟨[.dead, (.sc (.int .i64 c)), (.ref 0 1 0 0), (.ref 1 1 0 0), (.ref 2 1 0 0), (.ref 3 1 0 0), (.ref 16000 1 0 0), .dead, .dead, .dead, .dead, .dead, .dead, .dead, .dead, .dead, .dead, .dead, .dead, .dead, .dead, .dead, .dead, .dead, .dead, .dead, .dead, .dead, .dead, .dead, .dead, .dead, .dead, .dead, .dead], [(0, ⟨.box, 57, 1, [[(.slc 4 (t).length)]]⟩), (1, ⟨.box, 28, 1, [[(.slc 5 (R5).length)]]⟩), (2, ⟨.box, 43, 5, [[(.sc (.int .i64 b2_0)), (.sc (.int .i64 b2_1)), (.ro 3 b2_2), (.ro 1 b2_3), (.sc (.int .i64 b2_4))]]⟩), (3, ⟨.box, 3, 1, [[(.sc (.int .i64 b3_0))]]⟩), (4, ⟨(.ns 0 27 2), 29, 1, t⟩), (5, ⟨.arr, 3, 1, R5⟩), (16000, ⟨.box, 27, 2, [[(.sc (.int .i64 b6_0)), (.sc (.int .i64 b6_1))]]⟩)]⟩
noncomputable def ks26_0 : List SK := [.f .dead, .f (.int .i64), .f (.ref 0 1 0 0), .f (.ref 1 1 0 0), .f (.ref 2 1 0 0), .f (.ref 3 1 0 0), .f (.ref 16000 1 0 0), .f .dead, .f .dead, .f .dead, .f .dead, .f .dead, .f .dead, .f .dead, .f .dead, .f .dead, .f .dead, .f .dead, .f .dead, .f .dead, .f .dead, .f .dead, .f .dead, .f .dead, .f .dead, .f .dead, .f .dead, .f .dead, .f .dead, .f .dead, .f .dead, .f .dead, .f .dead, .f .dead, .f .dead]
noncomputable def hs26_0 : List HK := [⟨0, .box, 57, 1, some [.slc 4 4]⟩, ⟨1, .box, 28, 1, some [.slc 5 5]⟩, ⟨2, .box, 43, 5, some [.int .i64, .int .i64, .ro 3, .ro 1, .int .i64]⟩, ⟨3, .box, 3, 1, some [.int .i64]⟩, ⟨4, (.ns 0 27 2), 29, 1, none⟩, ⟨5, .arr, 3, 1, none⟩, ⟨16000, .box, 27, 2, some [.int .i64, .int .i64]⟩]
noncomputable def Lm26_0 (s : St) (k : Ex → St → Option CR) : Option CR := bif chkS ks26_0 hs26_0 s then (G_astar_ground__reach_2_0 (toI (cIa s.tmps 1)) FU (blkAt s.heap 4).2.rows).bind (X26_0 (blkAt s.heap 5).2.rows (toI (cIa s.tmps 1)) (toI (cIa (rows0 (blkAt s.heap 2).2) 0)) (toI (cIa (rows0 (blkAt s.heap 2).2) 1)) (roRows (cIa (rows0 (blkAt s.heap 2).2) 2)) (roRows (cIa (rows0 (blkAt s.heap 2).2) 3)) (toI (cIa (rows0 (blkAt s.heap 2).2) 4)) (toI (cIa (rows0 (blkAt s.heap 3).2) 0)) (toI (cIa (rows0 (blkAt s.heap 6).2) 0)) (toI (cIa (rows0 (blkAt s.heap 6).2) 1)) k) else none
noncomputable def L26_0 (s : St) (k : Ex → St → Option CR) : Option CR := Lm26_0 (maskS (maskOf ks26_0) s) k

noncomputable def L26 : LT' := fun i s k => bif Nat.beq i 0 then L26_0 s k else none

/-- '(skirmish/astar.ground).reach$2' -/
noncomputable def F_astar_ground__reach_2 (p_X : Int) (p_Y : Int) (c : Int) (a2 : List (List AVal)) (a3 : List (List AVal)) (a4_m_W : Int) (a4_m_H : Int) (a4_m_Cells : List (List AVal)) (a4_blocked : List (List AVal)) (a4_class : Int) (a5 : Int) : Option (List (List AVal) × List (List AVal) × Int) :=
  Option.bind (G_astar_ground__reach_2_0 c FU a2) fun t =>
  bif ((decide ((0 : Int) ≤ c)) && (decide (c < (Int.ofNat t.length)))) then
    Option.bind (t[c.toNat]?) fun r =>
    bif (chk [(LT.sl 27 2)] r) then
      bif (roomOk ((cR r 0).length + 1) 16) then
        bif (decide (c < (Int.ofNat (Blk.rows (Blk.mk (BKind.ns 1 27 2) 29 1 (List.set t c.toNat [(AVal.ro 2 ((cR r 0) ++ [[(i64 p_X), (i64 p_Y)]]))]))).length))) then
          bif (Nat.beq c.toNat c.toNat) then
            Option.bind (F_grid_Index a4_m_W p_X p_Y) fun t1 =>
            bif ((decide ((0 : Int) ≤ t1)) && (decide (t1 < (Int.ofNat a3.length)))) then
              some ((Blk.rows (Blk.mk (BKind.ns 0 27 2) 29 1 (Blk.rows (Blk.mk (BKind.ns 0 27 2) 29 1 (Blk.rows (Blk.mk (BKind.ns 0 27 2) 29 1 (Blk.rows (Blk.mk (BKind.ns 2 27 2) 29 1 (Blk.rows (Blk.mk (BKind.ns 1 27 2) 29 1 (List.set t c.toNat [(AVal.ro 2 ((cR r 0) ++ [[(i64 p_X), (i64 p_Y)]]))]))))))))))), (Blk.rows (Blk.mk BKind.arr 3 1 (Blk.rows (Blk.mk BKind.arr 3 1 (Blk.rows (Blk.mk BKind.arr 3 1 (List.set a3 t1.toNat [(i64 c)]))))))), (wr (a5 + (1 : Int))))
            else
            none
          else
          none
        else
        none
      else
      none
    else
    none
  else
  none
noncomputable def enc26 (p_X : Int) (p_Y : Int) (c : Int) (a2 : List (List AVal)) (a3 : List (List AVal)) (a4_m_W : Int) (a4_m_H : Int) (a4_m_Cells : List (List AVal)) (a4_blocked : List (List AVal)) (a4_class : Int) (a5 : Int) (t : List (List AVal) × List (List AVal) × Int) : CR := ⟨true, (.tup []), [[[(.slc 4 (t.1).length)]], [[(.slc 5 (t.2.1).length)]], [[(.sc (.int .i64 a4_m_W)), (.sc (.int .i64 a4_m_H)), (.ro 3 a4_m_Cells), (.ro 1 a4_blocked), (.sc (.int .i64 a4_class))]], [[(.sc (.int .i64 t.2.2))]], t.1, t.2.1], []⟩
noncomputable def ks26 : List SK := [.agg [.int .i64, .int .i64], .f (.int .i64), .f (.ref 0 1 0 0), .f (.ref 1 1 0 0), .f (.ref 2 1 0 0), .f (.ref 3 1 0 0)]
noncomputable def hs26 : List HK := [⟨0, .box, 57, 1, some [.slc 4 4]⟩, ⟨1, .box, 28, 1, some [.slc 5 5]⟩, ⟨2, .box, 43, 5, some [.int .i64, .int .i64, .ro 3, .ro 1, .int .i64]⟩, ⟨3, .box, 3, 1, some [.int .i64]⟩, ⟨4, (.ns 0 27 2), 29, 1, none⟩, ⟨5, .arr, 3, 1, none⟩]
noncomputable def S26 (us : List AVal) (bs : List Blk) : Call := Call.guard (chkS ks26 hs26 ⟨us, numK 0 bs⟩) (Call.of (F_astar_ground__reach_2 (toI (cIa (aggL (cIa us 0)) 0)) (toI (cIa (aggL (cIa us 0)) 1)) (toI (cIa us 1)) (blkAt (numK 0 bs) 4).2.rows (blkAt (numK 0 bs) 5).2.rows (toI (cIa (rows0 (blkAt (numK 0 bs) 2).2) 0)) (toI (cIa (rows0 (blkAt (numK 0 bs) 2).2) 1)) (roRows (cIa (rows0 (blkAt (numK 0 bs) 2).2) 2)) (roRows (cIa (rows0 (blkAt (numK 0 bs) 2).2) 3)) (toI (cIa (rows0 (blkAt (numK 0 bs) 2).2) 4)) (toI (cIa (rows0 (blkAt (numK 0 bs) 3).2) 0))) (enc26 (toI (cIa (aggL (cIa us 0)) 0)) (toI (cIa (aggL (cIa us 0)) 1)) (toI (cIa us 1)) (blkAt (numK 0 bs) 4).2.rows (blkAt (numK 0 bs) 5).2.rows (toI (cIa (rows0 (blkAt (numK 0 bs) 2).2) 0)) (toI (cIa (rows0 (blkAt (numK 0 bs) 2).2) 1)) (roRows (cIa (rows0 (blkAt (numK 0 bs) 2).2) 2)) (roRows (cIa (rows0 (blkAt (numK 0 bs) 2).2) 3)) (toI (cIa (rows0 (blkAt (numK 0 bs) 2).2) 4)) (toI (cIa (rows0 (blkAt (numK 0 bs) 3).2) 0))))
noncomputable def C26 := AI.extH 26 S26 C25

@[reducible] noncomputable def B26_0 := bodyOf TT TU GL0 C25 ownF L26 (lp Tryd.f26 0)
@[reducible] noncomputable def K26_0 (k : Ex → St → Option CR) : Ex → St → Option CR := fun e s => k e (maskS (W26_0 e) s)
theorem spec26_0 (k : Ex → St → Option CR) : ∀ (m : Nat) (R4 : List (List AVal)) (R5 : List (List AVal)) (c : Int) (b2_0 : Int) (b2_1 : Int) (b2_2 : List (List AVal)) (b2_3 : List (List AVal)) (b2_4 : Int) (b3_0 : Int) (b6_0 : Int) (b6_1 : Int), loopN B26_0 m (E26_0 R4 R5 c b2_0 b2_1 b2_2 b2_3 b2_4 b3_0 b6_0 b6_1) (K26_0 k) = (G_astar_ground__reach_2_0 c m R4).bind (X26_0 R5 c b2_0 b2_1 b2_2 b2_3 b2_4 b3_0 b6_0 b6_1 k)
  | 0, _, _, _, _, _, _, _, _, _, _, _ => rfl
  | m + 1, R4, R5, c, b2_0, b2_1, b2_2, b2_3, b2_4, b3_0, b6_0, b6_1 =>
    Eq.trans (b := (bif (verEq R4.length R4.length) then (bif (decide ((Int.ofNat R4.length) ≤ c)) then (bif ((verEq R4.length R4.length) && (roomOk (R4.length + 1) 24)) then (loopN B26_0 m ⟨[.dead, (i64 c), (AVal.ref 0 1 0 0), (AVal.ref 1 1 0 0), (AVal.ref 2 1 0 0), (AVal.ref 3 1 0 0), (AVal.ref 16000 1 0 0), .dead, .dead, .dead, .dead, .dead, .dead, .dead, .dead, .dead, .dead, .dead, .dead, .dead, .dead, .dead, .dead, .dead, .dead, .dead, .dead, .dead, .dead, .dead, .dead, .dead, .dead, .dead, .dead], [(Prod.mk 0 (Blk.mk BKind.box 57 1 [[(AVal.slc 4 (R4.length + 1))]])), (Prod.mk 1 (Blk.mk BKind.box 28 1 [[(AVal.slc 5 R5.length)]])), (Prod.mk 2 (Blk.mk BKind.box 43 5 [[(i64 b2_0), (i64 b2_1), (AVal.ro 3 b2_2), (AVal.ro 1 b2_3), (i64 b2_4)]])), (Prod.mk 3 (Blk.mk BKind.box 3 1 [[(i64 b3_0)]])), (Prod.mk 4 (Blk.mk (BKind.ns 0 27 2) 29 1 (Blk.rows (Blk.mk (BKind.ns 0 27 2) 29 1 (R4 ++ [[(AVal.ro 2 [])]]))))), (Prod.mk 5 (Blk.mk BKind.arr 3 1 R5)), (Prod.mk 16000 (Blk.mk BKind.box 27 2 [[(i64 b6_0), (i64 b6_1)]]))]⟩ (K26_0 k)) else none) else (k (.exit 0) ⟨[.dead, (i64 c), (AVal.ref 0 1 0 0), (AVal.ref 1 1 0 0), (AVal.ref 2 1 0 0), (AVal.ref 3 1 0 0), (AVal.ref 16000 1 0 0), .dead, .dead, .dead, .dead, .dead, .dead, .dead, .dead, .dead, .dead, .dead, .dead, .dead, .dead, .dead, .dead, .dead, .dead, .dead, .dead, .dead, .dead, .dead, .dead, .dead, .dead, .dead, .dead], [(Prod.mk 0 (Blk.mk BKind.box 57 1 [[(AVal.slc 4 R4.length)]])), (Prod.mk 1 (Blk.mk BKind.box 28 1 [[(AVal.slc 5 R5.length)]])), (Prod.mk 2 (Blk.mk BKind.box 43 5 [[(i64 b2_0), (i64 b2_1), (AVal.ro 3 b2_2), (AVal.ro 1 b2_3), (i64 b2_4)]])), (Prod.mk 3 (Blk.mk BKind.box 3 1 [[(i64 b3_0)]])), (Prod.mk 4 (Blk.mk (BKind.ns 0 27 2) 29 1 R4)), (Prod.mk 5 (Blk.mk BKind.arr 3 1 R5)), (Prod.mk 16000 (Blk.mk BKind.box 27 2 [[(i64 b6_0), (i64 b6_1)]]))]⟩)) else none)) (by kernel_rfl)
      (n_true (verEq_rfl _) (n_condH rfl (fun h0 => (n_condH (n_andL (verEq_rfl _) rfl) (fun h1 => ((congrArg (fun z => loopN B26_0 m z (K26_0 k)) (by simp [E26_0] : _ = E26_0 (Blk.rows (Blk.mk (BKind.ns 0 27 2) 29 1 (R4 ++ [[(AVal.ro 2 [])]]))) R5 c b2_0 b2_1 b2_2 b2_3 b2_4 b3_0 b6_0 b6_1)).trans (spec26_0 k m (Blk.rows (Blk.mk (BKind.ns 0 27 2) 29 1 (R4 ++ [[(AVal.ro 2 [])]]))) R5 c b2_0 b2_1 b2_2 b2_3 b2_4 b3_0 b6_0 b6_1))) fun h1 => n_none)) fun h0 => rfl))
theorem okL26_0 : LoopOk TT TU GL0 C25 ownF L26 (lp Tryd.f26 0) :=
  loopOk_of ks26_0 hs26_0 W26_0 FU (fun s k => (G_astar_ground__reach_2_0 (toI (cIa s.tmps 1)) FU (blkAt s.heap 4).2.rows).bind (X26_0 (blkAt s.heap 5).2.rows (toI (cIa s.tmps 1)) (toI (cIa (rows0 (blkAt s.heap 2).2) 0)) (toI (cIa (rows0 (blkAt s.heap 2).2) 1)) (roRows (cIa (rows0 (blkAt s.heap 2).2) 2)) (roRows (cIa (rows0 (blkAt s.heap 2).2) 3)) (toI (cIa (rows0 (blkAt s.heap 2).2) 4)) (toI (cIa (rows0 (blkAt s.heap 3).2) 0)) (toI (cIa (rows0 (blkAt s.heap 6).2) 0)) (toI (cIa (rows0 (blkAt s.heap 6).2) 1)) k)) (fun s k => by kernel_rfl) (fun s k => spec26_0 k FU (blkAt s.heap 4).2.rows (blkAt s.heap 5).2.rows (toI (cIa s.tmps 1)) (toI (cIa (rows0 (blkAt s.heap 2).2) 0)) (toI (cIa (rows0 (blkAt s.heap 2).2) 1)) (roRows (cIa (rows0 (blkAt s.heap 2).2) 2)) (roRows (cIa (rows0 (blkAt s.heap 2).2) 3)) (toI (cIa (rows0 (blkAt s.heap 2).2) 4)) (toI (cIa (rows0 (blkAt s.heap 3).2) 0)) (toI (cIa (rows0 (blkAt s.heap 6).2) 0)) (toI (cIa (rows0 (blkAt s.heap 6).2) 1)))
theorem run26 (p_X : Int) (p_Y : Int) (c : Int) (a2 : List (List AVal)) (a3 : List (List AVal)) (a4_m_W : Int) (a4_m_H : Int) (a4_m_Cells : List (List AVal)) (a4_blocked : List (List AVal)) (a4_class : Int) (a5 : Int) : fcallH TT TU GL0 C25 ownF L26 Tryd.f26 [(.agg [(.sc (.int .i64 p_X)), (.sc (.int .i64 p_Y))]), (.sc (.int .i64 c)), (.ref 0 1 0 0), (.ref 1 1 0 0), (.ref 2 1 0 0), (.ref 3 1 0 0)] [(0, (⟨.box, 57, 1, [[(.slc 4 (List.length a2))]]⟩ : Blk)), (1, (⟨.box, 28, 1, [[(.slc 5 (List.length a3))]]⟩ : Blk)), (2, (⟨.box, 43, 5, [[(.sc (.int .i64 a4_m_W)), (.sc (.int .i64 a4_m_H)), (.ro 3 a4_m_Cells), (.ro 1 a4_blocked), (.sc (.int .i64 a4_class))]]⟩ : Blk)), (3, (⟨.box, 3, 1, [[(.sc (.int .i64 a5))]]⟩ : Blk)), (4, (⟨(.ns 0 27 2), 29, 1, a2⟩ : Blk)), (5, (⟨.arr, 3, 1, a3⟩ : Blk))] = (F_astar_ground__reach_2 p_X p_Y c a2 a3 a4_m_W a4_m_H a4_m_Cells a4_blocked a4_class a5).bind fun t => some (enc26 p_X p_Y c a2 a3 a4_m_W a4_m_H a4_m_Cells a4_blocked a4_class a5 t) :=
  Eq.trans (b := (bif (((true && (verEq a2.length (blkLen [(Prod.mk 0 (Blk.mk BKind.box 57 1 [[(AVal.slc 4 a2.length)]])), (Prod.mk 1 (Blk.mk BKind.box 28 1 [[(AVal.slc 5 a3.length)]])), (Prod.mk 2 (Blk.mk BKind.box 43 5 [[(i64 a4_m_W), (i64 a4_m_H), (AVal.ro 3 a4_m_Cells), (AVal.ro 1 a4_blocked), (i64 a4_class)]])), (Prod.mk 3 (Blk.mk BKind.box 3 1 [[(i64 a5)]])), (Prod.mk 4 (Blk.mk (BKind.ns 0 27 2) 29 1 a2)), (Prod.mk 5 (Blk.mk BKind.arr 3 1 a3)), (Prod.mk 16000 (Blk.mk BKind.box 27 2 [[(i64 p_X), (i64 p_Y)]]))] 4))) && true) && (((true && (verEq a3.length (blkLen [(Prod.mk 0 (Blk.mk BKind.box 57 1 [[(AVal.slc 4 a2.length)]])), (Prod.mk 1 (Blk.mk BKind.box 28 1 [[(AVal.slc 5 a3.length)]])), (Prod.mk 2 (Blk.mk BKind.box 43 5 [[(i64 a4_m_W), (i64 a4_m_H), (AVal.ro 3 a4_m_Cells), (AVal.ro 1 a4_blocked), (i64 a4_class)]])), (Prod.mk 3 (Blk.mk BKind.box 3 1 [[(i64 a5)]])), (Prod.mk 4 (Blk.mk (BKind.ns 0 27 2) 29 1 a2)), (Prod.mk 5 (Blk.mk BKind.arr 3 1 a3)), (Prod.mk 16000 (Blk.mk BKind.box 27 2 [[(i64 p_X), (i64 p_Y)]]))] 5))) && true) && true)) then (Option.bind (G_astar_ground__reach_2_0 c FU a2) fun t => (bif (((verEq t.length t.length) && (decide ((0 : Int) ≤ c))) && (decide (c < (Int.ofNat t.length)))) then (bif (verEq t.length t.length) then (bif (verEq t.length t.length) then (Option.bind (t[c.toNat]?) fun r => (bif (chk [(LT.sl 27 2)] r) then (bif (roomOk ((cR r 0).length + 1) 16) then (bif (((verEq (Blk.rows (Blk.mk (BKind.ns 1 27 2) 29 1 (List.set t c.toNat [(AVal.ro 2 ((cR r 0) ++ [[(i64 p_X), (i64 p_Y)]]))]))).length t.length) && (decide ((0 : Int) ≤ c))) && (decide (c < (Int.ofNat (Blk.rows (Blk.mk (BKind.ns 1 27 2) 29 1 (List.set t c.toNat [(AVal.ro 2 ((cR r 0) ++ [[(i64 p_X), (i64 p_Y)]]))]))).length)))) then (bif (((verEq (Blk.rows (Blk.mk (BKind.ns 1 27 2) 29 1 (List.set t c.toNat [(AVal.ro 2 ((cR r 0) ++ [[(i64 p_X), (i64 p_Y)]]))]))).length t.length) && (verEq (Blk.rows (Blk.mk (BKind.ns 1 27 2) 29 1 (List.set t c.toNat [(AVal.ro 2 ((cR r 0) ++ [[(i64 p_X), (i64 p_Y)]]))]))).length t.length)) && (Nat.beq c.toNat c.toNat)) then (Option.bind (F_grid_Index a4_m_W p_X p_Y) fun t1 => (bif (((verEq a3.length a3.length) && (decide ((0 : Int) ≤ t1))) && (decide (t1 < (Int.ofNat a3.length)))) then (bif ((((verEq a3.length a3.length) && true) && true) && true) then (bif (verEq (Blk.rows (Blk.mk (BKind.ns 0 27 2) 29 1 (Blk.rows (Blk.mk (BKind.ns 0 27 2) 29 1 (Blk.rows (Blk.mk (BKind.ns 0 27 2) 29 1 (Blk.rows (Blk.mk (BKind.ns 2 27 2) 29 1 (Blk.rows (Blk.mk (BKind.ns 1 27 2) 29 1 (List.set t c.toNat [(AVal.ro 2 ((cR r 0) ++ [[(i64 p_X), (i64 p_Y)]]))]))))))))))).length t.length) then (bif (verEq (Blk.rows (Blk.mk BKind.arr 3 1 (Blk.rows (Blk.mk BKind.arr 3 1 (Blk.rows (Blk.mk BKind.arr 3 1 (List.set a3 t1.toNat [(i64 c)]))))))).length a3.length) then (some (CR.mk true (AVal.tup []) [[[(AVal.slc 4 (Blk.rows (Blk.mk (BKind.ns 0 27 2) 29 1 (Blk.rows (Blk.mk (BKind.ns 0 27 2) 29 1 (Blk.rows (Blk.mk (BKind.ns 0 27 2) 29 1 (Blk.rows (Blk.mk (BKind.ns 2 27 2) 29 1 (Blk.rows (Blk.mk (BKind.ns 1 27 2) 29 1 (List.set t c.toNat [(AVal.ro 2 ((cR r 0) ++ [[(i64 p_X), (i64 p_Y)]]))]))))))))))).length)]], [[(AVal.slc 5 (Blk.rows (Blk.mk BKind.arr 3 1 (Blk.rows (Blk.mk BKind.arr 3 1 (Blk.rows (Blk.mk BKind.arr 3 1 (List.set a3 t1.toNat [(i64 c)]))))))).length)]], [[(i64 a4_m_W), (i64 a4_m_H), (AVal.ro 3 a4_m_Cells), (AVal.ro 1 a4_blocked), (i64 a4_class)]], [[(i64 (wr (a5 + (1 : Int))))]], (Blk.rows (Blk.mk (BKind.ns 0 27 2) 29 1 (Blk.rows (Blk.mk (BKind.ns 0 27 2) 29 1 (Blk.rows (Blk.mk (BKind.ns 0 27 2) 29 1 (Blk.rows (Blk.mk (BKind.ns 2 27 2) 29 1 (Blk.rows (Blk.mk (BKind.ns 1 27 2) 29 1 (List.set t c.toNat [(AVal.ro 2 ((cR r 0) ++ [[(i64 p_X), (i64 p_Y)]]))]))))))))))), (Blk.rows (Blk.mk BKind.arr 3 1 (Blk.rows (Blk.mk BKind.arr 3 1 (Blk.rows (Blk.mk BKind.arr 3 1 (List.set a3 t1.toNat [(i64 c)])))))))] [])) else none) else none) else none) else none)) else none) else none) else none) else none)) else none) else none) else none)) else none)) (by kernel_rfl)
    (n_true (n_andL (n_andL (n_andL rfl (by first | exact verEq_of rfl | simp [verEq, blkLen, blkAt])) rfl) (n_andL (n_andL (n_andL rfl (by first | exact verEq_of rfl | simp [verEq, blkLen, blkAt])) rfl) rfl)) (n_bind fun t => (n_condH (n_and (n_andL (verEq_rfl _) rfl) rfl) (fun h0 => (n_true (verEq_rfl _) (n_true (verEq_rfl _) (n_bind fun r => (n_condH rfl (fun h1 => (n_condH rfl (fun h2 => (n_condH (n_andL (n_andL (by first | exact verEq_of rfl | simp [verEq, blkLen, blkAt]) (n_al h0)) rfl) (fun h3 => (n_condH (n_andL (n_andL (by first | exact verEq_of rfl | simp [verEq, blkLen, blkAt]) (by first | exact verEq_of rfl | simp [verEq, blkLen, blkAt])) rfl) (fun h4 => (n_bind fun t1 => (n_condH (n_and (n_andL (verEq_rfl _) rfl) rfl) (fun h5 => (n_true (n_andL (n_andL (n_andL (verEq_rfl _) rfl) rfl) rfl) (n_true (by first | exact verEq_of rfl | simp [verEq, blkLen, blkAt]) (n_true (by first | exact verEq_of rfl | simp [verEq, blkLen, blkAt]) rfl)))) fun h5 => n_none))) fun h4 => n_none)) fun h3 => n_none)) fun h2 => n_none)) fun h1 => n_none))))) fun h0 => n_none)))
theorem lib26 : Lib Tryd.prog GL0 C26 :=
  Lib.fnH lib25 mixed TT_ok Tryd.func26 (by decide +kernel) (by kernel_rfl) L26 (loops_of 1 (by kernel_rfl) (belowS below0 okL26_0)) ks26 hs26 (by kernel_rfl) (F := fun us H => F_astar_ground__reach_2 (toI (cIa (aggL (cIa us 0)) 0)) (toI (cIa (aggL (cIa us 0)) 1)) (toI (cIa us 1)) (blkAt H 4).2.rows (blkAt H 5).2.rows (toI (cIa (rows0 (blkAt H 2).2) 0)) (toI (cIa (rows0 (blkAt H 2).2) 1)) (roRows (cIa (rows0 (blkAt H 2).2) 2)) (roRows (cIa (rows0 (blkAt H 2).2) 3)) (toI (cIa (rows0 (blkAt H 2).2) 4)) (toI (cIa (rows0 (blkAt H 3).2) 0))) (enc := fun us H => enc26 (toI (cIa (aggL (cIa us 0)) 0)) (toI (cIa (aggL (cIa us 0)) 1)) (toI (cIa us 1)) (blkAt H 4).2.rows (blkAt H 5).2.rows (toI (cIa (rows0 (blkAt H 2).2) 0)) (toI (cIa (rows0 (blkAt H 2).2) 1)) (roRows (cIa (rows0 (blkAt H 2).2) 2)) (roRows (cIa (rows0 (blkAt H 2).2) 3)) (toI (cIa (rows0 (blkAt H 2).2) 4)) (toI (cIa (rows0 (blkAt H 3).2) 0))) (fun us bs => rfl) (fun us H => run26 (toI (cIa (aggL (cIa us 0)) 0)) (toI (cIa (aggL (cIa us 0)) 1)) (toI (cIa us 1)) (blkAt H 4).2.rows (blkAt H 5).2.rows (toI (cIa (rows0 (blkAt H 2).2) 0)) (toI (cIa (rows0 (blkAt H 2).2) 1)) (roRows (cIa (rows0 (blkAt H 2).2) 2)) (roRows (cIa (rows0 (blkAt H 2).2) 3)) (toI (cIa (rows0 (blkAt H 2).2) 4)) (toI (cIa (rows0 (blkAt H 3).2) 0)))

/-! ### 30: skirmish/grid.displacements -/



/-- 'skirmish/grid.displacements' -/
noncomputable def F_grid_displacements : Option (Int × Int × Int × Int × Int × Int × Int × Int × Int × Int × Int × Int × Int × Int × Int × Int) :=
  some ((1 : Int), (0 : Int), (1 : Int), (1 : Int), (0 : Int), (1 : Int), (-(1 : Int)), (1 : Int), (-(1 : Int)), (0 : Int), (-(1 : Int)), (-(1 : Int)), (0 : Int), (-(1 : Int)), (1 : Int), (-(1 : Int)))
noncomputable def enc30 (t : Int × Int × Int × Int × Int × Int × Int × Int × Int × Int × Int × Int × Int × Int × Int × Int) : CR := ⟨true, (.agg [(.sc (.int .i64 t.1)), (.sc (.int .i64 t.2.1)), (.sc (.int .i64 t.2.2.1)), (.sc (.int .i64 t.2.2.2.1)), (.sc (.int .i64 t.2.2.2.2.1)), (.sc (.int .i64 t.2.2.2.2.2.1)), (.sc (.int .i64 t.2.2.2.2.2.2.1)), (.sc (.int .i64 t.2.2.2.2.2.2.2.1)), (.sc (.int .i64 t.2.2.2.2.2.2.2.2.1)), (.sc (.int .i64 t.2.2.2.2.2.2.2.2.2.1)), (.sc (.int .i64 t.2.2.2.2.2.2.2.2.2.2.1)), (.sc (.int .i64 t.2.2.2.2.2.2.2.2.2.2.2.1)), (.sc (.int .i64 t.2.2.2.2.2.2.2.2.2.2.2.2.1)), (.sc (.int .i64 t.2.2.2.2.2.2.2.2.2.2.2.2.2.1)), (.sc (.int .i64 t.2.2.2.2.2.2.2.2.2.2.2.2.2.2.1)), (.sc (.int .i64 t.2.2.2.2.2.2.2.2.2.2.2.2.2.2.2))]), [], []⟩
noncomputable def ks30 : List SK := []
noncomputable def S30 (us : List AVal) : Call := bif chkA ks30 us then Call.of (F_grid_displacements) enc30 else Call.none
noncomputable def C30 := AI.ext 30 S30 C26

theorem run30 : fcall TT TU GL0 C26 ownF true noL Tryd.f30 [] = (F_grid_displacements).bind fun t => some (enc30 t) :=
  Eq.trans (b := (some (CR.mk true (AVal.agg [(i64 (1 : Int)), (i64 (0 : Int)), (i64 (1 : Int)), (i64 (1 : Int)), (i64 (0 : Int)), (i64 (1 : Int)), (i64 (-(1 : Int))), (i64 (1 : Int)), (i64 (-(1 : Int))), (i64 (0 : Int)), (i64 (-(1 : Int))), (i64 (-(1 : Int))), (i64 (0 : Int)), (i64 (-(1 : Int))), (i64 (1 : Int)), (i64 (-(1 : Int)))]) [] []))) (by kernel_rfl)
    rfl
theorem lib30 : Lib Tryd.prog GL0 C30 :=
  Lib.fn lib26 mixed TT_ok Tryd.func30 (by decide +kernel) (by kernel_rfl) true noL (loops_of 0 (by kernel_rfl) below0) ks30 (F := fun us => F_grid_displacements) (fun us => rfl) (fun us => run30) (fun t => rfl)

/-! ### 16: skirmish/grid.Step -/



/-- 'skirmish/grid.Step' -/
noncomputable def F_grid_Step (p_X : Int) (p_Y : Int) (dir : Int) : Option (Int × Int) :=
  bif (decide (dir < (0 : Int))) then
    some (p_X, p_Y)
  else
  bif (decide (dir > (7 : Int))) then
    some (p_X, p_Y)
  else
  Option.bind F_grid_displacements fun t =>
  bif ((decide ((0 : Int) ≤ dir)) && (decide (dir < (8 : Int)))) then
    Option.bind ([[(i64 t.1), (i64 t.2.1)], [(i64 t.2.2.1), (i64 t.2.2.2.1)], [(i64 t.2.2.2.2.1), (i64 t.2.2.2.2.2.1)], [(i64 t.2.2.2.2.2.2.1), (i64 t.2.2.2.2.2.2.2.1)], [(i64 t.2.2.2.2.2.2.2.2.1), (i64 t.2.2.2.2.2.2.2.2.2.1)], [(i64 t.2.2.2.2.2.2.2.2.2.2.1), (i64 t.2.2.2.2.2.2.2.2.2.2.2.1)], [(i64 t.2.2.2.2.2.2.2.2.2.2.2.2.1), (i64 t.2.2.2.2.2.2.2.2.2.2.2.2.2.1)], [(i64 t.2.2.2.2.2.2.2.2.2.2.2.2.2.2.1), (i64 t.2.2.2.2.2.2.2.2.2.2.2.2.2.2.2)]][dir.toNat]?) fun r =>
    bif (chk [(LT.int IntKind.i64), (LT.int IntKind.i64)] r) then
      Option.bind (F_grid_pos p_X p_Y) fun t1 =>
      some ((wr (t1.1 + (cI r 0))), (wr (t1.2 + (cI r 1))))
    else
    none
  else
  none
noncomputable def enc16 (t : Int × Int) : CR := ⟨true, (.agg [(.sc (.int .i64 t.1)), (.sc (.int .i64 t.2))]), [], []⟩
noncomputable def ks16 : List SK := [.agg [.int .i64, .int .i64], .f (.int .i64)]
noncomputable def S16 (us : List AVal) : Call := bif chkA ks16 us then Call.of (F_grid_Step (toI (cIa (aggL (cIa us 0)) 0)) (toI (cIa (aggL (cIa us 0)) 1)) (toI (cIa us 1))) enc16 else Call.none
noncomputable def C16 := AI.ext 16 S16 C30

theorem run16 (p_X : Int) (p_Y : Int) (dir : Int) : fcall TT TU GL0 C30 ownF true noL Tryd.f16 [(.agg [(.sc (.int .i64 p_X)), (.sc (.int .i64 p_Y))]), (.sc (.int .i64 dir))] = (F_grid_Step p_X p_Y dir).bind fun t => some (enc16 t) :=
  Eq.trans (b := (bif (decide (dir < (0 : Int))) then (some (CR.mk true (AVal.agg [(i64 p_X), (i64 p_Y)]) [] [])) else (bif (decide (dir > (7 : Int))) then (some (CR.mk true (AVal.agg [(i64 p_X), (i64 p_Y)]) [] [])) else (Option.bind F_grid_displacements fun t => (bif (((decide ((0 : Int) ≤ dir)) && (decide (dir < (8 : Int)))) && true) then (Option.bind ([[(i64 t.1), (i64 t.2.1)], [(i64 t.2.2.1), (i64 t.2.2.2.1)], [(i64 t.2.2.2.2.1), (i64 t.2.2.2.2.2.1)], [(i64 t.2.2.2.2.2.2.1), (i64 t.2.2.2.2.2.2.2.1)], [(i64 t.2.2.2.2.2.2.2.2.1), (i64 t.2.2.2.2.2.2.2.2.2.1)], [(i64 t.2.2.2.2.2.2.2.2.2.2.1), (i64 t.2.2.2.2.2.2.2.2.2.2.2.1)], [(i64 t.2.2.2.2.2.2.2.2.2.2.2.2.1), (i64 t.2.2.2.2.2.2.2.2.2.2.2.2.2.1)], [(i64 t.2.2.2.2.2.2.2.2.2.2.2.2.2.2.1), (i64 t.2.2.2.2.2.2.2.2.2.2.2.2.2.2.2)]][dir.toNat]?) fun r => (bif (chk [(LT.int IntKind.i64), (LT.int IntKind.i64)] r) then (Option.bind (F_grid_pos p_X p_Y) fun t1 => (some (CR.mk true (AVal.agg [(i64 (wr (t1.1 + (cI r 0)))), (i64 (wr (t1.2 + (cI r 1))))]) [] []))) else none)) else none))))) (by kernel_rfl)
    (n_condH rfl (fun h0 => rfl) fun h0 => (n_condH rfl (fun h1 => rfl) fun h1 => (n_bind fun t => (n_condH (n_andR rfl rfl) (fun h2 => (n_bind fun r => (n_condH rfl (fun h3 => (n_bind fun t1 => rfl)) fun h3 => n_none))) fun h2 => n_none))))
theorem lib16 : Lib Tryd.prog GL0 C16 :=
  Lib.fn lib30 mixed TT_ok Tryd.func16 (by decide +kernel) (by kernel_rfl) true noL (loops_of 0 (by kernel_rfl) below0) ks16 (F := fun us => F_grid_Step (toI (cIa (aggL (cIa us 0)) 0)) (toI (cIa (aggL (cIa us 0)) 1)) (toI (cIa us 1))) (fun us => rfl) (fun us => run16 (toI (cIa (aggL (cIa us 0)) 0)) (toI (cIa (aggL (cIa us 0)) 1)) (toI (cIa us 1))) (fun t => rfl)

/-! ### 38: skirmish/terrain.open -/



/-- 'skirmish/terrain.open' -/
noncomputable def F_terrain_open (m_W : Int) (m_H : Int) (m_Cells : List (List AVal)) (blocked : List (List AVal)) (class_ : Int) (p_X : Int) (p_Y : Int) : Option (Bool) :=
  Option.bind (F_terrain_Passable m_W m_H m_Cells class_ p_X p_Y) fun t =>
  bif (!t) then
    some false
  else
  Option.bind (F_grid_Index m_W p_X p_Y) fun t1 =>
  bif (class_ == (3 : Int)) then
    some true
  else
  bif (decide (t1 ≥ (Int.ofNat blocked.length))) then
    some true
  else
  bif (decide ((0 : Int) ≤ t1)) then
    Option.bind (blocked[t1.toNat]?) fun r =>
    bif (chk [LT.bool] r) then
      some (!(cB r 0))
    else
    none
  else
  none
noncomputable def enc38 (t : Bool) : CR := ⟨true, (.sc (.bool t)), [], []⟩
noncomputable def ks38 : List SK := [.agg [.int .i64, .int .i64, .ro 3], .f (.ro 1), .f (.int .i64), .agg [.int .i64, .int .i64]]
noncomputable def S38 (us : List AVal) : Call := bif chkA ks38 us then Call.of (F_terrain_open (toI (cIa (aggL (cIa us 0)) 0)) (toI (cIa (aggL (cIa us 0)) 1)) (roRows (cIa (aggL (cIa us 0)) 2)) (roRows (cIa us 1)) (toI (cIa us 2)) (toI (cIa (aggL (cIa us 3)) 0)) (toI (cIa (aggL (cIa us 3)) 1))) enc38 else Call.none
noncomputable def C38 := AI.ext 38 S38 C16

theorem run38 (m_W : Int) (m_H : Int) (m_Cells : List (List AVal)) (blocked : List (List AVal)) (class_ : Int) (p_X : Int) (p_Y : Int) : fcall TT TU GL0 C16 ownF true noL Tryd.f38 [(.agg [(.sc (.int .i64 m_W)), (.sc (.int .i64 m_H)), (.ro 3 m_Cells)]), (.ro 1 blocked), (.sc (.int .i64 class_)), (.agg [(.sc (.int .i64 p_X)), (.sc (.int .i64 p_Y))])] = (F_terrain_open m_W m_H m_Cells blocked class_ p_X p_Y).bind fun t => some (enc38 t) :=
  Eq.trans (b := (Option.bind (F_terrain_Passable m_W m_H m_Cells class_ p_X p_Y) fun t => (bif (!t) then (some (CR.mk true (bo false) [] [])) else (Option.bind (F_grid_Index m_W p_X p_Y) fun t1 => (bif (class_ == (3 : Int)) then (some (CR.mk true (bo true) [] [])) else (bif (decide (t1 ≥ (Int.ofNat blocked.length))) then (some (CR.mk true (bo true) [] [])) else (bif (decide ((0 : Int) ≤ t1)) then (Option.bind (blocked[t1.toNat]?) fun r => (bif (chk [LT.bool] r) then (some (CR.mk true (bo (!(cB r 0))) [] [])) else none)) else none))))))) (by kernel_rfl)
    (n_bind fun t => (n_condH rfl (fun h0 => rfl) fun h0 => (n_bind fun t1 => (n_condH rfl (fun h1 => rfl) fun h1 => (n_condH rfl (fun h2 => rfl) fun h2 => (n_condH rfl (fun h3 => (n_bind fun r => (n_condH rfl (fun h4 => rfl) fun h4 => n_none))) fun h3 => n_none))))))
theorem lib38 : Lib Tryd.prog GL0 C38 :=
  Lib.fn lib16 mixed TT_ok Tryd.func38 (by decide +kernel) (by kernel_rfl) true noL (loops_of 0 (by kernel_rfl) below0) ks38 (F := fun us => F_terrain_open (toI (cIa (aggL (cIa us 0)) 0)) (toI (cIa (aggL (cIa us 0)) 1)) (roRows (cIa (aggL (cIa us 0)) 2)) (roRows (cIa us 1)) (toI (cIa us 2)) (toI (cIa (aggL (cIa us 3)) 0)) (toI (cIa (aggL (cIa us 3)) 1))) (fun us => rfl) (fun us => run38 (toI (cIa (aggL (cIa us 0)) 0)) (toI (cIa (aggL (cIa us 0)) 1)) (roRows (cIa (aggL (cIa us 0)) 2)) (roRows (cIa us 1)) (toI (cIa us 2)) (toI (cIa (aggL (cIa us 3)) 0)) (toI (cIa (aggL (cIa us 3)) 1))) (fun t => rfl)

/-! ### 39: skirmish/terrain.flat -/



/-- 'skirmish/terrain.flat' -/
noncomputable def F_terrain_flat (m_W : Int) (m_H : Int) (m_Cells : List (List AVal)) (class_ : Int) (p_X : Int) (p_Y : Int) (q_X : Int) (q_Y : Int) : Option (Bool) :=
  Option.bind (F_grid_Index m_W p_X p_Y) fun t =>
  bif (decide ((0 : Int) ≤ t)) then
    Option.bind (m_Cells[t.toNat]?) fun r =>
    bif (chk [(LT.int IntKind.i64), (LT.int IntKind.i64), (LT.int IntKind.i64)] r) then
      Option.bind (F_grid_Index m_W q_X q_Y) fun t1 =>
      bif (decide ((0 : Int) ≤ t1)) then
        Option.bind (m_Cells[t1.toNat]?) fun r1 =>
        bif (chk [(LT.int IntKind.i64), (LT.int IntKind.i64), (LT.int IntKind.i64)] r1) then
          bif (class_ == (3 : Int)) then
            some true
          else
          bif ((cI r 1) == (cI r1 1)) then
            some true
          else
          bif (decide ((cI r 1) > (cI r1 1))) then
            bif ((wr ((cI r 1) - (1 : Int))) == (cI r1 1)) then
              some true
            else
            bif (decide ((cI r1 1) > (cI r 1))) then
              some ((wr ((cI r1 1) - (1 : Int))) == (cI r 1))
            else
            some false
          else
          bif (decide ((cI r1 1) > (cI r 1))) then
            some ((wr ((cI r1 1) - (1 : Int))) == (cI r 1))
          else
          some false
        else
        none
      else
      none
    else
    none
  else
  none
noncomputable def enc39 (t : Bool) : CR := ⟨true, (.sc (.bool t)), [], []⟩
noncomputable def ks39 : List SK := [.agg [.int .i64, .int .i64, .ro 3], .f (.int .i64), .agg [.int .i64, .int .i64], .agg [.int .i64, .int .i64]]
noncomputable def S39 (us : List AVal) : Call := bif chkA ks39 us then Call.of (F_terrain_flat (toI (cIa (aggL (cIa us 0)) 0)) (toI (cIa (aggL (cIa us 0)) 1)) (roRows (cIa (aggL (cIa us 0)) 2)) (toI (cIa us 1)) (toI (cIa (aggL (cIa us 2)) 0)) (toI (cIa (aggL (cIa us 2)) 1)) (toI (cIa (aggL (cIa us 3)) 0)) (toI (cIa (aggL (cIa us 3)) 1))) enc39 else Call.none
noncomputable def C39 := AI.ext 39 S39 C38

theorem run39 (m_W : Int) (m_H : Int) (m_Cells : List (List AVal)) (class_ : Int) (p_X : Int) (p_Y : Int) (q_X : Int) (q_Y : Int) : fcall TT TU GL0 C38 ownF true noL Tryd.f39 [(.agg [(.sc (.int .i64 m_W)), (.sc (.int .i64 m_H)), (.ro 3 m_Cells)]), (.sc (.int .i64 class_)), (.agg [(.sc (.int .i64 p_X)), (.sc (.int .i64 p_Y))]), (.agg [(.sc (.int .i64 q_X)), (.sc (.int .i64 q_Y))])] = (F_terrain_flat m_W m_H m_Cells class_ p_X p_Y q_X q_Y).bind fun t => some (enc39 t) :=
  Eq.trans (b := (Option.bind (F_grid_Index m_W p_X p_Y) fun t => (bif (decide ((0 : Int) ≤ t)) then (Option.bind (m_Cells[t.toNat]?) fun r => (bif (chk [(LT.int IntKind.i64), (LT.int IntKind.i64), (LT.int IntKind.i64)] r) then (Option.bind (F_grid_Index m_W q_X q_Y) fun t1 => (bif (decide ((0 : Int) ≤ t1)) then (Option.bind (m_Cells[t1.toNat]?) fun r1 => (bif (chk [(LT.int IntKind.i64), (LT.int IntKind.i64), (LT.int IntKind.i64)] r1) then (bif (class_ == (3 : Int)) then (some (CR.mk true (bo true) [] [])) else (bif ((cI r 1) == (cI r1 1)) then (some (CR.mk true (bo true) [] [])) else (bif (decide ((cI r 1) > (cI r1 1))) then (bif ((wr ((cI r 1) - (1 : Int))) == (cI r1 1)) then (some (CR.mk true (bo true) [] [])) else (bif (decide ((cI r1 1) > (cI r 1))) then (some (CR.mk true (bo ((wr ((cI r1 1) - (1 : Int))) == (cI r 1))) [] [])) else (some (CR.mk true (bo false) [] [])))) else (bif (decide ((cI r1 1) > (cI r 1))) then (some (CR.mk true (bo ((wr ((cI r1 1) - (1 : Int))) == (cI r 1))) [] [])) else (some (CR.mk true (bo false) [] [])))))) else none)) else none)) else none)) else none))) (by kernel_rfl)
    (n_bind fun t => (n_condH rfl (fun h0 => (n_bind fun r => (n_condH rfl (fun h1 => (n_bind fun t1 => (n_condH rfl (fun h2 => (n_bind fun r1 => (n_condH rfl (fun h3 => (n_condH rfl (fun h4 => rfl) fun h4 => (n_condH rfl (fun h5 => rfl) fun h5 => (n_condH rfl (fun h6 => (n_condH rfl (fun h7 => rfl) fun h7 => (n_condH rfl (fun h8 => rfl) fun h8 => rfl))) fun h6 => (n_condH rfl (fun h7 => rfl) fun h7 => rfl))))) fun h3 => n_none))) fun h2 => n_none))) fun h1 => n_none))) fun h0 => n_none))
theorem lib39 : Lib Tryd.prog GL0 C39 :=
  Lib.fn lib38 mixed TT_ok Tryd.func39 (by decide +kernel) (by kernel_rfl) true noL (loops_of 0 (by kernel_rfl) below0) ks39 (F := fun us => F_terrain_flat (toI (cIa (aggL (cIa us 0)) 0)) (toI (cIa (aggL (cIa us 0)) 1)) (roRows (cIa (aggL (cIa us 0)) 2)) (toI (cIa us 1)) (toI (cIa (aggL (cIa us 2)) 0)) (toI (cIa (aggL (cIa us 2)) 1)) (toI (cIa (aggL (cIa us 3)) 0)) (toI (cIa (aggL (cIa us 3)) 1))) (fun us => rfl) (fun us => run39 (toI (cIa (aggL (cIa us 0)) 0)) (toI (cIa (aggL (cIa us 0)) 1)) (roRows (cIa (aggL (cIa us 0)) 2)) (toI (cIa us 1)) (toI (cIa (aggL (cIa us 2)) 0)) (toI (cIa (aggL (cIa us 2)) 1)) (toI (cIa (aggL (cIa us 3)) 0)) (toI (cIa (aggL (cIa us 3)) 1))) (fun t => rfl)

/-! ### 29: skirmish/terrain.possible -/



/-- 'skirmish/terrain.possible' -/
noncomputable def F_terrain_possible (m_W : Int) (m_H : Int) (m_Cells : List (List AVal)) (blocked : List (List AVal)) (class_ : Int) (p_X : Int) (p_Y : Int) (q_X : Int) (q_Y : Int) : Option (Bool) :=
  Option.bind (F_terrain_open m_W m_H m_Cells blocked class_ p_X p_Y) fun t =>
  bif t then
    Option.bind (F_terrain_open m_W m_H m_Cells blocked class_ q_X q_Y) fun t1 =>
    bif t1 then
      Option.bind (F_terrain_flat m_W m_H m_Cells class_ p_X p_Y q_X q_Y) fun t2 =>
      some t2
    else
    some false
  else
  some false
noncomputable def enc29 (t : Bool) : CR := ⟨true, (.sc (.bool t)), [], []⟩
noncomputable def ks29 : List SK := [.agg [.int .i64, .int .i64, .ro 3], .f (.ro 1), .f (.int .i64), .agg [.int .i64, .int .i64], .agg [.int .i64, .int .i64]]
noncomputable def S29 (us : List AVal) : Call := bif chkA ks29 us then Call.of (F_terrain_possible (toI (cIa (aggL (cIa us 0)) 0)) (toI (cIa (aggL (cIa us 0)) 1)) (roRows (cIa (aggL (cIa us 0)) 2)) (roRows (cIa us 1)) (toI (cIa us 2)) (toI (cIa (aggL (cIa us 3)) 0)) (toI (cIa (aggL (cIa us 3)) 1)) (toI (cIa (aggL (cIa us 4)) 0)) (toI (cIa (aggL (cIa us 4)) 1))) enc29 else Call.none
noncomputable def C29 := AI.ext 29 S29 C39

theorem run29 (m_W : Int) (m_H : Int) (m_Cells : List (List AVal)) (blocked : List (List AVal)) (class_ : Int) (p_X : Int) (p_Y : Int) (q_X : Int) (q_Y : Int) : fcall TT TU GL0 C39 ownF true noL Tryd.f29 [(.agg [(.sc (.int .i64 m_W)), (.sc (.int .i64 m_H)), (.ro 3 m_Cells)]), (.ro 1 blocked), (.sc (.int .i64 class_)), (.agg [(.sc (.int .i64 p_X)), (.sc (.int .i64 p_Y))]), (.agg [(.sc (.int .i64 q_X)), (.sc (.int .i64 q_Y))])] = (F_terrain_possible m_W m_H m_Cells blocked class_ p_X p_Y q_X q_Y).bind fun t => some (enc29 t) :=
  Eq.trans (b := (Option.bind (F_terrain_open m_W m_H m_Cells blocked class_ p_X p_Y) fun t => (bif t then (Option.bind (F_terrain_open m_W m_H m_Cells blocked class_ q_X q_Y) fun t1 => (bif t1 then (Option.bind (F_terrain_flat m_W m_H m_Cells class_ p_X p_Y q_X q_Y) fun t2 => (some (CR.mk true (bo t2) [] []))) else (some (CR.mk true (bo false) [] [])))) else (some (CR.mk true (bo false) [] []))))) (by kernel_rfl)
    (n_bind fun t => (n_condH rfl (fun h0 => (n_bind fun t1 => (n_condH rfl (fun h1 => (n_bind fun t2 => rfl)) fun h1 => rfl))) fun h0 => rfl))
theorem lib29 : Lib Tryd.prog GL0 C29 :=
  Lib.fn lib39 mixed TT_ok Tryd.func29 (by decide +kernel) (by kernel_rfl) true noL (loops_of 0 (by kernel_rfl) below0) ks29 (F := fun us => F_terrain_possible (toI (cIa (aggL (cIa us 0)) 0)) (toI (cIa (aggL (cIa us 0)) 1)) (roRows (cIa (aggL (cIa us 0)) 2)) (roRows (cIa us 1)) (toI (cIa us 2)) (toI (cIa (aggL (cIa us 3)) 0)) (toI (cIa (aggL (cIa us 3)) 1)) (toI (cIa (aggL (cIa us 4)) 0)) (toI (cIa (aggL (cIa us 4)) 1))) (fun us => rfl) (fun us => run29 (toI (cIa (aggL (cIa us 0)) 0)) (toI (cIa (aggL (cIa us 0)) 1)) (roRows (cIa (aggL (cIa us 0)) 2)) (roRows (cIa us 1)) (toI (cIa us 2)) (toI (cIa (aggL (cIa us 3)) 0)) (toI (cIa (aggL (cIa us 3)) 1)) (toI (cIa (aggL (cIa us 4)) 0)) (toI (cIa (aggL (cIa us 4)) 1))) (fun t => rfl)

/-! ### 15: skirmish/terrain.Step -/

noncomputable def W15_0 : Ex → List Bool
  | .ret => [false, false, false, false, false, false, false, false, false, false, true, true, false, false, false, false, false, false, false, false, false, false, false, false, false, false, false, false, false, false, false, false, false, false, false, false, false, false, false, false, false, false, false, false, false, false, false, false, false, false, false, false, false, false, false, false, false, false, false, false, false, false, false, false, false, false, false, false, false, false, false, false, false, false, false, false, false, false, false, false, false, false, false, false, false, false, false, false, false, false, false, false, false, false, false, false, false, false, false, false, false, false]
  | .exit n => bif Nat.beq n 0 then [false, false, true, false, false, true, false, false, true, false, false, false, true, true, false, false, false, false, false, false, false, false, false, false, false, false, false, false, false, false, false, false, false, false, false, false, false, false, false, false, false, false, false, false, false, false, false, false, false, false, false, false, false, false, false, false, false, false, false, false, false, false, false, false, false, false, false, false, false, false, false, false, false, false, false, false, false, false, false, false, false, false, false, false, false, false, false, false, false, false, false, false, false, false, false, false, false, false, false, false, false, false] else []
  | _ => []
noncomputable def L15_0 (s : St) (k : Ex → St → Option CR) : Option CR := loopN (bodyOf TT TU GL0 C29 ownF noL (lp Tryd.f15 0)) 3 (maskS [false, true, true, false, false, true, false, false, true, false, false, false, true, true, false, false, false, false, false, false, false, false, false, false, false, false, false, false, false, false, false, false, false, false, false, false, false, false, false, false, false, false, false, false, false, false, false, false, false, false, false, true, true, false, false, false, false, false, false, false, false, false, false, false, false, false, false, false, false, false, false, false, false, false, false, false, false, false, false, false, false, false, false, false, false, false, false, false, false, false, false, false, false, false, false, false, false, false, false, false, false, false] s) (fun e s' => k e (maskS (W15_0 e) s'))

noncomputable def L15 : LT' := fun i s k => bif Nat.beq i 0 then L15_0 s k else none

/-- 'skirmish/terrain.Step' -/
noncomputable def F_terrain_Step (m_W : Int) (m_H : Int) (m_Cells : List (List AVal)) (blocked : List (List AVal)) (class_ : Int) (p_X : Int) (p_Y : Int) (dir : Int) : Option (Int × Bool) :=
  bif (decide (dir < (0 : Int))) then
    some ((0 : Int), false)
  else
  bif (decide (dir > (7 : Int))) then
    some ((0 : Int), false)
  else
  Option.bind (F_terrain_inside m_W m_H m_Cells p_X p_Y) fun t =>
  bif (!t) then
    some ((0 : Int), false)
  else
  Option.bind (F_grid_Step p_X p_Y dir) fun t1 =>
  Option.bind (F_terrain_possible m_W m_H m_Cells blocked class_ p_X p_Y t1.1 t1.2) fun t2 =>
  bif (!t2) then
    some ((0 : Int), false)
  else
  bif ((Int.tmod dir (2 : Int)) == (1 : Int)) then
    Option.bind ([[(i64 p_X), (i64 t1.2)], [(i64 t1.1), (i64 p_Y)]][(0 : Int).toNat]?) fun r =>
    bif (chk [(LT.int IntKind.i64), (LT.int IntKind.i64)] r) then
      bif (class_ != (3 : Int)) then
        Option.bind (F_terrain_possible m_W m_H m_Cells blocked class_ p_X p_Y (cI r 0) (cI r 1)) fun t3 =>
        bif (!t3) then
          some ((0 : Int), false)
        else
        Option.bind (F_terrain_possible m_W m_H m_Cells blocked class_ (cI r 0) (cI r 1) t1.1 t1.2) fun t4 =>
        bif (!t4) then
          some ((0 : Int), false)
        else
        Option.bind ([[(i64 p_X), (i64 t1.2)], [(i64 t1.1), (i64 p_Y)]][(wr ((0 : Int) + (1 : Int))).toNat]?) fun r1 =>
        bif (chk [(LT.int IntKind.i64), (LT.int IntKind.i64)] r1) then
          Option.bind (F_terrain_possible m_W m_H m_Cells blocked class_ p_X p_Y (cI r1 0) (cI r1 1)) fun t5 =>
          bif (!t5) then
            some ((0 : Int), false)
          else
          Option.bind (F_terrain_possible m_W m_H m_Cells blocked class_ (cI r1 0) (cI r1 1) t1.1 t1.2) fun t6 =>
          bif (!t6) then
            some ((0 : Int), false)
          else
          Option.bind (F_grid_Index m_W p_X p_Y) fun t7 =>
          bif (decide ((0 : Int) ≤ t7)) then
            Option.bind (m_Cells[t7.toNat]?) fun r2 =>
            bif (chk [(LT.int IntKind.i64), (LT.int IntKind.i64), (LT.int IntKind.i64)] r2) then
              Option.bind (F_grid_Index m_W t1.1 t1.2) fun t8 =>
              bif (decide ((0 : Int) ≤ t8)) then
                Option.bind (m_Cells[t8.toNat]?) fun r3 =>
                bif (chk [(LT.int IntKind.i64), (LT.int IntKind.i64), (LT.int IntKind.i64)] r3) then
                  bif ((cI r2 1) != (cI r3 1)) then
                    some ((wr ((14 : Int) + (5 : Int))), true)
                  else
                  some ((14 : Int), true)
                else
                none
              else
              none
            else
            none
          else
          none
        else
        none
      else
      Option.bind ([[(i64 p_X), (i64 t1.2)], [(i64 t1.1), (i64 p_Y)]][(wr ((0 : Int) + (1 : Int))).toNat]?) fun r6 =>
      bif (chk [(LT.int IntKind.i64), (LT.int IntKind.i64)] r6) then
        some ((14 : Int), true)
      else
      none
    else
    none
  else
  bif (class_ != (3 : Int)) then
    Option.bind (F_grid_Index m_W p_X p_Y) fun t17 =>
    bif (decide ((0 : Int) ≤ t17)) then
      Option.bind (m_Cells[t17.toNat]?) fun r11 =>
      bif (chk [(LT.int IntKind.i64), (LT.int IntKind.i64), (LT.int IntKind.i64)] r11) then
        Option.bind (F_grid_Index m_W t1.1 t1.2) fun t18 =>
        bif (decide ((0 : Int) ≤ t18)) then
          Option.bind (m_Cells[t18.toNat]?) fun r12 =>
          bif (chk [(LT.int IntKind.i64), (LT.int IntKind.i64), (LT.int IntKind.i64)] r12) then
            bif ((cI r11 1) != (cI r12 1)) then
              some ((wr ((10 : Int) + (5 : Int))), true)
            else
            some ((10 : Int), true)
          else
          none
        else
        none
      else
      none
    else
    none
  else
  some ((10 : Int), true)
noncomputable def enc15 (t : Int × Bool) : CR := ⟨true, (.tup [(.sc (.int .i64 t.1)), (.sc (.bool t.2))]), [], []⟩
noncomputable def ks15 : List SK := [.agg [.int .i64, .int .i64, .ro 3], .f (.ro 1), .f (.int .i64), .agg [.int .i64, .int .i64], .f (.int .i64)]
noncomputable def S15 (us : List AVal) : Call := bif chkA ks15 us then Call.of (F_terrain_Step (toI (cIa (aggL (cIa us 0)) 0)) (toI (cIa (aggL (cIa us 0)) 1)) (roRows (cIa (aggL (cIa us 0)) 2)) (roRows (cIa us 1)) (toI (cIa us 2)) (toI (cIa (aggL (cIa us 3)) 0)) (toI (cIa (aggL (cIa us 3)) 1)) (toI (cIa us 4))) enc15 else Call.none
noncomputable def C15 := AI.ext 15 S15 C29

theorem okL15_0 : LoopOk TT TU GL0 C29 ownF L15 (lp Tryd.f15 0) :=
  loopOk_unroll 3 [false, true, true, false, false, true, false, false, true, false, false, false, true, true, false, false, false, false, false, false, false, false, false, false, false, false, false, false, false, false, false, false, false, false, false, false, false, false, false, false, false, false, false, false, false, false, false, false, false, false, false, true, true, false, false, false, false, false, false, false, false, false, false, false, false, false, false, false, false, false, false, false, false, false, false, false, false, false, false, false, false, false, false, false, false, false, false, false, false, false, false, false, false, false, false, false, false, false, false, false, false, false] W15_0 (by kernel_rfl) (fun s k => by kernel_rfl)
theorem run15 (m_W : Int) (m_H : Int) (m_Cells : List (List AVal)) (blocked : List (List AVal)) (class_ : Int) (p_X : Int) (p_Y : Int) (dir : Int) : fcall TT TU GL0 C29 ownF true L15 Tryd.f15 [(.agg [(.sc (.int .i64 m_W)), (.sc (.int .i64 m_H)), (.ro 3 m_Cells)]), (.ro 1 blocked), (.sc (.int .i64 class_)), (.agg [(.sc (.int .i64 p_X)), (.sc (.int .i64 p_Y))]), (.sc (.int .i64 dir))] = (F_terrain_Step m_W m_H m_Cells blocked class_ p_X p_Y dir).bind fun t => some (enc15 t) :=
  Eq.trans (b := (bif (decide (dir < (0 : Int))) then (some (CR.mk true (AVal.tup [(i64 (0 : Int)), (bo false)]) [] [])) else (bif (decide (dir > (7 : Int))) then (some (CR.mk true (AVal.tup [(i64 (0 : Int)), (bo false)]) [] [])) else (Option.bind (F_terrain_inside m_W m_H m_Cells p_X p_Y) fun t => (bif (!t) then (some (CR.mk true (AVal.tup [(i64 (0 : Int)), (bo false)]) [] [])) else (Option.bind (F_grid_Step p_X p_Y dir) fun t1 => (Option.bind (F_terrain_possible m_W m_H m_Cells blocked class_ p_X p_Y t1.1 t1.2) fun t2 => (bif (!t2) then (some (CR.mk true (AVal.tup [(i64 (0 : Int)), (bo false)]) [] [])) else (bif ((Int.tmod dir (2 : Int)) == (1 : Int)) then (bif (((decide ((0 : Int) ≤ (0 : Int))) && (decide ((0 : Int) < (2 : Int)))) && true) then (Option.bind ([[(i64 p_X), (i64 t1.2)], [(i64 t1.1), (i64 p_Y)]][(0 : Int).toNat]?) fun r => (bif (chk [(LT.int IntKind.i64), (LT.int IntKind.i64)] r) then (bif (class_ != (3 : Int)) then (Option.bind (F_terrain_possible m_W m_H m_Cells blocked class_ p_X p_Y (cI r 0) (cI r 1)) fun t3 => (bif (!t3) then (some (CR.mk true (AVal.tup [(i64 (0 : Int)), (bo false)]) [] [])) else (Option.bind (F_terrain_possible m_W m_H m_Cells blocked class_ (cI r 0) (cI r 1) t1.1 t1.2) fun t4 => (bif (!t4) then (some (CR.mk true (AVal.tup [(i64 (0 : Int)), (bo false)]) [] [])) else (bif (((decide ((0 : Int) ≤ (wr ((0 : Int) + (1 : Int))))) && (decide ((wr ((0 : Int) + (1 : Int))) < (2 : Int)))) && true) then (Option.bind ([[(i64 p_X), (i64 t1.2)], [(i64 t1.1), (i64 p_Y)]][(wr ((0 : Int) + (1 : Int))).toNat]?) fun r1 => (bif (chk [(LT.int IntKind.i64), (LT.int IntKind.i64)] r1) then (bif (class_ != (3 : Int)) then (Option.bind (F_terrain_possible m_W m_H m_Cells blocked class_ p_X p_Y (cI r1 0) (cI r1 1)) fun t5 => (bif (!t5) then (some (CR.mk true (AVal.tup [(i64 (0 : Int)), (bo false)]) [] [])) else (Option.bind (F_terrain_possible m_W m_H m_Cells blocked class_ (cI r1 0) (cI r1 1) t1.1 t1.2) fun t6 => (bif (!t6) then (some (CR.mk true (AVal.tup [(i64 (0 : Int)), (bo false)]) [] [])) else (bif (class_ != (3 : Int)) then (Option.bind (F_grid_Index m_W p_X p_Y) fun t7 => (bif (decide ((0 : Int) ≤ t7)) then (Option.bind (m_Cells[t7.toNat]?) fun r2 => (bif (chk [(LT.int IntKind.i64), (LT.int IntKind.i64), (LT.int IntKind.i64)] r2) then (Option.bind (F_grid_Index m_W t1.1 t1.2) fun t8 => (bif (decide ((0 : Int) ≤ t8)) then (Option.bind (m_Cells[t8.toNat]?) fun r3 => (bif (chk [(LT.int IntKind.i64), (LT.int IntKind.i64), (LT.int IntKind.i64)] r3) then (bif ((cI r2 1) != (cI r3 1)) then (some (CR.mk true (AVal.tup [(i64 (wr ((14 : Int) + (5 : Int)))), (bo true)]) [] [])) else (some (CR.mk true (AVal.tup [(i64 (14 : Int)), (bo true)]) [] []))) else none)) else none)) else none)) else none)) else (some (CR.mk true (AVal.tup [(i64 (14 : Int)), (bo true)]) [] []))))))) else (bif (class_ != (3 : Int)) then (Option.bind (F_grid_Index m_W p_X p_Y) fun t9 => (bif (decide ((0 : Int) ≤ t9)) then (Option.bind (m_Cells[t9.toNat]?) fun r4 => (bif (chk [(LT.int IntKind.i64), (LT.int IntKind.i64), (LT.int IntKind.i64)] r4) then (Option.bind (F_grid_Index m_W t1.1 t1.2) fun t10 => (bif (decide ((0 : Int) ≤ t10)) then (Option.bind (m_Cells[t10.toNat]?) fun r5 => (bif (chk [(LT.int IntKind.i64), (LT.int IntKind.i64), (LT.int IntKind.i64)] r5) then (bif ((cI r4 1) != (cI r5 1)) then (some (CR.mk true (AVal.tup [(i64 (wr ((14 : Int) + (5 : Int)))), (bo true)]) [] [])) else (some (CR.mk true (AVal.tup [(i64 (14 : Int)), (bo true)]) [] []))) else none)) else none)) else none)) else none)) else (some (CR.mk true (AVal.tup [(i64 (14 : Int)), (bo true)]) [] [])))) else none)) else none))))) else (bif (((decide ((0 : Int) ≤ (wr ((0 : Int) + (1 : Int))))) && (decide ((wr ((0 : Int) + (1 : Int))) < (2 : Int)))) && true) then (Option.bind ([[(i64 p_X), (i64 t1.2)], [(i64 t1.1), (i64 p_Y)]][(wr ((0 : Int) + (1 : Int))).toNat]?) fun r6 => (bif (chk [(LT.int IntKind.i64), (LT.int IntKind.i64)] r6) then (bif (class_ != (3 : Int)) then (Option.bind (F_terrain_possible m_W m_H m_Cells blocked class_ p_X p_Y (cI r6 0) (cI r6 1)) fun t11 => (bif (!t11) then (some (CR.mk true (AVal.tup [(i64 (0 : Int)), (bo false)]) [] [])) else (Option.bind (F_terrain_possible m_W m_H m_Cells blocked class_ (cI r6 0) (cI r6 1) t1.1 t1.2) fun t12 => (bif (!t12) then (some (CR.mk true (AVal.tup [(i64 (0 : Int)), (bo false)]) [] [])) else (bif (class_ != (3 : Int)) then (Option.bind (F_grid_Index m_W p_X p_Y) fun t13 => (bif (decide ((0 : Int) ≤ t13)) then (Option.bind (m_Cells[t13.toNat]?) fun r7 => (bif (chk [(LT.int IntKind.i64), (LT.int IntKind.i64), (LT.int IntKind.i64)] r7) then (Option.bind (F_grid_Index m_W t1.1 t1.2) fun t14 => (bif (decide ((0 : Int) ≤ t14)) then (Option.bind (m_Cells[t14.toNat]?) fun r8 => (bif (chk [(LT.int IntKind.i64), (LT.int IntKind.i64), (LT.int IntKind.i64)] r8) then (bif ((cI r7 1) != (cI r8 1)) then (some (CR.mk true (AVal.tup [(i64 (wr ((14 : Int) + (5 : Int)))), (bo true)]) [] [])) else (some (CR.mk true (AVal.tup [(i64 (14 : Int)), (bo true)]) [] []))) else none)) else none)) else none)) else none)) else (some (CR.mk true (AVal.tup [(i64 (14 : Int)), (bo true)]) [] []))))))) else (bif (class_ != (3 : Int)) then (Option.bind (F_grid_Index m_W p_X p_Y) fun t15 => (bif (decide ((0 : Int) ≤ t15)) then (Option.bind (m_Cells[t15.toNat]?) fun r9 => (bif (chk [(LT.int IntKind.i64), (LT.int IntKind.i64), (LT.int IntKind.i64)] r9) then (Option.bind (F_grid_Index m_W t1.1 t1.2) fun t16 => (bif (decide ((0 : Int) ≤ t16)) then (Option.bind (m_Cells[t16.toNat]?) fun r10 => (bif (chk [(LT.int IntKind.i64), (LT.int IntKind.i64), (LT.int IntKind.i64)] r10) then (bif ((cI r9 1) != (cI r10 1)) then (some (CR.mk true (AVal.tup [(i64 (wr ((14 : Int) + (5 : Int)))), (bo true)]) [] [])) else (some (CR.mk true (AVal.tup [(i64 (14 : Int)), (bo true)]) [] []))) else none)) else none)) else none)) else none)) else (some (CR.mk true (AVal.tup [(i64 (14 : Int)), (bo true)]) [] [])))) else none)) else none)) else none)) else none) else (bif (class_ != (3 : Int)) then (Option.bind (F_grid_Index m_W p_X p_Y) fun t17 => (bif (decide ((0 : Int) ≤ t17)) then (Option.bind (m_Cells[t17.toNat]?) fun r11 => (bif (chk [(LT.int IntKind.i64), (LT.int IntKind.i64), (LT.int IntKind.i64)] r11) then (Option.bind (F_grid_Index m_W t1.1 t1.2) fun t18 => (bif (decide ((0 : Int) ≤ t18)) then (Option.bind (m_Cells[t18.toNat]?) fun r12 => (bif (chk [(LT.int IntKind.i64), (LT.int IntKind.i64), (LT.int IntKind.i64)] r12) then (bif ((cI r11 1) != (cI r12 1)) then (some (CR.mk true (AVal.tup [(i64 (wr ((10 : Int) + (5 : Int)))), (bo true)]) [] [])) else (some (CR.mk true (AVal.tup [(i64 (10 : Int)), (bo true)]) [] []))) else none)) else none)) else none)) else none)) else (some (CR.mk true (AVal.tup [(i64 (10 : Int)), (bo true)]) [] [])))))))))))) (by kernel_rfl)
    (n_condH rfl (fun h0 => rfl) fun h0 => (n_condH rfl (fun h1 => rfl) fun h1 => (n_bind fun t => (n_condH rfl (fun h2 => rfl) fun h2 => (n_bind fun t1 => (n_bind fun t2 => (n_condH rfl (fun h3 => rfl) fun h3 => (n_condH rfl (fun h4 => (n_true (by kernel_rfl) (n_bind fun r => (n_condH rfl (fun h5 => (n_condH rfl (fun h6 => (n_bind fun t3 => (n_condH rfl (fun h7 => rfl) fun h7 => (n_bind fun t4 => (n_condH rfl (fun h8 => rfl) fun h8 => (n_true (by kernel_rfl) (n_bind fun r1 => (n_condH rfl (fun h9 => (n_true h6 (n_bind fun t5 => (n_condH rfl (fun h10 => rfl) fun h10 => (n_bind fun t6 => (n_condH rfl (fun h11 => rfl) fun h11 => (n_true h6 (n_bind fun t7 => (n_condH rfl (fun h12 => (n_bind fun r2 => (n_condH rfl (fun h13 => (n_bind fun t8 => (n_condH rfl (fun h14 => (n_bind fun r3 => (n_condH rfl (fun h15 => (n_condH rfl (fun h16 => rfl) fun h16 => rfl)) fun h15 => n_none))) fun h14 => n_none))) fun h13 => n_none))) fun h12 => n_none))))))))) fun h9 => n_none)))))))) fun h6 => (n_true (by kernel_rfl) (n_bind fun r6 => (n_condH rfl (fun h7 => (n_false h6 (n_false h6 rfl))) fun h7 => n_none))))) fun h5 => n_none)))) fun h4 => (n_condH rfl (fun h5 => (n_bind fun t17 => (n_condH rfl (fun h6 => (n_bind fun r11 => (n_condH rfl (fun h7 => (n_bind fun t18 => (n_condH rfl (fun h8 => (n_bind fun r12 => (n_condH rfl (fun h9 => (n_condH rfl (fun h10 => rfl) fun h10 => rfl)) fun h9 => n_none))) fun h8 => n_none))) fun h7 => n_none))) fun h6 => n_none))) fun h5 => rfl)))))))))
theorem lib15 : Lib Tryd.prog GL0 C15 :=
  Lib.fn lib29 mixed TT_ok Tryd.func15 (by decide +kernel) (by kernel_rfl) true L15 (loops_of 1 (by kernel_rfl) (belowS below0 okL15_0)) ks15 (F := fun us => F_terrain_Step (toI (cIa (aggL (cIa us 0)) 0)) (toI (cIa (aggL (cIa us 0)) 1)) (roRows (cIa (aggL (cIa us 0)) 2)) (roRows (cIa us 1)) (toI (cIa us 2)) (toI (cIa (aggL (cIa us 3)) 0)) (toI (cIa (aggL (cIa us 3)) 1)) (toI (cIa us 4))) (fun us => rfl) (fun us => run15 (toI (cIa (aggL (cIa us 0)) 0)) (toI (cIa (aggL (cIa us 0)) 1)) (roRows (cIa (aggL (cIa us 0)) 2)) (roRows (cIa us 1)) (toI (cIa us 2)) (toI (cIa (aggL (cIa us 3)) 0)) (toI (cIa (aggL (cIa us 3)) 1)) (toI (cIa us 4))) (fun t => rfl)

/-! ### 12: (skirmish/astar.ground).reach -/

noncomputable def W12_0 : Ex → List Bool
  | .ret => [false, false, false, false, true, false, false, false, false, false, false, false, false, false, false, false, false, false, false, false, false, false, false, false, false, false, false, false, false, false, false, false, false, false, false, false, false, false, false, false, false, false, false, false, false, false, false, false, false, false, false, false, false, false, false, false, false, false, false, false, false, false, false, false, false, false, false, false, false, false, false, false, false, false, false, false, false, false, false, false, false, false, false, false, false, false, false, false, false, false, false, false, false, false, false, false, false, false, false, false, false, false, false, false, false, false, false, false, false, false, false, false, false, false, false, false, false, false, false, false, false, false, false, false, false, false, false, false, false, false, false, false, false]
  | .exit n => bif Nat.beq n 0 then [false, false, true, true, false, true, false, false, false, false, false, false, false, false, false, false, false, false, false, false, false, false, false, false, false, false, false, false, false, false, false, false, false, false, false, false, false, false, false, false, false, false, false, false, false, false, false, false, false, false, false, false, false, false, false, false, false, false, false, false, false, false, false, false, false, false, false, false, false, false, false, false, false, false, false, false, false, false, false, false, false, false, false, false, false, false, false, false, false, false, false, false, false, false, false, false, false, false, false, false, false, false, false, false, false, false, false, false, false, false, false, false, false, false, false, false, false, false, false, false, false, false, false, false, false, false, false, false, false, false, false, false, false] else []
  | _ => []
noncomputable def G_astar_ground__reach_0 (x24 : Int) : Nat → List (List AVal) → Int → Option (List (List AVal))
  | 0, _, _ => none
  | m + 1, R2, x25 =>
    bif (decide (x25 < x24)) then
      bif ((decide ((0 : Int) ≤ x25)) && (decide (x25 < (Int.ofNat R2.length)))) then
        G_astar_ground__reach_0 x24 m (List.set R2 x25.toNat [(i64 (-(1 : Int)))]) (wr (x25 + (1 : Int)))
      else
      none
    else
    some R2
noncomputable def E12_0 (R2 : List (List AVal)) (x24 : Int) (x25 : Int) (b0_0 : Int) (b0_1 : Int) (b0_2 : List (List AVal)) (b0_3 : List (List AVal)) (b0_4 : Int) (b1_0 : Int) (b1_1 : Int) : St := ⟨[.dead, .dead, (.ref 16000 1 0 0), (.ref 16016 1 0 0), .dead, (.ref 16000080 1 0 0), .dead, .dead, .dead, .dead, .dead, .dead, .dead, .dead, .dead, .dead, .dead, .dead, .dead, .dead, .dead, .dead, .dead, .dead, (.sc (.int .i64 x24)), (.sc (.int .i64 x25)), .dead, .dead, .dead, .dead, .dead, .dead, .dead, .dead, .dead, .dead, .dead, .dead, .dead, .dead, .dead, .dead, .dead, .dead, .dead, .dead, .dead, .dead, .dead, .dead, .dead, .dead, .dead, .dead, .dead, .dead, .dead, .dead, .dead, .dead, .dead, .dead, .dead, .dead, .dead, .dead, .dead, .dead, .dead, .dead, .dead, .dead, .dead, .dead, .dead, .dead, .dead, .dead, .dead, .dead, .dead, .dead, .dead, .dead, .dead, .dead, .dead, .dead, .dead, .dead, .dead, .dead, .dead, .dead, .dead, .dead, .dead, .dead, .dead, .dead, .dead, .dead, .dead, .dead, .dead, .dead, .dead, .dead, .dead, .dead, .dead, .dead, .dead, .dead, .dead, .dead, .dead, .dead, .dead, .dead, .dead, .dead, .dead, .dead, .dead, .dead, .dead, .dead, .dead, .dead, .dead, .dead, .dead], [(16000, ⟨.box, 43, 5, [[(.sc (.int .i64 b0_0)), (.sc (.int .i64 b0_1)), (.ro 3 b0_2), (.ro 1 b0_3), (.sc (.int .i64 b0_4))]]⟩), (16016, ⟨.box, 27, 2, [[(.sc (.int .i64 b1_0)), (.sc (.int .i64 b1_1))]]⟩), (19264, ⟨.arr, 3, 1, R2⟩), (16000080, ⟨.box, 28, 1, [[(.slc 19264 (R2).length)]]⟩)]⟩
noncomputable def X12_0 (b0_0 : Int) (b0_1 : Int) (b0_2 : List (List AVal)) (b0_3 : List (List AVal)) (b0_4 : Int) (b1_0 : Int) (b1_1 : Int) (k : Ex → St → Option CR) (t : List (List AVal)) : Option CR := k (.exit 0) ⟨[.dead, .dead, (.ref 16000 1 0 0), (.ref 16016 1 0 0), .dead, (.ref 16000080 1 0 0), .dead, .dead, .dead, .dead, .dead, .dead, .dead, .dead, .dead, .dead, .dead, .dead, .dead, .dead, .dead, .dead, .dead, .dead, .dead, .dead, .dead, .dead, .dead, .dead, .dead, .dead, .dead, .dead, .dead, .dead, .dead, .dead, .dead, .dead, .dead, .dead, .dead, .dead, .dead, .dead, .dead, .dead, .dead, .dead, .dead, .dead, .dead, .dead, .dead, .dead, .dead, .dead, .dead, .dead, .dead, .dead, .dead, .dead, .dead, .dead, .dead, .dead, .dead, .dead, .dead, .dead, .dead, .dead, .dead, .dead, .dead, .dead, .dead, .dead, .dead, .dead, .dead, .dead, .dead, .dead, .dead, .dead, .dead, .dead, .dead, .dead, .dead, .dead, .dead, .dead, .dead, .dead, .dead, .dead, .dead, .dead, .dead, .dead, .dead, .dead, .dead, .dead, .dead, .dead, .dead, .dead, .dead, .dead, .dead, .dead, .dead, .dead, .dead, .dead, .dead, .dead, .dead, .dead, .dead, .dead, .dead, .dead, .dead, .dead, .dead, .dead, .dead], [(16000, ⟨.box, 43, 5, [[(.sc (.int .i64 b0_0)), (.sc (.int .i64 b0_1)), (.ro 3 b0_2), (.ro 1 b0_3), (.sc (.int .i64 b0_4))]]⟩), (16016, ⟨.box, 27, 2, [[(.sc (.int .i64 b1_0)), (.sc (.int .i64 b1_1))]]⟩), (19264, ⟨.arr, 3, 1, t⟩), (16000080, ⟨.box, 28, 1, [[(.slc 19264 (t).length)]]⟩)]⟩
noncomputable def ks12_0 : List SK := [.f .dead, .f .dead, .f (.ref 16000 1 0 0), .f (.ref 16016 1 0 0), .f .dead, .f (.ref 16000080 1 0 0), .f .dead, .f .dead, .f .dead, .f .dead, .f .dead, .f .dead, .f .dead, .f .dead, .f .dead, .f .dead, .f .dead, .f .dead, .f .dead, .f .dead, .f .dead, .f .dead, .f .dead, .f .dead, .f (.int .i64), .f (.int .i64), .f .dead, .f .dead, .f .dead, .f .dead, .f .dead, .f .dead, .f .dead, .f .dead, .f .dead, .f .dead, .f .dead, .f .dead, .f .dead, .f .dead, .f .dead, .f .dead, .f .dead, .f .dead, .f .dead, .f .dead, .f .dead, .f .dead, .f .dead, .f .dead, .f .dead, .f .dead, .f .dead, .f .dead, .f .dead, .f .dead, .f .dead, .f .dead, .f .dead, .f .dead, .f .dead, .f .dead, .f .dead, .f .dead, .f .dead, .f .dead, .f .dead, .f .dead, .f .dead, .f .dead, .f .dead, .f .dead, .f .dead, .f .dead, .f .dead, .f .dead, .f .dead, .f .dead, .f .dead, .f .dead, .f .dead, .f .dead, .f .dead, .f .dead, .f .dead, .f .dead, .f .dead, .f .dead, .f .dead, .f .dead, .f .dead, .f .dead, .f .dead, .f .dead, .f .dead, .f .dead, .f .dead, .f .dead, .f .dead, .f .dead, .f .dead, .f .dead, .f .dead, .f .dead, .f .dead, .f .dead, .f .dead, .f .dead, .f .dead, .f .dead, .f .dead, .f .dead, .f .dead, .f .dead, .f .dead, .f .dead, .f .dead, .f .dead, .f .dead, .f .dead, .f .dead, .f .dead, .f .dead, .f .dead, .f .dead, .f .dead, .f .dead, .f .dead, .f .dead, .f .dead, .f .dead, .f .dead, .f .dead]
noncomputable def hs12_0 : List HK := [⟨16000, .box, 43, 5, some [.int .i64, .int .i64, .ro 3, .ro 1, .int .i64]⟩, ⟨16016, .box, 27, 2, some [.int .i64, .int .i64]⟩, ⟨19264, .arr, 3, 1, none⟩, ⟨16000080, .box, 28, 1, some [.slc 19264 2]⟩]
noncomputable def Lm12_0 (s : St) (k : Ex → St → Option CR) : Option CR := bif chkS ks12_0 hs12_0 s then (G_astar_ground__reach_0 (toI (cIa s.tmps 24)) FU (blkAt s.heap 2).2.rows (toI (cIa s.tmps 25))).bind (X12_0 (toI (cIa (rows0 (blkAt s.heap 0).2) 0)) (toI (cIa (rows0 (blkAt s.heap 0).2) 1)) (roRows (cIa (rows0 (blkAt s.heap 0).2) 2)) (roRows (cIa (rows0 (blkAt s.heap 0).2) 3)) (toI (cIa (rows0 (blkAt s.heap 0).2) 4)) (toI (cIa (rows0 (blkAt s.heap 1).2) 0)) (toI (cIa (rows0 (blkAt s.heap 1).2) 1)) k) else none
noncomputable def L12_0 (s : St) (k : Ex → St → Option CR) : Option CR := Lm12_0 (maskS (maskOf ks12_0) s) k
noncomputable def W12_1 : Ex → List Bool
  | .ret => [false, false, false, false, true, false, false, false, false, false, false, false, false, false, false, false, false, false, false, false, false, false, false, false, false, false, false, false, false, false, false, false, false, false, false, false, false, false, false, false, false, false, false, false, false, false, false, false, false, false, false, false, false, false, false, false, false, false, false, false, false, false, false, false, false, false, false, false, false, false, false, false, false, false, false, false, false, false, false, false, false, false, false, false, false, false, false, false, false, false, false, false, false, false, false, false, false, false, false, false, false, false, false, false, false, false, false, false, false, false, false, false, false, false, false, false, false, false, false, false, false, false, false, false, false, false, false, false, false, false, false, false, false]
  | .exit n => bif Nat.beq n 2 then [false, false, false, false, false, true, false, false, false, false, false, false, false, false, false, false, false, false, false, false, false, false, false, false, false, false, false, false, false, false, false, false, false, false, false, false, false, false, false, false, false, false, false, false, false, false, false, false, false, false, false, false, false, false, false, false, false, false, false, false, false, false, false, false, false, false, false, false, false, false, false, false, false, false, false, false, false, false, false, false, false, false, false, false, false, false, false, false, false, false, false, false, false, false, false, false, false, false, false, false, false, false, false, false, false, false, false, false, false, false, false, false, false, false, false, false, false, false, false, false, false, false, false, false, false, false, false, false, false, false, false, false, false] else []
  | _ => []
noncomputable def W12_2 : Ex → List Bool
  | .ret => [false, false, false, false, true, false, false, false, false, false, false, false, false, false, false, false, false, false, false, false, false, false, false, false, false, false, false, false, false, false, false, false, false, false, false, false, false, false, false, false, false, false, false, false, false, false, false, false, false, false, false, false, false, false, false, false, false, false, false, false, false, false, false, false, false, false, false, false, false, false, false, false, false, false, false, false, false, false, false, false, false, false, false, false, false, false, false, false, false, false, false, false, false, false, false, false, false, false, false, false, false, false, false, false, false, false, false, false, false, false, false, false, false, false, false, false, false, false, false, false, false, false, false, false, false, false, false, false, false, false, false, false, false]
  | .exit n => bif Nat.beq n 4 then [false, false, true, false, false, true, false, true, true, true, true, false, false, false, false, false, false, false, false, false, false, false, false, false, false, false, false, false, false, false, false, false, false, false, false, false, false, false, false, false, false, false, false, false, false, false, false, false, false, false, false, false, false, false, false, false, false, false, false, false, false, false, false, false, false, false, false, false, false, false, false, false, false, false, false, false, false, false, false, false, false, false, false, false, false, false, false, false, false, false, false, false, false, false, false, false, false, false, false, false, false, false, false, false, false, false, false, false, false, false, false, false, false, false, false, false, false, false, false, false, false, false, false, false, false, false, false, false, false, false, false, false, false] else bif Nat.beq n 3 then [false, false, true, false, false, true, false, true, true, true, true, false, false, false, false, false, false, false, false, false, false, false, false, false, false, false, false, false, false, false, false, false, false, false, false, false, false, false, false, false, false, false, false, false, false, false, false, false, false, false, false, false, false, false, false, false, false, false, false, false, false, false, false, false, false, false, false, false, false, false, false, false, false, false, false, false, false, false, false, false, false, false, false, false, false, false, false, false, false, false, false, false, false, false, false, false, false, false, false, false, false, false, false, false, false, false, false, false, false, false, false, false, false, false, false, false, false, false, false, false, false, false, false, false, false, false, false, false, false, false, false, false, false] else bif Nat.beq n 2 then [false, false, false, false, false, true, false, false, false, false, false, false, false, false, false, false, false, false, false, false, false, false, false, false, false, false, false, false, false, false, false, false, false, false, false, false, false, false, false, false, false, false, false, false, false, false, false, false, false, false, false, false, false, false, false, false, false, false, false, false, false, false, false, false, false, false, false, false, false, false, false, false, false, false, false, false, false, false, false, false, false, false, false, false, false, false, false, false, false, false, false, false, false, false, false, false, false, false, false, false, false, false, false, false, false, false, false, false, false, false, false, false, false, false, false, false, false, false, false, false, false, false, false, false, false, false, false, false, false, false, false, false, false] else []
  | _ => []
noncomputable def W12_3 : Ex → List Bool
  | .ret => [false, false, false, false, true, false, false, false, false, false, false, false, false, false, false, false, false, false, false, false, false, false, false, false, false, false, false, false, false, false, false, false, false, false, false, false, false, false, false, false, false, false, false, false, false, false, false, false, false, false, false, false, false, false, false, false, false, false, false, false, false, false, false, false, false, false, false, false, false, false, false, false, false, false, false, false, false, false, false, false, false, false, false, false, false, false, false, false, false, false, false, false, false, false, false, false, false, false, false, false, false, false, false, false, false, false, false, false, false, false, false, false, false, false, false, false, false, false, false, false, false, false, false, false, false, false, false, false, false, false, false, false, false]
  | .exit n => bif Nat.beq n 6 then [false, false, true, false, false, true, false, true, true, true, true, false, false, false, false, false, false, false, false, false, false, false, false, false, false, false, false, false, false, false, false, false, false, false, false, false, false, false, false, false, false, false, false, false, false, false, false, false, false, false, false, false, false, false, false, false, false, false, false, false, false, false, false, false, false, false, false, false, false, false, false, false, false, false, false, false, false, false, false, false, false, false, false, false, false, false, false, false, false, false, false, false, false, false, false, false, false, false, false, false, false, false, false, false, false, false, false, false, false, false, false, false, false, false, false, false, false, false, false, false, false, false, false, false, false, false, false, false, false, false, false, false, false] else bif Nat.beq n 5 then [false, false, true, false, false, true, false, true, true, true, true, false, false, false, false, false, false, false, false, false, false, false, false, false, false, false, false, false, false, false, false, false, false, false, false, false, false, false, false, false, false, false, false, false, false, false, false, false, false, false, false, false, false, false, false, false, false, false, false, false, false, false, false, false, false, false, false, false, false, false, false, false, false, false, false, false, false, false, false, false, false, false, false, false, false, false, false, false, false, false, false, false, false, false, false, false, false, false, false, false, false, false, false, false, false, false, false, false, false, false, false, false, false, false, false, false, false, false, false, false, false, false, false, false, false, false, false, false, false, false, false, false, false] else bif Nat.beq n 4 then [false, false, true, false, false, true, false, true, true, true, true, false, false, false, false, false, false, false, false, false, false, false, false, false, false, false, false, false, false, false, false, false, false, false, false, false, false, false, false, false, false, false, false, false, false, false, false, false, false, false, false, false, false, false, false, false, false, false, false, false, false, false, false, false, false, false, false, false, false, false, false, false, false, false, false, false, false, false, false, false, false, false, false, false, false, false, false, false, false, false, false, false, false, false, false, false, false, false, false, false, false, false, false, false, false, false, false, false, false, false, false, false, false, false, false, false, false, false, false, false, false, false, false, false, false, false, false, false, false, false, false, false, false] else bif Nat.beq n 3 then [false, false, true, false, false, true, false, true, true, true, true, false, false, false, false, false, false, false, false, false, false, false, false, false, false, false, false, false, false, false, false, false, false, false, false, false, false, false, false, false, false, false, false, false, false, false, false, false, false, false, false, false, false, false, false, false, false, false, false, false, false, false, false, false, false, false, false, false, false, false, false, false, false, false, false, false, false, false, false, false, false, false, false, false, false, false, false, false, false, false, false, false, false, false, false, false, false, false, false, false, false, false, false, false, false, false, false, false, false, false, false, false, false, false, false, false, false, false, false, false, false, false, false, false, false, false, false, false, false, false, false, false, false] else bif Nat.beq n 2 then [false, false, false, false, false, true, false, false, false, false, false, false, false, false, false, false, false, false, false, false, false, false, false, false, false, false, false, false, false, false, false, false, false, false, false, false, false, false, false, false, false, false, false, false, false, false, false, false, false, false, false, false, false, false, false, false, false, false, false, false, false, false, false, false, false, false, false, false, false, false, false, false, false, false, false, false, false, false, false, false, false, false, false, false, false, false, false, false, false, false, false, false, false, false, false, false, false, false, false, false, false, false, false, false, false, false, false, false, false, false, false, false, false, false, false, false, false, false, false, false, false, false, false, false, false, false, false, false, false, false, false, false, false] else []
  | _ => []
noncomputable def G_astar_ground__reach_3 (c : Int) (b0_0 : Int) (b0_1 : Int) (b0_2 : List (List AVal)) (b0_3 : List (List AVal)) (b0_4 : Int) (b7_0 : Int) (b7_1 : Int) : Nat → List (List AVal) → List (List AVal) → Int → Int → Option (List (List AVal) × List (List AVal) × Int)
  | 0, _, _, _, _ => none
  | m + 1, R1, R3, x88, b5_0 =>
    bif (decide (x88 < (8 : Int))) then
      Option.bind (F_terrain_Step b0_0 b0_1 b0_2 b0_3 b0_4 b7_0 b7_1 x88) fun t =>
      bif (!t.2) then
        G_astar_ground__reach_3 c b0_0 b0_1 b0_2 b0_3 b0_4 b7_0 b7_1 m R1 R3 (wr (x88 + (1 : Int))) b5_0
      else
      Option.bind (F_grid_Step b7_0 b7_1 x88) fun t1 =>
      Option.bind (F_grid_Index b0_0 t1.1 t1.2) fun t2 =>
      bif ((decide ((0 : Int) ≤ t2)) && (decide (t2 < (Int.ofNat R1.length)))) then
        Option.bind (R1[t2.toNat]?) fun r =>
        bif (chk [(LT.int IntKind.i64)] r) then
          bif (decide ((cI r 0) < (0 : Int))) then
            Option.bind (F_astar_ground__reach_2 t1.1 t1.2 (wr (c + t.1)) R3 R1 b0_0 b0_1 b0_2 b0_3 b0_4 b5_0) fun t3 =>
            G_astar_ground__reach_3 c b0_0 b0_1 b0_2 b0_3 b0_4 b7_0 b7_1 m t3.2.1 t3.1 (wr (x88 + (1 : Int))) t3.2.2
          else
          bif (decide ((wr (c + t.1)) < (cI r 0))) then
            Option.bind (F_astar_ground__reach_2 t1.1 t1.2 (wr (c + t.1)) R3 R1 b0_0 b0_1 b0_2 b0_3 b0_4 b5_0) fun t4 =>
            G_astar_ground__reach_3 c b0_0 b0_1 b0_2 b0_3 b0_4 b7_0 b7_1 m t4.2.1 t4.1 (wr (x88 + (1 : Int))) t4.2.2
          else
          G_astar_ground__reach_3 c b0_0 b0_1 b0_2 b0_3 b0_4 b7_0 b7_1 m R1 R3 (wr (x88 + (1 : Int))) b5_0
        else
        none
      else
      none
    else
    some (R1, R3, b5_0)
noncomputable def E12_3 (R1 : List (List AVal)) (R3 : List (List AVal)) (R6 : List (List AVal)) (c : Int) (x88 : Int) (b0_0 : Int) (b0_1 : Int) (b0_2 : List (List AVal)) (b0_3 : List (List AVal)) (b0_4 : Int) (b5_0 : Int) (b7_0 : Int) (b7_1 : Int) : St := ⟨[.dead, .dead, (.ref 16000 1 0 0), .dead, .dead, (.ref 16000080 1 0 0), .dead, (.ref 16000112 1 0 0), (.ref 16000128 1 0 0), (.clo 26 [(.ref 16000112 1 0 0), (.ref 16000080 1 0 0), (.ref 16000 1 0 0), (.ref 16000128 1 0 0)]), (.sc (.int .i64 c)), .dead, (.ref 16000192 1 0 0), .dead, .dead, .dead, .dead, .dead, .dead, .dead, .dead, .dead, .dead, .dead, .dead, .dead, .dead, .dead, .dead, .dead, .dead, .dead, .dead, .dead, .dead, .dead, .dead, .dead, .dead, .dead, .dead, .dead, .dead, .dead, .dead, .dead, .dead, .dead, .dead, .dead, .dead, .dead, .dead, .dead, .dead, .dead, .dead, .dead, .dead, .dead, .dead, .dead, .dead, .dead, .dead, .dead, .dead, .dead, .dead, .dead, .dead, .dead, .dead, .dead, .dead, .dead, .dead, .dead, .dead, .dead, .dead, .dead, .dead, .dead, .dead, .dead, .dead, .dead, (.sc (.int .i64 x88)), .dead, .dead, .dead, .dead, .dead, .dead, .dead, .dead, .dead, .dead, .dead, .dead, .dead, .dead, .dead, .dead, .dead, .dead, .dead, .dead, .dead, .dead, .dead, .dead, .dead, .dead, .dead, .dead, .dead, .dead, .dead, .dead, .dead, .dead, .dead, .dead, .dead, .dead, .dead, .dead, .dead, .dead, .dead, .dead], [(16000, ⟨.box, 43, 5, [[(.sc (.int .i64 b0_0)), (.sc (.int .i64 b0_1)), (.ro 3 b0_2), (.ro 1 b0_3), (.sc (.int .i64 b0_4))]]⟩), (19264, ⟨.arr, 3, 1, R1⟩), (16000080, ⟨.box, 28, 1, [[(.slc 19264 (R1).length)]]⟩), (16000113, ⟨(.ns 0 27 2), 29, 1, R3⟩), (16000112, ⟨.box, 57, 1, [[(.slc 16000113 (R3).length)]]⟩), (16000128, ⟨.box, 3, 1, [[(.sc (.int .i64 b5_0))]]⟩), (999, ⟨(.dfr 25 [(.ref 16000128 1 0 0)]), 0, 0, R6⟩), (16000192, ⟨.box, 27, 2, [[(.sc (.int .i64 b7_0)), (.sc (.int .i64 b7_1))]]⟩)]⟩
noncomputable def X12_3 (R6 : List (List AVal)) (c : Int) (b0_0 : Int) (b0_1 : Int) (b0_2 : List (List AVal)) (b0_3 : List (List AVal)) (b0_4 : Int) (k : Ex → St → Option CR) (t : List (List AVal) × List (List AVal) × Int) : Option CR := k (.exit 6) ⟨[.dead, .dead, (.ref 16000 1 0 0), .dead, .dead, (.ref 16000080 1 0 0), .dead, (.ref 16000112 1 0 0), (.ref 16000128 1 0 0), (.clo 26 [(.ref 16000112 1 0 0), (.ref 16000080 1 0 0), (.ref 16000 1 0 0), (.ref 16000128 1 0 0)]), (.sc (.int .i64 c)), .dead, .dead, .dead, .dead, .dead, .dead, .dead, .dead, .dead, .dead, .dead, .dead, .dead, .dead, .dead, .dead, .dead, .dead, .dead, .dead, .dead, .dead, .dead, .dead, .dead, .dead, .dead, .dead, .dead, .dead, .dead, .dead, .dead, .dead, .dead, .dead, .dead, .dead, .dead, .dead, .dead, .dead, .dead, .dead, .dead, .dead, .dead, .dead, .dead, .dead, .dead, .dead, .dead, .dead, .dead, .dead, .dead, .dead, .dead, .dead, .dead, .dead, .dead, .dead, .dead, .dead, .dead, .dead, .dead, .dead, .dead, .dead, .dead, .dead, .dead, .dead, .dead, .dead, .dead, .dead, .dead, .dead, .dead, .dead, .dead, .dead, .dead, .dead, .dead, .dead, .dead, .dead, .dead, .dead, .dead, .dead, .dead, .dead, .dead, .dead, .dead, .dead, .dead, .dead, .dead, .dead, .dead, .dead, .dead, .dead, .dead, .dead, .dead, .dead, .dead, .dead, .dead, .dead, .dead, .dead, .dead, .dead], [(16000, ⟨.box, 43, 5, [[(.sc (.int .i64 b0_0)), (.sc (.int .i64 b0_1)), (.ro 3 b0_2), (.ro 1 b0_3), (.sc (.int .i64 b0_4))]]⟩), (19264, ⟨.arr, 3, 1, t.1⟩), (16000080, ⟨.box, 28, 1, [[(.slc 19264 (t.1).length)]]⟩), (16000113, ⟨(.ns 0 27 2), 29, 1, t.2.1⟩), (16000112, ⟨.box, 57, 1, [[(.slc 16000113 (t.2.1).length)]]⟩), (16000128, ⟨.box, 3, 1, [[(.sc (.int .i64 t.2.2))]]⟩), (999, ⟨(.dfr 25 [(.ref 16000128 1 0 0)]), 0, 0, R6⟩)]⟩
noncomputable def ks12_3 : List SK := [.f .dead, .f .dead, .f (.ref 16000 1 0 0), .f .dead, .f .dead, .f (.ref 16000080 1 0 0), .f .dead, .f (.ref 16000112 1 0 0), .f (.ref 16000128 1 0 0), .f (.cloR 26 [(16000112, 1, 0, 0), (16000080, 1, 0, 0), (16000, 1, 0, 0), (16000128, 1, 0, 0)]), .f (.int .i64), .f .dead, .f (.ref 16000192 1 0 0), .f .dead, .f .dead, .f .dead, .f .dead, .f .dead, .f .dead, .f .dead, .f .dead, .f .dead, .f .dead, .f .dead, .f .dead, .f .dead, .f .dead, .f .dead, .f .dead, .f .dead, .f .dead, .f .dead, .f .dead, .f .dead, .f .dead, .f .dead, .f .dead, .f .dead, .f .dead, .f .dead, .f .dead, .f .dead, .f .dead, .f .dead, .f .dead, .f .dead, .f .dead, .f .dead, .f .dead, .f .dead, .f .dead, .f .dead, .f .dead, .f .dead, .f .dead, .f .dead, .f .dead, .f .dead, .f .dead, .f .dead, .f .dead, .f .dead, .f .dead, .f .dead, .f .dead, .f .dead, .f .dead, .f .dead, .f .dead, .f .dead, .f .dead, .f .dead, .f .dead, .f .dead, .f .dead, .f .dead, .f .dead, .f .dead, .f .dead, .f .dead, .f .dead, .f .dead, .f .dead, .f .dead, .f .dead, .f .dead, .f .dead, .f .dead, .f (.int .i64), .f .dead, .f .dead, .f .dead, .f .dead, .f .dead, .f .dead, .f .dead, .f .dead, .f .dead, .f .dead, .f .dead, .f .dead, .f .dead, .f .dead, .f .dead, .f .dead, .f .dead, .f .dead, .f .dead, .f .dead, .f .dead, .f .dead, .f .dead, .f .dead, .f .dead, .f .dead, .f .dead, .f .dead, .f .dead, .f .dead, .f .dead, .f .dead, .f .dead, .f .dead, .f .dead, .f .dead, .f .dead, .f .dead, .f .dead, .f .dead, .f .dead, .f .dead, .f .dead, .f .dead]
noncomputable def hs12_3 : List HK := [⟨16000, .box, 43, 5, some [.int .i64, .int .i64, .ro 3, .ro 1, .int .i64]⟩, ⟨19264, .arr, 3, 1, none⟩, ⟨16000080, .box, 28, 1, some [.slc 19264 1]⟩, ⟨16000113, (.ns 0 27 2), 29, 1, none⟩, ⟨16000112, .box, 57, 1, some [.slc 16000113 3]⟩, ⟨16000128, .box, 3, 1, some [.int .i64]⟩, ⟨999, (.dfr 25 [(.ref 16000128 1 0 0)]), 0, 0, none⟩, ⟨16000192, .box, 27, 2, some [.int .i64, .int .i64]⟩]
noncomputable def Lm12_3 (s : St) (k : Ex → St → Option CR) : Option CR := bif chkS ks12_3 hs12_3 s then (G_astar_ground__reach_3 (toI (cIa s.tmps 10)) (toI (cIa (rows0 (blkAt s.heap 0).2) 0)) (toI (cIa (rows0 (blkAt s.heap 0).2) 1)) (roRows (cIa (rows0 (blkAt s.heap 0).2) 2)) (roRows (cIa (rows0 (blkAt s.heap 0).2) 3)) (toI (cIa (rows0 (blkAt s.heap 0).2) 4)) (toI (cIa (rows0 (blkAt s.heap 7).2) 0)) (toI (cIa (rows0 (blkAt s.heap 7).2) 1)) FU (blkAt s.heap 1).2.rows (blkAt s.heap 3).2.rows (toI (cIa s.tmps 88)) (toI (cIa (rows0 (blkAt s.heap 5).2) 0))).bind (X12_3 (blkAt s.heap 6).2.rows (toI (cIa s.tmps 10)) (toI (cIa (rows0 (blkAt s.heap 0).2) 0)) (toI (cIa (rows0 (blkAt s.heap 0).2) 1)) (roRows (cIa (rows0 (blkAt s.heap 0).2) 2)) (roRows (cIa (rows0 (blkAt s.heap 0).2) 3)) (toI (cIa (rows0 (blkAt s.heap 0).2) 4)) k) else none
noncomputable def L12_3 (s : St) (k : Ex → St → Option CR) : Option CR := Lm12_3 (maskS (maskOf ks12_3) s) k
noncomputable def G_astar_ground__reach_2 (c : Int) (b0_0 : Int) (b0_1 : Int) (b0_2 : List (List AVal)) (b0_3 : List (List AVal)) (b0_4 : Int) : Nat → List (List AVal) → List (List AVal) → Int → Option (List (List AVal) × List (List AVal) × Int)
  | 0, _, _, _ => none
  | m + 1, R1, R3, b5_0 =>
    bif ((decide ((0 : Int) ≤ c)) && (decide (c < (Int.ofNat R3.length)))) then
      Option.bind (R3[c.toNat]?) fun r =>
      bif (chk [(LT.sl 27 2)] r) then
        bif (decide ((Int.ofNat (cR r 0).length) > (0 : Int))) then
          Option.bind (R3[c.toNat]?) fun r1 =>
          bif (chk [(LT.sl 27 2)] r1) then
            Option.bind (R3[c.toNat]?) fun r2 =>
            bif (chk [(LT.sl 27 2)] r2) then
              bif ((decide ((0 : Int) ≤ (wr ((Int.ofNat (cR r1 0).length) - (1 : Int))))) && (decide ((wr ((Int.ofNat (cR r1 0).length) - (1 : Int))) < (Int.ofNat (cR r2 0).length)))) then
                Option.bind (R3[c.toNat]?) fun r3 =>
                bif (chk [(LT.sl 27 2)] r3) then
                  Option.bind ((cR r3 0)[(wr ((Int.ofNat (cR r1 0).length) - (1 : Int))).toNat]?) fun r4 =>
                  bif (chk [(LT.int IntKind.i64), (LT.int IntKind.i64)] r4) then
                    Option.bind (R3[c.toNat]?) fun r5 =>
                    bif (chk [(LT.sl 27 2)] r5) then
                      bif (decide ((wr ((Int.ofNat (cR r1 0).length) - (1 : Int))) ≤ (Int.ofNat (cR r5 0).length))) then
                        bif (decide (c < (Int.ofNat (Blk.rows (Blk.mk (BKind.ns 1 27 2) 29 1 (List.set R3 c.toNat [(AVal.ro 2 (List.drop (0 : Int).toNat (List.take (wr ((Int.ofNat (cR r1 0).length) - (1 : Int))).toNat (cR r5 0))))]))).length))) then
                          bif (Nat.beq c.toNat c.toNat) then
                            Option.bind (F_grid_Index b0_0 (cI r4 0) (cI r4 1)) fun t =>
                            bif ((decide ((0 : Int) ≤ t)) && (decide (t < (Int.ofNat R1.length)))) then
                              Option.bind (R1[t.toNat]?) fun r6 =>
                              bif (chk [(LT.int IntKind.i64)] r6) then
                                bif ((cI r6 0) != c) then
                                  G_astar_ground__reach_2 c b0_0 b0_1 b0_2 b0_3 b0_4 m R1 (Blk.rows (Blk.mk (BKind.ns 0 27 2) 29 1 (Blk.rows (Blk.mk (BKind.ns 0 27 2) 29 1 (Blk.rows (Blk.mk (BKind.ns 2 27 2) 29 1 (Blk.rows (Blk.mk (BKind.ns 1 27 2) 29 1 (List.set R3 c.toNat [(AVal.ro 2 (List.drop (0 : Int).toNat (List.take (wr ((Int.ofNat (cR r1 0).length) - (1 : Int))).toNat (cR r5 0))))]))))))))) (wr (b5_0 - (1 : Int)))
                                else
                                Option.bind (G_astar_ground__reach_3 c b0_0 b0_1 b0_2 b0_3 b0_4 (cI r4 0) (cI r4 1) FU R1 (Blk.rows (Blk.mk (BKind.ns 0 27 2) 29 1 (Blk.rows (Blk.mk (BKind.ns 0 27 2) 29 1 (Blk.rows (Blk.mk (BKind.ns 0 27 2) 29 1 (Blk.rows (Blk.mk (BKind.ns 0 27 2) 29 1 (Blk.rows (Blk.mk (BKind.ns 2 27 2) 29 1 (Blk.rows (Blk.mk (BKind.ns 1 27 2) 29 1 (List.set R3 c.toNat [(AVal.ro 2 (List.drop (0 : Int).toNat (List.take (wr ((Int.ofNat (cR r1 0).length) - (1 : Int))).toNat (cR r5 0))))]))))))))))))) (0 : Int) (wr (b5_0 - (1 : Int)))) fun t1 =>
                                G_astar_ground__reach_2 c b0_0 b0_1 b0_2 b0_3 b0_4 m t1.1 t1.2.1 t1.2.2
                              else
                              none
                            else
                            none
                          else
                          none
                        else
                        none
                      else
                      none
                    else
                    none
                  else
                  none
                else
                none
              else
              none
            else
            none
          else
          none
        else
        some (R1, R3, b5_0)
      else
      none
    else
    none
noncomputable def E12_2 (R1 : List (List AVal)) (R3 : List (List AVal)) (R6 : List (List AVal)) (c : Int) (b0_0 : Int) (b0_1 : Int) (b0_2 : List (List AVal)) (b0_3 : List (List AVal)) (b0_4 : Int) (b5_0 : Int) : St := ⟨[.dead, .dead, (.ref 16000 1 0 0), .dead, .dead, (.ref 16000080 1 0 0), .dead, (.ref 16000112 1 0 0), (.ref 16000128 1 0 0), (.clo 26 [(.ref 16000112 1 0 0), (.ref 16000080 1 0 0), (.ref 16000 1 0 0), (.ref 16000128 1 0 0)]), (.sc (.int .i64 c)), .dead, .dead, .dead, .dead, .dead, .dead, .dead, .dead, .dead, .dead, .dead, .dead, .dead, .dead, .dead, .dead, .dead, .dead, .dead, .dead, .dead, .dead, .dead, .dead, .dead, .dead, .dead, .dead, .dead, .dead, .dead, .dead, .dead, .dead, .dead, .dead, .dead, .dead, .dead, .dead, .dead, .dead, .dead, .dead, .dead, .dead, .dead, .dead, .dead, .dead, .dead, .dead, .dead, .dead, .dead, .dead, .dead, .dead, .dead, .dead, .dead, .dead, .dead, .dead, .dead, .dead, .dead, .dead, .dead, .dead, .dead, .dead, .dead, .dead, .dead, .dead, .dead, .dead, .dead, .dead, .dead, .dead, .dead, .dead, .dead, .dead, .dead, .dead, .dead, .dead, .dead, .dead, .dead, .dead, .dead, .dead, .dead, .dead, .dead, .dead, .dead, .dead, .dead, .dead, .dead, .dead, .dead, .dead, .dead, .dead, .dead, .dead, .dead, .dead, .dead, .dead, .dead, .dead, .dead, .dead, .dead, .dead], [(16000, ⟨.box, 43, 5, [[(.sc (.int .i64 b0_0)), (.sc (.int .i64 b0_1)), (.ro 3 b0_2), (.ro 1 b0_3), (.sc (.int .i64 b0_4))]]⟩), (19264, ⟨.arr, 3, 1, R1⟩), (16000080, ⟨.box, 28, 1, [[(.slc 19264 (R1).length)]]⟩), (16000113, ⟨(.ns 0 27 2), 29, 1, R3⟩), (16000112, ⟨.box, 57, 1, [[(.slc 16000113 (R3).length)]]⟩), (16000128, ⟨.box, 3, 1, [[(.sc (.int .i64 b5_0))]]⟩), (999, ⟨(.dfr 25 [(.ref 16000128 1 0 0)]), 0, 0, R6⟩)]⟩
noncomputable def X12_2 (R6 : List (List AVal)) (c : Int) (b0_0 : Int) (b0_1 : Int) (b0_2 : List (List AVal)) (b0_3 : List (List AVal)) (b0_4 : Int) (k : Ex → St → Option CR) (t : List (List AVal) × List (List AVal) × Int) : Option CR := k (.exit 4) ⟨[.dead, .dead, (.ref 16000 1 0 0), .dead, .dead, (.ref 16000080 1 0 0), .dead, (.ref 16000112 1 0 0), (.ref 16000128 1 0 0), (.clo 26 [(.ref 16000112 1 0 0), (.ref 16000080 1 0 0), (.ref 16000 1 0 0), (.ref 16000128 1 0 0)]), (.sc (.int .i64 c)), .dead, .dead, .dead, .dead, .dead, .dead, .dead, .dead, .dead, .dead, .dead, .dead, .dead, .dead, .dead, .dead, .dead, .dead, .dead, .dead, .dead, .dead, .dead, .dead, .dead, .dead, .dead, .dead, .dead, .dead, .dead, .dead, .dead, .dead, .dead, .dead, .dead, .dead, .dead, .dead, .dead, .dead, .dead, .dead, .dead, .dead, .dead, .dead, .dead, .dead, .dead, .dead, .dead, .dead, .dead, .dead, .dead, .dead, .dead, .dead, .dead, .dead, .dead, .dead, .dead, .dead, .dead, .dead, .dead, .dead, .dead, .dead, .dead, .dead, .dead, .dead, .dead, .dead, .dead, .dead, .dead, .dead, .dead, .dead, .dead, .dead, .dead, .dead, .dead, .dead, .dead, .dead, .dead, .dead, .dead, .dead, .dead, .dead, .dead, .dead, .dead, .dead, .dead, .dead, .dead, .dead, .dead, .dead, .dead, .dead, .dead, .dead, .dead, .dead, .dead, .dead, .dead, .dead, .dead, .dead, .dead, .dead], [(16000, ⟨.box, 43, 5, [[(.sc (.int .i64 b0_0)), (.sc (.int .i64 b0_1)), (.ro 3 b0_2), (.ro 1 b0_3), (.sc (.int .i64 b0_4))]]⟩), (19264, ⟨.arr, 3, 1, t.1⟩), (16000080, ⟨.box, 28, 1, [[(.slc 19264 (t.1).length)]]⟩), (16000113, ⟨(.ns 0 27 2), 29, 1, t.2.1⟩), (16000112, ⟨.box, 57, 1, [[(.slc 16000113 (t.2.1).length)]]⟩), (16000128, ⟨.box, 3, 1, [[(.sc (.int .i64 t.2.2))]]⟩), (999, ⟨(.dfr 25 [(.ref 16000128 1 0 0)]), 0, 0, R6⟩)]⟩
noncomputable def ks12_2 : List SK := [.f .dead, .f .dead, .f (.ref 16000 1 0 0), .f .dead, .f .dead, .f (.ref 16000080 1 0 0), .f .dead, .f (.ref 16000112 1 0 0), .f (.ref 16000128 1 0 0), .f (.cloR 26 [(16000112, 1, 0, 0), (16000080, 1, 0, 0), (16000, 1, 0, 0), (16000128, 1, 0, 0)]), .f (.int .i64), .f .dead, .f .dead, .f .dead, .f .dead, .f .dead, .f .dead, .f .dead, .f .dead, .f .dead, .f .dead, .f .dead, .f .dead, .f .dead, .f .dead, .f .dead, .f .dead, .f .dead, .f .dead, .f .dead, .f .dead, .f .dead, .f .dead, .f .dead, .f .dead, .f .dead, .f .dead, .f .dead, .f .dead, .f .dead, .f .dead, .f .dead, .f .dead, .f .dead, .f .dead, .f .dead, .f .dead, .f .dead, .f .dead, .f .dead, .f .dead, .f .dead, .f .dead, .f .dead, .f .dead, .f .dead, .f .dead, .f .dead, .f .dead, .f .dead, .f .dead, .f .dead, .f .dead, .f .dead, .f .dead, .f .dead, .f .dead, .f .dead, .f .dead, .f .dead, .f .dead, .f .dead, .f .dead, .f .dead, .f .dead, .f .dead, .f .dead, .f .dead, .f .dead, .f .dead, .f .dead, .f .dead, .f .dead, .f .dead, .f .dead, .f .dead, .f .dead, .f .dead, .f .dead, .f .dead, .f .dead, .f .dead, .f .dead, .f .dead, .f .dead, .f .dead, .f .dead, .f .dead, .f .dead, .f .dead, .f .dead, .f .dead, .f .dead, .f .dead, .f .dead, .f .dead, .f .dead, .f .dead, .f .dead, .f .dead, .f .dead, .f .dead, .f .dead, .f .dead, .f .dead, .f .dead, .f .dead, .f .dead, .f .dead, .f .dead, .f .dead, .f .dead, .f .dead, .f .dead, .f .dead, .f .dead, .f .dead, .f .dead, .f .dead, .f .dead, .f .dead, .f .dead, .f .dead]
noncomputable def hs12_2 : List HK := [⟨16000, .box, 43, 5, some [.int .i64, .int .i64, .ro 3, .ro 1, .int .i64]⟩, ⟨19264, .arr, 3, 1, none⟩, ⟨16000080, .box, 28, 1, some [.slc 19264 1]⟩, ⟨16000113, (.ns 0 27 2), 29, 1, none⟩, ⟨16000112, .box, 57, 1, some [.slc 16000113 3]⟩, ⟨16000128, .box, 3, 1, some [.int .i64]⟩, ⟨999, (.dfr 25 [(.ref 16000128 1 0 0)]), 0, 0, none⟩]
noncomputable def Lm12_2 (s : St) (k : Ex → St → Option CR) : Option CR := bif chkS ks12_2 hs12_2 s then (G_astar_ground__reach_2 (toI (cIa s.tmps 10)) (toI (cIa (rows0 (blkAt s.heap 0).2) 0)) (toI (cIa (rows0 (blkAt s.heap 0).2) 1)) (roRows (cIa (rows0 (blkAt s.heap 0).2) 2)) (roRows (cIa (rows0 (blkAt s.heap 0).2) 3)) (toI (cIa (rows0 (blkAt s.heap 0).2) 4)) FU (blkAt s.heap 1).2.rows (blkAt s.heap 3).2.rows (toI (cIa (rows0 (blkAt s.heap 5).2) 0))).bind (X12_2 (blkAt s.heap 6).2.rows (toI (cIa s.tmps 10)) (toI (cIa (rows0 (blkAt s.heap 0).2) 0)) (toI (cIa (rows0 (blkAt s.heap 0).2) 1)) (roRows (cIa (rows0 (blkAt s.heap 0).2) 2)) (roRows (cIa (rows0 (blkAt s.heap 0).2) 3)) (toI (cIa (rows0 (blkAt s.heap 0).2) 4)) k) else none
noncomputable def L12_2 (s : St) (k : Ex → St → Option CR) : Option CR := Lm12_2 (maskS (maskOf ks12_2) s) k
noncomputable def G_astar_ground__reach_1 (b0_0 : Int) (b0_1 : Int) (b0_2 : List (List AVal)) (b0_3 : List (List AVal)) (b0_4 : Int) : Nat → List (List AVal) → List (List AVal) → Int → Int → Option (List (List AVal) × List (List AVal) × Int)
  | 0, _, _, _, _ => none
  | m + 1, R1, R3, c, b5_0 =>
    bif (decide (c < (Int.ofNat R3.length))) then
      Option.bind (G_astar_ground__reach_2 c b0_0 b0_1 b0_2 b0_3 b0_4 FU R1 R3 b5_0) fun t =>
      G_astar_ground__reach_1 b0_0 b0_1 b0_2 b0_3 b0_4 m t.1 t.2.1 (wr (c + (1 : Int))) t.2.2
    else
    some (R1, R3, b5_0)
noncomputable def E12_1 (R1 : List (List AVal)) (R3 : List (List AVal)) (R6 : List (List AVal)) (c : Int) (b0_0 : Int) (b0_1 : Int) (b0_2 : List (List AVal)) (b0_3 : List (List AVal)) (b0_4 : Int) (b5_0 : Int) : St := ⟨[.dead, .dead, (.ref 16000 1 0 0), .dead, .dead, (.ref 16000080 1 0 0), .dead, (.ref 16000112 1 0 0), (.ref 16000128 1 0 0), (.clo 26 [(.ref 16000112 1 0 0), (.ref 16000080 1 0 0), (.ref 16000 1 0 0), (.ref 16000128 1 0 0)]), (.sc (.int .i64 c)), .dead, .dead, .dead, .dead, .dead, .dead, .dead, .dead, .dead, .dead, .dead, .dead, .dead, .dead, .dead, .dead, .dead, .dead, .dead, .dead, .dead, .dead, .dead, .dead, .dead, .dead, .dead, .dead, .dead, .dead, .dead, .dead, .dead, .dead, .dead, .dead, .dead, .dead, .dead, .dead, .dead, .dead, .dead, .dead, .dead, .dead, .dead, .dead, .dead, .dead, .dead, .dead, .dead, .dead, .dead, .dead, .dead, .dead, .dead, .dead, .dead, .dead, .dead, .dead, .dead, .dead, .dead, .dead, .dead, .dead, .dead, .dead, .dead, .dead, .dead, .dead, .dead, .dead, .dead, .dead, .dead, .dead, .dead, .dead, .dead, .dead, .dead, .dead, .dead, .dead, .dead, .dead, .dead, .dead, .dead, .dead, .dead, .dead, .dead, .dead, .dead, .dead, .dead, .dead, .dead, .dead, .dead, .dead, .dead, .dead, .dead, .dead, .dead, .dead, .dead, .dead, .dead, .dead, .dead, .dead, .dead, .dead], [(16000, ⟨.box, 43, 5, [[(.sc (.int .i64 b0_0)), (.sc (.int .i64 b0_1)), (.ro 3 b0_2), (.ro 1 b0_3), (.sc (.int .i64 b0_4))]]⟩), (19264, ⟨.arr, 3, 1, R1⟩), (16000080, ⟨.box, 28, 1, [[(.slc 19264 (R1).length)]]⟩), (16000113, ⟨(.ns 0 27 2), 29, 1, R3⟩), (16000112, ⟨.box, 57, 1, [[(.slc 16000113 (R3).length)]]⟩), (16000128, ⟨.box, 3, 1, [[(.sc (.int .i64 b5_0))]]⟩), (999, ⟨(.dfr 25 [(.ref 16000128 1 0 0)]), 0, 0, R6⟩)]⟩
noncomputable def X12_1 (R6 : List (List AVal)) (b0_0 : Int) (b0_1 : Int) (b0_2 : List (List AVal)) (b0_3 : List (List AVal)) (b0_4 : Int) (k : Ex → St → Option CR) (t : List (List AVal) × List (List AVal) × Int) : Option CR := k (.exit 2) ⟨[.dead, .dead, .dead, .dead, .dead, (.ref 16000080 1 0 0), .dead, .dead, .dead, .dead, .dead, .dead, .dead, .dead, .dead, .dead, .dead, .dead, .dead, .dead, .dead, .dead, .dead, .dead, .dead, .dead, .dead, .dead, .dead, .dead, .dead, .dead, .dead, .dead, .dead, .dead, .dead, .dead, .dead, .dead, .dead, .dead, .dead, .dead, .dead, .dead, .dead, .dead, .dead, .dead, .dead, .dead, .dead, .dead, .dead, .dead, .dead, .dead, .dead, .dead, .dead, .dead, .dead, .dead, .dead, .dead, .dead, .dead, .dead, .dead, .dead, .dead, .dead, .dead, .dead, .dead, .dead, .dead, .dead, .dead, .dead, .dead, .dead, .dead, .dead, .dead, .dead, .dead, .dead, .dead, .dead, .dead, .dead, .dead, .dead, .dead, .dead, .dead, .dead, .dead, .dead, .dead, .dead, .dead, .dead, .dead, .dead, .dead, .dead, .dead, .dead, .dead, .dead, .dead, .dead, .dead, .dead, .dead, .dead, .dead, .dead, .dead, .dead, .dead, .dead, .dead, .dead, .dead, .dead, .dead, .dead, .dead, .dead], [(16000, ⟨.box, 43, 5, [[(.sc (.int .i64 b0_0)), (.sc (.int .i64 b0_1)), (.ro 3 b0_2), (.ro 1 b0_3), (.sc (.int .i64 b0_4))]]⟩), (19264, ⟨.arr, 3, 1, t.1⟩), (16000080, ⟨.box, 28, 1, [[(.slc 19264 (t.1).length)]]⟩), (16000113, ⟨(.ns 0 27 2), 29, 1, t.2.1⟩), (16000112, ⟨.box, 57, 1, [[(.slc 16000113 (t.2.1).length)]]⟩), (16000128, ⟨.box, 3, 1, [[(.sc (.int .i64 t.2.2))]]⟩), (999, ⟨(.dfr 25 [(.ref 16000128 1 0 0)]), 0, 0, R6⟩)]⟩
noncomputable def ks12_1 : List SK := [.f .dead, .f .dead, .f (.ref 16000 1 0 0), .f .dead, .f .dead, .f (.ref 16000080 1 0 0), .f .dead, .f (.ref 16000112 1 0 0), .f (.ref 16000128 1 0 0), .f (.cloR 26 [(16000112, 1, 0, 0), (16000080, 1, 0, 0), (16000, 1, 0, 0), (16000128, 1, 0, 0)]), .f (.int .i64), .f .dead, .f .dead, .f .dead, .f .dead, .f .dead, .f .dead, .f .dead, .f .dead, .f .dead, .f .dead, .f .dead, .f .dead, .f .dead, .f .dead, .f .dead, .f .dead, .f .dead, .f .dead, .f .dead, .f .dead, .f .dead, .f .dead, .f .dead, .f .dead, .f .dead, .f .dead, .f .dead, .f .dead, .f .dead, .f .dead, .f .dead, .f .dead, .f .dead, .f .dead, .f .dead, .f .dead, .f .dead, .f .dead, .f .dead, .f .dead, .f .dead, .f .dead, .f .dead, .f .dead, .f .dead, .f .dead, .f .dead, .f .dead, .f .dead, .f .dead, .f .dead, .f .dead, .f .dead, .f .dead, .f .dead, .f .dead, .f .dead, .f .dead, .f .dead, .f .dead, .f .dead, .f .dead, .f .dead, .f .dead, .f .dead, .f .dead, .f .dead, .f .dead, .f .dead, .f .dead, .f .dead, .f .dead, .f .dead, .f .dead, .f .dead, .f .dead, .f .dead, .f .dead, .f .dead, .f .dead, .f .dead, .f .dead, .f .dead, .f .dead, .f .dead, .f .dead, .f .dead, .f .dead, .f .dead, .f .dead, .f .dead, .f .dead, .f .dead, .f .dead, .f .dead, .f .dead, .f .dead, .f .dead, .f .dead, .f .dead, .f .dead, .f .dead, .f .dead, .f .dead, .f .dead, .f .dead, .f .dead, .f .dead, .f .dead, .f .dead, .f .dead, .f .dead, .f .dead, .f .dead, .f .dead, .f .dead, .f .dead, .f .dead, .f .dead, .f .dead, .f .dead, .f .dead]
noncomputable def hs12_1 : List HK := [⟨16000, .box, 43, 5, some [.int .i64, .int .i64, .ro 3, .ro 1, .int .i64]⟩, ⟨19264, .arr, 3, 1, none⟩, ⟨16000080, .box, 28, 1, some [.slc 19264 1]⟩, ⟨16000113, (.ns 0 27 2), 29, 1, none⟩, ⟨16000112, .box, 57, 1, some [.slc 16000113 3]⟩, ⟨16000128, .box, 3, 1, some [.int .i64]⟩, ⟨999, (.dfr 25 [(.ref 16000128 1 0 0)]), 0, 0, none⟩]
noncomputable def Lm12_1 (s : St) (k : Ex → St → Option CR) : Option CR := bif chkS ks12_1 hs12_1 s then (G_astar_ground__reach_1 (toI (cIa (rows0 (blkAt s.heap 0).2) 0)) (toI (cIa (rows0 (blkAt s.heap 0).2) 1)) (roRows (cIa (rows0 (blkAt s.heap 0).2) 2)) (roRows (cIa (rows0 (blkAt s.heap 0).2) 3)) (toI (cIa (rows0 (blkAt s.heap 0).2) 4)) FU (blkAt s.heap 1).2.rows (blkAt s.heap 3).2.rows (toI (cIa s.tmps 10)) (toI (cIa (rows0 (blkAt s.heap 5).2) 0))).bind (X12_1 (blkAt s.heap 6).2.rows (toI (cIa (rows0 (blkAt s.heap 0).2) 0)) (toI (cIa (rows0 (blkAt s.heap 0).2) 1)) (roRows (cIa (rows0 (blkAt s.heap 0).2) 2)) (roRows (cIa (rows0 (blkAt s.heap 0).2) 3)) (toI (cIa (rows0 (blkAt s.heap 0).2) 4)) k) else none
noncomputable def L12_1 (s : St) (k : Ex → St → Option CR) : Option CR := Lm12_1 (maskS (maskOf ks12_1) s) k

noncomputable def L12 : LT' := fun i s k => bif Nat.beq i 0 then L12_0 s k else bif Nat.beq i 2 then L12_1 s k else bif Nat.beq i 4 then L12_2 s k else bif Nat.beq i 6 then L12_3 s k else none

/-- '(skirmish/astar.ground).reach' -/
noncomputable def F_astar_ground__reach (g_m_W : Int) (g_m_H : Int) (g_m_Cells : List (List AVal)) (g_blocked : List (List AVal)) (g_class : Int) (from__X : Int) (from__Y : Int) : Option (List (List AVal)) :=
  bif ((((decide ((Int.ofNat g_m_Cells.length) = (Int.ofNat g_m_Cells.length))) && (decide ((0 : Int) ≤ (Int.ofNat g_m_Cells.length)))) && (decide ((Int.ofNat g_m_Cells.length) ≤ (9223372036854775807 : Int)))) && (decide (((8 : Int) * (Int.ofNat g_m_Cells.length)) ≤ (140737488355328 : Int)))) then
    Option.bind (G_astar_ground__reach_0 (Int.ofNat (Blk.rows (Blk.mk BKind.arr 3 1 (List.replicate (Int.ofNat g_m_Cells.length).toNat [(i64 (0 : Int))]))).length) FU (Blk.rows (Blk.mk BKind.arr 3 1 (List.replicate (Int.ofNat g_m_Cells.length).toNat [(i64 (0 : Int))]))) (0 : Int)) fun t =>
    Option.bind (F_astar_ground__free g_m_W g_m_H g_m_Cells g_blocked g_class from__X from__Y) fun t1 =>
    bif (!t1) then
      some t
    else
    Option.bind (F_astar_ground__reach_2 from__X from__Y (0 : Int) [] t g_m_W g_m_H g_m_Cells g_blocked g_class (0 : Int)) fun t2 =>
    Option.bind (G_astar_ground__reach_1 g_m_W g_m_H g_m_Cells g_blocked g_class FU t2.2.1 t2.1 (0 : Int) t2.2.2) fun t3 =>
    Option.bind (F_astar_ground__reach_1 t3.2.2) fun t4 =>
    some t3.1
  else
  none
noncomputable def enc12 (t : List (List AVal)) : CR := ⟨true, (.slc 0 (t).length), [], [⟨.arr, 3, 1, t⟩]⟩
noncomputable def ks12 : List SK := [.agg [.int .i64, .int .i64, .ro 3, .ro 1, .int .i64], .agg [.int .i64, .int .i64]]
noncomputable def S12 (us : List AVal) : Call := bif chkA ks12 us then Call.of (F_astar_ground__reach (toI (cIa (aggL (cIa us 0)) 0)) (toI (cIa (aggL (cIa us 0)) 1)) (roRows (cIa (aggL (cIa us 0)) 2)) (roRows (cIa (aggL (cIa us 0)) 3)) (toI (cIa (aggL (cIa us 0)) 4)) (toI (cIa (aggL (cIa us 1)) 0)) (toI (cIa (aggL (cIa us 1)) 1))) enc12 else Call.none
noncomputable def C12 := AI.ext 12 S12 C15

@[reducible] noncomputable def B12_0 := bodyOf TT TU GL0 C15 ownE L12 (lp Tryd.f12 0)
@[reducible] noncomputable def K12_0 (k : Ex → St → Option CR) : Ex → St → Option CR := fun e s => k e (maskS (W12_0 e) s)
theorem spec12_0 (k : Ex → St → Option CR) : ∀ (m : Nat) (R2 : List (List AVal)) (x24 : Int) (x25 : Int) (b0_0 : Int) (b0_1 : Int) (b0_2 : List (List AVal)) (b0_3 : List (List AVal)) (b0_4 : Int) (b1_0 : Int) (b1_1 : Int), loopN B12_0 m (E12_0 R2 x24 x25 b0_0 b0_1 b0_2 b0_3 b0_4 b1_0 b1_1) (K12_0 k) = (G_astar_ground__reach_0 x24 m R2 x25).bind (X12_0 b0_0 b0_1 b0_2 b0_3 b0_4 b1_0 b1_1 k)
  | 0, _, _, _, _, _, _, _, _, _, _ => rfl
  | m + 1, R2, x24, x25, b0_0, b0_1, b0_2, b0_3, b0_4, b1_0, b1_1 =>
    Eq.trans (b := (bif (decide (x25 < x24)) then (bif (((verEq R2.length R2.length) && (decide ((0 : Int) ≤ x25))) && (decide (x25 < (Int.ofNat R2.length)))) then (bif ((((verEq R2.length R2.length) && true) && true) && true) then (loopN B12_0 m ⟨[.dead, .dead, (AVal.ref 16000 1 0 0), (AVal.ref 16016 1 0 0), .dead, (AVal.ref 16000080 1 0 0), .dead, .dead, .dead, .dead, .dead, .dead, .dead, .dead, .dead, .dead, .dead, .dead, .dead, .dead, .dead, .dead, .dead, .dead, (i64 x24), (i64 (wr (x25 + (1 : Int)))), .dead, .dead, .dead, .dead, .dead, .dead, .dead, .dead, .dead, .dead, .dead, .dead, .dead, .dead, .dead, .dead, .dead, .dead, .dead, .dead, .dead, .dead, .dead, .dead, .dead, .dead, .dead, .dead, .dead, .dead, .dead, .dead, .dead, .dead, .dead, .dead, .dead, .dead, .dead, .dead, .dead, .dead, .dead, .dead, .dead, .dead, .dead, .dead, .dead, .dead, .dead, .dead, .dead, .dead, .dead, .dead, .dead, .dead, .dead, .dead, .dead, .dead, .dead, .dead, .dead, .dead, .dead, .dead, .dead, .dead, .dead, .dead, .dead, .dead, .dead, .dead, .dead, .dead, .dead, .dead, .dead, .dead, .dead, .dead, .dead, .dead, .dead, .dead, .dead, .dead, .dead, .dead, .dead, .dead, .dead, .dead, .dead, .dead, .dead, .dead, .dead, .dead, .dead, .dead, .dead, .dead, .dead], [(Prod.mk 16000 (Blk.mk BKind.box 43 5 [[(i64 b0_0), (i64 b0_1), (AVal.ro 3 b0_2), (AVal.ro 1 b0_3), (i64 b0_4)]])), (Prod.mk 16016 (Blk.mk BKind.box 27 2 [[(i64 b1_0), (i64 b1_1)]])), (Prod.mk 19264 (Blk.mk BKind.arr 3 1 (List.set R2 x25.toNat [(i64 (-(1 : Int)))]))), (Prod.mk 16000080 (Blk.mk BKind.box 28 1 [[(AVal.slc 19264 R2.length)]]))]⟩ (K12_0 k)) else none) else none) else (k (.exit 0) ⟨[.dead, .dead, (AVal.ref 16000 1 0 0), (AVal.ref 16016 1 0 0), .dead, (AVal.ref 16000080 1 0 0), .dead, .dead, .dead, .dead, .dead, .dead, .dead, .dead, .dead, .dead, .dead, .dead, .dead, .dead, .dead, .dead, .dead, .dead, .dead, .dead, .dead, .dead, .dead, .dead, .dead, .dead, .dead, .dead, .dead, .dead, .dead, .dead, .dead, .dead, .dead, .dead, .dead, .dead, .dead, .dead, .dead, .dead, .dead, .dead, .dead, .dead, .dead, .dead, .dead, .dead, .dead, .dead, .dead, .dead, .dead, .dead, .dead, .dead, .dead, .dead, .dead, .dead, .dead, .dead, .dead, .dead, .dead, .dead, .dead, .dead, .dead, .dead, .dead, .dead, .dead, .dead, .dead, .dead, .dead, .dead, .dead, .dead, .dead, .dead, .dead, .dead, .dead, .dead, .dead, .dead, .dead, .dead, .dead, .dead, .dead, .dead, .dead, .dead, .dead, .dead, .dead, .dead, .dead, .dead, .dead, .dead, .dead, .dead, .dead, .dead, .dead, .dead, .dead, .dead, .dead, .dead, .dead, .dead, .dead, .dead, .dead, .dead, .dead, .dead, .dead, .dead, .dead], [(Prod.mk 16000 (Blk.mk BKind.box 43 5 [[(i64 b0_0), (i64 b0_1), (AVal.ro 3 b0_2), (AVal.ro 1 b0_3), (i64 b0_4)]])), (Prod.mk 16016 (Blk.mk BKind.box 27 2 [[(i64 b1_0), (i64 b1_1)]])), (Prod.mk 19264 (Blk.mk BKind.arr 3 1 R2)), (Prod.mk 16000080 (Blk.mk BKind.box 28 1 [[(AVal.slc 19264 R2.length)]]))]⟩))) (by kernel_rfl)
      (n_condH rfl (fun h0 => (n_condH (n_and (n_andL (verEq_rfl _) rfl) rfl) (fun h1 => (n_true (n_andL (n_andL (n_andL (verEq_rfl _) rfl) rfl) rfl) ((congrArg (fun z => loopN B12_0 m z (K12_0 k)) (by simp [E12_0] : _ = E12_0 (List.set R2 x25.toNat [(i64 (-(1 : Int)))]) x24 (wr (x25 + (1 : Int))) b0_0 b0_1 b0_2 b0_3 b0_4 b1_0 b1_1)).trans (spec12_0 k m (List.set R2 x25.toNat [(i64 (-(1 : Int)))]) x24 (wr (x25 + (1 : Int))) b0_0 b0_1 b0_2 b0_3 b0_4 b1_0 b1_1)))) fun h1 => n_none)) fun h0 => rfl)
theorem okL12_0 : LoopOk TT TU GL0 C15 ownE L12 (lp Tryd.f12 0) :=
  loopOk_of ks12_0 hs12_0 W12_0 FU (fun s k => (G_astar_ground__reach_0 (toI (cIa s.tmps 24)) FU (blkAt s.heap 2).2.rows (toI (cIa s.tmps 25))).bind (X12_0 (toI (cIa (rows0 (blkAt s.heap 0).2) 0)) (toI (cIa (rows0 (blkAt s.heap 0).2) 1)) (roRows (cIa (rows0 (blkAt s.heap 0).2) 2)) (roRows (cIa (rows0 (blkAt s.heap 0).2) 3)) (toI (cIa (rows0 (blkAt s.heap 0).2) 4)) (toI (cIa (rows0 (blkAt s.heap 1).2) 0)) (toI (cIa (rows0 (blkAt s.heap 1).2) 1)) k)) (fun s k => by kernel_rfl) (fun s k => spec12_0 k FU (blkAt s.heap 2).2.rows (toI (cIa s.tmps 24)) (toI (cIa s.tmps 25)) (toI (cIa (rows0 (blkAt s.heap 0).2) 0)) (toI (cIa (rows0 (blkAt s.heap 0).2) 1)) (roRows (cIa (rows0 (blkAt s.heap 0).2) 2)) (roRows (cIa (rows0 (blkAt s.heap 0).2) 3)) (toI (cIa (rows0 (blkAt s.heap 0).2) 4)) (toI (cIa (rows0 (blkAt s.heap 1).2) 0)) (toI (cIa (rows0 (blkAt s.heap 1).2) 1)))
@[reducible] noncomputable def B12_3 := bodyOf TT TU GL0 C15 ownE L12 (lp Tryd.f12 3)
@[reducible] noncomputable def K12_3 (k : Ex → St → Option CR) : Ex → St → Option CR := fun e s => k e (maskS (W12_3 e) s)
theorem spec12_3 (k : Ex → St → Option CR) : ∀ (m : Nat) (R1 : List (List AVal)) (R3 : List (List AVal)) (R6 : List (List AVal)) (c : Int) (x88 : Int) (b0_0 : Int) (b0_1 : Int) (b0_2 : List (List AVal)) (b0_3 : List (List AVal)) (b0_4 : Int) (b5_0 : Int) (b7_0 : Int) (b7_1 : Int), loopN B12_3 m (E12_3 R1 R3 R6 c x88 b0_0 b0_1 b0_2 b0_3 b0_4 b5_0 b7_0 b7_1) (K12_3 k) = (G_astar_ground__reach_3 c b0_0 b0_1 b0_2 b0_3 b0_4 b7_0 b7_1 m R1 R3 x88 b5_0).bind (X12_3 R6 c b0_0 b0_1 b0_2 b0_3 b0_4 k)
  | 0, _, _, _, _, _, _, _, _, _, _, _, _, _ => rfl
  | m + 1, R1, R3, R6, c, x88, b0_0, b0_1, b0_2, b0_3, b0_4, b5_0, b7_0, b7_1 =>
    Eq.trans (b := (bif (decide (x88 < (8 : Int))) then (Option.bind (F_terrain_Step b0_0 b0_1 b0_2 b0_3 b0_4 b7_0 b7_1 x88) fun t => (bif (!t.2) then (loopN B12_3 m ⟨[.dead, .dead, (AVal.ref 16000 1 0 0), .dead, .dead, (AVal.ref 16000080 1 0 0), .dead, (AVal.ref 16000112 1 0 0), (AVal.ref 16000128 1 0 0), (AVal.clo 26 [(AVal.ref 16000112 1 0 0), (AVal.ref 16000080 1 0 0), (AVal.ref 16000 1 0 0), (AVal.ref 16000128 1 0 0)]), (i64 c), .dead, (AVal.ref 16000192 1 0 0), .dead, .dead, .dead, .dead, .dead, .dead, .dead, .dead, .dead, .dead, .dead, .dead, .dead, .dead, .dead, .dead, .dead, .dead, .dead, .dead, .dead, .dead, .dead, .dead, .dead, .dead, .dead, .dead, .dead, .dead, .dead, .dead, .dead, .dead, .dead, .dead, .dead, .dead, .dead, .dead, .dead, .dead, .dead, .dead, .dead, .dead, .dead, .dead, .dead, .dead, .dead, .dead, .dead, .dead, .dead, .dead, .dead, .dead, .dead, .dead, .dead, .dead, .dead, .dead, .dead, .dead, .dead, .dead, .dead, .dead, .dead, .dead, .dead, .dead, .dead, (i64 (wr (x88 + (1 : Int)))), .dead, .dead, .dead, .dead, .dead, .dead, .dead, .dead, .dead, .dead, .dead, .dead, .dead, .dead, .dead, .dead, .dead, .dead, .dead, .dead, .dead, .dead, .dead, .dead, .dead, .dead, .dead, .dead, .dead, .dead, .dead, .dead, .dead, .dead, .dead, .dead, .dead, .dead, .dead, .dead, .dead, .dead, .dead, .dead], [(Prod.mk 16000 (Blk.mk BKind.box 43 5 [[(i64 b0_0), (i64 b0_1), (AVal.ro 3 b0_2), (AVal.ro 1 b0_3), (i64 b0_4)]])), (Prod.mk 19264 (Blk.mk BKind.arr 3 1 R1)), (Prod.mk 16000080 (Blk.mk BKind.box 28 1 [[(AVal.slc 19264 R1.length)]])), (Prod.mk 16000113 (Blk.mk (BKind.ns 0 27 2) 29 1 R3)), (Prod.mk 16000112 (Blk.mk BKind.box 57 1 [[(AVal.slc 16000113 R3.length)]])), (Prod.mk 16000128 (Blk.mk BKind.box 3 1 [[(i64 b5_0)]])), (Prod.mk 999 (Blk.mk (BKind.dfr 25 [(AVal.ref 16000128 1 0 0)]) 0 0 R6)), (Prod.mk 16000192 (Blk.mk BKind.box 27 2 [[(i64 b7_0), (i64 b7_1)]]))]⟩ (K12_3 k)) else (Option.bind (F_grid_Step b7_0 b7_1 x88) fun t1 => (Option.bind (F_grid_Index b0_0 t1.1 t1.2) fun t2 => (bif (((verEq R1.length R1.length) && (decide ((0 : Int) ≤ t2))) && (decide (t2 < (Int.ofNat R1.length)))) then (bif (verEq R1.length R1.length) then (Option.bind (R1[t2.toNat]?) fun r => (bif (chk [(LT.int IntKind.i64)] r) then (bif (decide ((cI r 0) < (0 : Int))) then (bif (((true && (verEq R3.length (blkLen [(Prod.mk 0 (Blk.mk BKind.box 57 1 [[(AVal.slc 4 R3.length)]])), (Prod.mk 1 (Blk.mk BKind.box 28 1 [[(AVal.slc 5 R1.length)]])), (Prod.mk 2 (Blk.mk BKind.box 43 5 [[(i64 b0_0), (i64 b0_1), (AVal.ro 3 b0_2), (AVal.ro 1 b0_3), (i64 b0_4)]])), (Prod.mk 3 (Blk.mk BKind.box 3 1 [[(i64 b5_0)]])), (Prod.mk 4 (Blk.mk (BKind.ns 0 27 2) 29 1 R3)), (Prod.mk 5 (Blk.mk BKind.arr 3 1 R1))] 4))) && true) && (((true && (verEq R1.length (blkLen [(Prod.mk 0 (Blk.mk BKind.box 57 1 [[(AVal.slc 4 R3.length)]])), (Prod.mk 1 (Blk.mk BKind.box 28 1 [[(AVal.slc 5 R1.length)]])), (Prod.mk 2 (Blk.mk BKind.box 43 5 [[(i64 b0_0), (i64 b0_1), (AVal.ro 3 b0_2), (AVal.ro 1 b0_3), (i64 b0_4)]])), (Prod.mk 3 (Blk.mk BKind.box 3 1 [[(i64 b5_0)]])), (Prod.mk 4 (Blk.mk (BKind.ns 0 27 2) 29 1 R3)), (Prod.mk 5 (Blk.mk BKind.arr 3 1 R1))] 5))) && true) && true)) then (Option.bind (F_astar_ground__reach_2 t1.1 t1.2 (wr (c + t.1)) R3 R1 b0_0 b0_1 b0_2 b0_3 b0_4 b5_0) fun t3 => (loopN B12_3 m ⟨[.dead, .dead, (AVal.ref 16000 1 0 0), .dead, .dead, (AVal.ref 16000080 1 0 0), .dead, (AVal.ref 16000112 1 0 0), (AVal.ref 16000128 1 0 0), (AVal.clo 26 [(AVal.ref 16000112 1 0 0), (AVal.ref 16000080 1 0 0), (AVal.ref 16000 1 0 0), (AVal.ref 16000128 1 0 0)]), (i64 c), .dead, (AVal.ref 16000192 1 0 0), .dead, .dead, .dead, .dead, .dead, .dead, .dead, .dead, .dead, .dead, .dead, .dead, .dead, .dead, .dead, .dead, .dead, .dead, .dead, .dead, .dead, .dead, .dead, .dead, .dead, .dead, .dead, .dead, .dead, .dead, .dead, .dead, .dead, .dead, .dead, .dead, .dead, .dead, .dead, .dead, .dead, .dead, .dead, .dead, .dead, .dead, .dead, .dead, .dead, .dead, .dead, .dead, .dead, .dead, .dead, .dead, .dead, .dead, .dead, .dead, .dead, .dead, .dead, .dead, .dead, .dead, .dead, .dead, .dead, .dead, .dead, .dead, .dead, .dead, .dead, (i64 (wr (x88 + (1 : Int)))), .dead, .dead, .dead, .dead, .dead, .dead, .dead, .dead, .dead, .dead, .dead, .dead, .dead, .dead, .dead, .dead, .dead, .dead, .dead, .dead, .dead, .dead, .dead, .dead, .dead, .dead, .dead, .dead, .dead, .dead, .dead, .dead, .dead, .dead, .dead, .dead, .dead, .dead, .dead, .dead, .dead, .dead, .dead, .dead], [(Prod.mk 16000 (Blk.mk BKind.box 43 5 [[(i64 b0_0), (i64 b0_1), (AVal.ro 3 b0_2), (AVal.ro 1 b0_3), (i64 b0_4)]])), (Prod.mk 19264 (Blk.mk BKind.arr 3 1 t3.2.1)), (Prod.mk 16000080 (Blk.mk BKind.box 28 1 [[(AVal.slc 19264 t3.2.1.length)]])), (Prod.mk 16000113 (Blk.mk (BKind.ns 0 27 2) 29 1 t3.1)), (Prod.mk 16000112 (Blk.mk BKind.box 57 1 [[(AVal.slc 16000113 t3.1.length)]])), (Prod.mk 16000128 (Blk.mk BKind.box 3 1 [[(i64 t3.2.2)]])), (Prod.mk 999 (Blk.mk (BKind.dfr 25 [(AVal.ref 16000128 1 0 0)]) 0 0 R6)), (Prod.mk 16000192 (Blk.mk BKind.box 27 2 [[(i64 b7_0), (i64 b7_1)]]))]⟩ (K12_3 k))) else none) else (bif (decide ((wr (c + t.1)) < (cI r 0))) then (bif (((true && (verEq R3.length (blkLen [(Prod.mk 0 (Blk.mk BKind.box 57 1 [[(AVal.slc 4 R3.length)]])), (Prod.mk 1 (Blk.mk BKind.box 28 1 [[(AVal.slc 5 R1.length)]])), (Prod.mk 2 (Blk.mk BKind.box 43 5 [[(i64 b0_0), (i64 b0_1), (AVal.ro 3 b0_2), (AVal.ro 1 b0_3), (i64 b0_4)]])), (Prod.mk 3 (Blk.mk BKind.box 3 1 [[(i64 b5_0)]])), (Prod.mk 4 (Blk.mk (BKind.ns 0 27 2) 29 1 R3)), (Prod.mk 5 (Blk.mk BKind.arr 3 1 R1))] 4))) && true) && (((true && (verEq R1.length (blkLen [(Prod.mk 0 (Blk.mk BKind.box 57 1 [[(AVal.slc 4 R3.length)]])), (Prod.mk 1 (Blk.mk BKind.box 28 1 [[(AVal.slc 5 R1.length)]])), (Prod.mk 2 (Blk.mk BKind.box 43 5 [[(i64 b0_0), (i64 b0_1), (AVal.ro 3 b0_2), (AVal.ro 1 b0_3), (i64 b0_4)]])), (Prod.mk 3 (Blk.mk BKind.box 3 1 [[(i64 b5_0)]])), (Prod.mk 4 (Blk.mk (BKind.ns 0 27 2) 29 1 R3)), (Prod.mk 5 (Blk.mk BKind.arr 3 1 R1))] 5))) && true) && true)) then (Option.bind (F_astar_ground__reach_2 t1.1 t1.2 (wr (c + t.1)) R3 R1 b0_0 b0_1 b0_2 b0_3 b0_4 b5_0) fun t4 => (loopN B12_3 m ⟨[.dead, .dead, (AVal.ref 16000 1 0 0), .dead, .dead, (AVal.ref 16000080 1 0 0), .dead, (AVal.ref 16000112 1 0 0), (AVal.ref 16000128 1 0 0), (AVal.clo 26 [(AVal.ref 16000112 1 0 0), (AVal.ref 16000080 1 0 0), (AVal.ref 16000 1 0 0), (AVal.ref 16000128 1 0 0)]), (i64 c), .dead, (AVal.ref 16000192 1 0 0), .dead, .dead, .dead, .dead, .dead, .dead, .dead, .dead, .dead, .dead, .dead, .dead, .dead, .dead, .dead, .dead, .dead, .dead, .dead, .dead, .dead, .dead, .dead, .dead, .dead, .dead, .dead, .dead, .dead, .dead, .dead, .dead, .dead, .dead, .dead, .dead, .dead, .dead, .dead, .dead, .dead, .dead, .dead, .dead, .dead, .dead, .dead, .dead, .dead, .dead, .dead, .dead, .dead, .dead, .dead, .dead, .dead, .dead, .dead, .dead, .dead, .dead, .dead, .dead, .dead, .dead, .dead, .dead, .dead, .dead, .dead, .dead, .dead, .dead, .dead, (i64 (wr (x88 + (1 : Int)))), .dead, .dead, .dead, .dead, .dead, .dead, .dead, .dead, .dead, .dead, .dead, .dead, .dead, .dead, .dead, .dead, .dead, .dead, .dead, .dead, .dead, .dead, .dead, .dead, .dead, .dead, .dead, .dead, .dead, .dead, .dead, .dead, .dead, .dead, .dead, .dead, .dead, .dead, .dead, .dead, .dead, .dead, .dead, .dead], [(Prod.mk 16000 (Blk.mk BKind.box 43 5 [[(i64 b0_0), (i64 b0_1), (AVal.ro 3 b0_2), (AVal.ro 1 b0_3), (i64 b0_4)]])), (Prod.mk 19264 (Blk.mk BKind.arr 3 1 t4.2.1)), (Prod.mk 16000080 (Blk.mk BKind.box 28 1 [[(AVal.slc 19264 t4.2.1.length)]])), (Prod.mk 16000113 (Blk.mk (BKind.ns 0 27 2) 29 1 t4.1)), (Prod.mk 16000112 (Blk.mk BKind.box 57 1 [[(AVal.slc 16000113 t4.1.length)]])), (Prod.mk 16000128 (Blk.mk BKind.box 3 1 [[(i64 t4.2.2)]])), (Prod.mk 999 (Blk.mk (BKind.dfr 25 [(AVal.ref 16000128 1 0 0)]) 0 0 R6)), (Prod.mk 16000192 (Blk.mk BKind.box 27 2 [[(i64 b7_0), (i64 b7_1)]]))]⟩ (K12_3 k))) else none) else (loopN B12_3 m ⟨[.dead, .dead, (AVal.ref 16000 1 0 0), .dead, .dead, (AVal.ref 16000080 1 0 0), .dead, (AVal.ref 16000112 1 0 0), (AVal.ref 16000128 1 0 0), (AVal.clo 26 [(AVal.ref 16000112 1 0 0), (AVal.ref 16000080 1 0 0), (AVal.ref 16000 1 0 0), (AVal.ref 16000128 1 0 0)]), (i64 c), .dead, (AVal.ref 16000192 1 0 0), .dead, .dead, .dead, .dead, .dead, .dead, .dead, .dead, .dead, .dead, .dead, .dead, .dead, .dead, .dead, .dead, .dead, .dead, .dead, .dead, .dead, .dead, .dead, .dead, .dead, .dead, .dead, .dead, .dead, .dead, .dead, .dead, .dead, .dead, .dead, .dead, .dead, .dead, .dead, .dead, .dead, .dead, .dead, .dead, .dead, .dead, .dead, .dead, .dead, .dead, .dead, .dead, .dead, .dead, .dead, .dead, .dead, .dead, .dead, .dead, .dead, .dead, .dead, .dead, .dead, .dead, .dead, .dead, .dead, .dead, .dead, .dead, .dead, .dead, .dead, (i64 (wr (x88 + (1 : Int)))), .dead, .dead, .dead, .dead, .dead, .dead, .dead, .dead, .dead, .dead, .dead, .dead, .dead, .dead, .dead, .dead, .dead, .dead, .dead, .dead, .dead, .dead, .dead, .dead, .dead, .dead, .dead, .dead, .dead, .dead, .dead, .dead, .dead, .dead, .dead, .dead, .dead, .dead, .dead, .dead, .dead, .dead, .dead, .dead], [(Prod.mk 16000 (Blk.mk BKind.box 43 5 [[(i64 b0_0), (i64 b0_1), (AVal.ro 3 b0_2), (AVal.ro 1 b0_3), (i64 b0_4)]])), (Prod.mk 19264 (Blk.mk BKind.arr 3 1 R1)), (Prod.mk 16000080 (Blk.mk BKind.box 28 1 [[(AVal.slc 19264 R1.length)]])), (Prod.mk 16000113 (Blk.mk (BKind.ns 0 27 2) 29 1 R3)), (Prod.mk 16000112 (Blk.mk BKind.box 57 1 [[(AVal.slc 16000113 R3.length)]])), (Prod.mk 16000128 (Blk.mk BKind.box 3 1 [[(i64 b5_0)]])), (Prod.mk 999 (Blk.mk (BKind.dfr 25 [(AVal.ref 16000128 1 0 0)]) 0 0 R6)), (Prod.mk 16000192 (Blk.mk BKind.box 27 2 [[(i64 b7_0), (i64 b7_1)]]))]⟩ (K12_3 k)))) else none)) else none) else none))))) else (k (.exit 6) ⟨[.dead, .dead, (AVal.ref 16000 1 0 0), .dead, .dead, (AVal.ref 16000080 1 0 0), .dead, (AVal.ref 16000112 1 0 0), (AVal.ref 16000128 1 0 0), (AVal.clo 26 [(AVal.ref 16000112 1 0 0), (AVal.ref 16000080 1 0 0), (AVal.ref 16000 1 0 0), (AVal.ref 16000128 1 0 0)]), (i64 c), .dead, .dead, .dead, .dead, .dead, .dead, .dead, .dead, .dead, .dead, .dead, .dead, .dead, .dead, .dead, .dead, .dead, .dead, .dead, .dead, .dead, .dead, .dead, .dead, .dead, .dead, .dead, .dead, .dead, .dead, .dead, .dead, .dead, .dead, .dead, .dead, .dead, .dead, .dead, .dead, .dead, .dead, .dead, .dead, .dead, .dead, .dead, .dead, .dead, .dead, .dead, .dead, .dead, .dead, .dead, .dead, .dead, .dead, .dead, .dead, .dead, .dead, .dead, .dead, .dead, .dead, .dead, .dead, .dead, .dead, .dead, .dead, .dead, .dead, .dead, .dead, .dead, .dead, .dead, .dead, .dead, .dead, .dead, .dead, .dead, .dead, .dead, .dead, .dead, .dead, .dead, .dead, .dead, .dead, .dead, .dead, .dead, .dead, .dead, .dead, .dead, .dead, .dead, .dead, .dead, .dead, .dead, .dead, .dead, .dead, .dead, .dead, .dead, .dead, .dead, .dead, .dead, .dead, .dead, .dead, .dead, .dead], [(Prod.mk 16000 (Blk.mk BKind.box 43 5 [[(i64 b0_0), (i64 b0_1), (AVal.ro 3 b0_2), (AVal.ro 1 b0_3), (i64 b0_4)]])), (Prod.mk 19264 (Blk.mk BKind.arr 3 1 R1)), (Prod.mk 16000080 (Blk.mk BKind.box 28 1 [[(AVal.slc 19264 R1.length)]])), (Prod.mk 16000113 (Blk.mk (BKind.ns 0 27 2) 29 1 R3)), (Prod.mk 16000112 (Blk.mk BKind.box 57 1 [[(AVal.slc 16000113 R3.length)]])), (Prod.mk 16000128 (Blk.mk BKind.box 3 1 [[(i64 b5_0)]])), (Prod.mk 999 (Blk.mk (BKind.dfr 25 [(AVal.ref 16000128 1 0 0)]) 0 0 R6))]⟩))) (by kernel_rfl)
      (n_condH rfl (fun h0 => (n_bind fun t => (n_condH rfl (fun h1 => (spec12_3 k m R1 R3 R6 c (wr (x88 + (1 : Int))) b0_0 b0_1 b0_2 b0_3 b0_4 b5_0 b7_0 b7_1)) fun h1 => (n_bind fun t1 => (n_bind fun t2 => (n_condH (n_and (n_andL (verEq_rfl _) rfl) rfl) (fun h2 => (n_true (verEq_rfl _) (n_bind fun r => (n_condH rfl (fun h3 => (n_condH rfl (fun h4 => (n_true (n_andL (n_andL (n_andL rfl (by first | exact verEq_of rfl | simp [verEq, blkLen, blkAt])) rfl) (n_andL (n_andL (n_andL rfl (by first | exact verEq_of rfl | simp [verEq, blkLen, blkAt])) rfl) rfl)) (n_bind fun t3 => (spec12_3 k m t3.2.1 t3.1 R6 c (wr (x88 + (1 : Int))) b0_0 b0_1 b0_2 b0_3 b0_4 t3.2.2 b7_0 b7_1)))) fun h4 => (n_condH rfl (fun h5 => (n_true (n_andL (n_andL (n_andL rfl (by first | exact verEq_of rfl | simp [verEq, blkLen, blkAt])) rfl) (n_andL (n_andL (n_andL rfl (by first | exact verEq_of rfl | simp [verEq, blkLen, blkAt])) rfl) rfl)) (n_bind fun t4 => (spec12_3 k m t4.2.1 t4.1 R6 c (wr (x88 + (1 : Int))) b0_0 b0_1 b0_2 b0_3 b0_4 t4.2.2 b7_0 b7_1)))) fun h5 => (spec12_3 k m R1 R3 R6 c (wr (x88 + (1 : Int))) b0_0 b0_1 b0_2 b0_3 b0_4 b5_0 b7_0 b7_1)))) fun h3 => n_none)))) fun h2 => n_none)))))) fun h0 => rfl)
theorem okL12_3 : LoopOk TT TU GL0 C15 ownE L12 (lp Tryd.f12 3) :=
  loopOk_of ks12_3 hs12_3 W12_3 FU (fun s k => (G_astar_ground__reach_3 (toI (cIa s.tmps 10)) (toI (cIa (rows0 (blkAt s.heap 0).2) 0)) (toI (cIa (rows0 (blkAt s.heap 0).2) 1)) (roRows (cIa (rows0 (blkAt s.heap 0).2) 2)) (roRows (cIa (rows0 (blkAt s.heap 0).2) 3)) (toI (cIa (rows0 (blkAt s.heap 0).2) 4)) (toI (cIa (rows0 (blkAt s.heap 7).2) 0)) (toI (cIa (rows0 (blkAt s.heap 7).2) 1)) FU (blkAt s.heap 1).2.rows (blkAt s.heap 3).2.rows (toI (cIa s.tmps 88)) (toI (cIa (rows0 (blkAt s.heap 5).2) 0))).bind (X12_3 (blkAt s.heap 6).2.rows (toI (cIa s.tmps 10)) (toI (cIa (rows0 (blkAt s.heap 0).2) 0)) (toI (cIa (rows0 (blkAt s.heap 0).2) 1)) (roRows (cIa (rows0 (blkAt s.heap 0).2) 2)) (roRows (cIa (rows0 (blkAt s.heap 0).2) 3)) (toI (cIa (rows0 (blkAt s.heap 0).2) 4)) k)) (fun s k => by kernel_rfl) (fun s k => spec12_3 k FU (blkAt s.heap 1).2.rows (blkAt s.heap 3).2.rows (blkAt s.heap 6).2.rows (toI (cIa s.tmps 10)) (toI (cIa s.tmps 88)) (toI (cIa (rows0 (blkAt s.heap 0).2) 0)) (toI (cIa (rows0 (blkAt s.heap 0).2) 1)) (roRows (cIa (rows0 (blkAt s.heap 0).2) 2)) (roRows (cIa (rows0 (blkAt s.heap 0).2) 3)) (toI (cIa (rows0 (blkAt s.heap 0).2) 4)) (toI (cIa (rows0 (blkAt s.heap 5).2) 0)) (toI (cIa (rows0 (blkAt s.heap 7).2) 0)) (toI (cIa (rows0 (blkAt s.heap 7).2) 1)))
@[reducible] noncomputable def B12_2 := bodyOf TT TU GL0 C15 ownE L12 (lp Tryd.f12 2)
@[reducible] noncomputable def K12_2 (k : Ex → St → Option CR) : Ex → St → Option CR := fun e s => k e (maskS (W12_2 e) s)
theorem spec12_2 (k : Ex → St → Option CR) : ∀ (m : Nat) (R1 : List (List AVal)) (R3 : List (List AVal)) (R6 : List (List AVal)) (c : Int) (b0_0 : Int) (b0_1 : Int) (b0_2 : List (List AVal)) (b0_3 : List (List AVal)) (b0_4 : Int) (b5_0 : Int), loopN B12_2 m (E12_2 R1 R3 R6 c b0_0 b0_1 b0_2 b0_3 b0_4 b5_0) (K12_2 k) = (G_astar_ground__reach_2 c b0_0 b0_1 b0_2 b0_3 b0_4 m R1 R3 b5_0).bind (X12_2 R6 c b0_0 b0_1 b0_2 b0_3 b0_4 k)
  | 0, _, _, _, _, _, _, _, _, _, _ => rfl
  | m + 1, R1, R3, R6, c, b0_0, b0_1, b0_2, b0_3, b0_4, b5_0 =>
    Eq.trans (b := (bif (((verEq R3.length R3.length) && (decide ((0 : Int) ≤ c))) && (decide (c < (Int.ofNat R3.length)))) then (bif (verEq R3.length R3.length) then (bif (verEq R3.length R3.length) then (Option.bind (R3[c.toNat]?) fun r => (bif (chk [(LT.sl 27 2)] r) then (bif (decide ((Int.ofNat (cR r 0).length) > (0 : Int))) then (bif (((verEq R3.length R3.length) && (decide ((0 : Int) ≤ c))) && (decide (c < (Int.ofNat R3.length)))) then (bif (verEq R3.length R3.length) then (bif (verEq R3.length R3.length) then (Option.bind (R3[c.toNat]?) fun r1 => (bif (chk [(LT.sl 27 2)] r1) then (bif (((verEq R3.length R3.length) && (decide ((0 : Int) ≤ c))) && (decide (c < (Int.ofNat R3.length)))) then (bif (verEq R3.length R3.length) then (bif (verEq R3.length R3.length) then (Option.bind (R3[c.toNat]?) fun r2 => (bif (chk [(LT.sl 27 2)] r2) then (bif ((decide ((0 : Int) ≤ (wr ((Int.ofNat (cR r1 0).length) - (1 : Int))))) && (decide ((wr ((Int.ofNat (cR r1 0).length) - (1 : Int))) < (Int.ofNat (cR r2 0).length)))) then (bif (verEq R3.length R3.length) then (Option.bind (R3[c.toNat]?) fun r3 => (bif (chk [(LT.sl 27 2)] r3) then (Option.bind ((cR r3 0)[(wr ((Int.ofNat (cR r1 0).length) - (1 : Int))).toNat]?) fun r4 => (bif (chk [(LT.int IntKind.i64), (LT.int IntKind.i64)] r4) then (bif (((verEq R3.length R3.length) && (decide ((0 : Int) ≤ c))) && (decide (c < (Int.ofNat R3.length)))) then (bif (verEq R3.length R3.length) then (bif (verEq R3.length R3.length) then (Option.bind (R3[c.toNat]?) fun r5 => (bif (chk [(LT.sl 27 2)] r5) then (bif (((decide ((0 : Int) ≤ (0 : Int))) && (decide ((0 : Int) ≤ (wr ((Int.ofNat (cR r1 0).length) - (1 : Int)))))) && (decide ((wr ((Int.ofNat (cR r1 0).length) - (1 : Int))) ≤ (Int.ofNat (cR r5 0).length)))) then (bif (((verEq (Blk.rows (Blk.mk (BKind.ns 1 27 2) 29 1 (List.set R3 c.toNat [(AVal.ro 2 (List.drop (0 : Int).toNat (List.take (wr ((Int.ofNat (cR r1 0).length) - (1 : Int))).toNat (cR r5 0))))]))).length R3.length) && (decide ((0 : Int) ≤ c))) && (decide (c < (Int.ofNat (Blk.rows (Blk.mk (BKind.ns 1 27 2) 29 1 (List.set R3 c.toNat [(AVal.ro 2 (List.drop (0 : Int).toNat (List.take (wr ((Int.ofNat (cR r1 0).length) - (1 : Int))).toNat (cR r5 0))))]))).length)))) then (bif (((verEq (Blk.rows (Blk.mk (BKind.ns 1 27 2) 29 1 (List.set R3 c.toNat [(AVal.ro 2 (List.drop (0 : Int).toNat (List.take (wr ((Int.ofNat (cR r1 0).length) - (1 : Int))).toNat (cR r5 0))))]))).length R3.length) && (verEq (Blk.rows (Blk.mk (BKind.ns 1 27 2) 29 1 (List.set R3 c.toNat [(AVal.ro 2 (List.drop (0 : Int).toNat (List.take (wr ((Int.ofNat (cR r1 0).length) - (1 : Int))).toNat (cR r5 0))))]))).length R3.length)) && (Nat.beq c.toNat c.toNat)) then (Option.bind (F_grid_Index b0_0 (cI r4 0) (cI r4 1)) fun t => (bif (((verEq R1.length R1.length) && (decide ((0 : Int) ≤ t))) && (decide (t < (Int.ofNat R1.length)))) then (bif (verEq R1.length R1.length) then (Option.bind (R1[t.toNat]?) fun r6 => (bif (chk [(LT.int IntKind.i64)] r6) then (bif ((cI r6 0) != c) then (loopN B12_2 m ⟨[.dead, .dead, (AVal.ref 16000 1 0 0), .dead, .dead, (AVal.ref 16000080 1 0 0), .dead, (AVal.ref 16000112 1 0 0), (AVal.ref 16000128 1 0 0), (AVal.clo 26 [(AVal.ref 16000112 1 0 0), (AVal.ref 16000080 1 0 0), (AVal.ref 16000 1 0 0), (AVal.ref 16000128 1 0 0)]), (i64 c), .dead, .dead, .dead, .dead, .dead, .dead, .dead, .dead, .dead, .dead, .dead, .dead, .dead, .dead, .dead, .dead, .dead, .dead, .dead, .dead, .dead, .dead, .dead, .dead, .dead, .dead, .dead, .dead, .dead, .dead, .dead, .dead, .dead, .dead, .dead, .dead, .dead, .dead, .dead, .dead, .dead, .dead, .dead, .dead, .dead, .dead, .dead, .dead, .dead, .dead, .dead, .dead, .dead, .dead, .dead, .dead, .dead, .dead, .dead, .dead, .dead, .dead, .dead, .dead, .dead, .dead, .dead, .dead, .dead, .dead, .dead, .dead, .dead, .dead, .dead, .dead, .dead, .dead, .dead, .dead, .dead, .dead, .dead, .dead, .dead, .dead, .dead, .dead, .dead, .dead, .dead, .dead, .dead, .dead, .dead, .dead, .dead, .dead, .dead, .dead, .dead, .dead, .dead, .dead, .dead, .dead, .dead, .dead, .dead, .dead, .dead, .dead, .dead, .dead, .dead, .dead, .dead, .dead, .dead, .dead, .dead, .dead], [(Prod.mk 16000 (Blk.mk BKind.box 43 5 [[(i64 b0_0), (i64 b0_1), (AVal.ro 3 b0_2), (AVal.ro 1 b0_3), (i64 b0_4)]])), (Prod.mk 19264 (Blk.mk BKind.arr 3 1 R1)), (Prod.mk 16000080 (Blk.mk BKind.box 28 1 [[(AVal.slc 19264 R1.length)]])), (Prod.mk 16000113 (Blk.mk (BKind.ns 0 27 2) 29 1 (Blk.rows (Blk.mk (BKind.ns 0 27 2) 29 1 (Blk.rows (Blk.mk (BKind.ns 0 27 2) 29 1 (Blk.rows (Blk.mk (BKind.ns 2 27 2) 29 1 (Blk.rows (Blk.mk (BKind.ns 1 27 2) 29 1 (List.set R3 c.toNat [(AVal.ro 2 (List.drop (0 : Int).toNat (List.take (wr ((Int.ofNat (cR r1 0).length) - (1 : Int))).toNat (cR r5 0))))]))))))))))), (Prod.mk 16000112 (Blk.mk BKind.box 57 1 [[(AVal.slc 16000113 R3.length)]])), (Prod.mk 16000128 (Blk.mk BKind.box 3 1 [[(i64 (wr (b5_0 - (1 : Int))))]])), (Prod.mk 999 (Blk.mk (BKind.dfr 25 [(AVal.ref 16000128 1 0 0)]) 0 0 R6))]⟩ (K12_2 k)) else (bif (((true && (verEq R1.length (blkLen [(Prod.mk 16000 (Blk.mk BKind.box 43 5 [[(i64 b0_0), (i64 b0_1), (AVal.ro 3 b0_2), (AVal.ro 1 b0_3), (i64 b0_4)]])), (Prod.mk 19264 (Blk.mk BKind.arr 3 1 R1)), (Prod.mk 16000080 (Blk.mk BKind.box 28 1 [[(AVal.slc 19264 R1.length)]])), (Prod.mk 16000113 (Blk.mk (BKind.ns 0 27 2) 29 1 (Blk.rows (Blk.mk (BKind.ns 0 27 2) 29 1 (Blk.rows (Blk.mk (BKind.ns 0 27 2) 29 1 (Blk.rows (Blk.mk (BKind.ns 0 27 2) 29 1 (Blk.rows (Blk.mk (BKind.ns 2 27 2) 29 1 (Blk.rows (Blk.mk (BKind.ns 1 27 2) 29 1 (List.set R3 c.toNat [(AVal.ro 2 (List.drop (0 : Int).toNat (List.take (wr ((Int.ofNat (cR r1 0).length) - (1 : Int))).toNat (cR r5 0))))]))))))))))))), (Prod.mk 16000112 (Blk.mk BKind.box 57 1 [[(AVal.slc 16000113 R3.length)]])), (Prod.mk 16000128 (Blk.mk BKind.box 3 1 [[(i64 (wr (b5_0 - (1 : Int))))]])), (Prod.mk 999 (Blk.mk (BKind.dfr 25 [(AVal.ref 16000128 1 0 0)]) 0 0 R6)), (Prod.mk 16000192 (Blk.mk BKind.box 27 2 [[(i64 (cI r4 0)), (i64 (cI r4 1))]]))] 1))) && true) && (((true && (verEq R3.length (blkLen [(Prod.mk 16000 (Blk.mk BKind.box 43 5 [[(i64 b0_0), (i64 b0_1), (AVal.ro 3 b0_2), (AVal.ro 1 b0_3), (i64 b0_4)]])), (Prod.mk 19264 (Blk.mk BKind.arr 3 1 R1)), (Prod.mk 16000080 (Blk.mk BKind.box 28 1 [[(AVal.slc 19264 R1.length)]])), (Prod.mk 16000113 (Blk.mk (BKind.ns 0 27 2) 29 1 (Blk.rows (Blk.mk (BKind.ns 0 27 2) 29 1 (Blk.rows (Blk.mk (BKind.ns 0 27 2) 29 1 (Blk.rows (Blk.mk (BKind.ns 0 27 2) 29 1 (Blk.rows (Blk.mk (BKind.ns 2 27 2) 29 1 (Blk.rows (Blk.mk (BKind.ns 1 27 2) 29 1 (List.set R3 c.toNat [(AVal.ro 2 (List.drop (0 : Int).toNat (List.take (wr ((Int.ofNat (cR r1 0).length) - (1 : Int))).toNat (cR r5 0))))]))))))))))))), (Prod.mk 16000112 (Blk.mk BKind.box 57 1 [[(AVal.slc 16000113 R3.length)]])), (Prod.mk 16000128 (Blk.mk BKind.box 3 1 [[(i64 (wr (b5_0 - (1 : Int))))]])), (Prod.mk 999 (Blk.mk (BKind.dfr 25 [(AVal.ref 16000128 1 0 0)]) 0 0 R6)), (Prod.mk 16000192 (Blk.mk BKind.box 27 2 [[(i64 (cI r4 0)), (i64 (cI r4 1))]]))] 3))) && true) && true)) then (Option.bind (G_astar_ground__reach_3 c b0_0 b0_1 b0_2 b0_3 b0_4 (cI r4 0) (cI r4 1) FU R1 (Blk.rows (Blk.mk (BKind.ns 0 27 2) 29 1 (Blk.rows (Blk.mk (BKind.ns 0 27 2) 29 1 (Blk.rows (Blk.mk (BKind.ns 0 27 2) 29 1 (Blk.rows (Blk.mk (BKind.ns 0 27 2) 29 1 (Blk.rows (Blk.mk (BKind.ns 2 27 2) 29 1 (Blk.rows (Blk.mk (BKind.ns 1 27 2) 29 1 (List.set R3 c.toNat [(AVal.ro 2 (List.drop (0 : Int).toNat (List.take (wr ((Int.ofNat (cR r1 0).length) - (1 : Int))).toNat (cR r5 0))))]))))))))))))) (0 : Int) (wr (b5_0 - (1 : Int)))) fun t1 => (loopN B12_2 m ⟨[.dead, .dead, (AVal.ref 16000 1 0 0), .dead, .dead, (AVal.ref 16000080 1 0 0), .dead, (AVal.ref 16000112 1 0 0), (AVal.ref 16000128 1 0 0), (AVal.clo 26 [(AVal.ref 16000112 1 0 0), (AVal.ref 16000080 1 0 0), (AVal.ref 16000 1 0 0), (AVal.ref 16000128 1 0 0)]), (i64 c), .dead, .dead, .dead, .dead, .dead, .dead, .dead, .dead, .dead, .dead, .dead, .dead, .dead, .dead, .dead, .dead, .dead, .dead, .dead, .dead, .dead, .dead, .dead, .dead, .dead, .dead, .dead, .dead, .dead, .dead, .dead, .dead, .dead, .dead, .dead, .dead, .dead, .dead, .dead, .dead, .dead, .dead, .dead, .dead, .dead, .dead, .dead, .dead, .dead, .dead, .dead, .dead, .dead, .dead, .dead, .dead, .dead, .dead, .dead, .dead, .dead, .dead, .dead, .dead, .dead, .dead, .dead, .dead, .dead, .dead, .dead, .dead, .dead, .dead, .dead, .dead, .dead, .dead, .dead, .dead, .dead, .dead, .dead, .dead, .dead, .dead, .dead, .dead, .dead, .dead, .dead, .dead, .dead, .dead, .dead, .dead, .dead, .dead, .dead, .dead, .dead, .dead, .dead, .dead, .dead, .dead, .dead, .dead, .dead, .dead, .dead, .dead, .dead, .dead, .dead, .dead, .dead, .dead, .dead, .dead, .dead, .dead], [(Prod.mk 16000 (Blk.mk BKind.box 43 5 [[(i64 b0_0), (i64 b0_1), (AVal.ro 3 b0_2), (AVal.ro 1 b0_3), (i64 b0_4)]])), (Prod.mk 19264 (Blk.mk BKind.arr 3 1 t1.1)), (Prod.mk 16000080 (Blk.mk BKind.box 28 1 [[(AVal.slc 19264 t1.1.length)]])), (Prod.mk 16000113 (Blk.mk (BKind.ns 0 27 2) 29 1 t1.2.1)), (Prod.mk 16000112 (Blk.mk BKind.box 57 1 [[(AVal.slc 16000113 t1.2.1.length)]])), (Prod.mk 16000128 (Blk.mk BKind.box 3 1 [[(i64 t1.2.2)]])), (Prod.mk 999 (Blk.mk (BKind.dfr 25 [(AVal.ref 16000128 1 0 0)]) 0 0 R6))]⟩ (K12_2 k))) else none)) else none)) else none) else none)) else none) else none) else none) else none)) else none) else none) else none) else none)) else none)) else none) else none) else none)) else none) else none) else none) else none)) else none) else none) else none) else (k (.exit 4) ⟨[.dead, .dead, (AVal.ref 16000 1 0 0), .dead, .dead, (AVal.ref 16000080 1 0 0), .dead, (AVal.ref 16000112 1 0 0), (AVal.ref 16000128 1 0 0), (AVal.clo 26 [(AVal.ref 16000112 1 0 0), (AVal.ref 16000080 1 0 0), (AVal.ref 16000 1 0 0), (AVal.ref 16000128 1 0 0)]), (i64 c), .dead, .dead, .dead, .dead, .dead, .dead, .dead, .dead, .dead, .dead, .dead, .dead, .dead, .dead, .dead, .dead, .dead, .dead, .dead, .dead, .dead, .dead, .dead, .dead, .dead, .dead, .dead, .dead, .dead, .dead, .dead, .dead, .dead, .dead, .dead, .dead, .dead, .dead, .dead, .dead, .dead, .dead, .dead, .dead, .dead, .dead, .dead, .dead, .dead, .dead, .dead, .dead, .dead, .dead, .dead, .dead, .dead, .dead, .dead, .dead, .dead, .dead, .dead, .dead, .dead, .dead, .dead, .dead, .dead, .dead, .dead, .dead, .dead, .dead, .dead, .dead, .dead, .dead, .dead, .dead, .dead, .dead, .dead, .dead, .dead, .dead, .dead, .dead, .dead, .dead, .dead, .dead, .dead, .dead, .dead, .dead, .dead, .dead, .dead, .dead, .dead, .dead, .dead, .dead, .dead, .dead, .dead, .dead, .dead, .dead, .dead, .dead, .dead, .dead, .dead, .dead, .dead, .dead, .dead, .dead, .dead, .dead], [(Prod.mk 16000 (Blk.mk BKind.box 43 5 [[(i64 b0_0), (i64 b0_1), (AVal.ro 3 b0_2), (AVal.ro 1 b0_3), (i64 b0_4)]])), (Prod.mk 19264 (Blk.mk BKind.arr 3 1 R1)), (Prod.mk 16000080 (Blk.mk BKind.box 28 1 [[(AVal.slc 19264 R1.length)]])), (Prod.mk 16000113 (Blk.mk (BKind.ns 0 27 2) 29 1 R3)), (Prod.mk 16000112 (Blk.mk BKind.box 57 1 [[(AVal.slc 16000113 R3.length)]])), (Prod.mk 16000128 (Blk.mk BKind.box 3 1 [[(i64 b5_0)]])), (Prod.mk 999 (Blk.mk (BKind.dfr 25 [(AVal.ref 16000128 1 0 0)]) 0 0 R6))]⟩)) else none)) else none) else none) else none)) (by kernel_rfl)
      (n_condH (n_and (n_andL (verEq_rfl _) rfl) rfl) (fun h0 => (n_true (verEq_rfl _) (n_true (verEq_rfl _) (n_bind fun r => (n_condH rfl (fun h1 => (n_condH rfl (fun h2 => (n_true (n_andL (n_andL (verEq_rfl _) (n_al h0)) (n_ar h0)) (n_true (verEq_rfl _) (n_true (verEq_rfl _) (n_bind fun r1 => (n_condH rfl (fun h3 => (n_true (n_andL (n_andL (verEq_rfl _) (n_al h0)) (n_ar h0)) (n_true (verEq_rfl _) (n_true (verEq_rfl _) (n_bind fun r2 => (n_condH rfl (fun h4 => (n_condH rfl (fun h5 => (n_true (verEq_rfl _) (n_bind fun r3 => (n_condH rfl (fun h6 => (n_bind fun r4 => (n_condH rfl (fun h7 => (n_true (n_andL (n_andL (verEq_rfl _) (n_al h0)) (n_ar h0)) (n_true (verEq_rfl _) (n_true (verEq_rfl _) (n_bind fun r5 => (n_condH rfl (fun h8 => (n_condH (n_andL (n_andL (by kernel_rfl) (n_al h5)) rfl) (fun h9 => (n_condH (n_andL (n_andL (by first | exact verEq_of rfl | simp [verEq, blkLen, blkAt]) (n_al h0)) rfl) (fun h10 => (n_condH (n_andL (n_andL (by first | exact verEq_of rfl | simp [verEq, blkLen, blkAt]) (by first | exact verEq_of rfl | simp [verEq, blkLen, blkAt])) rfl) (fun h11 => (n_bind fun t => (n_condH (n_and (n_andL (verEq_rfl _) rfl) rfl) (fun h12 => (n_true (verEq_rfl _) (n_bind fun r6 => (n_condH rfl (fun h13 => (n_condH rfl (fun h14 => ((congrArg (fun z => loopN B12_2 m z (K12_2 k)) (by simp [E12_2] : _ = E12_2 R1 (Blk.rows (Blk.mk (BKind.ns 0 27 2) 29 1 (Blk.rows (Blk.mk (BKind.ns 0 27 2) 29 1 (Blk.rows (Blk.mk (BKind.ns 2 27 2) 29 1 (Blk.rows (Blk.mk (BKind.ns 1 27 2) 29 1 (List.set R3 c.toNat [(AVal.ro 2 (List.drop (0 : Int).toNat (List.take (wr ((Int.ofNat (cR r1 0).length) - (1 : Int))).toNat (cR r5 0))))]))))))))) R6 c b0_0 b0_1 b0_2 b0_3 b0_4 (wr (b5_0 - (1 : Int))))).trans (spec12_2 k m R1 (Blk.rows (Blk.mk (BKind.ns 0 27 2) 29 1 (Blk.rows (Blk.mk (BKind.ns 0 27 2) 29 1 (Blk.rows (Blk.mk (BKind.ns 2 27 2) 29 1 (Blk.rows (Blk.mk (BKind.ns 1 27 2) 29 1 (List.set R3 c.toNat [(AVal.ro 2 (List.drop (0 : Int).toNat (List.take (wr ((Int.ofNat (cR r1 0).length) - (1 : Int))).toNat (cR r5 0))))]))))))))) R6 c b0_0 b0_1 b0_2 b0_3 b0_4 (wr (b5_0 - (1 : Int)))))) fun h14 => (n_true (n_andL (n_andL (n_andL rfl (by first | exact verEq_of rfl | simp [verEq, blkLen, blkAt])) rfl) (n_andL (n_andL (n_andL rfl (by first | exact verEq_of rfl | simp [verEq, blkLen, blkAt])) rfl) rfl)) (n_bind fun t1 => (spec12_2 k m t1.1 t1.2.1 R6 c b0_0 b0_1 b0_2 b0_3 b0_4 t1.2.2))))) fun h13 => n_none)))) fun h12 => n_none))) fun h11 => n_none)) fun h10 => n_none)) fun h9 => n_none)) fun h8 => n_none)))))) fun h7 => n_none))) fun h6 => n_none)))) fun h5 => n_none)) fun h4 => n_none)))))) fun h3 => n_none)))))) fun h2 => rfl)) fun h1 => n_none))))) fun h0 => n_none)
theorem okL12_2 : LoopOk TT TU GL0 C15 ownE L12 (lp Tryd.f12 2) :=
  loopOk_of ks12_2 hs12_2 W12_2 FU (fun s k => (G_astar_ground__reach_2 (toI (cIa s.tmps 10)) (toI (cIa (rows0 (blkAt s.heap 0).2) 0)) (toI (cIa (rows0 (blkAt s.heap 0).2) 1)) (roRows (cIa (rows0 (blkAt s.heap 0).2) 2)) (roRows (cIa (rows0 (blkAt s.heap 0).2) 3)) (toI (cIa (rows0 (blkAt s.heap 0).2) 4)) FU (blkAt s.heap 1).2.rows (blkAt s.heap 3).2.rows (toI (cIa (rows0 (blkAt s.heap 5).2) 0))).bind (X12_2 (blkAt s.heap 6).2.rows (toI (cIa s.tmps 10)) (toI (cIa (rows0 (blkAt s.heap 0).2) 0)) (toI (cIa (rows0 (blkAt s.heap 0).2) 1)) (roRows (cIa (rows0 (blkAt s.heap 0).2) 2)) (roRows (cIa (rows0 (blkAt s.heap 0).2) 3)) (toI (cIa (rows0 (blkAt s.heap 0).2) 4)) k)) (fun s k => by kernel_rfl) (fun s k => spec12_2 k FU (blkAt s.heap 1).2.rows (blkAt s.heap 3).2.rows (blkAt s.heap 6).2.rows (toI (cIa s.tmps 10)) (toI (cIa (rows0 (blkAt s.heap 0).2) 0)) (toI (cIa (rows0 (blkAt s.heap 0).2) 1)) (roRows (cIa (rows0 (blkAt s.heap 0).2) 2)) (roRows (cIa (rows0 (blkAt s.heap 0).2) 3)) (toI (cIa (rows0 (blkAt s.heap 0).2) 4)) (toI (cIa (rows0 (blkAt s.heap 5).2) 0)))
@[reducible] noncomputable def B12_1 := bodyOf TT TU GL0 C15 ownE L12 (lp Tryd.f12 1)
@[reducible] noncomputable def K12_1 (k : Ex → St → Option CR) : Ex → St → Option CR := fun e s => k e (maskS (W12_1 e) s)
theorem spec12_1 (k : Ex → St → Option CR) : ∀ (m : Nat) (R1 : List (List AVal)) (R3 : List (List AVal)) (R6 : List (List AVal)) (c : Int) (b0_0 : Int) (b0_1 : Int) (b0_2 : List (List AVal)) (b0_3 : List (List AVal)) (b0_4 : Int) (b5_0 : Int), loopN B12_1 m (E12_1 R1 R3 R6 c b0_0 b0_1 b0_2 b0_3 b0_4 b5_0) (K12_1 k) = (G_astar_ground__reach_1 b0_0 b0_1 b0_2 b0_3 b0_4 m R1 R3 c b5_0).bind (X12_1 R6 b0_0 b0_1 b0_2 b0_3 b0_4 k)
  | 0, _, _, _, _, _, _, _, _, _, _ => rfl
  | m + 1, R1, R3, R6, c, b0_0, b0_1, b0_2, b0_3, b0_4, b5_0 =>
    Eq.trans (b := (bif (verEq R3.length R3.length) then (bif (decide (c < (Int.ofNat R3.length))) then (bif (((true && (verEq R1.length (blkLen [(Prod.mk 16000 (Blk.mk BKind.box 43 5 [[(i64 b0_0), (i64 b0_1), (AVal.ro 3 b0_2), (AVal.ro 1 b0_3), (i64 b0_4)]])), (Prod.mk 19264 (Blk.mk BKind.arr 3 1 R1)), (Prod.mk 16000080 (Blk.mk BKind.box 28 1 [[(AVal.slc 19264 R1.length)]])), (Prod.mk 16000113 (Blk.mk (BKind.ns 0 27 2) 29 1 R3)), (Prod.mk 16000112 (Blk.mk BKind.box 57 1 [[(AVal.slc 16000113 R3.length)]])), (Prod.mk 16000128 (Blk.mk BKind.box 3 1 [[(i64 b5_0)]])), (Prod.mk 999 (Blk.mk (BKind.dfr 25 [(AVal.ref 16000128 1 0 0)]) 0 0 R6))] 1))) && true) && (((true && (verEq R3.length (blkLen [(Prod.mk 16000 (Blk.mk BKind.box 43 5 [[(i64 b0_0), (i64 b0_1), (AVal.ro 3 b0_2), (AVal.ro 1 b0_3), (i64 b0_4)]])), (Prod.mk 19264 (Blk.mk BKind.arr 3 1 R1)), (Prod.mk 16000080 (Blk.mk BKind.box 28 1 [[(AVal.slc 19264 R1.length)]])), (Prod.mk 16000113 (Blk.mk (BKind.ns 0 27 2) 29 1 R3)), (Prod.mk 16000112 (Blk.mk BKind.box 57 1 [[(AVal.slc 16000113 R3.length)]])), (Prod.mk 16000128 (Blk.mk BKind.box 3 1 [[(i64 b5_0)]])), (Prod.mk 999 (Blk.mk (BKind.dfr 25 [(AVal.ref 16000128 1 0 0)]) 0 0 R6))] 3))) && true) && true)) then (Option.bind (G_astar_ground__reach_2 c b0_0 b0_1 b0_2 b0_3 b0_4 FU R1 R3 b5_0) fun t => (loopN B12_1 m ⟨[.dead, .dead, (AVal.ref 16000 1 0 0), .dead, .dead, (AVal.ref 16000080 1 0 0), .dead, (AVal.ref 16000112 1 0 0), (AVal.ref 16000128 1 0 0), (AVal.clo 26 [(AVal.ref 16000112 1 0 0), (AVal.ref 16000080 1 0 0), (AVal.ref 16000 1 0 0), (AVal.ref 16000128 1 0 0)]), (i64 (wr (c + (1 : Int)))), .dead, .dead, .dead, .dead, .dead, .dead, .dead, .dead, .dead, .dead, .dead, .dead, .dead, .dead, .dead, .dead, .dead, .dead, .dead, .dead, .dead, .dead, .dead, .dead, .dead, .dead, .dead, .dead, .dead, .dead, .dead, .dead, .dead, .dead, .dead, .dead, .dead, .dead, .dead, .dead, .dead, .dead, .dead, .dead, .dead, .dead, .dead, .dead, .dead, .dead, .dead, .dead, .dead, .dead, .dead, .dead, .dead, .dead, .dead, .dead, .dead, .dead, .dead, .dead, .dead, .dead, .dead, .dead, .dead, .dead, .dead, .dead, .dead, .dead, .dead, .dead, .dead, .dead, .dead, .dead, .dead, .dead, .dead, .dead, .dead, .dead, .dead, .dead, .dead, .dead, .dead, .dead, .dead, .dead, .dead, .dead, .dead, .dead, .dead, .dead, .dead, .dead, .dead, .dead, .dead, .dead, .dead, .dead, .dead, .dead, .dead, .dead, .dead, .dead, .dead, .dead, .dead, .dead, .dead, .dead, .dead, .dead], [(Prod.mk 16000 (Blk.mk BKind.box 43 5 [[(i64 b0_0), (i64 b0_1), (AVal.ro 3 b0_2), (AVal.ro 1 b0_3), (i64 b0_4)]])), (Prod.mk 19264 (Blk.mk BKind.arr 3 1 t.1)), (Prod.mk 16000080 (Blk.mk BKind.box 28 1 [[(AVal.slc 19264 t.1.length)]])), (Prod.mk 16000113 (Blk.mk (BKind.ns 0 27 2) 29 1 t.2.1)), (Prod.mk 16000112 (Blk.mk BKind.box 57 1 [[(AVal.slc 16000113 t.2.1.length)]])), (Prod.mk 16000128 (Blk.mk BKind.box 3 1 [[(i64 t.2.2)]])), (Prod.mk 999 (Blk.mk (BKind.dfr 25 [(AVal.ref 16000128 1 0 0)]) 0 0 R6))]⟩ (K12_1 k))) else none) else (k (.exit 2) ⟨[.dead, .dead, .dead, .dead, .dead, (AVal.ref 16000080 1 0 0), .dead, .dead, .dead, .dead, .dead, .dead, .dead, .dead, .dead, .dead, .dead, .dead, .dead, .dead, .dead, .dead, .dead, .dead, .dead, .dead, .dead, .dead, .dead, .dead, .dead, .dead, .dead, .dead, .dead, .dead, .dead, .dead, .dead, .dead, .dead, .dead, .dead, .dead, .dead, .dead, .dead, .dead, .dead, .dead, .dead, .dead, .dead, .dead, .dead, .dead, .dead, .dead, .dead, .dead, .dead, .dead, .dead, .dead, .dead, .dead, .dead, .dead, .dead, .dead, .dead, .dead, .dead, .dead, .dead, .dead, .dead, .dead, .dead, .dead, .dead, .dead, .dead, .dead, .dead, .dead, .dead, .dead, .dead, .dead, .dead, .dead, .dead, .dead, .dead, .dead, .dead, .dead, .dead, .dead, .dead, .dead, .dead, .dead, .dead, .dead, .dead, .dead, .dead, .dead, .dead, .dead, .dead, .dead, .dead, .dead, .dead, .dead, .dead, .dead, .dead, .dead, .dead, .dead, .dead, .dead, .dead, .dead, .dead, .dead, .dead, .dead, .dead], [(Prod.mk 16000 (Blk.mk BKind.box 43 5 [[(i64 b0_0), (i64 b0_1), (AVal.ro 3 b0_2), (AVal.ro 1 b0_3), (i64 b0_4)]])), (Prod.mk 19264 (Blk.mk BKind.arr 3 1 R1)), (Prod.mk 16000080 (Blk.mk BKind.box 28 1 [[(AVal.slc 19264 R1.length)]])), (Prod.mk 16000113 (Blk.mk (BKind.ns 0 27 2) 29 1 R3)), (Prod.mk 16000112 (Blk.mk BKind.box 57 1 [[(AVal.slc 16000113 R3.length)]])), (Prod.mk 16000128 (Blk.mk BKind.box 3 1 [[(i64 b5_0)]])), (Prod.mk 999 (Blk.mk (BKind.dfr 25 [(AVal.ref 16000128 1 0 0)]) 0 0 R6))]⟩)) else none)) (by kernel_rfl)
      (n_true (verEq_rfl _) (n_condH rfl (fun h0 => (n_true (n_andL (n_andL (n_andL rfl (by first | exact verEq_of rfl | simp [verEq, blkLen, blkAt])) rfl) (n_andL (n_andL (n_andL rfl (by first | exact verEq_of rfl | simp [verEq, blkLen, blkAt])) rfl) rfl)) (n_bind fun t => (spec12_1 k m t.1 t.2.1 R6 (wr (c + (1 : Int))) b0_0 b0_1 b0_2 b0_3 b0_4 t.2.2)))) fun h0 => rfl))
theorem okL12_1 : LoopOk TT TU GL0 C15 ownE L12 (lp Tryd.f12 1) :=
  loopOk_of ks12_1 hs12_1 W12_1 FU (fun s k => (G_astar_ground__reach_1 (toI (cIa (rows0 (blkAt s.heap 0).2) 0)) (toI (cIa (rows0 (blkAt s.heap 0).2) 1)) (roRows (cIa (rows0 (blkAt s.heap 0).2) 2)) (roRows (cIa (rows0 (blkAt s.heap 0).2) 3)) (toI (cIa (rows0 (blkAt s.heap 0).2) 4)) FU (blkAt s.heap 1).2.rows (blkAt s.heap 3).2.rows (toI (cIa s.tmps 10)) (toI (cIa (rows0 (blkAt s.heap 5).2) 0))).bind (X12_1 (blkAt s.heap 6).2.rows (toI (cIa (rows0 (blkAt s.heap 0).2) 0)) (toI (cIa (rows0 (blkAt s.heap 0).2) 1)) (roRows (cIa (rows0 (blkAt s.heap 0).2) 2)) (roRows (cIa (rows0 (blkAt s.heap 0).2) 3)) (toI (cIa (rows0 (blkAt s.heap 0).2) 4)) k)) (fun s k => by kernel_rfl) (fun s k => spec12_1 k FU (blkAt s.heap 1).2.rows (blkAt s.heap 3).2.rows (blkAt s.heap 6).2.rows (toI (cIa s.tmps 10)) (toI (cIa (rows0 (blkAt s.heap 0).2) 0)) (toI (cIa (rows0 (blkAt s.heap 0).2) 1)) (roRows (cIa (rows0 (blkAt s.heap 0).2) 2)) (roRows (cIa (rows0 (blkAt s.heap 0).2) 3)) (toI (cIa (rows0 (blkAt s.heap 0).2) 4)) (toI (cIa (rows0 (blkAt s.heap 5).2) 0)))
theorem run12 (g_m_W : Int) (g_m_H : Int) (g_m_Cells : List (List AVal)) (g_blocked : List (List AVal)) (g_class : Int) (from__X : Int) (from__Y : Int) : fcallD TT TU GL0 C15 ownE true L12 25 S25 Tryd.f12 [(.agg [(.sc (.int .i64 g_m_W)), (.sc (.int .i64 g_m_H)), (.ro 3 g_m_Cells), (.ro 1 g_blocked), (.sc (.int .i64 g_class))]), (.agg [(.sc (.int .i64 from__X)), (.sc (.int .i64 from__Y))])] = (F_astar_ground__reach g_m_W g_m_H g_m_Cells g_blocked g_class from__X from__Y).bind fun t => some (enc12 t) :=
  Eq.trans (b := (bif ((((decide ((Int.ofNat g_m_Cells.length) = (Int.ofNat g_m_Cells.length))) && (decide ((0 : Int) ≤ (Int.ofNat g_m_Cells.length)))) && (decide ((Int.ofNat g_m_Cells.length) ≤ (9223372036854775807 : Int)))) && (decide (((8 : Int) * (Int.ofNat g_m_Cells.length)) ≤ (140737488355328 : Int)))) then (bif (verEq (Blk.rows (Blk.mk BKind.arr 3 1 (List.replicate (Int.ofNat g_m_Cells.length).toNat [(i64 (0 : Int))]))).length (List.replicate (Int.ofNat g_m_Cells.length).toNat [(i64 (0 : Int))]).length) then (bif (((true && (verEq (List.replicate (Int.ofNat g_m_Cells.length).toNat [(i64 (0 : Int))]).length (blkLen [(Prod.mk 16000 (Blk.mk BKind.box 43 5 [[(i64 g_m_W), (i64 g_m_H), (AVal.ro 3 g_m_Cells), (AVal.ro 1 g_blocked), (i64 g_class)]])), (Prod.mk 16016 (Blk.mk BKind.box 27 2 [[(i64 from__X), (i64 from__Y)]])), (Prod.mk 19264 (Blk.mk BKind.arr 3 1 (List.replicate (Int.ofNat g_m_Cells.length).toNat [(i64 (0 : Int))]))), (Prod.mk 16000080 (Blk.mk BKind.box 28 1 [[(AVal.slc 19264 (List.replicate (Int.ofNat g_m_Cells.length).toNat [(i64 (0 : Int))]).length)]]))] 2))) && true) && true) then (Option.bind (G_astar_ground__reach_0 (Int.ofNat (Blk.rows (Blk.mk BKind.arr 3 1 (List.replicate (Int.ofNat g_m_Cells.length).toNat [(i64 (0 : Int))]))).length) FU (Blk.rows (Blk.mk BKind.arr 3 1 (List.replicate (Int.ofNat g_m_Cells.length).toNat [(i64 (0 : Int))]))) (0 : Int)) fun t => (Option.bind (F_astar_ground__free g_m_W g_m_H g_m_Cells g_blocked g_class from__X from__Y) fun t1 => (bif (!t1) then (bif (verEq t.length t.length) then (some (CR.mk true (AVal.slc 0 t.length) [] [(Blk.mk BKind.arr 3 1 t)])) else none) else (bif (((true && (verEq t.length (blkLen [(Prod.mk 0 (Blk.mk BKind.box 57 1 [[(AVal.slc 4 0)]])), (Prod.mk 1 (Blk.mk BKind.box 28 1 [[(AVal.slc 5 t.length)]])), (Prod.mk 2 (Blk.mk BKind.box 43 5 [[(i64 g_m_W), (i64 g_m_H), (AVal.ro 3 g_m_Cells), (AVal.ro 1 g_blocked), (i64 g_class)]])), (Prod.mk 3 (Blk.mk BKind.box 3 1 [[(i64 (0 : Int))]])), (Prod.mk 4 (Blk.mk (BKind.ns 0 27 2) 29 1 [])), (Prod.mk 5 (Blk.mk BKind.arr 3 1 t))] 5))) && true) && true) then (Option.bind (F_astar_ground__reach_2 from__X from__Y (0 : Int) [] t g_m_W g_m_H g_m_Cells g_blocked g_class (0 : Int)) fun t2 => (bif (((true && (verEq t2.2.1.length (blkLen [(Prod.mk 16000 (Blk.mk BKind.box 43 5 [[(i64 g_m_W), (i64 g_m_H), (AVal.ro 3 g_m_Cells), (AVal.ro 1 g_blocked), (i64 g_class)]])), (Prod.mk 19264 (Blk.mk BKind.arr 3 1 t2.2.1)), (Prod.mk 16000080 (Blk.mk BKind.box 28 1 [[(AVal.slc 19264 t2.2.1.length)]])), (Prod.mk 16000113 (Blk.mk (BKind.ns 0 27 2) 29 1 t2.1)), (Prod.mk 16000112 (Blk.mk BKind.box 57 1 [[(AVal.slc 16000113 t2.1.length)]])), (Prod.mk 16000128 (Blk.mk BKind.box 3 1 [[(i64 t2.2.2)]])), (Prod.mk 999 (Blk.mk (BKind.dfr 25 [(AVal.ref 16000128 1 0 0)]) 0 0 []))] 1))) && true) && (((true && (verEq t2.1.length (blkLen [(Prod.mk 16000 (Blk.mk BKind.box 43 5 [[(i64 g_m_W), (i64 g_m_H), (AVal.ro 3 g_m_Cells), (AVal.ro 1 g_blocked), (i64 g_class)]])), (Prod.mk 19264 (Blk.mk BKind.arr 3 1 t2.2.1)), (Prod.mk 16000080 (Blk.mk BKind.box 28 1 [[(AVal.slc 19264 t2.2.1.length)]])), (Prod.mk 16000113 (Blk.mk (BKind.ns 0 27 2) 29 1 t2.1)), (Prod.mk 16000112 (Blk.mk BKind.box 57 1 [[(AVal.slc 16000113 t2.1.length)]])), (Prod.mk 16000128 (Blk.mk BKind.box 3 1 [[(i64 t2.2.2)]])), (Prod.mk 999 (Blk.mk (BKind.dfr 25 [(AVal.ref 16000128 1 0 0)]) 0 0 []))] 3))) && true) && true)) then (Option.bind (G_astar_ground__reach_1 g_m_W g_m_H g_m_Cells g_blocked g_class FU t2.2.1 t2.1 (0 : Int) t2.2.2) fun t3 => (Option.bind (F_astar_ground__reach_1 t3.2.2) fun t4 => (bif (verEq t3.1.length t3.1.length) then (some (CR.mk true (AVal.slc 0 t3.1.length) [] [(Blk.mk BKind.arr 3 1 t3.1)])) else none))) else none)) else none)))) else none) else none) else none)) (by kernel_rfl)
    (n_condH rfl (fun h0 => (n_true (by first | exact verEq_of rfl | simp [verEq, blkLen, blkAt]) (n_true (n_andL (n_andL (n_andL rfl (by first | exact verEq_of rfl | simp [verEq, blkLen, blkAt])) rfl) rfl) (n_bind fun t => (n_bind fun t1 => (n_condH rfl (fun h1 => (n_true (verEq_rfl _) rfl)) fun h1 => (n_true (n_andL (n_andL (n_andL rfl (by first | exact verEq_of rfl | simp [verEq, blkLen, blkAt])) rfl) rfl) (n_bind fun t2 => (n_true (n_andL (n_andL (n_andL rfl (by first | exact verEq_of rfl | simp [verEq, blkLen, blkAt])) rfl) (n_andL (n_andL (n_andL rfl (by first | exact verEq_of rfl | simp [verEq, blkLen, blkAt])) rfl) rfl)) (n_bind fun t3 => (n_bind fun t4 => (n_true (verEq_rfl _) rfl)))))))))))) fun h0 => n_none)
theorem lib12 : Lib Tryd.prog GL0 C12 :=
  Lib.fnF lib15 mixed TT_ok Tryd.func12 (by decide +kernel) (by kernel_rfl) true L12 (loops_of 4 (by kernel_rfl) (belowS (belowS (belowS (belowS below0 okL12_0) okL12_1) okL12_2) okL12_3)) dok25 ks12 (F := fun us => F_astar_ground__reach (toI (cIa (aggL (cIa us 0)) 0)) (toI (cIa (aggL (cIa us 0)) 1)) (roRows (cIa (aggL (cIa us 0)) 2)) (roRows (cIa (aggL (cIa us 0)) 3)) (toI (cIa (aggL (cIa us 0)) 4)) (toI (cIa (aggL (cIa us 1)) 0)) (toI (cIa (aggL (cIa us 1)) 1))) (fun us => rfl) (fun us => run12 (toI (cIa (aggL (cIa us 0)) 0)) (toI (cIa (aggL (cIa us 0)) 1)) (roRows (cIa (aggL (cIa us 0)) 2)) (roRows (cIa (aggL (cIa us 0)) 3)) (toI (cIa (aggL (cIa us 0)) 4)) (toI (cIa (aggL (cIa us 1)) 0)) (toI (cIa (aggL (cIa us 1)) 1))) (fun t => rfl)

/-! ### 4: skirmish/astar.Path -/

noncomputable def W4_0 : Ex → List Bool
  | .ret => [false, false, false, false, false, false, false, false, false, false, true, true, true, false, false, false, false, false, false, false, false, false, false, false, false, false, false, false, false, false, false, false, false, false, false, false, false, false, false, false, false, false, false, false, false, false, false, false, false, false, false, false, false, false, false, false, false, false, false, false, false, false, false, false, false, false, false, false, false, false, false, false, false, false, false, false, false, false, false, false, false, false, false, false, false, false, false, false, false, false, false, false, false, false, false, false, false, false, false, false, false, false, false, false, false, false, false, false]
  | .exit n => bif Nat.beq n 0 then [false, false, false, false, false, false, false, false, true, false, false, false, false, false, false, true, true, false, false, false, false, false, false, false, false, false, false, false, false, false, false, false, false, false, false, false, false, false, false, false, false, false, false, false, false, false, false, false, false, false, false, false, false, false, false, false, false, false, false, false, false, false, false, false, false, false, false, false, false, false, false, false, false, false, false, false, false, false, false, false, false, false, false, false, false, false, false, false, false, false, false, false, false, false, false, false, false, false, false, false, false, false, false, false, false, false, false, false] else []
  | _ => []
noncomputable def W4_1 : Ex → List Bool
  | .ret => [false, false, false, false, false, false, false, false, false, false, true, true, true, false, false, false, false, false, false, false, false, false, false, false, false, false, false, false, false, false, false, false, false, false, false, false, false, false, false, false, false, false, false, false, false, false, false, false, false, false, false, false, false, false, false, false, false, false, false, false, false, false, false, false, false, false, false, false, false, false, false, false, false, false, false, false, false, false, false, false, false, false, false, false, false, false, false, false, false, false, false, false, false, false, false, false, false, false, false, false, false, false, false, false, false, false, false, false]
  | .exit n => bif Nat.beq n 2 then [false, true, true, false, false, true, false, false, true, true, false, false, false, false, false, true, true, true, false, false, false, false, false, false, false, false, false, false, false, false, false, false, false, false, false, false, false, false, false, false, false, false, false, false, false, false, false, false, false, false, false, false, false, false, false, false, false, false, false, false, false, false, false, false, false, false, false, false, false, false, false, false, false, false, false, false, false, false, false, false, false, false, false, false, false, false, false, false, false, false, false, false, false, false, false, false, false, false, false, false, false, false, false, false, false, false, false, false] else bif Nat.beq n 1 then [false, true, true, false, false, true, false, false, true, true, false, false, false, false, false, true, true, true, false, false, false, false, false, false, false, false, false, false, false, false, false, false, false, false, false, false, false, false, false, false, false, false, false, false, false, false, false, false, false, false, false, false, false, false, false, false, false, false, false, false, false, false, false, false, false, false, false, false, false, false, false, false, false, false, false, false, false, false, false, false, false, false, false, false, false, false, false, false, false, false, false, false, false, false, false, false, false, false, false, false, false, false, false, false, false, false, false, false] else bif Nat.beq n 0 then [false, false, false, false, false, false, false, false, true, false, false, false, false, false, false, true, true, false, false, false, false, false, false, false, false, false, false, false, false, false, false, false, false, false, false, false, false, false, false, false, false, false, false, false, false, false, false, false, false, false, false, false, false, false, false, false, false, false, false, false, false, false, false, false, false, false, false, false, false, false, false, false, false, false, false, false, false, false, false, false, false, false, false, false, false, false, false, false, false, false, false, false, false, false, false, false, false, false, false, false, false, false, false, false, false, false, false, false] else []
  | _ => []
noncomputable def G_astar_Path_1 (R3 : List (List AVal)) (blocked : List (List AVal)) (class_ : Int) (b0_0 : Int) (b0_1 : Int) (b0_2 : List (List AVal)) (b6_0 : Int) (b6_1 : Int) : Nat → Int → Option (Int × Int)
  | 0, _ => none
  | m + 1, x65 =>
    bif (decide (x65 < (8 : Int))) then
      Option.bind (F_terrain_Step b0_0 b0_1 b0_2 blocked class_ b6_0 b6_1 x65) fun t =>
      bif (!t.2) then
        G_astar_Path_1 R3 blocked class_ b0_0 b0_1 b0_2 b6_0 b6_1 m (wr (x65 + (1 : Int)))
      else
      Option.bind (F_grid_Step b6_0 b6_1 x65) fun t1 =>
      Option.bind (F_astar_Path_1 t1.1 t1.2 R3 b0_0 b0_1 b0_2) fun t2 =>
      bif (decide (t2 ≥ (0 : Int))) then
        Option.bind (F_astar_Path_1 t1.1 t1.2 R3 b0_0 b0_1 b0_2) fun t3 =>
        Option.bind (F_astar_Path_1 b6_0 b6_1 R3 b0_0 b0_1 b0_2) fun t4 =>
        bif ((wr (t3 + t.1)) == t4) then
          some (t1.1, t1.2)
        else
        G_astar_Path_1 R3 blocked class_ b0_0 b0_1 b0_2 b6_0 b6_1 m (wr (x65 + (1 : Int)))
      else
      G_astar_Path_1 R3 blocked class_ b0_0 b0_1 b0_2 b6_0 b6_1 m (wr (x65 + (1 : Int)))
    else
    some (b6_0, b6_1)
noncomputable def E4_1 (R3 : List (List AVal)) (R5 : List (List AVal)) (blocked : List (List AVal)) (class_ : Int) (x65 : Int) (b0_0 : Int) (b0_1 : Int) (b0_2 : List (List AVal)) (b1_0 : Int) (b1_1 : Int) (b2_0 : Int) (b2_1 : Int) (b6_0 : Int) (b6_1 : Int) : St := ⟨[.dead, (.ro 1 blocked), (.sc (.int .i64 class_)), .dead, .dead, (.ref 16000 1 0 0), .dead, .dead, (.ref 16016 1 0 0), (.ref 16032 1 0 0), .dead, .dead, .dead, .dead, .dead, (.clo 13 [(.ref 16000224 1 0 0), (.ref 16000 1 0 0)]), (.slc 48016 (R5).length), (.ref 16000272 1 0 0), .dead, .dead, .dead, .dead, .dead, .dead, .dead, .dead, .dead, .dead, .dead, .dead, .dead, .dead, .dead, .dead, .dead, .dead, .dead, .dead, .dead, .dead, .dead, .dead, .dead, .dead, .dead, .dead, .dead, .dead, .dead, .dead, .dead, .dead, .dead, .dead, .dead, .dead, .dead, .dead, .dead, .dead, .dead, .dead, .dead, .dead, .dead, (.sc (.int .i64 x65)), .dead, .dead, .dead, .dead, .dead, .dead, .dead, .dead, .dead, .dead, .dead, .dead, .dead, .dead, .dead, .dead, .dead, .dead, .dead, .dead, .dead, .dead, .dead, .dead, .dead, .dead, .dead, .dead, .dead, .dead, .dead, .dead, .dead, .dead, .dead, .dead, .dead, .dead, .dead, .dead, .dead, .dead], [(16000, ⟨.box, 24, 3, [[(.sc (.int .i64 b0_0)), (.sc (.int .i64 b0_1)), (.ro 3 b0_2)]]⟩), (16016, ⟨.box, 27, 2, [[(.sc (.int .i64 b1_0)), (.sc (.int .i64 b1_1))]]⟩), (16032, ⟨.box, 27, 2, [[(.sc (.int .i64 b2_0)), (.sc (.int .i64 b2_1))]]⟩), (35232, ⟨.arr, 3, 1, R3⟩), (16000224, ⟨.box, 28, 1, [[(.slc 35232 (R3).length)]]⟩), (48016, ⟨.arr, 27, 2, R5⟩), (16000272, ⟨.box, 27, 2, [[(.sc (.int .i64 b6_0)), (.sc (.int .i64 b6_1))]]⟩)]⟩
noncomputable def X4_1 (R3 : List (List AVal)) (R5 : List (List AVal)) (blocked : List (List AVal)) (class_ : Int) (b0_0 : Int) (b0_1 : Int) (b0_2 : List (List AVal)) (b1_0 : Int) (b1_1 : Int) (b2_0 : Int) (b2_1 : Int) (k : Ex → St → Option CR) (t : Int × Int) : Option CR := k (.exit 2) ⟨[.dead, (.ro 1 blocked), (.sc (.int .i64 class_)), .dead, .dead, (.ref 16000 1 0 0), .dead, .dead, (.ref 16016 1 0 0), (.ref 16032 1 0 0), .dead, .dead, .dead, .dead, .dead, (.clo 13 [(.ref 16000224 1 0 0), (.ref 16000 1 0 0)]), (.slc 48016 (R5).length), (.ref 16000272 1 0 0), .dead, .dead, .dead, .dead, .dead, .dead, .dead, .dead, .dead, .dead, .dead, .dead, .dead, .dead, .dead, .dead, .dead, .dead, .dead, .dead, .dead, .dead, .dead, .dead, .dead, .dead, .dead, .dead, .dead, .dead, .dead, .dead, .dead, .dead, .dead, .dead, .dead, .dead, .dead, .dead, .dead, .dead, .dead, .dead, .dead, .dead, .dead, .dead, .dead, .dead, .dead, .dead, .dead, .dead, .dead, .dead, .dead, .dead, .dead, .dead, .dead, .dead, .dead, .dead, .dead, .dead, .dead, .dead, .dead, .dead, .dead, .dead, .dead, .dead, .dead, .dead, .dead, .dead, .dead, .dead, .dead, .dead, .dead, .dead, .dead, .dead, .dead, .dead, .dead, .dead], [(16000, ⟨.box, 24, 3, [[(.sc (.int .i64 b0_0)), (.sc (.int .i64 b0_1)), (.ro 3 b0_2)]]⟩), (16016, ⟨.box, 27, 2, [[(.sc (.int .i64 b1_0)), (.sc (.int .i64 b1_1))]]⟩), (16032, ⟨.box, 27, 2, [[(.sc (.int .i64 b2_0)), (.sc (.int .i64 b2_1))]]⟩), (35232, ⟨.arr, 3, 1, R3⟩), (16000224, ⟨.box, 28, 1, [[(.slc 35232 (R3).length)]]⟩), (48016, ⟨.arr, 27, 2, R5⟩), (16000272, ⟨.box, 27, 2, [[(.sc (.int .i64 t.1)), (.sc (.int .i64 t.2))]]⟩)]⟩
noncomputable def ks4_1 : List SK := [.f .dead, .f (.ro 1), .f (.int .i64), .f .dead, .f .dead, .f (.ref 16000 1 0 0), .f .dead, .f .dead, .f (.ref 16016 1 0 0), .f (.ref 16032 1 0 0), .f .dead, .f .dead, .f .dead, .f .dead, .f .dead, .f (.cloR 13 [(16000224, 1, 0, 0), (16000, 1, 0, 0)]), .f (.slc 48016 5), .f (.ref 16000272 1 0 0), .f .dead, .f .dead, .f .dead, .f .dead, .f .dead, .f .dead, .f .dead, .f .dead, .f .dead, .f .dead, .f .dead, .f .dead, .f .dead, .f .dead, .f .dead, .f .dead, .f .dead, .f .dead, .f .dead, .f .dead, .f .dead, .f .dead, .f .dead, .f .dead, .f .dead, .f .dead, .f .dead, .f .dead, .f .dead, .f .dead, .f .dead, .f .dead, .f .dead, .f .dead, .f .dead, .f .dead, .f .dead, .f .dead, .f .dead, .f .dead, .f .dead, .f .dead, .f .dead, .f .dead, .f .dead, .f .dead, .f .dead, .f (.int .i64), .f .dead, .f .dead, .f .dead, .f .dead, .f .dead, .f .dead, .f .dead, .f .dead, .f .dead, .f .dead, .f .dead, .f .dead, .f .dead, .f .dead, .f .dead, .f .dead, .f .dead, .f .dead, .f .dead, .f .dead, .f .dead, .f .dead, .f .dead, .f .dead, .f .dead, .f .dead, .f .dead, .f .dead, .f .dead, .f .dead, .f .dead, .f .dead, .f .dead, .f .dead, .f .dead, .f .dead, .f .dead, .f .dead, .f .dead, .f .dead, .f .dead, .f .dead]
noncomputable def hs4_1 : List HK := [⟨16000, .box, 24, 3, some [.int .i64, .int .i64, .ro 3]⟩, ⟨16016, .box, 27, 2, some [.int .i64, .int .i64]⟩, ⟨16032, .box, 27, 2, some [.int .i64, .int .i64]⟩, ⟨35232, .arr, 3, 1, none⟩, ⟨16000224, .box, 28, 1, some [.slc 35232 3]⟩, ⟨48016, .arr, 27, 2, none⟩, ⟨16000272, .box, 27, 2, some [.int .i64, .int .i64]⟩]
noncomputable def Lm4_1 (s : St) (k : Ex → St → Option CR) : Option CR := bif chkS ks4_1 hs4_1 s then (G_astar_Path_1 (blkAt s.heap 3).2.rows (roRows (cIa s.tmps 1)) (toI (cIa s.tmps 2)) (toI (cIa (rows0 (blkAt s.heap 0).2) 0)) (toI (cIa (rows0 (blkAt s.heap 0).2) 1)) (roRows (cIa (rows0 (blkAt s.heap 0).2) 2)) (toI (cIa (rows0 (blkAt s.heap 6).2) 0)) (toI (cIa (rows0 (blkAt s.heap 6).2) 1)) FU (toI (cIa s.tmps 65))).bind (X4_1 (blkAt s.heap 3).2.rows (blkAt s.heap 5).2.rows (roRows (cIa s.tmps 1)) (toI (cIa s.tmps 2)) (toI (cIa (rows0 (blkAt s.heap 0).2) 0)) (toI (cIa (rows0 (blkAt s.heap 0).2) 1)) (roRows (cIa (rows0 (blkAt s.heap 0).2) 2)) (toI (cIa (rows0 (blkAt s.heap 1).2) 0)) (toI (cIa (rows0 (blkAt s.heap 1).2) 1)) (toI (cIa (rows0 (blkAt s.heap 2).2) 0)) (toI (cIa (rows0 (blkAt s.heap 2).2) 1)) k) else none
noncomputable def L4_1 (s : St) (k : Ex → St → Option CR) : Option CR := Lm4_1 (maskS (maskOf ks4_1) s) k
noncomputable def G_astar_Path_0 (R3 : List (List AVal)) (blocked : List (List AVal)) (class_ : Int) (b0_0 : Int) (b0_1 : Int) (b0_2 : List (List AVal)) (b2_0 : Int) (b2_1 : Int) : Nat → List (List AVal) → Int → Int → Option (List (List AVal))
  | 0, _, _, _ => none
  | m + 1, R5, b6_0, b6_1 =>
    bif (!((b6_0 == b2_0) && (b6_1 == b2_1))) then
      Option.bind (G_astar_Path_1 R3 blocked class_ b0_0 b0_1 b0_2 b6_0 b6_1 FU (0 : Int)) fun t =>
      bif (roomOk (R5.length + 1) 16) then
        G_astar_Path_0 R3 blocked class_ b0_0 b0_1 b0_2 b2_0 b2_1 m (R5 ++ [[(i64 t.1), (i64 t.2)]]) t.1 t.2
      else
      none
    else
    some R5
noncomputable def E4_0 (R3 : List (List AVal)) (R5 : List (List AVal)) (blocked : List (List AVal)) (class_ : Int) (b0_0 : Int) (b0_1 : Int) (b0_2 : List (List AVal)) (b1_0 : Int) (b1_1 : Int) (b2_0 : Int) (b2_1 : Int) (b6_0 : Int) (b6_1 : Int) : St := ⟨[.dead, (.ro 1 blocked), (.sc (.int .i64 class_)), .dead, .dead, (.ref 16000 1 0 0), .dead, .dead, (.ref 16016 1 0 0), (.ref 16032 1 0 0), .dead, .dead, .dead, .dead, .dead, (.clo 13 [(.ref 16000224 1 0 0), (.ref 16000 1 0 0)]), (.slc 48016 (R5).length), (.ref 16000272 1 0 0), .dead, .dead, .dead, .dead, .dead, .dead, .dead, .dead, .dead, .dead, .dead, .dead, .dead, .dead, .dead, .dead, .dead, .dead, .dead, .dead, .dead, .dead, .dead, .dead, .dead, .dead, .dead, .dead, .dead, .dead, .dead, .dead, .dead, .dead, .dead, .dead, .dead, .dead, .dead, .dead, .dead, .dead, .dead, .dead, .dead, .dead, .dead, .dead, .dead, .dead, .dead, .dead, .dead, .dead, .dead, .dead, .dead, .dead, .dead, .dead, .dead, .dead, .dead, .dead, .dead, .dead, .dead, .dead, .dead, .dead, .dead, .dead, .dead, .dead, .dead, .dead, .dead, .dead, .dead, .dead, .dead, .dead, .dead, .dead, .dead, .dead, .dead, .dead, .dead, .dead], [(16000, ⟨.box, 24, 3, [[(.sc (.int .i64 b0_0)), (.sc (.int .i64 b0_1)), (.ro 3 b0_2)]]⟩), (16016, ⟨.box, 27, 2, [[(.sc (.int .i64 b1_0)), (.sc (.int .i64 b1_1))]]⟩), (16032, ⟨.box, 27, 2, [[(.sc (.int .i64 b2_0)), (.sc (.int .i64 b2_1))]]⟩), (35232, ⟨.arr, 3, 1, R3⟩), (16000224, ⟨.box, 28, 1, [[(.slc 35232 (R3).length)]]⟩), (48016, ⟨.arr, 27, 2, R5⟩), (16000272, ⟨.box, 27, 2, [[(.sc (.int .i64 b6_0)), (.sc (.int .i64 b6_1))]]⟩)]⟩
noncomputable def X4_0 (R3 : List (List AVal)) (b0_0 : Int) (b0_1 : Int) (b0_2 : List (List AVal)) (b1_0 : Int) (b1_1 : Int) (k : Ex → St → Option CR) (t : List (List AVal)) : Option CR := k (.exit 0) ⟨[.dead, .dead, .dead, .dead, .dead, .dead, .dead, .dead, (.ref 16016 1 0 0), .dead, .dead, .dead, .dead, .dead, .dead, (.clo 13 [(.ref 16000224 1 0 0), (.ref 16000 1 0 0)]), (.slc 48016 (t).length), .dead, .dead, .dead, .dead, .dead, .dead, .dead, .dead, .dead, .dead, .dead, .dead, .dead, .dead, .dead, .dead, .dead, .dead, .dead, .dead, .dead, .dead, .dead, .dead, .dead, .dead, .dead, .dead, .dead, .dead, .dead, .dead, .dead, .dead, .dead, .dead, .dead, .dead, .dead, .dead, .dead, .dead, .dead, .dead, .dead, .dead, .dead, .dead, .dead, .dead, .dead, .dead, .dead, .dead, .dead, .dead, .dead, .dead, .dead, .dead, .dead, .dead, .dead, .dead, .dead, .dead, .dead, .dead, .dead, .dead, .dead, .dead, .dead, .dead, .dead, .dead, .dead, .dead, .dead, .dead, .dead, .dead, .dead, .dead, .dead, .dead, .dead, .dead, .dead, .dead, .dead], [(16000, ⟨.box, 24, 3, [[(.sc (.int .i64 b0_0)), (.sc (.int .i64 b0_1)), (.ro 3 b0_2)]]⟩), (16016, ⟨.box, 27, 2, [[(.sc (.int .i64 b1_0)), (.sc (.int .i64 b1_1))]]⟩), (35232, ⟨.arr, 3, 1, R3⟩), (16000224, ⟨.box, 28, 1, [[(.slc 35232 (R3).length)]]⟩), (48016, ⟨.arr, 27, 2, t⟩)]⟩
noncomputable def ks4_0 : List SK := [.f .dead, .f (.ro 1), .f (.int .i64), .f .dead, .f .dead, .f (.ref 16000 1 0 0), .f .dead, .f .dead, .f (.ref 16016 1 0 0), .f (.ref 16032 1 0 0), .f .dead, .f .dead, .f .dead, .f .dead, .f .dead, .f (.cloR 13 [(16000224, 1, 0, 0), (16000, 1, 0, 0)]), .f (.slc 48016 5), .f (.ref 16000272 1 0 0), .f .dead, .f .dead, .f .dead, .f .dead, .f .dead, .f .dead, .f .dead, .f .dead, .f .dead, .f .dead, .f .dead, .f .dead, .f .dead, .f .dead, .f .dead, .f .dead, .f .dead, .f .dead, .f .dead, .f .dead, .f .dead, .f .dead, .f .dead, .f .dead, .f .dead, .f .dead, .f .dead, .f .dead, .f .dead, .f .dead, .f .dead, .f .dead, .f .dead, .f .dead, .f .dead, .f .dead, .f .dead, .f .dead, .f .dead, .f .dead, .f .dead, .f .dead, .f .dead, .f .dead, .f .dead, .f .dead, .f .dead, .f .dead, .f .dead, .f .dead, .f .dead, .f .dead, .f .dead, .f .dead, .f .dead, .f .dead, .f .dead, .f .dead, .f .dead, .f .dead, .f .dead, .f .dead, .f .dead, .f .dead, .f .dead, .f .dead, .f .dead, .f .dead, .f .dead, .f .dead, .f .dead, .f .dead, .f .dead, .f .dead, .f .dead, .f .dead, .f .dead, .f .dead, .f .dead, .f .dead, .f .dead, .f .dead, .f .dead, .f .dead, .f .dead, .f .dead, .f .dead, .f .dead, .f .dead, .f .dead]
noncomputable def hs4_0 : List HK := [⟨16000, .box, 24, 3, some [.int .i64, .int .i64, .ro 3]⟩, ⟨16016, .box, 27, 2, some [.int .i64, .int .i64]⟩, ⟨16032, .box, 27, 2, some [.int .i64, .int .i64]⟩, ⟨35232, .arr, 3, 1, none⟩, ⟨16000224, .box, 28, 1, some [.slc 35232 3]⟩, ⟨48016, .arr, 27, 2, none⟩, ⟨16000272, .box, 27, 2, some [.int .i64, .int .i64]⟩]
noncomputable def Lm4_0 (s : St) (k : Ex → St → Option CR) : Option CR := bif chkS ks4_0 hs4_0 s then (G_astar_Path_0 (blkAt s.heap 3).2.rows (roRows (cIa s.tmps 1)) (toI (cIa s.tmps 2)) (toI (cIa (rows0 (blkAt s.heap 0).2) 0)) (toI (cIa (rows0 (blkAt s.heap 0).2) 1)) (roRows (cIa (rows0 (blkAt s.heap 0).2) 2)) (toI (cIa (rows0 (blkAt s.heap 2).2) 0)) (toI (cIa (rows0 (blkAt s.heap 2).2) 1)) FU (blkAt s.heap 5).2.rows (toI (cIa (rows0 (blkAt s.heap 6).2) 0)) (toI (cIa (rows0 (blkAt s.heap 6).2) 1))).bind (X4_0 (blkAt s.heap 3).2.rows (toI (cIa (rows0 (blkAt s.heap 0).2) 0)) (toI (cIa (rows0 (blkAt s.heap 0).2) 1)) (roRows (cIa (rows0 (blkAt s.heap 0).2) 2)) (toI (cIa (rows0 (blkAt s.heap 1).2) 0)) (toI (cIa (rows0 (blkAt s.heap 1).2) 1)) k) else none
noncomputable def L4_0 (s : St) (k : Ex → St → Option CR) : Option CR := Lm4_0 (maskS (maskOf ks4_0) s) k

noncomputable def L4 : LT' := fun i s k => bif Nat.beq i 0 then L4_0 s k else bif Nat.beq i 2 then L4_1 s k else none

/-- 'skirmish/astar.Path' -/
noncomputable def F_astar_Path (m_W : Int) (m_H : Int) (m_Cells : List (List AVal)) (blocked : List (List AVal)) (class_ : Int) (a_X : Int) (a_Y : Int) (b_X : Int) (b_Y : Int) : Option (List (List AVal) × Int × Int) :=
  Option.bind (F_astar_ground__valid m_W m_H m_Cells blocked class_) fun t =>
  bif (!t) then
    some ([], (0 : Int), (1 : Int))
  else
  Option.bind (F_astar_ground__inside m_W m_H m_Cells blocked class_ a_X a_Y) fun t1 =>
  bif (!t1) then
    some ([], (0 : Int), (1 : Int))
  else
  Option.bind (F_astar_ground__inside m_W m_H m_Cells blocked class_ b_X b_Y) fun t2 =>
  bif (!t2) then
    some ([], (0 : Int), (1 : Int))
  else
  Option.bind (F_astar_ground__free m_W m_H m_Cells blocked class_ a_X a_Y) fun t3 =>
  bif (!t3) then
    some ([], (0 : Int), (9 : Int))
  else
  Option.bind (F_astar_ground__free m_W m_H m_Cells blocked class_ b_X b_Y) fun t4 =>
  bif (!t4) then
    some ([], (0 : Int), (9 : Int))
  else
  Option.bind (F_astar_ground__reach m_W m_H m_Cells blocked class_ b_X b_Y) fun t5 =>
  Option.bind (F_astar_Path_1 a_X a_Y t5 m_W m_H m_Cells) fun t6 =>
  bif (decide (t6 < (0 : Int))) then
    some ([], (0 : Int), (22 : Int))
  else
  Option.bind (G_astar_Path_0 t5 blocked class_ m_W m_H m_Cells b_X b_Y FU [[(i64 a_X), (i64 a_Y)]] a_X a_Y) fun t7 =>
  Option.bind (F_astar_Path_1 a_X a_Y t5 m_W m_H m_Cells) fun t8 =>
  some (t7, t8, (0 : Int))
noncomputable def enc4 (t : List (List AVal) × Int × Int) : CR := ⟨true, (.tup [(.slc 0 (t.1).length), (.sc (.int .i64 t.2.1)), (.sc (.int .i64 t.2.2))]), [], [⟨.arr, 27, 2, t.1⟩]⟩
noncomputable def ks4 : List SK := [.agg [.int .i64, .int .i64, .ro 3], .f (.ro 1), .f (.int .i64), .agg [.int .i64, .int .i64], .agg [.int .i64, .int .i64]]
noncomputable def S4 (us : List AVal) : Call := bif chkA ks4 us then Call.of (F_astar_Path (toI (cIa (aggL (cIa us 0)) 0)) (toI (cIa (aggL (cIa us 0)) 1)) (roRows (cIa (aggL (cIa us 0)) 2)) (roRows (cIa us 1)) (toI (cIa us 2)) (toI (cIa (aggL (cIa us 3)) 0)) (toI (cIa (aggL (cIa us 3)) 1)) (toI (cIa (aggL (cIa us 4)) 0)) (toI (cIa (aggL (cIa us 4)) 1))) enc4 else Call.none
noncomputable def C4 := AI.ext 4 S4 C12

@[reducible] noncomputable def B4_1 := bodyOf TT TU GL0 C12 ownF L4 (lp Tryd.f4 1)
@[reducible] noncomputable def K4_1 (k : Ex → St → Option CR) : Ex → St → Option CR := fun e s => k e (maskS (W4_1 e) s)
theorem spec4_1 (k : Ex → St → Option CR) : ∀ (m : Nat) (R3 : List (List AVal)) (R5 : List (List AVal)) (blocked : List (List AVal)) (class_ : Int) (x65 : Int) (b0_0 : Int) (b0_1 : Int) (b0_2 : List (List AVal)) (b1_0 : Int) (b1_1 : Int) (b2_0 : Int) (b2_1 : Int) (b6_0 : Int) (b6_1 : Int), loopN B4_1 m (E4_1 R3 R5 blocked class_ x65 b0_0 b0_1 b0_2 b1_0 b1_1 b2_0 b2_1 b6_0 b6_1) (K4_1 k) = (G_astar_Path_1 R3 blocked class_ b0_0 b0_1 b0_2 b6_0 b6_1 m x65).bind (X4_1 R3 R5 blocked class_ b0_0 b0_1 b0_2 b1_0 b1_1 b2_0 b2_1 k)
  | 0, _, _, _, _, _, _, _, _, _, _, _, _, _, _ => rfl
  | m + 1, R3, R5, blocked, class_, x65, b0_0, b0_1, b0_2, b1_0, b1_1, b2_0, b2_1, b6_0, b6_1 =>
    Eq.trans (b := (bif (decide (x65 < (8 : Int))) then (Option.bind (F_terrain_Step b0_0 b0_1 b0_2 blocked class_ b6_0 b6_1 x65) fun t => (bif (!t.2) then (loopN B4_1 m ⟨[.dead, (AVal.ro 1 blocked), (i64 class_), .dead, .dead, (AVal.ref 16000 1 0 0), .dead, .dead, (AVal.ref 16016 1 0 0), (AVal.ref 16032 1 0 0), .dead, .dead, .dead, .dead, .dead, (AVal.clo 13 [(AVal.ref 16000224 1 0 0), (AVal.ref 16000 1 0 0)]), (AVal.slc 48016 R5.length), (AVal.ref 16000272 1 0 0), .dead, .dead, .dead, .dead, .dead, .dead, .dead, .dead, .dead, .dead, .dead, .dead, .dead, .dead, .dead, .dead, .dead, .dead, .dead, .dead, .dead, .dead, .dead, .dead, .dead, .dead, .dead, .dead, .dead, .dead, .dead, .dead, .dead, .dead, .dead, .dead, .dead, .dead, .dead, .dead, .dead, .dead, .dead, .dead, .dead, .dead, .dead, (i64 (wr (x65 + (1 : Int)))), .dead, .dead, .dead, .dead, .dead, .dead, .dead, .dead, .dead, .dead, .dead, .dead, .dead, .dead, .dead, .dead, .dead, .dead, .dead, .dead, .dead, .dead, .dead, .dead, .dead, .dead, .dead, .dead, .dead, .dead, .dead, .dead, .dead, .dead, .dead, .dead, .dead, .dead, .dead, .dead, .dead, .dead], [(Prod.mk 16000 (Blk.mk BKind.box 24 3 [[(i64 b0_0), (i64 b0_1), (AVal.ro 3 b0_2)]])), (Prod.mk 16016 (Blk.mk BKind.box 27 2 [[(i64 b1_0), (i64 b1_1)]])), (Prod.mk 16032 (Blk.mk BKind.box 27 2 [[(i64 b2_0), (i64 b2_1)]])), (Prod.mk 35232 (Blk.mk BKind.arr 3 1 R3)), (Prod.mk 16000224 (Blk.mk BKind.box 28 1 [[(AVal.slc 35232 R3.length)]])), (Prod.mk 48016 (Blk.mk BKind.arr 27 2 R5)), (Prod.mk 16000272 (Blk.mk BKind.box 27 2 [[(i64 b6_0), (i64 b6_1)]]))]⟩ (K4_1 k)) else (Option.bind (F_grid_Step b6_0 b6_1 x65) fun t1 => (bif (((true && (verEq R3.length (blkLen [(Prod.mk 0 (Blk.mk BKind.box 28 1 [[(AVal.slc 2 R3.length)]])), (Prod.mk 1 (Blk.mk BKind.box 24 3 [[(i64 b0_0), (i64 b0_1), (AVal.ro 3 b0_2)]])), (Prod.mk 2 (Blk.mk BKind.arr 3 1 R3))] 2))) && true) && true) then (Option.bind (F_astar_Path_1 t1.1 t1.2 R3 b0_0 b0_1 b0_2) fun t2 => (bif (decide (t2 ≥ (0 : Int))) then (bif (((true && (verEq R3.length (blkLen [(Prod.mk 0 (Blk.mk BKind.box 28 1 [[(AVal.slc 2 R3.length)]])), (Prod.mk 1 (Blk.mk BKind.box 24 3 [[(i64 b0_0), (i64 b0_1), (AVal.ro 3 b0_2)]])), (Prod.mk 2 (Blk.mk BKind.arr 3 1 R3))] 2))) && true) && true) then (Option.bind (F_astar_Path_1 t1.1 t1.2 R3 b0_0 b0_1 b0_2) fun t3 => (bif (((true && (verEq R3.length (blkLen [(Prod.mk 0 (Blk.mk BKind.box 28 1 [[(AVal.slc 2 R3.length)]])), (Prod.mk 1 (Blk.mk BKind.box 24 3 [[(i64 b0_0), (i64 b0_1), (AVal.ro 3 b0_2)]])), (Prod.mk 2 (Blk.mk BKind.arr 3 1 R3))] 2))) && true) && true) then (Option.bind (F_astar_Path_1 b6_0 b6_1 R3 b0_0 b0_1 b0_2) fun t4 => (bif ((wr (t3 + t.1)) == t4) then (k (.exit 2) ⟨[.dead, (AVal.ro 1 blocked), (i64 class_), .dead, .dead, (AVal.ref 16000 1 0 0), .dead, .dead, (AVal.ref 16016 1 0 0), (AVal.ref 16032 1 0 0), .dead, .dead, .dead, .dead, .dead, (AVal.clo 13 [(AVal.ref 16000224 1 0 0), (AVal.ref 16000 1 0 0)]), (AVal.slc 48016 R5.length), (AVal.ref 16000272 1 0 0), .dead, .dead, .dead, .dead, .dead, .dead, .dead, .dead, .dead, .dead, .dead, .dead, .dead, .dead, .dead, .dead, .dead, .dead, .dead, .dead, .dead, .dead, .dead, .dead, .dead, .dead, .dead, .dead, .dead, .dead, .dead, .dead, .dead, .dead, .dead, .dead, .dead, .dead, .dead, .dead, .dead, .dead, .dead, .dead, .dead, .dead, .dead, .dead, .dead, .dead, .dead, .dead, .dead, .dead, .dead, .dead, .dead, .dead, .dead, .dead, .dead, .dead, .dead, .dead, .dead, .dead, .dead, .dead, .dead, .dead, .dead, .dead, .dead, .dead, .dead, .dead, .dead, .dead, .dead, .dead, .dead, .dead, .dead, .dead, .dead, .dead, .dead, .dead, .dead, .dead], [(Prod.mk 16000 (Blk.mk BKind.box 24 3 [[(i64 b0_0), (i64 b0_1), (AVal.ro 3 b0_2)]])), (Prod.mk 16016 (Blk.mk BKind.box 27 2 [[(i64 b1_0), (i64 b1_1)]])), (Prod.mk 16032 (Blk.mk BKind.box 27 2 [[(i64 b2_0), (i64 b2_1)]])), (Prod.mk 35232 (Blk.mk BKind.arr 3 1 R3)), (Prod.mk 16000224 (Blk.mk BKind.box 28 1 [[(AVal.slc 35232 R3.length)]])), (Prod.mk 48016 (Blk.mk BKind.arr 27 2 R5)), (Prod.mk 16000272 (Blk.mk BKind.box 27 2 [[(i64 t1.1), (i64 t1.2)]]))]⟩) else (loopN B4_1 m ⟨[.dead, (AVal.ro 1 blocked), (i64 class_), .dead, .dead, (AVal.ref 16000 1 0 0), .dead, .dead, (AVal.ref 16016 1 0 0), (AVal.ref 16032 1 0 0), .dead, .dead, .dead, .dead, .dead, (AVal.clo 13 [(AVal.ref 16000224 1 0 0), (AVal.ref 16000 1 0 0)]), (AVal.slc 48016 R5.length), (AVal.ref 16000272 1 0 0), .dead, .dead, .dead, .dead, .dead, .dead, .dead, .dead, .dead, .dead, .dead, .dead, .dead, .dead, .dead, .dead, .dead, .dead, .dead, .dead, .dead, .dead, .dead, .dead, .dead, .dead, .dead, .dead, .dead, .dead, .dead, .dead, .dead, .dead, .dead, .dead, .dead, .dead, .dead, .dead, .dead, .dead, .dead, .dead, .dead, .dead, .dead, (i64 (wr (x65 + (1 : Int)))), .dead, .dead, .dead, .dead, .dead, .dead, .dead, .dead, .dead, .dead, .dead, .dead, .dead, .dead, .dead, .dead, .dead, .dead, .dead, .dead, .dead, .dead, .dead, .dead, .dead, .dead, .dead, .dead, .dead, .dead, .dead, .dead, .dead, .dead, .dead, .dead, .dead, .dead, .dead, .dead, .dead, .dead], [(Prod.mk 16000 (Blk.mk BKind.box 24 3 [[(i64 b0_0), (i64 b0_1), (AVal.ro 3 b0_2)]])), (Prod.mk 16016 (Blk.mk BKind.box 27 2 [[(i64 b1_0), (i64 b1_1)]])), (Prod.mk 16032 (Blk.mk BKind.box 27 2 [[(i64 b2_0), (i64 b2_1)]])), (Prod.mk 35232 (Blk.mk BKind.arr 3 1 R3)), (Prod.mk 16000224 (Blk.mk BKind.box 28 1 [[(AVal.slc 35232 R3.length)]])), (Prod.mk 48016 (Blk.mk BKind.arr 27 2 R5)), (Prod.mk 16000272 (Blk.mk BKind.box 27 2 [[(i64 b6_0), (i64 b6_1)]]))]⟩ (K4_1 k)))) else none)) else none) else (loopN B4_1 m ⟨[.dead, (AVal.ro 1 blocked), (i64 class_), .dead, .dead, (AVal.ref 16000 1 0 0), .dead, .dead, (AVal.ref 16016 1 0 0), (AVal.ref 16032 1 0 0), .dead, .dead, .dead, .dead, .dead, (AVal.clo 13 [(AVal.ref 16000224 1 0 0), (AVal.ref 16000 1 0 0)]), (AVal.slc 48016 R5.length), (AVal.ref 16000272 1 0 0), .dead, .dead, .dead, .dead, .dead, .dead, .dead, .dead, .dead, .dead, .dead, .dead, .dead, .dead, .dead, .dead, .dead, .dead, .dead, .dead, .dead, .dead, .dead, .dead, .dead, .dead, .dead, .dead, .dead, .dead, .dead, .dead, .dead, .dead, .dead, .dead, .dead, .dead, .dead, .dead, .dead, .dead, .dead, .dead, .dead, .dead, .dead, (i64 (wr (x65 + (1 : Int)))), .dead, .dead, .dead, .dead, .dead, .dead, .dead, .dead, .dead, .dead, .dead, .dead, .dead, .dead, .dead, .dead, .dead, .dead, .dead, .dead, .dead, .dead, .dead, .dead, .dead, .dead, .dead, .dead, .dead, .dead, .dead, .dead, .dead, .dead, .dead, .dead, .dead, .dead, .dead, .dead, .dead, .dead], [(Prod.mk 16000 (Blk.mk BKind.box 24 3 [[(i64 b0_0), (i64 b0_1), (AVal.ro 3 b0_2)]])), (Prod.mk 16016 (Blk.mk BKind.box 27 2 [[(i64 b1_0), (i64 b1_1)]])), (Prod.mk 16032 (Blk.mk BKind.box 27 2 [[(i64 b2_0), (i64 b2_1)]])), (Prod.mk 35232 (Blk.mk BKind.arr 3 1 R3)), (Prod.mk 16000224 (Blk.mk BKind.box 28 1 [[(AVal.slc 35232 R3.length)]])), (Prod.mk 48016 (Blk.mk BKind.arr 27 2 R5)), (Prod.mk 16000272 (Blk.mk BKind.box 27 2 [[(i64 b6_0), (i64 b6_1)]]))]⟩ (K4_1 k)))) else none)))) else (k (.exit 2) ⟨[.dead, (AVal.ro 1 blocked), (i64 class_), .dead, .dead, (AVal.ref 16000 1 0 0), .dead, .dead, (AVal.ref 16016 1 0 0), (AVal.ref 16032 1 0 0), .dead, .dead, .dead, .dead, .dead, (AVal.clo 13 [(AVal.ref 16000224 1 0 0), (AVal.ref 16000 1 0 0)]), (AVal.slc 48016 R5.length), (AVal.ref 16000272 1 0 0), .dead, .dead, .dead, .dead, .dead, .dead, .dead, .dead, .dead, .dead, .dead, .dead, .dead, .dead, .dead, .dead, .dead, .dead, .dead, .dead, .dead, .dead, .dead, .dead, .dead, .dead, .dead, .dead, .dead, .dead, .dead, .dead, .dead, .dead, .dead, .dead, .dead, .dead, .dead, .dead, .dead, .dead, .dead, .dead, .dead, .dead, .dead, .dead, .dead, .dead, .dead, .dead, .dead, .dead, .dead, .dead, .dead, .dead, .dead, .dead, .dead, .dead, .dead, .dead, .dead, .dead, .dead, .dead, .dead, .dead, .dead, .dead, .dead, .dead, .dead, .dead, .dead, .dead, .dead, .dead, .dead, .dead, .dead, .dead, .dead, .dead, .dead, .dead, .dead, .dead], [(Prod.mk 16000 (Blk.mk BKind.box 24 3 [[(i64 b0_0), (i64 b0_1), (AVal.ro 3 b0_2)]])), (Prod.mk 16016 (Blk.mk BKind.box 27 2 [[(i64 b1_0), (i64 b1_1)]])), (Prod.mk 16032 (Blk.mk BKind.box 27 2 [[(i64 b2_0), (i64 b2_1)]])), (Prod.mk 35232 (Blk.mk BKind.arr 3 1 R3)), (Prod.mk 16000224 (Blk.mk BKind.box 28 1 [[(AVal.slc 35232 R3.length)]])), (Prod.mk 48016 (Blk.mk BKind.arr 27 2 R5)), (Prod.mk 16000272 (Blk.mk BKind.box 27 2 [[(i64 b6_0), (i64 b6_1)]]))]⟩))) (by kernel_rfl)
      (n_condH rfl (fun h0 => (n_bind fun t => (n_condH rfl (fun h1 => (spec4_1 k m R3 R5 blocked class_ (wr (x65 + (1 : Int))) b0_0 b0_1 b0_2 b1_0 b1_1 b2_0 b2_1 b6_0 b6_1)) fun h1 => (n_bind fun t1 => (n_true (n_andL (n_andL (n_andL rfl (by first | exact verEq_of rfl | simp [verEq, blkLen, blkAt])) rfl) rfl) (n_bind fun t2 => (n_condH rfl (fun h2 => (n_true (n_andL (n_andL (n_andL rfl (by first | exact verEq_of rfl | simp [verEq, blkLen, blkAt])) rfl) rfl) (n_bind fun t3 => (n_true (n_andL (n_andL (n_andL rfl (by first | exact verEq_of rfl | simp [verEq, blkLen, blkAt])) rfl) rfl) (n_bind fun t4 => (n_condH rfl (fun h3 => rfl) fun h3 => (spec4_1 k m R3 R5 blocked class_ (wr (x65 + (1 : Int))) b0_0 b0_1 b0_2 b1_0 b1_1 b2_0 b2_1 b6_0 b6_1))))))) fun h2 => (spec4_1 k m R3 R5 blocked class_ (wr (x65 + (1 : Int))) b0_0 b0_1 b0_2 b1_0 b1_1 b2_0 b2_1 b6_0 b6_1)))))))) fun h0 => rfl)
theorem okL4_1 : LoopOk TT TU GL0 C12 ownF L4 (lp Tryd.f4 1) :=
  loopOk_of ks4_1 hs4_1 W4_1 FU (fun s k => (G_astar_Path_1 (blkAt s.heap 3).2.rows (roRows (cIa s.tmps 1)) (toI (cIa s.tmps 2)) (toI (cIa (rows0 (blkAt s.heap 0).2) 0)) (toI (cIa (rows0 (blkAt s.heap 0).2) 1)) (roRows (cIa (rows0 (blkAt s.heap 0).2) 2)) (toI (cIa (rows0 (blkAt s.heap 6).2) 0)) (toI (cIa (rows0 (blkAt s.heap 6).2) 1)) FU (toI (cIa s.tmps 65))).bind (X4_1 (blkAt s.heap 3).2.rows (blkAt s.heap 5).2.rows (roRows (cIa s.tmps 1)) (toI (cIa s.tmps 2)) (toI (cIa (rows0 (blkAt s.heap 0).2) 0)) (toI (cIa (rows0 (blkAt s.heap 0).2) 1)) (roRows (cIa (rows0 (blkAt s.heap 0).2) 2)) (toI (cIa (rows0 (blkAt s.heap 1).2) 0)) (toI (cIa (rows0 (blkAt s.heap 1).2) 1)) (toI (cIa (rows0 (blkAt s.heap 2).2) 0)) (toI (cIa (rows0 (blkAt s.heap 2).2) 1)) k)) (fun s k => by kernel_rfl) (fun s k => spec4_1 k FU (blkAt s.heap 3).2.rows (blkAt s.heap 5).2.rows (roRows (cIa s.tmps 1)) (toI (cIa s.tmps 2)) (toI (cIa s.tmps 65)) (toI (cIa (rows0 (blkAt s.heap 0).2) 0)) (toI (cIa (rows0 (blkAt s.heap 0).2) 1)) (roRows (cIa (rows0 (blkAt s.heap 0).2) 2)) (toI (cIa (rows0 (blkAt s.heap 1).2) 0)) (toI (cIa (rows0 (blkAt s.heap 1).2) 1)) (toI (cIa (rows0 (blkAt s.heap 2).2) 0)) (toI (cIa (rows0 (blkAt s.heap 2).2) 1)) (toI (cIa (rows0 (blkAt s.heap 6).2) 0)) (toI (cIa (rows0 (blkAt s.heap 6).2) 1)))
@[reducible] noncomputable def B4_0 := bodyOf TT TU GL0 C12 ownF L4 (lp Tryd.f4 0)
@[reducible] noncomputable def K4_0 (k : Ex → St → Option CR) : Ex → St → Option CR := fun e s => k e (maskS (W4_0 e) s)
theorem spec4_0 (k : Ex → St → Option CR) : ∀ (m : Nat) (R3 : List (List AVal)) (R5 : List (List AVal)) (blocked : List (List AVal)) (class_ : Int) (b0_0 : Int) (b0_1 : Int) (b0_2 : List (List AVal)) (b1_0 : Int) (b1_1 : Int) (b2_0 : Int) (b2_1 : Int) (b6_0 : Int) (b6_1 : Int), loopN B4_0 m (E4_0 R3 R5 blocked class_ b0_0 b0_1 b0_2 b1_0 b1_1 b2_0 b2_1 b6_0 b6_1) (K4_0 k) = (G_astar_Path_0 R3 blocked class_ b0_0 b0_1 b0_2 b2_0 b2_1 m R5 b6_0 b6_1).bind (X4_0 R3 b0_0 b0_1 b0_2 b1_0 b1_1 k)
  | 0, _, _, _, _, _, _, _, _, _, _, _, _, _ => rfl
  | m + 1, R3, R5, blocked, class_, b0_0, b0_1, b0_2, b1_0, b1_1, b2_0, b2_1, b6_0, b6_1 =>
    Eq.trans (b := (bif (!((b6_0 == b2_0) && (b6_1 == b2_1))) then (bif (((true && (verEq R5.length (blkLen [(Prod.mk 16000 (Blk.mk BKind.box 24 3 [[(i64 b0_0), (i64 b0_1), (AVal.ro 3 b0_2)]])), (Prod.mk 16016 (Blk.mk BKind.box 27 2 [[(i64 b1_0), (i64 b1_1)]])), (Prod.mk 16032 (Blk.mk BKind.box 27 2 [[(i64 b2_0), (i64 b2_1)]])), (Prod.mk 35232 (Blk.mk BKind.arr 3 1 R3)), (Prod.mk 16000224 (Blk.mk BKind.box 28 1 [[(AVal.slc 35232 R3.length)]])), (Prod.mk 48016 (Blk.mk BKind.arr 27 2 R5)), (Prod.mk 16000272 (Blk.mk BKind.box 27 2 [[(i64 b6_0), (i64 b6_1)]]))] 5))) && true) && (((true && (verEq R3.length (blkLen [(Prod.mk 16000 (Blk.mk BKind.box 24 3 [[(i64 b0_0), (i64 b0_1), (AVal.ro 3 b0_2)]])), (Prod.mk 16016 (Blk.mk BKind.box 27 2 [[(i64 b1_0), (i64 b1_1)]])), (Prod.mk 16032 (Blk.mk BKind.box 27 2 [[(i64 b2_0), (i64 b2_1)]])), (Prod.mk 35232 (Blk.mk BKind.arr 3 1 R3)), (Prod.mk 16000224 (Blk.mk BKind.box 28 1 [[(AVal.slc 35232 R3.length)]])), (Prod.mk 48016 (Blk.mk BKind.arr 27 2 R5)), (Prod.mk 16000272 (Blk.mk BKind.box 27 2 [[(i64 b6_0), (i64 b6_1)]]))] 3))) && true) && true)) then (Option.bind (G_astar_Path_1 R3 blocked class_ b0_0 b0_1 b0_2 b6_0 b6_1 FU (0 : Int)) fun t => (bif (((verEq R5.length R5.length) && true) && (roomOk (R5.length + 1) 16)) then (loopN B4_0 m ⟨[.dead, (AVal.ro 1 blocked), (i64 class_), .dead, .dead, (AVal.ref 16000 1 0 0), .dead, .dead, (AVal.ref 16016 1 0 0), (AVal.ref 16032 1 0 0), .dead, .dead, .dead, .dead, .dead, (AVal.clo 13 [(AVal.ref 16000224 1 0 0), (AVal.ref 16000 1 0 0)]), (AVal.slc 48016 (R5 ++ [[(i64 t.1), (i64 t.2)]]).length), (AVal.ref 16000272 1 0 0), .dead, .dead, .dead, .dead, .dead, .dead, .dead, .dead, .dead, .dead, .dead, .dead, .dead, .dead, .dead, .dead, .dead, .dead, .dead, .dead, .dead, .dead, .dead, .dead, .dead, .dead, .dead, .dead, .dead, .dead, .dead, .dead, .dead, .dead, .dead, .dead, .dead, .dead, .dead, .dead, .dead, .dead, .dead, .dead, .dead, .dead, .dead, .dead, .dead, .dead, .dead, .dead, .dead, .dead, .dead, .dead, .dead, .dead, .dead, .dead, .dead, .dead, .dead, .dead, .dead, .dead, .dead, .dead, .dead, .dead, .dead, .dead, .dead, .dead, .dead, .dead, .dead, .dead, .dead, .dead, .dead, .dead, .dead, .dead, .dead, .dead, .dead, .dead, .dead, .dead], [(Prod.mk 16000 (Blk.mk BKind.box 24 3 [[(i64 b0_0), (i64 b0_1), (AVal.ro 3 b0_2)]])), (Prod.mk 16016 (Blk.mk BKind.box 27 2 [[(i64 b1_0), (i64 b1_1)]])), (Prod.mk 16032 (Blk.mk BKind.box 27 2 [[(i64 b2_0), (i64 b2_1)]])), (Prod.mk 35232 (Blk.mk BKind.arr 3 1 R3)), (Prod.mk 16000224 (Blk.mk BKind.box 28 1 [[(AVal.slc 35232 R3.length)]])), (Prod.mk 48016 (Blk.mk BKind.arr 27 2 (R5 ++ [[(i64 t.1), (i64 t.2)]]))), (Prod.mk 16000272 (Blk.mk BKind.box 27 2 [[(i64 t.1), (i64 t.2)]]))]⟩ (K4_0 k)) else none)) else none) else (k (.exit 0) ⟨[.dead, .dead, .dead, .dead, .dead, .dead, .dead, .dead, (AVal.ref 16016 1 0 0), .dead, .dead, .dead, .dead, .dead, .dead, (AVal.clo 13 [(AVal.ref 16000224 1 0 0), (AVal.ref 16000 1 0 0)]), (AVal.slc 48016 R5.length), .dead, .dead, .dead, .dead, .dead, .dead, .dead, .dead, .dead, .dead, .dead, .dead, .dead, .dead, .dead, .dead, .dead, .dead, .dead, .dead, .dead, .dead, .dead, .dead, .dead, .dead, .dead, .dead, .dead, .dead, .dead, .dead, .dead, .dead, .dead, .dead, .dead, .dead, .dead, .dead, .dead, .dead, .dead, .dead, .dead, .dead, .dead, .dead, .dead, .dead, .dead, .dead, .dead, .dead, .dead, .dead, .dead, .dead, .dead, .dead, .dead, .dead, .dead, .dead, .dead, .dead, .dead, .dead, .dead, .dead, .dead, .dead, .dead, .dead, .dead, .dead, .dead, .dead, .dead, .dead, .dead, .dead, .dead, .dead, .dead, .dead, .dead, .dead, .dead, .dead, .dead], [(Prod.mk 16000 (Blk.mk BKind.box 24 3 [[(i64 b0_0), (i64 b0_1), (AVal.ro 3 b0_2)]])), (Prod.mk 16016 (Blk.mk BKind.box 27 2 [[(i64 b1_0), (i64 b1_1)]])), (Prod.mk 35232 (Blk.mk BKind.arr 3 1 R3)), (Prod.mk 16000224 (Blk.mk BKind.box 28 1 [[(AVal.slc 35232 R3.length)]])), (Prod.mk 48016 (Blk.mk BKind.arr 27 2 R5))]⟩))) (by kernel_rfl)
      (n_condH rfl (fun h0 => (n_true (n_andL (n_andL (n_andL rfl (by first | exact verEq_of rfl | simp [verEq, blkLen, blkAt])) rfl) (n_andL (n_andL (n_andL rfl (by first | exact verEq_of rfl | simp [verEq, blkLen, blkAt])) rfl) rfl)) (n_bind fun t => (n_condH (n_andL (n_andL (verEq_rfl _) rfl) rfl) (fun h1 => (spec4_0 k m R3 (R5 ++ [[(i64 t.1), (i64 t.2)]]) blocked class_ b0_0 b0_1 b0_2 b1_0 b1_1 b2_0 b2_1 t.1 t.2)) fun h1 => n_none)))) fun h0 => rfl)
theorem okL4_0 : LoopOk TT TU GL0 C12 ownF L4 (lp Tryd.f4 0) :=
  loopOk_of ks4_0 hs4_0 W4_0 FU (fun s k => (G_astar_Path_0 (blkAt s.heap 3).2.rows (roRows (cIa s.tmps 1)) (toI (cIa s.tmps 2)) (toI (cIa (rows0 (blkAt s.heap 0).2) 0)) (toI (cIa (rows0 (blkAt s.heap 0).2) 1)) (roRows (cIa (rows0 (blkAt s.heap 0).2) 2)) (toI (cIa (rows0 (blkAt s.heap 2).2) 0)) (toI (cIa (rows0 (blkAt s.heap 2).2) 1)) FU (blkAt s.heap 5).2.rows (toI (cIa (rows0 (blkAt s.heap 6).2) 0)) (toI (cIa (rows0 (blkAt s.heap 6).2) 1))).bind (X4_0 (blkAt s.heap 3).2.rows (toI (cIa (rows0 (blkAt s.heap 0).2) 0)) (toI (cIa (rows0 (blkAt s.heap 0).2) 1)) (roRows (cIa (rows0 (blkAt s.heap 0).2) 2)) (toI (cIa (rows0 (blkAt s.heap 1).2) 0)) (toI (cIa (rows0 (blkAt s.heap 1).2) 1)) k)) (fun s k => by kernel_rfl) (fun s k => spec4_0 k FU (blkAt s.heap 3).2.rows (blkAt s.heap 5).2.rows (roRows (cIa s.tmps 1)) (toI (cIa s.tmps 2)) (toI (cIa (rows0 (blkAt s.heap 0).2) 0)) (toI (cIa (rows0 (blkAt s.heap 0).2) 1)) (roRows (cIa (rows0 (blkAt s.heap 0).2) 2)) (toI (cIa (rows0 (blkAt s.heap 1).2) 0)) (toI (cIa (rows0 (blkAt s.heap 1).2) 1)) (toI (cIa (rows0 (blkAt s.heap 2).2) 0)) (toI (cIa (rows0 (blkAt s.heap 2).2) 1)) (toI (cIa (rows0 (blkAt s.heap 6).2) 0)) (toI (cIa (rows0 (blkAt s.heap 6).2) 1)))
theorem run4 (m_W : Int) (m_H : Int) (m_Cells : List (List AVal)) (blocked : List (List AVal)) (class_ : Int) (a_X : Int) (a_Y : Int) (b_X : Int) (b_Y : Int) : fcall TT TU GL0 C12 ownF true L4 Tryd.f4 [(.agg [(.sc (.int .i64 m_W)), (.sc (.int .i64 m_H)), (.ro 3 m_Cells)]), (.ro 1 blocked), (.sc (.int .i64 class_)), (.agg [(.sc (.int .i64 a_X)), (.sc (.int .i64 a_Y))]), (.agg [(.sc (.int .i64 b_X)), (.sc (.int .i64 b_Y))])] = (F_astar_Path m_W m_H m_Cells blocked class_ a_X a_Y b_X b_Y).bind fun t => some (enc4 t) :=
  Eq.trans (b := (Option.bind (F_astar_ground__valid m_W m_H m_Cells blocked class_) fun t => (bif (!t) then (some (CR.mk true (AVal.tup [(AVal.slc 0 0), (i64 (0 : Int)), (i64 (1 : Int))]) [] [(Blk.mk BKind.arr 27 2 [])])) else (Option.bind (F_astar_ground__inside m_W m_H m_Cells blocked class_ a_X a_Y) fun t1 => (bif (!t1) then (some (CR.mk true (AVal.tup [(AVal.slc 0 0), (i64 (0 : Int)), (i64 (1 : Int))]) [] [(Blk.mk BKind.arr 27 2 [])])) else (Option.bind (F_astar_ground__inside m_W m_H m_Cells blocked class_ b_X b_Y) fun t2 => (bif (!t2) then (some (CR.mk true (AVal.tup [(AVal.slc 0 0), (i64 (0 : Int)), (i64 (1 : Int))]) [] [(Blk.mk BKind.arr 27 2 [])])) else (Option.bind (F_astar_ground__free m_W m_H m_Cells blocked class_ a_X a_Y) fun t3 => (bif (!t3) then (some (CR.mk true (AVal.tup [(AVal.slc 0 0), (i64 (0 : Int)), (i64 (9 : Int))]) [] [(Blk.mk BKind.arr 27 2 [])])) else (Option.bind (F_astar_ground__free m_W m_H m_Cells blocked class_ b_X b_Y) fun t4 => (bif (!t4) then (some (CR.mk true (AVal.tup [(AVal.slc 0 0), (i64 (0 : Int)), (i64 (9 : Int))]) [] [(Blk.mk BKind.arr 27 2 [])])) else (Option.bind (F_astar_ground__reach m_W m_H m_Cells blocked class_ b_X b_Y) fun t5 => (bif ((((true && (verEq t5.length t5.length)) && true) && true) && true) then (bif (((true && (verEq t5.length (blkLen [(Prod.mk 0 (Blk.mk BKind.box 28 1 [[(AVal.slc 2 t5.length)]])), (Prod.mk 1 (Blk.mk BKind.box 24 3 [[(i64 m_W), (i64 m_H), (AVal.ro 3 m_Cells)]])), (Prod.mk 2 (Blk.mk BKind.arr 3 1 t5))] 2))) && true) && true) then (Option.bind (F_astar_Path_1 a_X a_Y t5 m_W m_H m_Cells) fun t6 => (bif (decide (t6 < (0 : Int))) then (some (CR.mk true (AVal.tup [(AVal.slc 0 0), (i64 (0 : Int)), (i64 (22 : Int))]) [] [(Blk.mk BKind.arr 27 2 [])])) else (bif (((true && (verEq t5.length (blkLen [(Prod.mk 16000 (Blk.mk BKind.box 24 3 [[(i64 m_W), (i64 m_H), (AVal.ro 3 m_Cells)]])), (Prod.mk 16016 (Blk.mk BKind.box 27 2 [[(i64 a_X), (i64 a_Y)]])), (Prod.mk 16032 (Blk.mk BKind.box 27 2 [[(i64 b_X), (i64 b_Y)]])), (Prod.mk 35232 (Blk.mk BKind.arr 3 1 t5)), (Prod.mk 16000224 (Blk.mk BKind.box 28 1 [[(AVal.slc 35232 t5.length)]])), (Prod.mk 48016 (Blk.mk BKind.arr 27 2 [[(i64 a_X), (i64 a_Y)]])), (Prod.mk 16000272 (Blk.mk BKind.box 27 2 [[(i64 a_X), (i64 a_Y)]]))] 3))) && true) && true) then (Option.bind (G_astar_Path_0 t5 blocked class_ m_W m_H m_Cells b_X b_Y FU [[(i64 a_X), (i64 a_Y)]] a_X a_Y) fun t7 => (bif (((true && (verEq t5.length (blkLen [(Prod.mk 0 (Blk.mk BKind.box 28 1 [[(AVal.slc 2 t5.length)]])), (Prod.mk 1 (Blk.mk BKind.box 24 3 [[(i64 m_W), (i64 m_H), (AVal.ro 3 m_Cells)]])), (Prod.mk 2 (Blk.mk BKind.arr 3 1 t5))] 2))) && true) && true) then (Option.bind (F_astar_Path_1 a_X a_Y t5 m_W m_H m_Cells) fun t8 => (bif (verEq t7.length t7.length) then (some (CR.mk true (AVal.tup [(AVal.slc 0 t7.length), (i64 t8), (i64 (0 : Int))]) [] [(Blk.mk BKind.arr 27 2 t7)])) else none)) else none)) else none))) else none) else none))))))))))))) (by kernel_rfl)
    (n_bind fun t => (n_condH rfl (fun h0 => rfl) fun h0 => (n_bind fun t1 => (n_condH rfl (fun h1 => rfl) fun h1 => (n_bind fun t2 => (n_condH rfl (fun h2 => rfl) fun h2 => (n_bind fun t3 => (n_condH rfl (fun h3 => rfl) fun h3 => (n_bind fun t4 => (n_condH rfl (fun h4 => rfl) fun h4 => (n_bind fun t5 => (n_true (n_andL (n_andL (n_andL (n_andL rfl (verEq_rfl _)) rfl) rfl) rfl) (n_true (n_andL (n_andL (n_andL rfl (by first | exact verEq_of rfl | simp [verEq, blkLen, blkAt])) rfl) rfl) (n_bind fun t6 => (n_condH rfl (fun h5 => rfl) fun h5 => (n_true (n_andL (n_andL (n_andL rfl (by first | exact verEq_of rfl | simp [verEq, blkLen, blkAt])) rfl) rfl) (n_bind fun t7 => (n_true (n_andL (n_andL (n_andL rfl (by first | exact verEq_of rfl | simp [verEq, blkLen, blkAt])) rfl) rfl) (n_bind fun t8 => (n_true (verEq_rfl _) rfl))))))))))))))))))))
theorem lib4 : Lib Tryd.prog GL0 C4 :=
  Lib.fn lib12 mixed TT_ok Tryd.func4 (by decide +kernel) (by kernel_rfl) true L4 (loops_of 2 (by kernel_rfl) (belowS (belowS below0 okL4_0) okL4_1)) ks4 (F := fun us => F_astar_Path (toI (cIa (aggL (cIa us 0)) 0)) (toI (cIa (aggL (cIa us 0)) 1)) (roRows (cIa (aggL (cIa us 0)) 2)) (roRows (cIa us 1)) (toI (cIa us 2)) (toI (cIa (aggL (cIa us 3)) 0)) (toI (cIa (aggL (cIa us 3)) 1)) (toI (cIa (aggL (cIa us 4)) 0)) (toI (cIa (aggL (cIa us 4)) 1))) (fun us => rfl) (fun us => run4 (toI (cIa (aggL (cIa us 0)) 0)) (toI (cIa (aggL (cIa us 0)) 1)) (roRows (cIa (aggL (cIa us 0)) 2)) (roRows (cIa us 1)) (toI (cIa us 2)) (toI (cIa (aggL (cIa us 3)) 0)) (toI (cIa (aggL (cIa us 3)) 1)) (toI (cIa (aggL (cIa us 4)) 0)) (toI (cIa (aggL (cIa us 4)) 1))) (fun t => rfl)

/-! ### 17: skirmish/skirmishtop.flat -/

noncomputable def W17_0 : Ex → List Bool
  | .ret => [false, false, false, false, true, false, false, false, false, false, false, false, false, false, false, false, false, false, false, false, false, false, false, false]
  | .exit n => bif Nat.beq n 0 then [false, false, false, false, true, true, false, false, false, false, false, false, false, false, false, false, false, false, false, false, false, false, false, false] else []
  | _ => []
noncomputable def G_skirmishtop_flat_0 (w : Int) (h : Int) : Nat → List (List AVal) → Int → Option (List (List AVal))
  | 0, _, _ => none
  | m + 1, R2, i =>
    bif (decide (i < (wr (w * h)))) then
      bif (roomOk (R2.length + 1) 24) then
        G_skirmishtop_flat_0 w h m (R2 ++ [[(i64 (1 : Int)), (i64 (0 : Int)), (i64 (0 : Int))]]) (wr (i + (1 : Int)))
      else
      none
    else
    some R2
noncomputable def E17_0 (R0 : List (List AVal)) (R2 : List (List AVal)) (w : Int) (h : Int) (i : Int) (b1_0 : Int) (b1_1 : Int) (b3_0 : Int) (b3_1 : Int) : St := ⟨[(.sc (.int .i64 w)), (.sc (.int .i64 h)), .dead, .dead, (.ref 16000064 1 0 0), (.ref 16000080 1 0 0), (.sc (.int .i64 i)), .dead, .dead, .dead, .dead, .dead, .dead, .dead, .dead, .dead, .dead, .dead, .dead, .dead, .dead, .dead, .dead, .dead], [(16000067, ⟨.arr, 35, 3, R0⟩), (16000064, ⟨.box, 24, 3, [[(.sc (.int .i64 b1_0)), (.sc (.int .i64 b1_1)), (.slc 16000067 (R0).length)]]⟩), (19234, ⟨.arr, 35, 3, R2⟩), (16000080, ⟨.box, 24, 3, [[(.sc (.int .i64 b3_0)), (.sc (.int .i64 b3_1)), (.slc 19234 (R2).length)]]⟩)]⟩
noncomputable def X17_0 (R0 : List (List AVal)) (b1_0 : Int) (b1_1 : Int) (b3_0 : Int) (b3_1 : Int) (k : Ex → St → Option CR) (t : List (List AVal)) : Option CR := k (.exit 0) ⟨[.dead, .dead, .dead, .dead, (.ref 16000064 1 0 0), (.ref 16000080 1 0 0), .dead, .dead, .dead, .dead, .dead, .dead, .dead, .dead, .dead, .dead, .dead, .dead, .dead, .dead, .dead, .dead, .dead, .dead], [(16000067, ⟨.arr, 35, 3, R0⟩), (16000064, ⟨.box, 24, 3, [[(.sc (.int .i64 b1_0)), (.sc (.int .i64 b1_1)), (.slc 16000067 (R0).length)]]⟩), (19234, ⟨.arr, 35, 3, t⟩), (16000080, ⟨.box, 24, 3, [[(.sc (.int .i64 b3_0)), (.sc (.int .i64 b3_1)), (.slc 19234 (t).length)]]⟩)]⟩
noncomputable def ks17_0 : List SK := [.f (.int .i64), .f (.int .i64), .f .dead, .f .dead, .f (.ref 16000064 1 0 0), .f (.ref 16000080 1 0 0), .f (.int .i64), .f .dead, .f .dead, .f .dead, .f .dead, .f .dead, .f .dead, .f .dead, .f .dead, .f .dead, .f .dead, .f .dead, .f .dead, .f .dead, .f .dead, .f .dead, .f .dead, .f .dead]
noncomputable def hs17_0 : List HK := [⟨16000067, .arr, 35, 3, none⟩, ⟨16000064, .box, 24, 3, some [.int .i64, .int .i64, .slc 16000067 0]⟩, ⟨19234, .arr, 35, 3, none⟩, ⟨16000080, .box, 24, 3, some [.int .i64, .int .i64, .slc 19234 2]⟩]
noncomputable def Lm17_0 (s : St) (k : Ex → St → Option CR) : Option CR := bif chkS ks17_0 hs17_0 s then (G_skirmishtop_flat_0 (toI (cIa s.tmps 0)) (toI (cIa s.tmps 1)) FU (blkAt s.heap 2).2.rows (toI (cIa s.tmps 6))).bind (X17_0 (blkAt s.heap 0).2.rows (toI (cIa (rows0 (blkAt s.heap 1).2) 0)) (toI (cIa (rows0 (blkAt s.heap 1).2) 1)) (toI (cIa (rows0 (blkAt s.heap 3).2) 0)) (toI (cIa (rows0 (blkAt s.heap 3).2) 1)) k) else none
noncomputable def L17_0 (s : St) (k : Ex → St → Option CR) : Option CR := Lm17_0 (maskS (maskOf ks17_0) s) k

noncomputable def L17 : LT' := fun i s k => bif Nat.beq i 0 then L17_0 s k else none

/-- 'skirmish/skirmishtop.flat' -/
noncomputable def F_skirmishtop_flat (w : Int) (h : Int) : Option (List (List AVal) × Int × Int) :=
  Option.bind (G_skirmishtop_flat_0 w h FU [] (0 : Int)) fun t =>
  some (t, w, h)
noncomputable def enc17 (t : List (List AVal) × Int × Int) : CR := ⟨true, (.agg [(.sc (.int .i64 t.2.1)), (.sc (.int .i64 t.2.2)), (.slc 0 (t.1).length)]), [], [⟨.arr, 35, 3, t.1⟩]⟩
noncomputable def ks17 : List SK := [.f (.int .i64), .f (.int .i64)]
noncomputable def S17 (us : List AVal) : Call := bif chkA ks17 us then Call.of (F_skirmishtop_flat (toI (cIa us 0)) (toI (cIa us 1))) enc17 else Call.none
noncomputable def C17 := AI.ext 17 S17 C4

@[reducible] noncomputable def B17_0 := bodyOf TT TU GL0 C4 ownE L17 (lp Tryd.f17 0)
@[reducible] noncomputable def K17_0 (k : Ex → St → Option CR) : Ex → St → Option CR := fun e s => k e (maskS (W17_0 e) s)
theorem spec17_0 (k : Ex → St → Option CR) : ∀ (m : Nat) (R0 : List (List AVal)) (R2 : List (List AVal)) (w : Int) (h : Int) (i : Int) (b1_0 : Int) (b1_1 : Int) (b3_0 : Int) (b3_1 : Int), loopN B17_0 m (E17_0 R0 R2 w h i b1_0 b1_1 b3_0 b3_1) (K17_0 k) = (G_skirmishtop_flat_0 w h m R2 i).bind (X17_0 R0 b1_0 b1_1 b3_0 b3_1 k)
  | 0, _, _, _, _, _, _, _, _, _ => rfl
  | m + 1, R0, R2, w, h, i, b1_0, b1_1, b3_0, b3_1 =>
    Eq.trans (b := (bif (decide (i < (wr (w * h)))) then (bif (((verEq R2.length R2.length) && true) && (roomOk (R2.length + 1) 24)) then (loopN B17_0 m ⟨[(i64 w), (i64 h), .dead, .dead, (AVal.ref 16000064 1 0 0), (AVal.ref 16000080 1 0 0), (i64 (wr (i + (1 : Int)))), .dead, .dead, .dead, .dead, .dead, .dead, .dead, .dead, .dead, .dead, .dead, .dead, .dead, .dead, .dead, .dead, .dead], [(Prod.mk 16000067 (Blk.mk BKind.arr 35 3 R0)), (Prod.mk 16000064 (Blk.mk BKind.box 24 3 [[(i64 b1_0), (i64 b1_1), (AVal.slc 16000067 R0.length)]])), (Prod.mk 19234 (Blk.mk BKind.arr 35 3 (R2 ++ [[(i64 (1 : Int)), (i64 (0 : Int)), (i64 (0 : Int))]]))), (Prod.mk 16000080 (Blk.mk BKind.box 24 3 [[(i64 b3_0), (i64 b3_1), (AVal.slc 19234 (R2 ++ [[(i64 (1 : Int)), (i64 (0 : Int)), (i64 (0 : Int))]]).length)]]))]⟩ (K17_0 k)) else none) else (k (.exit 0) ⟨[.dead, .dead, .dead, .dead, (AVal.ref 16000064 1 0 0), (AVal.ref 16000080 1 0 0), .dead, .dead, .dead, .dead, .dead, .dead, .dead, .dead, .dead, .dead, .dead, .dead, .dead, .dead, .dead, .dead, .dead, .dead], [(Prod.mk 16000067 (Blk.mk BKind.arr 35 3 R0)), (Prod.mk 16000064 (Blk.mk BKind.box 24 3 [[(i64 b1_0), (i64 b1_1), (AVal.slc 16000067 R0.length)]])), (Prod.mk 19234 (Blk.mk BKind.arr 35 3 R2)), (Prod.mk 16000080 (Blk.mk BKind.box 24 3 [[(i64 b3_0), (i64 b3_1), (AVal.slc 19234 R2.length)]]))]⟩))) (by kernel_rfl)
      (n_condH rfl (fun h0 => (n_condH (n_andL (n_andL (verEq_rfl _) rfl) rfl) (fun h1 => (spec17_0 k m R0 (R2 ++ [[(i64 (1 : Int)), (i64 (0 : Int)), (i64 (0 : Int))]]) w h (wr (i + (1 : Int))) b1_0 b1_1 b3_0 b3_1)) fun h1 => n_none)) fun h0 => rfl)
theorem okL17_0 : LoopOk TT TU GL0 C4 ownE L17 (lp Tryd.f17 0) :=
  loopOk_of ks17_0 hs17_0 W17_0 FU (fun s k => (G_skirmishtop_flat_0 (toI (cIa s.tmps 0)) (toI (cIa s.tmps 1)) FU (blkAt s.heap 2).2.rows (toI (cIa s.tmps 6))).bind (X17_0 (blkAt s.heap 0).2.rows (toI (cIa (rows0 (blkAt s.heap 1).2) 0)) (toI (cIa (rows0 (blkAt s.heap 1).2) 1)) (toI (cIa (rows0 (blkAt s.heap 3).2) 0)) (toI (cIa (rows0 (blkAt s.heap 3).2) 1)) k)) (fun s k => by kernel_rfl) (fun s k => spec17_0 k FU (blkAt s.heap 0).2.rows (blkAt s.heap 2).2.rows (toI (cIa s.tmps 0)) (toI (cIa s.tmps 1)) (toI (cIa s.tmps 6)) (toI (cIa (rows0 (blkAt s.heap 1).2) 0)) (toI (cIa (rows0 (blkAt s.heap 1).2) 1)) (toI (cIa (rows0 (blkAt s.heap 3).2) 0)) (toI (cIa (rows0 (blkAt s.heap 3).2) 1)))
theorem run17 (w : Int) (h : Int) : fcall TT TU GL0 C4 ownE true L17 Tryd.f17 [(.sc (.int .i64 w)), (.sc (.int .i64 h))] = (F_skirmishtop_flat w h).bind fun t => some (enc17 t) :=
  Eq.trans (b := (Option.bind (G_skirmishtop_flat_0 w h FU [] (0 : Int)) fun t => (bif (verEq t.length t.length) then (some (CR.mk true (AVal.agg [(i64 w), (i64 h), (AVal.slc 0 t.length)]) [] [(Blk.mk BKind.arr 35 3 t)])) else none))) (by kernel_rfl)
    (n_bind fun t => (n_true (verEq_rfl _) rfl))
theorem lib17 : Lib Tryd.prog GL0 C17 :=
  Lib.fn lib4 mixed TT_ok Tryd.func17 (by decide +kernel) (by kernel_rfl) true L17 (loops_of 1 (by kernel_rfl) (belowS below0 okL17_0)) ks17 (F := fun us => F_skirmishtop_flat (toI (cIa us 0)) (toI (cIa us 1))) (fun us => rfl) (fun us => run17 (toI (cIa us 0)) (toI (cIa us 1))) (fun t => rfl)

/-! ### 5: skirmish/skirmishtop.paths -/



/-- 'skirmish/skirmishtop.paths' -/
noncomputable def F_skirmishtop_paths : Option (Bool) :=
  Option.bind (F_skirmishtop_flat (4 : Int) (4 : Int)) fun t =>
  Option.bind (F_astar_Path t.2.1 t.2.2 t.1 [] (1 : Int) (0 : Int) (0 : Int) (2 : Int) (0 : Int)) fun t1 =>
  bif (t1.2.2 == (0 : Int)) then
    bif (t1.2.1 == (20 : Int)) then
      bif ((Int.ofNat t1.1.length) == (3 : Int)) then
        Option.bind (F_terrain_Valid t.2.1 t.2.2 t.1) fun t2 =>
        some t2
      else
      some false
    else
    some false
  else
  some false
noncomputable def enc5 (t : Bool) : CR := ⟨true, (.sc (.bool t)), [], []⟩
noncomputable def ks5 : List SK := []
noncomputable def S5 (us : List AVal) : Call := bif chkA ks5 us then Call.of (F_skirmishtop_paths) enc5 else Call.none
noncomputable def C5 := AI.ext 5 S5 C17

theorem run5 : fcall TT TU GL0 C17 ownF true noL Tryd.f5 [] = (F_skirmishtop_paths).bind fun t => some (enc5 t) :=
  Eq.trans (b := (Option.bind (F_skirmishtop_flat (4 : Int) (4 : Int)) fun t => (bif ((((true && (verEq t.1.length t.1.length)) && true) && true) && true) then (bif (verEq t.1.length t.1.length) then (Option.bind (F_astar_Path t.2.1 t.2.2 t.1 [] (1 : Int) (0 : Int) (0 : Int) (2 : Int) (0 : Int)) fun t1 => (bif ((((true && (verEq t1.1.length t1.1.length)) && true) && true) && true) then (bif (t1.2.2 == (0 : Int)) then (bif (t1.2.1 == (20 : Int)) then (bif (verEq t1.1.length t1.1.length) then (bif ((Int.ofNat t1.1.length) == (3 : Int)) then (bif (verEq t.1.length t.1.length) then (Option.bind (F_terrain_Valid t.2.1 t.2.2 t.1) fun t2 => (some (CR.mk true (bo t2) [] []))) else none) else (some (CR.mk true (bo false) [] []))) else none) else (some (CR.mk true (bo false) [] []))) else (some (CR.mk true (bo false) [] []))) else none)) else none) else none))) (by kernel_rfl)
    (n_bind fun t => (n_true (n_andL (n_andL (n_andL (n_andL rfl (verEq_rfl _)) rfl) rfl) rfl) (n_true (verEq_rfl _) (n_bind fun t1 => (n_true (n_andL (n_andL (n_andL (n_andL rfl (verEq_rfl _)) rfl) rfl) rfl) (n_condH rfl (fun h0 => (n_condH rfl (fun h1 => (n_true (verEq_rfl _) (n_condH rfl (fun h2 => (n_true (verEq_rfl _) (n_bind fun t2 => rfl))) fun h2 => rfl))) fun h1 => rfl)) fun h0 => rfl))))))
theorem lib5 : Lib Tryd.prog GL0 C5 :=
  Lib.fn lib17 mixed TT_ok Tryd.func5 (by decide +kernel) (by kernel_rfl) true noL (loops_of 0 (by kernel_rfl) below0) ks5 (F := fun us => F_skirmishtop_paths) (fun us => rfl) (fun us => run5) (fun t => rfl)

end Go.Proofs.YtmnjdfdiokomhaaDoor.AI
