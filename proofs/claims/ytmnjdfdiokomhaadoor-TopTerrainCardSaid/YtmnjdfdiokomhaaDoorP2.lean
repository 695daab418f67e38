/- What functions answer: printed by wip/tool2/Ev.lean out of the interpreter's run; each print is checked by Lean. -/
import Derived.Test.YtmnjdfdiokomhaaDoorP1
namespace Go.Proofs.YtmnjdfdiokomhaaDoor.AI
open Go.RowKit
set_option linter.unusedVariables false
set_option linter.unusedSimpArgs false
set_option maxRecDepth 100000
/-! ### 35: slices.Clone[[]skirmish/api.Cell,skirmish/api.Cell] -/



/-- 'slices.Clone[[]skirmish/api.Cell,skirmish/api.Cell]' -/
noncomputable def F_slices_Clone_Cell_ne (s1 : List (List AVal)) : Option (List (List AVal)) :=
  bif (List.isEmpty s1) then
    none
  else
  bif (roomOk (0 + s1.length) 24) then
    some s1
  else
  none
noncomputable def F_slices_Clone_Cell (s1 : List (List AVal)) : Option (List (List AVal)) := bif s1.isEmpty then some [] else F_slices_Clone_Cell_ne s1
noncomputable def enc35 (t : List (List AVal)) : CR := ⟨true, (.slc 0 (t).length), [], [⟨.arr, 35, 3, t⟩]⟩
noncomputable def S35 (us : List AVal) : Call := bif chkA [.f (.ro 3)] us then Call.of (F_slices_Clone_Cell (roRows (cIa us 0))) enc35 else Call.none
noncomputable def C35 := AI.ext 35 S35 C5

theorem run35 (s1 : List (List AVal)) : fcall TT TU GL0 C5 ownF true noL Tryd.f35 [(.ro 3 s1)] = (F_slices_Clone_Cell_ne s1).bind fun t => some (enc35 t) :=
  Eq.trans (b := (bif (List.isEmpty s1) then none else (bif (roomOk (0 + s1.length) 24) then (bif (verEq s1.length s1.length) then (some (CR.mk true (AVal.slc 0 s1.length) [] [(Blk.mk BKind.arr 35 3 s1)])) else none) else none))) (by kernel_rfl)
    (n_condH rfl (fun h0 => n_none) fun h0 => (n_condH rfl (fun h1 => (n_true (verEq_rfl _) rfl)) fun h1 => n_none))
theorem lib35 : Lib Tryd.prog GL0 C35 :=
  Lib.clone lib5 mixed TT_ok Tryd.func35 (by decide +kernel) (by kernel_rfl) true noL (loops_of 0 (by kernel_rfl) below0)  3 (fun us => rfl) run35 (fun a cap => by cases a <;> kernel_rfl) (fun t => rfl)

/-! ### 20: skirmish/terrain.with -/



/-- 'skirmish/terrain.with' -/
noncomputable def F_terrain_with (m_W : Int) (m_H : Int) (m_Cells : List (List AVal)) (p_X : Int) (p_Y : Int) (c_Kind : Int) (c_Height : Int) (c_Amount : Int) : Option (List (List AVal) × Int × Int) :=
  Option.bind (F_slices_Clone_Cell m_Cells) fun t =>
  Option.bind (F_grid_Index m_W p_X p_Y) fun t1 =>
  bif ((decide ((0 : Int) ≤ t1)) && (decide (t1 < (Int.ofNat t.length)))) then
    some ((List.set t t1.toNat [(i64 c_Kind), (i64 c_Height), (i64 c_Amount)]), m_W, m_H)
  else
  none
noncomputable def enc20 (t : List (List AVal) × Int × Int) : CR := ⟨true, (.agg [(.sc (.int .i64 t.2.1)), (.sc (.int .i64 t.2.2)), (.slc 0 (t.1).length)]), [], [⟨.arr, 35, 3, t.1⟩]⟩
noncomputable def ks20 : List SK := [.agg [.int .i64, .int .i64, .ro 3], .agg [.int .i64, .int .i64], .agg [.int .i64, .int .i64, .int .i64]]
noncomputable def S20 (us : List AVal) : Call := bif chkA ks20 us then Call.of (F_terrain_with (toI (cIa (aggL (cIa us 0)) 0)) (toI (cIa (aggL (cIa us 0)) 1)) (roRows (cIa (aggL (cIa us 0)) 2)) (toI (cIa (aggL (cIa us 1)) 0)) (toI (cIa (aggL (cIa us 1)) 1)) (toI (cIa (aggL (cIa us 2)) 0)) (toI (cIa (aggL (cIa us 2)) 1)) (toI (cIa (aggL (cIa us 2)) 2))) enc20 else Call.none
noncomputable def C20 := AI.ext 20 S20 C35

theorem run20 (m_W : Int) (m_H : Int) (m_Cells : List (List AVal)) (p_X : Int) (p_Y : Int) (c_Kind : Int) (c_Height : Int) (c_Amount : Int) : fcall TT TU GL0 C35 ownF true noL Tryd.f20 [(.agg [(.sc (.int .i64 m_W)), (.sc (.int .i64 m_H)), (.ro 3 m_Cells)]), (.agg [(.sc (.int .i64 p_X)), (.sc (.int .i64 p_Y))]), (.agg [(.sc (.int .i64 c_Kind)), (.sc (.int .i64 c_Height)), (.sc (.int .i64 c_Amount))])] = (F_terrain_with m_W m_H m_Cells p_X p_Y c_Kind c_Height c_Amount).bind fun t => some (enc20 t) :=
  Eq.trans (b := (Option.bind (F_slices_Clone_Cell m_Cells) fun t => (bif ((((true && (verEq t.length t.length)) && true) && true) && true) then (Option.bind (F_grid_Index m_W p_X p_Y) fun t1 => (bif (((verEq t.length t.length) && (decide ((0 : Int) ≤ t1))) && (decide (t1 < (Int.ofNat t.length)))) then (bif ((((verEq t.length t.length) && true) && true) && true) then (bif (verEq (Blk.rows (Blk.mk BKind.arr 35 3 (List.set t t1.toNat [(i64 c_Kind), (i64 c_Height), (i64 c_Amount)]))).length t.length) then (some (CR.mk true (AVal.agg [(i64 m_W), (i64 m_H), (AVal.slc 0 (Blk.rows (Blk.mk BKind.arr 35 3 (List.set t t1.toNat [(i64 c_Kind), (i64 c_Height), (i64 c_Amount)]))).length)]) [] [(Blk.mk BKind.arr 35 3 (List.set t t1.toNat [(i64 c_Kind), (i64 c_Height), (i64 c_Amount)]))])) else none) else none) else none)) else none))) (by kernel_rfl)
    (n_bind fun t => (n_true (n_andL (n_andL (n_andL (n_andL rfl (verEq_rfl _)) rfl) rfl) rfl) (n_bind fun t1 => (n_condH (n_and (n_andL (verEq_rfl _) rfl) rfl) (fun h0 => (n_true (n_andL (n_andL (n_andL (verEq_rfl _) rfl) rfl) rfl) (n_true (by first | exact verEq_of rfl | simp [verEq, blkLen, blkAt]) rfl))) fun h0 => n_none))))
theorem lib20 : Lib Tryd.prog GL0 C20 :=
  Lib.fn lib35 mixed TT_ok Tryd.func20 (by decide +kernel) (by kernel_rfl) true noL (loops_of 0 (by kernel_rfl) below0) ks20 (F := fun us => F_terrain_with (toI (cIa (aggL (cIa us 0)) 0)) (toI (cIa (aggL (cIa us 0)) 1)) (roRows (cIa (aggL (cIa us 0)) 2)) (toI (cIa (aggL (cIa us 1)) 0)) (toI (cIa (aggL (cIa us 1)) 1)) (toI (cIa (aggL (cIa us 2)) 0)) (toI (cIa (aggL (cIa us 2)) 1)) (toI (cIa (aggL (cIa us 2)) 2))) (fun us => rfl) (fun us => run20 (toI (cIa (aggL (cIa us 0)) 0)) (toI (cIa (aggL (cIa us 0)) 1)) (roRows (cIa (aggL (cIa us 0)) 2)) (toI (cIa (aggL (cIa us 1)) 0)) (toI (cIa (aggL (cIa us 1)) 1)) (toI (cIa (aggL (cIa us 2)) 0)) (toI (cIa (aggL (cIa us 2)) 1)) (toI (cIa (aggL (cIa us 2)) 2))) (fun t => rfl)

/-! ### 7: skirmish/terrain.Take -/



/-- 'skirmish/terrain.Take' -/
noncomputable def F_terrain_Take (m_W : Int) (m_H : Int) (m_Cells : List (List AVal)) (p_X : Int) (p_Y : Int) (n : Int) : Option (Int × Int × List (List AVal) × Int × Int) :=
  Option.bind (F_terrain_Valid m_W m_H m_Cells) fun t =>
  bif (!t) then
    some ((0 : Int), (0 : Int), [], (0 : Int), (1 : Int))
  else
  bif (decide (n < (1 : Int))) then
    some ((0 : Int), (0 : Int), [], (0 : Int), (1 : Int))
  else
  Option.bind (F_terrain_Get m_W m_H m_Cells p_X p_Y) fun t1 =>
  bif (!t1.2.2.2) then
    some ((0 : Int), (0 : Int), [], (0 : Int), (8 : Int))
  else
  bif (t1.2.2.1 == (0 : Int)) then
    some ((0 : Int), (0 : Int), [], (0 : Int), (8 : Int))
  else
  bif ((wr (t1.2.2.1 - (minI n t1.2.2.1))) == (0 : Int)) then
    Option.bind (F_terrain_with m_W m_H m_Cells p_X p_Y (1 : Int) t1.2.1 (wr (t1.2.2.1 - (minI n t1.2.2.1)))) fun t2 =>
    some (t2.2.1, t2.2.2, t2.1, (minI n t1.2.2.1), (0 : Int))
  else
  Option.bind (F_terrain_with m_W m_H m_Cells p_X p_Y t1.1 t1.2.1 (wr (t1.2.2.1 - (minI n t1.2.2.1)))) fun t3 =>
  some (t3.2.1, t3.2.2, t3.1, (minI n t1.2.2.1), (0 : Int))
noncomputable def enc7 (t : Int × Int × List (List AVal) × Int × Int) : CR := ⟨true, (.tup [(.agg [(.sc (.int .i64 t.1)), (.sc (.int .i64 t.2.1)), (.ro 3 t.2.2.1)]), (.sc (.int .i64 t.2.2.2.1)), (.sc (.int .i64 t.2.2.2.2))]), [], []⟩
noncomputable def ks7 : List SK := [.agg [.int .i64, .int .i64, .ro 3], .agg [.int .i64, .int .i64], .f (.int .i64)]
noncomputable def S7 (us : List AVal) : Call := bif chkA ks7 us then Call.of (F_terrain_Take (toI (cIa (aggL (cIa us 0)) 0)) (toI (cIa (aggL (cIa us 0)) 1)) (roRows (cIa (aggL (cIa us 0)) 2)) (toI (cIa (aggL (cIa us 1)) 0)) (toI (cIa (aggL (cIa us 1)) 1)) (toI (cIa us 2))) enc7 else Call.none
noncomputable def C7 := AI.ext 7 S7 C20

theorem run7 (m_W : Int) (m_H : Int) (m_Cells : List (List AVal)) (p_X : Int) (p_Y : Int) (n : Int) : fcall TT TU GL0 C20 ownF false noL Tryd.f7 [(.agg [(.sc (.int .i64 m_W)), (.sc (.int .i64 m_H)), (.ro 3 m_Cells)]), (.agg [(.sc (.int .i64 p_X)), (.sc (.int .i64 p_Y))]), (.sc (.int .i64 n))] = (F_terrain_Take m_W m_H m_Cells p_X p_Y n).bind fun t => some (enc7 t) :=
  Eq.trans (b := (Option.bind (F_terrain_Valid m_W m_H m_Cells) fun t => (bif (!t) then (some (CR.mk true (AVal.tup [(AVal.agg [(i64 (0 : Int)), (i64 (0 : Int)), (AVal.ro 3 [])]), (i64 (0 : Int)), (i64 (1 : Int))]) [] [])) else (bif (decide (n < (1 : Int))) then (some (CR.mk true (AVal.tup [(AVal.agg [(i64 (0 : Int)), (i64 (0 : Int)), (AVal.ro 3 [])]), (i64 (0 : Int)), (i64 (1 : Int))]) [] [])) else (Option.bind (F_terrain_Get m_W m_H m_Cells p_X p_Y) fun t1 => (bif (!t1.2.2.2) then (some (CR.mk true (AVal.tup [(AVal.agg [(i64 (0 : Int)), (i64 (0 : Int)), (AVal.ro 3 [])]), (i64 (0 : Int)), (i64 (8 : Int))]) [] [])) else (bif (t1.2.2.1 == (0 : Int)) then (some (CR.mk true (AVal.tup [(AVal.agg [(i64 (0 : Int)), (i64 (0 : Int)), (AVal.ro 3 [])]), (i64 (0 : Int)), (i64 (8 : Int))]) [] [])) else (bif ((wr (t1.2.2.1 - (minI n t1.2.2.1))) == (0 : Int)) then (Option.bind (F_terrain_with m_W m_H m_Cells p_X p_Y (1 : Int) t1.2.1 (wr (t1.2.2.1 - (minI n t1.2.2.1)))) fun t2 => (bif ((((true && (verEq t2.1.length t2.1.length)) && true) && true) && true) then (bif (verEq t2.1.length t2.1.length) then (some (CR.mk true (AVal.tup [(AVal.agg [(i64 t2.2.1), (i64 t2.2.2), (AVal.ro 3 t2.1)]), (i64 (minI n t1.2.2.1)), (i64 (0 : Int))]) [] [])) else none) else none)) else (Option.bind (F_terrain_with m_W m_H m_Cells p_X p_Y t1.1 t1.2.1 (wr (t1.2.2.1 - (minI n t1.2.2.1)))) fun t3 => (bif ((((true && (verEq t3.1.length t3.1.length)) && true) && true) && true) then (bif (verEq t3.1.length t3.1.length) then (some (CR.mk true (AVal.tup [(AVal.agg [(i64 t3.2.1), (i64 t3.2.2), (AVal.ro 3 t3.1)]), (i64 (minI n t1.2.2.1)), (i64 (0 : Int))]) [] [])) else none) else none)))))))))) (by kernel_rfl)
    (n_bind fun t => (n_condH rfl (fun h0 => rfl) fun h0 => (n_condH rfl (fun h1 => rfl) fun h1 => (n_bind fun t1 => (n_condH rfl (fun h2 => rfl) fun h2 => (n_condH rfl (fun h3 => rfl) fun h3 => (n_condH rfl (fun h4 => (n_bind fun t2 => (n_true (n_andL (n_andL (n_andL (n_andL rfl (verEq_rfl _)) rfl) rfl) rfl) (n_true (verEq_rfl _) rfl)))) fun h4 => (n_bind fun t3 => (n_true (n_andL (n_andL (n_andL (n_andL rfl (verEq_rfl _)) rfl) rfl) rfl) (n_true (verEq_rfl _) rfl))))))))))
theorem lib7 : Lib Tryd.prog GL0 C7 :=
  Lib.fn lib20 mixed TT_ok Tryd.func7 (by decide +kernel) (by kernel_rfl) false noL (loops_of 0 (by kernel_rfl) below0) ks7 (F := fun us => F_terrain_Take (toI (cIa (aggL (cIa us 0)) 0)) (toI (cIa (aggL (cIa us 0)) 1)) (roRows (cIa (aggL (cIa us 0)) 2)) (toI (cIa (aggL (cIa us 1)) 0)) (toI (cIa (aggL (cIa us 1)) 1)) (toI (cIa us 2))) (fun us => rfl) (fun us => run7 (toI (cIa (aggL (cIa us 0)) 0)) (toI (cIa (aggL (cIa us 0)) 1)) (roRows (cIa (aggL (cIa us 0)) 2)) (toI (cIa (aggL (cIa us 1)) 0)) (toI (cIa (aggL (cIa us 1)) 1)) (toI (cIa us 2))) (fun t => rfl)

/-! ### 36: skirmish/skirmishref06.Valid -/



/-- 'skirmish/skirmishref06.Valid' -/
noncomputable def F_skirmishref06_Valid (w : Int) (h : Int) : Option (Bool) :=
  bif (decide (w ≥ (1 : Int))) then
    bif (decide (w ≤ (32 : Int))) then
      bif (decide (h ≥ (1 : Int))) then
        some (decide (h ≤ (32 : Int)))
      else
      some false
    else
    some false
  else
  some false
noncomputable def enc36 (t : Bool) : CR := ⟨true, (.sc (.bool t)), [], []⟩
noncomputable def ks36 : List SK := [.f (.int .i64), .f (.int .i64)]
noncomputable def S36 (us : List AVal) : Call := bif chkA ks36 us then Call.of (F_skirmishref06_Valid (toI (cIa us 0)) (toI (cIa us 1))) enc36 else Call.none
noncomputable def C36 := AI.ext 36 S36 C7

theorem run36 (w : Int) (h : Int) : fcall TT TU GL0 C7 ownF true noL Tryd.f36 [(.sc (.int .i64 w)), (.sc (.int .i64 h))] = (F_skirmishref06_Valid w h).bind fun t => some (enc36 t) :=
  Eq.trans (b := (bif (decide (w ≥ (1 : Int))) then (bif (decide (w ≤ (32 : Int))) then (bif (decide (h ≥ (1 : Int))) then (some (CR.mk true (bo (decide (h ≤ (32 : Int)))) [] [])) else (some (CR.mk true (bo false) [] []))) else (some (CR.mk true (bo false) [] []))) else (some (CR.mk true (bo false) [] [])))) (by kernel_rfl)
    (n_condH rfl (fun h0 => (n_condH rfl (fun h1 => (n_condH rfl (fun h2 => rfl) fun h2 => rfl)) fun h1 => rfl)) fun h0 => rfl)
theorem lib36 : Lib Tryd.prog GL0 C36 :=
  Lib.fn lib7 mixed TT_ok Tryd.func36 (by decide +kernel) (by kernel_rfl) true noL (loops_of 0 (by kernel_rfl) below0) ks36 (F := fun us => F_skirmishref06_Valid (toI (cIa us 0)) (toI (cIa us 1))) (fun us => rfl) (fun us => run36 (toI (cIa us 0)) (toI (cIa us 1))) (fun t => rfl)

/-! ### 21: skirmish/skirmishref07.Formed -/



/-- 'skirmish/skirmishref07.Formed' -/
noncomputable def F_skirmishref07_Formed (m_W : Int) (m_H : Int) (m_Cells : List (List AVal)) : Option (Bool) :=
  Option.bind (F_skirmishref06_Valid m_W m_H) fun t =>
  bif t then
    some ((Int.ofNat m_Cells.length) == (wr (m_W * m_H)))
  else
  some false
noncomputable def enc21 (t : Bool) : CR := ⟨true, (.sc (.bool t)), [], []⟩
noncomputable def ks21 : List SK := [.agg [.int .i64, .int .i64, .ro 3]]
noncomputable def S21 (us : List AVal) : Call := bif chkA ks21 us then Call.of (F_skirmishref07_Formed (toI (cIa (aggL (cIa us 0)) 0)) (toI (cIa (aggL (cIa us 0)) 1)) (roRows (cIa (aggL (cIa us 0)) 2))) enc21 else Call.none
noncomputable def C21 := AI.ext 21 S21 C36

theorem run21 (m_W : Int) (m_H : Int) (m_Cells : List (List AVal)) : fcall TT TU GL0 C36 ownF true noL Tryd.f21 [(.agg [(.sc (.int .i64 m_W)), (.sc (.int .i64 m_H)), (.ro 3 m_Cells)])] = (F_skirmishref07_Formed m_W m_H m_Cells).bind fun t => some (enc21 t) :=
  Eq.trans (b := (Option.bind (F_skirmishref06_Valid m_W m_H) fun t => (bif t then (some (CR.mk true (bo ((Int.ofNat m_Cells.length) == (wr (m_W * m_H)))) [] [])) else (some (CR.mk true (bo false) [] []))))) (by kernel_rfl)
    (n_bind fun t => (n_condH rfl (fun h0 => rfl) fun h0 => rfl))
theorem lib21 : Lib Tryd.prog GL0 C21 :=
  Lib.fn lib36 mixed TT_ok Tryd.func21 (by decide +kernel) (by kernel_rfl) true noL (loops_of 0 (by kernel_rfl) below0) ks21 (F := fun us => F_skirmishref07_Formed (toI (cIa (aggL (cIa us 0)) 0)) (toI (cIa (aggL (cIa us 0)) 1)) (roRows (cIa (aggL (cIa us 0)) 2))) (fun us => rfl) (fun us => run21 (toI (cIa (aggL (cIa us 0)) 0)) (toI (cIa (aggL (cIa us 0)) 1)) (roRows (cIa (aggL (cIa us 0)) 2))) (fun t => rfl)

/-! ### 22: skirmish/skirmishref07.ValidCell -/



/-- 'skirmish/skirmishref07.ValidCell' -/
noncomputable def F_skirmishref07_ValidCell (c_Kind : Int) (c_Height : Int) (c_Amount : Int) : Option (Bool) :=
  bif (decide (c_Kind < (1 : Int))) then
    some false
  else
  bif (decide (c_Kind > (5 : Int))) then
    some false
  else
  bif (decide (c_Height < (0 : Int))) then
    some false
  else
  bif (decide (c_Height > (3 : Int))) then
    some false
  else
  bif (decide (c_Amount < (0 : Int))) then
    some false
  else
  bif (decide (c_Amount > (1000000 : Int))) then
    some false
  else
  bif (c_Kind == (4 : Int)) then
    some ((decide (c_Amount > (0 : Int))) == true)
  else
  some ((decide (c_Amount > (0 : Int))) == (c_Kind == (5 : Int)))
noncomputable def enc22 (t : Bool) : CR := ⟨true, (.sc (.bool t)), [], []⟩
noncomputable def ks22 : List SK := [.agg [.int .i64, .int .i64, .int .i64]]
noncomputable def S22 (us : List AVal) : Call := bif chkA ks22 us then Call.of (F_skirmishref07_ValidCell (toI (cIa (aggL (cIa us 0)) 0)) (toI (cIa (aggL (cIa us 0)) 1)) (toI (cIa (aggL (cIa us 0)) 2))) enc22 else Call.none
noncomputable def C22 := AI.ext 22 S22 C21

theorem run22 (c_Kind : Int) (c_Height : Int) (c_Amount : Int) : fcall TT TU GL0 C21 ownF true noL Tryd.f22 [(.agg [(.sc (.int .i64 c_Kind)), (.sc (.int .i64 c_Height)), (.sc (.int .i64 c_Amount))])] = (F_skirmishref07_ValidCell c_Kind c_Height c_Amount).bind fun t => some (enc22 t) :=
  Eq.trans (b := (bif (decide (c_Kind < (1 : Int))) then (some (CR.mk true (bo false) [] [])) else (bif (decide (c_Kind > (5 : Int))) then (some (CR.mk true (bo false) [] [])) else (bif (decide (c_Height < (0 : Int))) then (some (CR.mk true (bo false) [] [])) else (bif (decide (c_Height > (3 : Int))) then (some (CR.mk true (bo false) [] [])) else (bif (decide (c_Amount < (0 : Int))) then (some (CR.mk true (bo false) [] [])) else (bif (decide (c_Amount > (1000000 : Int))) then (some (CR.mk true (bo false) [] [])) else (bif (c_Kind == (4 : Int)) then (some (CR.mk true (bo ((decide (c_Amount > (0 : Int))) == true)) [] [])) else (some (CR.mk true (bo ((decide (c_Amount > (0 : Int))) == (c_Kind == (5 : Int)))) [] [])))))))))) (by kernel_rfl)
    (n_condH rfl (fun h0 => rfl) fun h0 => (n_condH rfl (fun h1 => rfl) fun h1 => (n_condH rfl (fun h2 => rfl) fun h2 => (n_condH rfl (fun h3 => rfl) fun h3 => (n_condH rfl (fun h4 => rfl) fun h4 => (n_condH rfl (fun h5 => rfl) fun h5 => (n_condH rfl (fun h6 => rfl) fun h6 => rfl)))))))
theorem lib22 : Lib Tryd.prog GL0 C22 :=
  Lib.fn lib21 mixed TT_ok Tryd.func22 (by decide +kernel) (by kernel_rfl) true noL (loops_of 0 (by kernel_rfl) below0) ks22 (F := fun us => F_skirmishref07_ValidCell (toI (cIa (aggL (cIa us 0)) 0)) (toI (cIa (aggL (cIa us 0)) 1)) (toI (cIa (aggL (cIa us 0)) 2))) (fun us => rfl) (fun us => run22 (toI (cIa (aggL (cIa us 0)) 0)) (toI (cIa (aggL (cIa us 0)) 1)) (toI (cIa (aggL (cIa us 0)) 2))) (fun t => rfl)

/-! ### 8: skirmish/skirmishref07.Valid -/

noncomputable def W8_0 : Ex → List Bool
  | .ret => [false, false, true, false, false, false, false, false, false, false, false, false, false, false, false, false, false, false, false, false, false]
  | .exit n => bif Nat.beq n 0 then [false, false, false, false, false, false, false, false, false, false, false, false, false, false, false, false, false, false, false, false, false] else []
  | _ => []
noncomputable def G_skirmishref07_Valid_0 (b0_2 : List (List AVal)) : Nat → Int → Option (Bool)
  | 0, _ => none
  | m + 1, i =>
    bif (decide (i < (Int.ofNat b0_2.length))) then
      bif (decide ((0 : Int) ≤ i)) then
        Option.bind (b0_2[i.toNat]?) fun r =>
        bif (chk [(LT.int IntKind.i64), (LT.int IntKind.i64), (LT.int IntKind.i64)] r) then
          Option.bind (F_skirmishref07_ValidCell (cI r 0) (cI r 1) (cI r 2)) fun t =>
          bif (!t) then
            some true
          else
          G_skirmishref07_Valid_0 b0_2 m (wr (i + (1 : Int)))
        else
        none
      else
      none
    else
    some false
noncomputable def E8_0 (i : Int) (b0_0 : Int) (b0_1 : Int) (b0_2 : List (List AVal)) : St := ⟨[.dead, (.ref 16000 1 0 0), .dead, (.sc (.int .i64 i)), .dead, .dead, .dead, .dead, .dead, .dead, .dead, .dead, .dead, .dead, .dead, .dead, .dead, .dead, .dead, .dead, .dead], [(16000, ⟨.box, 24, 3, [[(.sc (.int .i64 b0_0)), (.sc (.int .i64 b0_1)), (.ro 3 b0_2)]]⟩)]⟩
noncomputable def X8_0 (k : Ex → St → Option CR) (t : Bool) : Option CR := bif t then k .ret ⟨[.dead, .dead, (.sc (.bool false)), .dead, .dead, .dead, .dead, .dead, .dead, .dead, .dead, .dead, .dead, .dead, .dead, .dead, .dead, .dead, .dead, .dead, .dead], []⟩ else k (.exit 0) ⟨[.dead, .dead, .dead, .dead, .dead, .dead, .dead, .dead, .dead, .dead, .dead, .dead, .dead, .dead, .dead, .dead, .dead, .dead, .dead, .dead, .dead], []⟩
noncomputable def ks8_0 : List SK := [.f .dead, .f (.ref 16000 1 0 0), .f .dead, .f (.int .i64), .f .dead, .f .dead, .f .dead, .f .dead, .f .dead, .f .dead, .f .dead, .f .dead, .f .dead, .f .dead, .f .dead, .f .dead, .f .dead, .f .dead, .f .dead, .f .dead, .f .dead]
noncomputable def hs8_0 : List HK := [⟨16000, .box, 24, 3, some [.int .i64, .int .i64, .ro 3]⟩]
noncomputable def Lm8_0 (s : St) (k : Ex → St → Option CR) : Option CR := bif chkS ks8_0 hs8_0 s then (G_skirmishref07_Valid_0 (roRows (cIa (rows0 (blkAt s.heap 0).2) 2)) FU (toI (cIa s.tmps 3))).bind (X8_0 k) else none
noncomputable def L8_0 (s : St) (k : Ex → St → Option CR) : Option CR := Lm8_0 (maskS (maskOf ks8_0) s) k

noncomputable def L8 : LT' := fun i s k => bif Nat.beq i 0 then L8_0 s k else none

/-- 'skirmish/skirmishref07.Valid' -/
noncomputable def F_skirmishref07_Valid (m_W : Int) (m_H : Int) (m_Cells : List (List AVal)) : Option (Bool) :=
  Option.bind (F_skirmishref07_Formed m_W m_H m_Cells) fun t =>
  bif (!t) then
    some false
  else
  Option.bind (G_skirmishref07_Valid_0 m_Cells FU (0 : Int)) fun t1 =>
  bif t1 then
    some false
  else
  some true
noncomputable def enc8 (t : Bool) : CR := ⟨true, (.sc (.bool t)), [], []⟩
noncomputable def ks8 : List SK := [.agg [.int .i64, .int .i64, .ro 3]]
noncomputable def S8 (us : List AVal) : Call := bif chkA ks8 us then Call.of (F_skirmishref07_Valid (toI (cIa (aggL (cIa us 0)) 0)) (toI (cIa (aggL (cIa us 0)) 1)) (roRows (cIa (aggL (cIa us 0)) 2))) enc8 else Call.none
noncomputable def C8 := AI.ext 8 S8 C22

@[reducible] noncomputable def B8_0 := bodyOf TT TU GL0 C22 ownF L8 (lp Tryd.f8 0)
@[reducible] noncomputable def K8_0 (k : Ex → St → Option CR) : Ex → St → Option CR := fun e s => k e (maskS (W8_0 e) s)
theorem spec8_0 (k : Ex → St → Option CR) : ∀ (m : Nat) (i : Int) (b0_0 : Int) (b0_1 : Int) (b0_2 : List (List AVal)), loopN B8_0 m (E8_0 i b0_0 b0_1 b0_2) (K8_0 k) = (G_skirmishref07_Valid_0 b0_2 m i).bind (X8_0 k)
  | 0, _, _, _, _ => rfl
  | m + 1, i, b0_0, b0_1, b0_2 =>
    Eq.trans (b := (bif (decide (i < (Int.ofNat b0_2.length))) then (bif (decide ((0 : Int) ≤ i)) then (Option.bind (b0_2[i.toNat]?) fun r => (bif (chk [(LT.int IntKind.i64), (LT.int IntKind.i64), (LT.int IntKind.i64)] r) then (Option.bind (F_skirmishref07_ValidCell (cI r 0) (cI r 1) (cI r 2)) fun t => (bif (!t) then (k .ret ⟨[.dead, .dead, (bo false), .dead, .dead, .dead, .dead, .dead, .dead, .dead, .dead, .dead, .dead, .dead, .dead, .dead, .dead, .dead, .dead, .dead, .dead], []⟩) else (loopN B8_0 m ⟨[.dead, (AVal.ref 16000 1 0 0), .dead, (i64 (wr (i + (1 : Int)))), .dead, .dead, .dead, .dead, .dead, .dead, .dead, .dead, .dead, .dead, .dead, .dead, .dead, .dead, .dead, .dead, .dead], [(Prod.mk 16000 (Blk.mk BKind.box 24 3 [[(i64 b0_0), (i64 b0_1), (AVal.ro 3 b0_2)]]))]⟩ (K8_0 k)))) else none)) else none) else (k (.exit 0) ⟨[.dead, .dead, .dead, .dead, .dead, .dead, .dead, .dead, .dead, .dead, .dead, .dead, .dead, .dead, .dead, .dead, .dead, .dead, .dead, .dead, .dead], []⟩))) (by kernel_rfl)
      (n_condH rfl (fun h0 => (n_condH rfl (fun h1 => (n_bind fun r => (n_condH rfl (fun h2 => (n_bind fun t => (n_condH rfl (fun h3 => rfl) fun h3 => (spec8_0 k m (wr (i + (1 : Int))) b0_0 b0_1 b0_2)))) fun h2 => n_none))) fun h1 => n_none)) fun h0 => rfl)
theorem okL8_0 : LoopOk TT TU GL0 C22 ownF L8 (lp Tryd.f8 0) :=
  loopOk_of ks8_0 hs8_0 W8_0 FU (fun s k => (G_skirmishref07_Valid_0 (roRows (cIa (rows0 (blkAt s.heap 0).2) 2)) FU (toI (cIa s.tmps 3))).bind (X8_0 k)) (fun s k => by kernel_rfl) (fun s k => spec8_0 k FU (toI (cIa s.tmps 3)) (toI (cIa (rows0 (blkAt s.heap 0).2) 0)) (toI (cIa (rows0 (blkAt s.heap 0).2) 1)) (roRows (cIa (rows0 (blkAt s.heap 0).2) 2)))
theorem run8 (m_W : Int) (m_H : Int) (m_Cells : List (List AVal)) : fcall TT TU GL0 C22 ownF true L8 Tryd.f8 [(.agg [(.sc (.int .i64 m_W)), (.sc (.int .i64 m_H)), (.ro 3 m_Cells)])] = (F_skirmishref07_Valid m_W m_H m_Cells).bind fun t => some (enc8 t) :=
  Eq.trans (b := (Option.bind (F_skirmishref07_Formed m_W m_H m_Cells) fun t => (bif (!t) then (some (CR.mk true (bo false) [] [])) else (Option.bind (G_skirmishref07_Valid_0 m_Cells FU (0 : Int)) fun t1 => (bif t1 then (some (CR.mk true (bo false) [] [])) else (some (CR.mk true (bo true) [] []))))))) (by kernel_rfl)
    (n_bind fun t => (n_condH rfl (fun h0 => rfl) fun h0 => (n_bind fun t1 => (n_condH rfl (fun h1 => rfl) fun h1 => rfl))))
theorem lib8 : Lib Tryd.prog GL0 C8 :=
  Lib.fn lib22 mixed TT_ok Tryd.func8 (by decide +kernel) (by kernel_rfl) true L8 (loops_of 1 (by kernel_rfl) (belowS below0 okL8_0)) ks8 (F := fun us => F_skirmishref07_Valid (toI (cIa (aggL (cIa us 0)) 0)) (toI (cIa (aggL (cIa us 0)) 1)) (roRows (cIa (aggL (cIa us 0)) 2))) (fun us => rfl) (fun us => run8 (toI (cIa (aggL (cIa us 0)) 0)) (toI (cIa (aggL (cIa us 0)) 1)) (roRows (cIa (aggL (cIa us 0)) 2))) (fun t => rfl)

/-! ### 3: skirmish/skirmishtop.TopTerrain -/

noncomputable def W3_0 : Ex → List Bool
  | .ret => [false, false, false, false, false, false, false, false, false, false, false, false, false, false, true, false, false, false, false, false, false, false, false, false, false, false, false, false, false, false, false, false, false, false, false, false, false, false, false, false, false, false, false, false, false, false, false, false, false, false, false, false, false, false, false, false, false, false, false, false, false, false, false, false, false, false, false, false, false, false, false, false, false, false, false, false, false, false, false, false, false, false, false, false, false, false, false, false, false, false, false, false, false, false, false, false, false, false, false, false, false, false, false, false, false, false, false, false, false, false, false, false, false, false, false, false]
  | .exit n => bif Nat.beq n 0 then [false, true, true, false, false, false, false, true, false, false, true, true, true, false, false, false, true, false, true, true, false, false, false, false, false, false, false, false, false, false, false, false, false, false, false, false, false, false, false, false, false, false, false, false, false, false, false, false, false, false, false, false, false, false, false, false, false, false, false, false, false, false, false, false, false, false, false, false, false, false, false, false, false, false, false, false, false, false, false, false, false, false, false, false, false, false, false, false, false, false, false, false, false, false, false, false, false, false, false, false, false, false, false, false, false, false, false, false, false, false, false, false, false, false, false, false] else []
  | _ => []
noncomputable def G_skirmishtop_TopTerrain_0 (takes : List (List AVal)) (b3_0 : Int) (b3_1 : Int) : Nat → Int → Int → Int → Int → List (List AVal) → Option (Int × Int × Int × List (List AVal))
  | 0, _, _, _, _, _ => none
  | m + 1, total, i, b0_0, b0_1, b0_2 =>
    bif (decide (i < (Int.ofNat takes.length))) then
      bif (decide ((0 : Int) ≤ i)) then
        Option.bind (takes[i.toNat]?) fun r =>
        bif (chk [(LT.int IntKind.i64)] r) then
          Option.bind (F_terrain_Take b0_0 b0_1 b0_2 b3_0 b3_1 (cI r 0)) fun t =>
          bif (t.2.2.2.2 == (0 : Int)) then
            G_skirmishtop_TopTerrain_0 takes b3_0 b3_1 m (wr (total + t.2.2.2.1)) (wr (i + (1 : Int))) t.1 t.2.1 t.2.2.1
          else
          G_skirmishtop_TopTerrain_0 takes b3_0 b3_1 m total (wr (i + (1 : Int))) b0_0 b0_1 b0_2
        else
        none
      else
      none
    else
    some (total, b0_0, b0_1, b0_2)
noncomputable def E3_0 (blocked : List (List AVal)) (class_ : Int) (takes : List (List AVal)) (n : Int) (total : Int) (i : Int) (b0_0 : Int) (b0_1 : Int) (b0_2 : List (List AVal)) (b1_0 : Int) (b1_1 : Int) (b2_0 : Int) (b2_1 : Int) (b3_0 : Int) (b3_1 : Int) (b4_0 : Int) (b4_1 : Int) (b4_2 : Int) : St := ⟨[.dead, (.ro 1 blocked), (.sc (.int .i64 class_)), .dead, .dead, .dead, (.ro 1 takes), (.ref 16000 1 0 0), .dead, .dead, (.ref 16016 1 0 0), (.ref 16032 1 0 0), (.ref 16048 1 0 0), .dead, .dead, .dead, (.sc (.int .i64 n)), .dead, (.sc (.int .i64 total)), (.ref 16000304 1 0 0), .dead, (.sc (.int .i64 i)), .dead, .dead, .dead, .dead, .dead, .dead, .dead, .dead, .dead, .dead, .dead, .dead, .dead, .dead, .dead, .dead, .dead, .dead, .dead, .dead, .dead, .dead, .dead, .dead, .dead, .dead, .dead, .dead, .dead, .dead, .dead, .dead, .dead, .dead, .dead, .dead, .dead, .dead, .dead, .dead, .dead, .dead, .dead, .dead, .dead, .dead, .dead, .dead, .dead, .dead, .dead, .dead, .dead, .dead, .dead, .dead, .dead, .dead, .dead, .dead, .dead, .dead, .dead, .dead, .dead, .dead, .dead, .dead, .dead, .dead, .dead, .dead, .dead, .dead, .dead, .dead, .dead, .dead, .dead, .dead, .dead, .dead, .dead, .dead, .dead, .dead, .dead, .dead, .dead, .dead, .dead, .dead, .dead, .dead], [(16000, ⟨.box, 24, 3, [[(.sc (.int .i64 b0_0)), (.sc (.int .i64 b0_1)), (.ro 3 b0_2)]]⟩), (16016, ⟨.box, 27, 2, [[(.sc (.int .i64 b1_0)), (.sc (.int .i64 b1_1))]]⟩), (16032, ⟨.box, 27, 2, [[(.sc (.int .i64 b2_0)), (.sc (.int .i64 b2_1))]]⟩), (16048, ⟨.box, 27, 2, [[(.sc (.int .i64 b3_0)), (.sc (.int .i64 b3_1))]]⟩), (16000304, ⟨.box, 35, 3, [[(.sc (.int .i64 b4_0)), (.sc (.int .i64 b4_1)), (.sc (.int .i64 b4_2))]]⟩)]⟩
noncomputable def X3_0 (blocked : List (List AVal)) (class_ : Int) (n : Int) (b1_0 : Int) (b1_1 : Int) (b2_0 : Int) (b2_1 : Int) (b3_0 : Int) (b3_1 : Int) (b4_0 : Int) (b4_1 : Int) (b4_2 : Int) (k : Ex → St → Option CR) (t : Int × Int × Int × List (List AVal)) : Option CR := k (.exit 0) ⟨[.dead, (.ro 1 blocked), (.sc (.int .i64 class_)), .dead, .dead, .dead, .dead, (.ref 16000 1 0 0), .dead, .dead, (.ref 16016 1 0 0), (.ref 16032 1 0 0), (.ref 16048 1 0 0), .dead, .dead, .dead, (.sc (.int .i64 n)), .dead, (.sc (.int .i64 t.1)), (.ref 16000304 1 0 0), .dead, .dead, .dead, .dead, .dead, .dead, .dead, .dead, .dead, .dead, .dead, .dead, .dead, .dead, .dead, .dead, .dead, .dead, .dead, .dead, .dead, .dead, .dead, .dead, .dead, .dead, .dead, .dead, .dead, .dead, .dead, .dead, .dead, .dead, .dead, .dead, .dead, .dead, .dead, .dead, .dead, .dead, .dead, .dead, .dead, .dead, .dead, .dead, .dead, .dead, .dead, .dead, .dead, .dead, .dead, .dead, .dead, .dead, .dead, .dead, .dead, .dead, .dead, .dead, .dead, .dead, .dead, .dead, .dead, .dead, .dead, .dead, .dead, .dead, .dead, .dead, .dead, .dead, .dead, .dead, .dead, .dead, .dead, .dead, .dead, .dead, .dead, .dead, .dead, .dead, .dead, .dead, .dead, .dead, .dead, .dead], [(16000, ⟨.box, 24, 3, [[(.sc (.int .i64 t.2.1)), (.sc (.int .i64 t.2.2.1)), (.ro 3 t.2.2.2)]]⟩), (16016, ⟨.box, 27, 2, [[(.sc (.int .i64 b1_0)), (.sc (.int .i64 b1_1))]]⟩), (16032, ⟨.box, 27, 2, [[(.sc (.int .i64 b2_0)), (.sc (.int .i64 b2_1))]]⟩), (16048, ⟨.box, 27, 2, [[(.sc (.int .i64 b3_0)), (.sc (.int .i64 b3_1))]]⟩), (16000304, ⟨.box, 35, 3, [[(.sc (.int .i64 b4_0)), (.sc (.int .i64 b4_1)), (.sc (.int .i64 b4_2))]]⟩)]⟩
noncomputable def ks3_0 : List SK := [.f .dead, .f (.ro 1), .f (.int .i64), .f .dead, .f .dead, .f .dead, .f (.ro 1), .f (.ref 16000 1 0 0), .f .dead, .f .dead, .f (.ref 16016 1 0 0), .f (.ref 16032 1 0 0), .f (.ref 16048 1 0 0), .f .dead, .f .dead, .f .dead, .f (.int .i64), .f .dead, .f (.int .i64), .f (.ref 16000304 1 0 0), .f .dead, .f (.int .i64), .f .dead, .f .dead, .f .dead, .f .dead, .f .dead, .f .dead, .f .dead, .f .dead, .f .dead, .f .dead, .f .dead, .f .dead, .f .dead, .f .dead, .f .dead, .f .dead, .f .dead, .f .dead, .f .dead, .f .dead, .f .dead, .f .dead, .f .dead, .f .dead, .f .dead, .f .dead, .f .dead, .f .dead, .f .dead, .f .dead, .f .dead, .f .dead, .f .dead, .f .dead, .f .dead, .f .dead, .f .dead, .f .dead, .f .dead, .f .dead, .f .dead, .f .dead, .f .dead, .f .dead, .f .dead, .f .dead, .f .dead, .f .dead, .f .dead, .f .dead, .f .dead, .f .dead, .f .dead, .f .dead, .f .dead, .f .dead, .f .dead, .f .dead, .f .dead, .f .dead, .f .dead, .f .dead, .f .dead, .f .dead, .f .dead, .f .dead, .f .dead, .f .dead, .f .dead, .f .dead, .f .dead, .f .dead, .f .dead, .f .dead, .f .dead, .f .dead, .f .dead, .f .dead, .f .dead, .f .dead, .f .dead, .f .dead, .f .dead, .f .dead, .f .dead, .f .dead, .f .dead, .f .dead, .f .dead, .f .dead, .f .dead, .f .dead, .f .dead, .f .dead]
noncomputable def hs3_0 : List HK := [⟨16000, .box, 24, 3, some [.int .i64, .int .i64, .ro 3]⟩, ⟨16016, .box, 27, 2, some [.int .i64, .int .i64]⟩, ⟨16032, .box, 27, 2, some [.int .i64, .int .i64]⟩, ⟨16048, .box, 27, 2, some [.int .i64, .int .i64]⟩, ⟨16000304, .box, 35, 3, some [.int .i64, .int .i64, .int .i64]⟩]
noncomputable def Lm3_0 (s : St) (k : Ex → St → Option CR) : Option CR := bif chkS ks3_0 hs3_0 s then (G_skirmishtop_TopTerrain_0 (roRows (cIa s.tmps 6)) (toI (cIa (rows0 (blkAt s.heap 3).2) 0)) (toI (cIa (rows0 (blkAt s.heap 3).2) 1)) FU (toI (cIa s.tmps 18)) (toI (cIa s.tmps 21)) (toI (cIa (rows0 (blkAt s.heap 0).2) 0)) (toI (cIa (rows0 (blkAt s.heap 0).2) 1)) (roRows (cIa (rows0 (blkAt s.heap 0).2) 2))).bind (X3_0 (roRows (cIa s.tmps 1)) (toI (cIa s.tmps 2)) (toI (cIa s.tmps 16)) (toI (cIa (rows0 (blkAt s.heap 1).2) 0)) (toI (cIa (rows0 (blkAt s.heap 1).2) 1)) (toI (cIa (rows0 (blkAt s.heap 2).2) 0)) (toI (cIa (rows0 (blkAt s.heap 2).2) 1)) (toI (cIa (rows0 (blkAt s.heap 3).2) 0)) (toI (cIa (rows0 (blkAt s.heap 3).2) 1)) (toI (cIa (rows0 (blkAt s.heap 4).2) 0)) (toI (cIa (rows0 (blkAt s.heap 4).2) 1)) (toI (cIa (rows0 (blkAt s.heap 4).2) 2)) k) else none
noncomputable def L3_0 (s : St) (k : Ex → St → Option CR) : Option CR := Lm3_0 (maskS (maskOf ks3_0) s) k

noncomputable def L3 : LT' := fun i s k => bif Nat.beq i 0 then L3_0 s k else none

/-- 'skirmish/skirmishtop.TopTerrain' -/
noncomputable def F_skirmishtop_TopTerrain (m_W : Int) (m_H : Int) (m_Cells : List (List AVal)) (blocked : List (List AVal)) (class_ : Int) (a_X : Int) (a_Y : Int) (b_X : Int) (b_Y : Int) (p_X : Int) (p_Y : Int) (takes : List (List AVal)) : Option (Bool) :=
  Option.bind (F_astar_Path m_W m_H m_Cells blocked class_ a_X a_Y b_X b_Y) fun t =>
  bif (t.2.2 != (0 : Int)) then
    Option.bind F_skirmishtop_paths fun t1 =>
    some t1
  else
  bif (decide ((Int.ofNat takes.length) > (50 : Int))) then
    Option.bind F_skirmishtop_paths fun t2 =>
    some t2
  else
  Option.bind (F_terrain_Get m_W m_H m_Cells p_X p_Y) fun t3 =>
  Option.bind (G_skirmishtop_TopTerrain_0 takes p_X p_Y FU (0 : Int) (0 : Int) m_W m_H m_Cells) fun t4 =>
  Option.bind (F_terrain_Get t4.2.1 t4.2.2.1 t4.2.2.2 p_X p_Y) fun t5 =>
  Option.bind (F_astar_Path t4.2.1 t4.2.2.1 t4.2.2.2 blocked class_ a_X a_Y b_X b_Y) fun t6 =>
  bif (t6.2.2 == (0 : Int)) then
    bif (decide (t6.2.1 ≤ t.2.1)) then
      bif ((wr (t3.2.2.1 - t5.2.2.1)) == t4.1) then
        Option.bind (F_skirmishref07_Valid t4.2.1 t4.2.2.1 t4.2.2.2) fun t7 =>
        bif t7 then
          Option.bind F_skirmishtop_paths fun t8 =>
          some t8
        else
        some false
      else
      some false
    else
    some false
  else
  some false
noncomputable def enc3 (t : Bool) : CR := ⟨true, (.sc (.bool t)), [], []⟩
noncomputable def ks3 : List SK := [.agg [.int .i64, .int .i64, .ro 3], .f (.ro 1), .f (.int .i64), .agg [.int .i64, .int .i64], .agg [.int .i64, .int .i64], .agg [.int .i64, .int .i64], .f (.ro 1)]
noncomputable def S3 (us : List AVal) : Call := bif chkA ks3 us then Call.of (F_skirmishtop_TopTerrain (toI (cIa (aggL (cIa us 0)) 0)) (toI (cIa (aggL (cIa us 0)) 1)) (roRows (cIa (aggL (cIa us 0)) 2)) (roRows (cIa us 1)) (toI (cIa us 2)) (toI (cIa (aggL (cIa us 3)) 0)) (toI (cIa (aggL (cIa us 3)) 1)) (toI (cIa (aggL (cIa us 4)) 0)) (toI (cIa (aggL (cIa us 4)) 1)) (toI (cIa (aggL (cIa us 5)) 0)) (toI (cIa (aggL (cIa us 5)) 1)) (roRows (cIa us 6))) enc3 else Call.none
noncomputable def C3 := AI.ext 3 S3 C8

@[reducible] noncomputable def B3_0 := bodyOf TT TU GL0 C8 ownF L3 (lp Tryd.f3 0)
@[reducible] noncomputable def K3_0 (k : Ex → St → Option CR) : Ex → St → Option CR := fun e s => k e (maskS (W3_0 e) s)
theorem spec3_0 (k : Ex → St → Option CR) : ∀ (m : Nat) (blocked : List (List AVal)) (class_ : Int) (takes : List (List AVal)) (n : Int) (total : Int) (i : Int) (b0_0 : Int) (b0_1 : Int) (b0_2 : List (List AVal)) (b1_0 : Int) (b1_1 : Int) (b2_0 : Int) (b2_1 : Int) (b3_0 : Int) (b3_1 : Int) (b4_0 : Int) (b4_1 : Int) (b4_2 : Int), loopN B3_0 m (E3_0 blocked class_ takes n total i b0_0 b0_1 b0_2 b1_0 b1_1 b2_0 b2_1 b3_0 b3_1 b4_0 b4_1 b4_2) (K3_0 k) = (G_skirmishtop_TopTerrain_0 takes b3_0 b3_1 m total i b0_0 b0_1 b0_2).bind (X3_0 blocked class_ n b1_0 b1_1 b2_0 b2_1 b3_0 b3_1 b4_0 b4_1 b4_2 k)
  | 0, _, _, _, _, _, _, _, _, _, _, _, _, _, _, _, _, _, _ => rfl
  | m + 1, blocked, class_, takes, n, total, i, b0_0, b0_1, b0_2, b1_0, b1_1, b2_0, b2_1, b3_0, b3_1, b4_0, b4_1, b4_2 =>
    Eq.trans (b := (bif (decide (i < (Int.ofNat takes.length))) then (bif (decide ((0 : Int) ≤ i)) then (Option.bind (takes[i.toNat]?) fun r => (bif (chk [(LT.int IntKind.i64)] r) then (Option.bind (F_terrain_Take b0_0 b0_1 b0_2 b3_0 b3_1 (cI r 0)) fun t => (bif (t.2.2.2.2 == (0 : Int)) then (loopN B3_0 m ⟨[.dead, (AVal.ro 1 blocked), (i64 class_), .dead, .dead, .dead, (AVal.ro 1 takes), (AVal.ref 16000 1 0 0), .dead, .dead, (AVal.ref 16016 1 0 0), (AVal.ref 16032 1 0 0), (AVal.ref 16048 1 0 0), .dead, .dead, .dead, (i64 n), .dead, (i64 (wr (total + t.2.2.2.1))), (AVal.ref 16000304 1 0 0), .dead, (i64 (wr (i + (1 : Int)))), .dead, .dead, .dead, .dead, .dead, .dead, .dead, .dead, .dead, .dead, .dead, .dead, .dead, .dead, .dead, .dead, .dead, .dead, .dead, .dead, .dead, .dead, .dead, .dead, .dead, .dead, .dead, .dead, .dead, .dead, .dead, .dead, .dead, .dead, .dead, .dead, .dead, .dead, .dead, .dead, .dead, .dead, .dead, .dead, .dead, .dead, .dead, .dead, .dead, .dead, .dead, .dead, .dead, .dead, .dead, .dead, .dead, .dead, .dead, .dead, .dead, .dead, .dead, .dead, .dead, .dead, .dead, .dead, .dead, .dead, .dead, .dead, .dead, .dead, .dead, .dead, .dead, .dead, .dead, .dead, .dead, .dead, .dead, .dead, .dead, .dead, .dead, .dead, .dead, .dead, .dead, .dead, .dead, .dead], [(Prod.mk 16000 (Blk.mk BKind.box 24 3 [[(i64 t.1), (i64 t.2.1), (AVal.ro 3 t.2.2.1)]])), (Prod.mk 16016 (Blk.mk BKind.box 27 2 [[(i64 b1_0), (i64 b1_1)]])), (Prod.mk 16032 (Blk.mk BKind.box 27 2 [[(i64 b2_0), (i64 b2_1)]])), (Prod.mk 16048 (Blk.mk BKind.box 27 2 [[(i64 b3_0), (i64 b3_1)]])), (Prod.mk 16000304 (Blk.mk BKind.box 35 3 [[(i64 b4_0), (i64 b4_1), (i64 b4_2)]]))]⟩ (K3_0 k)) else (loopN B3_0 m ⟨[.dead, (AVal.ro 1 blocked), (i64 class_), .dead, .dead, .dead, (AVal.ro 1 takes), (AVal.ref 16000 1 0 0), .dead, .dead, (AVal.ref 16016 1 0 0), (AVal.ref 16032 1 0 0), (AVal.ref 16048 1 0 0), .dead, .dead, .dead, (i64 n), .dead, (i64 total), (AVal.ref 16000304 1 0 0), .dead, (i64 (wr (i + (1 : Int)))), .dead, .dead, .dead, .dead, .dead, .dead, .dead, .dead, .dead, .dead, .dead, .dead, .dead, .dead, .dead, .dead, .dead, .dead, .dead, .dead, .dead, .dead, .dead, .dead, .dead, .dead, .dead, .dead, .dead, .dead, .dead, .dead, .dead, .dead, .dead, .dead, .dead, .dead, .dead, .dead, .dead, .dead, .dead, .dead, .dead, .dead, .dead, .dead, .dead, .dead, .dead, .dead, .dead, .dead, .dead, .dead, .dead, .dead, .dead, .dead, .dead, .dead, .dead, .dead, .dead, .dead, .dead, .dead, .dead, .dead, .dead, .dead, .dead, .dead, .dead, .dead, .dead, .dead, .dead, .dead, .dead, .dead, .dead, .dead, .dead, .dead, .dead, .dead, .dead, .dead, .dead, .dead, .dead, .dead], [(Prod.mk 16000 (Blk.mk BKind.box 24 3 [[(i64 b0_0), (i64 b0_1), (AVal.ro 3 b0_2)]])), (Prod.mk 16016 (Blk.mk BKind.box 27 2 [[(i64 b1_0), (i64 b1_1)]])), (Prod.mk 16032 (Blk.mk BKind.box 27 2 [[(i64 b2_0), (i64 b2_1)]])), (Prod.mk 16048 (Blk.mk BKind.box 27 2 [[(i64 b3_0), (i64 b3_1)]])), (Prod.mk 16000304 (Blk.mk BKind.box 35 3 [[(i64 b4_0), (i64 b4_1), (i64 b4_2)]]))]⟩ (K3_0 k)))) else none)) else none) else (k (.exit 0) ⟨[.dead, (AVal.ro 1 blocked), (i64 class_), .dead, .dead, .dead, .dead, (AVal.ref 16000 1 0 0), .dead, .dead, (AVal.ref 16016 1 0 0), (AVal.ref 16032 1 0 0), (AVal.ref 16048 1 0 0), .dead, .dead, .dead, (i64 n), .dead, (i64 total), (AVal.ref 16000304 1 0 0), .dead, .dead, .dead, .dead, .dead, .dead, .dead, .dead, .dead, .dead, .dead, .dead, .dead, .dead, .dead, .dead, .dead, .dead, .dead, .dead, .dead, .dead, .dead, .dead, .dead, .dead, .dead, .dead, .dead, .dead, .dead, .dead, .dead, .dead, .dead, .dead, .dead, .dead, .dead, .dead, .dead, .dead, .dead, .dead, .dead, .dead, .dead, .dead, .dead, .dead, .dead, .dead, .dead, .dead, .dead, .dead, .dead, .dead, .dead, .dead, .dead, .dead, .dead, .dead, .dead, .dead, .dead, .dead, .dead, .dead, .dead, .dead, .dead, .dead, .dead, .dead, .dead, .dead, .dead, .dead, .dead, .dead, .dead, .dead, .dead, .dead, .dead, .dead, .dead, .dead, .dead, .dead, .dead, .dead, .dead, .dead], [(Prod.mk 16000 (Blk.mk BKind.box 24 3 [[(i64 b0_0), (i64 b0_1), (AVal.ro 3 b0_2)]])), (Prod.mk 16016 (Blk.mk BKind.box 27 2 [[(i64 b1_0), (i64 b1_1)]])), (Prod.mk 16032 (Blk.mk BKind.box 27 2 [[(i64 b2_0), (i64 b2_1)]])), (Prod.mk 16048 (Blk.mk BKind.box 27 2 [[(i64 b3_0), (i64 b3_1)]])), (Prod.mk 16000304 (Blk.mk BKind.box 35 3 [[(i64 b4_0), (i64 b4_1), (i64 b4_2)]]))]⟩))) (by kernel_rfl)
      (n_condH rfl (fun h0 => (n_condH rfl (fun h1 => (n_bind fun r => (n_condH rfl (fun h2 => (n_bind fun t => (n_condH rfl (fun h3 => (spec3_0 k m blocked class_ takes n (wr (total + t.2.2.2.1)) (wr (i + (1 : Int))) t.1 t.2.1 t.2.2.1 b1_0 b1_1 b2_0 b2_1 b3_0 b3_1 b4_0 b4_1 b4_2)) fun h3 => (spec3_0 k m blocked class_ takes n total (wr (i + (1 : Int))) b0_0 b0_1 b0_2 b1_0 b1_1 b2_0 b2_1 b3_0 b3_1 b4_0 b4_1 b4_2)))) fun h2 => n_none))) fun h1 => n_none)) fun h0 => rfl)
theorem okL3_0 : LoopOk TT TU GL0 C8 ownF L3 (lp Tryd.f3 0) :=
  loopOk_of ks3_0 hs3_0 W3_0 FU (fun s k => (G_skirmishtop_TopTerrain_0 (roRows (cIa s.tmps 6)) (toI (cIa (rows0 (blkAt s.heap 3).2) 0)) (toI (cIa (rows0 (blkAt s.heap 3).2) 1)) FU (toI (cIa s.tmps 18)) (toI (cIa s.tmps 21)) (toI (cIa (rows0 (blkAt s.heap 0).2) 0)) (toI (cIa (rows0 (blkAt s.heap 0).2) 1)) (roRows (cIa (rows0 (blkAt s.heap 0).2) 2))).bind (X3_0 (roRows (cIa s.tmps 1)) (toI (cIa s.tmps 2)) (toI (cIa s.tmps 16)) (toI (cIa (rows0 (blkAt s.heap 1).2) 0)) (toI (cIa (rows0 (blkAt s.heap 1).2) 1)) (toI (cIa (rows0 (blkAt s.heap 2).2) 0)) (toI (cIa (rows0 (blkAt s.heap 2).2) 1)) (toI (cIa (rows0 (blkAt s.heap 3).2) 0)) (toI (cIa (rows0 (blkAt s.heap 3).2) 1)) (toI (cIa (rows0 (blkAt s.heap 4).2) 0)) (toI (cIa (rows0 (blkAt s.heap 4).2) 1)) (toI (cIa (rows0 (blkAt s.heap 4).2) 2)) k)) (fun s k => by kernel_rfl) (fun s k => spec3_0 k FU (roRows (cIa s.tmps 1)) (toI (cIa s.tmps 2)) (roRows (cIa s.tmps 6)) (toI (cIa s.tmps 16)) (toI (cIa s.tmps 18)) (toI (cIa s.tmps 21)) (toI (cIa (rows0 (blkAt s.heap 0).2) 0)) (toI (cIa (rows0 (blkAt s.heap 0).2) 1)) (roRows (cIa (rows0 (blkAt s.heap 0).2) 2)) (toI (cIa (rows0 (blkAt s.heap 1).2) 0)) (toI (cIa (rows0 (blkAt s.heap 1).2) 1)) (toI (cIa (rows0 (blkAt s.heap 2).2) 0)) (toI (cIa (rows0 (blkAt s.heap 2).2) 1)) (toI (cIa (rows0 (blkAt s.heap 3).2) 0)) (toI (cIa (rows0 (blkAt s.heap 3).2) 1)) (toI (cIa (rows0 (blkAt s.heap 4).2) 0)) (toI (cIa (rows0 (blkAt s.heap 4).2) 1)) (toI (cIa (rows0 (blkAt s.heap 4).2) 2)))
theorem run3 (m_W : Int) (m_H : Int) (m_Cells : List (List AVal)) (blocked : List (List AVal)) (class_ : Int) (a_X : Int) (a_Y : Int) (b_X : Int) (b_Y : Int) (p_X : Int) (p_Y : Int) (takes : List (List AVal)) : fcall TT TU GL0 C8 ownF true L3 Tryd.f3 [(.agg [(.sc (.int .i64 m_W)), (.sc (.int .i64 m_H)), (.ro 3 m_Cells)]), (.ro 1 blocked), (.sc (.int .i64 class_)), (.agg [(.sc (.int .i64 a_X)), (.sc (.int .i64 a_Y))]), (.agg [(.sc (.int .i64 b_X)), (.sc (.int .i64 b_Y))]), (.agg [(.sc (.int .i64 p_X)), (.sc (.int .i64 p_Y))]), (.ro 1 takes)] = (F_skirmishtop_TopTerrain m_W m_H m_Cells blocked class_ a_X a_Y b_X b_Y p_X p_Y takes).bind fun t => some (enc3 t) :=
  Eq.trans (b := (Option.bind (F_astar_Path m_W m_H m_Cells blocked class_ a_X a_Y b_X b_Y) fun t => (bif ((((true && (verEq t.1.length t.1.length)) && true) && true) && true) then (bif (t.2.2 != (0 : Int)) then (Option.bind F_skirmishtop_paths fun t1 => (some (CR.mk true (bo t1) [] []))) else (bif (decide ((Int.ofNat takes.length) > (50 : Int))) then (Option.bind F_skirmishtop_paths fun t2 => (some (CR.mk true (bo t2) [] []))) else (Option.bind (F_terrain_Get m_W m_H m_Cells p_X p_Y) fun t3 => (Option.bind (G_skirmishtop_TopTerrain_0 takes p_X p_Y FU (0 : Int) (0 : Int) m_W m_H m_Cells) fun t4 => (Option.bind (F_terrain_Get t4.2.1 t4.2.2.1 t4.2.2.2 p_X p_Y) fun t5 => (Option.bind (F_astar_Path t4.2.1 t4.2.2.1 t4.2.2.2 blocked class_ a_X a_Y b_X b_Y) fun t6 => (bif ((((true && (verEq t6.1.length t6.1.length)) && true) && true) && true) then (bif (t6.2.2 == (0 : Int)) then (bif (decide (t6.2.1 ≤ t.2.1)) then (bif ((wr (t3.2.2.1 - t5.2.2.1)) == t4.1) then (Option.bind (F_skirmishref07_Valid t4.2.1 t4.2.2.1 t4.2.2.2) fun t7 => (bif t7 then (Option.bind F_skirmishtop_paths fun t8 => (some (CR.mk true (bo t8) [] []))) else (some (CR.mk true (bo false) [] [])))) else (some (CR.mk true (bo false) [] []))) else (some (CR.mk true (bo false) [] []))) else (some (CR.mk true (bo false) [] []))) else none))))))) else none))) (by kernel_rfl)
    (n_bind fun t => (n_true (n_andL (n_andL (n_andL (n_andL rfl (verEq_rfl _)) rfl) rfl) rfl) (n_condH rfl (fun h0 => (n_bind fun t1 => rfl)) fun h0 => (n_condH rfl (fun h1 => (n_bind fun t2 => rfl)) fun h1 => (n_bind fun t3 => (n_bind fun t4 => (n_bind fun t5 => (n_bind fun t6 => (n_true (n_andL (n_andL (n_andL (n_andL rfl (verEq_rfl _)) rfl) rfl) rfl) (n_condH rfl (fun h2 => (n_condH rfl (fun h3 => (n_condH rfl (fun h4 => (n_bind fun t7 => (n_condH rfl (fun h5 => (n_bind fun t8 => rfl)) fun h5 => rfl))) fun h4 => rfl)) fun h3 => rfl)) fun h2 => rfl))))))))))
theorem lib3 : Lib Tryd.prog GL0 C3 :=
  Lib.fn lib8 mixed TT_ok Tryd.func3 (by decide +kernel) (by kernel_rfl) true L3 (loops_of 1 (by kernel_rfl) (belowS below0 okL3_0)) ks3 (F := fun us => F_skirmishtop_TopTerrain (toI (cIa (aggL (cIa us 0)) 0)) (toI (cIa (aggL (cIa us 0)) 1)) (roRows (cIa (aggL (cIa us 0)) 2)) (roRows (cIa us 1)) (toI (cIa us 2)) (toI (cIa (aggL (cIa us 3)) 0)) (toI (cIa (aggL (cIa us 3)) 1)) (toI (cIa (aggL (cIa us 4)) 0)) (toI (cIa (aggL (cIa us 4)) 1)) (toI (cIa (aggL (cIa us 5)) 0)) (toI (cIa (aggL (cIa us 5)) 1)) (roRows (cIa us 6))) (fun us => rfl) (fun us => run3 (toI (cIa (aggL (cIa us 0)) 0)) (toI (cIa (aggL (cIa us 0)) 1)) (roRows (cIa (aggL (cIa us 0)) 2)) (roRows (cIa us 1)) (toI (cIa us 2)) (toI (cIa (aggL (cIa us 3)) 0)) (toI (cIa (aggL (cIa us 3)) 1)) (toI (cIa (aggL (cIa us 4)) 0)) (toI (cIa (aggL (cIa us 4)) 1)) (toI (cIa (aggL (cIa us 5)) 0)) (toI (cIa (aggL (cIa us 5)) 1)) (roRows (cIa us 6))) (fun t => rfl)

end Go.Proofs.YtmnjdfdiokomhaaDoor.AI
