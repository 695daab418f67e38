/- What functions answer: printed by wip/tool2/Ev.lean out of the interpreter's run; each print is checked by Lean. -/
import Derived.Test.YtclfphmehilaeaaDoorTab
namespace Go.Proofs.YtclfphmehilaeaaDoor.AI
open Go.RowKit
set_option linter.unusedVariables false
set_option linter.unusedSimpArgs false
set_option maxRecDepth 100000
abbrev LL := List (List AVal)
theorem n_tru {c : Bool} {A Y : Option CR} (hc : c = true) (h : A = Y) : (bif c then A else none) = Y := n_true hc h
noncomputable def F_skirmishlaw14_small (x_M_W x_M_H : Int) (x_M_Cells x_Blocked : LL) (x_Class x_A_X x_A_Y x_B_X x_B_Y x_C_X x_C_Y : Int) : Option (Bool) :=
  bif (decide ((Int.ofNat x_M_Cells.length) ≤ (1100 : Int))) then
    some (decide ((Int.ofNat x_Blocked.length) ≤ (2000 : Int)))
  else
  some false
noncomputable def enc10 (t : Bool) : CR := ⟨true, (.sc (.bool t)), [], []⟩
noncomputable def ks10 : List SK := [.agg [.int .i64, .int .i64, .ro 3, .ro 1, .int .i64, .int .i64, .int .i64, .int .i64, .int .i64, .int .i64, .int .i64]]
noncomputable def S10 (us : List AVal) : Call := bif chkA ks10 us then Call.of (F_skirmishlaw14_small (toI (cIa (aggL (cIa us 0)) 0)) (toI (cIa (aggL (cIa us 0)) 1)) (roRows (cIa (aggL (cIa us 0)) 2)) (roRows (cIa (aggL (cIa us 0)) 3)) (toI (cIa (aggL (cIa us 0)) 4)) (toI (cIa (aggL (cIa us 0)) 5)) (toI (cIa (aggL (cIa us 0)) 6)) (toI (cIa (aggL (cIa us 0)) 7)) (toI (cIa (aggL (cIa us 0)) 8)) (toI (cIa (aggL (cIa us 0)) 9)) (toI (cIa (aggL (cIa us 0)) 10))) enc10 else Call.none
noncomputable def C10 := AI.ext 10 S10 Cnone
theorem run10 (x_M_W x_M_H : Int) (x_M_Cells x_Blocked : LL) (x_Class x_A_X x_A_Y x_B_X x_B_Y x_C_X x_C_Y : Int) : fcall TT TU GL0 Cnone ownF true noL Tryd.f10 [(.agg [(.sc (.int .i64 x_M_W)), (.sc (.int .i64 x_M_H)), (.ro 3 x_M_Cells), (.ro 1 x_Blocked), (.sc (.int .i64 x_Class)), (.sc (.int .i64 x_A_X)), (.sc (.int .i64 x_A_Y)), (.sc (.int .i64 x_B_X)), (.sc (.int .i64 x_B_Y)), (.sc (.int .i64 x_C_X)), (.sc (.int .i64 x_C_Y))])] = (F_skirmishlaw14_small x_M_W x_M_H x_M_Cells x_Blocked x_Class x_A_X x_A_Y x_B_X x_B_Y x_C_X x_C_Y).bind fun t => some (enc10 t) :=
  Eq.trans (by kernel_rfl) (n_condH rfl (fun h0 => rfl) fun h0 => rfl)
theorem lib10 : Lib Tryd.prog GL0 C10 :=
  Lib.fn libnone mixed TT_ok Tryd.func10 (by decide +kernel) (by kernel_rfl) true noL (loops_of 0 (by kernel_rfl) below0) ks10 (F := fun us => F_skirmishlaw14_small (toI (cIa (aggL (cIa us 0)) 0)) (toI (cIa (aggL (cIa us 0)) 1)) (roRows (cIa (aggL (cIa us 0)) 2)) (roRows (cIa (aggL (cIa us 0)) 3)) (toI (cIa (aggL (cIa us 0)) 4)) (toI (cIa (aggL (cIa us 0)) 5)) (toI (cIa (aggL (cIa us 0)) 6)) (toI (cIa (aggL (cIa us 0)) 7)) (toI (cIa (aggL (cIa us 0)) 8)) (toI (cIa (aggL (cIa us 0)) 9)) (toI (cIa (aggL (cIa us 0)) 10))) (fun us => rfl) (fun us => run10 (toI (cIa (aggL (cIa us 0)) 0)) (toI (cIa (aggL (cIa us 0)) 1)) (roRows (cIa (aggL (cIa us 0)) 2)) (roRows (cIa (aggL (cIa us 0)) 3)) (toI (cIa (aggL (cIa us 0)) 4)) (toI (cIa (aggL (cIa us 0)) 5)) (toI (cIa (aggL (cIa us 0)) 6)) (toI (cIa (aggL (cIa us 0)) 7)) (toI (cIa (aggL (cIa us 0)) 8)) (toI (cIa (aggL (cIa us 0)) 9)) (toI (cIa (aggL (cIa us 0)) 10))) (fun t => rfl)
noncomputable def W22_0 : Ex → List Bool
  | .ret => [true, false, false, false, false, false, false, false, false, false, false, false, false, false, false]
  | .exit n => bif Nat.beq n 0 then [true, true, false, false, false, false, false, false, false, false, false, false, false, false, false] else []
  | _ => []
noncomputable def G_skirmishlaw14_plain_0 : Nat → LL → Int → Option (LL)
  | 0, _, _ => none
  | m + 1, R2, i =>
    bif (decide (i < (9 : Int))) then
      bif (roomOk (R2.length + 1) 24) then
        G_skirmishlaw14_plain_0 m (R2 ++ [[(i64 (1 : Int)), (i64 (0 : Int)), (i64 (0 : Int))]]) (wr (i + (1 : Int)))
      else
      none
    else
    some R2
noncomputable def E22_0 (R0 R2 : LL) (i b1_0 b1_1 b3_0 b3_1 : Int) : St := ⟨[(.ref 16000000 1 0 0), (.ref 16000016 1 0 0), (.sc (.int .i64 i)), .dead, .dead, .dead, .dead, .dead, .dead, .dead, .dead, .dead, .dead, .dead, .dead], [(16000003, ⟨.arr, 65, 3, R0⟩), (16000000, ⟨.box, 24, 3, [[(.sc (.int .i64 b1_0)), (.sc (.int .i64 b1_1)), (.slc 16000003 (R0).length)]]⟩), (19202, ⟨.arr, 65, 3, R2⟩), (16000016, ⟨.box, 24, 3, [[(.sc (.int .i64 b3_0)), (.sc (.int .i64 b3_1)), (.slc 19202 (R2).length)]]⟩)]⟩
noncomputable def X22_0 (R0 : LL) (b1_0 b1_1 b3_0 b3_1 : Int) (k : Ex → St → Option CR) (t : LL) : Option CR := k (.exit 0) ⟨[(.ref 16000000 1 0 0), (.ref 16000016 1 0 0), .dead, .dead, .dead, .dead, .dead, .dead, .dead, .dead, .dead, .dead, .dead, .dead, .dead], [(16000003, ⟨.arr, 65, 3, R0⟩), (16000000, ⟨.box, 24, 3, [[(.sc (.int .i64 b1_0)), (.sc (.int .i64 b1_1)), (.slc 16000003 (R0).length)]]⟩), (19202, ⟨.arr, 65, 3, t⟩), (16000016, ⟨.box, 24, 3, [[(.sc (.int .i64 b3_0)), (.sc (.int .i64 b3_1)), (.slc 19202 (t).length)]]⟩)]⟩
noncomputable def ks22_0 : List SK := [.f (.ref 16000000 1 0 0), .f (.ref 16000016 1 0 0), .f (.int .i64), .f .dead, .f .dead, .f .dead, .f .dead, .f .dead, .f .dead, .f .dead, .f .dead, .f .dead, .f .dead, .f .dead, .f .dead]
noncomputable def hs22_0 : List HK := [⟨16000003, .arr, 65, 3, none⟩, ⟨16000000, .box, 24, 3, some [.int .i64, .int .i64, .slc 16000003 0]⟩, ⟨19202, .arr, 65, 3, none⟩, ⟨16000016, .box, 24, 3, some [.int .i64, .int .i64, .slc 19202 2]⟩]
noncomputable def Lm22_0 (s : St) (k : Ex → St → Option CR) : Option CR := bif chkS ks22_0 hs22_0 s then (G_skirmishlaw14_plain_0 FU (blkAt s.heap 2).2.rows (toI (cIa s.tmps 2))).bind (X22_0 (blkAt s.heap 0).2.rows (toI (cIa (rows0 (blkAt s.heap 1).2) 0)) (toI (cIa (rows0 (blkAt s.heap 1).2) 1)) (toI (cIa (rows0 (blkAt s.heap 3).2) 0)) (toI (cIa (rows0 (blkAt s.heap 3).2) 1)) k) else none
noncomputable def L22_0 (s : St) (k : Ex → St → Option CR) : Option CR := Lm22_0 (maskS (maskOf ks22_0) s) k
noncomputable def L22 : LT' := fun i s k => bif Nat.beq i 0 then L22_0 s k else none
noncomputable def F_skirmishlaw14_plain : Option (LL × Int × Int) :=
  Option.bind (G_skirmishlaw14_plain_0 FU [] (0 : Int)) fun t =>
  some (t, (3 : Int), (3 : Int))
noncomputable def enc22 (t : LL × Int × Int) : CR := ⟨true, (.agg [(.sc (.int .i64 t.2.1)), (.sc (.int .i64 t.2.2)), (.slc 0 (t.1).length)]), [], [⟨.arr, 65, 3, t.1⟩]⟩
noncomputable def ks22 : List SK := []
noncomputable def S22 (us : List AVal) : Call := bif chkA ks22 us then Call.of (F_skirmishlaw14_plain) enc22 else Call.none
noncomputable def C22 := AI.ext 22 S22 C10
@[reducible] noncomputable def B22_0 := bodyOf TT TU GL0 C10 ownE L22 (lp Tryd.f22 0)
@[reducible] noncomputable def K22_0 (k : Ex → St → Option CR) : Ex → St → Option CR := fun e s => k e (maskS (W22_0 e) s)
theorem spec22_0 (k : Ex → St → Option CR) : ∀ (m : Nat) (R0 R2 : LL) (i b1_0 b1_1 b3_0 b3_1 : Int), loopN B22_0 m (E22_0 R0 R2 i b1_0 b1_1 b3_0 b3_1) (K22_0 k) = (G_skirmishlaw14_plain_0 m R2 i).bind (X22_0 R0 b1_0 b1_1 b3_0 b3_1 k)
  | 0, _, _, _, _, _, _, _ => rfl
  | m + 1, R0, R2, i, b1_0, b1_1, b3_0, b3_1 =>
    Eq.trans (by kernel_rfl) (n_condH rfl (fun h0 => (n_condH (show ((((verEq R2.length R2.length) && true) && (roomOk (R2.length + 1) 24))) = _ from (n_andL (n_andL (verEq_rfl _) rfl) rfl)) (fun h1 => (spec22_0 k m R0 (R2 ++ [[(i64 (1 : Int)), (i64 (0 : Int)), (i64 (0 : Int))]]) (wr (i + (1 : Int))) b1_0 b1_1 b3_0 b3_1)) fun h1 => rfl)) fun h0 => rfl)
theorem okL22_0 : LoopOk TT TU GL0 C10 ownE L22 (lp Tryd.f22 0) :=
  loopOk_of ks22_0 hs22_0 W22_0 FU (fun s k => (G_skirmishlaw14_plain_0 FU (blkAt s.heap 2).2.rows (toI (cIa s.tmps 2))).bind (X22_0 (blkAt s.heap 0).2.rows (toI (cIa (rows0 (blkAt s.heap 1).2) 0)) (toI (cIa (rows0 (blkAt s.heap 1).2) 1)) (toI (cIa (rows0 (blkAt s.heap 3).2) 0)) (toI (cIa (rows0 (blkAt s.heap 3).2) 1)) k)) (fun s k => by kernel_rfl) (fun s k => spec22_0 k FU (blkAt s.heap 0).2.rows (blkAt s.heap 2).2.rows (toI (cIa s.tmps 2)) (toI (cIa (rows0 (blkAt s.heap 1).2) 0)) (toI (cIa (rows0 (blkAt s.heap 1).2) 1)) (toI (cIa (rows0 (blkAt s.heap 3).2) 0)) (toI (cIa (rows0 (blkAt s.heap 3).2) 1)))
theorem run22 : fcall TT TU GL0 C10 ownE true L22 Tryd.f22 [] = (F_skirmishlaw14_plain).bind fun t => some (enc22 t) :=
  Eq.trans (by kernel_rfl) (n_bind fun t => (n_tru (show (verEq t.length t.length) = true from (verEq_rfl _)) rfl))
theorem lib22 : Lib Tryd.prog GL0 C22 :=
  Lib.fn lib10 mixed TT_ok Tryd.func22 (by decide +kernel) (by kernel_rfl) true L22 (loops_of 1 (by kernel_rfl) (belowS below0 okL22_0)) ks22 (F := fun us => F_skirmishlaw14_plain) (fun us => rfl) (fun us => run22) (fun t => rfl)
noncomputable def F_num_Clamp (n lo hi : Int) : Option (Int) :=
  some (maxI lo (minI n hi))
noncomputable def enc68 (t : Int) : CR := ⟨true, (.sc (.int .i64 t)), [], []⟩
noncomputable def ks68 : List SK := [.f (.int .i64), .f (.int .i64), .f (.int .i64)]
noncomputable def S68 (us : List AVal) : Call := bif chkA ks68 us then Call.of (F_num_Clamp (toI (cIa us 0)) (toI (cIa us 1)) (toI (cIa us 2))) enc68 else Call.none
noncomputable def C68 := AI.ext 68 S68 C22
theorem run68 (n lo hi : Int) : fcall TT TU GL0 C22 ownF true noL Tryd.f68 [(.sc (.int .i64 n)), (.sc (.int .i64 lo)), (.sc (.int .i64 hi))] = (F_num_Clamp n lo hi).bind fun t => some (enc68 t) :=
  Eq.trans (by kernel_rfl) rfl
theorem lib68 : Lib Tryd.prog GL0 C68 :=
  Lib.fn lib22 mixed TT_ok Tryd.func68 (by decide +kernel) (by kernel_rfl) true noL (loops_of 0 (by kernel_rfl) below0) ks68 (F := fun us => F_num_Clamp (toI (cIa us 0)) (toI (cIa us 1)) (toI (cIa us 2))) (fun us => rfl) (fun us => run68 (toI (cIa us 0)) (toI (cIa us 1)) (toI (cIa us 2))) (fun t => rfl)
noncomputable def F_grid_near (n : Int) : Option (Int) :=
  Option.bind (F_num_Clamp n (-(1048576 : Int)) (1048576 : Int)) fun t =>
  some t
noncomputable def enc50 (t : Int) : CR := ⟨true, (.sc (.int .i64 t)), [], []⟩
noncomputable def ks50 : List SK := [.f (.int .i64)]
noncomputable def S50 (us : List AVal) : Call := bif chkA ks50 us then Call.of (F_grid_near (toI (cIa us 0))) enc50 else Call.none
noncomputable def C50 := AI.ext 50 S50 C68
theorem run50 (n : Int) : fcall TT TU GL0 C68 ownF true noL Tryd.f50 [(.sc (.int .i64 n))] = (F_grid_near n).bind fun t => some (enc50 t) :=
  Eq.trans (by kernel_rfl) (n_bind fun t => rfl)
theorem lib50 : Lib Tryd.prog GL0 C50 :=
  Lib.fn lib68 mixed TT_ok Tryd.func50 (by decide +kernel) (by kernel_rfl) true noL (loops_of 0 (by kernel_rfl) below0) ks50 (F := fun us => F_grid_near (toI (cIa us 0))) (fun us => rfl) (fun us => run50 (toI (cIa us 0))) (fun t => rfl)
noncomputable def F_grid_pos (p_X p_Y : Int) : Option (Int × Int) :=
  Option.bind (F_grid_near p_X) fun t =>
  Option.bind (F_grid_near p_Y) fun t1 =>
  some (t, t1)
noncomputable def enc49 (t : Int × Int) : CR := ⟨true, (.agg [(.sc (.int .i64 t.1)), (.sc (.int .i64 t.2))]), [], []⟩
noncomputable def ks49 : List SK := [.agg [.int .i64, .int .i64]]
noncomputable def S49 (us : List AVal) : Call := bif chkA ks49 us then Call.of (F_grid_pos (toI (cIa (aggL (cIa us 0)) 0)) (toI (cIa (aggL (cIa us 0)) 1))) enc49 else Call.none
noncomputable def C49 := AI.ext 49 S49 C50
theorem run49 (p_X p_Y : Int) : fcall TT TU GL0 C50 ownF true noL Tryd.f49 [(.agg [(.sc (.int .i64 p_X)), (.sc (.int .i64 p_Y))])] = (F_grid_pos p_X p_Y).bind fun t => some (enc49 t) :=
  Eq.trans (by kernel_rfl) (n_bind fun t => (n_bind fun t1 => rfl))
theorem lib49 : Lib Tryd.prog GL0 C49 :=
  Lib.fn lib50 mixed TT_ok Tryd.func49 (by decide +kernel) (by kernel_rfl) true noL (loops_of 0 (by kernel_rfl) below0) ks49 (F := fun us => F_grid_pos (toI (cIa (aggL (cIa us 0)) 0)) (toI (cIa (aggL (cIa us 0)) 1))) (fun us => rfl) (fun us => run49 (toI (cIa (aggL (cIa us 0)) 0)) (toI (cIa (aggL (cIa us 0)) 1))) (fun t => rfl)
noncomputable def F_grid_Index (w p_X p_Y : Int) : Option (Int) :=
  Option.bind (F_grid_pos p_X p_Y) fun t =>
  Option.bind (F_grid_near w) fun t1 =>
  some (wr ((wr (t.2 * t1)) + t.1))
noncomputable def enc28 (t : Int) : CR := ⟨true, (.sc (.int .i64 t)), [], []⟩
noncomputable def ks28 : List SK := [.f (.int .i64), .agg [.int .i64, .int .i64]]
noncomputable def S28 (us : List AVal) : Call := bif chkA ks28 us then Call.of (F_grid_Index (toI (cIa us 0)) (toI (cIa (aggL (cIa us 1)) 0)) (toI (cIa (aggL (cIa us 1)) 1))) enc28 else Call.none
noncomputable def C28 := AI.ext 28 S28 C49
theorem run28 (w p_X p_Y : Int) : fcall TT TU GL0 C49 ownF true noL Tryd.f28 [(.sc (.int .i64 w)), (.agg [(.sc (.int .i64 p_X)), (.sc (.int .i64 p_Y))])] = (F_grid_Index w p_X p_Y).bind fun t => some (enc28 t) :=
  Eq.trans (by kernel_rfl) (n_bind fun t => (n_bind fun t1 => rfl))
theorem lib28 : Lib Tryd.prog GL0 C28 :=
  Lib.fn lib49 mixed TT_ok Tryd.func28 (by decide +kernel) (by kernel_rfl) true noL (loops_of 0 (by kernel_rfl) below0) ks28 (F := fun us => F_grid_Index (toI (cIa us 0)) (toI (cIa (aggL (cIa us 1)) 0)) (toI (cIa (aggL (cIa us 1)) 1))) (fun us => rfl) (fun us => run28 (toI (cIa us 0)) (toI (cIa (aggL (cIa us 1)) 0)) (toI (cIa (aggL (cIa us 1)) 1))) (fun t => rfl)
noncomputable def F_astar_Path_1 (p_X p_Y : Int) (a1 : LL) (a2_W a2_H : Int) (a2_Cells : LL) : Option (Int) :=
  Option.bind (F_grid_Index a2_W p_X p_Y) fun t =>
  bif ((decide ((0 : Int) ≤ t)) && (decide (t < (Int.ofNat a1.length)))) then
    Option.bind (a1[t.toNat]?) fun r =>
    bif (chk [(LT.int IntKind.i64)] r) then
      some (cI r 0)
    else
    none
  else
  none
noncomputable def enc27 (p_X p_Y : Int) (a1 : LL) (a2_W a2_H : Int) (a2_Cells : LL) (t : Int) : CR := ⟨true, (.sc (.int .i64 t)), [[[(.slc 2 (a1).length)]], [[(.sc (.int .i64 a2_W)), (.sc (.int .i64 a2_H)), (.ro 3 a2_Cells)]], a1], []⟩
noncomputable def ks27 : List SK := [.agg [.int .i64, .int .i64], .f (.ref 0 1 0 0), .f (.ref 1 1 0 0)]
noncomputable def hs27 : List HK := [⟨0, .box, 41, 1, some [.slc 2 2]⟩, ⟨1, .box, 24, 3, some [.int .i64, .int .i64, .ro 3]⟩, ⟨2, .arr, 3, 1, none⟩]
noncomputable def S27 (us : List AVal) (bs : List Blk) : Call := Call.guard (chkS ks27 hs27 ⟨us, numK 0 bs⟩) (Call.of (F_astar_Path_1 (toI (cIa (aggL (cIa us 0)) 0)) (toI (cIa (aggL (cIa us 0)) 1)) (blkAt (numK 0 bs) 2).2.rows (toI (cIa (rows0 (blkAt (numK 0 bs) 1).2) 0)) (toI (cIa (rows0 (blkAt (numK 0 bs) 1).2) 1)) (roRows (cIa (rows0 (blkAt (numK 0 bs) 1).2) 2))) (enc27 (toI (cIa (aggL (cIa us 0)) 0)) (toI (cIa (aggL (cIa us 0)) 1)) (blkAt (numK 0 bs) 2).2.rows (toI (cIa (rows0 (blkAt (numK 0 bs) 1).2) 0)) (toI (cIa (rows0 (blkAt (numK 0 bs) 1).2) 1)) (roRows (cIa (rows0 (blkAt (numK 0 bs) 1).2) 2))))
noncomputable def C27 := AI.extH 27 S27 C28
theorem run27 (p_X p_Y : Int) (a1 : LL) (a2_W a2_H : Int) (a2_Cells : LL) : fcallH TT TU GL0 C28 ownF noL Tryd.f27 [(.agg [(.sc (.int .i64 p_X)), (.sc (.int .i64 p_Y))]), (.ref 0 1 0 0), (.ref 1 1 0 0)] [(0, (⟨.box, 41, 1, [[(.slc 2 (List.length a1))]]⟩ : Blk)), (1, (⟨.box, 24, 3, [[(.sc (.int .i64 a2_W)), (.sc (.int .i64 a2_H)), (.ro 3 a2_Cells)]]⟩ : Blk)), (2, (⟨.arr, 3, 1, a1⟩ : Blk))] = (F_astar_Path_1 p_X p_Y a1 a2_W a2_H a2_Cells).bind fun t => some (enc27 p_X p_Y a1 a2_W a2_H a2_Cells t) :=
  Eq.trans (by kernel_rfl) (n_bind fun t => (n_condH (show ((((verEq a1.length a1.length) && (decide ((0 : Int) ≤ t))) && (decide (t < (Int.ofNat a1.length))))) = _ from (n_and (n_andL (verEq_rfl _) rfl) rfl)) (fun h0 => (n_tru (show (verEq a1.length a1.length) = true from (verEq_rfl _)) (n_bind fun r => (n_condH rfl (fun h1 => (n_tru (show (verEq a1.length a1.length) = true from (verEq_rfl _)) rfl)) fun h1 => rfl)))) fun h0 => rfl))
theorem lib27 : Lib Tryd.prog GL0 C27 :=
  Lib.fnH lib28 mixed TT_ok Tryd.func27 (by decide +kernel) (by kernel_rfl) noL (loops_of 0 (by kernel_rfl) below0) ks27 hs27 (by kernel_rfl) (F := fun us H => F_astar_Path_1 (toI (cIa (aggL (cIa us 0)) 0)) (toI (cIa (aggL (cIa us 0)) 1)) (blkAt H 2).2.rows (toI (cIa (rows0 (blkAt H 1).2) 0)) (toI (cIa (rows0 (blkAt H 1).2) 1)) (roRows (cIa (rows0 (blkAt H 1).2) 2))) (enc := fun us H => enc27 (toI (cIa (aggL (cIa us 0)) 0)) (toI (cIa (aggL (cIa us 0)) 1)) (blkAt H 2).2.rows (toI (cIa (rows0 (blkAt H 1).2) 0)) (toI (cIa (rows0 (blkAt H 1).2) 1)) (roRows (cIa (rows0 (blkAt H 1).2) 2))) (fun us bs => rfl) (fun us H => run27 (toI (cIa (aggL (cIa us 0)) 0)) (toI (cIa (aggL (cIa us 0)) 1)) (blkAt H 2).2.rows (toI (cIa (rows0 (blkAt H 1).2) 0)) (toI (cIa (rows0 (blkAt H 1).2) 1)) (roRows (cIa (rows0 (blkAt H 1).2) 2)))
noncomputable def F_terrain_validCell (c_Kind c_Height c_Amount : Int) : Option (Bool) :=
  bif (decide (c_Kind < (1 : Int))) then
    some false
  else
  bif (decide (c_Kind > (5 : Int))) then
    some false
  else
  bif (decide (c_Height < (0 : Int))) then
    some false
  else
  bif (decide (c_Height > (3 : Int))) then
    some false
  else
  bif (decide (c_Amount < (0 : Int))) then
    some false
  else
  bif (decide (c_Amount > (1000000 : Int))) then
    some false
  else
  bif (c_Kind == (4 : Int)) then
    some ((decide (c_Amount > (0 : Int))) == true)
  else
  some ((decide (c_Amount > (0 : Int))) == (c_Kind == (5 : Int)))
noncomputable def enc66 (t : Bool) : CR := ⟨true, (.sc (.bool t)), [], []⟩
noncomputable def ks66 : List SK := [.agg [.int .i64, .int .i64, .int .i64]]
noncomputable def S66 (us : List AVal) : Call := bif chkA ks66 us then Call.of (F_terrain_validCell (toI (cIa (aggL (cIa us 0)) 0)) (toI (cIa (aggL (cIa us 0)) 1)) (toI (cIa (aggL (cIa us 0)) 2))) enc66 else Call.none
noncomputable def C66 := AI.ext 66 S66 C27
theorem run66 (c_Kind c_Height c_Amount : Int) : fcall TT TU GL0 C27 ownF true noL Tryd.f66 [(.agg [(.sc (.int .i64 c_Kind)), (.sc (.int .i64 c_Height)), (.sc (.int .i64 c_Amount))])] = (F_terrain_validCell c_Kind c_Height c_Amount).bind fun t => some (enc66 t) :=
  Eq.trans (by kernel_rfl) (n_condH rfl (fun h0 => rfl) fun h0 => (n_condH rfl (fun h1 => rfl) fun h1 => (n_condH rfl (fun h2 => rfl) fun h2 => (n_condH rfl (fun h3 => rfl) fun h3 => (n_condH rfl (fun h4 => rfl) fun h4 => (n_condH rfl (fun h5 => rfl) fun h5 => (n_condH rfl (fun h6 => rfl) fun h6 => rfl)))))))
theorem lib66 : Lib Tryd.prog GL0 C66 :=
  Lib.fn lib27 mixed TT_ok Tryd.func66 (by decide +kernel) (by kernel_rfl) true noL (loops_of 0 (by kernel_rfl) below0) ks66 (F := fun us => F_terrain_validCell (toI (cIa (aggL (cIa us 0)) 0)) (toI (cIa (aggL (cIa us 0)) 1)) (toI (cIa (aggL (cIa us 0)) 2))) (fun us => rfl) (fun us => run66 (toI (cIa (aggL (cIa us 0)) 0)) (toI (cIa (aggL (cIa us 0)) 1)) (toI (cIa (aggL (cIa us 0)) 2))) (fun t => rfl)
noncomputable def F_terrain_Valid_1 (c_Kind c_Height c_Amount : Int) : Option (Bool) :=
  Option.bind (F_terrain_validCell c_Kind c_Height c_Amount) fun t =>
  some (!t)
noncomputable def enc65 (t : Bool) : CR := ⟨true, (.sc (.bool t)), [], []⟩
noncomputable def ks65 : List SK := [.agg [.int .i64, .int .i64, .int .i64]]
noncomputable def S65 (us : List AVal) : Call := bif chkA ks65 us then Call.of (F_terrain_Valid_1 (toI (cIa (aggL (cIa us 0)) 0)) (toI (cIa (aggL (cIa us 0)) 1)) (toI (cIa (aggL (cIa us 0)) 2))) enc65 else Call.none
noncomputable def C65 := AI.ext 65 S65 C66
theorem run65 (c_Kind c_Height c_Amount : Int) : fcall TT TU GL0 C66 ownF true noL Tryd.f65 [(.agg [(.sc (.int .i64 c_Kind)), (.sc (.int .i64 c_Height)), (.sc (.int .i64 c_Amount))])] = (F_terrain_Valid_1 c_Kind c_Height c_Amount).bind fun t => some (enc65 t) :=
  Eq.trans (by kernel_rfl) (n_bind fun t => rfl)
theorem lib65 : Lib Tryd.prog GL0 C65 :=
  Lib.fn lib66 mixed TT_ok Tryd.func65 (by decide +kernel) (by kernel_rfl) true noL (loops_of 0 (by kernel_rfl) below0) ks65 (F := fun us => F_terrain_Valid_1 (toI (cIa (aggL (cIa us 0)) 0)) (toI (cIa (aggL (cIa us 0)) 1)) (toI (cIa (aggL (cIa us 0)) 2))) (fun us => rfl) (fun us => run65 (toI (cIa (aggL (cIa us 0)) 0)) (toI (cIa (aggL (cIa us 0)) 1)) (toI (cIa (aggL (cIa us 0)) 2))) (fun t => rfl)
noncomputable def F_grid_Valid (w h : Int) : Option (Bool) :=
  bif (decide (w ≥ (1 : Int))) then
    bif (decide (w ≤ (32 : Int))) then
      bif (decide (h ≥ (1 : Int))) then
        some (decide (h ≤ (32 : Int)))
      else
      some false
    else
    some false
  else
  some false
noncomputable def enc77 (t : Bool) : CR := ⟨true, (.sc (.bool t)), [], []⟩
noncomputable def ks77 : List SK := [.f (.int .i64), .f (.int .i64)]
noncomputable def S77 (us : List AVal) : Call := bif chkA ks77 us then Call.of (F_grid_Valid (toI (cIa us 0)) (toI (cIa us 1))) enc77 else Call.none
noncomputable def C77 := AI.ext 77 S77 C65
theorem run77 (w h : Int) : fcall TT TU GL0 C65 ownF true noL Tryd.f77 [(.sc (.int .i64 w)), (.sc (.int .i64 h))] = (F_grid_Valid w h).bind fun t => some (enc77 t) :=
  Eq.trans (by kernel_rfl) (n_condH rfl (fun h0 => (n_condH rfl (fun h1 => (n_condH rfl (fun h2 => rfl) fun h2 => rfl)) fun h1 => rfl)) fun h0 => rfl)
theorem lib77 : Lib Tryd.prog GL0 C77 :=
  Lib.fn lib65 mixed TT_ok Tryd.func77 (by decide +kernel) (by kernel_rfl) true noL (loops_of 0 (by kernel_rfl) below0) ks77 (F := fun us => F_grid_Valid (toI (cIa us 0)) (toI (cIa us 1))) (fun us => rfl) (fun us => run77 (toI (cIa us 0)) (toI (cIa us 1))) (fun t => rfl)
noncomputable def F_terrain_formed (m_W m_H : Int) (m_Cells : LL) : Option (Bool) :=
  Option.bind (F_grid_Valid m_W m_H) fun t =>
  bif t then
    some ((Int.ofNat m_Cells.length) == (wr (m_W * m_H)))
  else
  some false
noncomputable def enc63 (t : Bool) : CR := ⟨true, (.sc (.bool t)), [], []⟩
noncomputable def ks63 : List SK := [.agg [.int .i64, .int .i64, .ro 3]]
noncomputable def S63 (us : List AVal) : Call := bif chkA ks63 us then Call.of (F_terrain_formed (toI (cIa (aggL (cIa us 0)) 0)) (toI (cIa (aggL (cIa us 0)) 1)) (roRows (cIa (aggL (cIa us 0)) 2))) enc63 else Call.none
noncomputable def C63 := AI.ext 63 S63 C77
theorem run63 (m_W m_H : Int) (m_Cells : LL) : fcall TT TU GL0 C77 ownF true noL Tryd.f63 [(.agg [(.sc (.int .i64 m_W)), (.sc (.int .i64 m_H)), (.ro 3 m_Cells)])] = (F_terrain_formed m_W m_H m_Cells).bind fun t => some (enc63 t) :=
  Eq.trans (by kernel_rfl) (n_bind fun t => (n_condH rfl (fun h0 => rfl) fun h0 => rfl))
theorem lib63 : Lib Tryd.prog GL0 C63 :=
  Lib.fn lib77 mixed TT_ok Tryd.func63 (by decide +kernel) (by kernel_rfl) true noL (loops_of 0 (by kernel_rfl) below0) ks63 (F := fun us => F_terrain_formed (toI (cIa (aggL (cIa us 0)) 0)) (toI (cIa (aggL (cIa us 0)) 1)) (roRows (cIa (aggL (cIa us 0)) 2))) (fun us => rfl) (fun us => run63 (toI (cIa (aggL (cIa us 0)) 0)) (toI (cIa (aggL (cIa us 0)) 1)) (roRows (cIa (aggL (cIa us 0)) 2))) (fun t => rfl)
noncomputable def W78_0 : Ex → List Bool
  | .ret => [false, false, false, false, true, false, false, false, false, false, false, false, false, false, false, false, false, false, false]
  | .exit n => bif Nat.beq n 0 then [false, false, false, false, false, false, false, false, false, false, false, false, false, false, false, false, false, false, false] else []
  | _ => []
noncomputable def G_slices_IndexFunc_Cell_0 (s1 : LL) (x7 : Int) : Nat → Int → Option (Bool × Int)
  | 0, _ => none
  | m + 1, x8 =>
    bif (decide (x8 < x7)) then
      bif (decide ((0 : Int) ≤ x8)) then
        Option.bind (s1[x8.toNat]?) fun r =>
        bif (chk [(LT.int IntKind.i64), (LT.int IntKind.i64), (LT.int IntKind.i64)] r) then
          Option.bind (F_terrain_Valid_1 (cI r 0) (cI r 1) (cI r 2)) fun t =>
          bif t then
            some (true, x8)
          else
          G_slices_IndexFunc_Cell_0 s1 x7 m (wr (x8 + (1 : Int)))
        else
        none
      else
      none
    else
    some (false, 0)
noncomputable def E78_0 (s1 : LL) (x7 x8 : Int) : St := ⟨[(.ro 3 s1), (.clo 65 []), .dead, .dead, .dead, .dead, .dead, (.sc (.int .i64 x7)), (.sc (.int .i64 x8)), .dead, .dead, .dead, .dead, .dead, .dead, .dead, .dead, .dead, .dead], []⟩
noncomputable def X78_0 (k : Ex → St → Option CR) (t : Bool × Int) : Option CR := bif t.1 then k .ret ⟨[.dead, .dead, .dead, .dead, (.sc (.int .i64 t.2)), .dead, .dead, .dead, .dead, .dead, .dead, .dead, .dead, .dead, .dead, .dead, .dead, .dead, .dead], []⟩ else k (.exit 0) ⟨[.dead, .dead, .dead, .dead, .dead, .dead, .dead, .dead, .dead, .dead, .dead, .dead, .dead, .dead, .dead, .dead, .dead, .dead, .dead], []⟩
noncomputable def ks78_0 : List SK := [.f (.ro 3), .f (.clo 65 []), .f .dead, .f .dead, .f .dead, .f .dead, .f .dead, .f (.int .i64), .f (.int .i64), .f .dead, .f .dead, .f .dead, .f .dead, .f .dead, .f .dead, .f .dead, .f .dead, .f .dead, .f .dead]
noncomputable def hs78_0 : List HK := []
noncomputable def Lm78_0 (s : St) (k : Ex → St → Option CR) : Option CR := bif chkS ks78_0 hs78_0 s then (G_slices_IndexFunc_Cell_0 (roRows (cIa s.tmps 0)) (toI (cIa s.tmps 7)) FU (toI (cIa s.tmps 8))).bind (X78_0 k) else none
noncomputable def L78_0 (s : St) (k : Ex → St → Option CR) : Option CR := Lm78_0 (maskS (maskOf ks78_0) s) k
noncomputable def L78 : LT' := fun i s k => bif Nat.beq i 0 then L78_0 s k else none
noncomputable def F_slices_IndexFunc_Cell (s1 : LL) : Option (Int) :=
  Option.bind (G_slices_IndexFunc_Cell_0 s1 (Int.ofNat s1.length) FU (0 : Int)) fun t =>
  bif t.1 then
    some t.2
  else
  some (-(1 : Int))
noncomputable def enc78 (t : Int) : CR := ⟨true, (.sc (.int .i64 t)), [], []⟩
noncomputable def ks78 : List SK := [.f (.ro 3), .f (.clo 65 [])]
noncomputable def S78 (us : List AVal) : Call := bif chkA ks78 us then Call.of (F_slices_IndexFunc_Cell (roRows (cIa us 0))) enc78 else Call.none
noncomputable def C78 := AI.ext 78 S78 C63
@[reducible] noncomputable def B78_0 := bodyOf TT TU GL0 C63 ownF L78 (lp Tryd.f78 0)
@[reducible] noncomputable def K78_0 (k : Ex → St → Option CR) : Ex → St → Option CR := fun e s => k e (maskS (W78_0 e) s)
theorem spec78_0 (k : Ex → St → Option CR) : ∀ (m : Nat) (s1 : LL) (x7 x8 : Int), loopN B78_0 m (E78_0 s1 x7 x8) (K78_0 k) = (G_slices_IndexFunc_Cell_0 s1 x7 m x8).bind (X78_0 k)
  | 0, _, _, _ => rfl
  | m + 1, s1, x7, x8 =>
    Eq.trans (by kernel_rfl) (n_condH rfl (fun h0 => (n_condH rfl (fun h1 => (n_bind fun r => (n_condH rfl (fun h2 => (n_bind fun t => (n_condH rfl (fun h3 => rfl) fun h3 => (spec78_0 k m s1 x7 (wr (x8 + (1 : Int))))))) fun h2 => rfl))) fun h1 => rfl)) fun h0 => rfl)
theorem okL78_0 : LoopOk TT TU GL0 C63 ownF L78 (lp Tryd.f78 0) :=
  loopOk_of ks78_0 hs78_0 W78_0 FU (fun s k => (G_slices_IndexFunc_Cell_0 (roRows (cIa s.tmps 0)) (toI (cIa s.tmps 7)) FU (toI (cIa s.tmps 8))).bind (X78_0 k)) (fun s k => by kernel_rfl) (fun s k => spec78_0 k FU (roRows (cIa s.tmps 0)) (toI (cIa s.tmps 7)) (toI (cIa s.tmps 8)))
theorem run78 (s1 : LL) : fcall TT TU GL0 C63 ownF true L78 Tryd.f78 [(.ro 3 s1), (.clo 65 [])] = (F_slices_IndexFunc_Cell s1).bind fun t => some (enc78 t) :=
  Eq.trans (by kernel_rfl) (n_bind fun t => (n_condH rfl (fun h0 => rfl) fun h0 => rfl))
theorem lib78 : Lib Tryd.prog GL0 C78 :=
  Lib.fn lib63 mixed TT_ok Tryd.func78 (by decide +kernel) (by kernel_rfl) true L78 (loops_of 1 (by kernel_rfl) (belowS below0 okL78_0)) ks78 (F := fun us => F_slices_IndexFunc_Cell (roRows (cIa us 0))) (fun us => rfl) (fun us => run78 (roRows (cIa us 0))) (fun t => rfl)
noncomputable def F_slices_ContainsFunc_Cell (s1 : LL) : Option (Bool) :=
  Option.bind (F_slices_IndexFunc_Cell s1) fun t =>
  some (decide (t ≥ (0 : Int)))
noncomputable def enc64 (t : Bool) : CR := ⟨true, (.sc (.bool t)), [], []⟩
noncomputable def ks64 : List SK := [.f (.ro 3), .f (.clo 65 [])]
noncomputable def S64 (us : List AVal) : Call := bif chkA ks64 us then Call.of (F_slices_ContainsFunc_Cell (roRows (cIa us 0))) enc64 else Call.none
noncomputable def C64 := AI.ext 64 S64 C78
theorem run64 (s1 : LL) : fcall TT TU GL0 C78 ownF true noL Tryd.f64 [(.ro 3 s1), (.clo 65 [])] = (F_slices_ContainsFunc_Cell s1).bind fun t => some (enc64 t) :=
  Eq.trans (by kernel_rfl) (n_bind fun t => rfl)
theorem lib64 : Lib Tryd.prog GL0 C64 :=
  Lib.fn lib78 mixed TT_ok Tryd.func64 (by decide +kernel) (by kernel_rfl) true noL (loops_of 0 (by kernel_rfl) below0) ks64 (F := fun us => F_slices_ContainsFunc_Cell (roRows (cIa us 0))) (fun us => rfl) (fun us => run64 (roRows (cIa us 0))) (fun t => rfl)
noncomputable def F_terrain_Valid (m_W m_H : Int) (m_Cells : LL) : Option (Bool) :=
  Option.bind (F_terrain_formed m_W m_H m_Cells) fun t =>
  bif t then
    Option.bind (F_slices_ContainsFunc_Cell m_Cells) fun t1 =>
    some (!t1)
  else
  some false
noncomputable def enc44 (t : Bool) : CR := ⟨true, (.sc (.bool t)), [], []⟩
noncomputable def ks44 : List SK := [.agg [.int .i64, .int .i64, .ro 3]]
noncomputable def S44 (us : List AVal) : Call := bif chkA ks44 us then Call.of (F_terrain_Valid (toI (cIa (aggL (cIa us 0)) 0)) (toI (cIa (aggL (cIa us 0)) 1)) (roRows (cIa (aggL (cIa us 0)) 2))) enc44 else Call.none
noncomputable def C44 := AI.ext 44 S44 C64
theorem run44 (m_W m_H : Int) (m_Cells : LL) : fcall TT TU GL0 C64 ownF true noL Tryd.f44 [(.agg [(.sc (.int .i64 m_W)), (.sc (.int .i64 m_H)), (.ro 3 m_Cells)])] = (F_terrain_Valid m_W m_H m_Cells).bind fun t => some (enc44 t) :=
  Eq.trans (by kernel_rfl) (n_bind fun t => (n_condH rfl (fun h0 => (n_bind fun t1 => rfl)) fun h0 => rfl))
theorem lib44 : Lib Tryd.prog GL0 C44 :=
  Lib.fn lib64 mixed TT_ok Tryd.func44 (by decide +kernel) (by kernel_rfl) true noL (loops_of 0 (by kernel_rfl) below0) ks44 (F := fun us => F_terrain_Valid (toI (cIa (aggL (cIa us 0)) 0)) (toI (cIa (aggL (cIa us 0)) 1)) (roRows (cIa (aggL (cIa us 0)) 2))) (fun us => rfl) (fun us => run44 (toI (cIa (aggL (cIa us 0)) 0)) (toI (cIa (aggL (cIa us 0)) 1)) (roRows (cIa (aggL (cIa us 0)) 2))) (fun t => rfl)
noncomputable def F_astar_ground__valid (g_m_W g_m_H : Int) (g_m_Cells g_blocked : LL) (g_class : Int) : Option (Bool) :=
  Option.bind (F_terrain_Valid g_m_W g_m_H g_m_Cells) fun t =>
  bif t then
    bif (decide (g_class ≥ (1 : Int))) then
      some (decide (g_class ≤ (3 : Int)))
    else
    some false
  else
  some false
noncomputable def enc23 (t : Bool) : CR := ⟨true, (.sc (.bool t)), [], []⟩
noncomputable def ks23 : List SK := [.agg [.int .i64, .int .i64, .ro 3, .ro 1, .int .i64]]
noncomputable def S23 (us : List AVal) : Call := bif chkA ks23 us then Call.of (F_astar_ground__valid (toI (cIa (aggL (cIa us 0)) 0)) (toI (cIa (aggL (cIa us 0)) 1)) (roRows (cIa (aggL (cIa us 0)) 2)) (roRows (cIa (aggL (cIa us 0)) 3)) (toI (cIa (aggL (cIa us 0)) 4))) enc23 else Call.none
noncomputable def C23 := AI.ext 23 S23 C44
theorem run23 (g_m_W g_m_H : Int) (g_m_Cells g_blocked : LL) (g_class : Int) : fcall TT TU GL0 C44 ownF true noL Tryd.f23 [(.agg [(.sc (.int .i64 g_m_W)), (.sc (.int .i64 g_m_H)), (.ro 3 g_m_Cells), (.ro 1 g_blocked), (.sc (.int .i64 g_class))])] = (F_astar_ground__valid g_m_W g_m_H g_m_Cells g_blocked g_class).bind fun t => some (enc23 t) :=
  Eq.trans (by kernel_rfl) (n_bind fun t => (n_condH rfl (fun h0 => (n_condH rfl (fun h1 => rfl) fun h1 => rfl)) fun h0 => rfl))
theorem lib23 : Lib Tryd.prog GL0 C23 :=
  Lib.fn lib44 mixed TT_ok Tryd.func23 (by decide +kernel) (by kernel_rfl) true noL (loops_of 0 (by kernel_rfl) below0) ks23 (F := fun us => F_astar_ground__valid (toI (cIa (aggL (cIa us 0)) 0)) (toI (cIa (aggL (cIa us 0)) 1)) (roRows (cIa (aggL (cIa us 0)) 2)) (roRows (cIa (aggL (cIa us 0)) 3)) (toI (cIa (aggL (cIa us 0)) 4))) (fun us => rfl) (fun us => run23 (toI (cIa (aggL (cIa us 0)) 0)) (toI (cIa (aggL (cIa us 0)) 1)) (roRows (cIa (aggL (cIa us 0)) 2)) (roRows (cIa (aggL (cIa us 0)) 3)) (toI (cIa (aggL (cIa us 0)) 4))) (fun t => rfl)
noncomputable def F_grid_In (w h p_X p_Y : Int) : Option (Bool) :=
  bif (decide (p_X ≥ (0 : Int))) then
    bif (decide (p_X < w)) then
      bif (decide (p_Y ≥ (0 : Int))) then
        some (decide (p_Y < h))
      else
      some false
    else
    some false
  else
  some false
noncomputable def enc45 (t : Bool) : CR := ⟨true, (.sc (.bool t)), [], []⟩
noncomputable def ks45 : List SK := [.f (.int .i64), .f (.int .i64), .agg [.int .i64, .int .i64]]
noncomputable def S45 (us : List AVal) : Call := bif chkA ks45 us then Call.of (F_grid_In (toI (cIa us 0)) (toI (cIa us 1)) (toI (cIa (aggL (cIa us 2)) 0)) (toI (cIa (aggL (cIa us 2)) 1))) enc45 else Call.none
noncomputable def C45 := AI.ext 45 S45 C23
theorem run45 (w h p_X p_Y : Int) : fcall TT TU GL0 C23 ownF true noL Tryd.f45 [(.sc (.int .i64 w)), (.sc (.int .i64 h)), (.agg [(.sc (.int .i64 p_X)), (.sc (.int .i64 p_Y))])] = (F_grid_In w h p_X p_Y).bind fun t => some (enc45 t) :=
  Eq.trans (by kernel_rfl) (n_condH rfl (fun h0 => (n_condH rfl (fun h1 => (n_condH rfl (fun h2 => rfl) fun h2 => rfl)) fun h1 => rfl)) fun h0 => rfl)
theorem lib45 : Lib Tryd.prog GL0 C45 :=
  Lib.fn lib23 mixed TT_ok Tryd.func45 (by decide +kernel) (by kernel_rfl) true noL (loops_of 0 (by kernel_rfl) below0) ks45 (F := fun us => F_grid_In (toI (cIa us 0)) (toI (cIa us 1)) (toI (cIa (aggL (cIa us 2)) 0)) (toI (cIa (aggL (cIa us 2)) 1))) (fun us => rfl) (fun us => run45 (toI (cIa us 0)) (toI (cIa us 1)) (toI (cIa (aggL (cIa us 2)) 0)) (toI (cIa (aggL (cIa us 2)) 1))) (fun t => rfl)
noncomputable def F_astar_ground__inside (g_m_W g_m_H : Int) (g_m_Cells g_blocked : LL) (g_class p_X p_Y : Int) : Option (Bool) :=
  Option.bind (F_grid_In g_m_W g_m_H p_X p_Y) fun t =>
  some t
noncomputable def enc24 (t : Bool) : CR := ⟨true, (.sc (.bool t)), [], []⟩
noncomputable def ks24 : List SK := [.agg [.int .i64, .int .i64, .ro 3, .ro 1, .int .i64], .agg [.int .i64, .int .i64]]
noncomputable def S24 (us : List AVal) : Call := bif chkA ks24 us then Call.of (F_astar_ground__inside (toI (cIa (aggL (cIa us 0)) 0)) (toI (cIa (aggL (cIa us 0)) 1)) (roRows (cIa (aggL (cIa us 0)) 2)) (roRows (cIa (aggL (cIa us 0)) 3)) (toI (cIa (aggL (cIa us 0)) 4)) (toI (cIa (aggL (cIa us 1)) 0)) (toI (cIa (aggL (cIa us 1)) 1))) enc24 else Call.none
noncomputable def C24 := AI.ext 24 S24 C45
theorem run24 (g_m_W g_m_H : Int) (g_m_Cells g_blocked : LL) (g_class p_X p_Y : Int) : fcall TT TU GL0 C45 ownF true noL Tryd.f24 [(.agg [(.sc (.int .i64 g_m_W)), (.sc (.int .i64 g_m_H)), (.ro 3 g_m_Cells), (.ro 1 g_blocked), (.sc (.int .i64 g_class))]), (.agg [(.sc (.int .i64 p_X)), (.sc (.int .i64 p_Y))])] = (F_astar_ground__inside g_m_W g_m_H g_m_Cells g_blocked g_class p_X p_Y).bind fun t => some (enc24 t) :=
  Eq.trans (by kernel_rfl) (n_bind fun t => rfl)
theorem lib24 : Lib Tryd.prog GL0 C24 :=
  Lib.fn lib45 mixed TT_ok Tryd.func24 (by decide +kernel) (by kernel_rfl) true noL (loops_of 0 (by kernel_rfl) below0) ks24 (F := fun us => F_astar_ground__inside (toI (cIa (aggL (cIa us 0)) 0)) (toI (cIa (aggL (cIa us 0)) 1)) (roRows (cIa (aggL (cIa us 0)) 2)) (roRows (cIa (aggL (cIa us 0)) 3)) (toI (cIa (aggL (cIa us 0)) 4)) (toI (cIa (aggL (cIa us 1)) 0)) (toI (cIa (aggL (cIa us 1)) 1))) (fun us => rfl) (fun us => run24 (toI (cIa (aggL (cIa us 0)) 0)) (toI (cIa (aggL (cIa us 0)) 1)) (roRows (cIa (aggL (cIa us 0)) 2)) (roRows (cIa (aggL (cIa us 0)) 3)) (toI (cIa (aggL (cIa us 0)) 4)) (toI (cIa (aggL (cIa us 1)) 0)) (toI (cIa (aggL (cIa us 1)) 1))) (fun t => rfl)
noncomputable def F_terrain_inside (m_W m_H : Int) (m_Cells : LL) (p_X p_Y : Int) : Option (Bool) :=
  Option.bind (F_terrain_formed m_W m_H m_Cells) fun t =>
  bif t then
    Option.bind (F_grid_In m_W m_H p_X p_Y) fun t1 =>
    some t1
  else
  some false
noncomputable def enc51 (t : Bool) : CR := ⟨true, (.sc (.bool t)), [], []⟩
noncomputable def ks51 : List SK := [.agg [.int .i64, .int .i64, .ro 3], .agg [.int .i64, .int .i64]]
noncomputable def S51 (us : List AVal) : Call := bif chkA ks51 us then Call.of (F_terrain_inside (toI (cIa (aggL (cIa us 0)) 0)) (toI (cIa (aggL (cIa us 0)) 1)) (roRows (cIa (aggL (cIa us 0)) 2)) (toI (cIa (aggL (cIa us 1)) 0)) (toI (cIa (aggL (cIa us 1)) 1))) enc51 else Call.none
noncomputable def C51 := AI.ext 51 S51 C24
theorem run51 (m_W m_H : Int) (m_Cells : LL) (p_X p_Y : Int) : fcall TT TU GL0 C24 ownF true noL Tryd.f51 [(.agg [(.sc (.int .i64 m_W)), (.sc (.int .i64 m_H)), (.ro 3 m_Cells)]), (.agg [(.sc (.int .i64 p_X)), (.sc (.int .i64 p_Y))])] = (F_terrain_inside m_W m_H m_Cells p_X p_Y).bind fun t => some (enc51 t) :=
  Eq.trans (by kernel_rfl) (n_bind fun t => (n_condH rfl (fun h0 => (n_bind fun t1 => rfl)) fun h0 => rfl))
theorem lib51 : Lib Tryd.prog GL0 C51 :=
  Lib.fn lib24 mixed TT_ok Tryd.func51 (by decide +kernel) (by kernel_rfl) true noL (loops_of 0 (by kernel_rfl) below0) ks51 (F := fun us => F_terrain_inside (toI (cIa (aggL (cIa us 0)) 0)) (toI (cIa (aggL (cIa us 0)) 1)) (roRows (cIa (aggL (cIa us 0)) 2)) (toI (cIa (aggL (cIa us 1)) 0)) (toI (cIa (aggL (cIa us 1)) 1))) (fun us => rfl) (fun us => run51 (toI (cIa (aggL (cIa us 0)) 0)) (toI (cIa (aggL (cIa us 0)) 1)) (roRows (cIa (aggL (cIa us 0)) 2)) (toI (cIa (aggL (cIa us 1)) 0)) (toI (cIa (aggL (cIa us 1)) 1))) (fun t => rfl)
noncomputable def F_terrain_Get (m_W m_H : Int) (m_Cells : LL) (p_X p_Y : Int) : Option (Int × Int × Int × Bool) :=
  Option.bind (F_terrain_inside m_W m_H m_Cells p_X p_Y) fun t =>
  bif (!t) then
    some ((0 : Int), (0 : Int), (0 : Int), false)
  else
  Option.bind (F_grid_Index m_W p_X p_Y) fun t1 =>
  bif (decide ((0 : Int) ≤ t1)) then
    Option.bind (m_Cells[t1.toNat]?) fun r =>
    bif (chk [(LT.int IntKind.i64), (LT.int IntKind.i64), (LT.int IntKind.i64)] r) then
      some ((cI r 0), (cI r 1), (cI r 2), true)
    else
    none
  else
  none
noncomputable def enc67 (t : Int × Int × Int × Bool) : CR := ⟨true, (.tup [(.agg [(.sc (.int .i64 t.1)), (.sc (.int .i64 t.2.1)), (.sc (.int .i64 t.2.2.1))]), (.sc (.bool t.2.2.2))]), [], []⟩
noncomputable def ks67 : List SK := [.agg [.int .i64, .int .i64, .ro 3], .agg [.int .i64, .int .i64]]
noncomputable def S67 (us : List AVal) : Call := bif chkA ks67 us then Call.of (F_terrain_Get (toI (cIa (aggL (cIa us 0)) 0)) (toI (cIa (aggL (cIa us 0)) 1)) (roRows (cIa (aggL (cIa us 0)) 2)) (toI (cIa (aggL (cIa us 1)) 0)) (toI (cIa (aggL (cIa us 1)) 1))) enc67 else Call.none
noncomputable def C67 := AI.ext 67 S67 C51
theorem run67 (m_W m_H : Int) (m_Cells : LL) (p_X p_Y : Int) : fcall TT TU GL0 C51 ownF true noL Tryd.f67 [(.agg [(.sc (.int .i64 m_W)), (.sc (.int .i64 m_H)), (.ro 3 m_Cells)]), (.agg [(.sc (.int .i64 p_X)), (.sc (.int .i64 p_Y))])] = (F_terrain_Get m_W m_H m_Cells p_X p_Y).bind fun t => some (enc67 t) :=
  Eq.trans (by kernel_rfl) (n_bind fun t => (n_condH rfl (fun h0 => rfl) fun h0 => (n_bind fun t1 => (n_condH rfl (fun h1 => (n_bind fun r => (n_condH rfl (fun h2 => rfl) fun h2 => rfl))) fun h1 => rfl))))
theorem lib67 : Lib Tryd.prog GL0 C67 :=
  Lib.fn lib51 mixed TT_ok Tryd.func67 (by decide +kernel) (by kernel_rfl) true noL (loops_of 0 (by kernel_rfl) below0) ks67 (F := fun us => F_terrain_Get (toI (cIa (aggL (cIa us 0)) 0)) (toI (cIa (aggL (cIa us 0)) 1)) (roRows (cIa (aggL (cIa us 0)) 2)) (toI (cIa (aggL (cIa us 1)) 0)) (toI (cIa (aggL (cIa us 1)) 1))) (fun us => rfl) (fun us => run67 (toI (cIa (aggL (cIa us 0)) 0)) (toI (cIa (aggL (cIa us 0)) 1)) (roRows (cIa (aggL (cIa us 0)) 2)) (toI (cIa (aggL (cIa us 1)) 0)) (toI (cIa (aggL (cIa us 1)) 1))) (fun t => rfl)
noncomputable def F_terrain_Passable (m_W m_H : Int) (m_Cells : LL) (class_ p_X p_Y : Int) : Option (Bool) :=
  Option.bind (F_terrain_Get m_W m_H m_Cells p_X p_Y) fun t =>
  bif (!t.2.2.2) then
    some false
  else
  bif (decide (class_ < (1 : Int))) then
    some false
  else
  bif (decide (class_ > (3 : Int))) then
    some false
  else
  bif (class_ == (3 : Int)) then
    some true
  else
  bif (decide (t.1 ≥ (0 : Int))) then
    bif (decide (t.1 < (6 : Int))) then
      bif ((decide ((0 : Int) ≤ class_)) && (decide (class_ < (4 : Int)))) then
        Option.bind ([[(bo false), (bo false), (bo false), (bo false), (bo false), (bo false)], [(bo false), (bo true), (bo false), (bo false), (bo false), (bo true)], [(bo false), (bo true), (bo true), (bo false), (bo false), (bo true)], [(bo false), (bo true), (bo true), (bo true), (bo true), (bo true)]][class_.toNat]?) fun r =>
        bif (chk [LT.bool, LT.bool, LT.bool, LT.bool, LT.bool, LT.bool] r) then
          bif ((decide ((0 : Int) ≤ t.1)) && (decide (t.1 < (6 : Int)))) then
            Option.bind ([[(bo (cB r 0))], [(bo (cB r 1))], [(bo (cB r 2))], [(bo (cB r 3))], [(bo (cB r 4))], [(bo (cB r 5))]][t.1.toNat]?) fun r1 =>
            bif (chk [LT.bool] r1) then
              some (cB r1 0)
            else
            none
          else
          none
        else
        none
      else
      none
    else
    some false
  else
  some false
noncomputable def enc46 (t : Bool) : CR := ⟨true, (.sc (.bool t)), [], []⟩
noncomputable def ks46 : List SK := [.agg [.int .i64, .int .i64, .ro 3], .f (.int .i64), .agg [.int .i64, .int .i64]]
noncomputable def S46 (us : List AVal) : Call := bif chkA ks46 us then Call.of (F_terrain_Passable (toI (cIa (aggL (cIa us 0)) 0)) (toI (cIa (aggL (cIa us 0)) 1)) (roRows (cIa (aggL (cIa us 0)) 2)) (toI (cIa us 1)) (toI (cIa (aggL (cIa us 2)) 0)) (toI (cIa (aggL (cIa us 2)) 1))) enc46 else Call.none
noncomputable def C46 := AI.ext 46 S46 C67
theorem run46 (m_W m_H : Int) (m_Cells : LL) (class_ p_X p_Y : Int) : fcall TT TU GL0 C67 ownF true noL Tryd.f46 [(.agg [(.sc (.int .i64 m_W)), (.sc (.int .i64 m_H)), (.ro 3 m_Cells)]), (.sc (.int .i64 class_)), (.agg [(.sc (.int .i64 p_X)), (.sc (.int .i64 p_Y))])] = (F_terrain_Passable m_W m_H m_Cells class_ p_X p_Y).bind fun t => some (enc46 t) :=
  Eq.trans (by kernel_rfl) (n_bind fun t => (n_condH rfl (fun h0 => rfl) fun h0 => (n_condH rfl (fun h1 => rfl) fun h1 => (n_condH rfl (fun h2 => rfl) fun h2 => (n_condH rfl (fun h3 => rfl) fun h3 => (n_condH rfl (fun h4 => (n_condH rfl (fun h5 => (n_condH (show ((((decide ((0 : Int) ≤ class_)) && (decide (class_ < (4 : Int)))) && true)) = _ from (n_andR rfl rfl)) (fun h6 => (n_bind fun r => (n_condH rfl (fun h7 => (n_condH (show ((((decide ((0 : Int) ≤ t.1)) && (decide (t.1 < (6 : Int)))) && true)) = _ from (n_andR rfl rfl)) (fun h8 => (n_bind fun r1 => (n_condH rfl (fun h9 => rfl) fun h9 => rfl))) fun h8 => rfl)) fun h7 => rfl))) fun h6 => rfl)) fun h5 => rfl)) fun h4 => rfl))))))
theorem lib46 : Lib Tryd.prog GL0 C46 :=
  Lib.fn lib67 mixed TT_ok Tryd.func46 (by decide +kernel) (by kernel_rfl) true noL (loops_of 0 (by kernel_rfl) below0) ks46 (F := fun us => F_terrain_Passable (toI (cIa (aggL (cIa us 0)) 0)) (toI (cIa (aggL (cIa us 0)) 1)) (roRows (cIa (aggL (cIa us 0)) 2)) (toI (cIa us 1)) (toI (cIa (aggL (cIa us 2)) 0)) (toI (cIa (aggL (cIa us 2)) 1))) (fun us => rfl) (fun us => run46 (toI (cIa (aggL (cIa us 0)) 0)) (toI (cIa (aggL (cIa us 0)) 1)) (roRows (cIa (aggL (cIa us 0)) 2)) (toI (cIa us 1)) (toI (cIa (aggL (cIa us 2)) 0)) (toI (cIa (aggL (cIa us 2)) 1))) (fun t => rfl)
noncomputable def F_astar_ground__free (g_m_W g_m_H : Int) (g_m_Cells g_blocked : LL) (g_class p_X p_Y : Int) : Option (Bool) :=
  Option.bind (F_terrain_Passable g_m_W g_m_H g_m_Cells g_class p_X p_Y) fun t =>
  bif (!t) then
    some false
  else
  Option.bind (F_grid_Index g_m_W p_X p_Y) fun t1 =>
  bif (g_class == (3 : Int)) then
    some true
  else
  bif (decide (t1 ≥ (Int.ofNat g_blocked.length))) then
    some true
  else
  bif (decide ((0 : Int) ≤ t1)) then
    Option.bind (g_blocked[t1.toNat]?) fun r =>
    bif (chk [LT.bool] r) then
      some (!(cB r 0))
    else
    none
  else
  none
noncomputable def enc25 (t : Bool) : CR := ⟨true, (.sc (.bool t)), [], []⟩
noncomputable def ks25 : List SK := [.agg [.int .i64, .int .i64, .ro 3, .ro 1, .int .i64], .agg [.int .i64, .int .i64]]
noncomputable def S25 (us : List AVal) : Call := bif chkA ks25 us then Call.of (F_astar_ground__free (toI (cIa (aggL (cIa us 0)) 0)) (toI (cIa (aggL (cIa us 0)) 1)) (roRows (cIa (aggL (cIa us 0)) 2)) (roRows (cIa (aggL (cIa us 0)) 3)) (toI (cIa (aggL (cIa us 0)) 4)) (toI (cIa (aggL (cIa us 1)) 0)) (toI (cIa (aggL (cIa us 1)) 1))) enc25 else Call.none
noncomputable def C25 := AI.ext 25 S25 C46
theorem run25 (g_m_W g_m_H : Int) (g_m_Cells g_blocked : LL) (g_class p_X p_Y : Int) : fcall TT TU GL0 C46 ownF true noL Tryd.f25 [(.agg [(.sc (.int .i64 g_m_W)), (.sc (.int .i64 g_m_H)), (.ro 3 g_m_Cells), (.ro 1 g_blocked), (.sc (.int .i64 g_class))]), (.agg [(.sc (.int .i64 p_X)), (.sc (.int .i64 p_Y))])] = (F_astar_ground__free g_m_W g_m_H g_m_Cells g_blocked g_class p_X p_Y).bind fun t => some (enc25 t) :=
  Eq.trans (by kernel_rfl) (n_bind fun t => (n_condH rfl (fun h0 => rfl) fun h0 => (n_bind fun t1 => (n_condH rfl (fun h1 => rfl) fun h1 => (n_condH rfl (fun h2 => rfl) fun h2 => (n_condH rfl (fun h3 => (n_bind fun r => (n_condH rfl (fun h4 => rfl) fun h4 => rfl))) fun h3 => rfl))))))
theorem lib25 : Lib Tryd.prog GL0 C25 :=
  Lib.fn lib46 mixed TT_ok Tryd.func25 (by decide +kernel) (by kernel_rfl) true noL (loops_of 0 (by kernel_rfl) below0) ks25 (F := fun us => F_astar_ground__free (toI (cIa (aggL (cIa us 0)) 0)) (toI (cIa (aggL (cIa us 0)) 1)) (roRows (cIa (aggL (cIa us 0)) 2)) (roRows (cIa (aggL (cIa us 0)) 3)) (toI (cIa (aggL (cIa us 0)) 4)) (toI (cIa (aggL (cIa us 1)) 0)) (toI (cIa (aggL (cIa us 1)) 1))) (fun us => rfl) (fun us => run25 (toI (cIa (aggL (cIa us 0)) 0)) (toI (cIa (aggL (cIa us 0)) 1)) (roRows (cIa (aggL (cIa us 0)) 2)) (roRows (cIa (aggL (cIa us 0)) 3)) (toI (cIa (aggL (cIa us 0)) 4)) (toI (cIa (aggL (cIa us 1)) 0)) (toI (cIa (aggL (cIa us 1)) 1))) (fun t => rfl)
noncomputable def F_astar_ground__reach_1 (a0 : Int) : Option (Unit) :=
  bif (a0 != (0 : Int)) then
    none
  else
  some ()
noncomputable def enc47 (t : Unit) : CR := ⟨true, (.tup []), [], []⟩
noncomputable def ks47 : List SK := [.rptr [.int .i64]]
noncomputable def S47 (us : List AVal) : Call := bif chkA ks47 us then Call.of (F_astar_ground__reach_1 (toI (cIa (rptrL (cIa us 0)) 0))) enc47 else Call.none
noncomputable def C47 := AI.ext 47 S47 C25
theorem run47 (a0 : Int) : fcall TT TU GL0 C25 ownF true noL Tryd.f47 [(.rptr [(.sc (.int .i64 a0))])] = (F_astar_ground__reach_1 a0).bind fun t => some (enc47 t) :=
  Eq.trans (by kernel_rfl) (n_condH rfl (fun h0 => rfl) fun h0 => rfl)
theorem lib47 : Lib Tryd.prog GL0 C47 :=
  Lib.fn lib25 mixed TT_ok Tryd.func47 (by decide +kernel) (by kernel_rfl) true noL (loops_of 0 (by kernel_rfl) below0) ks47 (F := fun us => F_astar_ground__reach_1 (toI (cIa (rptrL (cIa us 0)) 0))) (fun us => rfl) (fun us => run47 (toI (cIa (rptrL (cIa us 0)) 0))) (fun t => rfl)
theorem dok47 : DOk Tryd.prog GL0 47 S47 :=
  DOk.fn lib25 mixed TT_ok Tryd.func47 (by decide +kernel) (by kernel_rfl) true noL (loops_of 0 (by kernel_rfl) below0) ks47 (F := fun us => F_astar_ground__reach_1 (toI (cIa (rptrL (cIa us 0)) 0))) (fun us => rfl) (fun us => run47 (toI (cIa (rptrL (cIa us 0)) 0))) (fun t => rfl)
noncomputable def W48_0 : Ex → List Bool
  | .ret => [false, false, false, false, false, false, false, false, false, false, false, false, false, false, false, false, false, false, false, false, false, false, false, false, false, false, false, false, false, false, false, false, false, false, false]
  | .exit n => bif Nat.beq n 0 then [false, true, true, true, true, true, true, false, false, false, false, false, false, false, false, false, false, false, false, false, false, false, false, false, false, false, false, false, false, false, false, false, false, false, false] else []
  | _ => []
noncomputable def G_astar_ground__reach_2_0 (c : Int) : Nat → LL → Option (LL)
  | 0, _ => none
  | m + 1, R4 =>
    bif (decide ((Int.ofNat R4.length) ≤ c)) then
      bif (roomOk (R4.length + 1) 24) then
        G_astar_ground__reach_2_0 c m (Blk.rows (Blk.mk (BKind.ns 0 27 2) 32 1 (R4 ++ [[(AVal.ro 2 [])]])))
      else
      none
    else
    some R4
noncomputable def E48_0 (R4 R5 : LL) (c b2_0 b2_1 : Int) (b2_2 b2_3 : LL) (b2_4 b3_0 b6_0 b6_1 : Int) : St := ⟨[.dead, (.sc (.int .i64 c)), (.ref 0 1 0 0), (.ref 1 1 0 0), (.ref 2 1 0 0), (.ref 3 1 0 0), (.ref 16000 1 0 0), .dead, .dead, .dead, .dead, .dead, .dead, .dead, .dead, .dead, .dead, .dead, .dead, .dead, .dead, .dead, .dead, .dead, .dead, .dead, .dead, .dead, .dead, .dead, .dead, .dead, .dead, .dead, .dead], [(0, ⟨.box, 68, 1, [[(.slc 4 (R4).length)]]⟩), (1, ⟨.box, 41, 1, [[(.slc 5 (R5).length)]]⟩), (2, ⟨.box, 46, 5, [[(.sc (.int .i64 b2_0)), (.sc (.int .i64 b2_1)), (.ro 3 b2_2), (.ro 1 b2_3), (.sc (.int .i64 b2_4))]]⟩), (3, ⟨.box, 3, 1, [[(.sc (.int .i64 b3_0))]]⟩), (4, ⟨(.ns 0 27 2), 32, 1, R4⟩), (5, ⟨.arr, 3, 1, R5⟩), (16000, ⟨.box, 27, 2, [[(.sc (.int .i64 b6_0)), (.sc (.int .i64 b6_1))]]⟩)]⟩
noncomputable def X48_0 (R5 : LL) (c b2_0 b2_1 : Int) (b2_2 b2_3 : LL) (b2_4 b3_0 b6_0 b6_1 : Int) (k : Ex → St → Option CR) (t : LL) : Option CR := k (.exit 0) ⟨[.dead, (.sc (.int .i64 c)), (.ref 0 1 0 0), (.ref 1 1 0 0), (.ref 2 1 0 0), (.ref 3 1 0 0), (.ref 16000 1 0 0), .dead, .dead, .dead, .dead, .dead, .dead, .dead, .dead, .dead, .dead, .dead, .dead, .dead, .dead, .dead, .dead, .dead, .dead, .dead, .dead, .dead, .dead, .dead, .dead, .dead, .dead, .dead, .dead], [(0, ⟨.box, 68, 1, [[(.slc 4 (t).length)]]⟩), (1, ⟨.box, 41, 1, [[(.slc 5 (R5).length)]]⟩), (2, ⟨.box, 46, 5, [[(.sc (.int .i64 b2_0)), (.sc (.int .i64 b2_1)), (.ro 3 b2_2), (.ro 1 b2_3), (.sc (.int .i64 b2_4))]]⟩), (3, ⟨.box, 3, 1, [[(.sc (.int .i64 b3_0))]]⟩), (4, ⟨(.ns 0 27 2), 32, 1, t⟩), (5, ⟨.arr, 3, 1, R5⟩), (16000, ⟨.box, 27, 2, [[(.sc (.int .i64 b6_0)), (.sc (.int .i64 b6_1))]]⟩)]⟩
noncomputable def ks48_0 : List SK := [.f .dead, .f (.int .i64), .f (.ref 0 1 0 0), .f (.ref 1 1 0 0), .f (.ref 2 1 0 0), .f (.ref 3 1 0 0), .f (.ref 16000 1 0 0), .f .dead, .f .dead, .f .dead, .f .dead, .f .dead, .f .dead, .f .dead, .f .dead, .f .dead, .f .dead, .f .dead, .f .dead, .f .dead, .f .dead, .f .dead, .f .dead, .f .dead, .f .dead, .f .dead, .f .dead, .f .dead, .f .dead, .f .dead, .f .dead, .f .dead, .f .dead, .f .dead, .f .dead]
noncomputable def hs48_0 : List HK := [⟨0, .box, 68, 1, some [.slc 4 4]⟩, ⟨1, .box, 41, 1, some [.slc 5 5]⟩, ⟨2, .box, 46, 5, some [.int .i64, .int .i64, .ro 3, .ro 1, .int .i64]⟩, ⟨3, .box, 3, 1, some [.int .i64]⟩, ⟨4, (.ns 0 27 2), 32, 1, none⟩, ⟨5, .arr, 3, 1, none⟩, ⟨16000, .box, 27, 2, some [.int .i64, .int .i64]⟩]
noncomputable def Lm48_0 (s : St) (k : Ex → St → Option CR) : Option CR := bif chkS ks48_0 hs48_0 s then (G_astar_ground__reach_2_0 (toI (cIa s.tmps 1)) FU (blkAt s.heap 4).2.rows).bind (X48_0 (blkAt s.heap 5).2.rows (toI (cIa s.tmps 1)) (toI (cIa (rows0 (blkAt s.heap 2).2) 0)) (toI (cIa (rows0 (blkAt s.heap 2).2) 1)) (roRows (cIa (rows0 (blkAt s.heap 2).2) 2)) (roRows (cIa (rows0 (blkAt s.heap 2).2) 3)) (toI (cIa (rows0 (blkAt s.heap 2).2) 4)) (toI (cIa (rows0 (blkAt s.heap 3).2) 0)) (toI (cIa (rows0 (blkAt s.heap 6).2) 0)) (toI (cIa (rows0 (blkAt s.heap 6).2) 1)) k) else none
noncomputable def L48_0 (s : St) (k : Ex → St → Option CR) : Option CR := Lm48_0 (maskS (maskOf ks48_0) s) k
noncomputable def L48 : LT' := fun i s k => bif Nat.beq i 0 then L48_0 s k else none
noncomputable def F_astar_ground__reach_2 (p_X p_Y c : Int) (a2 a3 : LL) (a4_m_W a4_m_H : Int) (a4_m_Cells a4_blocked : LL) (a4_class a5 : Int) : Option (LL × LL × Int) :=
  Option.bind (G_astar_ground__reach_2_0 c FU a2) fun t =>
  bif ((decide ((0 : Int) ≤ c)) && (decide (c < (Int.ofNat t.length)))) then
    Option.bind (t[c.toNat]?) fun r =>
    bif (chk [(LT.sl 27 2)] r) then
      bif (roomOk ((cR r 0).length + 1) 16) then
        bif (decide (c < (Int.ofNat (Blk.rows (Blk.mk (BKind.ns 1 27 2) 32 1 (List.set t c.toNat [(AVal.ro 2 ((cR r 0) ++ [[(i64 p_X), (i64 p_Y)]]))]))).length))) then
          bif (Nat.beq c.toNat c.toNat) then
            Option.bind (F_grid_Index a4_m_W p_X p_Y) fun t1 =>
            bif ((decide ((0 : Int) ≤ t1)) && (decide (t1 < (Int.ofNat a3.length)))) then
              some ((Blk.rows (Blk.mk (BKind.ns 0 27 2) 32 1 (Blk.rows (Blk.mk (BKind.ns 0 27 2) 32 1 (Blk.rows (Blk.mk (BKind.ns 0 27 2) 32 1 (Blk.rows (Blk.mk (BKind.ns 2 27 2) 32 1 (Blk.rows (Blk.mk (BKind.ns 1 27 2) 32 1 (List.set t c.toNat [(AVal.ro 2 ((cR r 0) ++ [[(i64 p_X), (i64 p_Y)]]))]))))))))))), (Blk.rows (Blk.mk BKind.arr 3 1 (Blk.rows (Blk.mk BKind.arr 3 1 (Blk.rows (Blk.mk BKind.arr 3 1 (List.set a3 t1.toNat [(i64 c)]))))))), (wr (a5 + (1 : Int))))
            else
            none
          else
          none
        else
        none
      else
      none
    else
    none
  else
  none
noncomputable def enc48 (p_X p_Y c : Int) (a2 a3 : LL) (a4_m_W a4_m_H : Int) (a4_m_Cells a4_blocked : LL) (a4_class a5 : Int) (t : LL × LL × Int) : CR := ⟨true, (.tup []), [[[(.slc 4 (t.1).length)]], [[(.slc 5 (t.2.1).length)]], [[(.sc (.int .i64 a4_m_W)), (.sc (.int .i64 a4_m_H)), (.ro 3 a4_m_Cells), (.ro 1 a4_blocked), (.sc (.int .i64 a4_class))]], [[(.sc (.int .i64 t.2.2))]], t.1, t.2.1], []⟩
noncomputable def ks48 : List SK := [.agg [.int .i64, .int .i64], .f (.int .i64), .f (.ref 0 1 0 0), .f (.ref 1 1 0 0), .f (.ref 2 1 0 0), .f (.ref 3 1 0 0)]
noncomputable def hs48 : List HK := [⟨0, .box, 68, 1, some [.slc 4 4]⟩, ⟨1, .box, 41, 1, some [.slc 5 5]⟩, ⟨2, .box, 46, 5, some [.int .i64, .int .i64, .ro 3, .ro 1, .int .i64]⟩, ⟨3, .box, 3, 1, some [.int .i64]⟩, ⟨4, (.ns 0 27 2), 32, 1, none⟩, ⟨5, .arr, 3, 1, none⟩]
noncomputable def S48 (us : List AVal) (bs : List Blk) : Call := Call.guard (chkS ks48 hs48 ⟨us, numK 0 bs⟩) (Call.of (F_astar_ground__reach_2 (toI (cIa (aggL (cIa us 0)) 0)) (toI (cIa (aggL (cIa us 0)) 1)) (toI (cIa us 1)) (blkAt (numK 0 bs) 4).2.rows (blkAt (numK 0 bs) 5).2.rows (toI (cIa (rows0 (blkAt (numK 0 bs) 2).2) 0)) (toI (cIa (rows0 (blkAt (numK 0 bs) 2).2) 1)) (roRows (cIa (rows0 (blkAt (numK 0 bs) 2).2) 2)) (roRows (cIa (rows0 (blkAt (numK 0 bs) 2).2) 3)) (toI (cIa (rows0 (blkAt (numK 0 bs) 2).2) 4)) (toI (cIa (rows0 (blkAt (numK 0 bs) 3).2) 0))) (enc48 (toI (cIa (aggL (cIa us 0)) 0)) (toI (cIa (aggL (cIa us 0)) 1)) (toI (cIa us 1)) (blkAt (numK 0 bs) 4).2.rows (blkAt (numK 0 bs) 5).2.rows (toI (cIa (rows0 (blkAt (numK 0 bs) 2).2) 0)) (toI (cIa (rows0 (blkAt (numK 0 bs) 2).2) 1)) (roRows (cIa (rows0 (blkAt (numK 0 bs) 2).2) 2)) (roRows (cIa (rows0 (blkAt (numK 0 bs) 2).2) 3)) (toI (cIa (rows0 (blkAt (numK 0 bs) 2).2) 4)) (toI (cIa (rows0 (blkAt (numK 0 bs) 3).2) 0))))
noncomputable def C48 := AI.extH 48 S48 C47
@[reducible] noncomputable def B48_0 := bodyOf TT TU GL0 C47 ownF L48 (lp Tryd.f48 0)
@[reducible] noncomputable def K48_0 (k : Ex → St → Option CR) : Ex → St → Option CR := fun e s => k e (maskS (W48_0 e) s)
theorem spec48_0 (k : Ex → St → Option CR) : ∀ (m : Nat) (R4 R5 : LL) (c b2_0 b2_1 : Int) (b2_2 b2_3 : LL) (b2_4 b3_0 b6_0 b6_1 : Int), loopN B48_0 m (E48_0 R4 R5 c b2_0 b2_1 b2_2 b2_3 b2_4 b3_0 b6_0 b6_1) (K48_0 k) = (G_astar_ground__reach_2_0 c m R4).bind (X48_0 R5 c b2_0 b2_1 b2_2 b2_3 b2_4 b3_0 b6_0 b6_1 k)
  | 0, _, _, _, _, _, _, _, _, _, _, _ => rfl
  | m + 1, R4, R5, c, b2_0, b2_1, b2_2, b2_3, b2_4, b3_0, b6_0, b6_1 =>
    Eq.trans (b := (bif (verEq R4.length R4.length) then (bif (decide ((Int.ofNat R4.length) ≤ c)) then (bif ((verEq R4.length R4.length) && (roomOk (R4.length + 1) 24)) then (loopN B48_0 m ⟨[.dead, (i64 c), (AVal.ref 0 1 0 0), (AVal.ref 1 1 0 0), (AVal.ref 2 1 0 0), (AVal.ref 3 1 0 0), (AVal.ref 16000 1 0 0), .dead, .dead, .dead, .dead, .dead, .dead, .dead, .dead, .dead, .dead, .dead, .dead, .dead, .dead, .dead, .dead, .dead, .dead, .dead, .dead, .dead, .dead, .dead, .dead, .dead, .dead, .dead, .dead], [(Prod.mk 0 (Blk.mk BKind.box 68 1 [[(AVal.slc 4 (R4.length + 1))]])), (Prod.mk 1 (Blk.mk BKind.box 41 1 [[(AVal.slc 5 R5.length)]])), (Prod.mk 2 (Blk.mk BKind.box 46 5 [[(i64 b2_0), (i64 b2_1), (AVal.ro 3 b2_2), (AVal.ro 1 b2_3), (i64 b2_4)]])), (Prod.mk 3 (Blk.mk BKind.box 3 1 [[(i64 b3_0)]])), (Prod.mk 4 (Blk.mk (BKind.ns 0 27 2) 32 1 (Blk.rows (Blk.mk (BKind.ns 0 27 2) 32 1 (R4 ++ [[(AVal.ro 2 [])]]))))), (Prod.mk 5 (Blk.mk BKind.arr 3 1 R5)), (Prod.mk 16000 (Blk.mk BKind.box 27 2 [[(i64 b6_0), (i64 b6_1)]]))]⟩ (K48_0 k)) else none) else (k (.exit 0) ⟨[.dead, (i64 c), (AVal.ref 0 1 0 0), (AVal.ref 1 1 0 0), (AVal.ref 2 1 0 0), (AVal.ref 3 1 0 0), (AVal.ref 16000 1 0 0), .dead, .dead, .dead, .dead, .dead, .dead, .dead, .dead, .dead, .dead, .dead, .dead, .dead, .dead, .dead, .dead, .dead, .dead, .dead, .dead, .dead, .dead, .dead, .dead, .dead, .dead, .dead, .dead], [(Prod.mk 0 (Blk.mk BKind.box 68 1 [[(AVal.slc 4 R4.length)]])), (Prod.mk 1 (Blk.mk BKind.box 41 1 [[(AVal.slc 5 R5.length)]])), (Prod.mk 2 (Blk.mk BKind.box 46 5 [[(i64 b2_0), (i64 b2_1), (AVal.ro 3 b2_2), (AVal.ro 1 b2_3), (i64 b2_4)]])), (Prod.mk 3 (Blk.mk BKind.box 3 1 [[(i64 b3_0)]])), (Prod.mk 4 (Blk.mk (BKind.ns 0 27 2) 32 1 R4)), (Prod.mk 5 (Blk.mk BKind.arr 3 1 R5)), (Prod.mk 16000 (Blk.mk BKind.box 27 2 [[(i64 b6_0), (i64 b6_1)]]))]⟩)) else none)) (by kernel_rfl)
      (n_true (verEq_rfl _) (n_condH rfl (fun h0 => (n_condH (n_andL (verEq_rfl _) rfl) (fun h1 => ((congrArg (fun z => loopN B48_0 m z (K48_0 k)) (by simp [E48_0] : _ = E48_0 (Blk.rows (Blk.mk (BKind.ns 0 27 2) 32 1 (R4 ++ [[(AVal.ro 2 [])]]))) R5 c b2_0 b2_1 b2_2 b2_3 b2_4 b3_0 b6_0 b6_1)).trans (spec48_0 k m (Blk.rows (Blk.mk (BKind.ns 0 27 2) 32 1 (R4 ++ [[(AVal.ro 2 [])]]))) R5 c b2_0 b2_1 b2_2 b2_3 b2_4 b3_0 b6_0 b6_1))) fun h1 => n_none)) fun h0 => rfl))
theorem okL48_0 : LoopOk TT TU GL0 C47 ownF L48 (lp Tryd.f48 0) :=
  loopOk_of ks48_0 hs48_0 W48_0 FU (fun s k => (G_astar_ground__reach_2_0 (toI (cIa s.tmps 1)) FU (blkAt s.heap 4).2.rows).bind (X48_0 (blkAt s.heap 5).2.rows (toI (cIa s.tmps 1)) (toI (cIa (rows0 (blkAt s.heap 2).2) 0)) (toI (cIa (rows0 (blkAt s.heap 2).2) 1)) (roRows (cIa (rows0 (blkAt s.heap 2).2) 2)) (roRows (cIa (rows0 (blkAt s.heap 2).2) 3)) (toI (cIa (rows0 (blkAt s.heap 2).2) 4)) (toI (cIa (rows0 (blkAt s.heap 3).2) 0)) (toI (cIa (rows0 (blkAt s.heap 6).2) 0)) (toI (cIa (rows0 (blkAt s.heap 6).2) 1)) k)) (fun s k => by kernel_rfl) (fun s k => spec48_0 k FU (blkAt s.heap 4).2.rows (blkAt s.heap 5).2.rows (toI (cIa s.tmps 1)) (toI (cIa (rows0 (blkAt s.heap 2).2) 0)) (toI (cIa (rows0 (blkAt s.heap 2).2) 1)) (roRows (cIa (rows0 (blkAt s.heap 2).2) 2)) (roRows (cIa (rows0 (blkAt s.heap 2).2) 3)) (toI (cIa (rows0 (blkAt s.heap 2).2) 4)) (toI (cIa (rows0 (blkAt s.heap 3).2) 0)) (toI (cIa (rows0 (blkAt s.heap 6).2) 0)) (toI (cIa (rows0 (blkAt s.heap 6).2) 1)))
theorem run48 (p_X p_Y c : Int) (a2 a3 : LL) (a4_m_W a4_m_H : Int) (a4_m_Cells a4_blocked : LL) (a4_class a5 : Int) : fcallH TT TU GL0 C47 ownF L48 Tryd.f48 [(.agg [(.sc (.int .i64 p_X)), (.sc (.int .i64 p_Y))]), (.sc (.int .i64 c)), (.ref 0 1 0 0), (.ref 1 1 0 0), (.ref 2 1 0 0), (.ref 3 1 0 0)] [(0, (⟨.box, 68, 1, [[(.slc 4 (List.length a2))]]⟩ : Blk)), (1, (⟨.box, 41, 1, [[(.slc 5 (List.length a3))]]⟩ : Blk)), (2, (⟨.box, 46, 5, [[(.sc (.int .i64 a4_m_W)), (.sc (.int .i64 a4_m_H)), (.ro 3 a4_m_Cells), (.ro 1 a4_blocked), (.sc (.int .i64 a4_class))]]⟩ : Blk)), (3, (⟨.box, 3, 1, [[(.sc (.int .i64 a5))]]⟩ : Blk)), (4, (⟨(.ns 0 27 2), 32, 1, a2⟩ : Blk)), (5, (⟨.arr, 3, 1, a3⟩ : Blk))] = (F_astar_ground__reach_2 p_X p_Y c a2 a3 a4_m_W a4_m_H a4_m_Cells a4_blocked a4_class a5).bind fun t => some (enc48 p_X p_Y c a2 a3 a4_m_W a4_m_H a4_m_Cells a4_blocked a4_class a5 t) :=
  Eq.trans (by kernel_rfl) (n_tru (show (((true && (verEq a2.length (blkLen [(Prod.mk 0 (Blk.mk BKind.box 68 1 [[(AVal.slc 4 a2.length)]])), (Prod.mk 1 (Blk.mk BKind.box 41 1 [[(AVal.slc 5 a3.length)]])), (Prod.mk 2 (Blk.mk BKind.box 46 5 [[(i64 a4_m_W), (i64 a4_m_H), (AVal.ro 3 a4_m_Cells), (AVal.ro 1 a4_blocked), (i64 a4_class)]])), (Prod.mk 3 (Blk.mk BKind.box 3 1 [[(i64 a5)]])), (Prod.mk 4 (Blk.mk (BKind.ns 0 27 2) 32 1 a2)), (Prod.mk 5 (Blk.mk BKind.arr 3 1 a3)), (Prod.mk 16000 (Blk.mk BKind.box 27 2 [[(i64 p_X), (i64 p_Y)]]))] 4))) && true) && (((true && (verEq a3.length (blkLen [(Prod.mk 0 (Blk.mk BKind.box 68 1 [[(AVal.slc 4 a2.length)]])), (Prod.mk 1 (Blk.mk BKind.box 41 1 [[(AVal.slc 5 a3.length)]])), (Prod.mk 2 (Blk.mk BKind.box 46 5 [[(i64 a4_m_W), (i64 a4_m_H), (AVal.ro 3 a4_m_Cells), (AVal.ro 1 a4_blocked), (i64 a4_class)]])), (Prod.mk 3 (Blk.mk BKind.box 3 1 [[(i64 a5)]])), (Prod.mk 4 (Blk.mk (BKind.ns 0 27 2) 32 1 a2)), (Prod.mk 5 (Blk.mk BKind.arr 3 1 a3)), (Prod.mk 16000 (Blk.mk BKind.box 27 2 [[(i64 p_X), (i64 p_Y)]]))] 5))) && true) && true)) = true from (n_andL (n_andL (n_andL rfl (by first | exact verEq_of rfl | simp [verEq, blkLen, blkAt])) rfl) (n_andL (n_andL (n_andL rfl (by first | exact verEq_of rfl | simp [verEq, blkLen, blkAt])) rfl) rfl))) (n_bind fun t => (n_condH (show ((((verEq t.length t.length) && (decide ((0 : Int) ≤ c))) && (decide (c < (Int.ofNat t.length))))) = _ from (n_and (n_andL (verEq_rfl _) rfl) rfl)) (fun h0 => (n_tru (show (verEq t.length t.length) = true from (verEq_rfl _)) (n_tru (show (verEq t.length t.length) = true from (verEq_rfl _)) (n_bind fun r => (n_condH rfl (fun h1 => (n_condH rfl (fun h2 => (n_condH (show ((((verEq (Blk.rows (Blk.mk (BKind.ns 1 27 2) 32 1 (List.set t c.toNat [(AVal.ro 2 ((cR r 0) ++ [[(i64 p_X), (i64 p_Y)]]))]))).length t.length) && (decide ((0 : Int) ≤ c))) && (decide (c < (Int.ofNat (Blk.rows (Blk.mk (BKind.ns 1 27 2) 32 1 (List.set t c.toNat [(AVal.ro 2 ((cR r 0) ++ [[(i64 p_X), (i64 p_Y)]]))]))).length))))) = _ from (n_andL (n_andL (by first | exact verEq_of rfl | simp [verEq, blkLen, blkAt]) (n_al h0)) rfl)) (fun h3 => (n_condH (show ((((verEq (Blk.rows (Blk.mk (BKind.ns 1 27 2) 32 1 (List.set t c.toNat [(AVal.ro 2 ((cR r 0) ++ [[(i64 p_X), (i64 p_Y)]]))]))).length t.length) && (verEq (Blk.rows (Blk.mk (BKind.ns 1 27 2) 32 1 (List.set t c.toNat [(AVal.ro 2 ((cR r 0) ++ [[(i64 p_X), (i64 p_Y)]]))]))).length t.length)) && (Nat.beq c.toNat c.toNat))) = _ from (n_andL (n_andL (by first | exact verEq_of rfl | simp [verEq, blkLen, blkAt]) (by first | exact verEq_of rfl | simp [verEq, blkLen, blkAt])) rfl)) (fun h4 => (n_bind fun t1 => (n_condH (show ((((verEq a3.length a3.length) && (decide ((0 : Int) ≤ t1))) && (decide (t1 < (Int.ofNat a3.length))))) = _ from (n_and (n_andL (verEq_rfl _) rfl) rfl)) (fun h5 => (n_tru (show ((((verEq a3.length a3.length) && true) && true) && true) = true from (n_andL (n_andL (n_andL (verEq_rfl _) rfl) rfl) rfl)) (n_tru (show (verEq (Blk.rows (Blk.mk (BKind.ns 0 27 2) 32 1 (Blk.rows (Blk.mk (BKind.ns 0 27 2) 32 1 (Blk.rows (Blk.mk (BKind.ns 0 27 2) 32 1 (Blk.rows (Blk.mk (BKind.ns 2 27 2) 32 1 (Blk.rows (Blk.mk (BKind.ns 1 27 2) 32 1 (List.set t c.toNat [(AVal.ro 2 ((cR r 0) ++ [[(i64 p_X), (i64 p_Y)]]))]))))))))))).length t.length) = true from (by first | exact verEq_of rfl | simp [verEq, blkLen, blkAt])) (n_tru (show (verEq (Blk.rows (Blk.mk BKind.arr 3 1 (Blk.rows (Blk.mk BKind.arr 3 1 (Blk.rows (Blk.mk BKind.arr 3 1 (List.set a3 t1.toNat [(i64 c)]))))))).length a3.length) = true from (by first | exact verEq_of rfl | simp [verEq, blkLen, blkAt])) rfl)))) fun h5 => rfl))) fun h4 => rfl)) fun h3 => rfl)) fun h2 => rfl)) fun h1 => rfl))))) fun h0 => rfl)))
theorem lib48 : Lib Tryd.prog GL0 C48 :=
  Lib.fnH lib47 mixed TT_ok Tryd.func48 (by decide +kernel) (by kernel_rfl) L48 (loops_of 1 (by kernel_rfl) (belowS below0 okL48_0)) ks48 hs48 (by kernel_rfl) (F := fun us H => F_astar_ground__reach_2 (toI (cIa (aggL (cIa us 0)) 0)) (toI (cIa (aggL (cIa us 0)) 1)) (toI (cIa us 1)) (blkAt H 4).2.rows (blkAt H 5).2.rows (toI (cIa (rows0 (blkAt H 2).2) 0)) (toI (cIa (rows0 (blkAt H 2).2) 1)) (roRows (cIa (rows0 (blkAt H 2).2) 2)) (roRows (cIa (rows0 (blkAt H 2).2) 3)) (toI (cIa (rows0 (blkAt H 2).2) 4)) (toI (cIa (rows0 (blkAt H 3).2) 0))) (enc := fun us H => enc48 (toI (cIa (aggL (cIa us 0)) 0)) (toI (cIa (aggL (cIa us 0)) 1)) (toI (cIa us 1)) (blkAt H 4).2.rows (blkAt H 5).2.rows (toI (cIa (rows0 (blkAt H 2).2) 0)) (toI (cIa (rows0 (blkAt H 2).2) 1)) (roRows (cIa (rows0 (blkAt H 2).2) 2)) (roRows (cIa (rows0 (blkAt H 2).2) 3)) (toI (cIa (rows0 (blkAt H 2).2) 4)) (toI (cIa (rows0 (blkAt H 3).2) 0))) (fun us bs => rfl) (fun us H => run48 (toI (cIa (aggL (cIa us 0)) 0)) (toI (cIa (aggL (cIa us 0)) 1)) (toI (cIa us 1)) (blkAt H 4).2.rows (blkAt H 5).2.rows (toI (cIa (rows0 (blkAt H 2).2) 0)) (toI (cIa (rows0 (blkAt H 2).2) 1)) (roRows (cIa (rows0 (blkAt H 2).2) 2)) (roRows (cIa (rows0 (blkAt H 2).2) 3)) (toI (cIa (rows0 (blkAt H 2).2) 4)) (toI (cIa (rows0 (blkAt H 3).2) 0)))
noncomputable def F_grid_displacements : Option (Int × Int × Int × Int × Int × Int × Int × Int × Int × Int × Int × Int × Int × Int × Int × Int) :=
  some ((1 : Int), (0 : Int), (1 : Int), (1 : Int), (0 : Int), (1 : Int), (-(1 : Int)), (1 : Int), (-(1 : Int)), (0 : Int), (-(1 : Int)), (-(1 : Int)), (0 : Int), (-(1 : Int)), (1 : Int), (-(1 : Int)))
noncomputable def enc53 (t : Int × Int × Int × Int × Int × Int × Int × Int × Int × Int × Int × Int × Int × Int × Int × Int) : CR := ⟨true, (.agg [(.sc (.int .i64 t.1)), (.sc (.int .i64 t.2.1)), (.sc (.int .i64 t.2.2.1)), (.sc (.int .i64 t.2.2.2.1)), (.sc (.int .i64 t.2.2.2.2.1)), (.sc (.int .i64 t.2.2.2.2.2.1)), (.sc (.int .i64 t.2.2.2.2.2.2.1)), (.sc (.int .i64 t.2.2.2.2.2.2.2.1)), (.sc (.int .i64 t.2.2.2.2.2.2.2.2.1)), (.sc (.int .i64 t.2.2.2.2.2.2.2.2.2.1)), (.sc (.int .i64 t.2.2.2.2.2.2.2.2.2.2.1)), (.sc (.int .i64 t.2.2.2.2.2.2.2.2.2.2.2.1)), (.sc (.int .i64 t.2.2.2.2.2.2.2.2.2.2.2.2.1)), (.sc (.int .i64 t.2.2.2.2.2.2.2.2.2.2.2.2.2.1)), (.sc (.int .i64 t.2.2.2.2.2.2.2.2.2.2.2.2.2.2.1)), (.sc (.int .i64 t.2.2.2.2.2.2.2.2.2.2.2.2.2.2.2))]), [], []⟩
noncomputable def ks53 : List SK := []
noncomputable def S53 (us : List AVal) : Call := bif chkA ks53 us then Call.of (F_grid_displacements) enc53 else Call.none
noncomputable def C53 := AI.ext 53 S53 C48
theorem run53 : fcall TT TU GL0 C48 ownF true noL Tryd.f53 [] = (F_grid_displacements).bind fun t => some (enc53 t) :=
  Eq.trans (by kernel_rfl) rfl
theorem lib53 : Lib Tryd.prog GL0 C53 :=
  Lib.fn lib48 mixed TT_ok Tryd.func53 (by decide +kernel) (by kernel_rfl) true noL (loops_of 0 (by kernel_rfl) below0) ks53 (F := fun us => F_grid_displacements) (fun us => rfl) (fun us => run53) (fun t => rfl)
noncomputable def F_grid_Step (p_X p_Y dir : Int) : Option (Int × Int) :=
  bif (decide (dir < (0 : Int))) then
    some (p_X, p_Y)
  else
  bif (decide (dir > (7 : Int))) then
    some (p_X, p_Y)
  else
  Option.bind F_grid_displacements fun t =>
  bif ((decide ((0 : Int) ≤ dir)) && (decide (dir < (8 : Int)))) then
    Option.bind ([[(i64 t.1), (i64 t.2.1)], [(i64 t.2.2.1), (i64 t.2.2.2.1)], [(i64 t.2.2.2.2.1), (i64 t.2.2.2.2.2.1)], [(i64 t.2.2.2.2.2.2.1), (i64 t.2.2.2.2.2.2.2.1)], [(i64 t.2.2.2.2.2.2.2.2.1), (i64 t.2.2.2.2.2.2.2.2.2.1)], [(i64 t.2.2.2.2.2.2.2.2.2.2.1), (i64 t.2.2.2.2.2.2.2.2.2.2.2.1)], [(i64 t.2.2.2.2.2.2.2.2.2.2.2.2.1), (i64 t.2.2.2.2.2.2.2.2.2.2.2.2.2.1)], [(i64 t.2.2.2.2.2.2.2.2.2.2.2.2.2.2.1), (i64 t.2.2.2.2.2.2.2.2.2.2.2.2.2.2.2)]][dir.toNat]?) fun r =>
    bif (chk [(LT.int IntKind.i64), (LT.int IntKind.i64)] r) then
      Option.bind (F_grid_pos p_X p_Y) fun t1 =>
      some ((wr (t1.1 + (cI r 0))), (wr (t1.2 + (cI r 1))))
    else
    none
  else
  none
noncomputable def enc30 (t : Int × Int) : CR := ⟨true, (.agg [(.sc (.int .i64 t.1)), (.sc (.int .i64 t.2))]), [], []⟩
noncomputable def ks30 : List SK := [.agg [.int .i64, .int .i64], .f (.int .i64)]
noncomputable def S30 (us : List AVal) : Call := bif chkA ks30 us then Call.of (F_grid_Step (toI (cIa (aggL (cIa us 0)) 0)) (toI (cIa (aggL (cIa us 0)) 1)) (toI (cIa us 1))) enc30 else Call.none
noncomputable def C30 := AI.ext 30 S30 C53
theorem run30 (p_X p_Y dir : Int) : fcall TT TU GL0 C53 ownF true noL Tryd.f30 [(.agg [(.sc (.int .i64 p_X)), (.sc (.int .i64 p_Y))]), (.sc (.int .i64 dir))] = (F_grid_Step p_X p_Y dir).bind fun t => some (enc30 t) :=
  Eq.trans (by kernel_rfl) (n_condH rfl (fun h0 => rfl) fun h0 => (n_condH rfl (fun h1 => rfl) fun h1 => (n_bind fun t => (n_condH (show ((((decide ((0 : Int) ≤ dir)) && (decide (dir < (8 : Int)))) && true)) = _ from (n_andR rfl rfl)) (fun h2 => (n_bind fun r => (n_condH rfl (fun h3 => (n_bind fun t1 => rfl)) fun h3 => rfl))) fun h2 => rfl))))
theorem lib30 : Lib Tryd.prog GL0 C30 :=
  Lib.fn lib53 mixed TT_ok Tryd.func30 (by decide +kernel) (by kernel_rfl) true noL (loops_of 0 (by kernel_rfl) below0) ks30 (F := fun us => F_grid_Step (toI (cIa (aggL (cIa us 0)) 0)) (toI (cIa (aggL (cIa us 0)) 1)) (toI (cIa us 1))) (fun us => rfl) (fun us => run30 (toI (cIa (aggL (cIa us 0)) 0)) (toI (cIa (aggL (cIa us 0)) 1)) (toI (cIa us 1))) (fun t => rfl)
noncomputable def F_terrain_open (m_W m_H : Int) (m_Cells blocked : LL) (class_ p_X p_Y : Int) : Option (Bool) :=
  Option.bind (F_terrain_Passable m_W m_H m_Cells class_ p_X p_Y) fun t =>
  bif (!t) then
    some false
  else
  Option.bind (F_grid_Index m_W p_X p_Y) fun t1 =>
  bif (class_ == (3 : Int)) then
    some true
  else
  bif (decide (t1 ≥ (Int.ofNat blocked.length))) then
    some true
  else
  bif (decide ((0 : Int) ≤ t1)) then
    Option.bind (blocked[t1.toNat]?) fun r =>
    bif (chk [LT.bool] r) then
      some (!(cB r 0))
    else
    none
  else
  none
noncomputable def enc69 (t : Bool) : CR := ⟨true, (.sc (.bool t)), [], []⟩
noncomputable def ks69 : List SK := [.agg [.int .i64, .int .i64, .ro 3], .f (.ro 1), .f (.int .i64), .agg [.int .i64, .int .i64]]
noncomputable def S69 (us : List AVal) : Call := bif chkA ks69 us then Call.of (F_terrain_open (toI (cIa (aggL (cIa us 0)) 0)) (toI (cIa (aggL (cIa us 0)) 1)) (roRows (cIa (aggL (cIa us 0)) 2)) (roRows (cIa us 1)) (toI (cIa us 2)) (toI (cIa (aggL (cIa us 3)) 0)) (toI (cIa (aggL (cIa us 3)) 1))) enc69 else Call.none
noncomputable def C69 := AI.ext 69 S69 C30
theorem run69 (m_W m_H : Int) (m_Cells blocked : LL) (class_ p_X p_Y : Int) : fcall TT TU GL0 C30 ownF true noL Tryd.f69 [(.agg [(.sc (.int .i64 m_W)), (.sc (.int .i64 m_H)), (.ro 3 m_Cells)]), (.ro 1 blocked), (.sc (.int .i64 class_)), (.agg [(.sc (.int .i64 p_X)), (.sc (.int .i64 p_Y))])] = (F_terrain_open m_W m_H m_Cells blocked class_ p_X p_Y).bind fun t => some (enc69 t) :=
  Eq.trans (by kernel_rfl) (n_bind fun t => (n_condH rfl (fun h0 => rfl) fun h0 => (n_bind fun t1 => (n_condH rfl (fun h1 => rfl) fun h1 => (n_condH rfl (fun h2 => rfl) fun h2 => (n_condH rfl (fun h3 => (n_bind fun r => (n_condH rfl (fun h4 => rfl) fun h4 => rfl))) fun h3 => rfl))))))
theorem lib69 : Lib Tryd.prog GL0 C69 :=
  Lib.fn lib30 mixed TT_ok Tryd.func69 (by decide +kernel) (by kernel_rfl) true noL (loops_of 0 (by kernel_rfl) below0) ks69 (F := fun us => F_terrain_open (toI (cIa (aggL (cIa us 0)) 0)) (toI (cIa (aggL (cIa us 0)) 1)) (roRows (cIa (aggL (cIa us 0)) 2)) (roRows (cIa us 1)) (toI (cIa us 2)) (toI (cIa (aggL (cIa us 3)) 0)) (toI (cIa (aggL (cIa us 3)) 1))) (fun us => rfl) (fun us => run69 (toI (cIa (aggL (cIa us 0)) 0)) (toI (cIa (aggL (cIa us 0)) 1)) (roRows (cIa (aggL (cIa us 0)) 2)) (roRows (cIa us 1)) (toI (cIa us 2)) (toI (cIa (aggL (cIa us 3)) 0)) (toI (cIa (aggL (cIa us 3)) 1))) (fun t => rfl)
noncomputable def F_terrain_flat (m_W m_H : Int) (m_Cells : LL) (class_ p_X p_Y q_X q_Y : Int) : Option (Bool) :=
  Option.bind (F_grid_Index m_W p_X p_Y) fun t =>
  bif (decide ((0 : Int) ≤ t)) then
    Option.bind (m_Cells[t.toNat]?) fun r =>
    bif (chk [(LT.int IntKind.i64), (LT.int IntKind.i64), (LT.int IntKind.i64)] r) then
      Option.bind (F_grid_Index m_W q_X q_Y) fun t1 =>
      bif (decide ((0 : Int) ≤ t1)) then
        Option.bind (m_Cells[t1.toNat]?) fun r1 =>
        bif (chk [(LT.int IntKind.i64), (LT.int IntKind.i64), (LT.int IntKind.i64)] r1) then
          bif (class_ == (3 : Int)) then
            some true
          else
          bif ((cI r 1) == (cI r1 1)) then
            some true
          else
          bif (decide ((cI r 1) > (cI r1 1))) then
            bif ((wr ((cI r 1) - (1 : Int))) == (cI r1 1)) then
              some true
            else
            bif (decide ((cI r1 1) > (cI r 1))) then
              some ((wr ((cI r1 1) - (1 : Int))) == (cI r 1))
            else
            some false
          else
          bif (decide ((cI r1 1) > (cI r 1))) then
            some ((wr ((cI r1 1) - (1 : Int))) == (cI r 1))
          else
          some false
        else
        none
      else
      none
    else
    none
  else
  none
noncomputable def enc70 (t : Bool) : CR := ⟨true, (.sc (.bool t)), [], []⟩
noncomputable def ks70 : List SK := [.agg [.int .i64, .int .i64, .ro 3], .f (.int .i64), .agg [.int .i64, .int .i64], .agg [.int .i64, .int .i64]]
noncomputable def S70 (us : List AVal) : Call := bif chkA ks70 us then Call.of (F_terrain_flat (toI (cIa (aggL (cIa us 0)) 0)) (toI (cIa (aggL (cIa us 0)) 1)) (roRows (cIa (aggL (cIa us 0)) 2)) (toI (cIa us 1)) (toI (cIa (aggL (cIa us 2)) 0)) (toI (cIa (aggL (cIa us 2)) 1)) (toI (cIa (aggL (cIa us 3)) 0)) (toI (cIa (aggL (cIa us 3)) 1))) enc70 else Call.none
noncomputable def C70 := AI.ext 70 S70 C69
theorem run70 (m_W m_H : Int) (m_Cells : LL) (class_ p_X p_Y q_X q_Y : Int) : fcall TT TU GL0 C69 ownF true noL Tryd.f70 [(.agg [(.sc (.int .i64 m_W)), (.sc (.int .i64 m_H)), (.ro 3 m_Cells)]), (.sc (.int .i64 class_)), (.agg [(.sc (.int .i64 p_X)), (.sc (.int .i64 p_Y))]), (.agg [(.sc (.int .i64 q_X)), (.sc (.int .i64 q_Y))])] = (F_terrain_flat m_W m_H m_Cells class_ p_X p_Y q_X q_Y).bind fun t => some (enc70 t) :=
  Eq.trans (by kernel_rfl) (n_bind fun t => (n_condH rfl (fun h0 => (n_bind fun r => (n_condH rfl (fun h1 => (n_bind fun t1 => (n_condH rfl (fun h2 => (n_bind fun r1 => (n_condH rfl (fun h3 => (n_condH rfl (fun h4 => rfl) fun h4 => (n_condH rfl (fun h5 => rfl) fun h5 => (n_condH rfl (fun h6 => (n_condH rfl (fun h7 => rfl) fun h7 => (n_condH rfl (fun h8 => rfl) fun h8 => rfl))) fun h6 => (n_condH rfl (fun h7 => rfl) fun h7 => rfl))))) fun h3 => rfl))) fun h2 => rfl))) fun h1 => rfl))) fun h0 => rfl))
theorem lib70 : Lib Tryd.prog GL0 C70 :=
  Lib.fn lib69 mixed TT_ok Tryd.func70 (by decide +kernel) (by kernel_rfl) true noL (loops_of 0 (by kernel_rfl) below0) ks70 (F := fun us => F_terrain_flat (toI (cIa (aggL (cIa us 0)) 0)) (toI (cIa (aggL (cIa us 0)) 1)) (roRows (cIa (aggL (cIa us 0)) 2)) (toI (cIa us 1)) (toI (cIa (aggL (cIa us 2)) 0)) (toI (cIa (aggL (cIa us 2)) 1)) (toI (cIa (aggL (cIa us 3)) 0)) (toI (cIa (aggL (cIa us 3)) 1))) (fun us => rfl) (fun us => run70 (toI (cIa (aggL (cIa us 0)) 0)) (toI (cIa (aggL (cIa us 0)) 1)) (roRows (cIa (aggL (cIa us 0)) 2)) (toI (cIa us 1)) (toI (cIa (aggL (cIa us 2)) 0)) (toI (cIa (aggL (cIa us 2)) 1)) (toI (cIa (aggL (cIa us 3)) 0)) (toI (cIa (aggL (cIa us 3)) 1))) (fun t => rfl)
noncomputable def F_terrain_possible (m_W m_H : Int) (m_Cells blocked : LL) (class_ p_X p_Y q_X q_Y : Int) : Option (Bool) :=
  Option.bind (F_terrain_open m_W m_H m_Cells blocked class_ p_X p_Y) fun t =>
  bif t then
    Option.bind (F_terrain_open m_W m_H m_Cells blocked class_ q_X q_Y) fun t1 =>
    bif t1 then
      Option.bind (F_terrain_flat m_W m_H m_Cells class_ p_X p_Y q_X q_Y) fun t2 =>
      some t2
    else
    some false
  else
  some false
noncomputable def enc52 (t : Bool) : CR := ⟨true, (.sc (.bool t)), [], []⟩
noncomputable def ks52 : List SK := [.agg [.int .i64, .int .i64, .ro 3], .f (.ro 1), .f (.int .i64), .agg [.int .i64, .int .i64], .agg [.int .i64, .int .i64]]
noncomputable def S52 (us : List AVal) : Call := bif chkA ks52 us then Call.of (F_terrain_possible (toI (cIa (aggL (cIa us 0)) 0)) (toI (cIa (aggL (cIa us 0)) 1)) (roRows (cIa (aggL (cIa us 0)) 2)) (roRows (cIa us 1)) (toI (cIa us 2)) (toI (cIa (aggL (cIa us 3)) 0)) (toI (cIa (aggL (cIa us 3)) 1)) (toI (cIa (aggL (cIa us 4)) 0)) (toI (cIa (aggL (cIa us 4)) 1))) enc52 else Call.none
noncomputable def C52 := AI.ext 52 S52 C70
theorem run52 (m_W m_H : Int) (m_Cells blocked : LL) (class_ p_X p_Y q_X q_Y : Int) : fcall TT TU GL0 C70 ownF true noL Tryd.f52 [(.agg [(.sc (.int .i64 m_W)), (.sc (.int .i64 m_H)), (.ro 3 m_Cells)]), (.ro 1 blocked), (.sc (.int .i64 class_)), (.agg [(.sc (.int .i64 p_X)), (.sc (.int .i64 p_Y))]), (.agg [(.sc (.int .i64 q_X)), (.sc (.int .i64 q_Y))])] = (F_terrain_possible m_W m_H m_Cells blocked class_ p_X p_Y q_X q_Y).bind fun t => some (enc52 t) :=
  Eq.trans (by kernel_rfl) (n_bind fun t => (n_condH rfl (fun h0 => (n_bind fun t1 => (n_condH rfl (fun h1 => (n_bind fun t2 => rfl)) fun h1 => rfl))) fun h0 => rfl))
theorem lib52 : Lib Tryd.prog GL0 C52 :=
  Lib.fn lib70 mixed TT_ok Tryd.func52 (by decide +kernel) (by kernel_rfl) true noL (loops_of 0 (by kernel_rfl) below0) ks52 (F := fun us => F_terrain_possible (toI (cIa (aggL (cIa us 0)) 0)) (toI (cIa (aggL (cIa us 0)) 1)) (roRows (cIa (aggL (cIa us 0)) 2)) (roRows (cIa us 1)) (toI (cIa us 2)) (toI (cIa (aggL (cIa us 3)) 0)) (toI (cIa (aggL (cIa us 3)) 1)) (toI (cIa (aggL (cIa us 4)) 0)) (toI (cIa (aggL (cIa us 4)) 1))) (fun us => rfl) (fun us => run52 (toI (cIa (aggL (cIa us 0)) 0)) (toI (cIa (aggL (cIa us 0)) 1)) (roRows (cIa (aggL (cIa us 0)) 2)) (roRows (cIa us 1)) (toI (cIa us 2)) (toI (cIa (aggL (cIa us 3)) 0)) (toI (cIa (aggL (cIa us 3)) 1)) (toI (cIa (aggL (cIa us 4)) 0)) (toI (cIa (aggL (cIa us 4)) 1))) (fun t => rfl)
noncomputable def W29_0 : Ex → List Bool
  | .ret => [false, false, false, false, false, false, false, false, false, false, true, true, false, false, false, false, false, false, false, false, false, false, false, false, false, false, false, false, false, false, false, false, false, false, false, false, false, false, false, false, false, false, false, false, false, false, false, false, false, false, false, false, false, false, false, false, false, false, false, false, false, false, false, false, false, false, false, false, false, false, false, false, false, false, false, false, false, false, false, false, false, false, false, false, false, false, false, false, false, false, false, false, false, false, false, false, false, false, false, false, false, false]
  | .exit n => bif Nat.beq n 0 then [false, false, true, false, false, true, false, false, true, false, false, false, true, true, false, false, false, false, false, false, false, false, false, false, false, false, false, false, false, false, false, false, false, false, false, false, false, false, false, false, false, false, false, false, false, false, false, false, false, false, false, false, false, false, false, false, false, false, false, false, false, false, false, false, false, false, false, false, false, false, false, false, false, false, false, false, false, false, false, false, false, false, false, false, false, false, false, false, false, false, false, false, false, false, false, false, false, false, false, false, false, false] else []
  | _ => []
noncomputable def L29_0 (s : St) (k : Ex → St → Option CR) : Option CR := loopN (bodyOf TT TU GL0 C52 ownF noL (lp Tryd.f29 0)) 3 (maskS [false, true, true, false, false, true, false, false, true, false, false, false, true, true, false, false, false, false, false, false, false, false, false, false, false, false, false, false, false, false, false, false, false, false, false, false, false, false, false, false, false, false, false, false, false, false, false, false, false, false, false, true, true, false, false, false, false, false, false, false, false, false, false, false, false, false, false, false, false, false, false, false, false, false, false, false, false, false, false, false, false, false, false, false, false, false, false, false, false, false, false, false, false, false, false, false, false, false, false, false, false, false] s) (fun e s' => k e (maskS (W29_0 e) s'))
noncomputable def L29 : LT' := fun i s k => bif Nat.beq i 0 then L29_0 s k else none
noncomputable def F_terrain_Step (m_W m_H : Int) (m_Cells blocked : LL) (class_ p_X p_Y dir : Int) : Option (Int × Bool) :=
  bif (decide (dir < (0 : Int))) then
    some ((0 : Int), false)
  else
  bif (decide (dir > (7 : Int))) then
    some ((0 : Int), false)
  else
  Option.bind (F_terrain_inside m_W m_H m_Cells p_X p_Y) fun t =>
  bif (!t) then
    some ((0 : Int), false)
  else
  Option.bind (F_grid_Step p_X p_Y dir) fun t1 =>
  Option.bind (F_terrain_possible m_W m_H m_Cells blocked class_ p_X p_Y t1.1 t1.2) fun t2 =>
  bif (!t2) then
    some ((0 : Int), false)
  else
  bif ((Int.tmod dir (2 : Int)) == (1 : Int)) then
    Option.bind ([[(i64 p_X), (i64 t1.2)], [(i64 t1.1), (i64 p_Y)]][(0 : Int).toNat]?) fun r =>
    bif (chk [(LT.int IntKind.i64), (LT.int IntKind.i64)] r) then
      bif (class_ != (3 : Int)) then
        Option.bind (F_terrain_possible m_W m_H m_Cells blocked class_ p_X p_Y (cI r 0) (cI r 1)) fun t3 =>
        bif (!t3) then
          some ((0 : Int), false)
        else
        Option.bind (F_terrain_possible m_W m_H m_Cells blocked class_ (cI r 0) (cI r 1) t1.1 t1.2) fun t4 =>
        bif (!t4) then
          some ((0 : Int), false)
        else
        Option.bind ([[(i64 p_X), (i64 t1.2)], [(i64 t1.1), (i64 p_Y)]][(wr ((0 : Int) + (1 : Int))).toNat]?) fun r1 =>
        bif (chk [(LT.int IntKind.i64), (LT.int IntKind.i64)] r1) then
          Option.bind (F_terrain_possible m_W m_H m_Cells blocked class_ p_X p_Y (cI r1 0) (cI r1 1)) fun t5 =>
          bif (!t5) then
            some ((0 : Int), false)
          else
          Option.bind (F_terrain_possible m_W m_H m_Cells blocked class_ (cI r1 0) (cI r1 1) t1.1 t1.2) fun t6 =>
          bif (!t6) then
            some ((0 : Int), false)
          else
          Option.bind (F_grid_Index m_W p_X p_Y) fun t7 =>
          bif (decide ((0 : Int) ≤ t7)) then
            Option.bind (m_Cells[t7.toNat]?) fun r2 =>
            bif (chk [(LT.int IntKind.i64), (LT.int IntKind.i64), (LT.int IntKind.i64)] r2) then
              Option.bind (F_grid_Index m_W t1.1 t1.2) fun t8 =>
              bif (decide ((0 : Int) ≤ t8)) then
                Option.bind (m_Cells[t8.toNat]?) fun r3 =>
                bif (chk [(LT.int IntKind.i64), (LT.int IntKind.i64), (LT.int IntKind.i64)] r3) then
                  bif ((cI r2 1) != (cI r3 1)) then
                    some ((wr ((14 : Int) + (5 : Int))), true)
                  else
                  some ((14 : Int), true)
                else
                none
              else
              none
            else
            none
          else
          none
        else
        none
      else
      Option.bind ([[(i64 p_X), (i64 t1.2)], [(i64 t1.1), (i64 p_Y)]][(wr ((0 : Int) + (1 : Int))).toNat]?) fun r6 =>
      bif (chk [(LT.int IntKind.i64), (LT.int IntKind.i64)] r6) then
        some ((14 : Int), true)
      else
      none
    else
    none
  else
  bif (class_ != (3 : Int)) then
    Option.bind (F_grid_Index m_W p_X p_Y) fun t17 =>
    bif (decide ((0 : Int) ≤ t17)) then
      Option.bind (m_Cells[t17.toNat]?) fun r11 =>
      bif (chk [(LT.int IntKind.i64), (LT.int IntKind.i64), (LT.int IntKind.i64)] r11) then
        Option.bind (F_grid_Index m_W t1.1 t1.2) fun t18 =>
        bif (decide ((0 : Int) ≤ t18)) then
          Option.bind (m_Cells[t18.toNat]?) fun r12 =>
          bif (chk [(LT.int IntKind.i64), (LT.int IntKind.i64), (LT.int IntKind.i64)] r12) then
            bif ((cI r11 1) != (cI r12 1)) then
              some ((wr ((10 : Int) + (5 : Int))), true)
            else
            some ((10 : Int), true)
          else
          none
        else
        none
      else
      none
    else
    none
  else
  some ((10 : Int), true)
noncomputable def enc29 (t : Int × Bool) : CR := ⟨true, (.tup [(.sc (.int .i64 t.1)), (.sc (.bool t.2))]), [], []⟩
noncomputable def ks29 : List SK := [.agg [.int .i64, .int .i64, .ro 3], .f (.ro 1), .f (.int .i64), .agg [.int .i64, .int .i64], .f (.int .i64)]
noncomputable def S29 (us : List AVal) : Call := bif chkA ks29 us then Call.of (F_terrain_Step (toI (cIa (aggL (cIa us 0)) 0)) (toI (cIa (aggL (cIa us 0)) 1)) (roRows (cIa (aggL (cIa us 0)) 2)) (roRows (cIa us 1)) (toI (cIa us 2)) (toI (cIa (aggL (cIa us 3)) 0)) (toI (cIa (aggL (cIa us 3)) 1)) (toI (cIa us 4))) enc29 else Call.none
noncomputable def C29 := AI.ext 29 S29 C52
theorem okL29_0 : LoopOk TT TU GL0 C52 ownF L29 (lp Tryd.f29 0) :=
  loopOk_unroll 3 [false, true, true, false, false, true, false, false, true, false, false, false, true, true, false, false, false, false, false, false, false, false, false, false, false, false, false, false, false, false, false, false, false, false, false, false, false, false, false, false, false, false, false, false, false, false, false, false, false, false, false, true, true, false, false, false, false, false, false, false, false, false, false, false, false, false, false, false, false, false, false, false, false, false, false, false, false, false, false, false, false, false, false, false, false, false, false, false, false, false, false, false, false, false, false, false, false, false, false, false, false, false] W29_0 (by kernel_rfl) (fun s k => by kernel_rfl)
theorem run29 (m_W m_H : Int) (m_Cells blocked : LL) (class_ p_X p_Y dir : Int) : fcall TT TU GL0 C52 ownF true L29 Tryd.f29 [(.agg [(.sc (.int .i64 m_W)), (.sc (.int .i64 m_H)), (.ro 3 m_Cells)]), (.ro 1 blocked), (.sc (.int .i64 class_)), (.agg [(.sc (.int .i64 p_X)), (.sc (.int .i64 p_Y))]), (.sc (.int .i64 dir))] = (F_terrain_Step m_W m_H m_Cells blocked class_ p_X p_Y dir).bind fun t => some (enc29 t) :=
  Eq.trans (by kernel_rfl) (n_condH rfl (fun h0 => rfl) fun h0 => (n_condH rfl (fun h1 => rfl) fun h1 => (n_bind fun t => (n_condH rfl (fun h2 => rfl) fun h2 => (n_bind fun t1 => (n_bind fun t2 => (n_condH rfl (fun h3 => rfl) fun h3 => (n_condH rfl (fun h4 => (n_tru (show (((decide ((0 : Int) ≤ (0 : Int))) && (decide ((0 : Int) < (2 : Int)))) && true) = true from (by kernel_rfl)) (n_bind fun r => (n_condH rfl (fun h5 => (n_condH rfl (fun h6 => (n_bind fun t3 => (n_condH rfl (fun h7 => rfl) fun h7 => (n_bind fun t4 => (n_condH rfl (fun h8 => rfl) fun h8 => (n_tru (show (((decide ((0 : Int) ≤ (wr ((0 : Int) + (1 : Int))))) && (decide ((wr ((0 : Int) + (1 : Int))) < (2 : Int)))) && true) = true from (by kernel_rfl)) (n_bind fun r1 => (n_condH rfl (fun h9 => (n_true (B := (bif (class_ != (3 : Int)) then (Option.bind (F_grid_Index m_W p_X p_Y) fun t9 => (bif (decide ((0 : Int) ≤ t9)) then (Option.bind (m_Cells[t9.toNat]?) fun r4 => (bif (chk [(LT.int IntKind.i64), (LT.int IntKind.i64), (LT.int IntKind.i64)] r4) then (Option.bind (F_grid_Index m_W t1.1 t1.2) fun t10 => (bif (decide ((0 : Int) ≤ t10)) then (Option.bind (m_Cells[t10.toNat]?) fun r5 => (bif (chk [(LT.int IntKind.i64), (LT.int IntKind.i64), (LT.int IntKind.i64)] r5) then (bif ((cI r4 1) != (cI r5 1)) then (some (CR.mk true (AVal.tup [(i64 (wr ((14 : Int) + (5 : Int)))), (bo true)]) [] [])) else (some (CR.mk true (AVal.tup [(i64 (14 : Int)), (bo true)]) [] []))) else none)) else none)) else none)) else none)) else (some (CR.mk true (AVal.tup [(i64 (14 : Int)), (bo true)]) [] [])))) h6 (n_bind fun t5 => (n_condH rfl (fun h10 => rfl) fun h10 => (n_bind fun t6 => (n_condH rfl (fun h11 => rfl) fun h11 => (n_true (B := (some (CR.mk true (AVal.tup [(i64 (14 : Int)), (bo true)]) [] []))) h6 (n_bind fun t7 => (n_condH rfl (fun h12 => (n_bind fun r2 => (n_condH rfl (fun h13 => (n_bind fun t8 => (n_condH rfl (fun h14 => (n_bind fun r3 => (n_condH rfl (fun h15 => (n_condH rfl (fun h16 => rfl) fun h16 => rfl)) fun h15 => rfl))) fun h14 => rfl))) fun h13 => rfl))) fun h12 => rfl))))))))) fun h9 => rfl)))))))) fun h6 => (n_tru (show (((decide ((0 : Int) ≤ (wr ((0 : Int) + (1 : Int))))) && (decide ((wr ((0 : Int) + (1 : Int))) < (2 : Int)))) && true) = true from (by kernel_rfl)) (n_bind fun r6 => (n_condH rfl (fun h7 => (n_false (A := (Option.bind (F_terrain_possible m_W m_H m_Cells blocked class_ p_X p_Y (cI r6 0) (cI r6 1)) fun t11 => (bif (!t11) then (some (CR.mk true (AVal.tup [(i64 (0 : Int)), (bo false)]) [] [])) else (Option.bind (F_terrain_possible m_W m_H m_Cells blocked class_ (cI r6 0) (cI r6 1) t1.1 t1.2) fun t12 => (bif (!t12) then (some (CR.mk true (AVal.tup [(i64 (0 : Int)), (bo false)]) [] [])) else (bif (class_ != (3 : Int)) then (Option.bind (F_grid_Index m_W p_X p_Y) fun t13 => (bif (decide ((0 : Int) ≤ t13)) then (Option.bind (m_Cells[t13.toNat]?) fun r7 => (bif (chk [(LT.int IntKind.i64), (LT.int IntKind.i64), (LT.int IntKind.i64)] r7) then (Option.bind (F_grid_Index m_W t1.1 t1.2) fun t14 => (bif (decide ((0 : Int) ≤ t14)) then (Option.bind (m_Cells[t14.toNat]?) fun r8 => (bif (chk [(LT.int IntKind.i64), (LT.int IntKind.i64), (LT.int IntKind.i64)] r8) then (bif ((cI r7 1) != (cI r8 1)) then (some (CR.mk true (AVal.tup [(i64 (wr ((14 : Int) + (5 : Int)))), (bo true)]) [] [])) else (some (CR.mk true (AVal.tup [(i64 (14 : Int)), (bo true)]) [] []))) else none)) else none)) else none)) else none)) else (some (CR.mk true (AVal.tup [(i64 (14 : Int)), (bo true)]) [] [])))))))) h6 (n_false (A := (Option.bind (F_grid_Index m_W p_X p_Y) fun t15 => (bif (decide ((0 : Int) ≤ t15)) then (Option.bind (m_Cells[t15.toNat]?) fun r9 => (bif (chk [(LT.int IntKind.i64), (LT.int IntKind.i64), (LT.int IntKind.i64)] r9) then (Option.bind (F_grid_Index m_W t1.1 t1.2) fun t16 => (bif (decide ((0 : Int) ≤ t16)) then (Option.bind (m_Cells[t16.toNat]?) fun r10 => (bif (chk [(LT.int IntKind.i64), (LT.int IntKind.i64), (LT.int IntKind.i64)] r10) then (bif ((cI r9 1) != (cI r10 1)) then (some (CR.mk true (AVal.tup [(i64 (wr ((14 : Int) + (5 : Int)))), (bo true)]) [] [])) else (some (CR.mk true (AVal.tup [(i64 (14 : Int)), (bo true)]) [] []))) else none)) else none)) else none)) else none))) h6 rfl))) fun h7 => rfl))))) fun h5 => rfl)))) fun h4 => (n_condH rfl (fun h5 => (n_bind fun t17 => (n_condH rfl (fun h6 => (n_bind fun r11 => (n_condH rfl (fun h7 => (n_bind fun t18 => (n_condH rfl (fun h8 => (n_bind fun r12 => (n_condH rfl (fun h9 => (n_condH rfl (fun h10 => rfl) fun h10 => rfl)) fun h9 => rfl))) fun h8 => rfl))) fun h7 => rfl))) fun h6 => rfl))) fun h5 => rfl)))))))))
theorem lib29 : Lib Tryd.prog GL0 C29 :=
  Lib.fn lib52 mixed TT_ok Tryd.func29 (by decide +kernel) (by kernel_rfl) true L29 (loops_of 1 (by kernel_rfl) (belowS below0 okL29_0)) ks29 (F := fun us => F_terrain_Step (toI (cIa (aggL (cIa us 0)) 0)) (toI (cIa (aggL (cIa us 0)) 1)) (roRows (cIa (aggL (cIa us 0)) 2)) (roRows (cIa us 1)) (toI (cIa us 2)) (toI (cIa (aggL (cIa us 3)) 0)) (toI (cIa (aggL (cIa us 3)) 1)) (toI (cIa us 4))) (fun us => rfl) (fun us => run29 (toI (cIa (aggL (cIa us 0)) 0)) (toI (cIa (aggL (cIa us 0)) 1)) (roRows (cIa (aggL (cIa us 0)) 2)) (roRows (cIa us 1)) (toI (cIa us 2)) (toI (cIa (aggL (cIa us 3)) 0)) (toI (cIa (aggL (cIa us 3)) 1)) (toI (cIa us 4))) (fun t => rfl)
noncomputable def W26_0 : Ex → List Bool
  | .ret => [false, false, false, false, true, false, false, false, false, false, false, false, false, false, false, false, false, false, false, false, false, false, false, false, false, false, false, false, false, false, false, false, false, false, false, false, false, false, false, false, false, false, false, false, false, false, false, false, false, false, false, false, false, false, false, false, false, false, false, false, false, false, false, false, false, false, false, false, false, false, false, false, false, false, false, false, false, false, false, false, false, false, false, false, false, false, false, false, false, false, false, false, false, false, false, false, false, false, false, false, false, false, false, false, false, false, false, false, false, false, false, false, false, false, false, false, false, false, false, false, false, false, false, false, false, false, false, false, false, false, false, false, false]
  | .exit n => bif Nat.beq n 0 then [false, false, true, true, false, true, false, false, false, false, false, false, false, false, false, false, false, false, false, false, false, false, false, false, false, false, false, false, false, false, false, false, false, false, false, false, false, false, false, false, false, false, false, false, false, false, false, false, false, false, false, false, false, false, false, false, false, false, false, false, false, false, false, false, false, false, false, false, false, false, false, false, false, false, false, false, false, false, false, false, false, false, false, false, false, false, false, false, false, false, false, false, false, false, false, false, false, false, false, false, false, false, false, false, false, false, false, false, false, false, false, false, false, false, false, false, false, false, false, false, false, false, false, false, false, false, false, false, false, false, false, false, false] else []
  | _ => []
noncomputable def G_astar_ground__reach_0 (x24 : Int) : Nat → LL → Int → Option (LL)
  | 0, _, _ => none
  | m + 1, R2, x25 =>
    bif (decide (x25 < x24)) then
      bif ((decide ((0 : Int) ≤ x25)) && (decide (x25 < (Int.ofNat R2.length)))) then
        G_astar_ground__reach_0 x24 m (List.set R2 x25.toNat [(i64 (-(1 : Int)))]) (wr (x25 + (1 : Int)))
      else
      none
    else
    some R2
noncomputable def E26_0 (R2 : LL) (x24 x25 b0_0 b0_1 : Int) (b0_2 b0_3 : LL) (b0_4 b1_0 b1_1 : Int) : St := ⟨[.dead, .dead, (.ref 16000 1 0 0), (.ref 16016 1 0 0), .dead, (.ref 16000080 1 0 0), .dead, .dead, .dead, .dead, .dead, .dead, .dead, .dead, .dead, .dead, .dead, .dead, .dead, .dead, .dead, .dead, .dead, .dead, (.sc (.int .i64 x24)), (.sc (.int .i64 x25)), .dead, .dead, .dead, .dead, .dead, .dead, .dead, .dead, .dead, .dead, .dead, .dead, .dead, .dead, .dead, .dead, .dead, .dead, .dead, .dead, .dead, .dead, .dead, .dead, .dead, .dead, .dead, .dead, .dead, .dead, .dead, .dead, .dead, .dead, .dead, .dead, .dead, .dead, .dead, .dead, .dead, .dead, .dead, .dead, .dead, .dead, .dead, .dead, .dead, .dead, .dead, .dead, .dead, .dead, .dead, .dead, .dead, .dead, .dead, .dead, .dead, .dead, .dead, .dead, .dead, .dead, .dead, .dead, .dead, .dead, .dead, .dead, .dead, .dead, .dead, .dead, .dead, .dead, .dead, .dead, .dead, .dead, .dead, .dead, .dead, .dead, .dead, .dead, .dead, .dead, .dead, .dead, .dead, .dead, .dead, .dead, .dead, .dead, .dead, .dead, .dead, .dead, .dead, .dead, .dead, .dead, .dead], [(16000, ⟨.box, 46, 5, [[(.sc (.int .i64 b0_0)), (.sc (.int .i64 b0_1)), (.ro 3 b0_2), (.ro 1 b0_3), (.sc (.int .i64 b0_4))]]⟩), (16016, ⟨.box, 27, 2, [[(.sc (.int .i64 b1_0)), (.sc (.int .i64 b1_1))]]⟩), (19264, ⟨.arr, 3, 1, R2⟩), (16000080, ⟨.box, 41, 1, [[(.slc 19264 (R2).length)]]⟩)]⟩
noncomputable def X26_0 (b0_0 b0_1 : Int) (b0_2 b0_3 : LL) (b0_4 b1_0 b1_1 : Int) (k : Ex → St → Option CR) (t : LL) : Option CR := k (.exit 0) ⟨[.dead, .dead, (.ref 16000 1 0 0), (.ref 16016 1 0 0), .dead, (.ref 16000080 1 0 0), .dead, .dead, .dead, .dead, .dead, .dead, .dead, .dead, .dead, .dead, .dead, .dead, .dead, .dead, .dead, .dead, .dead, .dead, .dead, .dead, .dead, .dead, .dead, .dead, .dead, .dead, .dead, .dead, .dead, .dead, .dead, .dead, .dead, .dead, .dead, .dead, .dead, .dead, .dead, .dead, .dead, .dead, .dead, .dead, .dead, .dead, .dead, .dead, .dead, .dead, .dead, .dead, .dead, .dead, .dead, .dead, .dead, .dead, .dead, .dead, .dead, .dead, .dead, .dead, .dead, .dead, .dead, .dead, .dead, .dead, .dead, .dead, .dead, .dead, .dead, .dead, .dead, .dead, .dead, .dead, .dead, .dead, .dead, .dead, .dead, .dead, .dead, .dead, .dead, .dead, .dead, .dead, .dead, .dead, .dead, .dead, .dead, .dead, .dead, .dead, .dead, .dead, .dead, .dead, .dead, .dead, .dead, .dead, .dead, .dead, .dead, .dead, .dead, .dead, .dead, .dead, .dead, .dead, .dead, .dead, .dead, .dead, .dead, .dead, .dead, .dead, .dead], [(16000, ⟨.box, 46, 5, [[(.sc (.int .i64 b0_0)), (.sc (.int .i64 b0_1)), (.ro 3 b0_2), (.ro 1 b0_3), (.sc (.int .i64 b0_4))]]⟩), (16016, ⟨.box, 27, 2, [[(.sc (.int .i64 b1_0)), (.sc (.int .i64 b1_1))]]⟩), (19264, ⟨.arr, 3, 1, t⟩), (16000080, ⟨.box, 41, 1, [[(.slc 19264 (t).length)]]⟩)]⟩
noncomputable def ks26_0 : List SK := [.f .dead, .f .dead, .f (.ref 16000 1 0 0), .f (.ref 16016 1 0 0), .f .dead, .f (.ref 16000080 1 0 0), .f .dead, .f .dead, .f .dead, .f .dead, .f .dead, .f .dead, .f .dead, .f .dead, .f .dead, .f .dead, .f .dead, .f .dead, .f .dead, .f .dead, .f .dead, .f .dead, .f .dead, .f .dead, .f (.int .i64), .f (.int .i64), .f .dead, .f .dead, .f .dead, .f .dead, .f .dead, .f .dead, .f .dead, .f .dead, .f .dead, .f .dead, .f .dead, .f .dead, .f .dead, .f .dead, .f .dead, .f .dead, .f .dead, .f .dead, .f .dead, .f .dead, .f .dead, .f .dead, .f .dead, .f .dead, .f .dead, .f .dead, .f .dead, .f .dead, .f .dead, .f .dead, .f .dead, .f .dead, .f .dead, .f .dead, .f .dead, .f .dead, .f .dead, .f .dead, .f .dead, .f .dead, .f .dead, .f .dead, .f .dead, .f .dead, .f .dead, .f .dead, .f .dead, .f .dead, .f .dead, .f .dead, .f .dead, .f .dead, .f .dead, .f .dead, .f .dead, .f .dead, .f .dead, .f .dead, .f .dead, .f .dead, .f .dead, .f .dead, .f .dead, .f .dead, .f .dead, .f .dead, .f .dead, .f .dead, .f .dead, .f .dead, .f .dead, .f .dead, .f .dead, .f .dead, .f .dead, .f .dead, .f .dead, .f .dead, .f .dead, .f .dead, .f .dead, .f .dead, .f .dead, .f .dead, .f .dead, .f .dead, .f .dead, .f .dead, .f .dead, .f .dead, .f .dead, .f .dead, .f .dead, .f .dead, .f .dead, .f .dead, .f .dead, .f .dead, .f .dead, .f .dead, .f .dead, .f .dead, .f .dead, .f .dead, .f .dead, .f .dead, .f .dead]
noncomputable def hs26_0 : List HK := [⟨16000, .box, 46, 5, some [.int .i64, .int .i64, .ro 3, .ro 1, .int .i64]⟩, ⟨16016, .box, 27, 2, some [.int .i64, .int .i64]⟩, ⟨19264, .arr, 3, 1, none⟩, ⟨16000080, .box, 41, 1, some [.slc 19264 2]⟩]
noncomputable def Lm26_0 (s : St) (k : Ex → St → Option CR) : Option CR := bif chkS ks26_0 hs26_0 s then (G_astar_ground__reach_0 (toI (cIa s.tmps 24)) FU (blkAt s.heap 2).2.rows (toI (cIa s.tmps 25))).bind (X26_0 (toI (cIa (rows0 (blkAt s.heap 0).2) 0)) (toI (cIa (rows0 (blkAt s.heap 0).2) 1)) (roRows (cIa (rows0 (blkAt s.heap 0).2) 2)) (roRows (cIa (rows0 (blkAt s.heap 0).2) 3)) (toI (cIa (rows0 (blkAt s.heap 0).2) 4)) (toI (cIa (rows0 (blkAt s.heap 1).2) 0)) (toI (cIa (rows0 (blkAt s.heap 1).2) 1)) k) else none
noncomputable def L26_0 (s : St) (k : Ex → St → Option CR) : Option CR := Lm26_0 (maskS (maskOf ks26_0) s) k
noncomputable def W26_1 : Ex → List Bool
  | .ret => [false, false, false, false, true, false, false, false, false, false, false, false, false, false, false, false, false, false, false, false, false, false, false, false, false, false, false, false, false, false, false, false, false, false, false, false, false, false, false, false, false, false, false, false, false, false, false, false, false, false, false, false, false, false, false, false, false, false, false, false, false, false, false, false, false, false, false, false, false, false, false, false, false, false, false, false, false, false, false, false, false, false, false, false, false, false, false, false, false, false, false, false, false, false, false, false, false, false, false, false, false, false, false, false, false, false, false, false, false, false, false, false, false, false, false, false, false, false, false, false, false, false, false, false, false, false, false, false, false, false, false, false, false]
  | .exit n => bif Nat.beq n 2 then [false, false, false, false, false, true, false, false, false, false, false, false, false, false, false, false, false, false, false, false, false, false, false, false, false, false, false, false, false, false, false, false, false, false, false, false, false, false, false, false, false, false, false, false, false, false, false, false, false, false, false, false, false, false, false, false, false, false, false, false, false, false, false, false, false, false, false, false, false, false, false, false, false, false, false, false, false, false, false, false, false, false, false, false, false, false, false, false, false, false, false, false, false, false, false, false, false, false, false, false, false, false, false, false, false, false, false, false, false, false, false, false, false, false, false, false, false, false, false, false, false, false, false, false, false, false, false, false, false, false, false, false, false] else []
  | _ => []
noncomputable def W26_2 : Ex → List Bool
  | .ret => [false, false, false, false, true, false, false, false, false, false, false, false, false, false, false, false, false, false, false, false, false, false, false, false, false, false, false, false, false, false, false, false, false, false, false, false, false, false, false, false, false, false, false, false, false, false, false, false, false, false, false, false, false, false, false, false, false, false, false, false, false, false, false, false, false, false, false, false, false, false, false, false, false, false, false, false, false, false, false, false, false, false, false, false, false, false, false, false, false, false, false, false, false, false, false, false, false, false, false, false, false, false, false, false, false, false, false, false, false, false, false, false, false, false, false, false, false, false, false, false, false, false, false, false, false, false, false, false, false, false, false, false, false]
  | .exit n => bif Nat.beq n 4 then [false, false, true, false, false, true, false, true, true, true, true, false, false, false, false, false, false, false, false, false, false, false, false, false, false, false, false, false, false, false, false, false, false, false, false, false, false, false, false, false, false, false, false, false, false, false, false, false, false, false, false, false, false, false, false, false, false, false, false, false, false, false, false, false, false, false, false, false, false, false, false, false, false, false, false, false, false, false, false, false, false, false, false, false, false, false, false, false, false, false, false, false, false, false, false, false, false, false, false, false, false, false, false, false, false, false, false, false, false, false, false, false, false, false, false, false, false, false, false, false, false, false, false, false, false, false, false, false, false, false, false, false, false] else bif Nat.beq n 3 then [false, false, true, false, false, true, false, true, true, true, true, false, false, false, false, false, false, false, false, false, false, false, false, false, false, false, false, false, false, false, false, false, false, false, false, false, false, false, false, false, false, false, false, false, false, false, false, false, false, false, false, false, false, false, false, false, false, false, false, false, false, false, false, false, false, false, false, false, false, false, false, false, false, false, false, false, false, false, false, false, false, false, false, false, false, false, false, false, false, false, false, false, false, false, false, false, false, false, false, false, false, false, false, false, false, false, false, false, false, false, false, false, false, false, false, false, false, false, false, false, false, false, false, false, false, false, false, false, false, false, false, false, false] else bif Nat.beq n 2 then [false, false, false, false, false, true, false, false, false, false, false, false, false, false, false, false, false, false, false, false, false, false, false, false, false, false, false, false, false, false, false, false, false, false, false, false, false, false, false, false, false, false, false, false, false, false, false, false, false, false, false, false, false, false, false, false, false, false, false, false, false, false, false, false, false, false, false, false, false, false, false, false, false, false, false, false, false, false, false, false, false, false, false, false, false, false, false, false, false, false, false, false, false, false, false, false, false, false, false, false, false, false, false, false, false, false, false, false, false, false, false, false, false, false, false, false, false, false, false, false, false, false, false, false, false, false, false, false, false, false, false, false, false] else []
  | _ => []
noncomputable def W26_3 : Ex → List Bool
  | .ret => [false, false, false, false, true, false, false, false, false, false, false, false, false, false, false, false, false, false, false, false, false, false, false, false, false, false, false, false, false, false, false, false, false, false, false, false, false, false, false, false, false, false, false, false, false, false, false, false, false, false, false, false, false, false, false, false, false, false, false, false, false, false, false, false, false, false, false, false, false, false, false, false, false, false, false, false, false, false, false, false, false, false, false, false, false, false, false, false, false, false, false, false, false, false, false, false, false, false, false, false, false, false, false, false, false, false, false, false, false, false, false, false, false, false, false, false, false, false, false, false, false, false, false, false, false, false, false, false, false, false, false, false, false]
  | .exit n => bif Nat.beq n 6 then [false, false, true, false, false, true, false, true, true, true, true, false, false, false, false, false, false, false, false, false, false, false, false, false, false, false, false, false, false, false, false, false, false, false, false, false, false, false, false, false, false, false, false, false, false, false, false, false, false, false, false, false, false, false, false, false, false, false, false, false, false, false, false, false, false, false, false, false, false, false, false, false, false, false, false, false, false, false, false, false, false, false, false, false, false, false, false, false, false, false, false, false, false, false, false, false, false, false, false, false, false, false, false, false, false, false, false, false, false, false, false, false, false, false, false, false, false, false, false, false, false, false, false, false, false, false, false, false, false, false, false, false, false] else bif Nat.beq n 5 then [false, false, true, false, false, true, false, true, true, true, true, false, false, false, false, false, false, false, false, false, false, false, false, false, false, false, false, false, false, false, false, false, false, false, false, false, false, false, false, false, false, false, false, false, false, false, false, false, false, false, false, false, false, false, false, false, false, false, false, false, false, false, false, false, false, false, false, false, false, false, false, false, false, false, false, false, false, false, false, false, false, false, false, false, false, false, false, false, false, false, false, false, false, false, false, false, false, false, false, false, false, false, false, false, false, false, false, false, false, false, false, false, false, false, false, false, false, false, false, false, false, false, false, false, false, false, false, false, false, false, false, false, false] else bif Nat.beq n 4 then [false, false, true, false, false, true, false, true, true, true, true, false, false, false, false, false, false, false, false, false, false, false, false, false, false, false, false, false, false, false, false, false, false, false, false, false, false, false, false, false, false, false, false, false, false, false, false, false, false, false, false, false, false, false, false, false, false, false, false, false, false, false, false, false, false, false, false, false, false, false, false, false, false, false, false, false, false, false, false, false, false, false, false, false, false, false, false, false, false, false, false, false, false, false, false, false, false, false, false, false, false, false, false, false, false, false, false, false, false, false, false, false, false, false, false, false, false, false, false, false, false, false, false, false, false, false, false, false, false, false, false, false, false] else bif Nat.beq n 3 then [false, false, true, false, false, true, false, true, true, true, true, false, false, false, false, false, false, false, false, false, false, false, false, false, false, false, false, false, false, false, false, false, false, false, false, false, false, false, false, false, false, false, false, false, false, false, false, false, false, false, false, false, false, false, false, false, false, false, false, false, false, false, false, false, false, false, false, false, false, false, false, false, false, false, false, false, false, false, false, false, false, false, false, false, false, false, false, false, false, false, false, false, false, false, false, false, false, false, false, false, false, false, false, false, false, false, false, false, false, false, false, false, false, false, false, false, false, false, false, false, false, false, false, false, false, false, false, false, false, false, false, false, false] else bif Nat.beq n 2 then [false, false, false, false, false, true, false, false, false, false, false, false, false, false, false, false, false, false, false, false, false, false, false, false, false, false, false, false, false, false, false, false, false, false, false, false, false, false, false, false, false, false, false, false, false, false, false, false, false, false, false, false, false, false, false, false, false, false, false, false, false, false, false, false, false, false, false, false, false, false, false, false, false, false, false, false, false, false, false, false, false, false, false, false, false, false, false, false, false, false, false, false, false, false, false, false, false, false, false, false, false, false, false, false, false, false, false, false, false, false, false, false, false, false, false, false, false, false, false, false, false, false, false, false, false, false, false, false, false, false, false, false, false] else []
  | _ => []
noncomputable def G_astar_ground__reach_3 (c b0_0 b0_1 : Int) (b0_2 b0_3 : LL) (b0_4 b7_0 b7_1 : Int) : Nat → LL → LL → Int → Int → Option (LL × LL × Int)
  | 0, _, _, _, _ => none
  | m + 1, R1, R3, x88, b5_0 =>
    bif (decide (x88 < (8 : Int))) then
      Option.bind (F_terrain_Step b0_0 b0_1 b0_2 b0_3 b0_4 b7_0 b7_1 x88) fun t =>
      bif (!t.2) then
        G_astar_ground__reach_3 c b0_0 b0_1 b0_2 b0_3 b0_4 b7_0 b7_1 m R1 R3 (wr (x88 + (1 : Int))) b5_0
      else
      Option.bind (F_grid_Step b7_0 b7_1 x88) fun t1 =>
      Option.bind (F_grid_Index b0_0 t1.1 t1.2) fun t2 =>
      bif ((decide ((0 : Int) ≤ t2)) && (decide (t2 < (Int.ofNat R1.length)))) then
        Option.bind (R1[t2.toNat]?) fun r =>
        bif (chk [(LT.int IntKind.i64)] r) then
          bif (decide ((cI r 0) < (0 : Int))) then
            Option.bind (F_astar_ground__reach_2 t1.1 t1.2 (wr (c + t.1)) R3 R1 b0_0 b0_1 b0_2 b0_3 b0_4 b5_0) fun t3 =>
            G_astar_ground__reach_3 c b0_0 b0_1 b0_2 b0_3 b0_4 b7_0 b7_1 m t3.2.1 t3.1 (wr (x88 + (1 : Int))) t3.2.2
          else
          bif (decide ((wr (c + t.1)) < (cI r 0))) then
            Option.bind (F_astar_ground__reach_2 t1.1 t1.2 (wr (c + t.1)) R3 R1 b0_0 b0_1 b0_2 b0_3 b0_4 b5_0) fun t4 =>
            G_astar_ground__reach_3 c b0_0 b0_1 b0_2 b0_3 b0_4 b7_0 b7_1 m t4.2.1 t4.1 (wr (x88 + (1 : Int))) t4.2.2
          else
          G_astar_ground__reach_3 c b0_0 b0_1 b0_2 b0_3 b0_4 b7_0 b7_1 m R1 R3 (wr (x88 + (1 : Int))) b5_0
        else
        none
      else
      none
    else
    some (R1, R3, b5_0)
noncomputable def E26_3 (R1 R3 R6 : LL) (c x88 b0_0 b0_1 : Int) (b0_2 b0_3 : LL) (b0_4 b5_0 b7_0 b7_1 : Int) : St := ⟨[.dead, .dead, (.ref 16000 1 0 0), .dead, .dead, (.ref 16000080 1 0 0), .dead, (.ref 16000112 1 0 0), (.ref 16000128 1 0 0), (.clo 48 [(.ref 16000112 1 0 0), (.ref 16000080 1 0 0), (.ref 16000 1 0 0), (.ref 16000128 1 0 0)]), (.sc (.int .i64 c)), .dead, (.ref 16000192 1 0 0), .dead, .dead, .dead, .dead, .dead, .dead, .dead, .dead, .dead, .dead, .dead, .dead, .dead, .dead, .dead, .dead, .dead, .dead, .dead, .dead, .dead, .dead, .dead, .dead, .dead, .dead, .dead, .dead, .dead, .dead, .dead, .dead, .dead, .dead, .dead, .dead, .dead, .dead, .dead, .dead, .dead, .dead, .dead, .dead, .dead, .dead, .dead, .dead, .dead, .dead, .dead, .dead, .dead, .dead, .dead, .dead, .dead, .dead, .dead, .dead, .dead, .dead, .dead, .dead, .dead, .dead, .dead, .dead, .dead, .dead, .dead, .dead, .dead, .dead, .dead, (.sc (.int .i64 x88)), .dead, .dead, .dead, .dead, .dead, .dead, .dead, .dead, .dead, .dead, .dead, .dead, .dead, .dead, .dead, .dead, .dead, .dead, .dead, .dead, .dead, .dead, .dead, .dead, .dead, .dead, .dead, .dead, .dead, .dead, .dead, .dead, .dead, .dead, .dead, .dead, .dead, .dead, .dead, .dead, .dead, .dead, .dead, .dead], [(16000, ⟨.box, 46, 5, [[(.sc (.int .i64 b0_0)), (.sc (.int .i64 b0_1)), (.ro 3 b0_2), (.ro 1 b0_3), (.sc (.int .i64 b0_4))]]⟩), (19264, ⟨.arr, 3, 1, R1⟩), (16000080, ⟨.box, 41, 1, [[(.slc 19264 (R1).length)]]⟩), (16000113, ⟨(.ns 0 27 2), 32, 1, R3⟩), (16000112, ⟨.box, 68, 1, [[(.slc 16000113 (R3).length)]]⟩), (16000128, ⟨.box, 3, 1, [[(.sc (.int .i64 b5_0))]]⟩), (999, ⟨(.dfr 47 [(.ref 16000128 1 0 0)]), 0, 0, R6⟩), (16000192, ⟨.box, 27, 2, [[(.sc (.int .i64 b7_0)), (.sc (.int .i64 b7_1))]]⟩)]⟩
noncomputable def X26_3 (R6 : LL) (c b0_0 b0_1 : Int) (b0_2 b0_3 : LL) (b0_4 : Int) (k : Ex → St → Option CR) (t : LL × LL × Int) : Option CR := k (.exit 6) ⟨[.dead, .dead, (.ref 16000 1 0 0), .dead, .dead, (.ref 16000080 1 0 0), .dead, (.ref 16000112 1 0 0), (.ref 16000128 1 0 0), (.clo 48 [(.ref 16000112 1 0 0), (.ref 16000080 1 0 0), (.ref 16000 1 0 0), (.ref 16000128 1 0 0)]), (.sc (.int .i64 c)), .dead, .dead, .dead, .dead, .dead, .dead, .dead, .dead, .dead, .dead, .dead, .dead, .dead, .dead, .dead, .dead, .dead, .dead, .dead, .dead, .dead, .dead, .dead, .dead, .dead, .dead, .dead, .dead, .dead, .dead, .dead, .dead, .dead, .dead, .dead, .dead, .dead, .dead, .dead, .dead, .dead, .dead, .dead, .dead, .dead, .dead, .dead, .dead, .dead, .dead, .dead, .dead, .dead, .dead, .dead, .dead, .dead, .dead, .dead, .dead, .dead, .dead, .dead, .dead, .dead, .dead, .dead, .dead, .dead, .dead, .dead, .dead, .dead, .dead, .dead, .dead, .dead, .dead, .dead, .dead, .dead, .dead, .dead, .dead, .dead, .dead, .dead, .dead, .dead, .dead, .dead, .dead, .dead, .dead, .dead, .dead, .dead, .dead, .dead, .dead, .dead, .dead, .dead, .dead, .dead, .dead, .dead, .dead, .dead, .dead, .dead, .dead, .dead, .dead, .dead, .dead, .dead, .dead, .dead, .dead, .dead, .dead], [(16000, ⟨.box, 46, 5, [[(.sc (.int .i64 b0_0)), (.sc (.int .i64 b0_1)), (.ro 3 b0_2), (.ro 1 b0_3), (.sc (.int .i64 b0_4))]]⟩), (19264, ⟨.arr, 3, 1, t.1⟩), (16000080, ⟨.box, 41, 1, [[(.slc 19264 (t.1).length)]]⟩), (16000113, ⟨(.ns 0 27 2), 32, 1, t.2.1⟩), (16000112, ⟨.box, 68, 1, [[(.slc 16000113 (t.2.1).length)]]⟩), (16000128, ⟨.box, 3, 1, [[(.sc (.int .i64 t.2.2))]]⟩), (999, ⟨(.dfr 47 [(.ref 16000128 1 0 0)]), 0, 0, R6⟩)]⟩
noncomputable def ks26_3 : List SK := [.f .dead, .f .dead, .f (.ref 16000 1 0 0), .f .dead, .f .dead, .f (.ref 16000080 1 0 0), .f .dead, .f (.ref 16000112 1 0 0), .f (.ref 16000128 1 0 0), .f (.cloR 48 [(16000112, 1, 0, 0), (16000080, 1, 0, 0), (16000, 1, 0, 0), (16000128, 1, 0, 0)]), .f (.int .i64), .f .dead, .f (.ref 16000192 1 0 0), .f .dead, .f .dead, .f .dead, .f .dead, .f .dead, .f .dead, .f .dead, .f .dead, .f .dead, .f .dead, .f .dead, .f .dead, .f .dead, .f .dead, .f .dead, .f .dead, .f .dead, .f .dead, .f .dead, .f .dead, .f .dead, .f .dead, .f .dead, .f .dead, .f .dead, .f .dead, .f .dead, .f .dead, .f .dead, .f .dead, .f .dead, .f .dead, .f .dead, .f .dead, .f .dead, .f .dead, .f .dead, .f .dead, .f .dead, .f .dead, .f .dead, .f .dead, .f .dead, .f .dead, .f .dead, .f .dead, .f .dead, .f .dead, .f .dead, .f .dead, .f .dead, .f .dead, .f .dead, .f .dead, .f .dead, .f .dead, .f .dead, .f .dead, .f .dead, .f .dead, .f .dead, .f .dead, .f .dead, .f .dead, .f .dead, .f .dead, .f .dead, .f .dead, .f .dead, .f .dead, .f .dead, .f .dead, .f .dead, .f .dead, .f .dead, .f (.int .i64), .f .dead, .f .dead, .f .dead, .f .dead, .f .dead, .f .dead, .f .dead, .f .dead, .f .dead, .f .dead, .f .dead, .f .dead, .f .dead, .f .dead, .f .dead, .f .dead, .f .dead, .f .dead, .f .dead, .f .dead, .f .dead, .f .dead, .f .dead, .f .dead, .f .dead, .f .dead, .f .dead, .f .dead, .f .dead, .f .dead, .f .dead, .f .dead, .f .dead, .f .dead, .f .dead, .f .dead, .f .dead, .f .dead, .f .dead, .f .dead, .f .dead, .f .dead, .f .dead, .f .dead]
noncomputable def hs26_3 : List HK := [⟨16000, .box, 46, 5, some [.int .i64, .int .i64, .ro 3, .ro 1, .int .i64]⟩, ⟨19264, .arr, 3, 1, none⟩, ⟨16000080, .box, 41, 1, some [.slc 19264 1]⟩, ⟨16000113, (.ns 0 27 2), 32, 1, none⟩, ⟨16000112, .box, 68, 1, some [.slc 16000113 3]⟩, ⟨16000128, .box, 3, 1, some [.int .i64]⟩, ⟨999, (.dfr 47 [(.ref 16000128 1 0 0)]), 0, 0, none⟩, ⟨16000192, .box, 27, 2, some [.int .i64, .int .i64]⟩]
noncomputable def Lm26_3 (s : St) (k : Ex → St → Option CR) : Option CR := bif chkS ks26_3 hs26_3 s then (G_astar_ground__reach_3 (toI (cIa s.tmps 10)) (toI (cIa (rows0 (blkAt s.heap 0).2) 0)) (toI (cIa (rows0 (blkAt s.heap 0).2) 1)) (roRows (cIa (rows0 (blkAt s.heap 0).2) 2)) (roRows (cIa (rows0 (blkAt s.heap 0).2) 3)) (toI (cIa (rows0 (blkAt s.heap 0).2) 4)) (toI (cIa (rows0 (blkAt s.heap 7).2) 0)) (toI (cIa (rows0 (blkAt s.heap 7).2) 1)) FU (blkAt s.heap 1).2.rows (blkAt s.heap 3).2.rows (toI (cIa s.tmps 88)) (toI (cIa (rows0 (blkAt s.heap 5).2) 0))).bind (X26_3 (blkAt s.heap 6).2.rows (toI (cIa s.tmps 10)) (toI (cIa (rows0 (blkAt s.heap 0).2) 0)) (toI (cIa (rows0 (blkAt s.heap 0).2) 1)) (roRows (cIa (rows0 (blkAt s.heap 0).2) 2)) (roRows (cIa (rows0 (blkAt s.heap 0).2) 3)) (toI (cIa (rows0 (blkAt s.heap 0).2) 4)) k) else none
noncomputable def L26_3 (s : St) (k : Ex → St → Option CR) : Option CR := Lm26_3 (maskS (maskOf ks26_3) s) k
noncomputable def G_astar_ground__reach_2 (c b0_0 b0_1 : Int) (b0_2 b0_3 : LL) (b0_4 : Int) : Nat → LL → LL → Int → Option (LL × LL × Int)
  | 0, _, _, _ => none
  | m + 1, R1, R3, b5_0 =>
    bif ((decide ((0 : Int) ≤ c)) && (decide (c < (Int.ofNat R3.length)))) then
      Option.bind (R3[c.toNat]?) fun r =>
      bif (chk [(LT.sl 27 2)] r) then
        bif (decide ((Int.ofNat (cR r 0).length) > (0 : Int))) then
          Option.bind (R3[c.toNat]?) fun r1 =>
          bif (chk [(LT.sl 27 2)] r1) then
            Option.bind (R3[c.toNat]?) fun r2 =>
            bif (chk [(LT.sl 27 2)] r2) then
              bif ((decide ((0 : Int) ≤ (wr ((Int.ofNat (cR r1 0).length) - (1 : Int))))) && (decide ((wr ((Int.ofNat (cR r1 0).length) - (1 : Int))) < (Int.ofNat (cR r2 0).length)))) then
                Option.bind (R3[c.toNat]?) fun r3 =>
                bif (chk [(LT.sl 27 2)] r3) then
                  Option.bind ((cR r3 0)[(wr ((Int.ofNat (cR r1 0).length) - (1 : Int))).toNat]?) fun r4 =>
                  bif (chk [(LT.int IntKind.i64), (LT.int IntKind.i64)] r4) then
                    Option.bind (R3[c.toNat]?) fun r5 =>
                    bif (chk [(LT.sl 27 2)] r5) then
                      bif (decide ((wr ((Int.ofNat (cR r1 0).length) - (1 : Int))) ≤ (Int.ofNat (cR r5 0).length))) then
                        bif (decide (c < (Int.ofNat (Blk.rows (Blk.mk (BKind.ns 1 27 2) 32 1 (List.set R3 c.toNat [(AVal.ro 2 (List.drop (0 : Int).toNat (List.take (wr ((Int.ofNat (cR r1 0).length) - (1 : Int))).toNat (cR r5 0))))]))).length))) then
                          bif (Nat.beq c.toNat c.toNat) then
                            Option.bind (F_grid_Index b0_0 (cI r4 0) (cI r4 1)) fun t =>
                            bif ((decide ((0 : Int) ≤ t)) && (decide (t < (Int.ofNat R1.length)))) then
                              Option.bind (R1[t.toNat]?) fun r6 =>
                              bif (chk [(LT.int IntKind.i64)] r6) then
                                bif ((cI r6 0) != c) then
                                  G_astar_ground__reach_2 c b0_0 b0_1 b0_2 b0_3 b0_4 m R1 (Blk.rows (Blk.mk (BKind.ns 0 27 2) 32 1 (Blk.rows (Blk.mk (BKind.ns 0 27 2) 32 1 (Blk.rows (Blk.mk (BKind.ns 2 27 2) 32 1 (Blk.rows (Blk.mk (BKind.ns 1 27 2) 32 1 (List.set R3 c.toNat [(AVal.ro 2 (List.drop (0 : Int).toNat (List.take (wr ((Int.ofNat (cR r1 0).length) - (1 : Int))).toNat (cR r5 0))))]))))))))) (wr (b5_0 - (1 : Int)))
                                else
                                Option.bind (G_astar_ground__reach_3 c b0_0 b0_1 b0_2 b0_3 b0_4 (cI r4 0) (cI r4 1) FU R1 (Blk.rows (Blk.mk (BKind.ns 0 27 2) 32 1 (Blk.rows (Blk.mk (BKind.ns 0 27 2) 32 1 (Blk.rows (Blk.mk (BKind.ns 0 27 2) 32 1 (Blk.rows (Blk.mk (BKind.ns 0 27 2) 32 1 (Blk.rows (Blk.mk (BKind.ns 2 27 2) 32 1 (Blk.rows (Blk.mk (BKind.ns 1 27 2) 32 1 (List.set R3 c.toNat [(AVal.ro 2 (List.drop (0 : Int).toNat (List.take (wr ((Int.ofNat (cR r1 0).length) - (1 : Int))).toNat (cR r5 0))))]))))))))))))) (0 : Int) (wr (b5_0 - (1 : Int)))) fun t1 =>
                                G_astar_ground__reach_2 c b0_0 b0_1 b0_2 b0_3 b0_4 m t1.1 t1.2.1 t1.2.2
                              else
                              none
                            else
                            none
                          else
                          none
                        else
                        none
                      else
                      none
                    else
                    none
                  else
                  none
                else
                none
              else
              none
            else
            none
          else
          none
        else
        some (R1, R3, b5_0)
      else
      none
    else
    none
noncomputable def E26_2 (R1 R3 R6 : LL) (c b0_0 b0_1 : Int) (b0_2 b0_3 : LL) (b0_4 b5_0 : Int) : St := ⟨[.dead, .dead, (.ref 16000 1 0 0), .dead, .dead, (.ref 16000080 1 0 0), .dead, (.ref 16000112 1 0 0), (.ref 16000128 1 0 0), (.clo 48 [(.ref 16000112 1 0 0), (.ref 16000080 1 0 0), (.ref 16000 1 0 0), (.ref 16000128 1 0 0)]), (.sc (.int .i64 c)), .dead, .dead, .dead, .dead, .dead, .dead, .dead, .dead, .dead, .dead, .dead, .dead, .dead, .dead, .dead, .dead, .dead, .dead, .dead, .dead, .dead, .dead, .dead, .dead, .dead, .dead, .dead, .dead, .dead, .dead, .dead, .dead, .dead, .dead, .dead, .dead, .dead, .dead, .dead, .dead, .dead, .dead, .dead, .dead, .dead, .dead, .dead, .dead, .dead, .dead, .dead, .dead, .dead, .dead, .dead, .dead, .dead, .dead, .dead, .dead, .dead, .dead, .dead, .dead, .dead, .dead, .dead, .dead, .dead, .dead, .dead, .dead, .dead, .dead, .dead, .dead, .dead, .dead, .dead, .dead, .dead, .dead, .dead, .dead, .dead, .dead, .dead, .dead, .dead, .dead, .dead, .dead, .dead, .dead, .dead, .dead, .dead, .dead, .dead, .dead, .dead, .dead, .dead, .dead, .dead, .dead, .dead, .dead, .dead, .dead, .dead, .dead, .dead, .dead, .dead, .dead, .dead, .dead, .dead, .dead, .dead, .dead], [(16000, ⟨.box, 46, 5, [[(.sc (.int .i64 b0_0)), (.sc (.int .i64 b0_1)), (.ro 3 b0_2), (.ro 1 b0_3), (.sc (.int .i64 b0_4))]]⟩), (19264, ⟨.arr, 3, 1, R1⟩), (16000080, ⟨.box, 41, 1, [[(.slc 19264 (R1).length)]]⟩), (16000113, ⟨(.ns 0 27 2), 32, 1, R3⟩), (16000112, ⟨.box, 68, 1, [[(.slc 16000113 (R3).length)]]⟩), (16000128, ⟨.box, 3, 1, [[(.sc (.int .i64 b5_0))]]⟩), (999, ⟨(.dfr 47 [(.ref 16000128 1 0 0)]), 0, 0, R6⟩)]⟩
noncomputable def X26_2 (R6 : LL) (c b0_0 b0_1 : Int) (b0_2 b0_3 : LL) (b0_4 : Int) (k : Ex → St → Option CR) (t : LL × LL × Int) : Option CR := k (.exit 4) ⟨[.dead, .dead, (.ref 16000 1 0 0), .dead, .dead, (.ref 16000080 1 0 0), .dead, (.ref 16000112 1 0 0), (.ref 16000128 1 0 0), (.clo 48 [(.ref 16000112 1 0 0), (.ref 16000080 1 0 0), (.ref 16000 1 0 0), (.ref 16000128 1 0 0)]), (.sc (.int .i64 c)), .dead, .dead, .dead, .dead, .dead, .dead, .dead, .dead, .dead, .dead, .dead, .dead, .dead, .dead, .dead, .dead, .dead, .dead, .dead, .dead, .dead, .dead, .dead, .dead, .dead, .dead, .dead, .dead, .dead, .dead, .dead, .dead, .dead, .dead, .dead, .dead, .dead, .dead, .dead, .dead, .dead, .dead, .dead, .dead, .dead, .dead, .dead, .dead, .dead, .dead, .dead, .dead, .dead, .dead, .dead, .dead, .dead, .dead, .dead, .dead, .dead, .dead, .dead, .dead, .dead, .dead, .dead, .dead, .dead, .dead, .dead, .dead, .dead, .dead, .dead, .dead, .dead, .dead, .dead, .dead, .dead, .dead, .dead, .dead, .dead, .dead, .dead, .dead, .dead, .dead, .dead, .dead, .dead, .dead, .dead, .dead, .dead, .dead, .dead, .dead, .dead, .dead, .dead, .dead, .dead, .dead, .dead, .dead, .dead, .dead, .dead, .dead, .dead, .dead, .dead, .dead, .dead, .dead, .dead, .dead, .dead, .dead], [(16000, ⟨.box, 46, 5, [[(.sc (.int .i64 b0_0)), (.sc (.int .i64 b0_1)), (.ro 3 b0_2), (.ro 1 b0_3), (.sc (.int .i64 b0_4))]]⟩), (19264, ⟨.arr, 3, 1, t.1⟩), (16000080, ⟨.box, 41, 1, [[(.slc 19264 (t.1).length)]]⟩), (16000113, ⟨(.ns 0 27 2), 32, 1, t.2.1⟩), (16000112, ⟨.box, 68, 1, [[(.slc 16000113 (t.2.1).length)]]⟩), (16000128, ⟨.box, 3, 1, [[(.sc (.int .i64 t.2.2))]]⟩), (999, ⟨(.dfr 47 [(.ref 16000128 1 0 0)]), 0, 0, R6⟩)]⟩
noncomputable def ks26_2 : List SK := [.f .dead, .f .dead, .f (.ref 16000 1 0 0), .f .dead, .f .dead, .f (.ref 16000080 1 0 0), .f .dead, .f (.ref 16000112 1 0 0), .f (.ref 16000128 1 0 0), .f (.cloR 48 [(16000112, 1, 0, 0), (16000080, 1, 0, 0), (16000, 1, 0, 0), (16000128, 1, 0, 0)]), .f (.int .i64), .f .dead, .f .dead, .f .dead, .f .dead, .f .dead, .f .dead, .f .dead, .f .dead, .f .dead, .f .dead, .f .dead, .f .dead, .f .dead, .f .dead, .f .dead, .f .dead, .f .dead, .f .dead, .f .dead, .f .dead, .f .dead, .f .dead, .f .dead, .f .dead, .f .dead, .f .dead, .f .dead, .f .dead, .f .dead, .f .dead, .f .dead, .f .dead, .f .dead, .f .dead, .f .dead, .f .dead, .f .dead, .f .dead, .f .dead, .f .dead, .f .dead, .f .dead, .f .dead, .f .dead, .f .dead, .f .dead, .f .dead, .f .dead, .f .dead, .f .dead, .f .dead, .f .dead, .f .dead, .f .dead, .f .dead, .f .dead, .f .dead, .f .dead, .f .dead, .f .dead, .f .dead, .f .dead, .f .dead, .f .dead, .f .dead, .f .dead, .f .dead, .f .dead, .f .dead, .f .dead, .f .dead, .f .dead, .f .dead, .f .dead, .f .dead, .f .dead, .f .dead, .f .dead, .f .dead, .f .dead, .f .dead, .f .dead, .f .dead, .f .dead, .f .dead, .f .dead, .f .dead, .f .dead, .f .dead, .f .dead, .f .dead, .f .dead, .f .dead, .f .dead, .f .dead, .f .dead, .f .dead, .f .dead, .f .dead, .f .dead, .f .dead, .f .dead, .f .dead, .f .dead, .f .dead, .f .dead, .f .dead, .f .dead, .f .dead, .f .dead, .f .dead, .f .dead, .f .dead, .f .dead, .f .dead, .f .dead, .f .dead, .f .dead, .f .dead, .f .dead, .f .dead, .f .dead]
noncomputable def hs26_2 : List HK := [⟨16000, .box, 46, 5, some [.int .i64, .int .i64, .ro 3, .ro 1, .int .i64]⟩, ⟨19264, .arr, 3, 1, none⟩, ⟨16000080, .box, 41, 1, some [.slc 19264 1]⟩, ⟨16000113, (.ns 0 27 2), 32, 1, none⟩, ⟨16000112, .box, 68, 1, some [.slc 16000113 3]⟩, ⟨16000128, .box, 3, 1, some [.int .i64]⟩, ⟨999, (.dfr 47 [(.ref 16000128 1 0 0)]), 0, 0, none⟩]
noncomputable def Lm26_2 (s : St) (k : Ex → St → Option CR) : Option CR := bif chkS ks26_2 hs26_2 s then (G_astar_ground__reach_2 (toI (cIa s.tmps 10)) (toI (cIa (rows0 (blkAt s.heap 0).2) 0)) (toI (cIa (rows0 (blkAt s.heap 0).2) 1)) (roRows (cIa (rows0 (blkAt s.heap 0).2) 2)) (roRows (cIa (rows0 (blkAt s.heap 0).2) 3)) (toI (cIa (rows0 (blkAt s.heap 0).2) 4)) FU (blkAt s.heap 1).2.rows (blkAt s.heap 3).2.rows (toI (cIa (rows0 (blkAt s.heap 5).2) 0))).bind (X26_2 (blkAt s.heap 6).2.rows (toI (cIa s.tmps 10)) (toI (cIa (rows0 (blkAt s.heap 0).2) 0)) (toI (cIa (rows0 (blkAt s.heap 0).2) 1)) (roRows (cIa (rows0 (blkAt s.heap 0).2) 2)) (roRows (cIa (rows0 (blkAt s.heap 0).2) 3)) (toI (cIa (rows0 (blkAt s.heap 0).2) 4)) k) else none
noncomputable def L26_2 (s : St) (k : Ex → St → Option CR) : Option CR := Lm26_2 (maskS (maskOf ks26_2) s) k
noncomputable def G_astar_ground__reach_1 (b0_0 b0_1 : Int) (b0_2 b0_3 : LL) (b0_4 : Int) : Nat → LL → LL → Int → Int → Option (LL × LL × Int)
  | 0, _, _, _, _ => none
  | m + 1, R1, R3, c, b5_0 =>
    bif (decide (c < (Int.ofNat R3.length))) then
      Option.bind (G_astar_ground__reach_2 c b0_0 b0_1 b0_2 b0_3 b0_4 FU R1 R3 b5_0) fun t =>
      G_astar_ground__reach_1 b0_0 b0_1 b0_2 b0_3 b0_4 m t.1 t.2.1 (wr (c + (1 : Int))) t.2.2
    else
    some (R1, R3, b5_0)
noncomputable def E26_1 (R1 R3 R6 : LL) (c b0_0 b0_1 : Int) (b0_2 b0_3 : LL) (b0_4 b5_0 : Int) : St := ⟨[.dead, .dead, (.ref 16000 1 0 0), .dead, .dead, (.ref 16000080 1 0 0), .dead, (.ref 16000112 1 0 0), (.ref 16000128 1 0 0), (.clo 48 [(.ref 16000112 1 0 0), (.ref 16000080 1 0 0), (.ref 16000 1 0 0), (.ref 16000128 1 0 0)]), (.sc (.int .i64 c)), .dead, .dead, .dead, .dead, .dead, .dead, .dead, .dead, .dead, .dead, .dead, .dead, .dead, .dead, .dead, .dead, .dead, .dead, .dead, .dead, .dead, .dead, .dead, .dead, .dead, .dead, .dead, .dead, .dead, .dead, .dead, .dead, .dead, .dead, .dead, .dead, .dead, .dead, .dead, .dead, .dead, .dead, .dead, .dead, .dead, .dead, .dead, .dead, .dead, .dead, .dead, .dead, .dead, .dead, .dead, .dead, .dead, .dead, .dead, .dead, .dead, .dead, .dead, .dead, .dead, .dead, .dead, .dead, .dead, .dead, .dead, .dead, .dead, .dead, .dead, .dead, .dead, .dead, .dead, .dead, .dead, .dead, .dead, .dead, .dead, .dead, .dead, .dead, .dead, .dead, .dead, .dead, .dead, .dead, .dead, .dead, .dead, .dead, .dead, .dead, .dead, .dead, .dead, .dead, .dead, .dead, .dead, .dead, .dead, .dead, .dead, .dead, .dead, .dead, .dead, .dead, .dead, .dead, .dead, .dead, .dead, .dead], [(16000, ⟨.box, 46, 5, [[(.sc (.int .i64 b0_0)), (.sc (.int .i64 b0_1)), (.ro 3 b0_2), (.ro 1 b0_3), (.sc (.int .i64 b0_4))]]⟩), (19264, ⟨.arr, 3, 1, R1⟩), (16000080, ⟨.box, 41, 1, [[(.slc 19264 (R1).length)]]⟩), (16000113, ⟨(.ns 0 27 2), 32, 1, R3⟩), (16000112, ⟨.box, 68, 1, [[(.slc 16000113 (R3).length)]]⟩), (16000128, ⟨.box, 3, 1, [[(.sc (.int .i64 b5_0))]]⟩), (999, ⟨(.dfr 47 [(.ref 16000128 1 0 0)]), 0, 0, R6⟩)]⟩
noncomputable def X26_1 (R6 : LL) (b0_0 b0_1 : Int) (b0_2 b0_3 : LL) (b0_4 : Int) (k : Ex → St → Option CR) (t : LL × LL × Int) : Option CR := k (.exit 2) ⟨[.dead, .dead, .dead, .dead, .dead, (.ref 16000080 1 0 0), .dead, .dead, .dead, .dead, .dead, .dead, .dead, .dead, .dead, .dead, .dead, .dead, .dead, .dead, .dead, .dead, .dead, .dead, .dead, .dead, .dead, .dead, .dead, .dead, .dead, .dead, .dead, .dead, .dead, .dead, .dead, .dead, .dead, .dead, .dead, .dead, .dead, .dead, .dead, .dead, .dead, .dead, .dead, .dead, .dead, .dead, .dead, .dead, .dead, .dead, .dead, .dead, .dead, .dead, .dead, .dead, .dead, .dead, .dead, .dead, .dead, .dead, .dead, .dead, .dead, .dead, .dead, .dead, .dead, .dead, .dead, .dead, .dead, .dead, .dead, .dead, .dead, .dead, .dead, .dead, .dead, .dead, .dead, .dead, .dead, .dead, .dead, .dead, .dead, .dead, .dead, .dead, .dead, .dead, .dead, .dead, .dead, .dead, .dead, .dead, .dead, .dead, .dead, .dead, .dead, .dead, .dead, .dead, .dead, .dead, .dead, .dead, .dead, .dead, .dead, .dead, .dead, .dead, .dead, .dead, .dead, .dead, .dead, .dead, .dead, .dead, .dead], [(16000, ⟨.box, 46, 5, [[(.sc (.int .i64 b0_0)), (.sc (.int .i64 b0_1)), (.ro 3 b0_2), (.ro 1 b0_3), (.sc (.int .i64 b0_4))]]⟩), (19264, ⟨.arr, 3, 1, t.1⟩), (16000080, ⟨.box, 41, 1, [[(.slc 19264 (t.1).length)]]⟩), (16000113, ⟨(.ns 0 27 2), 32, 1, t.2.1⟩), (16000112, ⟨.box, 68, 1, [[(.slc 16000113 (t.2.1).length)]]⟩), (16000128, ⟨.box, 3, 1, [[(.sc (.int .i64 t.2.2))]]⟩), (999, ⟨(.dfr 47 [(.ref 16000128 1 0 0)]), 0, 0, R6⟩)]⟩
noncomputable def ks26_1 : List SK := [.f .dead, .f .dead, .f (.ref 16000 1 0 0), .f .dead, .f .dead, .f (.ref 16000080 1 0 0), .f .dead, .f (.ref 16000112 1 0 0), .f (.ref 16000128 1 0 0), .f (.cloR 48 [(16000112, 1, 0, 0), (16000080, 1, 0, 0), (16000, 1, 0, 0), (16000128, 1, 0, 0)]), .f (.int .i64), .f .dead, .f .dead, .f .dead, .f .dead, .f .dead, .f .dead, .f .dead, .f .dead, .f .dead, .f .dead, .f .dead, .f .dead, .f .dead, .f .dead, .f .dead, .f .dead, .f .dead, .f .dead, .f .dead, .f .dead, .f .dead, .f .dead, .f .dead, .f .dead, .f .dead, .f .dead, .f .dead, .f .dead, .f .dead, .f .dead, .f .dead, .f .dead, .f .dead, .f .dead, .f .dead, .f .dead, .f .dead, .f .dead, .f .dead, .f .dead, .f .dead, .f .dead, .f .dead, .f .dead, .f .dead, .f .dead, .f .dead, .f .dead, .f .dead, .f .dead, .f .dead, .f .dead, .f .dead, .f .dead, .f .dead, .f .dead, .f .dead, .f .dead, .f .dead, .f .dead, .f .dead, .f .dead, .f .dead, .f .dead, .f .dead, .f .dead, .f .dead, .f .dead, .f .dead, .f .dead, .f .dead, .f .dead, .f .dead, .f .dead, .f .dead, .f .dead, .f .dead, .f .dead, .f .dead, .f .dead, .f .dead, .f .dead, .f .dead, .f .dead, .f .dead, .f .dead, .f .dead, .f .dead, .f .dead, .f .dead, .f .dead, .f .dead, .f .dead, .f .dead, .f .dead, .f .dead, .f .dead, .f .dead, .f .dead, .f .dead, .f .dead, .f .dead, .f .dead, .f .dead, .f .dead, .f .dead, .f .dead, .f .dead, .f .dead, .f .dead, .f .dead, .f .dead, .f .dead, .f .dead, .f .dead, .f .dead, .f .dead, .f .dead, .f .dead, .f .dead, .f .dead, .f .dead]
noncomputable def hs26_1 : List HK := [⟨16000, .box, 46, 5, some [.int .i64, .int .i64, .ro 3, .ro 1, .int .i64]⟩, ⟨19264, .arr, 3, 1, none⟩, ⟨16000080, .box, 41, 1, some [.slc 19264 1]⟩, ⟨16000113, (.ns 0 27 2), 32, 1, none⟩, ⟨16000112, .box, 68, 1, some [.slc 16000113 3]⟩, ⟨16000128, .box, 3, 1, some [.int .i64]⟩, ⟨999, (.dfr 47 [(.ref 16000128 1 0 0)]), 0, 0, none⟩]
noncomputable def Lm26_1 (s : St) (k : Ex → St → Option CR) : Option CR := bif chkS ks26_1 hs26_1 s then (G_astar_ground__reach_1 (toI (cIa (rows0 (blkAt s.heap 0).2) 0)) (toI (cIa (rows0 (blkAt s.heap 0).2) 1)) (roRows (cIa (rows0 (blkAt s.heap 0).2) 2)) (roRows (cIa (rows0 (blkAt s.heap 0).2) 3)) (toI (cIa (rows0 (blkAt s.heap 0).2) 4)) FU (blkAt s.heap 1).2.rows (blkAt s.heap 3).2.rows (toI (cIa s.tmps 10)) (toI (cIa (rows0 (blkAt s.heap 5).2) 0))).bind (X26_1 (blkAt s.heap 6).2.rows (toI (cIa (rows0 (blkAt s.heap 0).2) 0)) (toI (cIa (rows0 (blkAt s.heap 0).2) 1)) (roRows (cIa (rows0 (blkAt s.heap 0).2) 2)) (roRows (cIa (rows0 (blkAt s.heap 0).2) 3)) (toI (cIa (rows0 (blkAt s.heap 0).2) 4)) k) else none
noncomputable def L26_1 (s : St) (k : Ex → St → Option CR) : Option CR := Lm26_1 (maskS (maskOf ks26_1) s) k
noncomputable def L26 : LT' := fun i s k => bif Nat.beq i 0 then L26_0 s k else bif Nat.beq i 2 then L26_1 s k else bif Nat.beq i 4 then L26_2 s k else bif Nat.beq i 6 then L26_3 s k else none
noncomputable def F_astar_ground__reach (g_m_W g_m_H : Int) (g_m_Cells g_blocked : LL) (g_class from__X from__Y : Int) : Option (LL) :=
  bif ((((decide ((Int.ofNat g_m_Cells.length) = (Int.ofNat g_m_Cells.length))) && (decide ((0 : Int) ≤ (Int.ofNat g_m_Cells.length)))) && (decide ((Int.ofNat g_m_Cells.length) ≤ (9223372036854775807 : Int)))) && (decide (((8 : Int) * (Int.ofNat g_m_Cells.length)) ≤ (140737488355328 : Int)))) then
    Option.bind (G_astar_ground__reach_0 (Int.ofNat (Blk.rows (Blk.mk BKind.arr 3 1 (List.replicate (Int.ofNat g_m_Cells.length).toNat [(i64 (0 : Int))]))).length) FU (Blk.rows (Blk.mk BKind.arr 3 1 (List.replicate (Int.ofNat g_m_Cells.length).toNat [(i64 (0 : Int))]))) (0 : Int)) fun t =>
    Option.bind (F_astar_ground__free g_m_W g_m_H g_m_Cells g_blocked g_class from__X from__Y) fun t1 =>
    bif (!t1) then
      some t
    else
    Option.bind (F_astar_ground__reach_2 from__X from__Y (0 : Int) [] t g_m_W g_m_H g_m_Cells g_blocked g_class (0 : Int)) fun t2 =>
    Option.bind (G_astar_ground__reach_1 g_m_W g_m_H g_m_Cells g_blocked g_class FU t2.2.1 t2.1 (0 : Int) t2.2.2) fun t3 =>
    Option.bind (F_astar_ground__reach_1 t3.2.2) fun t4 =>
    some t3.1
  else
  none
noncomputable def enc26 (t : LL) : CR := ⟨true, (.slc 0 (t).length), [], [⟨.arr, 3, 1, t⟩]⟩
noncomputable def ks26 : List SK := [.agg [.int .i64, .int .i64, .ro 3, .ro 1, .int .i64], .agg [.int .i64, .int .i64]]
noncomputable def S26 (us : List AVal) : Call := bif chkA ks26 us then Call.of (F_astar_ground__reach (toI (cIa (aggL (cIa us 0)) 0)) (toI (cIa (aggL (cIa us 0)) 1)) (roRows (cIa (aggL (cIa us 0)) 2)) (roRows (cIa (aggL (cIa us 0)) 3)) (toI (cIa (aggL (cIa us 0)) 4)) (toI (cIa (aggL (cIa us 1)) 0)) (toI (cIa (aggL (cIa us 1)) 1))) enc26 else Call.none
noncomputable def C26 := AI.ext 26 S26 C29
@[reducible] noncomputable def B26_0 := bodyOf TT TU GL0 C29 ownE L26 (lp Tryd.f26 0)
@[reducible] noncomputable def K26_0 (k : Ex → St → Option CR) : Ex → St → Option CR := fun e s => k e (maskS (W26_0 e) s)
theorem spec26_0 (k : Ex → St → Option CR) : ∀ (m : Nat) (R2 : LL) (x24 x25 b0_0 b0_1 : Int) (b0_2 b0_3 : LL) (b0_4 b1_0 b1_1 : Int), loopN B26_0 m (E26_0 R2 x24 x25 b0_0 b0_1 b0_2 b0_3 b0_4 b1_0 b1_1) (K26_0 k) = (G_astar_ground__reach_0 x24 m R2 x25).bind (X26_0 b0_0 b0_1 b0_2 b0_3 b0_4 b1_0 b1_1 k)
  | 0, _, _, _, _, _, _, _, _, _, _ => rfl
  | m + 1, R2, x24, x25, b0_0, b0_1, b0_2, b0_3, b0_4, b1_0, b1_1 =>
    Eq.trans (b := (bif (decide (x25 < x24)) then (bif (((verEq R2.length R2.length) && (decide ((0 : Int) ≤ x25))) && (decide (x25 < (Int.ofNat R2.length)))) then (bif ((((verEq R2.length R2.length) && true) && true) && true) then (loopN B26_0 m ⟨[.dead, .dead, (AVal.ref 16000 1 0 0), (AVal.ref 16016 1 0 0), .dead, (AVal.ref 16000080 1 0 0), .dead, .dead, .dead, .dead, .dead, .dead, .dead, .dead, .dead, .dead, .dead, .dead, .dead, .dead, .dead, .dead, .dead, .dead, (i64 x24), (i64 (wr (x25 + (1 : Int)))), .dead, .dead, .dead, .dead, .dead, .dead, .dead, .dead, .dead, .dead, .dead, .dead, .dead, .dead, .dead, .dead, .dead, .dead, .dead, .dead, .dead, .dead, .dead, .dead, .dead, .dead, .dead, .dead, .dead, .dead, .dead, .dead, .dead, .dead, .dead, .dead, .dead, .dead, .dead, .dead, .dead, .dead, .dead, .dead, .dead, .dead, .dead, .dead, .dead, .dead, .dead, .dead, .dead, .dead, .dead, .dead, .dead, .dead, .dead, .dead, .dead, .dead, .dead, .dead, .dead, .dead, .dead, .dead, .dead, .dead, .dead, .dead, .dead, .dead, .dead, .dead, .dead, .dead, .dead, .dead, .dead, .dead, .dead, .dead, .dead, .dead, .dead, .dead, .dead, .dead, .dead, .dead, .dead, .dead, .dead, .dead, .dead, .dead, .dead, .dead, .dead, .dead, .dead, .dead, .dead, .dead, .dead], [(Prod.mk 16000 (Blk.mk BKind.box 46 5 [[(i64 b0_0), (i64 b0_1), (AVal.ro 3 b0_2), (AVal.ro 1 b0_3), (i64 b0_4)]])), (Prod.mk 16016 (Blk.mk BKind.box 27 2 [[(i64 b1_0), (i64 b1_1)]])), (Prod.mk 19264 (Blk.mk BKind.arr 3 1 (List.set R2 x25.toNat [(i64 (-(1 : Int)))]))), (Prod.mk 16000080 (Blk.mk BKind.box 41 1 [[(AVal.slc 19264 R2.length)]]))]⟩ (K26_0 k)) else none) else none) else (k (.exit 0) ⟨[.dead, .dead, (AVal.ref 16000 1 0 0), (AVal.ref 16016 1 0 0), .dead, (AVal.ref 16000080 1 0 0), .dead, .dead, .dead, .dead, .dead, .dead, .dead, .dead, .dead, .dead, .dead, .dead, .dead, .dead, .dead, .dead, .dead, .dead, .dead, .dead, .dead, .dead, .dead, .dead, .dead, .dead, .dead, .dead, .dead, .dead, .dead, .dead, .dead, .dead, .dead, .dead, .dead, .dead, .dead, .dead, .dead, .dead, .dead, .dead, .dead, .dead, .dead, .dead, .dead, .dead, .dead, .dead, .dead, .dead, .dead, .dead, .dead, .dead, .dead, .dead, .dead, .dead, .dead, .dead, .dead, .dead, .dead, .dead, .dead, .dead, .dead, .dead, .dead, .dead, .dead, .dead, .dead, .dead, .dead, .dead, .dead, .dead, .dead, .dead, .dead, .dead, .dead, .dead, .dead, .dead, .dead, .dead, .dead, .dead, .dead, .dead, .dead, .dead, .dead, .dead, .dead, .dead, .dead, .dead, .dead, .dead, .dead, .dead, .dead, .dead, .dead, .dead, .dead, .dead, .dead, .dead, .dead, .dead, .dead, .dead, .dead, .dead, .dead, .dead, .dead, .dead, .dead], [(Prod.mk 16000 (Blk.mk BKind.box 46 5 [[(i64 b0_0), (i64 b0_1), (AVal.ro 3 b0_2), (AVal.ro 1 b0_3), (i64 b0_4)]])), (Prod.mk 16016 (Blk.mk BKind.box 27 2 [[(i64 b1_0), (i64 b1_1)]])), (Prod.mk 19264 (Blk.mk BKind.arr 3 1 R2)), (Prod.mk 16000080 (Blk.mk BKind.box 41 1 [[(AVal.slc 19264 R2.length)]]))]⟩))) (by kernel_rfl)
      (n_condH rfl (fun h0 => (n_condH (n_and (n_andL (verEq_rfl _) rfl) rfl) (fun h1 => (n_true (n_andL (n_andL (n_andL (verEq_rfl _) rfl) rfl) rfl) ((congrArg (fun z => loopN B26_0 m z (K26_0 k)) (by simp [E26_0] : _ = E26_0 (List.set R2 x25.toNat [(i64 (-(1 : Int)))]) x24 (wr (x25 + (1 : Int))) b0_0 b0_1 b0_2 b0_3 b0_4 b1_0 b1_1)).trans (spec26_0 k m (List.set R2 x25.toNat [(i64 (-(1 : Int)))]) x24 (wr (x25 + (1 : Int))) b0_0 b0_1 b0_2 b0_3 b0_4 b1_0 b1_1)))) fun h1 => n_none)) fun h0 => rfl)
theorem okL26_0 : LoopOk TT TU GL0 C29 ownE L26 (lp Tryd.f26 0) :=
  loopOk_of ks26_0 hs26_0 W26_0 FU (fun s k => (G_astar_ground__reach_0 (toI (cIa s.tmps 24)) FU (blkAt s.heap 2).2.rows (toI (cIa s.tmps 25))).bind (X26_0 (toI (cIa (rows0 (blkAt s.heap 0).2) 0)) (toI (cIa (rows0 (blkAt s.heap 0).2) 1)) (roRows (cIa (rows0 (blkAt s.heap 0).2) 2)) (roRows (cIa (rows0 (blkAt s.heap 0).2) 3)) (toI (cIa (rows0 (blkAt s.heap 0).2) 4)) (toI (cIa (rows0 (blkAt s.heap 1).2) 0)) (toI (cIa (rows0 (blkAt s.heap 1).2) 1)) k)) (fun s k => by kernel_rfl) (fun s k => spec26_0 k FU (blkAt s.heap 2).2.rows (toI (cIa s.tmps 24)) (toI (cIa s.tmps 25)) (toI (cIa (rows0 (blkAt s.heap 0).2) 0)) (toI (cIa (rows0 (blkAt s.heap 0).2) 1)) (roRows (cIa (rows0 (blkAt s.heap 0).2) 2)) (roRows (cIa (rows0 (blkAt s.heap 0).2) 3)) (toI (cIa (rows0 (blkAt s.heap 0).2) 4)) (toI (cIa (rows0 (blkAt s.heap 1).2) 0)) (toI (cIa (rows0 (blkAt s.heap 1).2) 1)))
@[reducible] noncomputable def B26_3 := bodyOf TT TU GL0 C29 ownE L26 (lp Tryd.f26 3)
@[reducible] noncomputable def K26_3 (k : Ex → St → Option CR) : Ex → St → Option CR := fun e s => k e (maskS (W26_3 e) s)
theorem spec26_3 (k : Ex → St → Option CR) : ∀ (m : Nat) (R1 R3 R6 : LL) (c x88 b0_0 b0_1 : Int) (b0_2 b0_3 : LL) (b0_4 b5_0 b7_0 b7_1 : Int), loopN B26_3 m (E26_3 R1 R3 R6 c x88 b0_0 b0_1 b0_2 b0_3 b0_4 b5_0 b7_0 b7_1) (K26_3 k) = (G_astar_ground__reach_3 c b0_0 b0_1 b0_2 b0_3 b0_4 b7_0 b7_1 m R1 R3 x88 b5_0).bind (X26_3 R6 c b0_0 b0_1 b0_2 b0_3 b0_4 k)
  | 0, _, _, _, _, _, _, _, _, _, _, _, _, _ => rfl
  | m + 1, R1, R3, R6, c, x88, b0_0, b0_1, b0_2, b0_3, b0_4, b5_0, b7_0, b7_1 =>
    Eq.trans (by kernel_rfl) (n_condH rfl (fun h0 => (n_bind fun t => (n_condH rfl (fun h1 => (spec26_3 k m R1 R3 R6 c (wr (x88 + (1 : Int))) b0_0 b0_1 b0_2 b0_3 b0_4 b5_0 b7_0 b7_1)) fun h1 => (n_bind fun t1 => (n_bind fun t2 => (n_condH (show ((((verEq R1.length R1.length) && (decide ((0 : Int) ≤ t2))) && (decide (t2 < (Int.ofNat R1.length))))) = _ from (n_and (n_andL (verEq_rfl _) rfl) rfl)) (fun h2 => (n_tru (show (verEq R1.length R1.length) = true from (verEq_rfl _)) (n_bind fun r => (n_condH rfl (fun h3 => (n_condH rfl (fun h4 => (n_tru (show (((true && (verEq R3.length (blkLen [(Prod.mk 0 (Blk.mk BKind.box 68 1 [[(AVal.slc 4 R3.length)]])), (Prod.mk 1 (Blk.mk BKind.box 41 1 [[(AVal.slc 5 R1.length)]])), (Prod.mk 2 (Blk.mk BKind.box 46 5 [[(i64 b0_0), (i64 b0_1), (AVal.ro 3 b0_2), (AVal.ro 1 b0_3), (i64 b0_4)]])), (Prod.mk 3 (Blk.mk BKind.box 3 1 [[(i64 b5_0)]])), (Prod.mk 4 (Blk.mk (BKind.ns 0 27 2) 32 1 R3)), (Prod.mk 5 (Blk.mk BKind.arr 3 1 R1))] 4))) && true) && (((true && (verEq R1.length (blkLen [(Prod.mk 0 (Blk.mk BKind.box 68 1 [[(AVal.slc 4 R3.length)]])), (Prod.mk 1 (Blk.mk BKind.box 41 1 [[(AVal.slc 5 R1.length)]])), (Prod.mk 2 (Blk.mk BKind.box 46 5 [[(i64 b0_0), (i64 b0_1), (AVal.ro 3 b0_2), (AVal.ro 1 b0_3), (i64 b0_4)]])), (Prod.mk 3 (Blk.mk BKind.box 3 1 [[(i64 b5_0)]])), (Prod.mk 4 (Blk.mk (BKind.ns 0 27 2) 32 1 R3)), (Prod.mk 5 (Blk.mk BKind.arr 3 1 R1))] 5))) && true) && true)) = true from (n_andL (n_andL (n_andL rfl (by first | exact verEq_of rfl | simp [verEq, blkLen, blkAt])) rfl) (n_andL (n_andL (n_andL rfl (by first | exact verEq_of rfl | simp [verEq, blkLen, blkAt])) rfl) rfl))) (n_bind fun t3 => (spec26_3 k m t3.2.1 t3.1 R6 c (wr (x88 + (1 : Int))) b0_0 b0_1 b0_2 b0_3 b0_4 t3.2.2 b7_0 b7_1)))) fun h4 => (n_condH rfl (fun h5 => (n_tru (show (((true && (verEq R3.length (blkLen [(Prod.mk 0 (Blk.mk BKind.box 68 1 [[(AVal.slc 4 R3.length)]])), (Prod.mk 1 (Blk.mk BKind.box 41 1 [[(AVal.slc 5 R1.length)]])), (Prod.mk 2 (Blk.mk BKind.box 46 5 [[(i64 b0_0), (i64 b0_1), (AVal.ro 3 b0_2), (AVal.ro 1 b0_3), (i64 b0_4)]])), (Prod.mk 3 (Blk.mk BKind.box 3 1 [[(i64 b5_0)]])), (Prod.mk 4 (Blk.mk (BKind.ns 0 27 2) 32 1 R3)), (Prod.mk 5 (Blk.mk BKind.arr 3 1 R1))] 4))) && true) && (((true && (verEq R1.length (blkLen [(Prod.mk 0 (Blk.mk BKind.box 68 1 [[(AVal.slc 4 R3.length)]])), (Prod.mk 1 (Blk.mk BKind.box 41 1 [[(AVal.slc 5 R1.length)]])), (Prod.mk 2 (Blk.mk BKind.box 46 5 [[(i64 b0_0), (i64 b0_1), (AVal.ro 3 b0_2), (AVal.ro 1 b0_3), (i64 b0_4)]])), (Prod.mk 3 (Blk.mk BKind.box 3 1 [[(i64 b5_0)]])), (Prod.mk 4 (Blk.mk (BKind.ns 0 27 2) 32 1 R3)), (Prod.mk 5 (Blk.mk BKind.arr 3 1 R1))] 5))) && true) && true)) = true from (n_andL (n_andL (n_andL rfl (by first | exact verEq_of rfl | simp [verEq, blkLen, blkAt])) rfl) (n_andL (n_andL (n_andL rfl (by first | exact verEq_of rfl | simp [verEq, blkLen, blkAt])) rfl) rfl))) (n_bind fun t4 => (spec26_3 k m t4.2.1 t4.1 R6 c (wr (x88 + (1 : Int))) b0_0 b0_1 b0_2 b0_3 b0_4 t4.2.2 b7_0 b7_1)))) fun h5 => (spec26_3 k m R1 R3 R6 c (wr (x88 + (1 : Int))) b0_0 b0_1 b0_2 b0_3 b0_4 b5_0 b7_0 b7_1)))) fun h3 => rfl)))) fun h2 => rfl)))))) fun h0 => rfl)
theorem okL26_3 : LoopOk TT TU GL0 C29 ownE L26 (lp Tryd.f26 3) :=
  loopOk_of ks26_3 hs26_3 W26_3 FU (fun s k => (G_astar_ground__reach_3 (toI (cIa s.tmps 10)) (toI (cIa (rows0 (blkAt s.heap 0).2) 0)) (toI (cIa (rows0 (blkAt s.heap 0).2) 1)) (roRows (cIa (rows0 (blkAt s.heap 0).2) 2)) (roRows (cIa (rows0 (blkAt s.heap 0).2) 3)) (toI (cIa (rows0 (blkAt s.heap 0).2) 4)) (toI (cIa (rows0 (blkAt s.heap 7).2) 0)) (toI (cIa (rows0 (blkAt s.heap 7).2) 1)) FU (blkAt s.heap 1).2.rows (blkAt s.heap 3).2.rows (toI (cIa s.tmps 88)) (toI (cIa (rows0 (blkAt s.heap 5).2) 0))).bind (X26_3 (blkAt s.heap 6).2.rows (toI (cIa s.tmps 10)) (toI (cIa (rows0 (blkAt s.heap 0).2) 0)) (toI (cIa (rows0 (blkAt s.heap 0).2) 1)) (roRows (cIa (rows0 (blkAt s.heap 0).2) 2)) (roRows (cIa (rows0 (blkAt s.heap 0).2) 3)) (toI (cIa (rows0 (blkAt s.heap 0).2) 4)) k)) (fun s k => by kernel_rfl) (fun s k => spec26_3 k FU (blkAt s.heap 1).2.rows (blkAt s.heap 3).2.rows (blkAt s.heap 6).2.rows (toI (cIa s.tmps 10)) (toI (cIa s.tmps 88)) (toI (cIa (rows0 (blkAt s.heap 0).2) 0)) (toI (cIa (rows0 (blkAt s.heap 0).2) 1)) (roRows (cIa (rows0 (blkAt s.heap 0).2) 2)) (roRows (cIa (rows0 (blkAt s.heap 0).2) 3)) (toI (cIa (rows0 (blkAt s.heap 0).2) 4)) (toI (cIa (rows0 (blkAt s.heap 5).2) 0)) (toI (cIa (rows0 (blkAt s.heap 7).2) 0)) (toI (cIa (rows0 (blkAt s.heap 7).2) 1)))
@[reducible] noncomputable def B26_2 := bodyOf TT TU GL0 C29 ownE L26 (lp Tryd.f26 2)
@[reducible] noncomputable def K26_2 (k : Ex → St → Option CR) : Ex → St → Option CR := fun e s => k e (maskS (W26_2 e) s)
theorem spec26_2 (k : Ex → St → Option CR) : ∀ (m : Nat) (R1 R3 R6 : LL) (c b0_0 b0_1 : Int) (b0_2 b0_3 : LL) (b0_4 b5_0 : Int), loopN B26_2 m (E26_2 R1 R3 R6 c b0_0 b0_1 b0_2 b0_3 b0_4 b5_0) (K26_2 k) = (G_astar_ground__reach_2 c b0_0 b0_1 b0_2 b0_3 b0_4 m R1 R3 b5_0).bind (X26_2 R6 c b0_0 b0_1 b0_2 b0_3 b0_4 k)
  | 0, _, _, _, _, _, _, _, _, _, _ => rfl
  | m + 1, R1, R3, R6, c, b0_0, b0_1, b0_2, b0_3, b0_4, b5_0 =>
    Eq.trans (b := (bif (((verEq R3.length R3.length) && (decide ((0 : Int) ≤ c))) && (decide (c < (Int.ofNat R3.length)))) then (bif (verEq R3.length R3.length) then (bif (verEq R3.length R3.length) then (Option.bind (R3[c.toNat]?) fun r => (bif (chk [(LT.sl 27 2)] r) then (bif (decide ((Int.ofNat (cR r 0).length) > (0 : Int))) then (bif (((verEq R3.length R3.length) && (decide ((0 : Int) ≤ c))) && (decide (c < (Int.ofNat R3.length)))) then (bif (verEq R3.length R3.length) then (bif (verEq R3.length R3.length) then (Option.bind (R3[c.toNat]?) fun r1 => (bif (chk [(LT.sl 27 2)] r1) then (bif (((verEq R3.length R3.length) && (decide ((0 : Int) ≤ c))) && (decide (c < (Int.ofNat R3.length)))) then (bif (verEq R3.length R3.length) then (bif (verEq R3.length R3.length) then (Option.bind (R3[c.toNat]?) fun r2 => (bif (chk [(LT.sl 27 2)] r2) then (bif ((decide ((0 : Int) ≤ (wr ((Int.ofNat (cR r1 0).length) - (1 : Int))))) && (decide ((wr ((Int.ofNat (cR r1 0).length) - (1 : Int))) < (Int.ofNat (cR r2 0).length)))) then (bif (verEq R3.length R3.length) then (Option.bind (R3[c.toNat]?) fun r3 => (bif (chk [(LT.sl 27 2)] r3) then (Option.bind ((cR r3 0)[(wr ((Int.ofNat (cR r1 0).length) - (1 : Int))).toNat]?) fun r4 => (bif (chk [(LT.int IntKind.i64), (LT.int IntKind.i64)] r4) then (bif (((verEq R3.length R3.length) && (decide ((0 : Int) ≤ c))) && (decide (c < (Int.ofNat R3.length)))) then (bif (verEq R3.length R3.length) then (bif (verEq R3.length R3.length) then (Option.bind (R3[c.toNat]?) fun r5 => (bif (chk [(LT.sl 27 2)] r5) then (bif (((decide ((0 : Int) ≤ (0 : Int))) && (decide ((0 : Int) ≤ (wr ((Int.ofNat (cR r1 0).length) - (1 : Int)))))) && (decide ((wr ((Int.ofNat (cR r1 0).length) - (1 : Int))) ≤ (Int.ofNat (cR r5 0).length)))) then (bif (((verEq (Blk.rows (Blk.mk (BKind.ns 1 27 2) 32 1 (List.set R3 c.toNat [(AVal.ro 2 (List.drop (0 : Int).toNat (List.take (wr ((Int.ofNat (cR r1 0).length) - (1 : Int))).toNat (cR r5 0))))]))).length R3.length) && (decide ((0 : Int) ≤ c))) && (decide (c < (Int.ofNat (Blk.rows (Blk.mk (BKind.ns 1 27 2) 32 1 (List.set R3 c.toNat [(AVal.ro 2 (List.drop (0 : Int).toNat (List.take (wr ((Int.ofNat (cR r1 0).length) - (1 : Int))).toNat (cR r5 0))))]))).length)))) then (bif (((verEq (Blk.rows (Blk.mk (BKind.ns 1 27 2) 32 1 (List.set R3 c.toNat [(AVal.ro 2 (List.drop (0 : Int).toNat (List.take (wr ((Int.ofNat (cR r1 0).length) - (1 : Int))).toNat (cR r5 0))))]))).length R3.length) && (verEq (Blk.rows (Blk.mk (BKind.ns 1 27 2) 32 1 (List.set R3 c.toNat [(AVal.ro 2 (List.drop (0 : Int).toNat (List.take (wr ((Int.ofNat (cR r1 0).length) - (1 : Int))).toNat (cR r5 0))))]))).length R3.length)) && (Nat.beq c.toNat c.toNat)) then (Option.bind (F_grid_Index b0_0 (cI r4 0) (cI r4 1)) fun t => (bif (((verEq R1.length R1.length) && (decide ((0 : Int) ≤ t))) && (decide (t < (Int.ofNat R1.length)))) then (bif (verEq R1.length R1.length) then (Option.bind (R1[t.toNat]?) fun r6 => (bif (chk [(LT.int IntKind.i64)] r6) then (bif ((cI r6 0) != c) then (loopN B26_2 m ⟨[.dead, .dead, (AVal.ref 16000 1 0 0), .dead, .dead, (AVal.ref 16000080 1 0 0), .dead, (AVal.ref 16000112 1 0 0), (AVal.ref 16000128 1 0 0), (AVal.clo 48 [(AVal.ref 16000112 1 0 0), (AVal.ref 16000080 1 0 0), (AVal.ref 16000 1 0 0), (AVal.ref 16000128 1 0 0)]), (i64 c), .dead, .dead, .dead, .dead, .dead, .dead, .dead, .dead, .dead, .dead, .dead, .dead, .dead, .dead, .dead, .dead, .dead, .dead, .dead, .dead, .dead, .dead, .dead, .dead, .dead, .dead, .dead, .dead, .dead, .dead, .dead, .dead, .dead, .dead, .dead, .dead, .dead, .dead, .dead, .dead, .dead, .dead, .dead, .dead, .dead, .dead, .dead, .dead, .dead, .dead, .dead, .dead, .dead, .dead, .dead, .dead, .dead, .dead, .dead, .dead, .dead, .dead, .dead, .dead, .dead, .dead, .dead, .dead, .dead, .dead, .dead, .dead, .dead, .dead, .dead, .dead, .dead, .dead, .dead, .dead, .dead, .dead, .dead, .dead, .dead, .dead, .dead, .dead, .dead, .dead, .dead, .dead, .dead, .dead, .dead, .dead, .dead, .dead, .dead, .dead, .dead, .dead, .dead, .dead, .dead, .dead, .dead, .dead, .dead, .dead, .dead, .dead, .dead, .dead, .dead, .dead, .dead, .dead, .dead, .dead, .dead, .dead], [(Prod.mk 16000 (Blk.mk BKind.box 46 5 [[(i64 b0_0), (i64 b0_1), (AVal.ro 3 b0_2), (AVal.ro 1 b0_3), (i64 b0_4)]])), (Prod.mk 19264 (Blk.mk BKind.arr 3 1 R1)), (Prod.mk 16000080 (Blk.mk BKind.box 41 1 [[(AVal.slc 19264 R1.length)]])), (Prod.mk 16000113 (Blk.mk (BKind.ns 0 27 2) 32 1 (Blk.rows (Blk.mk (BKind.ns 0 27 2) 32 1 (Blk.rows (Blk.mk (BKind.ns 0 27 2) 32 1 (Blk.rows (Blk.mk (BKind.ns 2 27 2) 32 1 (Blk.rows (Blk.mk (BKind.ns 1 27 2) 32 1 (List.set R3 c.toNat [(AVal.ro 2 (List.drop (0 : Int).toNat (List.take (wr ((Int.ofNat (cR r1 0).length) - (1 : Int))).toNat (cR r5 0))))]))))))))))), (Prod.mk 16000112 (Blk.mk BKind.box 68 1 [[(AVal.slc 16000113 R3.length)]])), (Prod.mk 16000128 (Blk.mk BKind.box 3 1 [[(i64 (wr (b5_0 - (1 : Int))))]])), (Prod.mk 999 (Blk.mk (BKind.dfr 47 [(AVal.ref 16000128 1 0 0)]) 0 0 R6))]⟩ (K26_2 k)) else (bif (((true && (verEq R1.length (blkLen [(Prod.mk 16000 (Blk.mk BKind.box 46 5 [[(i64 b0_0), (i64 b0_1), (AVal.ro 3 b0_2), (AVal.ro 1 b0_3), (i64 b0_4)]])), (Prod.mk 19264 (Blk.mk BKind.arr 3 1 R1)), (Prod.mk 16000080 (Blk.mk BKind.box 41 1 [[(AVal.slc 19264 R1.length)]])), (Prod.mk 16000113 (Blk.mk (BKind.ns 0 27 2) 32 1 (Blk.rows (Blk.mk (BKind.ns 0 27 2) 32 1 (Blk.rows (Blk.mk (BKind.ns 0 27 2) 32 1 (Blk.rows (Blk.mk (BKind.ns 0 27 2) 32 1 (Blk.rows (Blk.mk (BKind.ns 2 27 2) 32 1 (Blk.rows (Blk.mk (BKind.ns 1 27 2) 32 1 (List.set R3 c.toNat [(AVal.ro 2 (List.drop (0 : Int).toNat (List.take (wr ((Int.ofNat (cR r1 0).length) - (1 : Int))).toNat (cR r5 0))))]))))))))))))), (Prod.mk 16000112 (Blk.mk BKind.box 68 1 [[(AVal.slc 16000113 R3.length)]])), (Prod.mk 16000128 (Blk.mk BKind.box 3 1 [[(i64 (wr (b5_0 - (1 : Int))))]])), (Prod.mk 999 (Blk.mk (BKind.dfr 47 [(AVal.ref 16000128 1 0 0)]) 0 0 R6)), (Prod.mk 16000192 (Blk.mk BKind.box 27 2 [[(i64 (cI r4 0)), (i64 (cI r4 1))]]))] 1))) && true) && (((true && (verEq R3.length (blkLen [(Prod.mk 16000 (Blk.mk BKind.box 46 5 [[(i64 b0_0), (i64 b0_1), (AVal.ro 3 b0_2), (AVal.ro 1 b0_3), (i64 b0_4)]])), (Prod.mk 19264 (Blk.mk BKind.arr 3 1 R1)), (Prod.mk 16000080 (Blk.mk BKind.box 41 1 [[(AVal.slc 19264 R1.length)]])), (Prod.mk 16000113 (Blk.mk (BKind.ns 0 27 2) 32 1 (Blk.rows (Blk.mk (BKind.ns 0 27 2) 32 1 (Blk.rows (Blk.mk (BKind.ns 0 27 2) 32 1 (Blk.rows (Blk.mk (BKind.ns 0 27 2) 32 1 (Blk.rows (Blk.mk (BKind.ns 2 27 2) 32 1 (Blk.rows (Blk.mk (BKind.ns 1 27 2) 32 1 (List.set R3 c.toNat [(AVal.ro 2 (List.drop (0 : Int).toNat (List.take (wr ((Int.ofNat (cR r1 0).length) - (1 : Int))).toNat (cR r5 0))))]))))))))))))), (Prod.mk 16000112 (Blk.mk BKind.box 68 1 [[(AVal.slc 16000113 R3.length)]])), (Prod.mk 16000128 (Blk.mk BKind.box 3 1 [[(i64 (wr (b5_0 - (1 : Int))))]])), (Prod.mk 999 (Blk.mk (BKind.dfr 47 [(AVal.ref 16000128 1 0 0)]) 0 0 R6)), (Prod.mk 16000192 (Blk.mk BKind.box 27 2 [[(i64 (cI r4 0)), (i64 (cI r4 1))]]))] 3))) && true) && true)) then (Option.bind (G_astar_ground__reach_3 c b0_0 b0_1 b0_2 b0_3 b0_4 (cI r4 0) (cI r4 1) FU R1 (Blk.rows (Blk.mk (BKind.ns 0 27 2) 32 1 (Blk.rows (Blk.mk (BKind.ns 0 27 2) 32 1 (Blk.rows (Blk.mk (BKind.ns 0 27 2) 32 1 (Blk.rows (Blk.mk (BKind.ns 0 27 2) 32 1 (Blk.rows (Blk.mk (BKind.ns 2 27 2) 32 1 (Blk.rows (Blk.mk (BKind.ns 1 27 2) 32 1 (List.set R3 c.toNat [(AVal.ro 2 (List.drop (0 : Int).toNat (List.take (wr ((Int.ofNat (cR r1 0).length) - (1 : Int))).toNat (cR r5 0))))]))))))))))))) (0 : Int) (wr (b5_0 - (1 : Int)))) fun t1 => (loopN B26_2 m ⟨[.dead, .dead, (AVal.ref 16000 1 0 0), .dead, .dead, (AVal.ref 16000080 1 0 0), .dead, (AVal.ref 16000112 1 0 0), (AVal.ref 16000128 1 0 0), (AVal.clo 48 [(AVal.ref 16000112 1 0 0), (AVal.ref 16000080 1 0 0), (AVal.ref 16000 1 0 0), (AVal.ref 16000128 1 0 0)]), (i64 c), .dead, .dead, .dead, .dead, .dead, .dead, .dead, .dead, .dead, .dead, .dead, .dead, .dead, .dead, .dead, .dead, .dead, .dead, .dead, .dead, .dead, .dead, .dead, .dead, .dead, .dead, .dead, .dead, .dead, .dead, .dead, .dead, .dead, .dead, .dead, .dead, .dead, .dead, .dead, .dead, .dead, .dead, .dead, .dead, .dead, .dead, .dead, .dead, .dead, .dead, .dead, .dead, .dead, .dead, .dead, .dead, .dead, .dead, .dead, .dead, .dead, .dead, .dead, .dead, .dead, .dead, .dead, .dead, .dead, .dead, .dead, .dead, .dead, .dead, .dead, .dead, .dead, .dead, .dead, .dead, .dead, .dead, .dead, .dead, .dead, .dead, .dead, .dead, .dead, .dead, .dead, .dead, .dead, .dead, .dead, .dead, .dead, .dead, .dead, .dead, .dead, .dead, .dead, .dead, .dead, .dead, .dead, .dead, .dead, .dead, .dead, .dead, .dead, .dead, .dead, .dead, .dead, .dead, .dead, .dead, .dead, .dead], [(Prod.mk 16000 (Blk.mk BKind.box 46 5 [[(i64 b0_0), (i64 b0_1), (AVal.ro 3 b0_2), (AVal.ro 1 b0_3), (i64 b0_4)]])), (Prod.mk 19264 (Blk.mk BKind.arr 3 1 t1.1)), (Prod.mk 16000080 (Blk.mk BKind.box 41 1 [[(AVal.slc 19264 t1.1.length)]])), (Prod.mk 16000113 (Blk.mk (BKind.ns 0 27 2) 32 1 t1.2.1)), (Prod.mk 16000112 (Blk.mk BKind.box 68 1 [[(AVal.slc 16000113 t1.2.1.length)]])), (Prod.mk 16000128 (Blk.mk BKind.box 3 1 [[(i64 t1.2.2)]])), (Prod.mk 999 (Blk.mk (BKind.dfr 47 [(AVal.ref 16000128 1 0 0)]) 0 0 R6))]⟩ (K26_2 k))) else none)) else none)) else none) else none)) else none) else none) else none) else none)) else none) else none) else none) else none)) else none)) else none) else none) else none)) else none) else none) else none) else none)) else none) else none) else none) else (k (.exit 4) ⟨[.dead, .dead, (AVal.ref 16000 1 0 0), .dead, .dead, (AVal.ref 16000080 1 0 0), .dead, (AVal.ref 16000112 1 0 0), (AVal.ref 16000128 1 0 0), (AVal.clo 48 [(AVal.ref 16000112 1 0 0), (AVal.ref 16000080 1 0 0), (AVal.ref 16000 1 0 0), (AVal.ref 16000128 1 0 0)]), (i64 c), .dead, .dead, .dead, .dead, .dead, .dead, .dead, .dead, .dead, .dead, .dead, .dead, .dead, .dead, .dead, .dead, .dead, .dead, .dead, .dead, .dead, .dead, .dead, .dead, .dead, .dead, .dead, .dead, .dead, .dead, .dead, .dead, .dead, .dead, .dead, .dead, .dead, .dead, .dead, .dead, .dead, .dead, .dead, .dead, .dead, .dead, .dead, .dead, .dead, .dead, .dead, .dead, .dead, .dead, .dead, .dead, .dead, .dead, .dead, .dead, .dead, .dead, .dead, .dead, .dead, .dead, .dead, .dead, .dead, .dead, .dead, .dead, .dead, .dead, .dead, .dead, .dead, .dead, .dead, .dead, .dead, .dead, .dead, .dead, .dead, .dead, .dead, .dead, .dead, .dead, .dead, .dead, .dead, .dead, .dead, .dead, .dead, .dead, .dead, .dead, .dead, .dead, .dead, .dead, .dead, .dead, .dead, .dead, .dead, .dead, .dead, .dead, .dead, .dead, .dead, .dead, .dead, .dead, .dead, .dead, .dead, .dead], [(Prod.mk 16000 (Blk.mk BKind.box 46 5 [[(i64 b0_0), (i64 b0_1), (AVal.ro 3 b0_2), (AVal.ro 1 b0_3), (i64 b0_4)]])), (Prod.mk 19264 (Blk.mk BKind.arr 3 1 R1)), (Prod.mk 16000080 (Blk.mk BKind.box 41 1 [[(AVal.slc 19264 R1.length)]])), (Prod.mk 16000113 (Blk.mk (BKind.ns 0 27 2) 32 1 R3)), (Prod.mk 16000112 (Blk.mk BKind.box 68 1 [[(AVal.slc 16000113 R3.length)]])), (Prod.mk 16000128 (Blk.mk BKind.box 3 1 [[(i64 b5_0)]])), (Prod.mk 999 (Blk.mk (BKind.dfr 47 [(AVal.ref 16000128 1 0 0)]) 0 0 R6))]⟩)) else none)) else none) else none) else none)) (by kernel_rfl)
      (n_condH (n_and (n_andL (verEq_rfl _) rfl) rfl) (fun h0 => (n_true (verEq_rfl _) (n_true (verEq_rfl _) (n_bind fun r => (n_condH rfl (fun h1 => (n_condH rfl (fun h2 => (n_true (n_andL (n_andL (verEq_rfl _) (n_al h0)) (n_ar h0)) (n_true (verEq_rfl _) (n_true (verEq_rfl _) (n_bind fun r1 => (n_condH rfl (fun h3 => (n_true (n_andL (n_andL (verEq_rfl _) (n_al h0)) (n_ar h0)) (n_true (verEq_rfl _) (n_true (verEq_rfl _) (n_bind fun r2 => (n_condH rfl (fun h4 => (n_condH rfl (fun h5 => (n_true (verEq_rfl _) (n_bind fun r3 => (n_condH rfl (fun h6 => (n_bind fun r4 => (n_condH rfl (fun h7 => (n_true (n_andL (n_andL (verEq_rfl _) (n_al h0)) (n_ar h0)) (n_true (verEq_rfl _) (n_true (verEq_rfl _) (n_bind fun r5 => (n_condH rfl (fun h8 => (n_condH (n_andL (n_andL (by kernel_rfl) (n_al h5)) rfl) (fun h9 => (n_condH (n_andL (n_andL (by first | exact verEq_of rfl | simp [verEq, blkLen, blkAt]) (n_al h0)) rfl) (fun h10 => (n_condH (n_andL (n_andL (by first | exact verEq_of rfl | simp [verEq, blkLen, blkAt]) (by first | exact verEq_of rfl | simp [verEq, blkLen, blkAt])) rfl) (fun h11 => (n_bind fun t => (n_condH (n_and (n_andL (verEq_rfl _) rfl) rfl) (fun h12 => (n_true (verEq_rfl _) (n_bind fun r6 => (n_condH rfl (fun h13 => (n_condH rfl (fun h14 => ((congrArg (fun z => loopN B26_2 m z (K26_2 k)) (by simp [E26_2] : _ = E26_2 R1 (Blk.rows (Blk.mk (BKind.ns 0 27 2) 32 1 (Blk.rows (Blk.mk (BKind.ns 0 27 2) 32 1 (Blk.rows (Blk.mk (BKind.ns 2 27 2) 32 1 (Blk.rows (Blk.mk (BKind.ns 1 27 2) 32 1 (List.set R3 c.toNat [(AVal.ro 2 (List.drop (0 : Int).toNat (List.take (wr ((Int.ofNat (cR r1 0).length) - (1 : Int))).toNat (cR r5 0))))]))))))))) R6 c b0_0 b0_1 b0_2 b0_3 b0_4 (wr (b5_0 - (1 : Int))))).trans (spec26_2 k m R1 (Blk.rows (Blk.mk (BKind.ns 0 27 2) 32 1 (Blk.rows (Blk.mk (BKind.ns 0 27 2) 32 1 (Blk.rows (Blk.mk (BKind.ns 2 27 2) 32 1 (Blk.rows (Blk.mk (BKind.ns 1 27 2) 32 1 (List.set R3 c.toNat [(AVal.ro 2 (List.drop (0 : Int).toNat (List.take (wr ((Int.ofNat (cR r1 0).length) - (1 : Int))).toNat (cR r5 0))))]))))))))) R6 c b0_0 b0_1 b0_2 b0_3 b0_4 (wr (b5_0 - (1 : Int)))))) fun h14 => (n_true (n_andL (n_andL (n_andL rfl (by first | exact verEq_of rfl | simp [verEq, blkLen, blkAt])) rfl) (n_andL (n_andL (n_andL rfl (by first | exact verEq_of rfl | simp [verEq, blkLen, blkAt])) rfl) rfl)) (n_bind fun t1 => (spec26_2 k m t1.1 t1.2.1 R6 c b0_0 b0_1 b0_2 b0_3 b0_4 t1.2.2))))) fun h13 => n_none)))) fun h12 => n_none))) fun h11 => n_none)) fun h10 => n_none)) fun h9 => n_none)) fun h8 => n_none)))))) fun h7 => n_none))) fun h6 => n_none)))) fun h5 => n_none)) fun h4 => n_none)))))) fun h3 => n_none)))))) fun h2 => rfl)) fun h1 => n_none))))) fun h0 => n_none)
theorem okL26_2 : LoopOk TT TU GL0 C29 ownE L26 (lp Tryd.f26 2) :=
  loopOk_of ks26_2 hs26_2 W26_2 FU (fun s k => (G_astar_ground__reach_2 (toI (cIa s.tmps 10)) (toI (cIa (rows0 (blkAt s.heap 0).2) 0)) (toI (cIa (rows0 (blkAt s.heap 0).2) 1)) (roRows (cIa (rows0 (blkAt s.heap 0).2) 2)) (roRows (cIa (rows0 (blkAt s.heap 0).2) 3)) (toI (cIa (rows0 (blkAt s.heap 0).2) 4)) FU (blkAt s.heap 1).2.rows (blkAt s.heap 3).2.rows (toI (cIa (rows0 (blkAt s.heap 5).2) 0))).bind (X26_2 (blkAt s.heap 6).2.rows (toI (cIa s.tmps 10)) (toI (cIa (rows0 (blkAt s.heap 0).2) 0)) (toI (cIa (rows0 (blkAt s.heap 0).2) 1)) (roRows (cIa (rows0 (blkAt s.heap 0).2) 2)) (roRows (cIa (rows0 (blkAt s.heap 0).2) 3)) (toI (cIa (rows0 (blkAt s.heap 0).2) 4)) k)) (fun s k => by kernel_rfl) (fun s k => spec26_2 k FU (blkAt s.heap 1).2.rows (blkAt s.heap 3).2.rows (blkAt s.heap 6).2.rows (toI (cIa s.tmps 10)) (toI (cIa (rows0 (blkAt s.heap 0).2) 0)) (toI (cIa (rows0 (blkAt s.heap 0).2) 1)) (roRows (cIa (rows0 (blkAt s.heap 0).2) 2)) (roRows (cIa (rows0 (blkAt s.heap 0).2) 3)) (toI (cIa (rows0 (blkAt s.heap 0).2) 4)) (toI (cIa (rows0 (blkAt s.heap 5).2) 0)))
@[reducible] noncomputable def B26_1 := bodyOf TT TU GL0 C29 ownE L26 (lp Tryd.f26 1)
@[reducible] noncomputable def K26_1 (k : Ex → St → Option CR) : Ex → St → Option CR := fun e s => k e (maskS (W26_1 e) s)
theorem spec26_1 (k : Ex → St → Option CR) : ∀ (m : Nat) (R1 R3 R6 : LL) (c b0_0 b0_1 : Int) (b0_2 b0_3 : LL) (b0_4 b5_0 : Int), loopN B26_1 m (E26_1 R1 R3 R6 c b0_0 b0_1 b0_2 b0_3 b0_4 b5_0) (K26_1 k) = (G_astar_ground__reach_1 b0_0 b0_1 b0_2 b0_3 b0_4 m R1 R3 c b5_0).bind (X26_1 R6 b0_0 b0_1 b0_2 b0_3 b0_4 k)
  | 0, _, _, _, _, _, _, _, _, _, _ => rfl
  | m + 1, R1, R3, R6, c, b0_0, b0_1, b0_2, b0_3, b0_4, b5_0 =>
    Eq.trans (by kernel_rfl) (n_tru (show (verEq R3.length R3.length) = true from (verEq_rfl _)) (n_condH rfl (fun h0 => (n_tru (show (((true && (verEq R1.length (blkLen [(Prod.mk 16000 (Blk.mk BKind.box 46 5 [[(i64 b0_0), (i64 b0_1), (AVal.ro 3 b0_2), (AVal.ro 1 b0_3), (i64 b0_4)]])), (Prod.mk 19264 (Blk.mk BKind.arr 3 1 R1)), (Prod.mk 16000080 (Blk.mk BKind.box 41 1 [[(AVal.slc 19264 R1.length)]])), (Prod.mk 16000113 (Blk.mk (BKind.ns 0 27 2) 32 1 R3)), (Prod.mk 16000112 (Blk.mk BKind.box 68 1 [[(AVal.slc 16000113 R3.length)]])), (Prod.mk 16000128 (Blk.mk BKind.box 3 1 [[(i64 b5_0)]])), (Prod.mk 999 (Blk.mk (BKind.dfr 47 [(AVal.ref 16000128 1 0 0)]) 0 0 R6))] 1))) && true) && (((true && (verEq R3.length (blkLen [(Prod.mk 16000 (Blk.mk BKind.box 46 5 [[(i64 b0_0), (i64 b0_1), (AVal.ro 3 b0_2), (AVal.ro 1 b0_3), (i64 b0_4)]])), (Prod.mk 19264 (Blk.mk BKind.arr 3 1 R1)), (Prod.mk 16000080 (Blk.mk BKind.box 41 1 [[(AVal.slc 19264 R1.length)]])), (Prod.mk 16000113 (Blk.mk (BKind.ns 0 27 2) 32 1 R3)), (Prod.mk 16000112 (Blk.mk BKind.box 68 1 [[(AVal.slc 16000113 R3.length)]])), (Prod.mk 16000128 (Blk.mk BKind.box 3 1 [[(i64 b5_0)]])), (Prod.mk 999 (Blk.mk (BKind.dfr 47 [(AVal.ref 16000128 1 0 0)]) 0 0 R6))] 3))) && true) && true)) = true from (n_andL (n_andL (n_andL rfl (by first | exact verEq_of rfl | simp [verEq, blkLen, blkAt])) rfl) (n_andL (n_andL (n_andL rfl (by first | exact verEq_of rfl | simp [verEq, blkLen, blkAt])) rfl) rfl))) (n_bind fun t => (spec26_1 k m t.1 t.2.1 R6 (wr (c + (1 : Int))) b0_0 b0_1 b0_2 b0_3 b0_4 t.2.2)))) fun h0 => rfl))
theorem okL26_1 : LoopOk TT TU GL0 C29 ownE L26 (lp Tryd.f26 1) :=
  loopOk_of ks26_1 hs26_1 W26_1 FU (fun s k => (G_astar_ground__reach_1 (toI (cIa (rows0 (blkAt s.heap 0).2) 0)) (toI (cIa (rows0 (blkAt s.heap 0).2) 1)) (roRows (cIa (rows0 (blkAt s.heap 0).2) 2)) (roRows (cIa (rows0 (blkAt s.heap 0).2) 3)) (toI (cIa (rows0 (blkAt s.heap 0).2) 4)) FU (blkAt s.heap 1).2.rows (blkAt s.heap 3).2.rows (toI (cIa s.tmps 10)) (toI (cIa (rows0 (blkAt s.heap 5).2) 0))).bind (X26_1 (blkAt s.heap 6).2.rows (toI (cIa (rows0 (blkAt s.heap 0).2) 0)) (toI (cIa (rows0 (blkAt s.heap 0).2) 1)) (roRows (cIa (rows0 (blkAt s.heap 0).2) 2)) (roRows (cIa (rows0 (blkAt s.heap 0).2) 3)) (toI (cIa (rows0 (blkAt s.heap 0).2) 4)) k)) (fun s k => by kernel_rfl) (fun s k => spec26_1 k FU (blkAt s.heap 1).2.rows (blkAt s.heap 3).2.rows (blkAt s.heap 6).2.rows (toI (cIa s.tmps 10)) (toI (cIa (rows0 (blkAt s.heap 0).2) 0)) (toI (cIa (rows0 (blkAt s.heap 0).2) 1)) (roRows (cIa (rows0 (blkAt s.heap 0).2) 2)) (roRows (cIa (rows0 (blkAt s.heap 0).2) 3)) (toI (cIa (rows0 (blkAt s.heap 0).2) 4)) (toI (cIa (rows0 (blkAt s.heap 5).2) 0)))
theorem run26 (g_m_W g_m_H : Int) (g_m_Cells g_blocked : LL) (g_class from__X from__Y : Int) : fcallD TT TU GL0 C29 ownE true L26 47 S47 Tryd.f26 [(.agg [(.sc (.int .i64 g_m_W)), (.sc (.int .i64 g_m_H)), (.ro 3 g_m_Cells), (.ro 1 g_blocked), (.sc (.int .i64 g_class))]), (.agg [(.sc (.int .i64 from__X)), (.sc (.int .i64 from__Y))])] = (F_astar_ground__reach g_m_W g_m_H g_m_Cells g_blocked g_class from__X from__Y).bind fun t => some (enc26 t) :=
  Eq.trans (by kernel_rfl) (n_condH rfl (fun h0 => (n_tru (show (verEq (Blk.rows (Blk.mk BKind.arr 3 1 (List.replicate (Int.ofNat g_m_Cells.length).toNat [(i64 (0 : Int))]))).length (List.replicate (Int.ofNat g_m_Cells.length).toNat [(i64 (0 : Int))]).length) = true from (by first | exact verEq_of rfl | simp [verEq, blkLen, blkAt])) (n_tru (show (((true && (verEq (List.replicate (Int.ofNat g_m_Cells.length).toNat [(i64 (0 : Int))]).length (blkLen [(Prod.mk 16000 (Blk.mk BKind.box 46 5 [[(i64 g_m_W), (i64 g_m_H), (AVal.ro 3 g_m_Cells), (AVal.ro 1 g_blocked), (i64 g_class)]])), (Prod.mk 16016 (Blk.mk BKind.box 27 2 [[(i64 from__X), (i64 from__Y)]])), (Prod.mk 19264 (Blk.mk BKind.arr 3 1 (List.replicate (Int.ofNat g_m_Cells.length).toNat [(i64 (0 : Int))]))), (Prod.mk 16000080 (Blk.mk BKind.box 41 1 [[(AVal.slc 19264 (List.replicate (Int.ofNat g_m_Cells.length).toNat [(i64 (0 : Int))]).length)]]))] 2))) && true) && true) = true from (n_andL (n_andL (n_andL rfl (by first | exact verEq_of rfl | simp [verEq, blkLen, blkAt])) rfl) rfl)) (n_bind fun t => (n_bind fun t1 => (n_condH rfl (fun h1 => (n_tru (show (verEq t.length t.length) = true from (verEq_rfl _)) rfl)) fun h1 => (n_tru (show (((true && (verEq t.length (blkLen [(Prod.mk 0 (Blk.mk BKind.box 68 1 [[(AVal.slc 4 0)]])), (Prod.mk 1 (Blk.mk BKind.box 41 1 [[(AVal.slc 5 t.length)]])), (Prod.mk 2 (Blk.mk BKind.box 46 5 [[(i64 g_m_W), (i64 g_m_H), (AVal.ro 3 g_m_Cells), (AVal.ro 1 g_blocked), (i64 g_class)]])), (Prod.mk 3 (Blk.mk BKind.box 3 1 [[(i64 (0 : Int))]])), (Prod.mk 4 (Blk.mk (BKind.ns 0 27 2) 32 1 [])), (Prod.mk 5 (Blk.mk BKind.arr 3 1 t))] 5))) && true) && true) = true from (n_andL (n_andL (n_andL rfl (by first | exact verEq_of rfl | simp [verEq, blkLen, blkAt])) rfl) rfl)) (n_bind fun t2 => (n_tru (show (((true && (verEq t2.2.1.length (blkLen [(Prod.mk 16000 (Blk.mk BKind.box 46 5 [[(i64 g_m_W), (i64 g_m_H), (AVal.ro 3 g_m_Cells), (AVal.ro 1 g_blocked), (i64 g_class)]])), (Prod.mk 19264 (Blk.mk BKind.arr 3 1 t2.2.1)), (Prod.mk 16000080 (Blk.mk BKind.box 41 1 [[(AVal.slc 19264 t2.2.1.length)]])), (Prod.mk 16000113 (Blk.mk (BKind.ns 0 27 2) 32 1 t2.1)), (Prod.mk 16000112 (Blk.mk BKind.box 68 1 [[(AVal.slc 16000113 t2.1.length)]])), (Prod.mk 16000128 (Blk.mk BKind.box 3 1 [[(i64 t2.2.2)]])), (Prod.mk 999 (Blk.mk (BKind.dfr 47 [(AVal.ref 16000128 1 0 0)]) 0 0 []))] 1))) && true) && (((true && (verEq t2.1.length (blkLen [(Prod.mk 16000 (Blk.mk BKind.box 46 5 [[(i64 g_m_W), (i64 g_m_H), (AVal.ro 3 g_m_Cells), (AVal.ro 1 g_blocked), (i64 g_class)]])), (Prod.mk 19264 (Blk.mk BKind.arr 3 1 t2.2.1)), (Prod.mk 16000080 (Blk.mk BKind.box 41 1 [[(AVal.slc 19264 t2.2.1.length)]])), (Prod.mk 16000113 (Blk.mk (BKind.ns 0 27 2) 32 1 t2.1)), (Prod.mk 16000112 (Blk.mk BKind.box 68 1 [[(AVal.slc 16000113 t2.1.length)]])), (Prod.mk 16000128 (Blk.mk BKind.box 3 1 [[(i64 t2.2.2)]])), (Prod.mk 999 (Blk.mk (BKind.dfr 47 [(AVal.ref 16000128 1 0 0)]) 0 0 []))] 3))) && true) && true)) = true from (n_andL (n_andL (n_andL rfl (by first | exact verEq_of rfl | simp [verEq, blkLen, blkAt])) rfl) (n_andL (n_andL (n_andL rfl (by first | exact verEq_of rfl | simp [verEq, blkLen, blkAt])) rfl) rfl))) (n_bind fun t3 => (n_bind fun t4 => (n_tru (show (verEq t3.1.length t3.1.length) = true from (verEq_rfl _)) rfl)))))))))))) fun h0 => rfl)
theorem lib26 : Lib Tryd.prog GL0 C26 :=
  Lib.fnF lib29 mixed TT_ok Tryd.func26 (by decide +kernel) (by kernel_rfl) true L26 (loops_of 4 (by kernel_rfl) (belowS (belowS (belowS (belowS below0 okL26_0) okL26_1) okL26_2) okL26_3)) dok47 ks26 (F := fun us => F_astar_ground__reach (toI (cIa (aggL (cIa us 0)) 0)) (toI (cIa (aggL (cIa us 0)) 1)) (roRows (cIa (aggL (cIa us 0)) 2)) (roRows (cIa (aggL (cIa us 0)) 3)) (toI (cIa (aggL (cIa us 0)) 4)) (toI (cIa (aggL (cIa us 1)) 0)) (toI (cIa (aggL (cIa us 1)) 1))) (fun us => rfl) (fun us => run26 (toI (cIa (aggL (cIa us 0)) 0)) (toI (cIa (aggL (cIa us 0)) 1)) (roRows (cIa (aggL (cIa us 0)) 2)) (roRows (cIa (aggL (cIa us 0)) 3)) (toI (cIa (aggL (cIa us 0)) 4)) (toI (cIa (aggL (cIa us 1)) 0)) (toI (cIa (aggL (cIa us 1)) 1))) (fun t => rfl)
end Go.Proofs.YtclfphmehilaeaaDoor.AI
