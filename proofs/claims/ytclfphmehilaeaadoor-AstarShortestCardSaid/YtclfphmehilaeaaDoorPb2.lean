/- What functions answer: printed by wip/tool2/Ev.lean out of the interpreter's run; each print is checked by Lean. -/
import Derived.Test.YtclfphmehilaeaaDoorPb1
namespace Go.Proofs.YtclfphmehilaeaaDoor.AI
open Go.RowKit
set_option linter.unusedVariables false
set_option linter.unusedSimpArgs false
set_option maxRecDepth 100000
noncomputable def F_skirmishref14_Reach (m_W m_H : Int) (m_Cells blocked : LL) (class_ a_X a_Y : Int) : Option (LL) :=
  Option.bind (F_skirmishref07_Valid m_W m_H m_Cells) fun t =>
  bif (!t) then
    some []
  else
  Option.bind (F_skirmishref14_Class class_) fun t1 =>
  bif (!t1) then
    some []
  else
  Option.bind (F_skirmishref14_inside m_W m_H m_Cells a_X a_Y) fun t2 =>
  bif (!t2) then
    some []
  else
  Option.bind (F_skirmishref14_None (wr (m_W * m_H))) fun t3 =>
  Option.bind (F_skirmishref14_Free m_W m_H m_Cells blocked class_ a_X a_Y) fun t4 =>
  bif (!t4) then
    some t3
  else
  bif ((decide ((0 : Int) ≤ (wr ((wr (a_Y * m_W)) + a_X)))) && (decide ((wr ((wr (a_Y * m_W)) + a_X)) < (Int.ofNat t3.length)))) then
    Option.bind (F_skirmishref14_Spread m_W m_H m_Cells blocked class_ (Blk.rows (Blk.mk BKind.arr 3 1 (List.set t3 (wr ((wr (a_Y * m_W)) + a_X)).toNat [(i64 (0 : Int))])))) fun t5 =>
    some t5
  else
  none
noncomputable def enc19 (t : LL) : CR := ⟨true, (.slc 0 (t).length), [], [⟨.arr, 3, 1, t⟩]⟩
noncomputable def ks19 : List SK := [.agg [.int .i64, .int .i64, .ro 3], .f (.ro 1), .f (.int .i64), .agg [.int .i64, .int .i64]]
noncomputable def S19 (us : List AVal) : Call := bif chkA ks19 us then Call.of (F_skirmishref14_Reach (toI (cIa (aggL (cIa us 0)) 0)) (toI (cIa (aggL (cIa us 0)) 1)) (roRows (cIa (aggL (cIa us 0)) 2)) (roRows (cIa us 1)) (toI (cIa us 2)) (toI (cIa (aggL (cIa us 3)) 0)) (toI (cIa (aggL (cIa us 3)) 1))) enc19 else Call.none
noncomputable def C19 := AI.ext 19 S19 C42
theorem run19 (m_W m_H : Int) (m_Cells blocked : LL) (class_ a_X a_Y : Int) : fcall TT TU GL0 C42 ownFH true noL Tryd.f19 [(.agg [(.sc (.int .i64 m_W)), (.sc (.int .i64 m_H)), (.ro 3 m_Cells)]), (.ro 1 blocked), (.sc (.int .i64 class_)), (.agg [(.sc (.int .i64 a_X)), (.sc (.int .i64 a_Y))])] = (F_skirmishref14_Reach m_W m_H m_Cells blocked class_ a_X a_Y).bind fun t => some (enc19 t) :=
  Eq.trans (by kernel_rfl) (n_bind fun t => (n_condH rfl (fun h0 => rfl) fun h0 => (n_bind fun t1 => (n_condH rfl (fun h1 => rfl) fun h1 => (n_bind fun t2 => (n_condH rfl (fun h2 => rfl) fun h2 => (n_bind fun t3 => (n_tru (show ((((true && (verEq t3.length t3.length)) && true) && true) && true) = true from (n_andL (n_andL (n_andL (n_andL rfl (verEq_rfl _)) rfl) rfl) rfl)) (n_bind fun t4 => (n_condH rfl (fun h3 => (n_tru (show (verEq t3.length t3.length) = true from (verEq_rfl _)) rfl)) fun h3 => (n_condH (show ((((verEq t3.length t3.length) && (decide ((0 : Int) ≤ (wr ((wr (a_Y * m_W)) + a_X))))) && (decide ((wr ((wr (a_Y * m_W)) + a_X)) < (Int.ofNat t3.length))))) = _ from (n_and (n_andL (verEq_rfl _) rfl) rfl)) (fun h4 => (n_tru (show ((((verEq t3.length t3.length) && true) && true) && true) = true from (n_andL (n_andL (n_andL (verEq_rfl _) rfl) rfl) rfl)) (n_tru (show (((true && (verEq t3.length (blkLen [(Prod.mk 0 (Blk.mk BKind.arr 3 1 (List.set t3 (wr ((wr (a_Y * m_W)) + a_X)).toNat [(i64 (0 : Int))])))] 0))) && true) && true) = true from (n_andL (n_andL (n_andL rfl (by first | exact verEq_of rfl | simp [verEq, blkLen, blkAt])) rfl) rfl)) (n_bind fun t5 => (n_tru (show (verEq t5.length t5.length) = true from (verEq_rfl _)) rfl))))) fun h4 => rfl)))))))))))
theorem lib19 : Lib Tryd.prog GL0 C19 :=
  Lib.fn lib42 mixed TT_ok Tryd.func19 (by decide +kernel) (by kernel_rfl) true noL (loops_of 0 (by kernel_rfl) below0) ks19 (F := fun us => F_skirmishref14_Reach (toI (cIa (aggL (cIa us 0)) 0)) (toI (cIa (aggL (cIa us 0)) 1)) (roRows (cIa (aggL (cIa us 0)) 2)) (roRows (cIa us 1)) (toI (cIa us 2)) (toI (cIa (aggL (cIa us 3)) 0)) (toI (cIa (aggL (cIa us 3)) 1))) (fun us => rfl) (fun us => run19 (toI (cIa (aggL (cIa us 0)) 0)) (toI (cIa (aggL (cIa us 0)) 1)) (roRows (cIa (aggL (cIa us 0)) 2)) (roRows (cIa us 1)) (toI (cIa us 2)) (toI (cIa (aggL (cIa us 3)) 0)) (toI (cIa (aggL (cIa us 3)) 1))) (fun t => rfl)
noncomputable def W13_0 : Ex → List Bool
  | .ret => [false, false, false, false, false, false, false, false, false, false, true, true, true, false, false, false, false, false, false, false, false, false, false, false, false, false, false, false, false, false, false, false, false, false, false, false, false, false, false, false, false, false, false, false, false, false, false, false, false, false, false, false, false, false, false, false, false, false, false, false, false, false, false, false, false, false, false, false, false, false, false, false, false, false, false, false, false, false, false, false, false, false, false, false, false, false, false, false, false, false, false, false, false, false, false, false, false, false, false, false, false, false, false, false, false, false, false, false, false, false, false, false, false, false, false, false, false, false, false, false, false, false, false, false, false, false, false, false, false, false, false, false]
  | .exit n => bif Nat.beq n 0 then [false, false, false, false, false, false, false, false, false, false, false, false, false, false, true, true, false, false, false, false, false, false, false, false, false, false, false, false, false, false, false, false, false, false, false, false, false, false, false, false, false, false, false, false, false, false, false, false, false, false, false, false, false, false, false, false, false, false, false, false, false, false, false, false, false, false, false, false, false, false, false, false, false, false, false, false, false, false, false, false, false, false, false, false, false, false, false, false, false, false, false, false, false, false, false, false, false, false, false, false, false, false, false, false, false, false, false, false, false, false, false, false, false, false, false, false, false, false, false, false, false, false, false, false, false, false, false, false, false, false, false, false] else []
  | _ => []
noncomputable def G_skirmishref14_Path_0 (R2 blocked : LL) (class_ b0_0 b0_1 : Int) (b0_2 : LL) (b1_0 b1_1 : Int) : Nat → LL → Int → Int → Int → Option (LL)
  | 0, _, _, _, _ => none
  | m + 1, R3, dir, b4_0, b4_1 =>
    bif (!((b4_0 == b1_0) && (b4_1 == b1_1))) then
      bif (decide (dir < (8 : Int))) then
        Option.bind (F_skirmishref07_Step b0_0 b0_1 b0_2 blocked class_ b4_0 b4_1 dir) fun t =>
        Option.bind (F_skirmishref14_Beside b4_0 b4_1 dir) fun t1 =>
        bif t.2 then
          bif ((decide ((0 : Int) ≤ (wr ((wr (t1.2 * b0_0)) + t1.1)))) && (decide ((wr ((wr (t1.2 * b0_0)) + t1.1)) < (Int.ofNat R2.length)))) then
            Option.bind (R2[(wr ((wr (t1.2 * b0_0)) + t1.1)).toNat]?) fun r =>
            bif (chk [(LT.int IntKind.i64)] r) then
              bif ((decide ((0 : Int) ≤ (wr ((wr (b4_1 * b0_0)) + b4_0)))) && (decide ((wr ((wr (b4_1 * b0_0)) + b4_0)) < (Int.ofNat R2.length)))) then
                Option.bind (R2[(wr ((wr (b4_1 * b0_0)) + b4_0)).toNat]?) fun r1 =>
                bif (chk [(LT.int IntKind.i64)] r1) then
                  bif ((cI r 0) == (wr ((cI r1 0) - t.1))) then
                    bif (roomOk (R3.length + 1) 16) then
                      G_skirmishref14_Path_0 R2 blocked class_ b0_0 b0_1 b0_2 b1_0 b1_1 m (R3 ++ [[(i64 t1.1), (i64 t1.2)]]) (0 : Int) t1.1 t1.2
                    else
                    none
                  else
                  G_skirmishref14_Path_0 R2 blocked class_ b0_0 b0_1 b0_2 b1_0 b1_1 m R3 (wr (dir + (1 : Int))) b4_0 b4_1
                else
                none
              else
              none
            else
            none
          else
          none
        else
        G_skirmishref14_Path_0 R2 blocked class_ b0_0 b0_1 b0_2 b1_0 b1_1 m R3 (wr (dir + (1 : Int))) b4_0 b4_1
      else
      some R3
    else
    some R3
noncomputable def E13_0 (R2 R3 blocked : LL) (class_ total dir b0_0 b0_1 : Int) (b0_2 : LL) (b1_0 b1_1 b4_0 b4_1 : Int) : St := ⟨[.dead, (.ro 1 blocked), (.sc (.int .i64 class_)), .dead, .dead, (.ref 16000 1 0 0), .dead, .dead, .dead, (.ref 16032 1 0 0), .dead, .dead, .dead, (.slc 32064 (R2).length), (.sc (.int .i64 total)), (.slc 44816 (R3).length), (.ref 16000256 1 0 0), (.sc (.int .i64 dir)), .dead, .dead, .dead, .dead, .dead, .dead, .dead, .dead, .dead, .dead, .dead, .dead, .dead, .dead, .dead, .dead, .dead, .dead, .dead, .dead, .dead, .dead, .dead, .dead, .dead, .dead, .dead, .dead, .dead, .dead, .dead, .dead, .dead, .dead, .dead, .dead, .dead, .dead, .dead, .dead, .dead, .dead, .dead, .dead, .dead, .dead, .dead, .dead, .dead, .dead, .dead, .dead, .dead, .dead, .dead, .dead, .dead, .dead, .dead, .dead, .dead, .dead, .dead, .dead, .dead, .dead, .dead, .dead, .dead, .dead, .dead, .dead, .dead, .dead, .dead, .dead, .dead, .dead, .dead, .dead, .dead, .dead, .dead, .dead, .dead, .dead, .dead, .dead, .dead, .dead, .dead, .dead, .dead, .dead, .dead, .dead, .dead, .dead, .dead, .dead, .dead, .dead, .dead, .dead, .dead, .dead, .dead, .dead, .dead, .dead, .dead, .dead, .dead, .dead], [(16000, ⟨.box, 24, 3, [[(.sc (.int .i64 b0_0)), (.sc (.int .i64 b0_1)), (.ro 3 b0_2)]]⟩), (16032, ⟨.box, 27, 2, [[(.sc (.int .i64 b1_0)), (.sc (.int .i64 b1_1))]]⟩), (32064, ⟨.arr, 3, 1, R2⟩), (44816, ⟨.arr, 27, 2, R3⟩), (16000256, ⟨.box, 27, 2, [[(.sc (.int .i64 b4_0)), (.sc (.int .i64 b4_1))]]⟩)]⟩
noncomputable def X13_0 (total : Int) (k : Ex → St → Option CR) (t : LL) : Option CR := k (.exit 0) ⟨[.dead, .dead, .dead, .dead, .dead, .dead, .dead, .dead, .dead, .dead, .dead, .dead, .dead, .dead, (.sc (.int .i64 total)), (.slc 44816 (t).length), .dead, .dead, .dead, .dead, .dead, .dead, .dead, .dead, .dead, .dead, .dead, .dead, .dead, .dead, .dead, .dead, .dead, .dead, .dead, .dead, .dead, .dead, .dead, .dead, .dead, .dead, .dead, .dead, .dead, .dead, .dead, .dead, .dead, .dead, .dead, .dead, .dead, .dead, .dead, .dead, .dead, .dead, .dead, .dead, .dead, .dead, .dead, .dead, .dead, .dead, .dead, .dead, .dead, .dead, .dead, .dead, .dead, .dead, .dead, .dead, .dead, .dead, .dead, .dead, .dead, .dead, .dead, .dead, .dead, .dead, .dead, .dead, .dead, .dead, .dead, .dead, .dead, .dead, .dead, .dead, .dead, .dead, .dead, .dead, .dead, .dead, .dead, .dead, .dead, .dead, .dead, .dead, .dead, .dead, .dead, .dead, .dead, .dead, .dead, .dead, .dead, .dead, .dead, .dead, .dead, .dead, .dead, .dead, .dead, .dead, .dead, .dead, .dead, .dead, .dead, .dead], [(44816, ⟨.arr, 27, 2, t⟩)]⟩
noncomputable def ks13_0 : List SK := [.f .dead, .f (.ro 1), .f (.int .i64), .f .dead, .f .dead, .f (.ref 16000 1 0 0), .f .dead, .f .dead, .f .dead, .f (.ref 16032 1 0 0), .f .dead, .f .dead, .f .dead, .f (.slc 32064 2), .f (.int .i64), .f (.slc 44816 3), .f (.ref 16000256 1 0 0), .f (.int .i64), .f .dead, .f .dead, .f .dead, .f .dead, .f .dead, .f .dead, .f .dead, .f .dead, .f .dead, .f .dead, .f .dead, .f .dead, .f .dead, .f .dead, .f .dead, .f .dead, .f .dead, .f .dead, .f .dead, .f .dead, .f .dead, .f .dead, .f .dead, .f .dead, .f .dead, .f .dead, .f .dead, .f .dead, .f .dead, .f .dead, .f .dead, .f .dead, .f .dead, .f .dead, .f .dead, .f .dead, .f .dead, .f .dead, .f .dead, .f .dead, .f .dead, .f .dead, .f .dead, .f .dead, .f .dead, .f .dead, .f .dead, .f .dead, .f .dead, .f .dead, .f .dead, .f .dead, .f .dead, .f .dead, .f .dead, .f .dead, .f .dead, .f .dead, .f .dead, .f .dead, .f .dead, .f .dead, .f .dead, .f .dead, .f .dead, .f .dead, .f .dead, .f .dead, .f .dead, .f .dead, .f .dead, .f .dead, .f .dead, .f .dead, .f .dead, .f .dead, .f .dead, .f .dead, .f .dead, .f .dead, .f .dead, .f .dead, .f .dead, .f .dead, .f .dead, .f .dead, .f .dead, .f .dead, .f .dead, .f .dead, .f .dead, .f .dead, .f .dead, .f .dead, .f .dead, .f .dead, .f .dead, .f .dead, .f .dead, .f .dead, .f .dead, .f .dead, .f .dead, .f .dead, .f .dead, .f .dead, .f .dead, .f .dead, .f .dead, .f .dead, .f .dead, .f .dead, .f .dead, .f .dead]
noncomputable def hs13_0 : List HK := [⟨16000, .box, 24, 3, some [.int .i64, .int .i64, .ro 3]⟩, ⟨16032, .box, 27, 2, some [.int .i64, .int .i64]⟩, ⟨32064, .arr, 3, 1, none⟩, ⟨44816, .arr, 27, 2, none⟩, ⟨16000256, .box, 27, 2, some [.int .i64, .int .i64]⟩]
noncomputable def Lm13_0 (s : St) (k : Ex → St → Option CR) : Option CR := bif chkS ks13_0 hs13_0 s then (G_skirmishref14_Path_0 (blkAt s.heap 2).2.rows (roRows (cIa s.tmps 1)) (toI (cIa s.tmps 2)) (toI (cIa (rows0 (blkAt s.heap 0).2) 0)) (toI (cIa (rows0 (blkAt s.heap 0).2) 1)) (roRows (cIa (rows0 (blkAt s.heap 0).2) 2)) (toI (cIa (rows0 (blkAt s.heap 1).2) 0)) (toI (cIa (rows0 (blkAt s.heap 1).2) 1)) FU (blkAt s.heap 3).2.rows (toI (cIa s.tmps 17)) (toI (cIa (rows0 (blkAt s.heap 4).2) 0)) (toI (cIa (rows0 (blkAt s.heap 4).2) 1))).bind (X13_0 (toI (cIa s.tmps 14)) k) else none
noncomputable def L13_0 (s : St) (k : Ex → St → Option CR) : Option CR := Lm13_0 (maskS (maskOf ks13_0) s) k
noncomputable def L13 : LT' := fun i s k => bif Nat.beq i 0 then L13_0 s k else none
noncomputable def F_skirmishref14_Path (m_W m_H : Int) (m_Cells blocked : LL) (class_ a_X a_Y b_X b_Y : Int) : Option (LL × Int × Int) :=
  Option.bind (F_skirmishref07_Valid m_W m_H m_Cells) fun t =>
  bif (!t) then
    some ([], (0 : Int), (1 : Int))
  else
  Option.bind (F_skirmishref14_Class class_) fun t1 =>
  bif (!t1) then
    some ([], (0 : Int), (1 : Int))
  else
  Option.bind (F_skirmishref14_inside m_W m_H m_Cells a_X a_Y) fun t2 =>
  bif (!t2) then
    some ([], (0 : Int), (1 : Int))
  else
  Option.bind (F_skirmishref14_inside m_W m_H m_Cells b_X b_Y) fun t3 =>
  bif (!t3) then
    some ([], (0 : Int), (1 : Int))
  else
  Option.bind (F_skirmishref14_Free m_W m_H m_Cells blocked class_ a_X a_Y) fun t4 =>
  bif (!t4) then
    some ([], (0 : Int), (9 : Int))
  else
  Option.bind (F_skirmishref14_Free m_W m_H m_Cells blocked class_ b_X b_Y) fun t5 =>
  bif (!t5) then
    some ([], (0 : Int), (9 : Int))
  else
  Option.bind (F_skirmishref14_Reach m_W m_H m_Cells blocked class_ b_X b_Y) fun t6 =>
  bif ((decide ((0 : Int) ≤ (wr ((wr (a_Y * m_W)) + a_X)))) && (decide ((wr ((wr (a_Y * m_W)) + a_X)) < (Int.ofNat t6.length)))) then
    Option.bind (t6[(wr ((wr (a_Y * m_W)) + a_X)).toNat]?) fun r =>
    bif (chk [(LT.int IntKind.i64)] r) then
      bif (decide ((cI r 0) < (0 : Int))) then
        some ([], (0 : Int), (22 : Int))
      else
      Option.bind (G_skirmishref14_Path_0 t6 blocked class_ m_W m_H m_Cells b_X b_Y FU [[(i64 a_X), (i64 a_Y)]] (0 : Int) a_X a_Y) fun t7 =>
      some (t7, (cI r 0), (0 : Int))
    else
    none
  else
  none
noncomputable def enc13 (t : LL × Int × Int) : CR := ⟨true, (.tup [(.slc 0 (t.1).length), (.sc (.int .i64 t.2.1)), (.sc (.int .i64 t.2.2))]), [], [⟨.arr, 27, 2, t.1⟩]⟩
noncomputable def ks13 : List SK := [.agg [.int .i64, .int .i64, .ro 3], .f (.ro 1), .f (.int .i64), .agg [.int .i64, .int .i64], .agg [.int .i64, .int .i64]]
noncomputable def S13 (us : List AVal) : Call := bif chkA ks13 us then Call.of (F_skirmishref14_Path (toI (cIa (aggL (cIa us 0)) 0)) (toI (cIa (aggL (cIa us 0)) 1)) (roRows (cIa (aggL (cIa us 0)) 2)) (roRows (cIa us 1)) (toI (cIa us 2)) (toI (cIa (aggL (cIa us 3)) 0)) (toI (cIa (aggL (cIa us 3)) 1)) (toI (cIa (aggL (cIa us 4)) 0)) (toI (cIa (aggL (cIa us 4)) 1))) enc13 else Call.none
noncomputable def C13 := AI.ext 13 S13 C19
@[reducible] noncomputable def B13_0 := bodyOf TT TU GL0 C19 ownF L13 (lp Tryd.f13 0)
@[reducible] noncomputable def K13_0 (k : Ex → St → Option CR) : Ex → St → Option CR := fun e s => k e (maskS (W13_0 e) s)
theorem spec13_0 (k : Ex → St → Option CR) : ∀ (m : Nat) (R2 R3 blocked : LL) (class_ total dir b0_0 b0_1 : Int) (b0_2 : LL) (b1_0 b1_1 b4_0 b4_1 : Int), loopN B13_0 m (E13_0 R2 R3 blocked class_ total dir b0_0 b0_1 b0_2 b1_0 b1_1 b4_0 b4_1) (K13_0 k) = (G_skirmishref14_Path_0 R2 blocked class_ b0_0 b0_1 b0_2 b1_0 b1_1 m R3 dir b4_0 b4_1).bind (X13_0 total k)
  | 0, _, _, _, _, _, _, _, _, _, _, _, _, _ => rfl
  | m + 1, R2, R3, blocked, class_, total, dir, b0_0, b0_1, b0_2, b1_0, b1_1, b4_0, b4_1 =>
    Eq.trans (by kernel_rfl) (n_condH rfl (fun h0 => (n_condH rfl (fun h1 => (n_bind fun t => (n_bind fun t1 => (n_condH rfl (fun h2 => (n_condH (show ((((verEq R2.length R2.length) && (decide ((0 : Int) ≤ (wr ((wr (t1.2 * b0_0)) + t1.1))))) && (decide ((wr ((wr (t1.2 * b0_0)) + t1.1)) < (Int.ofNat R2.length))))) = _ from (n_and (n_andL (verEq_rfl _) rfl) rfl)) (fun h3 => (n_tru (show (verEq R2.length R2.length) = true from (verEq_rfl _)) (n_bind fun r => (n_condH rfl (fun h4 => (n_condH (show ((((verEq R2.length R2.length) && (decide ((0 : Int) ≤ (wr ((wr (b4_1 * b0_0)) + b4_0))))) && (decide ((wr ((wr (b4_1 * b0_0)) + b4_0)) < (Int.ofNat R2.length))))) = _ from (n_and (n_andL (verEq_rfl _) rfl) rfl)) (fun h5 => (n_tru (show (verEq R2.length R2.length) = true from (verEq_rfl _)) (n_bind fun r1 => (n_condH rfl (fun h6 => (n_condH rfl (fun h7 => (n_condH (show ((((verEq R3.length R3.length) && true) && (roomOk (R3.length + 1) 16))) = _ from (n_andL (n_andL (verEq_rfl _) rfl) rfl)) (fun h8 => (spec13_0 k m R2 (R3 ++ [[(i64 t1.1), (i64 t1.2)]]) blocked class_ total (0 : Int) b0_0 b0_1 b0_2 b1_0 b1_1 t1.1 t1.2)) fun h8 => rfl)) fun h7 => (spec13_0 k m R2 R3 blocked class_ total (wr (dir + (1 : Int))) b0_0 b0_1 b0_2 b1_0 b1_1 b4_0 b4_1))) fun h6 => rfl)))) fun h5 => rfl)) fun h4 => rfl)))) fun h3 => rfl)) fun h2 => (spec13_0 k m R2 R3 blocked class_ total (wr (dir + (1 : Int))) b0_0 b0_1 b0_2 b1_0 b1_1 b4_0 b4_1))))) fun h1 => rfl)) fun h0 => rfl)
theorem okL13_0 : LoopOk TT TU GL0 C19 ownF L13 (lp Tryd.f13 0) :=
  loopOk_of ks13_0 hs13_0 W13_0 FU (fun s k => (G_skirmishref14_Path_0 (blkAt s.heap 2).2.rows (roRows (cIa s.tmps 1)) (toI (cIa s.tmps 2)) (toI (cIa (rows0 (blkAt s.heap 0).2) 0)) (toI (cIa (rows0 (blkAt s.heap 0).2) 1)) (roRows (cIa (rows0 (blkAt s.heap 0).2) 2)) (toI (cIa (rows0 (blkAt s.heap 1).2) 0)) (toI (cIa (rows0 (blkAt s.heap 1).2) 1)) FU (blkAt s.heap 3).2.rows (toI (cIa s.tmps 17)) (toI (cIa (rows0 (blkAt s.heap 4).2) 0)) (toI (cIa (rows0 (blkAt s.heap 4).2) 1))).bind (X13_0 (toI (cIa s.tmps 14)) k)) (fun s k => by kernel_rfl) (fun s k => spec13_0 k FU (blkAt s.heap 2).2.rows (blkAt s.heap 3).2.rows (roRows (cIa s.tmps 1)) (toI (cIa s.tmps 2)) (toI (cIa s.tmps 14)) (toI (cIa s.tmps 17)) (toI (cIa (rows0 (blkAt s.heap 0).2) 0)) (toI (cIa (rows0 (blkAt s.heap 0).2) 1)) (roRows (cIa (rows0 (blkAt s.heap 0).2) 2)) (toI (cIa (rows0 (blkAt s.heap 1).2) 0)) (toI (cIa (rows0 (blkAt s.heap 1).2) 1)) (toI (cIa (rows0 (blkAt s.heap 4).2) 0)) (toI (cIa (rows0 (blkAt s.heap 4).2) 1)))
theorem run13 (m_W m_H : Int) (m_Cells blocked : LL) (class_ a_X a_Y b_X b_Y : Int) : fcall TT TU GL0 C19 ownF true L13 Tryd.f13 [(.agg [(.sc (.int .i64 m_W)), (.sc (.int .i64 m_H)), (.ro 3 m_Cells)]), (.ro 1 blocked), (.sc (.int .i64 class_)), (.agg [(.sc (.int .i64 a_X)), (.sc (.int .i64 a_Y))]), (.agg [(.sc (.int .i64 b_X)), (.sc (.int .i64 b_Y))])] = (F_skirmishref14_Path m_W m_H m_Cells blocked class_ a_X a_Y b_X b_Y).bind fun t => some (enc13 t) :=
  Eq.trans (by kernel_rfl) (n_bind fun t => (n_condH rfl (fun h0 => rfl) fun h0 => (n_bind fun t1 => (n_condH rfl (fun h1 => rfl) fun h1 => (n_bind fun t2 => (n_condH rfl (fun h2 => rfl) fun h2 => (n_bind fun t3 => (n_condH rfl (fun h3 => rfl) fun h3 => (n_bind fun t4 => (n_condH rfl (fun h4 => rfl) fun h4 => (n_bind fun t5 => (n_condH rfl (fun h5 => rfl) fun h5 => (n_bind fun t6 => (n_tru (show ((((true && (verEq t6.length t6.length)) && true) && true) && true) = true from (n_andL (n_andL (n_andL (n_andL rfl (verEq_rfl _)) rfl) rfl) rfl)) (n_condH (show ((((verEq t6.length t6.length) && (decide ((0 : Int) ≤ (wr ((wr (a_Y * m_W)) + a_X))))) && (decide ((wr ((wr (a_Y * m_W)) + a_X)) < (Int.ofNat t6.length))))) = _ from (n_and (n_andL (verEq_rfl _) rfl) rfl)) (fun h6 => (n_tru (show (verEq t6.length t6.length) = true from (verEq_rfl _)) (n_bind fun r => (n_condH rfl (fun h7 => (n_condH rfl (fun h8 => rfl) fun h8 => (n_tru (show (((true && (verEq t6.length (blkLen [(Prod.mk 16000 (Blk.mk BKind.box 24 3 [[(i64 m_W), (i64 m_H), (AVal.ro 3 m_Cells)]])), (Prod.mk 16032 (Blk.mk BKind.box 27 2 [[(i64 b_X), (i64 b_Y)]])), (Prod.mk 32064 (Blk.mk BKind.arr 3 1 t6)), (Prod.mk 44816 (Blk.mk BKind.arr 27 2 [[(i64 a_X), (i64 a_Y)]])), (Prod.mk 16000256 (Blk.mk BKind.box 27 2 [[(i64 a_X), (i64 a_Y)]]))] 2))) && true) && true) = true from (n_andL (n_andL (n_andL rfl (by first | exact verEq_of rfl | simp [verEq, blkLen, blkAt])) rfl) rfl)) (n_bind fun t7 => (n_tru (show (verEq t7.length t7.length) = true from (verEq_rfl _)) rfl))))) fun h7 => rfl)))) fun h6 => rfl)))))))))))))))
theorem lib13 : Lib Tryd.prog GL0 C13 :=
  Lib.fn lib19 mixed TT_ok Tryd.func13 (by decide +kernel) (by kernel_rfl) true L13 (loops_of 1 (by kernel_rfl) (belowS below0 okL13_0)) ks13 (F := fun us => F_skirmishref14_Path (toI (cIa (aggL (cIa us 0)) 0)) (toI (cIa (aggL (cIa us 0)) 1)) (roRows (cIa (aggL (cIa us 0)) 2)) (roRows (cIa us 1)) (toI (cIa us 2)) (toI (cIa (aggL (cIa us 3)) 0)) (toI (cIa (aggL (cIa us 3)) 1)) (toI (cIa (aggL (cIa us 4)) 0)) (toI (cIa (aggL (cIa us 4)) 1))) (fun us => rfl) (fun us => run13 (toI (cIa (aggL (cIa us 0)) 0)) (toI (cIa (aggL (cIa us 0)) 1)) (roRows (cIa (aggL (cIa us 0)) 2)) (roRows (cIa us 1)) (toI (cIa us 2)) (toI (cIa (aggL (cIa us 3)) 0)) (toI (cIa (aggL (cIa us 3)) 1)) (toI (cIa (aggL (cIa us 4)) 0)) (toI (cIa (aggL (cIa us 4)) 1))) (fun t => rfl)
noncomputable def W14_0 : Ex → List Bool
  | .ret => [false, false, false, false, true, false, false, false, false, false, false, false, false, false, false, false, false, false, false, false, false, false, false, false, false, false]
  | .exit n => bif Nat.beq n 0 then [false, false, false, false, false, false, false, false, false, false, false, false, false, false, false, false, false, false, false, false, false, false, false, false, false, false] else []
  | _ => []
noncomputable def G_skirmishref14_SamePath_0 (a b : LL) : Nat → Int → Option (Bool)
  | 0, _ => none
  | m + 1, i =>
    bif (decide (i < (Int.ofNat a.length))) then
      bif (decide ((0 : Int) ≤ i)) then
        Option.bind (a[i.toNat]?) fun r =>
        bif (chk [(LT.int IntKind.i64), (LT.int IntKind.i64)] r) then
          Option.bind (b[i.toNat]?) fun r1 =>
          bif (chk [(LT.int IntKind.i64), (LT.int IntKind.i64)] r1) then
            bif (!(((cI r 0) == (cI r1 0)) && ((cI r 1) == (cI r1 1)))) then
              some true
            else
            G_skirmishref14_SamePath_0 a b m (wr (i + (1 : Int)))
          else
          none
        else
        none
      else
      none
    else
    some false
noncomputable def E14_0 (a b : LL) (i : Int) : St := ⟨[(.ro 2 a), (.ro 2 b), .dead, .dead, .dead, (.sc (.int .i64 i)), .dead, .dead, .dead, .dead, .dead, .dead, .dead, .dead, .dead, .dead, .dead, .dead, .dead, .dead, .dead, .dead, .dead, .dead, .dead, .dead], []⟩
noncomputable def X14_0 (k : Ex → St → Option CR) (t : Bool) : Option CR := bif t then k .ret ⟨[.dead, .dead, .dead, .dead, (.sc (.bool false)), .dead, .dead, .dead, .dead, .dead, .dead, .dead, .dead, .dead, .dead, .dead, .dead, .dead, .dead, .dead, .dead, .dead, .dead, .dead, .dead, .dead], []⟩ else k (.exit 0) ⟨[.dead, .dead, .dead, .dead, .dead, .dead, .dead, .dead, .dead, .dead, .dead, .dead, .dead, .dead, .dead, .dead, .dead, .dead, .dead, .dead, .dead, .dead, .dead, .dead, .dead, .dead], []⟩
noncomputable def ks14_0 : List SK := [.f (.ro 2), .f (.ro 2), .f .dead, .f .dead, .f .dead, .f (.int .i64), .f .dead, .f .dead, .f .dead, .f .dead, .f .dead, .f .dead, .f .dead, .f .dead, .f .dead, .f .dead, .f .dead, .f .dead, .f .dead, .f .dead, .f .dead, .f .dead, .f .dead, .f .dead, .f .dead, .f .dead]
noncomputable def hs14_0 : List HK := []
noncomputable def Lm14_0 (s : St) (k : Ex → St → Option CR) : Option CR := bif chkS ks14_0 hs14_0 s then (G_skirmishref14_SamePath_0 (roRows (cIa s.tmps 0)) (roRows (cIa s.tmps 1)) FU (toI (cIa s.tmps 5))).bind (X14_0 k) else none
noncomputable def L14_0 (s : St) (k : Ex → St → Option CR) : Option CR := Lm14_0 (maskS (maskOf ks14_0) s) k
noncomputable def L14 : LT' := fun i s k => bif Nat.beq i 0 then L14_0 s k else none
noncomputable def F_skirmishref14_SamePath (a b : LL) : Option (Bool) :=
  bif ((Int.ofNat a.length) != (Int.ofNat b.length)) then
    some false
  else
  Option.bind (G_skirmishref14_SamePath_0 a b FU (0 : Int)) fun t =>
  bif t then
    some false
  else
  some true
noncomputable def enc14 (t : Bool) : CR := ⟨true, (.sc (.bool t)), [], []⟩
noncomputable def ks14 : List SK := [.f (.ro 2), .f (.ro 2)]
noncomputable def S14 (us : List AVal) : Call := bif chkA ks14 us then Call.of (F_skirmishref14_SamePath (roRows (cIa us 0)) (roRows (cIa us 1))) enc14 else Call.none
noncomputable def C14 := AI.ext 14 S14 C13
@[reducible] noncomputable def B14_0 := bodyOf TT TU GL0 C13 ownF L14 (lp Tryd.f14 0)
@[reducible] noncomputable def K14_0 (k : Ex → St → Option CR) : Ex → St → Option CR := fun e s => k e (maskS (W14_0 e) s)
theorem spec14_0 (k : Ex → St → Option CR) : ∀ (m : Nat) (a b : LL) (i : Int), loopN B14_0 m (E14_0 a b i) (K14_0 k) = (G_skirmishref14_SamePath_0 a b m i).bind (X14_0 k)
  | 0, _, _, _ => rfl
  | m + 1, a, b, i =>
    Eq.trans (by kernel_rfl) (n_condH rfl (fun h0 => (n_condH rfl (fun h1 => (n_bind fun r => (n_condH rfl (fun h2 => (n_tru h1 (n_bind fun r1 => (n_condH rfl (fun h3 => (n_condH rfl (fun h4 => rfl) fun h4 => (spec14_0 k m a b (wr (i + (1 : Int)))))) fun h3 => rfl)))) fun h2 => rfl))) fun h1 => rfl)) fun h0 => rfl)
theorem okL14_0 : LoopOk TT TU GL0 C13 ownF L14 (lp Tryd.f14 0) :=
  loopOk_of ks14_0 hs14_0 W14_0 FU (fun s k => (G_skirmishref14_SamePath_0 (roRows (cIa s.tmps 0)) (roRows (cIa s.tmps 1)) FU (toI (cIa s.tmps 5))).bind (X14_0 k)) (fun s k => by kernel_rfl) (fun s k => spec14_0 k FU (roRows (cIa s.tmps 0)) (roRows (cIa s.tmps 1)) (toI (cIa s.tmps 5)))
theorem run14 (a b : LL) : fcall TT TU GL0 C13 ownF true L14 Tryd.f14 [(.ro 2 a), (.ro 2 b)] = (F_skirmishref14_SamePath a b).bind fun t => some (enc14 t) :=
  Eq.trans (by kernel_rfl) (n_condH rfl (fun h0 => rfl) fun h0 => (n_bind fun t => (n_condH rfl (fun h1 => rfl) fun h1 => rfl)))
theorem lib14 : Lib Tryd.prog GL0 C14 :=
  Lib.fn lib13 mixed TT_ok Tryd.func14 (by decide +kernel) (by kernel_rfl) true L14 (loops_of 1 (by kernel_rfl) (belowS below0 okL14_0)) ks14 (F := fun us => F_skirmishref14_SamePath (roRows (cIa us 0)) (roRows (cIa us 1))) (fun us => rfl) (fun us => run14 (roRows (cIa us 0)) (roRows (cIa us 1))) (fun t => rfl)
noncomputable def F_skirmishlaw14_AstarPaths (x_M_W x_M_H : Int) (x_M_Cells x_Blocked : LL) (x_Class x_A_X x_A_Y x_B_X x_B_Y x_C_X x_C_Y : Int) : Option (Bool) :=
  Option.bind (F_skirmishlaw14_small x_M_W x_M_H x_M_Cells x_Blocked x_Class x_A_X x_A_Y x_B_X x_B_Y x_C_X x_C_Y) fun t =>
  bif (!t) then
    Option.bind F_skirmishlaw14_alive fun t1 =>
    some t1
  else
  Option.bind (F_astar_Path x_M_W x_M_H x_M_Cells x_Blocked x_Class x_A_X x_A_Y x_B_X x_B_Y) fun t2 =>
  Option.bind (F_skirmishref14_Path x_M_W x_M_H x_M_Cells x_Blocked x_Class x_A_X x_A_Y x_B_X x_B_Y) fun t3 =>
  Option.bind (F_skirmishref14_SamePath t2.1 t3.1) fun t4 =>
  bif t4 then
    bif (t2.2.1 == t3.2.1) then
      bif (t2.2.2 == t3.2.2) then
        Option.bind F_skirmishlaw14_alive fun t5 =>
        some t5
      else
      some false
    else
    some false
  else
  some false
noncomputable def enc3 (t : Bool) : CR := ⟨true, (.sc (.bool t)), [], []⟩
noncomputable def ks3 : List SK := [.agg [.int .i64, .int .i64, .ro 3, .ro 1, .int .i64, .int .i64, .int .i64, .int .i64, .int .i64, .int .i64, .int .i64]]
noncomputable def S3 (us : List AVal) : Call := bif chkA ks3 us then Call.of (F_skirmishlaw14_AstarPaths (toI (cIa (aggL (cIa us 0)) 0)) (toI (cIa (aggL (cIa us 0)) 1)) (roRows (cIa (aggL (cIa us 0)) 2)) (roRows (cIa (aggL (cIa us 0)) 3)) (toI (cIa (aggL (cIa us 0)) 4)) (toI (cIa (aggL (cIa us 0)) 5)) (toI (cIa (aggL (cIa us 0)) 6)) (toI (cIa (aggL (cIa us 0)) 7)) (toI (cIa (aggL (cIa us 0)) 8)) (toI (cIa (aggL (cIa us 0)) 9)) (toI (cIa (aggL (cIa us 0)) 10))) enc3 else Call.none
noncomputable def C3 := AI.ext 3 S3 C14
theorem run3 (x_M_W x_M_H : Int) (x_M_Cells x_Blocked : LL) (x_Class x_A_X x_A_Y x_B_X x_B_Y x_C_X x_C_Y : Int) : fcall TT TU GL0 C14 ownF true noL Tryd.f3 [(.agg [(.sc (.int .i64 x_M_W)), (.sc (.int .i64 x_M_H)), (.ro 3 x_M_Cells), (.ro 1 x_Blocked), (.sc (.int .i64 x_Class)), (.sc (.int .i64 x_A_X)), (.sc (.int .i64 x_A_Y)), (.sc (.int .i64 x_B_X)), (.sc (.int .i64 x_B_Y)), (.sc (.int .i64 x_C_X)), (.sc (.int .i64 x_C_Y))])] = (F_skirmishlaw14_AstarPaths x_M_W x_M_H x_M_Cells x_Blocked x_Class x_A_X x_A_Y x_B_X x_B_Y x_C_X x_C_Y).bind fun t => some (enc3 t) :=
  Eq.trans (by kernel_rfl) (n_bind fun t => (n_condH rfl (fun h0 => (n_bind fun t1 => rfl)) fun h0 => (n_bind fun t2 => (n_tru (show ((((true && (verEq t2.1.length t2.1.length)) && true) && true) && true) = true from (n_andL (n_andL (n_andL (n_andL rfl (verEq_rfl _)) rfl) rfl) rfl)) (n_bind fun t3 => (n_tru (show ((((true && (verEq t3.1.length t3.1.length)) && true) && true) && true) = true from (n_andL (n_andL (n_andL (n_andL rfl (verEq_rfl _)) rfl) rfl) rfl)) (n_tru (show (verEq t2.1.length t2.1.length) = true from (verEq_rfl _)) (n_tru (show (verEq t3.1.length t3.1.length) = true from (verEq_rfl _)) (n_bind fun t4 => (n_condH rfl (fun h1 => (n_condH rfl (fun h2 => (n_condH rfl (fun h3 => (n_bind fun t5 => rfl)) fun h3 => rfl)) fun h2 => rfl)) fun h1 => rfl))))))))))
theorem lib3 : Lib Tryd.prog GL0 C3 :=
  Lib.fn lib14 mixed TT_ok Tryd.func3 (by decide +kernel) (by kernel_rfl) true noL (loops_of 0 (by kernel_rfl) below0) ks3 (F := fun us => F_skirmishlaw14_AstarPaths (toI (cIa (aggL (cIa us 0)) 0)) (toI (cIa (aggL (cIa us 0)) 1)) (roRows (cIa (aggL (cIa us 0)) 2)) (roRows (cIa (aggL (cIa us 0)) 3)) (toI (cIa (aggL (cIa us 0)) 4)) (toI (cIa (aggL (cIa us 0)) 5)) (toI (cIa (aggL (cIa us 0)) 6)) (toI (cIa (aggL (cIa us 0)) 7)) (toI (cIa (aggL (cIa us 0)) 8)) (toI (cIa (aggL (cIa us 0)) 9)) (toI (cIa (aggL (cIa us 0)) 10))) (fun us => rfl) (fun us => run3 (toI (cIa (aggL (cIa us 0)) 0)) (toI (cIa (aggL (cIa us 0)) 1)) (roRows (cIa (aggL (cIa us 0)) 2)) (roRows (cIa (aggL (cIa us 0)) 3)) (toI (cIa (aggL (cIa us 0)) 4)) (toI (cIa (aggL (cIa us 0)) 5)) (toI (cIa (aggL (cIa us 0)) 6)) (toI (cIa (aggL (cIa us 0)) 7)) (toI (cIa (aggL (cIa us 0)) 8)) (toI (cIa (aggL (cIa us 0)) 9)) (toI (cIa (aggL (cIa us 0)) 10))) (fun t => rfl)
noncomputable def W40_0 : Ex → List Bool
  | .ret => [false, false, false, false, false, false, false, false, false, false, true, true, false, false, false, false, false, false, false, false, false, false, false, false, false, false, false, false, false, false, false, false, false, false, false, false, false]
  | .exit n => bif Nat.beq n 0 then [false, false, false, false, false, false, false, false, false, false, false, false, false, false, false, false, false, false, false, false, false, false, false, false, false, false, false, false, false, false, false, false, false, false, false, false, false] else []
  | _ => []
noncomputable def G_skirmishref14_between_0 (blocked : LL) (class_ b0_0 b0_1 : Int) (b0_2 : LL) (b1_0 b1_1 b2_0 b2_1 : Int) : Nat → Int → Option (Bool × Int)
  | 0, _ => none
  | m + 1, dir =>
    bif (decide (dir < (8 : Int))) then
      Option.bind (F_skirmishref07_Step b0_0 b0_1 b0_2 blocked class_ b1_0 b1_1 dir) fun t =>
      bif t.2 then
        Option.bind (F_skirmishref14_Beside b1_0 b1_1 dir) fun t1 =>
        bif ((t1.1 == b2_0) && (t1.2 == b2_1)) then
          some (true, t.1)
        else
        G_skirmishref14_between_0 blocked class_ b0_0 b0_1 b0_2 b1_0 b1_1 b2_0 b2_1 m (wr (dir + (1 : Int)))
      else
      G_skirmishref14_between_0 blocked class_ b0_0 b0_1 b0_2 b1_0 b1_1 b2_0 b2_1 m (wr (dir + (1 : Int)))
    else
    some (false, 0)
noncomputable def E40_0 (blocked : LL) (class_ dir b0_0 b0_1 : Int) (b0_2 : LL) (b1_0 b1_1 b2_0 b2_1 : Int) : St := ⟨[.dead, (.ro 1 blocked), (.sc (.int .i64 class_)), .dead, .dead, (.ref 16000 1 0 0), .dead, .dead, (.ref 16016 1 0 0), (.ref 16032 1 0 0), .dead, .dead, (.sc (.int .i64 dir)), .dead, .dead, .dead, .dead, .dead, .dead, .dead, .dead, .dead, .dead, .dead, .dead, .dead, .dead, .dead, .dead, .dead, .dead, .dead, .dead, .dead, .dead, .dead, .dead], [(16000, ⟨.box, 24, 3, [[(.sc (.int .i64 b0_0)), (.sc (.int .i64 b0_1)), (.ro 3 b0_2)]]⟩), (16016, ⟨.box, 27, 2, [[(.sc (.int .i64 b1_0)), (.sc (.int .i64 b1_1))]]⟩), (16032, ⟨.box, 27, 2, [[(.sc (.int .i64 b2_0)), (.sc (.int .i64 b2_1))]]⟩)]⟩
noncomputable def X40_0 (k : Ex → St → Option CR) (t : Bool × Int) : Option CR := bif t.1 then k .ret ⟨[.dead, .dead, .dead, .dead, .dead, .dead, .dead, .dead, .dead, .dead, (.sc (.int .i64 t.2)), (.sc (.bool true)), .dead, .dead, .dead, .dead, .dead, .dead, .dead, .dead, .dead, .dead, .dead, .dead, .dead, .dead, .dead, .dead, .dead, .dead, .dead, .dead, .dead, .dead, .dead, .dead, .dead], []⟩ else k (.exit 0) ⟨[.dead, .dead, .dead, .dead, .dead, .dead, .dead, .dead, .dead, .dead, .dead, .dead, .dead, .dead, .dead, .dead, .dead, .dead, .dead, .dead, .dead, .dead, .dead, .dead, .dead, .dead, .dead, .dead, .dead, .dead, .dead, .dead, .dead, .dead, .dead, .dead, .dead], []⟩
noncomputable def ks40_0 : List SK := [.f .dead, .f (.ro 1), .f (.int .i64), .f .dead, .f .dead, .f (.ref 16000 1 0 0), .f .dead, .f .dead, .f (.ref 16016 1 0 0), .f (.ref 16032 1 0 0), .f .dead, .f .dead, .f (.int .i64), .f .dead, .f .dead, .f .dead, .f .dead, .f .dead, .f .dead, .f .dead, .f .dead, .f .dead, .f .dead, .f .dead, .f .dead, .f .dead, .f .dead, .f .dead, .f .dead, .f .dead, .f .dead, .f .dead, .f .dead, .f .dead, .f .dead, .f .dead, .f .dead]
noncomputable def hs40_0 : List HK := [⟨16000, .box, 24, 3, some [.int .i64, .int .i64, .ro 3]⟩, ⟨16016, .box, 27, 2, some [.int .i64, .int .i64]⟩, ⟨16032, .box, 27, 2, some [.int .i64, .int .i64]⟩]
noncomputable def Lm40_0 (s : St) (k : Ex → St → Option CR) : Option CR := bif chkS ks40_0 hs40_0 s then (G_skirmishref14_between_0 (roRows (cIa s.tmps 1)) (toI (cIa s.tmps 2)) (toI (cIa (rows0 (blkAt s.heap 0).2) 0)) (toI (cIa (rows0 (blkAt s.heap 0).2) 1)) (roRows (cIa (rows0 (blkAt s.heap 0).2) 2)) (toI (cIa (rows0 (blkAt s.heap 1).2) 0)) (toI (cIa (rows0 (blkAt s.heap 1).2) 1)) (toI (cIa (rows0 (blkAt s.heap 2).2) 0)) (toI (cIa (rows0 (blkAt s.heap 2).2) 1)) FU (toI (cIa s.tmps 12))).bind (X40_0 k) else none
noncomputable def L40_0 (s : St) (k : Ex → St → Option CR) : Option CR := Lm40_0 (maskS (maskOf ks40_0) s) k
noncomputable def L40 : LT' := fun i s k => bif Nat.beq i 0 then L40_0 s k else none
noncomputable def F_skirmishref14_between (m_W m_H : Int) (m_Cells blocked : LL) (class_ p_X p_Y q_X q_Y : Int) : Option (Int × Bool) :=
  Option.bind (G_skirmishref14_between_0 blocked class_ m_W m_H m_Cells p_X p_Y q_X q_Y FU (0 : Int)) fun t =>
  bif t.1 then
    some (t.2, true)
  else
  some ((0 : Int), false)
noncomputable def enc40 (t : Int × Bool) : CR := ⟨true, (.tup [(.sc (.int .i64 t.1)), (.sc (.bool t.2))]), [], []⟩
noncomputable def ks40 : List SK := [.agg [.int .i64, .int .i64, .ro 3], .f (.ro 1), .f (.int .i64), .agg [.int .i64, .int .i64], .agg [.int .i64, .int .i64]]
noncomputable def S40 (us : List AVal) : Call := bif chkA ks40 us then Call.of (F_skirmishref14_between (toI (cIa (aggL (cIa us 0)) 0)) (toI (cIa (aggL (cIa us 0)) 1)) (roRows (cIa (aggL (cIa us 0)) 2)) (roRows (cIa us 1)) (toI (cIa us 2)) (toI (cIa (aggL (cIa us 3)) 0)) (toI (cIa (aggL (cIa us 3)) 1)) (toI (cIa (aggL (cIa us 4)) 0)) (toI (cIa (aggL (cIa us 4)) 1))) enc40 else Call.none
noncomputable def C40 := AI.ext 40 S40 C3
@[reducible] noncomputable def B40_0 := bodyOf TT TU GL0 C3 ownF L40 (lp Tryd.f40 0)
@[reducible] noncomputable def K40_0 (k : Ex → St → Option CR) : Ex → St → Option CR := fun e s => k e (maskS (W40_0 e) s)
theorem spec40_0 (k : Ex → St → Option CR) : ∀ (m : Nat) (blocked : LL) (class_ dir b0_0 b0_1 : Int) (b0_2 : LL) (b1_0 b1_1 b2_0 b2_1 : Int), loopN B40_0 m (E40_0 blocked class_ dir b0_0 b0_1 b0_2 b1_0 b1_1 b2_0 b2_1) (K40_0 k) = (G_skirmishref14_between_0 blocked class_ b0_0 b0_1 b0_2 b1_0 b1_1 b2_0 b2_1 m dir).bind (X40_0 k)
  | 0, _, _, _, _, _, _, _, _, _, _ => rfl
  | m + 1, blocked, class_, dir, b0_0, b0_1, b0_2, b1_0, b1_1, b2_0, b2_1 =>
    Eq.trans (by kernel_rfl) (n_condH rfl (fun h0 => (n_bind fun t => (n_condH rfl (fun h1 => (n_bind fun t1 => (n_condH rfl (fun h2 => rfl) fun h2 => (spec40_0 k m blocked class_ (wr (dir + (1 : Int))) b0_0 b0_1 b0_2 b1_0 b1_1 b2_0 b2_1)))) fun h1 => (spec40_0 k m blocked class_ (wr (dir + (1 : Int))) b0_0 b0_1 b0_2 b1_0 b1_1 b2_0 b2_1)))) fun h0 => rfl)
theorem okL40_0 : LoopOk TT TU GL0 C3 ownF L40 (lp Tryd.f40 0) :=
  loopOk_of ks40_0 hs40_0 W40_0 FU (fun s k => (G_skirmishref14_between_0 (roRows (cIa s.tmps 1)) (toI (cIa s.tmps 2)) (toI (cIa (rows0 (blkAt s.heap 0).2) 0)) (toI (cIa (rows0 (blkAt s.heap 0).2) 1)) (roRows (cIa (rows0 (blkAt s.heap 0).2) 2)) (toI (cIa (rows0 (blkAt s.heap 1).2) 0)) (toI (cIa (rows0 (blkAt s.heap 1).2) 1)) (toI (cIa (rows0 (blkAt s.heap 2).2) 0)) (toI (cIa (rows0 (blkAt s.heap 2).2) 1)) FU (toI (cIa s.tmps 12))).bind (X40_0 k)) (fun s k => by kernel_rfl) (fun s k => spec40_0 k FU (roRows (cIa s.tmps 1)) (toI (cIa s.tmps 2)) (toI (cIa s.tmps 12)) (toI (cIa (rows0 (blkAt s.heap 0).2) 0)) (toI (cIa (rows0 (blkAt s.heap 0).2) 1)) (roRows (cIa (rows0 (blkAt s.heap 0).2) 2)) (toI (cIa (rows0 (blkAt s.heap 1).2) 0)) (toI (cIa (rows0 (blkAt s.heap 1).2) 1)) (toI (cIa (rows0 (blkAt s.heap 2).2) 0)) (toI (cIa (rows0 (blkAt s.heap 2).2) 1)))
theorem run40 (m_W m_H : Int) (m_Cells blocked : LL) (class_ p_X p_Y q_X q_Y : Int) : fcall TT TU GL0 C3 ownF true L40 Tryd.f40 [(.agg [(.sc (.int .i64 m_W)), (.sc (.int .i64 m_H)), (.ro 3 m_Cells)]), (.ro 1 blocked), (.sc (.int .i64 class_)), (.agg [(.sc (.int .i64 p_X)), (.sc (.int .i64 p_Y))]), (.agg [(.sc (.int .i64 q_X)), (.sc (.int .i64 q_Y))])] = (F_skirmishref14_between m_W m_H m_Cells blocked class_ p_X p_Y q_X q_Y).bind fun t => some (enc40 t) :=
  Eq.trans (by kernel_rfl) (n_bind fun t => (n_condH rfl (fun h0 => rfl) fun h0 => rfl))
theorem lib40 : Lib Tryd.prog GL0 C40 :=
  Lib.fn lib3 mixed TT_ok Tryd.func40 (by decide +kernel) (by kernel_rfl) true L40 (loops_of 1 (by kernel_rfl) (belowS below0 okL40_0)) ks40 (F := fun us => F_skirmishref14_between (toI (cIa (aggL (cIa us 0)) 0)) (toI (cIa (aggL (cIa us 0)) 1)) (roRows (cIa (aggL (cIa us 0)) 2)) (roRows (cIa us 1)) (toI (cIa us 2)) (toI (cIa (aggL (cIa us 3)) 0)) (toI (cIa (aggL (cIa us 3)) 1)) (toI (cIa (aggL (cIa us 4)) 0)) (toI (cIa (aggL (cIa us 4)) 1))) (fun us => rfl) (fun us => run40 (toI (cIa (aggL (cIa us 0)) 0)) (toI (cIa (aggL (cIa us 0)) 1)) (roRows (cIa (aggL (cIa us 0)) 2)) (roRows (cIa us 1)) (toI (cIa us 2)) (toI (cIa (aggL (cIa us 3)) 0)) (toI (cIa (aggL (cIa us 3)) 1)) (toI (cIa (aggL (cIa us 4)) 0)) (toI (cIa (aggL (cIa us 4)) 1))) (fun t => rfl)
noncomputable def W16_0 : Ex → List Bool
  | .ret => [false, false, false, false, false, false, false, false, true, true, false, false, false, false, false, false, false, false, false, false, false, false, false, false, false, false, false, false, false, false, false, false, false, false, false, false, false, false, false, false, false, false, false, false, false, false, false, false, false, false, false, false, false, false, false, false, false, false, false, false, false, false, false, false, false, false, false, false, false, false, false, false, false, false, false, false, false]
  | .exit n => bif Nat.beq n 0 then [false, true, true, true, true, false, false, false, false, false, false, false, false, false, false, false, false, false, false, false, false, false, false, false, false, false, false, false, false, false, false, false, false, false, false, false, false, false, false, false, false, false, false, false, false, false, false, false, false, false, false, false, false, false, false, false, false, false, false, false, false, false, false, false, false, false, false, false, false, false, false, false, false, false, false, false, false] else []
  | _ => []
noncomputable def G_skirmishref14_Cost_0 (path : LL) (b0_0 b0_1 : Int) (b0_2 : LL) : Nat → Int → Option (Bool)
  | 0, _ => none
  | m + 1, i =>
    bif (decide (i < (Int.ofNat path.length))) then
      bif (decide ((0 : Int) ≤ i)) then
        Option.bind (path[i.toNat]?) fun r =>
        bif (chk [(LT.int IntKind.i64), (LT.int IntKind.i64)] r) then
          Option.bind (F_skirmishref14_inside b0_0 b0_1 b0_2 (cI r 0) (cI r 1)) fun t =>
          bif (!t) then
            some true
          else
          G_skirmishref14_Cost_0 path b0_0 b0_1 b0_2 m (wr (i + (1 : Int)))
        else
        none
      else
      none
    else
    some false
noncomputable def E16_0 (blocked : LL) (class_ : Int) (path : LL) (i b0_0 b0_1 : Int) (b0_2 : LL) : St := ⟨[.dead, (.ro 1 blocked), (.sc (.int .i64 class_)), (.ro 2 path), (.ref 16000 1 0 0), .dead, .dead, .dead, .dead, .dead, (.sc (.int .i64 i)), .dead, .dead, .dead, .dead, .dead, .dead, .dead, .dead, .dead, .dead, .dead, .dead, .dead, .dead, .dead, .dead, .dead, .dead, .dead, .dead, .dead, .dead, .dead, .dead, .dead, .dead, .dead, .dead, .dead, .dead, .dead, .dead, .dead, .dead, .dead, .dead, .dead, .dead, .dead, .dead, .dead, .dead, .dead, .dead, .dead, .dead, .dead, .dead, .dead, .dead, .dead, .dead, .dead, .dead, .dead, .dead, .dead, .dead, .dead, .dead, .dead, .dead, .dead, .dead, .dead, .dead], [(16000, ⟨.box, 24, 3, [[(.sc (.int .i64 b0_0)), (.sc (.int .i64 b0_1)), (.ro 3 b0_2)]]⟩)]⟩
noncomputable def X16_0 (blocked : LL) (class_ : Int) (path : LL) (b0_0 b0_1 : Int) (b0_2 : LL) (k : Ex → St → Option CR) (t : Bool) : Option CR := bif t then k .ret ⟨[.dead, .dead, .dead, .dead, .dead, .dead, .dead, .dead, (.sc (.int .i64 (0 : Int))), (.sc (.int .i64 (1 : Int))), .dead, .dead, .dead, .dead, .dead, .dead, .dead, .dead, .dead, .dead, .dead, .dead, .dead, .dead, .dead, .dead, .dead, .dead, .dead, .dead, .dead, .dead, .dead, .dead, .dead, .dead, .dead, .dead, .dead, .dead, .dead, .dead, .dead, .dead, .dead, .dead, .dead, .dead, .dead, .dead, .dead, .dead, .dead, .dead, .dead, .dead, .dead, .dead, .dead, .dead, .dead, .dead, .dead, .dead, .dead, .dead, .dead, .dead, .dead, .dead, .dead, .dead, .dead, .dead, .dead, .dead, .dead], []⟩ else k (.exit 0) ⟨[.dead, (.ro 1 blocked), (.sc (.int .i64 class_)), (.ro 2 path), (.ref 16000 1 0 0), .dead, .dead, .dead, .dead, .dead, .dead, .dead, .dead, .dead, .dead, .dead, .dead, .dead, .dead, .dead, .dead, .dead, .dead, .dead, .dead, .dead, .dead, .dead, .dead, .dead, .dead, .dead, .dead, .dead, .dead, .dead, .dead, .dead, .dead, .dead, .dead, .dead, .dead, .dead, .dead, .dead, .dead, .dead, .dead, .dead, .dead, .dead, .dead, .dead, .dead, .dead, .dead, .dead, .dead, .dead, .dead, .dead, .dead, .dead, .dead, .dead, .dead, .dead, .dead, .dead, .dead, .dead, .dead, .dead, .dead, .dead, .dead], [(16000, ⟨.box, 24, 3, [[(.sc (.int .i64 b0_0)), (.sc (.int .i64 b0_1)), (.ro 3 b0_2)]]⟩)]⟩
noncomputable def ks16_0 : List SK := [.f .dead, .f (.ro 1), .f (.int .i64), .f (.ro 2), .f (.ref 16000 1 0 0), .f .dead, .f .dead, .f .dead, .f .dead, .f .dead, .f (.int .i64), .f .dead, .f .dead, .f .dead, .f .dead, .f .dead, .f .dead, .f .dead, .f .dead, .f .dead, .f .dead, .f .dead, .f .dead, .f .dead, .f .dead, .f .dead, .f .dead, .f .dead, .f .dead, .f .dead, .f .dead, .f .dead, .f .dead, .f .dead, .f .dead, .f .dead, .f .dead, .f .dead, .f .dead, .f .dead, .f .dead, .f .dead, .f .dead, .f .dead, .f .dead, .f .dead, .f .dead, .f .dead, .f .dead, .f .dead, .f .dead, .f .dead, .f .dead, .f .dead, .f .dead, .f .dead, .f .dead, .f .dead, .f .dead, .f .dead, .f .dead, .f .dead, .f .dead, .f .dead, .f .dead, .f .dead, .f .dead, .f .dead, .f .dead, .f .dead, .f .dead, .f .dead, .f .dead, .f .dead, .f .dead, .f .dead, .f .dead]
noncomputable def hs16_0 : List HK := [⟨16000, .box, 24, 3, some [.int .i64, .int .i64, .ro 3]⟩]
noncomputable def Lm16_0 (s : St) (k : Ex → St → Option CR) : Option CR := bif chkS ks16_0 hs16_0 s then (G_skirmishref14_Cost_0 (roRows (cIa s.tmps 3)) (toI (cIa (rows0 (blkAt s.heap 0).2) 0)) (toI (cIa (rows0 (blkAt s.heap 0).2) 1)) (roRows (cIa (rows0 (blkAt s.heap 0).2) 2)) FU (toI (cIa s.tmps 10))).bind (X16_0 (roRows (cIa s.tmps 1)) (toI (cIa s.tmps 2)) (roRows (cIa s.tmps 3)) (toI (cIa (rows0 (blkAt s.heap 0).2) 0)) (toI (cIa (rows0 (blkAt s.heap 0).2) 1)) (roRows (cIa (rows0 (blkAt s.heap 0).2) 2)) k) else none
noncomputable def L16_0 (s : St) (k : Ex → St → Option CR) : Option CR := Lm16_0 (maskS (maskOf ks16_0) s) k
noncomputable def W16_1 : Ex → List Bool
  | .ret => [false, false, false, false, false, false, false, false, true, true, false, false, false, false, false, false, false, false, false, false, false, false, false, false, false, false, false, false, false, false, false, false, false, false, false, false, false, false, false, false, false, false, false, false, false, false, false, false, false, false, false, false, false, false, false, false, false, false, false, false, false, false, false, false, false, false, false, false, false, false, false, false, false, false, false, false, false]
  | .exit n => bif Nat.beq n 2 then [false, false, false, false, false, false, false, false, false, false, false, true, false, false, false, false, false, false, false, false, false, false, false, false, false, false, false, false, false, false, false, false, false, false, false, false, false, false, false, false, false, false, false, false, false, false, false, false, false, false, false, false, false, false, false, false, false, false, false, false, false, false, false, false, false, false, false, false, false, false, false, false, false, false, false, false, false] else []
  | _ => []
noncomputable def G_skirmishref14_Cost_1 (blocked : LL) (class_ : Int) (path : LL) (b0_0 b0_1 : Int) (b0_2 : LL) : Nat → Int → Int → Option (Bool × Int)
  | 0, _, _ => none
  | m + 1, sum, i =>
    bif (decide (i < (Int.ofNat path.length))) then
      bif (decide ((0 : Int) ≤ (wr (i - (1 : Int))))) then
        Option.bind (path[(wr (i - (1 : Int))).toNat]?) fun r =>
        bif (chk [(LT.int IntKind.i64), (LT.int IntKind.i64)] r) then
          bif (decide ((0 : Int) ≤ i)) then
            Option.bind (path[i.toNat]?) fun r1 =>
            bif (chk [(LT.int IntKind.i64), (LT.int IntKind.i64)] r1) then
              Option.bind (F_skirmishref14_between b0_0 b0_1 b0_2 blocked class_ (cI r 0) (cI r 1) (cI r1 0) (cI r1 1)) fun t =>
              bif (!t.2) then
                some (true, 0)
              else
              G_skirmishref14_Cost_1 blocked class_ path b0_0 b0_1 b0_2 m (wr (sum + t.1)) (wr (i + (1 : Int)))
            else
            none
          else
          none
        else
        none
      else
      none
    else
    some (false, sum)
noncomputable def E16_1 (blocked : LL) (class_ : Int) (path : LL) (sum i b0_0 b0_1 : Int) (b0_2 : LL) : St := ⟨[.dead, (.ro 1 blocked), (.sc (.int .i64 class_)), (.ro 2 path), (.ref 16000 1 0 0), .dead, .dead, .dead, .dead, .dead, .dead, (.sc (.int .i64 sum)), (.sc (.int .i64 i)), .dead, .dead, .dead, .dead, .dead, .dead, .dead, .dead, .dead, .dead, .dead, .dead, .dead, .dead, .dead, .dead, .dead, .dead, .dead, .dead, .dead, .dead, .dead, .dead, .dead, .dead, .dead, .dead, .dead, .dead, .dead, .dead, .dead, .dead, .dead, .dead, .dead, .dead, .dead, .dead, .dead, .dead, .dead, .dead, .dead, .dead, .dead, .dead, .dead, .dead, .dead, .dead, .dead, .dead, .dead, .dead, .dead, .dead, .dead, .dead, .dead, .dead, .dead, .dead], [(16000, ⟨.box, 24, 3, [[(.sc (.int .i64 b0_0)), (.sc (.int .i64 b0_1)), (.ro 3 b0_2)]]⟩)]⟩
noncomputable def X16_1 (k : Ex → St → Option CR) (t : Bool × Int) : Option CR := bif t.1 then k .ret ⟨[.dead, .dead, .dead, .dead, .dead, .dead, .dead, .dead, (.sc (.int .i64 (0 : Int))), (.sc (.int .i64 (9 : Int))), .dead, .dead, .dead, .dead, .dead, .dead, .dead, .dead, .dead, .dead, .dead, .dead, .dead, .dead, .dead, .dead, .dead, .dead, .dead, .dead, .dead, .dead, .dead, .dead, .dead, .dead, .dead, .dead, .dead, .dead, .dead, .dead, .dead, .dead, .dead, .dead, .dead, .dead, .dead, .dead, .dead, .dead, .dead, .dead, .dead, .dead, .dead, .dead, .dead, .dead, .dead, .dead, .dead, .dead, .dead, .dead, .dead, .dead, .dead, .dead, .dead, .dead, .dead, .dead, .dead, .dead, .dead], []⟩ else k (.exit 2) ⟨[.dead, .dead, .dead, .dead, .dead, .dead, .dead, .dead, .dead, .dead, .dead, (.sc (.int .i64 t.2)), .dead, .dead, .dead, .dead, .dead, .dead, .dead, .dead, .dead, .dead, .dead, .dead, .dead, .dead, .dead, .dead, .dead, .dead, .dead, .dead, .dead, .dead, .dead, .dead, .dead, .dead, .dead, .dead, .dead, .dead, .dead, .dead, .dead, .dead, .dead, .dead, .dead, .dead, .dead, .dead, .dead, .dead, .dead, .dead, .dead, .dead, .dead, .dead, .dead, .dead, .dead, .dead, .dead, .dead, .dead, .dead, .dead, .dead, .dead, .dead, .dead, .dead, .dead, .dead, .dead], []⟩
noncomputable def ks16_1 : List SK := [.f .dead, .f (.ro 1), .f (.int .i64), .f (.ro 2), .f (.ref 16000 1 0 0), .f .dead, .f .dead, .f .dead, .f .dead, .f .dead, .f .dead, .f (.int .i64), .f (.int .i64), .f .dead, .f .dead, .f .dead, .f .dead, .f .dead, .f .dead, .f .dead, .f .dead, .f .dead, .f .dead, .f .dead, .f .dead, .f .dead, .f .dead, .f .dead, .f .dead, .f .dead, .f .dead, .f .dead, .f .dead, .f .dead, .f .dead, .f .dead, .f .dead, .f .dead, .f .dead, .f .dead, .f .dead, .f .dead, .f .dead, .f .dead, .f .dead, .f .dead, .f .dead, .f .dead, .f .dead, .f .dead, .f .dead, .f .dead, .f .dead, .f .dead, .f .dead, .f .dead, .f .dead, .f .dead, .f .dead, .f .dead, .f .dead, .f .dead, .f .dead, .f .dead, .f .dead, .f .dead, .f .dead, .f .dead, .f .dead, .f .dead, .f .dead, .f .dead, .f .dead, .f .dead, .f .dead, .f .dead, .f .dead]
noncomputable def hs16_1 : List HK := [⟨16000, .box, 24, 3, some [.int .i64, .int .i64, .ro 3]⟩]
noncomputable def Lm16_1 (s : St) (k : Ex → St → Option CR) : Option CR := bif chkS ks16_1 hs16_1 s then (G_skirmishref14_Cost_1 (roRows (cIa s.tmps 1)) (toI (cIa s.tmps 2)) (roRows (cIa s.tmps 3)) (toI (cIa (rows0 (blkAt s.heap 0).2) 0)) (toI (cIa (rows0 (blkAt s.heap 0).2) 1)) (roRows (cIa (rows0 (blkAt s.heap 0).2) 2)) FU (toI (cIa s.tmps 11)) (toI (cIa s.tmps 12))).bind (X16_1 k) else none
noncomputable def L16_1 (s : St) (k : Ex → St → Option CR) : Option CR := Lm16_1 (maskS (maskOf ks16_1) s) k
noncomputable def L16 : LT' := fun i s k => bif Nat.beq i 0 then L16_0 s k else bif Nat.beq i 2 then L16_1 s k else none
noncomputable def F_skirmishref14_Cost (m_W m_H : Int) (m_Cells blocked : LL) (class_ : Int) (path : LL) : Option (Int × Int) :=
  Option.bind (F_skirmishref07_Valid m_W m_H m_Cells) fun t =>
  bif (!t) then
    some ((0 : Int), (1 : Int))
  else
  Option.bind (F_skirmishref14_Class class_) fun t1 =>
  bif (!t1) then
    some ((0 : Int), (1 : Int))
  else
  bif ((Int.ofNat path.length) == (0 : Int)) then
    some ((0 : Int), (1 : Int))
  else
  Option.bind (G_skirmishref14_Cost_0 path m_W m_H m_Cells FU (0 : Int)) fun t2 =>
  bif t2 then
    some ((0 : Int), (1 : Int))
  else
  Option.bind (path[(0 : Int).toNat]?) fun r =>
  bif (chk [(LT.int IntKind.i64), (LT.int IntKind.i64)] r) then
    Option.bind (F_skirmishref14_Free m_W m_H m_Cells blocked class_ (cI r 0) (cI r 1)) fun t3 =>
    bif (!t3) then
      some ((0 : Int), (9 : Int))
    else
    Option.bind (G_skirmishref14_Cost_1 blocked class_ path m_W m_H m_Cells FU (0 : Int) (1 : Int)) fun t4 =>
    bif t4.1 then
      some ((0 : Int), (9 : Int))
    else
    some (t4.2, (0 : Int))
  else
  none
noncomputable def enc16 (t : Int × Int) : CR := ⟨true, (.tup [(.sc (.int .i64 t.1)), (.sc (.int .i64 t.2))]), [], []⟩
noncomputable def ks16 : List SK := [.agg [.int .i64, .int .i64, .ro 3], .f (.ro 1), .f (.int .i64), .f (.ro 2)]
noncomputable def S16 (us : List AVal) : Call := bif chkA ks16 us then Call.of (F_skirmishref14_Cost (toI (cIa (aggL (cIa us 0)) 0)) (toI (cIa (aggL (cIa us 0)) 1)) (roRows (cIa (aggL (cIa us 0)) 2)) (roRows (cIa us 1)) (toI (cIa us 2)) (roRows (cIa us 3))) enc16 else Call.none
noncomputable def C16 := AI.ext 16 S16 C40
@[reducible] noncomputable def B16_0 := bodyOf TT TU GL0 C40 ownF L16 (lp Tryd.f16 0)
@[reducible] noncomputable def K16_0 (k : Ex → St → Option CR) : Ex → St → Option CR := fun e s => k e (maskS (W16_0 e) s)
theorem spec16_0 (k : Ex → St → Option CR) : ∀ (m : Nat) (blocked : LL) (class_ : Int) (path : LL) (i b0_0 b0_1 : Int) (b0_2 : LL), loopN B16_0 m (E16_0 blocked class_ path i b0_0 b0_1 b0_2) (K16_0 k) = (G_skirmishref14_Cost_0 path b0_0 b0_1 b0_2 m i).bind (X16_0 blocked class_ path b0_0 b0_1 b0_2 k)
  | 0, _, _, _, _, _, _, _ => rfl
  | m + 1, blocked, class_, path, i, b0_0, b0_1, b0_2 =>
    Eq.trans (by kernel_rfl) (n_condH rfl (fun h0 => (n_condH rfl (fun h1 => (n_bind fun r => (n_condH rfl (fun h2 => (n_bind fun t => (n_condH rfl (fun h3 => rfl) fun h3 => (spec16_0 k m blocked class_ path (wr (i + (1 : Int))) b0_0 b0_1 b0_2)))) fun h2 => rfl))) fun h1 => rfl)) fun h0 => rfl)
theorem okL16_0 : LoopOk TT TU GL0 C40 ownF L16 (lp Tryd.f16 0) :=
  loopOk_of ks16_0 hs16_0 W16_0 FU (fun s k => (G_skirmishref14_Cost_0 (roRows (cIa s.tmps 3)) (toI (cIa (rows0 (blkAt s.heap 0).2) 0)) (toI (cIa (rows0 (blkAt s.heap 0).2) 1)) (roRows (cIa (rows0 (blkAt s.heap 0).2) 2)) FU (toI (cIa s.tmps 10))).bind (X16_0 (roRows (cIa s.tmps 1)) (toI (cIa s.tmps 2)) (roRows (cIa s.tmps 3)) (toI (cIa (rows0 (blkAt s.heap 0).2) 0)) (toI (cIa (rows0 (blkAt s.heap 0).2) 1)) (roRows (cIa (rows0 (blkAt s.heap 0).2) 2)) k)) (fun s k => by kernel_rfl) (fun s k => spec16_0 k FU (roRows (cIa s.tmps 1)) (toI (cIa s.tmps 2)) (roRows (cIa s.tmps 3)) (toI (cIa s.tmps 10)) (toI (cIa (rows0 (blkAt s.heap 0).2) 0)) (toI (cIa (rows0 (blkAt s.heap 0).2) 1)) (roRows (cIa (rows0 (blkAt s.heap 0).2) 2)))
@[reducible] noncomputable def B16_1 := bodyOf TT TU GL0 C40 ownF L16 (lp Tryd.f16 1)
@[reducible] noncomputable def K16_1 (k : Ex → St → Option CR) : Ex → St → Option CR := fun e s => k e (maskS (W16_1 e) s)
theorem spec16_1 (k : Ex → St → Option CR) : ∀ (m : Nat) (blocked : LL) (class_ : Int) (path : LL) (sum i b0_0 b0_1 : Int) (b0_2 : LL), loopN B16_1 m (E16_1 blocked class_ path sum i b0_0 b0_1 b0_2) (K16_1 k) = (G_skirmishref14_Cost_1 blocked class_ path b0_0 b0_1 b0_2 m sum i).bind (X16_1 k)
  | 0, _, _, _, _, _, _, _, _ => rfl
  | m + 1, blocked, class_, path, sum, i, b0_0, b0_1, b0_2 =>
    Eq.trans (by kernel_rfl) (n_condH rfl (fun h0 => (n_condH rfl (fun h1 => (n_bind fun r => (n_condH rfl (fun h2 => (n_condH rfl (fun h3 => (n_bind fun r1 => (n_condH rfl (fun h4 => (n_bind fun t => (n_condH rfl (fun h5 => rfl) fun h5 => (spec16_1 k m blocked class_ path (wr (sum + t.1)) (wr (i + (1 : Int))) b0_0 b0_1 b0_2)))) fun h4 => rfl))) fun h3 => rfl)) fun h2 => rfl))) fun h1 => rfl)) fun h0 => rfl)
theorem okL16_1 : LoopOk TT TU GL0 C40 ownF L16 (lp Tryd.f16 1) :=
  loopOk_of ks16_1 hs16_1 W16_1 FU (fun s k => (G_skirmishref14_Cost_1 (roRows (cIa s.tmps 1)) (toI (cIa s.tmps 2)) (roRows (cIa s.tmps 3)) (toI (cIa (rows0 (blkAt s.heap 0).2) 0)) (toI (cIa (rows0 (blkAt s.heap 0).2) 1)) (roRows (cIa (rows0 (blkAt s.heap 0).2) 2)) FU (toI (cIa s.tmps 11)) (toI (cIa s.tmps 12))).bind (X16_1 k)) (fun s k => by kernel_rfl) (fun s k => spec16_1 k FU (roRows (cIa s.tmps 1)) (toI (cIa s.tmps 2)) (roRows (cIa s.tmps 3)) (toI (cIa s.tmps 11)) (toI (cIa s.tmps 12)) (toI (cIa (rows0 (blkAt s.heap 0).2) 0)) (toI (cIa (rows0 (blkAt s.heap 0).2) 1)) (roRows (cIa (rows0 (blkAt s.heap 0).2) 2)))
theorem run16 (m_W m_H : Int) (m_Cells blocked : LL) (class_ : Int) (path : LL) : fcall TT TU GL0 C40 ownF true L16 Tryd.f16 [(.agg [(.sc (.int .i64 m_W)), (.sc (.int .i64 m_H)), (.ro 3 m_Cells)]), (.ro 1 blocked), (.sc (.int .i64 class_)), (.ro 2 path)] = (F_skirmishref14_Cost m_W m_H m_Cells blocked class_ path).bind fun t => some (enc16 t) :=
  Eq.trans (by kernel_rfl) (n_bind fun t => (n_condH rfl (fun h0 => rfl) fun h0 => (n_bind fun t1 => (n_condH rfl (fun h1 => rfl) fun h1 => (n_condH rfl (fun h2 => rfl) fun h2 => (n_bind fun t2 => (n_condH rfl (fun h3 => rfl) fun h3 => (n_bind fun r => (n_condH rfl (fun h4 => (n_bind fun t3 => (n_condH rfl (fun h5 => rfl) fun h5 => (n_bind fun t4 => (n_condH rfl (fun h6 => rfl) fun h6 => rfl))))) fun h4 => rfl)))))))))
theorem lib16 : Lib Tryd.prog GL0 C16 :=
  Lib.fn lib40 mixed TT_ok Tryd.func16 (by decide +kernel) (by kernel_rfl) true L16 (loops_of 2 (by kernel_rfl) (belowS (belowS below0 okL16_0) okL16_1)) ks16 (F := fun us => F_skirmishref14_Cost (toI (cIa (aggL (cIa us 0)) 0)) (toI (cIa (aggL (cIa us 0)) 1)) (roRows (cIa (aggL (cIa us 0)) 2)) (roRows (cIa us 1)) (toI (cIa us 2)) (roRows (cIa us 3))) (fun us => rfl) (fun us => run16 (toI (cIa (aggL (cIa us 0)) 0)) (toI (cIa (aggL (cIa us 0)) 1)) (roRows (cIa (aggL (cIa us 0)) 2)) (roRows (cIa us 1)) (toI (cIa us 2)) (roRows (cIa us 3))) (fun t => rfl)
noncomputable def F_skirmishlaw14_AstarCosts (x_M_W x_M_H : Int) (x_M_Cells x_Blocked : LL) (x_Class x_A_X x_A_Y x_B_X x_B_Y x_C_X x_C_Y : Int) (path : LL) : Option (Bool) :=
  Option.bind (F_skirmishlaw14_small x_M_W x_M_H x_M_Cells x_Blocked x_Class x_A_X x_A_Y x_B_X x_B_Y x_C_X x_C_Y) fun t =>
  bif (!t) then
    Option.bind F_skirmishlaw14_alive fun t1 =>
    some t1
  else
  bif (decide ((Int.ofNat path.length) > (200 : Int))) then
    Option.bind F_skirmishlaw14_alive fun t2 =>
    some t2
  else
  Option.bind (F_astar_Cost x_M_W x_M_H x_M_Cells x_Blocked x_Class path) fun t3 =>
  Option.bind (F_skirmishref14_Cost x_M_W x_M_H x_M_Cells x_Blocked x_Class path) fun t4 =>
  bif (t3.1 == t4.1) then
    bif (t3.2 == t4.2) then
      Option.bind F_skirmishlaw14_alive fun t5 =>
      some t5
    else
    some false
  else
  some false
noncomputable def enc4 (t : Bool) : CR := ⟨true, (.sc (.bool t)), [], []⟩
noncomputable def ks4 : List SK := [.agg [.int .i64, .int .i64, .ro 3, .ro 1, .int .i64, .int .i64, .int .i64, .int .i64, .int .i64, .int .i64, .int .i64], .f (.ro 2)]
noncomputable def S4 (us : List AVal) : Call := bif chkA ks4 us then Call.of (F_skirmishlaw14_AstarCosts (toI (cIa (aggL (cIa us 0)) 0)) (toI (cIa (aggL (cIa us 0)) 1)) (roRows (cIa (aggL (cIa us 0)) 2)) (roRows (cIa (aggL (cIa us 0)) 3)) (toI (cIa (aggL (cIa us 0)) 4)) (toI (cIa (aggL (cIa us 0)) 5)) (toI (cIa (aggL (cIa us 0)) 6)) (toI (cIa (aggL (cIa us 0)) 7)) (toI (cIa (aggL (cIa us 0)) 8)) (toI (cIa (aggL (cIa us 0)) 9)) (toI (cIa (aggL (cIa us 0)) 10)) (roRows (cIa us 1))) enc4 else Call.none
noncomputable def C4 := AI.ext 4 S4 C16
theorem run4 (x_M_W x_M_H : Int) (x_M_Cells x_Blocked : LL) (x_Class x_A_X x_A_Y x_B_X x_B_Y x_C_X x_C_Y : Int) (path : LL) : fcall TT TU GL0 C16 ownF true noL Tryd.f4 [(.agg [(.sc (.int .i64 x_M_W)), (.sc (.int .i64 x_M_H)), (.ro 3 x_M_Cells), (.ro 1 x_Blocked), (.sc (.int .i64 x_Class)), (.sc (.int .i64 x_A_X)), (.sc (.int .i64 x_A_Y)), (.sc (.int .i64 x_B_X)), (.sc (.int .i64 x_B_Y)), (.sc (.int .i64 x_C_X)), (.sc (.int .i64 x_C_Y))]), (.ro 2 path)] = (F_skirmishlaw14_AstarCosts x_M_W x_M_H x_M_Cells x_Blocked x_Class x_A_X x_A_Y x_B_X x_B_Y x_C_X x_C_Y path).bind fun t => some (enc4 t) :=
  Eq.trans (by kernel_rfl) (n_bind fun t => (n_condH rfl (fun h0 => (n_bind fun t1 => rfl)) fun h0 => (n_condH rfl (fun h1 => (n_bind fun t2 => rfl)) fun h1 => (n_bind fun t3 => (n_bind fun t4 => (n_condH rfl (fun h2 => (n_condH rfl (fun h3 => (n_bind fun t5 => rfl)) fun h3 => rfl)) fun h2 => rfl))))))
theorem lib4 : Lib Tryd.prog GL0 C4 :=
  Lib.fn lib16 mixed TT_ok Tryd.func4 (by decide +kernel) (by kernel_rfl) true noL (loops_of 0 (by kernel_rfl) below0) ks4 (F := fun us => F_skirmishlaw14_AstarCosts (toI (cIa (aggL (cIa us 0)) 0)) (toI (cIa (aggL (cIa us 0)) 1)) (roRows (cIa (aggL (cIa us 0)) 2)) (roRows (cIa (aggL (cIa us 0)) 3)) (toI (cIa (aggL (cIa us 0)) 4)) (toI (cIa (aggL (cIa us 0)) 5)) (toI (cIa (aggL (cIa us 0)) 6)) (toI (cIa (aggL (cIa us 0)) 7)) (toI (cIa (aggL (cIa us 0)) 8)) (toI (cIa (aggL (cIa us 0)) 9)) (toI (cIa (aggL (cIa us 0)) 10)) (roRows (cIa us 1))) (fun us => rfl) (fun us => run4 (toI (cIa (aggL (cIa us 0)) 0)) (toI (cIa (aggL (cIa us 0)) 1)) (roRows (cIa (aggL (cIa us 0)) 2)) (roRows (cIa (aggL (cIa us 0)) 3)) (toI (cIa (aggL (cIa us 0)) 4)) (toI (cIa (aggL (cIa us 0)) 5)) (toI (cIa (aggL (cIa us 0)) 6)) (toI (cIa (aggL (cIa us 0)) 7)) (toI (cIa (aggL (cIa us 0)) 8)) (toI (cIa (aggL (cIa us 0)) 9)) (toI (cIa (aggL (cIa us 0)) 10)) (roRows (cIa us 1))) (fun t => rfl)
noncomputable def W17_0 : Ex → List Bool
  | .ret => [false, false, false, false, true, false, false, false, false, false, false, false, false, false, false, false, false, false, false, false, false, false, false, false, false, false]
  | .exit n => bif Nat.beq n 0 then [false, false, false, false, false, false, false, false, false, false, false, false, false, false, false, false, false, false, false, false, false, false, false, false, false, false] else []
  | _ => []
noncomputable def G_skirmishref14_SameInts_0 (a b : LL) : Nat → Int → Option (Bool)
  | 0, _ => none
  | m + 1, i =>
    bif (decide (i < (Int.ofNat a.length))) then
      bif (decide ((0 : Int) ≤ i)) then
        Option.bind (a[i.toNat]?) fun r =>
        bif (chk [(LT.int IntKind.i64)] r) then
          Option.bind (b[i.toNat]?) fun r1 =>
          bif (chk [(LT.int IntKind.i64)] r1) then
            bif ((cI r 0) != (cI r1 0)) then
              some true
            else
            G_skirmishref14_SameInts_0 a b m (wr (i + (1 : Int)))
          else
          none
        else
        none
      else
      none
    else
    some false
noncomputable def E17_0 (a b : LL) (i : Int) : St := ⟨[(.ro 1 a), (.ro 1 b), .dead, .dead, .dead, (.sc (.int .i64 i)), .dead, .dead, .dead, .dead, .dead, .dead, .dead, .dead, .dead, .dead, .dead, .dead, .dead, .dead, .dead, .dead, .dead, .dead, .dead, .dead], []⟩
noncomputable def X17_0 (k : Ex → St → Option CR) (t : Bool) : Option CR := bif t then k .ret ⟨[.dead, .dead, .dead, .dead, (.sc (.bool false)), .dead, .dead, .dead, .dead, .dead, .dead, .dead, .dead, .dead, .dead, .dead, .dead, .dead, .dead, .dead, .dead, .dead, .dead, .dead, .dead, .dead], []⟩ else k (.exit 0) ⟨[.dead, .dead, .dead, .dead, .dead, .dead, .dead, .dead, .dead, .dead, .dead, .dead, .dead, .dead, .dead, .dead, .dead, .dead, .dead, .dead, .dead, .dead, .dead, .dead, .dead, .dead], []⟩
noncomputable def ks17_0 : List SK := [.f (.ro 1), .f (.ro 1), .f .dead, .f .dead, .f .dead, .f (.int .i64), .f .dead, .f .dead, .f .dead, .f .dead, .f .dead, .f .dead, .f .dead, .f .dead, .f .dead, .f .dead, .f .dead, .f .dead, .f .dead, .f .dead, .f .dead, .f .dead, .f .dead, .f .dead, .f .dead, .f .dead]
noncomputable def hs17_0 : List HK := []
noncomputable def Lm17_0 (s : St) (k : Ex → St → Option CR) : Option CR := bif chkS ks17_0 hs17_0 s then (G_skirmishref14_SameInts_0 (roRows (cIa s.tmps 0)) (roRows (cIa s.tmps 1)) FU (toI (cIa s.tmps 5))).bind (X17_0 k) else none
noncomputable def L17_0 (s : St) (k : Ex → St → Option CR) : Option CR := Lm17_0 (maskS (maskOf ks17_0) s) k
noncomputable def L17 : LT' := fun i s k => bif Nat.beq i 0 then L17_0 s k else none
noncomputable def F_skirmishref14_SameInts (a b : LL) : Option (Bool) :=
  bif ((Int.ofNat a.length) != (Int.ofNat b.length)) then
    some false
  else
  Option.bind (G_skirmishref14_SameInts_0 a b FU (0 : Int)) fun t =>
  bif t then
    some false
  else
  some true
noncomputable def enc17 (t : Bool) : CR := ⟨true, (.sc (.bool t)), [], []⟩
noncomputable def ks17 : List SK := [.f (.ro 1), .f (.ro 1)]
noncomputable def S17 (us : List AVal) : Call := bif chkA ks17 us then Call.of (F_skirmishref14_SameInts (roRows (cIa us 0)) (roRows (cIa us 1))) enc17 else Call.none
noncomputable def C17 := AI.ext 17 S17 C4
@[reducible] noncomputable def B17_0 := bodyOf TT TU GL0 C4 ownF L17 (lp Tryd.f17 0)
@[reducible] noncomputable def K17_0 (k : Ex → St → Option CR) : Ex → St → Option CR := fun e s => k e (maskS (W17_0 e) s)
theorem spec17_0 (k : Ex → St → Option CR) : ∀ (m : Nat) (a b : LL) (i : Int), loopN B17_0 m (E17_0 a b i) (K17_0 k) = (G_skirmishref14_SameInts_0 a b m i).bind (X17_0 k)
  | 0, _, _, _ => rfl
  | m + 1, a, b, i =>
    Eq.trans (by kernel_rfl) (n_condH rfl (fun h0 => (n_condH rfl (fun h1 => (n_bind fun r => (n_condH rfl (fun h2 => (n_tru h1 (n_bind fun r1 => (n_condH rfl (fun h3 => (n_condH rfl (fun h4 => rfl) fun h4 => (spec17_0 k m a b (wr (i + (1 : Int)))))) fun h3 => rfl)))) fun h2 => rfl))) fun h1 => rfl)) fun h0 => rfl)
theorem okL17_0 : LoopOk TT TU GL0 C4 ownF L17 (lp Tryd.f17 0) :=
  loopOk_of ks17_0 hs17_0 W17_0 FU (fun s k => (G_skirmishref14_SameInts_0 (roRows (cIa s.tmps 0)) (roRows (cIa s.tmps 1)) FU (toI (cIa s.tmps 5))).bind (X17_0 k)) (fun s k => by kernel_rfl) (fun s k => spec17_0 k FU (roRows (cIa s.tmps 0)) (roRows (cIa s.tmps 1)) (toI (cIa s.tmps 5)))
theorem run17 (a b : LL) : fcall TT TU GL0 C4 ownF true L17 Tryd.f17 [(.ro 1 a), (.ro 1 b)] = (F_skirmishref14_SameInts a b).bind fun t => some (enc17 t) :=
  Eq.trans (by kernel_rfl) (n_condH rfl (fun h0 => rfl) fun h0 => (n_bind fun t => (n_condH rfl (fun h1 => rfl) fun h1 => rfl)))
theorem lib17 : Lib Tryd.prog GL0 C17 :=
  Lib.fn lib4 mixed TT_ok Tryd.func17 (by decide +kernel) (by kernel_rfl) true L17 (loops_of 1 (by kernel_rfl) (belowS below0 okL17_0)) ks17 (F := fun us => F_skirmishref14_SameInts (roRows (cIa us 0)) (roRows (cIa us 1))) (fun us => rfl) (fun us => run17 (roRows (cIa us 0)) (roRows (cIa us 1))) (fun t => rfl)
noncomputable def W21_0 : Ex → List Bool
  | .ret => [false, false, false, false, false, false, true, false, false, false, false, false, false, false, false, false, false, false, false, false, false, false, false, false, false, false, false, false, false, false, false, false, false, false, false, false, false, false, false, false, false, false, false, false, false, false, false, false, false, false, false, false, false, false, false, false, false, false, false, false, false, false, false, false, false, false, false, false, false, false, false, false, false, false, false]
  | .exit n => bif Nat.beq n 0 then [false, false, false, false, false, false, false, true, false, false, false, false, false, false, false, false, false, false, false, false, false, false, false, false, false, false, false, false, false, false, false, false, false, false, false, false, false, false, false, false, false, false, false, false, false, false, false, false, false, false, false, false, false, false, false, false, false, false, false, false, false, false, false, false, false, false, false, false, false, false, false, false, false, false, false] else []
  | _ => []
noncomputable def W21_1 : Ex → List Bool
  | .ret => [false, false, false, false, false, false, true, false, false, false, false, false, false, false, false, false, false, false, false, false, false, false, false, false, false, false, false, false, false, false, false, false, false, false, false, false, false, false, false, false, false, false, false, false, false, false, false, false, false, false, false, false, false, false, false, false, false, false, false, false, false, false, false, false, false, false, false, false, false, false, false, false, false, false, false]
  | .exit n => bif Nat.beq n 2 then [false, true, true, true, false, false, false, true, true, false, false, false, false, false, false, false, false, false, false, false, false, false, false, false, false, false, false, false, false, false, false, false, false, false, false, false, false, false, false, false, false, false, false, false, false, false, false, false, false, false, false, false, false, false, false, false, false, false, false, false, false, false, false, false, false, false, false, false, false, false, false, false, false, false, false] else bif Nat.beq n 1 then [false, true, true, true, false, false, false, true, true, false, false, false, false, false, false, false, false, false, false, false, false, false, false, false, false, false, false, false, false, false, false, false, false, false, false, false, false, false, false, false, false, false, false, false, false, false, false, false, false, false, false, false, false, false, false, false, false, false, false, false, false, false, false, false, false, false, false, false, false, false, false, false, false, false, false] else bif Nat.beq n 0 then [false, false, false, false, false, false, false, true, false, false, false, false, false, false, false, false, false, false, false, false, false, false, false, false, false, false, false, false, false, false, false, false, false, false, false, false, false, false, false, false, false, false, false, false, false, false, false, false, false, false, false, false, false, false, false, false, false, false, false, false, false, false, false, false, false, false, false, false, false, false, false, false, false, false, false] else []
  | _ => []
noncomputable def G_skirmishref14_Regions_1 (R2 : LL) (i : Int) : Nat → LL → Int → Option (LL)
  | 0, _, _ => none
  | m + 1, R1, k1 =>
    bif (decide (k1 < (Int.ofNat R2.length))) then
      bif ((decide ((0 : Int) ≤ k1)) && (decide (k1 < (Int.ofNat R2.length)))) then
        Option.bind (R2[k1.toNat]?) fun r =>
        bif (chk [(LT.int IntKind.i64)] r) then
          bif (decide ((cI r 0) ≥ (0 : Int))) then
            bif (decide (k1 < (Int.ofNat R1.length))) then
              G_skirmishref14_Regions_1 R2 i m (List.set R1 k1.toNat [(i64 i)]) (wr (k1 + (1 : Int)))
            else
            none
          else
          G_skirmishref14_Regions_1 R2 i m R1 (wr (k1 + (1 : Int)))
        else
        none
      else
      none
    else
    some R1
noncomputable def E21_1 (R1 R2 blocked : LL) (class_ i k1 b0_0 b0_1 : Int) (b0_2 : LL) : St := ⟨[.dead, (.ro 1 blocked), (.sc (.int .i64 class_)), (.ref 16000 1 0 0), .dead, .dead, .dead, (.slc 25680 (R1).length), (.sc (.int .i64 i)), .dead, (.slc 44864 (R2).length), (.sc (.int .i64 k1)), .dead, .dead, .dead, .dead, .dead, .dead, .dead, .dead, .dead, .dead, .dead, .dead, .dead, .dead, .dead, .dead, .dead, .dead, .dead, .dead, .dead, .dead, .dead, .dead, .dead, .dead, .dead, .dead, .dead, .dead, .dead, .dead, .dead, .dead, .dead, .dead, .dead, .dead, .dead, .dead, .dead, .dead, .dead, .dead, .dead, .dead, .dead, .dead, .dead, .dead, .dead, .dead, .dead, .dead, .dead, .dead, .dead, .dead, .dead, .dead, .dead, .dead, .dead], [(16000, ⟨.box, 24, 3, [[(.sc (.int .i64 b0_0)), (.sc (.int .i64 b0_1)), (.ro 3 b0_2)]]⟩), (25680, ⟨.arr, 3, 1, R1⟩), (44864, ⟨.arr, 3, 1, R2⟩)]⟩
noncomputable def X21_1 (blocked : LL) (class_ i b0_0 b0_1 : Int) (b0_2 : LL) (k : Ex → St → Option CR) (t : LL) : Option CR := k (.exit 2) ⟨[.dead, (.ro 1 blocked), (.sc (.int .i64 class_)), (.ref 16000 1 0 0), .dead, .dead, .dead, (.slc 25680 (t).length), (.sc (.int .i64 i)), .dead, .dead, .dead, .dead, .dead, .dead, .dead, .dead, .dead, .dead, .dead, .dead, .dead, .dead, .dead, .dead, .dead, .dead, .dead, .dead, .dead, .dead, .dead, .dead, .dead, .dead, .dead, .dead, .dead, .dead, .dead, .dead, .dead, .dead, .dead, .dead, .dead, .dead, .dead, .dead, .dead, .dead, .dead, .dead, .dead, .dead, .dead, .dead, .dead, .dead, .dead, .dead, .dead, .dead, .dead, .dead, .dead, .dead, .dead, .dead, .dead, .dead, .dead, .dead, .dead, .dead], [(16000, ⟨.box, 24, 3, [[(.sc (.int .i64 b0_0)), (.sc (.int .i64 b0_1)), (.ro 3 b0_2)]]⟩), (25680, ⟨.arr, 3, 1, t⟩)]⟩
noncomputable def ks21_1 : List SK := [.f .dead, .f (.ro 1), .f (.int .i64), .f (.ref 16000 1 0 0), .f .dead, .f .dead, .f .dead, .f (.slc 25680 1), .f (.int .i64), .f .dead, .f (.slc 44864 2), .f (.int .i64), .f .dead, .f .dead, .f .dead, .f .dead, .f .dead, .f .dead, .f .dead, .f .dead, .f .dead, .f .dead, .f .dead, .f .dead, .f .dead, .f .dead, .f .dead, .f .dead, .f .dead, .f .dead, .f .dead, .f .dead, .f .dead, .f .dead, .f .dead, .f .dead, .f .dead, .f .dead, .f .dead, .f .dead, .f .dead, .f .dead, .f .dead, .f .dead, .f .dead, .f .dead, .f .dead, .f .dead, .f .dead, .f .dead, .f .dead, .f .dead, .f .dead, .f .dead, .f .dead, .f .dead, .f .dead, .f .dead, .f .dead, .f .dead, .f .dead, .f .dead, .f .dead, .f .dead, .f .dead, .f .dead, .f .dead, .f .dead, .f .dead, .f .dead, .f .dead, .f .dead, .f .dead, .f .dead, .f .dead]
noncomputable def hs21_1 : List HK := [⟨16000, .box, 24, 3, some [.int .i64, .int .i64, .ro 3]⟩, ⟨25680, .arr, 3, 1, none⟩, ⟨44864, .arr, 3, 1, none⟩]
noncomputable def Lm21_1 (s : St) (k : Ex → St → Option CR) : Option CR := bif chkS ks21_1 hs21_1 s then (G_skirmishref14_Regions_1 (blkAt s.heap 2).2.rows (toI (cIa s.tmps 8)) FU (blkAt s.heap 1).2.rows (toI (cIa s.tmps 11))).bind (X21_1 (roRows (cIa s.tmps 1)) (toI (cIa s.tmps 2)) (toI (cIa s.tmps 8)) (toI (cIa (rows0 (blkAt s.heap 0).2) 0)) (toI (cIa (rows0 (blkAt s.heap 0).2) 1)) (roRows (cIa (rows0 (blkAt s.heap 0).2) 2)) k) else none
noncomputable def L21_1 (s : St) (k : Ex → St → Option CR) : Option CR := Lm21_1 (maskS (maskOf ks21_1) s) k
noncomputable def G_skirmishref14_Regions_0 (blocked : LL) (class_ b0_0 b0_1 : Int) (b0_2 : LL) : Nat → LL → Int → Option (LL)
  | 0, _, _ => none
  | m + 1, R1, i =>
    bif (decide (i < (Int.ofNat R1.length))) then
      bif (b0_0 == (0 : Int)) then
        none
      else
      bif ((decide ((0 : Int) ≤ i)) && (decide (i < (Int.ofNat R1.length)))) then
        Option.bind (R1[i.toNat]?) fun r =>
        bif (chk [(LT.int IntKind.i64)] r) then
          bif (decide ((cI r 0) ≥ (0 : Int))) then
            G_skirmishref14_Regions_0 blocked class_ b0_0 b0_1 b0_2 m R1 (wr (i + (1 : Int)))
          else
          Option.bind (F_skirmishref14_Free b0_0 b0_1 b0_2 blocked class_ (Int.tmod i b0_0) (wr (Int.tdiv i b0_0))) fun t =>
          bif (!t) then
            G_skirmishref14_Regions_0 blocked class_ b0_0 b0_1 b0_2 m R1 (wr (i + (1 : Int)))
          else
          Option.bind (F_skirmishref14_Reach b0_0 b0_1 b0_2 blocked class_ (Int.tmod i b0_0) (wr (Int.tdiv i b0_0))) fun t1 =>
          Option.bind (G_skirmishref14_Regions_1 t1 i FU R1 (0 : Int)) fun t2 =>
          G_skirmishref14_Regions_0 blocked class_ b0_0 b0_1 b0_2 m t2 (wr (i + (1 : Int)))
        else
        none
      else
      none
    else
    some R1
noncomputable def E21_0 (R1 blocked : LL) (class_ i b0_0 b0_1 : Int) (b0_2 : LL) : St := ⟨[.dead, (.ro 1 blocked), (.sc (.int .i64 class_)), (.ref 16000 1 0 0), .dead, .dead, .dead, (.slc 25680 (R1).length), (.sc (.int .i64 i)), .dead, .dead, .dead, .dead, .dead, .dead, .dead, .dead, .dead, .dead, .dead, .dead, .dead, .dead, .dead, .dead, .dead, .dead, .dead, .dead, .dead, .dead, .dead, .dead, .dead, .dead, .dead, .dead, .dead, .dead, .dead, .dead, .dead, .dead, .dead, .dead, .dead, .dead, .dead, .dead, .dead, .dead, .dead, .dead, .dead, .dead, .dead, .dead, .dead, .dead, .dead, .dead, .dead, .dead, .dead, .dead, .dead, .dead, .dead, .dead, .dead, .dead, .dead, .dead, .dead, .dead], [(16000, ⟨.box, 24, 3, [[(.sc (.int .i64 b0_0)), (.sc (.int .i64 b0_1)), (.ro 3 b0_2)]]⟩), (25680, ⟨.arr, 3, 1, R1⟩)]⟩
noncomputable def X21_0 (k : Ex → St → Option CR) (t : LL) : Option CR := k (.exit 0) ⟨[.dead, .dead, .dead, .dead, .dead, .dead, .dead, (.slc 25680 (t).length), .dead, .dead, .dead, .dead, .dead, .dead, .dead, .dead, .dead, .dead, .dead, .dead, .dead, .dead, .dead, .dead, .dead, .dead, .dead, .dead, .dead, .dead, .dead, .dead, .dead, .dead, .dead, .dead, .dead, .dead, .dead, .dead, .dead, .dead, .dead, .dead, .dead, .dead, .dead, .dead, .dead, .dead, .dead, .dead, .dead, .dead, .dead, .dead, .dead, .dead, .dead, .dead, .dead, .dead, .dead, .dead, .dead, .dead, .dead, .dead, .dead, .dead, .dead, .dead, .dead, .dead, .dead], [(25680, ⟨.arr, 3, 1, t⟩)]⟩
noncomputable def ks21_0 : List SK := [.f .dead, .f (.ro 1), .f (.int .i64), .f (.ref 16000 1 0 0), .f .dead, .f .dead, .f .dead, .f (.slc 25680 1), .f (.int .i64), .f .dead, .f .dead, .f .dead, .f .dead, .f .dead, .f .dead, .f .dead, .f .dead, .f .dead, .f .dead, .f .dead, .f .dead, .f .dead, .f .dead, .f .dead, .f .dead, .f .dead, .f .dead, .f .dead, .f .dead, .f .dead, .f .dead, .f .dead, .f .dead, .f .dead, .f .dead, .f .dead, .f .dead, .f .dead, .f .dead, .f .dead, .f .dead, .f .dead, .f .dead, .f .dead, .f .dead, .f .dead, .f .dead, .f .dead, .f .dead, .f .dead, .f .dead, .f .dead, .f .dead, .f .dead, .f .dead, .f .dead, .f .dead, .f .dead, .f .dead, .f .dead, .f .dead, .f .dead, .f .dead, .f .dead, .f .dead, .f .dead, .f .dead, .f .dead, .f .dead, .f .dead, .f .dead, .f .dead, .f .dead, .f .dead, .f .dead]
noncomputable def hs21_0 : List HK := [⟨16000, .box, 24, 3, some [.int .i64, .int .i64, .ro 3]⟩, ⟨25680, .arr, 3, 1, none⟩]
noncomputable def Lm21_0 (s : St) (k : Ex → St → Option CR) : Option CR := bif chkS ks21_0 hs21_0 s then (G_skirmishref14_Regions_0 (roRows (cIa s.tmps 1)) (toI (cIa s.tmps 2)) (toI (cIa (rows0 (blkAt s.heap 0).2) 0)) (toI (cIa (rows0 (blkAt s.heap 0).2) 1)) (roRows (cIa (rows0 (blkAt s.heap 0).2) 2)) FU (blkAt s.heap 1).2.rows (toI (cIa s.tmps 8))).bind (X21_0 k) else none
noncomputable def L21_0 (s : St) (k : Ex → St → Option CR) : Option CR := Lm21_0 (maskS (maskOf ks21_0) s) k
noncomputable def L21 : LT' := fun i s k => bif Nat.beq i 0 then L21_0 s k else bif Nat.beq i 2 then L21_1 s k else none
noncomputable def F_skirmishref14_Regions (m_W m_H : Int) (m_Cells blocked : LL) (class_ : Int) : Option (LL) :=
  Option.bind (F_skirmishref07_Valid m_W m_H m_Cells) fun t =>
  bif (!t) then
    some []
  else
  Option.bind (F_skirmishref14_Class class_) fun t1 =>
  bif (!t1) then
    some []
  else
  Option.bind (F_skirmishref14_None (wr (m_W * m_H))) fun t2 =>
  Option.bind (G_skirmishref14_Regions_0 blocked class_ m_W m_H m_Cells FU t2 (0 : Int)) fun t3 =>
  some t3
noncomputable def enc21 (t : LL) : CR := ⟨true, (.slc 0 (t).length), [], [⟨.arr, 3, 1, t⟩]⟩
noncomputable def ks21 : List SK := [.agg [.int .i64, .int .i64, .ro 3], .f (.ro 1), .f (.int .i64)]
noncomputable def S21 (us : List AVal) : Call := bif chkA ks21 us then Call.of (F_skirmishref14_Regions (toI (cIa (aggL (cIa us 0)) 0)) (toI (cIa (aggL (cIa us 0)) 1)) (roRows (cIa (aggL (cIa us 0)) 2)) (roRows (cIa us 1)) (toI (cIa us 2))) enc21 else Call.none
noncomputable def C21 := AI.ext 21 S21 C17
@[reducible] noncomputable def B21_1 := bodyOf TT TU GL0 C17 ownF L21 (lp Tryd.f21 1)
@[reducible] noncomputable def K21_1 (k : Ex → St → Option CR) : Ex → St → Option CR := fun e s => k e (maskS (W21_1 e) s)
theorem spec21_1 (k : Ex → St → Option CR) : ∀ (m : Nat) (R1 R2 blocked : LL) (class_ i k1 b0_0 b0_1 : Int) (b0_2 : LL), loopN B21_1 m (E21_1 R1 R2 blocked class_ i k1 b0_0 b0_1 b0_2) (K21_1 k) = (G_skirmishref14_Regions_1 R2 i m R1 k1).bind (X21_1 blocked class_ i b0_0 b0_1 b0_2 k)
  | 0, _, _, _, _, _, _, _, _, _ => rfl
  | m + 1, R1, R2, blocked, class_, i, k1, b0_0, b0_1, b0_2 =>
    Eq.trans (b := (bif (verEq R2.length R2.length) then (bif (decide (k1 < (Int.ofNat R2.length))) then (bif (((verEq R2.length R2.length) && (decide ((0 : Int) ≤ k1))) && (decide (k1 < (Int.ofNat R2.length)))) then (bif (verEq R2.length R2.length) then (Option.bind (R2[k1.toNat]?) fun r => (bif (chk [(LT.int IntKind.i64)] r) then (bif (decide ((cI r 0) ≥ (0 : Int))) then (bif (((verEq R1.length R1.length) && (decide ((0 : Int) ≤ k1))) && (decide (k1 < (Int.ofNat R1.length)))) then (bif ((((verEq R1.length R1.length) && true) && true) && true) then (loopN B21_1 m ⟨[.dead, (AVal.ro 1 blocked), (i64 class_), (AVal.ref 16000 1 0 0), .dead, .dead, .dead, (AVal.slc 25680 R1.length), (i64 i), .dead, (AVal.slc 44864 R2.length), (i64 (wr (k1 + (1 : Int)))), .dead, .dead, .dead, .dead, .dead, .dead, .dead, .dead, .dead, .dead, .dead, .dead, .dead, .dead, .dead, .dead, .dead, .dead, .dead, .dead, .dead, .dead, .dead, .dead, .dead, .dead, .dead, .dead, .dead, .dead, .dead, .dead, .dead, .dead, .dead, .dead, .dead, .dead, .dead, .dead, .dead, .dead, .dead, .dead, .dead, .dead, .dead, .dead, .dead, .dead, .dead, .dead, .dead, .dead, .dead, .dead, .dead, .dead, .dead, .dead, .dead, .dead, .dead], [(Prod.mk 16000 (Blk.mk BKind.box 24 3 [[(i64 b0_0), (i64 b0_1), (AVal.ro 3 b0_2)]])), (Prod.mk 25680 (Blk.mk BKind.arr 3 1 (List.set R1 k1.toNat [(i64 i)]))), (Prod.mk 44864 (Blk.mk BKind.arr 3 1 R2))]⟩ (K21_1 k)) else none) else none) else (loopN B21_1 m ⟨[.dead, (AVal.ro 1 blocked), (i64 class_), (AVal.ref 16000 1 0 0), .dead, .dead, .dead, (AVal.slc 25680 R1.length), (i64 i), .dead, (AVal.slc 44864 R2.length), (i64 (wr (k1 + (1 : Int)))), .dead, .dead, .dead, .dead, .dead, .dead, .dead, .dead, .dead, .dead, .dead, .dead, .dead, .dead, .dead, .dead, .dead, .dead, .dead, .dead, .dead, .dead, .dead, .dead, .dead, .dead, .dead, .dead, .dead, .dead, .dead, .dead, .dead, .dead, .dead, .dead, .dead, .dead, .dead, .dead, .dead, .dead, .dead, .dead, .dead, .dead, .dead, .dead, .dead, .dead, .dead, .dead, .dead, .dead, .dead, .dead, .dead, .dead, .dead, .dead, .dead, .dead, .dead], [(Prod.mk 16000 (Blk.mk BKind.box 24 3 [[(i64 b0_0), (i64 b0_1), (AVal.ro 3 b0_2)]])), (Prod.mk 25680 (Blk.mk BKind.arr 3 1 R1)), (Prod.mk 44864 (Blk.mk BKind.arr 3 1 R2))]⟩ (K21_1 k))) else none)) else none) else none) else (k (.exit 2) ⟨[.dead, (AVal.ro 1 blocked), (i64 class_), (AVal.ref 16000 1 0 0), .dead, .dead, .dead, (AVal.slc 25680 R1.length), (i64 i), .dead, .dead, .dead, .dead, .dead, .dead, .dead, .dead, .dead, .dead, .dead, .dead, .dead, .dead, .dead, .dead, .dead, .dead, .dead, .dead, .dead, .dead, .dead, .dead, .dead, .dead, .dead, .dead, .dead, .dead, .dead, .dead, .dead, .dead, .dead, .dead, .dead, .dead, .dead, .dead, .dead, .dead, .dead, .dead, .dead, .dead, .dead, .dead, .dead, .dead, .dead, .dead, .dead, .dead, .dead, .dead, .dead, .dead, .dead, .dead, .dead, .dead, .dead, .dead, .dead, .dead], [(Prod.mk 16000 (Blk.mk BKind.box 24 3 [[(i64 b0_0), (i64 b0_1), (AVal.ro 3 b0_2)]])), (Prod.mk 25680 (Blk.mk BKind.arr 3 1 R1))]⟩)) else none)) (by kernel_rfl)
      (n_true (verEq_rfl _) (n_condH rfl (fun h0 => (n_condH (n_and (n_andL (verEq_rfl _) rfl) rfl) (fun h1 => (n_true (verEq_rfl _) (n_bind fun r => (n_condH rfl (fun h2 => (n_condH rfl (fun h3 => (n_condH (n_andL (n_andL (verEq_rfl _) (n_al h1)) rfl) (fun h4 => (n_true (n_andL (n_andL (n_andL (verEq_rfl _) rfl) rfl) rfl) ((congrArg (fun z => loopN B21_1 m z (K21_1 k)) (by simp [E21_1] : _ = E21_1 (List.set R1 k1.toNat [(i64 i)]) R2 blocked class_ i (wr (k1 + (1 : Int))) b0_0 b0_1 b0_2)).trans (spec21_1 k m (List.set R1 k1.toNat [(i64 i)]) R2 blocked class_ i (wr (k1 + (1 : Int))) b0_0 b0_1 b0_2)))) fun h4 => n_none)) fun h3 => (spec21_1 k m R1 R2 blocked class_ i (wr (k1 + (1 : Int))) b0_0 b0_1 b0_2))) fun h2 => n_none)))) fun h1 => n_none)) fun h0 => rfl))
theorem okL21_1 : LoopOk TT TU GL0 C17 ownF L21 (lp Tryd.f21 1) :=
  loopOk_of ks21_1 hs21_1 W21_1 FU (fun s k => (G_skirmishref14_Regions_1 (blkAt s.heap 2).2.rows (toI (cIa s.tmps 8)) FU (blkAt s.heap 1).2.rows (toI (cIa s.tmps 11))).bind (X21_1 (roRows (cIa s.tmps 1)) (toI (cIa s.tmps 2)) (toI (cIa s.tmps 8)) (toI (cIa (rows0 (blkAt s.heap 0).2) 0)) (toI (cIa (rows0 (blkAt s.heap 0).2) 1)) (roRows (cIa (rows0 (blkAt s.heap 0).2) 2)) k)) (fun s k => by kernel_rfl) (fun s k => spec21_1 k FU (blkAt s.heap 1).2.rows (blkAt s.heap 2).2.rows (roRows (cIa s.tmps 1)) (toI (cIa s.tmps 2)) (toI (cIa s.tmps 8)) (toI (cIa s.tmps 11)) (toI (cIa (rows0 (blkAt s.heap 0).2) 0)) (toI (cIa (rows0 (blkAt s.heap 0).2) 1)) (roRows (cIa (rows0 (blkAt s.heap 0).2) 2)))
@[reducible] noncomputable def B21_0 := bodyOf TT TU GL0 C17 ownF L21 (lp Tryd.f21 0)
@[reducible] noncomputable def K21_0 (k : Ex → St → Option CR) : Ex → St → Option CR := fun e s => k e (maskS (W21_0 e) s)
theorem spec21_0 (k : Ex → St → Option CR) : ∀ (m : Nat) (R1 blocked : LL) (class_ i b0_0 b0_1 : Int) (b0_2 : LL), loopN B21_0 m (E21_0 R1 blocked class_ i b0_0 b0_1 b0_2) (K21_0 k) = (G_skirmishref14_Regions_0 blocked class_ b0_0 b0_1 b0_2 m R1 i).bind (X21_0 k)
  | 0, _, _, _, _, _, _, _ => rfl
  | m + 1, R1, blocked, class_, i, b0_0, b0_1, b0_2 =>
    Eq.trans (by kernel_rfl) (n_tru (show (verEq R1.length R1.length) = true from (verEq_rfl _)) (n_condH rfl (fun h0 => (n_condH rfl (fun h1 => rfl) fun h1 => (n_false (A := none) h1 (n_condH (show ((((verEq R1.length R1.length) && (decide ((0 : Int) ≤ i))) && (decide (i < (Int.ofNat R1.length))))) = _ from (n_and (n_andL (verEq_rfl _) rfl) rfl)) (fun h2 => (n_tru (show (verEq R1.length R1.length) = true from (verEq_rfl _)) (n_bind fun r => (n_condH rfl (fun h3 => (n_condH rfl (fun h4 => (spec21_0 k m R1 blocked class_ (wr (i + (1 : Int))) b0_0 b0_1 b0_2)) fun h4 => (n_bind fun t => (n_condH rfl (fun h5 => (spec21_0 k m R1 blocked class_ (wr (i + (1 : Int))) b0_0 b0_1 b0_2)) fun h5 => (n_bind fun t1 => (n_tru (show ((((true && (verEq t1.length t1.length)) && true) && true) && true) = true from (n_andL (n_andL (n_andL (n_andL rfl (verEq_rfl _)) rfl) rfl) rfl)) (n_tru (show (((true && (verEq R1.length (blkLen [(Prod.mk 16000 (Blk.mk BKind.box 24 3 [[(i64 b0_0), (i64 b0_1), (AVal.ro 3 b0_2)]])), (Prod.mk 25680 (Blk.mk BKind.arr 3 1 R1)), (Prod.mk 44864 (Blk.mk BKind.arr 3 1 t1))] 1))) && ((true && (verEq t1.length (blkLen [(Prod.mk 16000 (Blk.mk BKind.box 24 3 [[(i64 b0_0), (i64 b0_1), (AVal.ro 3 b0_2)]])), (Prod.mk 25680 (Blk.mk BKind.arr 3 1 R1)), (Prod.mk 44864 (Blk.mk BKind.arr 3 1 t1))] 2))) && true)) && true) = true from (n_andL (n_andL (n_andL rfl (by first | exact verEq_of rfl | simp [verEq, blkLen, blkAt])) (n_andL (n_andL rfl (by first | exact verEq_of rfl | simp [verEq, blkLen, blkAt])) rfl)) rfl)) (n_bind fun t2 => (spec21_0 k m t2 blocked class_ (wr (i + (1 : Int))) b0_0 b0_1 b0_2))))))))) fun h3 => rfl)))) fun h2 => rfl)))) fun h0 => rfl))
theorem okL21_0 : LoopOk TT TU GL0 C17 ownF L21 (lp Tryd.f21 0) :=
  loopOk_of ks21_0 hs21_0 W21_0 FU (fun s k => (G_skirmishref14_Regions_0 (roRows (cIa s.tmps 1)) (toI (cIa s.tmps 2)) (toI (cIa (rows0 (blkAt s.heap 0).2) 0)) (toI (cIa (rows0 (blkAt s.heap 0).2) 1)) (roRows (cIa (rows0 (blkAt s.heap 0).2) 2)) FU (blkAt s.heap 1).2.rows (toI (cIa s.tmps 8))).bind (X21_0 k)) (fun s k => by kernel_rfl) (fun s k => spec21_0 k FU (blkAt s.heap 1).2.rows (roRows (cIa s.tmps 1)) (toI (cIa s.tmps 2)) (toI (cIa s.tmps 8)) (toI (cIa (rows0 (blkAt s.heap 0).2) 0)) (toI (cIa (rows0 (blkAt s.heap 0).2) 1)) (roRows (cIa (rows0 (blkAt s.heap 0).2) 2)))
theorem run21 (m_W m_H : Int) (m_Cells blocked : LL) (class_ : Int) : fcall TT TU GL0 C17 ownF true L21 Tryd.f21 [(.agg [(.sc (.int .i64 m_W)), (.sc (.int .i64 m_H)), (.ro 3 m_Cells)]), (.ro 1 blocked), (.sc (.int .i64 class_))] = (F_skirmishref14_Regions m_W m_H m_Cells blocked class_).bind fun t => some (enc21 t) :=
  Eq.trans (by kernel_rfl) (n_bind fun t => (n_condH rfl (fun h0 => rfl) fun h0 => (n_bind fun t1 => (n_condH rfl (fun h1 => rfl) fun h1 => (n_bind fun t2 => (n_tru (show ((((true && (verEq t2.length t2.length)) && true) && true) && true) = true from (n_andL (n_andL (n_andL (n_andL rfl (verEq_rfl _)) rfl) rfl) rfl)) (n_tru (show (((true && (verEq t2.length (blkLen [(Prod.mk 16000 (Blk.mk BKind.box 24 3 [[(i64 m_W), (i64 m_H), (AVal.ro 3 m_Cells)]])), (Prod.mk 25680 (Blk.mk BKind.arr 3 1 t2))] 1))) && true) && true) = true from (n_andL (n_andL (n_andL rfl (by first | exact verEq_of rfl | simp [verEq, blkLen, blkAt])) rfl) rfl)) (n_bind fun t3 => (n_tru (show (verEq t3.length t3.length) = true from (verEq_rfl _)) rfl)))))))))
theorem lib21 : Lib Tryd.prog GL0 C21 :=
  Lib.fn lib17 mixed TT_ok Tryd.func21 (by decide +kernel) (by kernel_rfl) true L21 (loops_of 2 (by kernel_rfl) (belowS (belowS below0 okL21_0) okL21_1)) ks21 (F := fun us => F_skirmishref14_Regions (toI (cIa (aggL (cIa us 0)) 0)) (toI (cIa (aggL (cIa us 0)) 1)) (roRows (cIa (aggL (cIa us 0)) 2)) (roRows (cIa us 1)) (toI (cIa us 2))) (fun us => rfl) (fun us => run21 (toI (cIa (aggL (cIa us 0)) 0)) (toI (cIa (aggL (cIa us 0)) 1)) (roRows (cIa (aggL (cIa us 0)) 2)) (roRows (cIa us 1)) (toI (cIa us 2))) (fun t => rfl)
noncomputable def F_skirmishlaw14_AstarReaches (x_M_W x_M_H : Int) (x_M_Cells x_Blocked : LL) (x_Class x_A_X x_A_Y x_B_X x_B_Y x_C_X x_C_Y : Int) : Option (Bool) :=
  Option.bind (F_skirmishlaw14_small x_M_W x_M_H x_M_Cells x_Blocked x_Class x_A_X x_A_Y x_B_X x_B_Y x_C_X x_C_Y) fun t =>
  bif (!t) then
    Option.bind F_skirmishlaw14_alive fun t1 =>
    some t1
  else
  Option.bind (F_astar_Reach x_M_W x_M_H x_M_Cells x_Blocked x_Class x_A_X x_A_Y) fun t2 =>
  Option.bind (F_skirmishref14_Reach x_M_W x_M_H x_M_Cells x_Blocked x_Class x_A_X x_A_Y) fun t3 =>
  Option.bind (F_skirmishref14_SameInts t2 t3) fun t4 =>
  bif t4 then
    Option.bind (F_astar_Regions x_M_W x_M_H x_M_Cells x_Blocked x_Class) fun t5 =>
    Option.bind (F_skirmishref14_Regions x_M_W x_M_H x_M_Cells x_Blocked x_Class) fun t6 =>
    Option.bind (F_skirmishref14_SameInts t5 t6) fun t7 =>
    bif t7 then
      Option.bind F_skirmishlaw14_alive fun t8 =>
      some t8
    else
    some false
  else
  some false
noncomputable def enc5 (t : Bool) : CR := ⟨true, (.sc (.bool t)), [], []⟩
noncomputable def ks5 : List SK := [.agg [.int .i64, .int .i64, .ro 3, .ro 1, .int .i64, .int .i64, .int .i64, .int .i64, .int .i64, .int .i64, .int .i64]]
noncomputable def S5 (us : List AVal) : Call := bif chkA ks5 us then Call.of (F_skirmishlaw14_AstarReaches (toI (cIa (aggL (cIa us 0)) 0)) (toI (cIa (aggL (cIa us 0)) 1)) (roRows (cIa (aggL (cIa us 0)) 2)) (roRows (cIa (aggL (cIa us 0)) 3)) (toI (cIa (aggL (cIa us 0)) 4)) (toI (cIa (aggL (cIa us 0)) 5)) (toI (cIa (aggL (cIa us 0)) 6)) (toI (cIa (aggL (cIa us 0)) 7)) (toI (cIa (aggL (cIa us 0)) 8)) (toI (cIa (aggL (cIa us 0)) 9)) (toI (cIa (aggL (cIa us 0)) 10))) enc5 else Call.none
noncomputable def C5 := AI.ext 5 S5 C21
theorem run5 (x_M_W x_M_H : Int) (x_M_Cells x_Blocked : LL) (x_Class x_A_X x_A_Y x_B_X x_B_Y x_C_X x_C_Y : Int) : fcall TT TU GL0 C21 ownF true noL Tryd.f5 [(.agg [(.sc (.int .i64 x_M_W)), (.sc (.int .i64 x_M_H)), (.ro 3 x_M_Cells), (.ro 1 x_Blocked), (.sc (.int .i64 x_Class)), (.sc (.int .i64 x_A_X)), (.sc (.int .i64 x_A_Y)), (.sc (.int .i64 x_B_X)), (.sc (.int .i64 x_B_Y)), (.sc (.int .i64 x_C_X)), (.sc (.int .i64 x_C_Y))])] = (F_skirmishlaw14_AstarReaches x_M_W x_M_H x_M_Cells x_Blocked x_Class x_A_X x_A_Y x_B_X x_B_Y x_C_X x_C_Y).bind fun t => some (enc5 t) :=
  Eq.trans (by kernel_rfl) (n_bind fun t => (n_condH rfl (fun h0 => (n_bind fun t1 => rfl)) fun h0 => (n_bind fun t2 => (n_tru (show ((((true && (verEq t2.length t2.length)) && true) && true) && true) = true from (n_andL (n_andL (n_andL (n_andL rfl (verEq_rfl _)) rfl) rfl) rfl)) (n_bind fun t3 => (n_tru (show ((((true && (verEq t3.length t3.length)) && true) && true) && true) = true from (n_andL (n_andL (n_andL (n_andL rfl (verEq_rfl _)) rfl) rfl) rfl)) (n_tru (show (verEq t2.length t2.length) = true from (verEq_rfl _)) (n_tru (show (verEq t3.length t3.length) = true from (verEq_rfl _)) (n_bind fun t4 => (n_condH rfl (fun h1 => (n_bind fun t5 => (n_tru (show ((((true && (verEq t5.length t5.length)) && true) && true) && true) = true from (n_andL (n_andL (n_andL (n_andL rfl (verEq_rfl _)) rfl) rfl) rfl)) (n_bind fun t6 => (n_tru (show ((((true && (verEq t6.length t6.length)) && true) && true) && true) = true from (n_andL (n_andL (n_andL (n_andL rfl (verEq_rfl _)) rfl) rfl) rfl)) (n_tru (show (verEq t5.length t5.length) = true from (verEq_rfl _)) (n_tru (show (verEq t6.length t6.length) = true from (verEq_rfl _)) (n_bind fun t7 => (n_condH rfl (fun h2 => (n_bind fun t8 => rfl)) fun h2 => rfl))))))))) fun h1 => rfl))))))))))
theorem lib5 : Lib Tryd.prog GL0 C5 :=
  Lib.fn lib21 mixed TT_ok Tryd.func5 (by decide +kernel) (by kernel_rfl) true noL (loops_of 0 (by kernel_rfl) below0) ks5 (F := fun us => F_skirmishlaw14_AstarReaches (toI (cIa (aggL (cIa us 0)) 0)) (toI (cIa (aggL (cIa us 0)) 1)) (roRows (cIa (aggL (cIa us 0)) 2)) (roRows (cIa (aggL (cIa us 0)) 3)) (toI (cIa (aggL (cIa us 0)) 4)) (toI (cIa (aggL (cIa us 0)) 5)) (toI (cIa (aggL (cIa us 0)) 6)) (toI (cIa (aggL (cIa us 0)) 7)) (toI (cIa (aggL (cIa us 0)) 8)) (toI (cIa (aggL (cIa us 0)) 9)) (toI (cIa (aggL (cIa us 0)) 10))) (fun us => rfl) (fun us => run5 (toI (cIa (aggL (cIa us 0)) 0)) (toI (cIa (aggL (cIa us 0)) 1)) (roRows (cIa (aggL (cIa us 0)) 2)) (roRows (cIa (aggL (cIa us 0)) 3)) (toI (cIa (aggL (cIa us 0)) 4)) (toI (cIa (aggL (cIa us 0)) 5)) (toI (cIa (aggL (cIa us 0)) 6)) (toI (cIa (aggL (cIa us 0)) 7)) (toI (cIa (aggL (cIa us 0)) 8)) (toI (cIa (aggL (cIa us 0)) 9)) (toI (cIa (aggL (cIa us 0)) 10))) (fun t => rfl)
noncomputable def F_skirmishlaw14_AstarAgrees (x_M_W x_M_H : Int) (x_M_Cells x_Blocked : LL) (x_Class x_A_X x_A_Y x_B_X x_B_Y x_C_X x_C_Y : Int) : Option (Bool) :=
  Option.bind (F_skirmishlaw14_small x_M_W x_M_H x_M_Cells x_Blocked x_Class x_A_X x_A_Y x_B_X x_B_Y x_C_X x_C_Y) fun t =>
  bif (!t) then
    Option.bind F_skirmishlaw14_alive fun t1 =>
    some t1
  else
  Option.bind (F_astar_Path x_M_W x_M_H x_M_Cells x_Blocked x_Class x_A_X x_A_Y x_B_X x_B_Y) fun t2 =>
  bif (t2.2.2 != (0 : Int)) then
    bif ((Int.ofNat t2.1.length) == (0 : Int)) then
      bif (t2.2.1 == (0 : Int)) then
        Option.bind F_skirmishlaw14_alive fun t3 =>
        some t3
      else
      some false
    else
    some false
  else
  Option.bind (F_astar_Cost x_M_W x_M_H x_M_Cells x_Blocked x_Class t2.1) fun t4 =>
  Option.bind (F_astar_Reach x_M_W x_M_H x_M_Cells x_Blocked x_Class x_A_X x_A_Y) fun t5 =>
  Option.bind (F_astar_Reach x_M_W x_M_H x_M_Cells x_Blocked x_Class x_B_X x_B_Y) fun t6 =>
  bif ((Int.ofNat t5.length) != (Int.ofNat x_M_Cells.length)) then
    some false
  else
  bif ((Int.ofNat t6.length) != (Int.ofNat t5.length)) then
    some false
  else
  bif ((Int.ofNat t2.1.length) == (0 : Int)) then
    some false
  else
  bif (decide ((wr ((wr (x_A_Y * x_M_W)) + x_A_X)) < (0 : Int))) then
    some false
  else
  bif (decide ((wr ((wr (x_B_Y * x_M_W)) + x_B_X)) < (0 : Int))) then
    some false
  else
  bif (decide ((wr ((wr (x_A_Y * x_M_W)) + x_A_X)) ≥ (Int.ofNat t5.length))) then
    some false
  else
  bif (decide ((wr ((wr (x_B_Y * x_M_W)) + x_B_X)) ≥ (Int.ofNat t5.length))) then
    some false
  else
  bif (decide ((0 : Int) < (Int.ofNat t2.1.length))) then
    Option.bind (t2.1[(0 : Int).toNat]?) fun r =>
    bif (chk [(LT.int IntKind.i64), (LT.int IntKind.i64)] r) then
      bif (((cI r 0) == x_A_X) && ((cI r 1) == x_A_Y)) then
        bif ((decide ((0 : Int) ≤ (wr ((Int.ofNat t2.1.length) - (1 : Int))))) && (decide ((wr ((Int.ofNat t2.1.length) - (1 : Int))) < (Int.ofNat t2.1.length)))) then
          Option.bind (t2.1[(wr ((Int.ofNat t2.1.length) - (1 : Int))).toNat]?) fun r1 =>
          bif (chk [(LT.int IntKind.i64), (LT.int IntKind.i64)] r1) then
            bif (((cI r1 0) == x_B_X) && ((cI r1 1) == x_B_Y)) then
              bif (t4.1 == t2.2.1) then
                bif (t4.2 == (0 : Int)) then
                  bif ((decide ((0 : Int) ≤ (wr ((wr (x_B_Y * x_M_W)) + x_B_X)))) && (decide ((wr ((wr (x_B_Y * x_M_W)) + x_B_X)) < (Int.ofNat t5.length)))) then
                    Option.bind (t5[(wr ((wr (x_B_Y * x_M_W)) + x_B_X)).toNat]?) fun r2 =>
                    bif (chk [(LT.int IntKind.i64)] r2) then
                      bif ((cI r2 0) == t2.2.1) then
                        bif ((decide ((0 : Int) ≤ (wr ((wr (x_A_Y * x_M_W)) + x_A_X)))) && (decide ((wr ((wr (x_A_Y * x_M_W)) + x_A_X)) < (Int.ofNat t6.length)))) then
                          Option.bind (t6[(wr ((wr (x_A_Y * x_M_W)) + x_A_X)).toNat]?) fun r3 =>
                          bif (chk [(LT.int IntKind.i64)] r3) then
                            bif ((cI r3 0) == t2.2.1) then
                              Option.bind F_skirmishlaw14_alive fun t7 =>
                              some t7
                            else
                            some false
                          else
                          none
                        else
                        none
                      else
                      some false
                    else
                    none
                  else
                  none
                else
                some false
              else
              some false
            else
            some false
          else
          none
        else
        none
      else
      some false
    else
    none
  else
  none
noncomputable def enc6 (t : Bool) : CR := ⟨true, (.sc (.bool t)), [], []⟩
noncomputable def ks6 : List SK := [.agg [.int .i64, .int .i64, .ro 3, .ro 1, .int .i64, .int .i64, .int .i64, .int .i64, .int .i64, .int .i64, .int .i64]]
noncomputable def S6 (us : List AVal) : Call := bif chkA ks6 us then Call.of (F_skirmishlaw14_AstarAgrees (toI (cIa (aggL (cIa us 0)) 0)) (toI (cIa (aggL (cIa us 0)) 1)) (roRows (cIa (aggL (cIa us 0)) 2)) (roRows (cIa (aggL (cIa us 0)) 3)) (toI (cIa (aggL (cIa us 0)) 4)) (toI (cIa (aggL (cIa us 0)) 5)) (toI (cIa (aggL (cIa us 0)) 6)) (toI (cIa (aggL (cIa us 0)) 7)) (toI (cIa (aggL (cIa us 0)) 8)) (toI (cIa (aggL (cIa us 0)) 9)) (toI (cIa (aggL (cIa us 0)) 10))) enc6 else Call.none
noncomputable def C6 := AI.ext 6 S6 C5
theorem run6 (x_M_W x_M_H : Int) (x_M_Cells x_Blocked : LL) (x_Class x_A_X x_A_Y x_B_X x_B_Y x_C_X x_C_Y : Int) : fcall TT TU GL0 C5 ownF true noL Tryd.f6 [(.agg [(.sc (.int .i64 x_M_W)), (.sc (.int .i64 x_M_H)), (.ro 3 x_M_Cells), (.ro 1 x_Blocked), (.sc (.int .i64 x_Class)), (.sc (.int .i64 x_A_X)), (.sc (.int .i64 x_A_Y)), (.sc (.int .i64 x_B_X)), (.sc (.int .i64 x_B_Y)), (.sc (.int .i64 x_C_X)), (.sc (.int .i64 x_C_Y))])] = (F_skirmishlaw14_AstarAgrees x_M_W x_M_H x_M_Cells x_Blocked x_Class x_A_X x_A_Y x_B_X x_B_Y x_C_X x_C_Y).bind fun t => some (enc6 t) :=
  Eq.trans (by kernel_rfl) (n_bind fun t => (n_condH rfl (fun h0 => (n_bind fun t1 => rfl)) fun h0 => (n_bind fun t2 => (n_tru (show ((((true && (verEq t2.1.length t2.1.length)) && true) && true) && true) = true from (n_andL (n_andL (n_andL (n_andL rfl (verEq_rfl _)) rfl) rfl) rfl)) (n_condH rfl (fun h1 => (n_tru (show (verEq t2.1.length t2.1.length) = true from (verEq_rfl _)) (n_condH rfl (fun h2 => (n_condH rfl (fun h3 => (n_bind fun t3 => rfl)) fun h3 => rfl)) fun h2 => rfl))) fun h1 => (n_tru (show (verEq t2.1.length t2.1.length) = true from (verEq_rfl _)) (n_bind fun t4 => (n_bind fun t5 => (n_tru (show ((((true && (verEq t5.length t5.length)) && true) && true) && true) = true from (n_andL (n_andL (n_andL (n_andL rfl (verEq_rfl _)) rfl) rfl) rfl)) (n_bind fun t6 => (n_tru (show ((((true && (verEq t6.length t6.length)) && true) && true) && true) = true from (n_andL (n_andL (n_andL (n_andL rfl (verEq_rfl _)) rfl) rfl) rfl)) (n_tru (show (verEq t5.length t5.length) = true from (verEq_rfl _)) (n_condH rfl (fun h2 => rfl) fun h2 => (n_tru (show (verEq t6.length t6.length) = true from (verEq_rfl _)) (n_tru (show (verEq t5.length t5.length) = true from (verEq_rfl _)) (n_condH rfl (fun h3 => rfl) fun h3 => (n_tru (show (verEq t2.1.length t2.1.length) = true from (verEq_rfl _)) (n_condH rfl (fun h4 => rfl) fun h4 => (n_condH rfl (fun h5 => rfl) fun h5 => (n_condH rfl (fun h6 => rfl) fun h6 => (n_tru (show (verEq t5.length t5.length) = true from (verEq_rfl _)) (n_condH rfl (fun h7 => rfl) fun h7 => (n_tru (show (verEq t5.length t5.length) = true from (verEq_rfl _)) (n_condH rfl (fun h8 => rfl) fun h8 => (n_condH (show ((((verEq t2.1.length t2.1.length) && (decide ((0 : Int) ≤ (0 : Int)))) && (decide ((0 : Int) < (Int.ofNat t2.1.length))))) = _ from (n_andL (n_andL (verEq_rfl _) (by kernel_rfl)) rfl)) (fun h9 => (n_tru (show (verEq t2.1.length t2.1.length) = true from (verEq_rfl _)) (n_bind fun r => (n_condH rfl (fun h10 => (n_condH rfl (fun h11 => (n_tru (show (verEq t2.1.length t2.1.length) = true from (verEq_rfl _)) (n_condH (show ((((verEq t2.1.length t2.1.length) && (decide ((0 : Int) ≤ (wr ((Int.ofNat t2.1.length) - (1 : Int)))))) && (decide ((wr ((Int.ofNat t2.1.length) - (1 : Int))) < (Int.ofNat t2.1.length))))) = _ from (n_and (n_andL (verEq_rfl _) rfl) rfl)) (fun h12 => (n_tru (show (verEq t2.1.length t2.1.length) = true from (verEq_rfl _)) (n_bind fun r1 => (n_condH rfl (fun h13 => (n_condH rfl (fun h14 => (n_condH rfl (fun h15 => (n_condH rfl (fun h16 => (n_condH (show ((((verEq t5.length t5.length) && (decide ((0 : Int) ≤ (wr ((wr (x_B_Y * x_M_W)) + x_B_X))))) && (decide ((wr ((wr (x_B_Y * x_M_W)) + x_B_X)) < (Int.ofNat t5.length))))) = _ from (n_and (n_andL (verEq_rfl _) rfl) rfl)) (fun h17 => (n_tru (show (verEq t5.length t5.length) = true from (verEq_rfl _)) (n_bind fun r2 => (n_condH rfl (fun h18 => (n_condH rfl (fun h19 => (n_condH (show ((((verEq t6.length t6.length) && (decide ((0 : Int) ≤ (wr ((wr (x_A_Y * x_M_W)) + x_A_X))))) && (decide ((wr ((wr (x_A_Y * x_M_W)) + x_A_X)) < (Int.ofNat t6.length))))) = _ from (n_and (n_andL (verEq_rfl _) rfl) rfl)) (fun h20 => (n_tru (show (verEq t6.length t6.length) = true from (verEq_rfl _)) (n_bind fun r3 => (n_condH rfl (fun h21 => (n_condH rfl (fun h22 => (n_bind fun t7 => rfl)) fun h22 => rfl)) fun h21 => rfl)))) fun h20 => rfl)) fun h19 => rfl)) fun h18 => rfl)))) fun h17 => rfl)) fun h16 => rfl)) fun h15 => rfl)) fun h14 => rfl)) fun h13 => rfl)))) fun h12 => rfl))) fun h11 => rfl)) fun h10 => rfl)))) fun h9 => rfl)))))))))))))))))))))))))
theorem lib6 : Lib Tryd.prog GL0 C6 :=
  Lib.fn lib5 mixed TT_ok Tryd.func6 (by decide +kernel) (by kernel_rfl) true noL (loops_of 0 (by kernel_rfl) below0) ks6 (F := fun us => F_skirmishlaw14_AstarAgrees (toI (cIa (aggL (cIa us 0)) 0)) (toI (cIa (aggL (cIa us 0)) 1)) (roRows (cIa (aggL (cIa us 0)) 2)) (roRows (cIa (aggL (cIa us 0)) 3)) (toI (cIa (aggL (cIa us 0)) 4)) (toI (cIa (aggL (cIa us 0)) 5)) (toI (cIa (aggL (cIa us 0)) 6)) (toI (cIa (aggL (cIa us 0)) 7)) (toI (cIa (aggL (cIa us 0)) 8)) (toI (cIa (aggL (cIa us 0)) 9)) (toI (cIa (aggL (cIa us 0)) 10))) (fun us => rfl) (fun us => run6 (toI (cIa (aggL (cIa us 0)) 0)) (toI (cIa (aggL (cIa us 0)) 1)) (roRows (cIa (aggL (cIa us 0)) 2)) (roRows (cIa (aggL (cIa us 0)) 3)) (toI (cIa (aggL (cIa us 0)) 4)) (toI (cIa (aggL (cIa us 0)) 5)) (toI (cIa (aggL (cIa us 0)) 6)) (toI (cIa (aggL (cIa us 0)) 7)) (toI (cIa (aggL (cIa us 0)) 8)) (toI (cIa (aggL (cIa us 0)) 9)) (toI (cIa (aggL (cIa us 0)) 10))) (fun t => rfl)
noncomputable def F_skirmishlaw14_AstarRegions (x_M_W x_M_H : Int) (x_M_Cells x_Blocked : LL) (x_Class x_A_X x_A_Y x_B_X x_B_Y x_C_X x_C_Y : Int) : Option (Bool) :=
  Option.bind (F_skirmishlaw14_small x_M_W x_M_H x_M_Cells x_Blocked x_Class x_A_X x_A_Y x_B_X x_B_Y x_C_X x_C_Y) fun t =>
  bif (!t) then
    Option.bind F_skirmishlaw14_alive fun t1 =>
    some t1
  else
  Option.bind (F_astar_Path x_M_W x_M_H x_M_Cells x_Blocked x_Class x_A_X x_A_Y x_B_X x_B_Y) fun t2 =>
  bif (t2.2.2 != (0 : Int)) then
    bif (t2.2.2 != (22 : Int)) then
      Option.bind F_skirmishlaw14_alive fun t3 =>
      some t3
    else
    Option.bind (F_astar_Regions x_M_W x_M_H x_M_Cells x_Blocked x_Class) fun t4 =>
    bif (decide ((wr ((wr (x_A_Y * x_M_W)) + x_A_X)) < (0 : Int))) then
      some false
    else
    bif (decide ((wr ((wr (x_B_Y * x_M_W)) + x_B_X)) < (0 : Int))) then
      some false
    else
    bif (decide ((wr ((wr (x_A_Y * x_M_W)) + x_A_X)) ≥ (Int.ofNat t4.length))) then
      some false
    else
    bif (decide ((wr ((wr (x_B_Y * x_M_W)) + x_B_X)) ≥ (Int.ofNat t4.length))) then
      some false
    else
    bif ((Int.ofNat t4.length) == (Int.ofNat x_M_Cells.length)) then
      bif ((decide ((0 : Int) ≤ (wr ((wr (x_A_Y * x_M_W)) + x_A_X)))) && (decide ((wr ((wr (x_A_Y * x_M_W)) + x_A_X)) < (Int.ofNat t4.length)))) then
        Option.bind (t4[(wr ((wr (x_A_Y * x_M_W)) + x_A_X)).toNat]?) fun r =>
        bif (chk [(LT.int IntKind.i64)] r) then
          bif (decide ((cI r 0) ≥ (0 : Int))) then
            Option.bind (t4[(wr ((wr (x_A_Y * x_M_W)) + x_A_X)).toNat]?) fun r1 =>
            bif (chk [(LT.int IntKind.i64)] r1) then
              bif ((decide ((0 : Int) ≤ (wr ((wr (x_B_Y * x_M_W)) + x_B_X)))) && (decide ((wr ((wr (x_B_Y * x_M_W)) + x_B_X)) < (Int.ofNat t4.length)))) then
                Option.bind (t4[(wr ((wr (x_B_Y * x_M_W)) + x_B_X)).toNat]?) fun r2 =>
                bif (chk [(LT.int IntKind.i64)] r2) then
                  bif (((cI r1 0) == (cI r2 0)) == (t2.2.2 == (0 : Int))) then
                    Option.bind (t4[(wr ((wr (x_A_Y * x_M_W)) + x_A_X)).toNat]?) fun r3 =>
                    bif (chk [(LT.int IntKind.i64)] r3) then
                      bif (decide ((cI r3 0) ≤ (wr ((wr (x_A_Y * x_M_W)) + x_A_X)))) then
                        Option.bind F_skirmishlaw14_alive fun t5 =>
                        some t5
                      else
                      some false
                    else
                    none
                  else
                  some false
                else
                none
              else
              none
            else
            none
          else
          some false
        else
        none
      else
      none
    else
    some false
  else
  Option.bind (F_astar_Regions x_M_W x_M_H x_M_Cells x_Blocked x_Class) fun t6 =>
  bif (decide ((wr ((wr (x_A_Y * x_M_W)) + x_A_X)) < (0 : Int))) then
    some false
  else
  bif (decide ((wr ((wr (x_B_Y * x_M_W)) + x_B_X)) < (0 : Int))) then
    some false
  else
  bif (decide ((wr ((wr (x_A_Y * x_M_W)) + x_A_X)) ≥ (Int.ofNat t6.length))) then
    some false
  else
  bif (decide ((wr ((wr (x_B_Y * x_M_W)) + x_B_X)) ≥ (Int.ofNat t6.length))) then
    some false
  else
  bif ((Int.ofNat t6.length) == (Int.ofNat x_M_Cells.length)) then
    bif ((decide ((0 : Int) ≤ (wr ((wr (x_A_Y * x_M_W)) + x_A_X)))) && (decide ((wr ((wr (x_A_Y * x_M_W)) + x_A_X)) < (Int.ofNat t6.length)))) then
      Option.bind (t6[(wr ((wr (x_A_Y * x_M_W)) + x_A_X)).toNat]?) fun r4 =>
      bif (chk [(LT.int IntKind.i64)] r4) then
        bif (decide ((cI r4 0) ≥ (0 : Int))) then
          Option.bind (t6[(wr ((wr (x_A_Y * x_M_W)) + x_A_X)).toNat]?) fun r5 =>
          bif (chk [(LT.int IntKind.i64)] r5) then
            bif ((decide ((0 : Int) ≤ (wr ((wr (x_B_Y * x_M_W)) + x_B_X)))) && (decide ((wr ((wr (x_B_Y * x_M_W)) + x_B_X)) < (Int.ofNat t6.length)))) then
              Option.bind (t6[(wr ((wr (x_B_Y * x_M_W)) + x_B_X)).toNat]?) fun r6 =>
              bif (chk [(LT.int IntKind.i64)] r6) then
                bif (((cI r5 0) == (cI r6 0)) == (t2.2.2 == (0 : Int))) then
                  Option.bind (t6[(wr ((wr (x_A_Y * x_M_W)) + x_A_X)).toNat]?) fun r7 =>
                  bif (chk [(LT.int IntKind.i64)] r7) then
                    bif (decide ((cI r7 0) ≤ (wr ((wr (x_A_Y * x_M_W)) + x_A_X)))) then
                      Option.bind F_skirmishlaw14_alive fun t7 =>
                      some t7
                    else
                    some false
                  else
                  none
                else
                some false
              else
              none
            else
            none
          else
          none
        else
        some false
      else
      none
    else
    none
  else
  some false
noncomputable def enc7 (t : Bool) : CR := ⟨true, (.sc (.bool t)), [], []⟩
noncomputable def ks7 : List SK := [.agg [.int .i64, .int .i64, .ro 3, .ro 1, .int .i64, .int .i64, .int .i64, .int .i64, .int .i64, .int .i64, .int .i64]]
noncomputable def S7 (us : List AVal) : Call := bif chkA ks7 us then Call.of (F_skirmishlaw14_AstarRegions (toI (cIa (aggL (cIa us 0)) 0)) (toI (cIa (aggL (cIa us 0)) 1)) (roRows (cIa (aggL (cIa us 0)) 2)) (roRows (cIa (aggL (cIa us 0)) 3)) (toI (cIa (aggL (cIa us 0)) 4)) (toI (cIa (aggL (cIa us 0)) 5)) (toI (cIa (aggL (cIa us 0)) 6)) (toI (cIa (aggL (cIa us 0)) 7)) (toI (cIa (aggL (cIa us 0)) 8)) (toI (cIa (aggL (cIa us 0)) 9)) (toI (cIa (aggL (cIa us 0)) 10))) enc7 else Call.none
noncomputable def C7 := AI.ext 7 S7 C6
theorem run7 (x_M_W x_M_H : Int) (x_M_Cells x_Blocked : LL) (x_Class x_A_X x_A_Y x_B_X x_B_Y x_C_X x_C_Y : Int) : fcall TT TU GL0 C6 ownF true noL Tryd.f7 [(.agg [(.sc (.int .i64 x_M_W)), (.sc (.int .i64 x_M_H)), (.ro 3 x_M_Cells), (.ro 1 x_Blocked), (.sc (.int .i64 x_Class)), (.sc (.int .i64 x_A_X)), (.sc (.int .i64 x_A_Y)), (.sc (.int .i64 x_B_X)), (.sc (.int .i64 x_B_Y)), (.sc (.int .i64 x_C_X)), (.sc (.int .i64 x_C_Y))])] = (F_skirmishlaw14_AstarRegions x_M_W x_M_H x_M_Cells x_Blocked x_Class x_A_X x_A_Y x_B_X x_B_Y x_C_X x_C_Y).bind fun t => some (enc7 t) :=
  Eq.trans (by kernel_rfl) (n_bind fun t => (n_condH rfl (fun h0 => (n_bind fun t1 => rfl)) fun h0 => (n_bind fun t2 => (n_tru (show ((((true && (verEq t2.1.length t2.1.length)) && true) && true) && true) = true from (n_andL (n_andL (n_andL (n_andL rfl (verEq_rfl _)) rfl) rfl) rfl)) (n_condH rfl (fun h1 => (n_condH rfl (fun h2 => (n_bind fun t3 => rfl)) fun h2 => (n_bind fun t4 => (n_tru (show ((((true && (verEq t4.length t4.length)) && true) && true) && true) = true from (n_andL (n_andL (n_andL (n_andL rfl (verEq_rfl _)) rfl) rfl) rfl)) (n_condH rfl (fun h3 => rfl) fun h3 => (n_condH rfl (fun h4 => rfl) fun h4 => (n_tru (show (verEq t4.length t4.length) = true from (verEq_rfl _)) (n_condH rfl (fun h5 => rfl) fun h5 => (n_tru (show (verEq t4.length t4.length) = true from (verEq_rfl _)) (n_condH rfl (fun h6 => rfl) fun h6 => (n_tru (show (verEq t4.length t4.length) = true from (verEq_rfl _)) (n_condH rfl (fun h7 => (n_condH (show ((((verEq t4.length t4.length) && (decide ((0 : Int) ≤ (wr ((wr (x_A_Y * x_M_W)) + x_A_X))))) && (decide ((wr ((wr (x_A_Y * x_M_W)) + x_A_X)) < (Int.ofNat t4.length))))) = _ from (n_and (n_andL (verEq_rfl _) rfl) rfl)) (fun h8 => (n_tru (show (verEq t4.length t4.length) = true from (verEq_rfl _)) (n_bind fun r => (n_condH rfl (fun h9 => (n_condH rfl (fun h10 => (n_tru (show (((verEq t4.length t4.length) && (decide ((0 : Int) ≤ (wr ((wr (x_A_Y * x_M_W)) + x_A_X))))) && (decide ((wr ((wr (x_A_Y * x_M_W)) + x_A_X)) < (Int.ofNat t4.length)))) = true from (n_andL (n_andL (verEq_rfl _) (n_al h8)) (n_ar h8))) (n_tru (show (verEq t4.length t4.length) = true from (verEq_rfl _)) (n_bind fun r1 => (n_condH rfl (fun h11 => (n_condH (show ((((verEq t4.length t4.length) && (decide ((0 : Int) ≤ (wr ((wr (x_B_Y * x_M_W)) + x_B_X))))) && (decide ((wr ((wr (x_B_Y * x_M_W)) + x_B_X)) < (Int.ofNat t4.length))))) = _ from (n_and (n_andL (verEq_rfl _) rfl) rfl)) (fun h12 => (n_tru (show (verEq t4.length t4.length) = true from (verEq_rfl _)) (n_bind fun r2 => (n_condH rfl (fun h13 => (n_condH rfl (fun h14 => (n_tru (show (((verEq t4.length t4.length) && (decide ((0 : Int) ≤ (wr ((wr (x_A_Y * x_M_W)) + x_A_X))))) && (decide ((wr ((wr (x_A_Y * x_M_W)) + x_A_X)) < (Int.ofNat t4.length)))) = true from (n_andL (n_andL (verEq_rfl _) (n_al h8)) (n_ar h8))) (n_tru (show (verEq t4.length t4.length) = true from (verEq_rfl _)) (n_bind fun r3 => (n_condH rfl (fun h15 => (n_condH rfl (fun h16 => (n_bind fun t5 => rfl)) fun h16 => rfl)) fun h15 => rfl))))) fun h14 => rfl)) fun h13 => rfl)))) fun h12 => rfl)) fun h11 => rfl))))) fun h10 => rfl)) fun h9 => rfl)))) fun h8 => rfl)) fun h7 => rfl)))))))))))) fun h1 => (n_bind fun t6 => (n_tru (show ((((true && (verEq t6.length t6.length)) && true) && true) && true) = true from (n_andL (n_andL (n_andL (n_andL rfl (verEq_rfl _)) rfl) rfl) rfl)) (n_condH rfl (fun h2 => rfl) fun h2 => (n_condH rfl (fun h3 => rfl) fun h3 => (n_tru (show (verEq t6.length t6.length) = true from (verEq_rfl _)) (n_condH rfl (fun h4 => rfl) fun h4 => (n_tru (show (verEq t6.length t6.length) = true from (verEq_rfl _)) (n_condH rfl (fun h5 => rfl) fun h5 => (n_tru (show (verEq t6.length t6.length) = true from (verEq_rfl _)) (n_condH rfl (fun h6 => (n_condH (show ((((verEq t6.length t6.length) && (decide ((0 : Int) ≤ (wr ((wr (x_A_Y * x_M_W)) + x_A_X))))) && (decide ((wr ((wr (x_A_Y * x_M_W)) + x_A_X)) < (Int.ofNat t6.length))))) = _ from (n_and (n_andL (verEq_rfl _) rfl) rfl)) (fun h7 => (n_tru (show (verEq t6.length t6.length) = true from (verEq_rfl _)) (n_bind fun r4 => (n_condH rfl (fun h8 => (n_condH rfl (fun h9 => (n_tru (show (((verEq t6.length t6.length) && (decide ((0 : Int) ≤ (wr ((wr (x_A_Y * x_M_W)) + x_A_X))))) && (decide ((wr ((wr (x_A_Y * x_M_W)) + x_A_X)) < (Int.ofNat t6.length)))) = true from (n_andL (n_andL (verEq_rfl _) (n_al h7)) (n_ar h7))) (n_tru (show (verEq t6.length t6.length) = true from (verEq_rfl _)) (n_bind fun r5 => (n_condH rfl (fun h10 => (n_condH (show ((((verEq t6.length t6.length) && (decide ((0 : Int) ≤ (wr ((wr (x_B_Y * x_M_W)) + x_B_X))))) && (decide ((wr ((wr (x_B_Y * x_M_W)) + x_B_X)) < (Int.ofNat t6.length))))) = _ from (n_and (n_andL (verEq_rfl _) rfl) rfl)) (fun h11 => (n_tru (show (verEq t6.length t6.length) = true from (verEq_rfl _)) (n_bind fun r6 => (n_condH rfl (fun h12 => (n_condH rfl (fun h13 => (n_tru (show (((verEq t6.length t6.length) && (decide ((0 : Int) ≤ (wr ((wr (x_A_Y * x_M_W)) + x_A_X))))) && (decide ((wr ((wr (x_A_Y * x_M_W)) + x_A_X)) < (Int.ofNat t6.length)))) = true from (n_andL (n_andL (verEq_rfl _) (n_al h7)) (n_ar h7))) (n_tru (show (verEq t6.length t6.length) = true from (verEq_rfl _)) (n_bind fun r7 => (n_condH rfl (fun h14 => (n_condH rfl (fun h15 => (n_bind fun t7 => rfl)) fun h15 => rfl)) fun h14 => rfl))))) fun h13 => rfl)) fun h12 => rfl)))) fun h11 => rfl)) fun h10 => rfl))))) fun h9 => rfl)) fun h8 => rfl)))) fun h7 => rfl)) fun h6 => rfl)))))))))))))))
theorem lib7 : Lib Tryd.prog GL0 C7 :=
  Lib.fn lib6 mixed TT_ok Tryd.func7 (by decide +kernel) (by kernel_rfl) true noL (loops_of 0 (by kernel_rfl) below0) ks7 (F := fun us => F_skirmishlaw14_AstarRegions (toI (cIa (aggL (cIa us 0)) 0)) (toI (cIa (aggL (cIa us 0)) 1)) (roRows (cIa (aggL (cIa us 0)) 2)) (roRows (cIa (aggL (cIa us 0)) 3)) (toI (cIa (aggL (cIa us 0)) 4)) (toI (cIa (aggL (cIa us 0)) 5)) (toI (cIa (aggL (cIa us 0)) 6)) (toI (cIa (aggL (cIa us 0)) 7)) (toI (cIa (aggL (cIa us 0)) 8)) (toI (cIa (aggL (cIa us 0)) 9)) (toI (cIa (aggL (cIa us 0)) 10))) (fun us => rfl) (fun us => run7 (toI (cIa (aggL (cIa us 0)) 0)) (toI (cIa (aggL (cIa us 0)) 1)) (roRows (cIa (aggL (cIa us 0)) 2)) (roRows (cIa (aggL (cIa us 0)) 3)) (toI (cIa (aggL (cIa us 0)) 4)) (toI (cIa (aggL (cIa us 0)) 5)) (toI (cIa (aggL (cIa us 0)) 6)) (toI (cIa (aggL (cIa us 0)) 7)) (toI (cIa (aggL (cIa us 0)) 8)) (toI (cIa (aggL (cIa us 0)) 9)) (toI (cIa (aggL (cIa us 0)) 10))) (fun t => rfl)
noncomputable def F_skirmishlaw14_AstarTriangles (x_M_W x_M_H : Int) (x_M_Cells x_Blocked : LL) (x_Class x_A_X x_A_Y x_B_X x_B_Y x_C_X x_C_Y : Int) : Option (Bool) :=
  Option.bind (F_skirmishlaw14_small x_M_W x_M_H x_M_Cells x_Blocked x_Class x_A_X x_A_Y x_B_X x_B_Y x_C_X x_C_Y) fun t =>
  bif (!t) then
    Option.bind F_skirmishlaw14_alive fun t1 =>
    some t1
  else
  Option.bind (F_astar_Path x_M_W x_M_H x_M_Cells x_Blocked x_Class x_A_X x_A_Y x_B_X x_B_Y) fun t2 =>
  Option.bind (F_astar_Path x_M_W x_M_H x_M_Cells x_Blocked x_Class x_B_X x_B_Y x_C_X x_C_Y) fun t3 =>
  bif (t2.2.2 != (0 : Int)) then
    Option.bind F_skirmishlaw14_alive fun t4 =>
    some t4
  else
  bif (t3.2.2 != (0 : Int)) then
    Option.bind F_skirmishlaw14_alive fun t5 =>
    some t5
  else
  Option.bind (F_astar_Path x_M_W x_M_H x_M_Cells x_Blocked x_Class x_A_X x_A_Y x_C_X x_C_Y) fun t6 =>
  bif (t6.2.2 == (0 : Int)) then
    bif (decide (t6.2.1 ≤ (wr (t2.2.1 + t3.2.1)))) then
      Option.bind F_skirmishlaw14_alive fun t7 =>
      some t7
    else
    some false
  else
  some false
noncomputable def enc8 (t : Bool) : CR := ⟨true, (.sc (.bool t)), [], []⟩
noncomputable def ks8 : List SK := [.agg [.int .i64, .int .i64, .ro 3, .ro 1, .int .i64, .int .i64, .int .i64, .int .i64, .int .i64, .int .i64, .int .i64]]
noncomputable def S8 (us : List AVal) : Call := bif chkA ks8 us then Call.of (F_skirmishlaw14_AstarTriangles (toI (cIa (aggL (cIa us 0)) 0)) (toI (cIa (aggL (cIa us 0)) 1)) (roRows (cIa (aggL (cIa us 0)) 2)) (roRows (cIa (aggL (cIa us 0)) 3)) (toI (cIa (aggL (cIa us 0)) 4)) (toI (cIa (aggL (cIa us 0)) 5)) (toI (cIa (aggL (cIa us 0)) 6)) (toI (cIa (aggL (cIa us 0)) 7)) (toI (cIa (aggL (cIa us 0)) 8)) (toI (cIa (aggL (cIa us 0)) 9)) (toI (cIa (aggL (cIa us 0)) 10))) enc8 else Call.none
noncomputable def C8 := AI.ext 8 S8 C7
theorem run8 (x_M_W x_M_H : Int) (x_M_Cells x_Blocked : LL) (x_Class x_A_X x_A_Y x_B_X x_B_Y x_C_X x_C_Y : Int) : fcall TT TU GL0 C7 ownF true noL Tryd.f8 [(.agg [(.sc (.int .i64 x_M_W)), (.sc (.int .i64 x_M_H)), (.ro 3 x_M_Cells), (.ro 1 x_Blocked), (.sc (.int .i64 x_Class)), (.sc (.int .i64 x_A_X)), (.sc (.int .i64 x_A_Y)), (.sc (.int .i64 x_B_X)), (.sc (.int .i64 x_B_Y)), (.sc (.int .i64 x_C_X)), (.sc (.int .i64 x_C_Y))])] = (F_skirmishlaw14_AstarTriangles x_M_W x_M_H x_M_Cells x_Blocked x_Class x_A_X x_A_Y x_B_X x_B_Y x_C_X x_C_Y).bind fun t => some (enc8 t) :=
  Eq.trans (by kernel_rfl) (n_bind fun t => (n_condH rfl (fun h0 => (n_bind fun t1 => rfl)) fun h0 => (n_bind fun t2 => (n_tru (show ((((true && (verEq t2.1.length t2.1.length)) && true) && true) && true) = true from (n_andL (n_andL (n_andL (n_andL rfl (verEq_rfl _)) rfl) rfl) rfl)) (n_bind fun t3 => (n_tru (show ((((true && (verEq t3.1.length t3.1.length)) && true) && true) && true) = true from (n_andL (n_andL (n_andL (n_andL rfl (verEq_rfl _)) rfl) rfl) rfl)) (n_condH rfl (fun h1 => (n_bind fun t4 => rfl)) fun h1 => (n_condH rfl (fun h2 => (n_bind fun t5 => rfl)) fun h2 => (n_bind fun t6 => (n_tru (show ((((true && (verEq t6.1.length t6.1.length)) && true) && true) && true) = true from (n_andL (n_andL (n_andL (n_andL rfl (verEq_rfl _)) rfl) rfl) rfl)) (n_condH rfl (fun h3 => (n_condH rfl (fun h4 => (n_bind fun t7 => rfl)) fun h4 => rfl)) fun h3 => rfl)))))))))))
theorem lib8 : Lib Tryd.prog GL0 C8 :=
  Lib.fn lib7 mixed TT_ok Tryd.func8 (by decide +kernel) (by kernel_rfl) true noL (loops_of 0 (by kernel_rfl) below0) ks8 (F := fun us => F_skirmishlaw14_AstarTriangles (toI (cIa (aggL (cIa us 0)) 0)) (toI (cIa (aggL (cIa us 0)) 1)) (roRows (cIa (aggL (cIa us 0)) 2)) (roRows (cIa (aggL (cIa us 0)) 3)) (toI (cIa (aggL (cIa us 0)) 4)) (toI (cIa (aggL (cIa us 0)) 5)) (toI (cIa (aggL (cIa us 0)) 6)) (toI (cIa (aggL (cIa us 0)) 7)) (toI (cIa (aggL (cIa us 0)) 8)) (toI (cIa (aggL (cIa us 0)) 9)) (toI (cIa (aggL (cIa us 0)) 10))) (fun us => rfl) (fun us => run8 (toI (cIa (aggL (cIa us 0)) 0)) (toI (cIa (aggL (cIa us 0)) 1)) (roRows (cIa (aggL (cIa us 0)) 2)) (roRows (cIa (aggL (cIa us 0)) 3)) (toI (cIa (aggL (cIa us 0)) 4)) (toI (cIa (aggL (cIa us 0)) 5)) (toI (cIa (aggL (cIa us 0)) 6)) (toI (cIa (aggL (cIa us 0)) 7)) (toI (cIa (aggL (cIa us 0)) 8)) (toI (cIa (aggL (cIa us 0)) 9)) (toI (cIa (aggL (cIa us 0)) 10))) (fun t => rfl)
noncomputable def F_skirmishlaw14_AstarShortest (x_M_W x_M_H : Int) (x_M_Cells x_Blocked : LL) (x_Class x_A_X x_A_Y x_B_X x_B_Y x_C_X x_C_Y : Int) (way : LL) : Option (Bool) :=
  Option.bind (F_skirmishlaw14_small x_M_W x_M_H x_M_Cells x_Blocked x_Class x_A_X x_A_Y x_B_X x_B_Y x_C_X x_C_Y) fun t =>
  bif (!t) then
    Option.bind F_skirmishlaw14_alive fun t1 =>
    some t1
  else
  bif (decide ((Int.ofNat way.length) > (200 : Int))) then
    Option.bind F_skirmishlaw14_alive fun t2 =>
    some t2
  else
  Option.bind (F_skirmishref14_Cost x_M_W x_M_H x_M_Cells x_Blocked x_Class way) fun t3 =>
  bif (t3.2 != (0 : Int)) then
    Option.bind F_skirmishlaw14_alive fun t4 =>
    some t4
  else
  Option.bind (way[(0 : Int).toNat]?) fun r =>
  bif (chk [(LT.int IntKind.i64), (LT.int IntKind.i64)] r) then
    bif (decide ((0 : Int) ≤ (wr ((Int.ofNat way.length) - (1 : Int))))) then
      Option.bind (way[(wr ((Int.ofNat way.length) - (1 : Int))).toNat]?) fun r1 =>
      bif (chk [(LT.int IntKind.i64), (LT.int IntKind.i64)] r1) then
        Option.bind (F_astar_Path x_M_W x_M_H x_M_Cells x_Blocked x_Class (cI r 0) (cI r 1) (cI r1 0) (cI r1 1)) fun t5 =>
        bif (t5.2.2 == (0 : Int)) then
          bif (decide (t5.2.1 ≤ t3.1)) then
            bif (decide ((Int.ofNat t5.1.length) > (0 : Int))) then
              Option.bind F_skirmishlaw14_alive fun t6 =>
              some t6
            else
            some false
          else
          some false
        else
        some false
      else
      none
    else
    none
  else
  none
noncomputable def enc9 (t : Bool) : CR := ⟨true, (.sc (.bool t)), [], []⟩
noncomputable def ks9 : List SK := [.agg [.int .i64, .int .i64, .ro 3, .ro 1, .int .i64, .int .i64, .int .i64, .int .i64, .int .i64, .int .i64, .int .i64], .f (.ro 2)]
noncomputable def S9 (us : List AVal) : Call := bif chkA ks9 us then Call.of (F_skirmishlaw14_AstarShortest (toI (cIa (aggL (cIa us 0)) 0)) (toI (cIa (aggL (cIa us 0)) 1)) (roRows (cIa (aggL (cIa us 0)) 2)) (roRows (cIa (aggL (cIa us 0)) 3)) (toI (cIa (aggL (cIa us 0)) 4)) (toI (cIa (aggL (cIa us 0)) 5)) (toI (cIa (aggL (cIa us 0)) 6)) (toI (cIa (aggL (cIa us 0)) 7)) (toI (cIa (aggL (cIa us 0)) 8)) (toI (cIa (aggL (cIa us 0)) 9)) (toI (cIa (aggL (cIa us 0)) 10)) (roRows (cIa us 1))) enc9 else Call.none
noncomputable def C9 := AI.ext 9 S9 C8
theorem run9 (x_M_W x_M_H : Int) (x_M_Cells x_Blocked : LL) (x_Class x_A_X x_A_Y x_B_X x_B_Y x_C_X x_C_Y : Int) (way : LL) : fcall TT TU GL0 C8 ownF true noL Tryd.f9 [(.agg [(.sc (.int .i64 x_M_W)), (.sc (.int .i64 x_M_H)), (.ro 3 x_M_Cells), (.ro 1 x_Blocked), (.sc (.int .i64 x_Class)), (.sc (.int .i64 x_A_X)), (.sc (.int .i64 x_A_Y)), (.sc (.int .i64 x_B_X)), (.sc (.int .i64 x_B_Y)), (.sc (.int .i64 x_C_X)), (.sc (.int .i64 x_C_Y))]), (.ro 2 way)] = (F_skirmishlaw14_AstarShortest x_M_W x_M_H x_M_Cells x_Blocked x_Class x_A_X x_A_Y x_B_X x_B_Y x_C_X x_C_Y way).bind fun t => some (enc9 t) :=
  Eq.trans (by kernel_rfl) (n_bind fun t => (n_condH rfl (fun h0 => (n_bind fun t1 => rfl)) fun h0 => (n_condH rfl (fun h1 => (n_bind fun t2 => rfl)) fun h1 => (n_bind fun t3 => (n_condH rfl (fun h2 => (n_bind fun t4 => rfl)) fun h2 => (n_bind fun r => (n_condH rfl (fun h3 => (n_condH rfl (fun h4 => (n_bind fun r1 => (n_condH rfl (fun h5 => (n_bind fun t5 => (n_tru (show ((((true && (verEq t5.1.length t5.1.length)) && true) && true) && true) = true from (n_andL (n_andL (n_andL (n_andL rfl (verEq_rfl _)) rfl) rfl) rfl)) (n_condH rfl (fun h6 => (n_condH rfl (fun h7 => (n_tru (show (verEq t5.1.length t5.1.length) = true from (verEq_rfl _)) (n_condH rfl (fun h8 => (n_bind fun t6 => rfl)) fun h8 => rfl))) fun h7 => rfl)) fun h6 => rfl)))) fun h5 => rfl))) fun h4 => rfl)) fun h3 => rfl)))))))
theorem lib9 : Lib Tryd.prog GL0 C9 :=
  Lib.fn lib8 mixed TT_ok Tryd.func9 (by decide +kernel) (by kernel_rfl) true noL (loops_of 0 (by kernel_rfl) below0) ks9 (F := fun us => F_skirmishlaw14_AstarShortest (toI (cIa (aggL (cIa us 0)) 0)) (toI (cIa (aggL (cIa us 0)) 1)) (roRows (cIa (aggL (cIa us 0)) 2)) (roRows (cIa (aggL (cIa us 0)) 3)) (toI (cIa (aggL (cIa us 0)) 4)) (toI (cIa (aggL (cIa us 0)) 5)) (toI (cIa (aggL (cIa us 0)) 6)) (toI (cIa (aggL (cIa us 0)) 7)) (toI (cIa (aggL (cIa us 0)) 8)) (toI (cIa (aggL (cIa us 0)) 9)) (toI (cIa (aggL (cIa us 0)) 10)) (roRows (cIa us 1))) (fun us => rfl) (fun us => run9 (toI (cIa (aggL (cIa us 0)) 0)) (toI (cIa (aggL (cIa us 0)) 1)) (roRows (cIa (aggL (cIa us 0)) 2)) (roRows (cIa (aggL (cIa us 0)) 3)) (toI (cIa (aggL (cIa us 0)) 4)) (toI (cIa (aggL (cIa us 0)) 5)) (toI (cIa (aggL (cIa us 0)) 6)) (toI (cIa (aggL (cIa us 0)) 7)) (toI (cIa (aggL (cIa us 0)) 8)) (toI (cIa (aggL (cIa us 0)) 9)) (toI (cIa (aggL (cIa us 0)) 10)) (roRows (cIa us 1))) (fun t => rfl)
end Go.Proofs.YtclfphmehilaeaaDoor.AI
