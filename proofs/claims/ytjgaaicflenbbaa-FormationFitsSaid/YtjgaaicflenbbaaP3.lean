/- What functions answer: printed by wip/tool2/Ev.lean out of the interpreter's run; each print is checked by Lean. -/
import Derived.Test.YtjgaaicflenbbaaP2
namespace Go.Proofs.Ytjgaaicflenbbaa.AI
open Go.RowKit
set_option linter.unusedVariables false
set_option maxRecDepth 100000
/-! ### 8: skirmish/skirmishlaw18.FormationFits -/

noncomputable def W8_0 : Ex → List Bool
  | .ret => [false, false, false, false, true, false, false, false, false, false, false, false, false, false, false, false, false, false, false, false, false, false, false, false, false, false, false, false, false, false, false, false, false, false, false, false, false, false, false, false, false, false, false, false, false, false, false, false, false, false, false, false, false, false, false, false, false, false, false, false, false, false, false, false, false, false, false, false, false, false, false]
  | .exit n => bif Nat.beq n 0 then [false, false, false, false, false, false, false, false, false, false, false, false, false, false, false, false, false, false, false, false, false, false, false, false, false, false, false, false, false, false, false, false, false, false, false, false, false, false, false, false, false, false, false, false, false, false, false, false, false, false, false, false, false, false, false, false, false, false, false, false, false, false, false, false, false, false, false, false, false, false, false] else []
  | .normal => []
noncomputable def G_skirmishlaw18_FormationFits_0 (R1 : List (List AVal)) (b0_0 : Int) (b0_1 : Int) : Nat → Int → Option (Bool)
  | 0, _ => none
  | m + 1, i =>
    bif (decide (i < (Int.ofNat R1.length))) then
      bif ((decide ((0 : Int) ≤ i)) && (decide (i < (Int.ofNat R1.length)))) then
        Option.bind (R1[i.toNat]?) fun r =>
        bif (chk [(LT.int IntKind.i64), (LT.int IntKind.i64)] r) then
          bif (decide ((cI r 0) < (0 : Int))) then
            some true
          else
          Option.bind (R1[i.toNat]?) fun r1 =>
          bif (chk [(LT.int IntKind.i64), (LT.int IntKind.i64)] r1) then
            bif (decide ((cI r1 0) ≥ (wr (b0_0 * (256 : Int))))) then
              some true
            else
            Option.bind (R1[i.toNat]?) fun r2 =>
            bif (chk [(LT.int IntKind.i64), (LT.int IntKind.i64)] r2) then
              bif (decide ((cI r2 1) < (0 : Int))) then
                some true
              else
              Option.bind (R1[i.toNat]?) fun r3 =>
              bif (chk [(LT.int IntKind.i64), (LT.int IntKind.i64)] r3) then
                bif (decide ((cI r3 1) ≥ (wr (b0_1 * (256 : Int))))) then
                  some true
                else
                G_skirmishlaw18_FormationFits_0 R1 b0_0 b0_1 m (wr (i + (1 : Int)))
              else
              none
            else
            none
          else
          none
        else
        none
      else
      none
    else
    some false
noncomputable def E8_0 (R1 : List (List AVal)) (R2 : List (List AVal)) (R3 : List (List AVal)) (i : Int) (b0_0 : Int) (b0_1 : Int) (b0_2 : List (List AVal)) : St := ⟨[.dead, .dead, (.ref 8000 1 0 0), .dead, .dead, (.slc 12816 (R1).length), (.sc (.int .i64 i)), .dead, .dead, .dead, .dead, .dead, .dead, .dead, .dead, .dead, .dead, .dead, .dead, .dead, .dead, .dead, .dead, .dead, .dead, .dead, .dead, .dead, .dead, .dead, .dead, .dead, .dead, .dead, .dead, .dead, .dead, .dead, .dead, .dead, .dead, .dead, .dead, .dead, .dead, .dead, .dead, .dead, .dead, .dead, .dead, .dead, .dead, .dead, .dead, .dead, .dead, .dead, .dead, .dead, .dead, .dead, .dead, .dead, .dead, .dead, .dead, .dead, .dead, .dead, .dead], [(8000, ⟨.box, 42, 3, [[(.sc (.int .i64 b0_0)), (.sc (.int .i64 b0_1)), (.ro 3 b0_2)]]⟩), (12816, ⟨.frz, 23, 2, R1⟩), (14424, ⟨.arr, 23, 2, R2⟩), (14472, ⟨.arr, 23, 2, R3⟩)]⟩
noncomputable def X8_0 (R1 : List (List AVal)) (R2 : List (List AVal)) (R3 : List (List AVal)) (b0_0 : Int) (b0_1 : Int) (b0_2 : List (List AVal)) (k : Ex → St → Option CR) (t : Bool) : Option CR := bif t then k .ret ⟨[.dead, .dead, .dead, .dead, (.sc (.bool false)), .dead, .dead, .dead, .dead, .dead, .dead, .dead, .dead, .dead, .dead, .dead, .dead, .dead, .dead, .dead, .dead, .dead, .dead, .dead, .dead, .dead, .dead, .dead, .dead, .dead, .dead, .dead, .dead, .dead, .dead, .dead, .dead, .dead, .dead, .dead, .dead, .dead, .dead, .dead, .dead, .dead, .dead, .dead, .dead, .dead, .dead, .dead, .dead, .dead, .dead, .dead, .dead, .dead, .dead, .dead, .dead, .dead, .dead, .dead, .dead, .dead, .dead, .dead, .dead, .dead, .dead], [(8000, ⟨.box, 42, 3, [[(.sc (.int .i64 b0_0)), (.sc (.int .i64 b0_1)), (.ro 3 b0_2)]]⟩), (12816, ⟨.frz, 23, 2, R1⟩), (14424, ⟨.arr, 23, 2, R2⟩), (14472, ⟨.arr, 23, 2, R3⟩)]⟩ else k (.exit 0) ⟨[.dead, .dead, .dead, .dead, .dead, .dead, .dead, .dead, .dead, .dead, .dead, .dead, .dead, .dead, .dead, .dead, .dead, .dead, .dead, .dead, .dead, .dead, .dead, .dead, .dead, .dead, .dead, .dead, .dead, .dead, .dead, .dead, .dead, .dead, .dead, .dead, .dead, .dead, .dead, .dead, .dead, .dead, .dead, .dead, .dead, .dead, .dead, .dead, .dead, .dead, .dead, .dead, .dead, .dead, .dead, .dead, .dead, .dead, .dead, .dead, .dead, .dead, .dead, .dead, .dead, .dead, .dead, .dead, .dead, .dead, .dead], [(8000, ⟨.box, 42, 3, [[(.sc (.int .i64 b0_0)), (.sc (.int .i64 b0_1)), (.ro 3 b0_2)]]⟩), (12816, ⟨.frz, 23, 2, R1⟩), (14424, ⟨.arr, 23, 2, R2⟩), (14472, ⟨.arr, 23, 2, R3⟩)]⟩
noncomputable def ks8_0 : List SK := [.f .dead, .f .dead, .f (.ref 8000 1 0 0), .f .dead, .f .dead, .f (.slc 12816 1), .f (.int .i64), .f .dead, .f .dead, .f .dead, .f .dead, .f .dead, .f .dead, .f .dead, .f .dead, .f .dead, .f .dead, .f .dead, .f .dead, .f .dead, .f .dead, .f .dead, .f .dead, .f .dead, .f .dead, .f .dead, .f .dead, .f .dead, .f .dead, .f .dead, .f .dead, .f .dead, .f .dead, .f .dead, .f .dead, .f .dead, .f .dead, .f .dead, .f .dead, .f .dead, .f .dead, .f .dead, .f .dead, .f .dead, .f .dead, .f .dead, .f .dead, .f .dead, .f .dead, .f .dead, .f .dead, .f .dead, .f .dead, .f .dead, .f .dead, .f .dead, .f .dead, .f .dead, .f .dead, .f .dead, .f .dead, .f .dead, .f .dead, .f .dead, .f .dead, .f .dead, .f .dead, .f .dead, .f .dead, .f .dead, .f .dead]
noncomputable def hs8_0 : List HK := [⟨8000, .box, 42, 3, some [.int .i64, .int .i64, .ro 3]⟩, ⟨12816, .frz, 23, 2, none⟩, ⟨14424, .arr, 23, 2, none⟩, ⟨14472, .arr, 23, 2, none⟩]
noncomputable def L8_0 (s : St) (k : Ex → St → Option CR) : Option CR := bif chkS ks8_0 hs8_0 s then (G_skirmishlaw18_FormationFits_0 (blkAt s.heap 1).2.rows (toI (cIa (rows0 (blkAt s.heap 0).2) 0)) (toI (cIa (rows0 (blkAt s.heap 0).2) 1)) FU (toI (cIa s.tmps 6))).bind (X8_0 (blkAt s.heap 1).2.rows (blkAt s.heap 2).2.rows (blkAt s.heap 3).2.rows (toI (cIa (rows0 (blkAt s.heap 0).2) 0)) (toI (cIa (rows0 (blkAt s.heap 0).2) 1)) (roRows (cIa (rows0 (blkAt s.heap 0).2) 2)) k) else none

noncomputable def L8 : LT' := fun i s k => bif Nat.beq i 0 then L8_0 s k else none

/-- 'skirmish/skirmishlaw18.FormationFits' -/
noncomputable def F_skirmishlaw18_FormationFits (m_W : Int) (m_H : Int) (m_Cells : List (List AVal)) (l : List (List AVal)) : Option (Bool) :=
  Option.bind (F_skirmishlaw18_few l) fun t =>
  bif (!t) then
    Option.bind F_skirmishlaw18_awake fun t1 =>
    some t1
  else
  Option.bind (F_formation_Fit m_W m_H m_Cells l) fun t2 =>
  Option.bind (F_skirmishref18_Fit m_W m_H m_Cells l) fun t3 =>
  Option.bind (F_skirmishref18_Same t2 t3) fun t4 =>
  bif (!t4) then
    some false
  else
  Option.bind (F_formation_Fit m_W m_H m_Cells t2) fun t5 =>
  Option.bind (F_skirmishref18_Same t5 t2) fun t6 =>
  bif (!t6) then
    some false
  else
  Option.bind (G_skirmishlaw18_FormationFits_0 t2 m_W m_H FU (0 : Int)) fun t7 =>
  bif t7 then
    some false
  else
  Option.bind F_skirmishlaw18_awake fun t8 =>
  some t8
noncomputable def enc8 (t : Bool) : CR := ⟨true, (.sc (.bool t)), [], []⟩
noncomputable def ks8 : List SK := [.agg [.int .i64, .int .i64, .ro 3], .f (.ro 2)]
noncomputable def S8 (us : List AVal) : Call := bif chkA ks8 us then Call.of (F_skirmishlaw18_FormationFits (toI (cIa (aggL (cIa us 0)) 0)) (toI (cIa (aggL (cIa us 0)) 1)) (roRows (cIa (aggL (cIa us 0)) 2)) (roRows (cIa us 1))) enc8 else Call.none
noncomputable def C8 := AI.ext 8 S8 C21

@[reducible] noncomputable def B8_0 := bodyOf TT TU noG C21 ownF L8 (lp Try.f8 0)
@[reducible] noncomputable def K8_0 (k : Ex → St → Option CR) : Ex → St → Option CR := fun e s => k e (maskS (W8_0 e) s)
theorem spec8_0 (k : Ex → St → Option CR) : ∀ (m : Nat) (R1 : List (List AVal)) (R2 : List (List AVal)) (R3 : List (List AVal)) (i : Int) (b0_0 : Int) (b0_1 : Int) (b0_2 : List (List AVal)), loopN B8_0 m (E8_0 R1 R2 R3 i b0_0 b0_1 b0_2) (K8_0 k) = (G_skirmishlaw18_FormationFits_0 R1 b0_0 b0_1 m i).bind (X8_0 R1 R2 R3 b0_0 b0_1 b0_2 k)
  | 0, _, _, _, _, _, _, _ => rfl
  | m + 1, R1, R2, R3, i, b0_0, b0_1, b0_2 =>
    Eq.trans (b := (bif (verEq R1.length R1.length) then (bif (decide (i < (Int.ofNat R1.length))) then (bif (((verEq R1.length R1.length) && (decide ((0 : Int) ≤ i))) && (decide (i < (Int.ofNat R1.length)))) then (bif (verEq R1.length R1.length) then (bif (verEq R1.length R1.length) then (Option.bind (R1[i.toNat]?) fun r => (bif (chk [(LT.int IntKind.i64), (LT.int IntKind.i64)] r) then (bif (decide ((cI r 0) < (0 : Int))) then (k .ret ⟨[.dead, .dead, .dead, .dead, (bo false), .dead, .dead, .dead, .dead, .dead, .dead, .dead, .dead, .dead, .dead, .dead, .dead, .dead, .dead, .dead, .dead, .dead, .dead, .dead, .dead, .dead, .dead, .dead, .dead, .dead, .dead, .dead, .dead, .dead, .dead, .dead, .dead, .dead, .dead, .dead, .dead, .dead, .dead, .dead, .dead, .dead, .dead, .dead, .dead, .dead, .dead, .dead, .dead, .dead, .dead, .dead, .dead, .dead, .dead, .dead, .dead, .dead, .dead, .dead, .dead, .dead, .dead, .dead, .dead, .dead, .dead], [(Prod.mk 8000 (Blk.mk BKind.box 42 3 [[(i64 b0_0), (i64 b0_1), (AVal.ro 3 b0_2)]])), (Prod.mk 12816 (Blk.mk BKind.frz 23 2 R1)), (Prod.mk 14424 (Blk.mk BKind.arr 23 2 R2)), (Prod.mk 14472 (Blk.mk BKind.arr 23 2 R3))]⟩) else (bif (((verEq R1.length R1.length) && (decide ((0 : Int) ≤ i))) && (decide (i < (Int.ofNat R1.length)))) then (bif (verEq R1.length R1.length) then (bif (verEq R1.length R1.length) then (Option.bind (R1[i.toNat]?) fun r1 => (bif (chk [(LT.int IntKind.i64), (LT.int IntKind.i64)] r1) then (bif (decide ((cI r1 0) ≥ (wr (b0_0 * (256 : Int))))) then (k .ret ⟨[.dead, .dead, .dead, .dead, (bo false), .dead, .dead, .dead, .dead, .dead, .dead, .dead, .dead, .dead, .dead, .dead, .dead, .dead, .dead, .dead, .dead, .dead, .dead, .dead, .dead, .dead, .dead, .dead, .dead, .dead, .dead, .dead, .dead, .dead, .dead, .dead, .dead, .dead, .dead, .dead, .dead, .dead, .dead, .dead, .dead, .dead, .dead, .dead, .dead, .dead, .dead, .dead, .dead, .dead, .dead, .dead, .dead, .dead, .dead, .dead, .dead, .dead, .dead, .dead, .dead, .dead, .dead, .dead, .dead, .dead, .dead], [(Prod.mk 8000 (Blk.mk BKind.box 42 3 [[(i64 b0_0), (i64 b0_1), (AVal.ro 3 b0_2)]])), (Prod.mk 12816 (Blk.mk BKind.frz 23 2 R1)), (Prod.mk 14424 (Blk.mk BKind.arr 23 2 R2)), (Prod.mk 14472 (Blk.mk BKind.arr 23 2 R3))]⟩) else (bif (((verEq R1.length R1.length) && (decide ((0 : Int) ≤ i))) && (decide (i < (Int.ofNat R1.length)))) then (bif (verEq R1.length R1.length) then (bif (verEq R1.length R1.length) then (Option.bind (R1[i.toNat]?) fun r2 => (bif (chk [(LT.int IntKind.i64), (LT.int IntKind.i64)] r2) then (bif (decide ((cI r2 1) < (0 : Int))) then (k .ret ⟨[.dead, .dead, .dead, .dead, (bo false), .dead, .dead, .dead, .dead, .dead, .dead, .dead, .dead, .dead, .dead, .dead, .dead, .dead, .dead, .dead, .dead, .dead, .dead, .dead, .dead, .dead, .dead, .dead, .dead, .dead, .dead, .dead, .dead, .dead, .dead, .dead, .dead, .dead, .dead, .dead, .dead, .dead, .dead, .dead, .dead, .dead, .dead, .dead, .dead, .dead, .dead, .dead, .dead, .dead, .dead, .dead, .dead, .dead, .dead, .dead, .dead, .dead, .dead, .dead, .dead, .dead, .dead, .dead, .dead, .dead, .dead], [(Prod.mk 8000 (Blk.mk BKind.box 42 3 [[(i64 b0_0), (i64 b0_1), (AVal.ro 3 b0_2)]])), (Prod.mk 12816 (Blk.mk BKind.frz 23 2 R1)), (Prod.mk 14424 (Blk.mk BKind.arr 23 2 R2)), (Prod.mk 14472 (Blk.mk BKind.arr 23 2 R3))]⟩) else (bif (((verEq R1.length R1.length) && (decide ((0 : Int) ≤ i))) && (decide (i < (Int.ofNat R1.length)))) then (bif (verEq R1.length R1.length) then (bif (verEq R1.length R1.length) then (Option.bind (R1[i.toNat]?) fun r3 => (bif (chk [(LT.int IntKind.i64), (LT.int IntKind.i64)] r3) then (bif (decide ((cI r3 1) ≥ (wr (b0_1 * (256 : Int))))) then (k .ret ⟨[.dead, .dead, .dead, .dead, (bo false), .dead, .dead, .dead, .dead, .dead, .dead, .dead, .dead, .dead, .dead, .dead, .dead, .dead, .dead, .dead, .dead, .dead, .dead, .dead, .dead, .dead, .dead, .dead, .dead, .dead, .dead, .dead, .dead, .dead, .dead, .dead, .dead, .dead, .dead, .dead, .dead, .dead, .dead, .dead, .dead, .dead, .dead, .dead, .dead, .dead, .dead, .dead, .dead, .dead, .dead, .dead, .dead, .dead, .dead, .dead, .dead, .dead, .dead, .dead, .dead, .dead, .dead, .dead, .dead, .dead, .dead], [(Prod.mk 8000 (Blk.mk BKind.box 42 3 [[(i64 b0_0), (i64 b0_1), (AVal.ro 3 b0_2)]])), (Prod.mk 12816 (Blk.mk BKind.frz 23 2 R1)), (Prod.mk 14424 (Blk.mk BKind.arr 23 2 R2)), (Prod.mk 14472 (Blk.mk BKind.arr 23 2 R3))]⟩) else (loopN B8_0 m ⟨[.dead, .dead, (AVal.ref 8000 1 0 0), .dead, .dead, (AVal.slc 12816 R1.length), (i64 (wr (i + (1 : Int)))), .dead, .dead, .dead, .dead, .dead, .dead, .dead, .dead, .dead, .dead, .dead, .dead, .dead, .dead, .dead, .dead, .dead, .dead, .dead, .dead, .dead, .dead, .dead, .dead, .dead, .dead, .dead, .dead, .dead, .dead, .dead, .dead, .dead, .dead, .dead, .dead, .dead, .dead, .dead, .dead, .dead, .dead, .dead, .dead, .dead, .dead, .dead, .dead, .dead, .dead, .dead, .dead, .dead, .dead, .dead, .dead, .dead, .dead, .dead, .dead, .dead, .dead, .dead, .dead], [(Prod.mk 8000 (Blk.mk BKind.box 42 3 [[(i64 b0_0), (i64 b0_1), (AVal.ro 3 b0_2)]])), (Prod.mk 12816 (Blk.mk BKind.frz 23 2 R1)), (Prod.mk 14424 (Blk.mk BKind.arr 23 2 R2)), (Prod.mk 14472 (Blk.mk BKind.arr 23 2 R3))]⟩ (K8_0 k))) else none)) else none) else none) else none)) else none)) else none) else none) else none)) else none)) else none) else none) else none)) else none)) else none) else none) else none) else (k (.exit 0) ⟨[.dead, .dead, .dead, .dead, .dead, .dead, .dead, .dead, .dead, .dead, .dead, .dead, .dead, .dead, .dead, .dead, .dead, .dead, .dead, .dead, .dead, .dead, .dead, .dead, .dead, .dead, .dead, .dead, .dead, .dead, .dead, .dead, .dead, .dead, .dead, .dead, .dead, .dead, .dead, .dead, .dead, .dead, .dead, .dead, .dead, .dead, .dead, .dead, .dead, .dead, .dead, .dead, .dead, .dead, .dead, .dead, .dead, .dead, .dead, .dead, .dead, .dead, .dead, .dead, .dead, .dead, .dead, .dead, .dead, .dead, .dead], [(Prod.mk 8000 (Blk.mk BKind.box 42 3 [[(i64 b0_0), (i64 b0_1), (AVal.ro 3 b0_2)]])), (Prod.mk 12816 (Blk.mk BKind.frz 23 2 R1)), (Prod.mk 14424 (Blk.mk BKind.arr 23 2 R2)), (Prod.mk 14472 (Blk.mk BKind.arr 23 2 R3))]⟩)) else none)) (by kernel_rfl)
      (n_true (verEq_rfl _) (n_condH rfl (fun h0 => (n_condH (n_and (n_andL (verEq_rfl _) rfl) rfl) (fun h1 => (n_true (verEq_rfl _) (n_true (verEq_rfl _) (n_bind fun r => (n_condH rfl (fun h2 => (n_condH rfl (fun h3 => rfl) fun h3 => (n_true (n_andL (n_andL (verEq_rfl _) (n_al h1)) (n_ar h1)) (n_true (verEq_rfl _) (n_true (verEq_rfl _) (n_bind fun r1 => (n_condH rfl (fun h4 => (n_condH rfl (fun h5 => rfl) fun h5 => (n_true (n_andL (n_andL (verEq_rfl _) (n_al h1)) (n_ar h1)) (n_true (verEq_rfl _) (n_true (verEq_rfl _) (n_bind fun r2 => (n_condH rfl (fun h6 => (n_condH rfl (fun h7 => rfl) fun h7 => (n_true (n_andL (n_andL (verEq_rfl _) (n_al h1)) (n_ar h1)) (n_true (verEq_rfl _) (n_true (verEq_rfl _) (n_bind fun r3 => (n_condH rfl (fun h8 => (n_condH rfl (fun h9 => rfl) fun h9 => (spec8_0 k m R1 R2 R3 (wr (i + (1 : Int))) b0_0 b0_1 b0_2))) fun h8 => n_none))))))) fun h6 => n_none))))))) fun h4 => n_none))))))) fun h2 => n_none))))) fun h1 => n_none)) fun h0 => rfl))
theorem okL8_0 : LoopOk TT TU noG C21 ownF L8 (lp Try.f8 0) :=
  loopOk_of ks8_0 hs8_0 W8_0 FU (fun s k => (G_skirmishlaw18_FormationFits_0 (blkAt s.heap 1).2.rows (toI (cIa (rows0 (blkAt s.heap 0).2) 0)) (toI (cIa (rows0 (blkAt s.heap 0).2) 1)) FU (toI (cIa s.tmps 6))).bind (X8_0 (blkAt s.heap 1).2.rows (blkAt s.heap 2).2.rows (blkAt s.heap 3).2.rows (toI (cIa (rows0 (blkAt s.heap 0).2) 0)) (toI (cIa (rows0 (blkAt s.heap 0).2) 1)) (roRows (cIa (rows0 (blkAt s.heap 0).2) 2)) k)) (fun s k => by kernel_rfl) (fun s k => spec8_0 k FU (blkAt s.heap 1).2.rows (blkAt s.heap 2).2.rows (blkAt s.heap 3).2.rows (toI (cIa s.tmps 6)) (toI (cIa (rows0 (blkAt s.heap 0).2) 0)) (toI (cIa (rows0 (blkAt s.heap 0).2) 1)) (roRows (cIa (rows0 (blkAt s.heap 0).2) 2)))
theorem run8 (m_W : Int) (m_H : Int) (m_Cells : List (List AVal)) (l : List (List AVal)) : fcall TT TU noG C21 ownF true L8 Try.f8 [(.agg [(.sc (.int .i64 m_W)), (.sc (.int .i64 m_H)), (.ro 3 m_Cells)]), (.ro 2 l)] = (F_skirmishlaw18_FormationFits m_W m_H m_Cells l).bind fun t => some (enc8 t) :=
  Eq.trans (b := (Option.bind (F_skirmishlaw18_few l) fun t => (bif (!t) then (Option.bind F_skirmishlaw18_awake fun t1 => (some (CR.mk true (bo t1) [] []))) else (Option.bind (F_formation_Fit m_W m_H m_Cells l) fun t2 => (bif ((((true && (verEq t2.length t2.length)) && true) && true) && true) then (Option.bind (F_skirmishref18_Fit m_W m_H m_Cells l) fun t3 => (bif ((((true && (verEq t3.length t3.length)) && true) && true) && true) then (bif (verEq t2.length t2.length) then (bif (verEq t3.length t3.length) then (Option.bind (F_skirmishref18_Same t2 t3) fun t4 => (bif (!t4) then (some (CR.mk true (bo false) [] [])) else (bif (verEq t2.length t2.length) then (Option.bind (F_formation_Fit m_W m_H m_Cells t2) fun t5 => (bif ((((true && (verEq t5.length t5.length)) && true) && true) && true) then (bif (verEq t5.length t5.length) then (bif (verEq t2.length t2.length) then (Option.bind (F_skirmishref18_Same t5 t2) fun t6 => (bif (!t6) then (some (CR.mk true (bo false) [] [])) else (bif (((true && (verEq t2.length (blkLen [(Prod.mk 8000 (Blk.mk BKind.box 42 3 [[(i64 m_W), (i64 m_H), (AVal.ro 3 m_Cells)]])), (Prod.mk 12816 (Blk.mk BKind.frz 23 2 t2)), (Prod.mk 14424 (Blk.mk BKind.arr 23 2 t3)), (Prod.mk 14472 (Blk.mk BKind.arr 23 2 t5))] 1))) && true) && true) then (Option.bind (G_skirmishlaw18_FormationFits_0 t2 m_W m_H FU (0 : Int)) fun t7 => (bif t7 then (some (CR.mk true (bo false) [] [])) else (Option.bind F_skirmishlaw18_awake fun t8 => (some (CR.mk true (bo t8) [] []))))) else none))) else none) else none) else none)) else none))) else none) else none) else none)) else none))))) (by kernel_rfl)
    (n_bind fun t => (n_condH rfl (fun h0 => (n_bind fun t1 => rfl)) fun h0 => (n_bind fun t2 => (n_true (n_andL (n_andL (n_andL (n_andL rfl (verEq_rfl _)) rfl) rfl) rfl) (n_bind fun t3 => (n_true (n_andL (n_andL (n_andL (n_andL rfl (verEq_rfl _)) rfl) rfl) rfl) (n_true (verEq_rfl _) (n_true (verEq_rfl _) (n_bind fun t4 => (n_condH rfl (fun h1 => rfl) fun h1 => (n_true (verEq_rfl _) (n_bind fun t5 => (n_true (n_andL (n_andL (n_andL (n_andL rfl (verEq_rfl _)) rfl) rfl) rfl) (n_true (verEq_rfl _) (n_true (verEq_rfl _) (n_bind fun t6 => (n_condH rfl (fun h2 => rfl) fun h2 => (n_true (n_andL (n_andL (n_andL rfl (by first | exact verEq_of rfl | simp [verEq])) rfl) rfl) (n_bind fun t7 => (n_condH rfl (fun h3 => rfl) fun h3 => (n_bind fun t8 => rfl)))))))))))))))))))))
theorem lib8 : Lib Try.prog noG C8 :=
  Lib.fn lib21 mixed TT_ok Try.func8 (by decide +kernel) (by kernel_rfl) true L8 (loops_of 1 (by kernel_rfl) (belowS below0 okL8_0)) ks8 (F := fun us => F_skirmishlaw18_FormationFits (toI (cIa (aggL (cIa us 0)) 0)) (toI (cIa (aggL (cIa us 0)) 1)) (roRows (cIa (aggL (cIa us 0)) 2)) (roRows (cIa us 1))) (fun us => rfl) (fun us => run8 (toI (cIa (aggL (cIa us 0)) 0)) (toI (cIa (aggL (cIa us 0)) 1)) (roRows (cIa (aggL (cIa us 0)) 2)) (roRows (cIa us 1))) (fun t => rfl)

end Go.Proofs.Ytjgaaicflenbbaa.AI
