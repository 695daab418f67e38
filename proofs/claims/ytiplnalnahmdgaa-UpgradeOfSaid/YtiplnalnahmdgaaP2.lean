/- What functions answer: printed by wip/tool2/Ev.lean out of the interpreter's run; each print is checked by Lean. -/
import Derived.Test.YtiplnalnahmdgaaP1
namespace Go.Proofs.Ytiplnalnahmdgaa.AI
open Go.RowKit
set_option linter.unusedVariables false
set_option maxRecDepth 100000
/-! ### 4: skirmish/skirmishlaw22.UpgradeAdds -/

noncomputable def W4_0 : Ex → List Bool
  | .ret => [false, false, false, false, false, false, true, false, false, false, false, false, false, false, false, false, false, false, false, false, false, false, false, false, false, false, false, false, false, false, false, false, false, false, false, false, false, false, false, false, false, false, false, false, false, false, false, false, false, false, false, false, false, false, false, false, false, false, false, false, false, false, false, false, false, false, false, false, false, false, false, false, false, false, false, false, false, false, false, false, false, false, false, false, false, false, false, false, false, false, false, false, false]
  | .exit n => bif Nat.beq n 0 then [false, true, false, true, false, true, false, true, true, false, false, false, false, false, false, false, false, false, false, false, false, false, false, false, false, false, false, false, false, false, false, false, false, false, false, false, false, false, false, false, false, false, false, false, false, false, false, false, false, false, false, false, false, false, false, false, false, false, false, false, false, false, false, false, false, false, false, false, false, false, false, false, false, false, false, false, false, false, false, false, false, false, false, false, false, false, false, false, false, false, false, false, false] else []
  | .normal => []
noncomputable def G_skirmishlaw22_UpgradeAdds_0 (b0_2 : List (List AVal)) (b1_0 : ByteArray) (b1_1 : ByteArray) (b1_2 : Int) : Nat → Int → Int → Option (Int)
  | 0, _, _ => none
  | m + 1, sum, i =>
    bif (decide (i < (Int.ofNat b0_2.length))) then
      bif (decide ((0 : Int) ≤ i)) then
        Option.bind (b0_2[i.toNat]?) fun r =>
        bif (chk [LT.str, (LT.sl 9 1), (LT.int IntKind.i64), (LT.int IntKind.i64), (LT.int IntKind.i64), LT.str, (LT.int IntKind.i64), (LT.int IntKind.i64)] r) then
          bif (List.beq (ByteArray.toList (cS r 0)) (ByteArray.toList b1_0)) then
            bif (List.beq (ByteArray.toList (cS r 5)) (ByteArray.toList b1_1)) then
              bif ((cI r 6) == b1_2) then
                Option.bind (F_skirmishref01_Clamp (cI r 7) (-(100000 : Int)) (100000 : Int)) fun t =>
                G_skirmishlaw22_UpgradeAdds_0 b0_2 b1_0 b1_1 b1_2 m (wr (sum + t)) (wr (i + (1 : Int)))
              else
              G_skirmishlaw22_UpgradeAdds_0 b0_2 b1_0 b1_1 b1_2 m sum (wr (i + (1 : Int)))
            else
            G_skirmishlaw22_UpgradeAdds_0 b0_2 b1_0 b1_1 b1_2 m sum (wr (i + (1 : Int)))
          else
          G_skirmishlaw22_UpgradeAdds_0 b0_2 b1_0 b1_1 b1_2 m sum (wr (i + (1 : Int)))
        else
        none
      else
      none
    else
    some sum
noncomputable def E4_0 (R2 : List (List AVal)) (techs : List (List AVal)) (sum : Int) (i : Int) (b0_0 : List (List AVal)) (b0_1 : List (List AVal)) (b0_2 : List (List AVal)) (b1_0 : ByteArray) (b1_1 : ByteArray) (b1_2 : Int) : St := ⟨[.dead, (.ro 1 techs), .dead, (.ref 16000 1 0 0), .dead, (.ref 16016 1 0 0), .dead, (.slc 25600 (R2).length), (.sc (.int .i64 sum)), (.sc (.int .i64 i)), .dead, .dead, .dead, .dead, .dead, .dead, .dead, .dead, .dead, .dead, .dead, .dead, .dead, .dead, .dead, .dead, .dead, .dead, .dead, .dead, .dead, .dead, .dead, .dead, .dead, .dead, .dead, .dead, .dead, .dead, .dead, .dead, .dead, .dead, .dead, .dead, .dead, .dead, .dead, .dead, .dead, .dead, .dead, .dead, .dead, .dead, .dead, .dead, .dead, .dead, .dead, .dead, .dead, .dead, .dead, .dead, .dead, .dead, .dead, .dead, .dead, .dead, .dead, .dead, .dead, .dead, .dead, .dead, .dead, .dead, .dead, .dead, .dead, .dead, .dead, .dead, .dead, .dead, .dead, .dead, .dead, .dead, .dead], [(16000, ⟨.box, 26, 3, [[(.ro 19 b0_0), (.ro 6 b0_1), (.ro 8 b0_2)]]⟩), (16016, ⟨.box, 36, 3, [[(.sc (.string b1_0)), (.sc (.string b1_1)), (.sc (.int .i64 b1_2))]]⟩), (25600, ⟨.arr, 9, 1, R2⟩)]⟩
noncomputable def X4_0 (R2 : List (List AVal)) (techs : List (List AVal)) (b0_0 : List (List AVal)) (b0_1 : List (List AVal)) (b0_2 : List (List AVal)) (b1_0 : ByteArray) (b1_1 : ByteArray) (b1_2 : Int) (k : Ex → St → Option CR) (t : Int) : Option CR := k (.exit 0) ⟨[.dead, (.ro 1 techs), .dead, (.ref 16000 1 0 0), .dead, (.ref 16016 1 0 0), .dead, (.slc 25600 (R2).length), (.sc (.int .i64 t)), .dead, .dead, .dead, .dead, .dead, .dead, .dead, .dead, .dead, .dead, .dead, .dead, .dead, .dead, .dead, .dead, .dead, .dead, .dead, .dead, .dead, .dead, .dead, .dead, .dead, .dead, .dead, .dead, .dead, .dead, .dead, .dead, .dead, .dead, .dead, .dead, .dead, .dead, .dead, .dead, .dead, .dead, .dead, .dead, .dead, .dead, .dead, .dead, .dead, .dead, .dead, .dead, .dead, .dead, .dead, .dead, .dead, .dead, .dead, .dead, .dead, .dead, .dead, .dead, .dead, .dead, .dead, .dead, .dead, .dead, .dead, .dead, .dead, .dead, .dead, .dead, .dead, .dead, .dead, .dead, .dead, .dead, .dead, .dead], [(16000, ⟨.box, 26, 3, [[(.ro 19 b0_0), (.ro 6 b0_1), (.ro 8 b0_2)]]⟩), (16016, ⟨.box, 36, 3, [[(.sc (.string b1_0)), (.sc (.string b1_1)), (.sc (.int .i64 b1_2))]]⟩), (25600, ⟨.arr, 9, 1, R2⟩)]⟩
noncomputable def ks4_0 : List SK := [.f .dead, .f (.ro 1), .f .dead, .f (.ref 16000 1 0 0), .f .dead, .f (.ref 16016 1 0 0), .f .dead, .f (.slc 25600 2), .f (.int .i64), .f (.int .i64), .f .dead, .f .dead, .f .dead, .f .dead, .f .dead, .f .dead, .f .dead, .f .dead, .f .dead, .f .dead, .f .dead, .f .dead, .f .dead, .f .dead, .f .dead, .f .dead, .f .dead, .f .dead, .f .dead, .f .dead, .f .dead, .f .dead, .f .dead, .f .dead, .f .dead, .f .dead, .f .dead, .f .dead, .f .dead, .f .dead, .f .dead, .f .dead, .f .dead, .f .dead, .f .dead, .f .dead, .f .dead, .f .dead, .f .dead, .f .dead, .f .dead, .f .dead, .f .dead, .f .dead, .f .dead, .f .dead, .f .dead, .f .dead, .f .dead, .f .dead, .f .dead, .f .dead, .f .dead, .f .dead, .f .dead, .f .dead, .f .dead, .f .dead, .f .dead, .f .dead, .f .dead, .f .dead, .f .dead, .f .dead, .f .dead, .f .dead, .f .dead, .f .dead, .f .dead, .f .dead, .f .dead, .f .dead, .f .dead, .f .dead, .f .dead, .f .dead, .f .dead, .f .dead, .f .dead, .f .dead, .f .dead, .f .dead, .f .dead]
noncomputable def hs4_0 : List HK := [⟨16000, .box, 26, 3, some [.ro 19, .ro 6, .ro 8]⟩, ⟨16016, .box, 36, 3, some [.str, .str, .int .i64]⟩, ⟨25600, .arr, 9, 1, none⟩]
noncomputable def Lm4_0 (s : St) (k : Ex → St → Option CR) : Option CR := bif chkS ks4_0 hs4_0 s then (G_skirmishlaw22_UpgradeAdds_0 (roRows (cIa (rows0 (blkAt s.heap 0).2) 2)) (toS (cIa (rows0 (blkAt s.heap 1).2) 0)) (toS (cIa (rows0 (blkAt s.heap 1).2) 1)) (toI (cIa (rows0 (blkAt s.heap 1).2) 2)) FU (toI (cIa s.tmps 8)) (toI (cIa s.tmps 9))).bind (X4_0 (blkAt s.heap 2).2.rows (roRows (cIa s.tmps 1)) (roRows (cIa (rows0 (blkAt s.heap 0).2) 0)) (roRows (cIa (rows0 (blkAt s.heap 0).2) 1)) (roRows (cIa (rows0 (blkAt s.heap 0).2) 2)) (toS (cIa (rows0 (blkAt s.heap 1).2) 0)) (toS (cIa (rows0 (blkAt s.heap 1).2) 1)) (toI (cIa (rows0 (blkAt s.heap 1).2) 2)) k) else none
noncomputable def L4_0 (s : St) (k : Ex → St → Option CR) : Option CR := Lm4_0 (maskS (maskOf ks4_0) s) k

noncomputable def L4 : LT' := fun i s k => bif Nat.beq i 0 then L4_0 s k else none

/-- 'skirmish/skirmishlaw22.UpgradeAdds' -/
noncomputable def F_skirmishlaw22_UpgradeAdds (r_Units : List (List AVal)) (r_Weapons : List (List AVal)) (r_Techs : List (List AVal)) (techs : List (List AVal)) (x_Tech : ByteArray) (x_Ask_Unit : ByteArray) (x_Ask_Stat : Int) : Option (Bool) :=
  Option.bind (F_skirmishlaw10_Huge r_Units r_Weapons r_Techs) fun t =>
  bif t then
    Option.bind F_skirmishlaw22_awake fun t1 =>
    some t1
  else
  Option.bind (F_skirmishlaw22_huge techs) fun t2 =>
  bif t2 then
    Option.bind F_skirmishlaw22_awake fun t3 =>
    some t3
  else
  Option.bind (F_skirmishref09_Has techs x_Tech) fun t4 =>
  bif t4 then
    Option.bind F_skirmishlaw22_awake fun t5 =>
    some t5
  else
  bif (roomOk (0 + techs.length) 16) then
    bif (roomOk (techs.length + 1) 16) then
      Option.bind (G_skirmishlaw22_UpgradeAdds_0 r_Techs x_Tech x_Ask_Unit x_Ask_Stat FU (0 : Int) (0 : Int)) fun t6 =>
      Option.bind (F_upgrade_Stat r_Units r_Weapons r_Techs (roRows (AVal.ro 1 (Blk.rows (Blk.mk BKind.arr 9 1 (Blk.rows (Blk.mk BKind.arr 9 1 (techs ++ [[(AVal.sc (Value.string x_Tech))]]))))))) x_Ask_Unit x_Ask_Stat) fun t7 =>
      Option.bind (F_upgrade_Stat r_Units r_Weapons r_Techs techs x_Ask_Unit x_Ask_Stat) fun t8 =>
      bif ((wr (t7 - t8)) == t6) then
        Option.bind F_skirmishlaw22_awake fun t9 =>
        some t9
      else
      some false
    else
    none
  else
  none
noncomputable def enc4 (t : Bool) : CR := ⟨true, (.sc (.bool t)), [], []⟩
noncomputable def ks4 : List SK := [.agg [.ro 19, .ro 6, .ro 8], .f (.ro 1), .agg [.str, .str, .int .i64]]
noncomputable def S4 (us : List AVal) : Call := bif chkA ks4 us then Call.of (F_skirmishlaw22_UpgradeAdds (roRows (cIa (aggL (cIa us 0)) 0)) (roRows (cIa (aggL (cIa us 0)) 1)) (roRows (cIa (aggL (cIa us 0)) 2)) (roRows (cIa us 1)) (toS (cIa (aggL (cIa us 2)) 0)) (toS (cIa (aggL (cIa us 2)) 1)) (toI (cIa (aggL (cIa us 2)) 2))) enc4 else Call.none
noncomputable def C4 := AI.ext 4 S4 C14

@[reducible] noncomputable def B4_0 := bodyOf TT TU GL0 C14 ownF L4 (lp Try.f4 0)
@[reducible] noncomputable def K4_0 (k : Ex → St → Option CR) : Ex → St → Option CR := fun e s => k e (maskS (W4_0 e) s)
theorem spec4_0 (k : Ex → St → Option CR) : ∀ (m : Nat) (R2 : List (List AVal)) (techs : List (List AVal)) (sum : Int) (i : Int) (b0_0 : List (List AVal)) (b0_1 : List (List AVal)) (b0_2 : List (List AVal)) (b1_0 : ByteArray) (b1_1 : ByteArray) (b1_2 : Int), loopN B4_0 m (E4_0 R2 techs sum i b0_0 b0_1 b0_2 b1_0 b1_1 b1_2) (K4_0 k) = (G_skirmishlaw22_UpgradeAdds_0 b0_2 b1_0 b1_1 b1_2 m sum i).bind (X4_0 R2 techs b0_0 b0_1 b0_2 b1_0 b1_1 b1_2 k)
  | 0, _, _, _, _, _, _, _, _, _, _ => rfl
  | m + 1, R2, techs, sum, i, b0_0, b0_1, b0_2, b1_0, b1_1, b1_2 =>
    Eq.trans (b := (bif (decide (i < (Int.ofNat b0_2.length))) then (bif (decide ((0 : Int) ≤ i)) then (Option.bind (b0_2[i.toNat]?) fun r => (bif (chk [LT.str, (LT.sl 9 1), (LT.int IntKind.i64), (LT.int IntKind.i64), (LT.int IntKind.i64), LT.str, (LT.int IntKind.i64), (LT.int IntKind.i64)] r) then (bif (List.beq (ByteArray.toList (cS r 0)) (ByteArray.toList b1_0)) then (bif (List.beq (ByteArray.toList (cS r 5)) (ByteArray.toList b1_1)) then (bif ((cI r 6) == b1_2) then (Option.bind (F_skirmishref01_Clamp (cI r 7) (-(100000 : Int)) (100000 : Int)) fun t => (loopN B4_0 m ⟨[.dead, (AVal.ro 1 techs), .dead, (AVal.ref 16000 1 0 0), .dead, (AVal.ref 16016 1 0 0), .dead, (AVal.slc 25600 R2.length), (i64 (wr (sum + t))), (i64 (wr (i + (1 : Int)))), .dead, .dead, .dead, .dead, .dead, .dead, .dead, .dead, .dead, .dead, .dead, .dead, .dead, .dead, .dead, .dead, .dead, .dead, .dead, .dead, .dead, .dead, .dead, .dead, .dead, .dead, .dead, .dead, .dead, .dead, .dead, .dead, .dead, .dead, .dead, .dead, .dead, .dead, .dead, .dead, .dead, .dead, .dead, .dead, .dead, .dead, .dead, .dead, .dead, .dead, .dead, .dead, .dead, .dead, .dead, .dead, .dead, .dead, .dead, .dead, .dead, .dead, .dead, .dead, .dead, .dead, .dead, .dead, .dead, .dead, .dead, .dead, .dead, .dead, .dead, .dead, .dead, .dead, .dead, .dead, .dead, .dead, .dead], [(Prod.mk 16000 (Blk.mk BKind.box 26 3 [[(AVal.ro 19 b0_0), (AVal.ro 6 b0_1), (AVal.ro 8 b0_2)]])), (Prod.mk 16016 (Blk.mk BKind.box 36 3 [[(AVal.sc (Value.string b1_0)), (AVal.sc (Value.string b1_1)), (i64 b1_2)]])), (Prod.mk 25600 (Blk.mk BKind.arr 9 1 R2))]⟩ (K4_0 k))) else (loopN B4_0 m ⟨[.dead, (AVal.ro 1 techs), .dead, (AVal.ref 16000 1 0 0), .dead, (AVal.ref 16016 1 0 0), .dead, (AVal.slc 25600 R2.length), (i64 sum), (i64 (wr (i + (1 : Int)))), .dead, .dead, .dead, .dead, .dead, .dead, .dead, .dead, .dead, .dead, .dead, .dead, .dead, .dead, .dead, .dead, .dead, .dead, .dead, .dead, .dead, .dead, .dead, .dead, .dead, .dead, .dead, .dead, .dead, .dead, .dead, .dead, .dead, .dead, .dead, .dead, .dead, .dead, .dead, .dead, .dead, .dead, .dead, .dead, .dead, .dead, .dead, .dead, .dead, .dead, .dead, .dead, .dead, .dead, .dead, .dead, .dead, .dead, .dead, .dead, .dead, .dead, .dead, .dead, .dead, .dead, .dead, .dead, .dead, .dead, .dead, .dead, .dead, .dead, .dead, .dead, .dead, .dead, .dead, .dead, .dead, .dead, .dead], [(Prod.mk 16000 (Blk.mk BKind.box 26 3 [[(AVal.ro 19 b0_0), (AVal.ro 6 b0_1), (AVal.ro 8 b0_2)]])), (Prod.mk 16016 (Blk.mk BKind.box 36 3 [[(AVal.sc (Value.string b1_0)), (AVal.sc (Value.string b1_1)), (i64 b1_2)]])), (Prod.mk 25600 (Blk.mk BKind.arr 9 1 R2))]⟩ (K4_0 k))) else (loopN B4_0 m ⟨[.dead, (AVal.ro 1 techs), .dead, (AVal.ref 16000 1 0 0), .dead, (AVal.ref 16016 1 0 0), .dead, (AVal.slc 25600 R2.length), (i64 sum), (i64 (wr (i + (1 : Int)))), .dead, .dead, .dead, .dead, .dead, .dead, .dead, .dead, .dead, .dead, .dead, .dead, .dead, .dead, .dead, .dead, .dead, .dead, .dead, .dead, .dead, .dead, .dead, .dead, .dead, .dead, .dead, .dead, .dead, .dead, .dead, .dead, .dead, .dead, .dead, .dead, .dead, .dead, .dead, .dead, .dead, .dead, .dead, .dead, .dead, .dead, .dead, .dead, .dead, .dead, .dead, .dead, .dead, .dead, .dead, .dead, .dead, .dead, .dead, .dead, .dead, .dead, .dead, .dead, .dead, .dead, .dead, .dead, .dead, .dead, .dead, .dead, .dead, .dead, .dead, .dead, .dead, .dead, .dead, .dead, .dead, .dead, .dead], [(Prod.mk 16000 (Blk.mk BKind.box 26 3 [[(AVal.ro 19 b0_0), (AVal.ro 6 b0_1), (AVal.ro 8 b0_2)]])), (Prod.mk 16016 (Blk.mk BKind.box 36 3 [[(AVal.sc (Value.string b1_0)), (AVal.sc (Value.string b1_1)), (i64 b1_2)]])), (Prod.mk 25600 (Blk.mk BKind.arr 9 1 R2))]⟩ (K4_0 k))) else (loopN B4_0 m ⟨[.dead, (AVal.ro 1 techs), .dead, (AVal.ref 16000 1 0 0), .dead, (AVal.ref 16016 1 0 0), .dead, (AVal.slc 25600 R2.length), (i64 sum), (i64 (wr (i + (1 : Int)))), .dead, .dead, .dead, .dead, .dead, .dead, .dead, .dead, .dead, .dead, .dead, .dead, .dead, .dead, .dead, .dead, .dead, .dead, .dead, .dead, .dead, .dead, .dead, .dead, .dead, .dead, .dead, .dead, .dead, .dead, .dead, .dead, .dead, .dead, .dead, .dead, .dead, .dead, .dead, .dead, .dead, .dead, .dead, .dead, .dead, .dead, .dead, .dead, .dead, .dead, .dead, .dead, .dead, .dead, .dead, .dead, .dead, .dead, .dead, .dead, .dead, .dead, .dead, .dead, .dead, .dead, .dead, .dead, .dead, .dead, .dead, .dead, .dead, .dead, .dead, .dead, .dead, .dead, .dead, .dead, .dead, .dead, .dead], [(Prod.mk 16000 (Blk.mk BKind.box 26 3 [[(AVal.ro 19 b0_0), (AVal.ro 6 b0_1), (AVal.ro 8 b0_2)]])), (Prod.mk 16016 (Blk.mk BKind.box 36 3 [[(AVal.sc (Value.string b1_0)), (AVal.sc (Value.string b1_1)), (i64 b1_2)]])), (Prod.mk 25600 (Blk.mk BKind.arr 9 1 R2))]⟩ (K4_0 k))) else none)) else none) else (k (.exit 0) ⟨[.dead, (AVal.ro 1 techs), .dead, (AVal.ref 16000 1 0 0), .dead, (AVal.ref 16016 1 0 0), .dead, (AVal.slc 25600 R2.length), (i64 sum), .dead, .dead, .dead, .dead, .dead, .dead, .dead, .dead, .dead, .dead, .dead, .dead, .dead, .dead, .dead, .dead, .dead, .dead, .dead, .dead, .dead, .dead, .dead, .dead, .dead, .dead, .dead, .dead, .dead, .dead, .dead, .dead, .dead, .dead, .dead, .dead, .dead, .dead, .dead, .dead, .dead, .dead, .dead, .dead, .dead, .dead, .dead, .dead, .dead, .dead, .dead, .dead, .dead, .dead, .dead, .dead, .dead, .dead, .dead, .dead, .dead, .dead, .dead, .dead, .dead, .dead, .dead, .dead, .dead, .dead, .dead, .dead, .dead, .dead, .dead, .dead, .dead, .dead, .dead, .dead, .dead, .dead, .dead, .dead], [(Prod.mk 16000 (Blk.mk BKind.box 26 3 [[(AVal.ro 19 b0_0), (AVal.ro 6 b0_1), (AVal.ro 8 b0_2)]])), (Prod.mk 16016 (Blk.mk BKind.box 36 3 [[(AVal.sc (Value.string b1_0)), (AVal.sc (Value.string b1_1)), (i64 b1_2)]])), (Prod.mk 25600 (Blk.mk BKind.arr 9 1 R2))]⟩))) (by kernel_rfl)
      (n_condH rfl (fun h0 => (n_condH rfl (fun h1 => (n_bind fun r => (n_condH rfl (fun h2 => (n_condH rfl (fun h3 => (n_condH rfl (fun h4 => (n_condH rfl (fun h5 => (n_bind fun t => (spec4_0 k m R2 techs (wr (sum + t)) (wr (i + (1 : Int))) b0_0 b0_1 b0_2 b1_0 b1_1 b1_2))) fun h5 => (spec4_0 k m R2 techs sum (wr (i + (1 : Int))) b0_0 b0_1 b0_2 b1_0 b1_1 b1_2))) fun h4 => (spec4_0 k m R2 techs sum (wr (i + (1 : Int))) b0_0 b0_1 b0_2 b1_0 b1_1 b1_2))) fun h3 => (spec4_0 k m R2 techs sum (wr (i + (1 : Int))) b0_0 b0_1 b0_2 b1_0 b1_1 b1_2))) fun h2 => n_none))) fun h1 => n_none)) fun h0 => rfl)
theorem okL4_0 : LoopOk TT TU GL0 C14 ownF L4 (lp Try.f4 0) :=
  loopOk_of ks4_0 hs4_0 W4_0 FU (fun s k => (G_skirmishlaw22_UpgradeAdds_0 (roRows (cIa (rows0 (blkAt s.heap 0).2) 2)) (toS (cIa (rows0 (blkAt s.heap 1).2) 0)) (toS (cIa (rows0 (blkAt s.heap 1).2) 1)) (toI (cIa (rows0 (blkAt s.heap 1).2) 2)) FU (toI (cIa s.tmps 8)) (toI (cIa s.tmps 9))).bind (X4_0 (blkAt s.heap 2).2.rows (roRows (cIa s.tmps 1)) (roRows (cIa (rows0 (blkAt s.heap 0).2) 0)) (roRows (cIa (rows0 (blkAt s.heap 0).2) 1)) (roRows (cIa (rows0 (blkAt s.heap 0).2) 2)) (toS (cIa (rows0 (blkAt s.heap 1).2) 0)) (toS (cIa (rows0 (blkAt s.heap 1).2) 1)) (toI (cIa (rows0 (blkAt s.heap 1).2) 2)) k)) (fun s k => by kernel_rfl) (fun s k => spec4_0 k FU (blkAt s.heap 2).2.rows (roRows (cIa s.tmps 1)) (toI (cIa s.tmps 8)) (toI (cIa s.tmps 9)) (roRows (cIa (rows0 (blkAt s.heap 0).2) 0)) (roRows (cIa (rows0 (blkAt s.heap 0).2) 1)) (roRows (cIa (rows0 (blkAt s.heap 0).2) 2)) (toS (cIa (rows0 (blkAt s.heap 1).2) 0)) (toS (cIa (rows0 (blkAt s.heap 1).2) 1)) (toI (cIa (rows0 (blkAt s.heap 1).2) 2)))
theorem run4 (r_Units : List (List AVal)) (r_Weapons : List (List AVal)) (r_Techs : List (List AVal)) (techs : List (List AVal)) (x_Tech : ByteArray) (x_Ask_Unit : ByteArray) (x_Ask_Stat : Int) : fcall TT TU GL0 C14 ownF true L4 Try.f4 [(.agg [(.ro 19 r_Units), (.ro 6 r_Weapons), (.ro 8 r_Techs)]), (.ro 1 techs), (.agg [(.sc (.string x_Tech)), (.sc (.string x_Ask_Unit)), (.sc (.int .i64 x_Ask_Stat))])] = (F_skirmishlaw22_UpgradeAdds r_Units r_Weapons r_Techs techs x_Tech x_Ask_Unit x_Ask_Stat).bind fun t => some (enc4 t) :=
  Eq.trans (b := (Option.bind (F_skirmishlaw10_Huge r_Units r_Weapons r_Techs) fun t => (bif t then (Option.bind F_skirmishlaw22_awake fun t1 => (some (CR.mk true (bo t1) [] []))) else (Option.bind (F_skirmishlaw22_huge techs) fun t2 => (bif t2 then (Option.bind F_skirmishlaw22_awake fun t3 => (some (CR.mk true (bo t3) [] []))) else (Option.bind (F_skirmishref09_Has techs x_Tech) fun t4 => (bif t4 then (Option.bind F_skirmishlaw22_awake fun t5 => (some (CR.mk true (bo t5) [] []))) else (bif (roomOk (0 + techs.length) 16) then (bif (((verEq techs.length techs.length) && true) && (roomOk (techs.length + 1) 16)) then (bif (((true && (verEq (techs ++ [[(AVal.sc (Value.string x_Tech))]]).length (blkLen [(Prod.mk 16000 (Blk.mk BKind.box 26 3 [[(AVal.ro 19 r_Units), (AVal.ro 6 r_Weapons), (AVal.ro 8 r_Techs)]])), (Prod.mk 16016 (Blk.mk BKind.box 36 3 [[(AVal.sc (Value.string x_Tech)), (AVal.sc (Value.string x_Ask_Unit)), (i64 x_Ask_Stat)]])), (Prod.mk 25600 (Blk.mk BKind.arr 9 1 (techs ++ [[(AVal.sc (Value.string x_Tech))]])))] 2))) && true) && true) then (Option.bind (G_skirmishlaw22_UpgradeAdds_0 r_Techs x_Tech x_Ask_Unit x_Ask_Stat FU (0 : Int) (0 : Int)) fun t6 => (bif (verEq (Blk.rows (Blk.mk BKind.arr 9 1 (Blk.rows (Blk.mk BKind.arr 9 1 (techs ++ [[(AVal.sc (Value.string x_Tech))]]))))).length (Blk.rows (Blk.mk BKind.arr 9 1 (techs ++ [[(AVal.sc (Value.string x_Tech))]]))).length) then (Option.bind (F_upgrade_Stat r_Units r_Weapons r_Techs (roRows (AVal.ro 1 (Blk.rows (Blk.mk BKind.arr 9 1 (Blk.rows (Blk.mk BKind.arr 9 1 (techs ++ [[(AVal.sc (Value.string x_Tech))]]))))))) x_Ask_Unit x_Ask_Stat) fun t7 => (Option.bind (F_upgrade_Stat r_Units r_Weapons r_Techs techs x_Ask_Unit x_Ask_Stat) fun t8 => (bif ((wr (t7 - t8)) == t6) then (Option.bind F_skirmishlaw22_awake fun t9 => (some (CR.mk true (bo t9) [] []))) else (some (CR.mk true (bo false) [] []))))) else none)) else none) else none) else none)))))))) (by kernel_rfl)
    (n_bind fun t => (n_condH rfl (fun h0 => (n_bind fun t1 => rfl)) fun h0 => (n_bind fun t2 => (n_condH rfl (fun h1 => (n_bind fun t3 => rfl)) fun h1 => (n_bind fun t4 => (n_condH rfl (fun h2 => (n_bind fun t5 => rfl)) fun h2 => (n_condH rfl (fun h3 => (n_condH (n_andL (n_andL (verEq_rfl _) rfl) rfl) (fun h4 => (n_true (n_andL (n_andL (n_andL rfl (by first | exact verEq_of rfl | simp [verEq, blkLen, blkAt])) rfl) rfl) (n_bind fun t6 => (n_true (by first | exact verEq_of rfl | simp [verEq, blkLen, blkAt]) (n_bind fun t7 => (n_bind fun t8 => (n_condH rfl (fun h5 => (n_bind fun t9 => rfl)) fun h5 => rfl))))))) fun h4 => n_none)) fun h3 => n_none)))))))
theorem lib4 : Lib Try.prog GL0 C4 :=
  Lib.fn lib14 mixed TT_ok Try.func4 (by decide +kernel) (by kernel_rfl) true L4 (loops_of 1 (by kernel_rfl) (belowS below0 okL4_0)) ks4 (F := fun us => F_skirmishlaw22_UpgradeAdds (roRows (cIa (aggL (cIa us 0)) 0)) (roRows (cIa (aggL (cIa us 0)) 1)) (roRows (cIa (aggL (cIa us 0)) 2)) (roRows (cIa us 1)) (toS (cIa (aggL (cIa us 2)) 0)) (toS (cIa (aggL (cIa us 2)) 1)) (toI (cIa (aggL (cIa us 2)) 2))) (fun us => rfl) (fun us => run4 (roRows (cIa (aggL (cIa us 0)) 0)) (roRows (cIa (aggL (cIa us 0)) 1)) (roRows (cIa (aggL (cIa us 0)) 2)) (roRows (cIa us 1)) (toS (cIa (aggL (cIa us 2)) 0)) (toS (cIa (aggL (cIa us 2)) 1)) (toI (cIa (aggL (cIa us 2)) 2))) (fun t => rfl)

/-! ### 5: skirmish/skirmishlaw22.UpgradeOrder -/

noncomputable def W5_0 : Ex → List Bool
  | .ret => [false, false, false, false, false, false, true, false, false, false, false, false, false, false, false, false, false, false, false, false, false, false, false, false, false, false, false, false, false, false, false, false, false, false, false, false, false, false, false, false, false, false, false, false, false, false, false, false, false, false, false, false, false]
  | .exit n => bif Nat.beq n 0 then [false, true, false, true, false, true, false, true, false, false, false, false, false, false, false, false, false, false, false, false, false, false, false, false, false, false, false, false, false, false, false, false, false, false, false, false, false, false, false, false, false, false, false, false, false, false, false, false, false, false, false, false, false] else []
  | .normal => []
noncomputable def G_skirmishlaw22_UpgradeOrder_0 (techs : List (List AVal)) : Nat → List (List AVal) → Int → Option (List (List AVal))
  | 0, _, _ => none
  | m + 1, R2, i =>
    bif (decide (i ≥ (0 : Int))) then
      bif (decide ((0 : Int) ≤ i)) then
        Option.bind (techs[i.toNat]?) fun r =>
        bif (chk [LT.str] r) then
          bif (decide ((0 : Int) ≤ (wr (Int.tdiv i (2 : Int))))) then
            Option.bind (techs[(wr (Int.tdiv i (2 : Int))).toNat]?) fun r1 =>
            bif (chk [LT.str] r1) then
              bif (roomOk ((R2.length + 1) + 1) 16) then
                G_skirmishlaw22_UpgradeOrder_0 techs m (R2 ++ [[(AVal.sc (Value.string (cS r 0)))], [(AVal.sc (Value.string (cS r1 0)))]]) (wr (i - (1 : Int)))
              else
              none
            else
            none
          else
          none
        else
        none
      else
      none
    else
    some R2
noncomputable def E5_0 (R2 : List (List AVal)) (techs : List (List AVal)) (i : Int) (b0_0 : List (List AVal)) (b0_1 : List (List AVal)) (b0_2 : List (List AVal)) (b1_0 : ByteArray) (b1_1 : Int) : St := ⟨[.dead, (.ro 1 techs), .dead, (.ref 16000 1 0 0), .dead, (.ref 16016 1 0 0), .dead, (.slc 25600 (R2).length), (.sc (.int .i64 i)), .dead, .dead, .dead, .dead, .dead, .dead, .dead, .dead, .dead, .dead, .dead, .dead, .dead, .dead, .dead, .dead, .dead, .dead, .dead, .dead, .dead, .dead, .dead, .dead, .dead, .dead, .dead, .dead, .dead, .dead, .dead, .dead, .dead, .dead, .dead, .dead, .dead, .dead, .dead, .dead, .dead, .dead, .dead, .dead], [(16000, ⟨.box, 26, 3, [[(.ro 19 b0_0), (.ro 6 b0_1), (.ro 8 b0_2)]]⟩), (16016, ⟨.box, 29, 2, [[(.sc (.string b1_0)), (.sc (.int .i64 b1_1))]]⟩), (25600, ⟨.arr, 9, 1, R2⟩)]⟩
noncomputable def X5_0 (techs : List (List AVal)) (b0_0 : List (List AVal)) (b0_1 : List (List AVal)) (b0_2 : List (List AVal)) (b1_0 : ByteArray) (b1_1 : Int) (k : Ex → St → Option CR) (t : List (List AVal)) : Option CR := k (.exit 0) ⟨[.dead, (.ro 1 techs), .dead, (.ref 16000 1 0 0), .dead, (.ref 16016 1 0 0), .dead, (.slc 25600 (t).length), .dead, .dead, .dead, .dead, .dead, .dead, .dead, .dead, .dead, .dead, .dead, .dead, .dead, .dead, .dead, .dead, .dead, .dead, .dead, .dead, .dead, .dead, .dead, .dead, .dead, .dead, .dead, .dead, .dead, .dead, .dead, .dead, .dead, .dead, .dead, .dead, .dead, .dead, .dead, .dead, .dead, .dead, .dead, .dead, .dead], [(16000, ⟨.box, 26, 3, [[(.ro 19 b0_0), (.ro 6 b0_1), (.ro 8 b0_2)]]⟩), (16016, ⟨.box, 29, 2, [[(.sc (.string b1_0)), (.sc (.int .i64 b1_1))]]⟩), (25600, ⟨.arr, 9, 1, t⟩)]⟩
noncomputable def ks5_0 : List SK := [.f .dead, .f (.ro 1), .f .dead, .f (.ref 16000 1 0 0), .f .dead, .f (.ref 16016 1 0 0), .f .dead, .f (.slc 25600 2), .f (.int .i64), .f .dead, .f .dead, .f .dead, .f .dead, .f .dead, .f .dead, .f .dead, .f .dead, .f .dead, .f .dead, .f .dead, .f .dead, .f .dead, .f .dead, .f .dead, .f .dead, .f .dead, .f .dead, .f .dead, .f .dead, .f .dead, .f .dead, .f .dead, .f .dead, .f .dead, .f .dead, .f .dead, .f .dead, .f .dead, .f .dead, .f .dead, .f .dead, .f .dead, .f .dead, .f .dead, .f .dead, .f .dead, .f .dead, .f .dead, .f .dead, .f .dead, .f .dead, .f .dead, .f .dead]
noncomputable def hs5_0 : List HK := [⟨16000, .box, 26, 3, some [.ro 19, .ro 6, .ro 8]⟩, ⟨16016, .box, 29, 2, some [.str, .int .i64]⟩, ⟨25600, .arr, 9, 1, none⟩]
noncomputable def Lm5_0 (s : St) (k : Ex → St → Option CR) : Option CR := bif chkS ks5_0 hs5_0 s then (G_skirmishlaw22_UpgradeOrder_0 (roRows (cIa s.tmps 1)) FU (blkAt s.heap 2).2.rows (toI (cIa s.tmps 8))).bind (X5_0 (roRows (cIa s.tmps 1)) (roRows (cIa (rows0 (blkAt s.heap 0).2) 0)) (roRows (cIa (rows0 (blkAt s.heap 0).2) 1)) (roRows (cIa (rows0 (blkAt s.heap 0).2) 2)) (toS (cIa (rows0 (blkAt s.heap 1).2) 0)) (toI (cIa (rows0 (blkAt s.heap 1).2) 1)) k) else none
noncomputable def L5_0 (s : St) (k : Ex → St → Option CR) : Option CR := Lm5_0 (maskS (maskOf ks5_0) s) k

noncomputable def L5 : LT' := fun i s k => bif Nat.beq i 0 then L5_0 s k else none

/-- 'skirmish/skirmishlaw22.UpgradeOrder' -/
noncomputable def F_skirmishlaw22_UpgradeOrder (r_Units : List (List AVal)) (r_Weapons : List (List AVal)) (r_Techs : List (List AVal)) (techs : List (List AVal)) (a_Unit : ByteArray) (a_Stat : Int) : Option (Bool) :=
  Option.bind (F_skirmishlaw10_Huge r_Units r_Weapons r_Techs) fun t =>
  bif t then
    Option.bind F_skirmishlaw22_awake fun t1 =>
    some t1
  else
  Option.bind (F_skirmishlaw22_huge techs) fun t2 =>
  bif t2 then
    Option.bind F_skirmishlaw22_awake fun t3 =>
    some t3
  else
  Option.bind (G_skirmishlaw22_UpgradeOrder_0 techs FU [] (wr ((Int.ofNat techs.length) - (1 : Int)))) fun t4 =>
  Option.bind (F_upgrade_Stat r_Units r_Weapons r_Techs t4 a_Unit a_Stat) fun t5 =>
  Option.bind (F_upgrade_Stat r_Units r_Weapons r_Techs techs a_Unit a_Stat) fun t6 =>
  bif (t5 == t6) then
    Option.bind F_skirmishlaw22_awake fun t7 =>
    some t7
  else
  some false
noncomputable def enc5 (t : Bool) : CR := ⟨true, (.sc (.bool t)), [], []⟩
noncomputable def ks5 : List SK := [.agg [.ro 19, .ro 6, .ro 8], .f (.ro 1), .agg [.str, .int .i64]]
noncomputable def S5 (us : List AVal) : Call := bif chkA ks5 us then Call.of (F_skirmishlaw22_UpgradeOrder (roRows (cIa (aggL (cIa us 0)) 0)) (roRows (cIa (aggL (cIa us 0)) 1)) (roRows (cIa (aggL (cIa us 0)) 2)) (roRows (cIa us 1)) (toS (cIa (aggL (cIa us 2)) 0)) (toI (cIa (aggL (cIa us 2)) 1))) enc5 else Call.none
noncomputable def C5 := AI.ext 5 S5 C4

@[reducible] noncomputable def B5_0 := bodyOf TT TU GL0 C4 ownF L5 (lp Try.f5 0)
@[reducible] noncomputable def K5_0 (k : Ex → St → Option CR) : Ex → St → Option CR := fun e s => k e (maskS (W5_0 e) s)
theorem spec5_0 (k : Ex → St → Option CR) : ∀ (m : Nat) (R2 : List (List AVal)) (techs : List (List AVal)) (i : Int) (b0_0 : List (List AVal)) (b0_1 : List (List AVal)) (b0_2 : List (List AVal)) (b1_0 : ByteArray) (b1_1 : Int), loopN B5_0 m (E5_0 R2 techs i b0_0 b0_1 b0_2 b1_0 b1_1) (K5_0 k) = (G_skirmishlaw22_UpgradeOrder_0 techs m R2 i).bind (X5_0 techs b0_0 b0_1 b0_2 b1_0 b1_1 k)
  | 0, _, _, _, _, _, _, _, _ => rfl
  | m + 1, R2, techs, i, b0_0, b0_1, b0_2, b1_0, b1_1 =>
    Eq.trans (b := (bif (decide (i ≥ (0 : Int))) then (bif (decide ((0 : Int) ≤ i)) then (Option.bind (techs[i.toNat]?) fun r => (bif (chk [LT.str] r) then (bif (decide ((0 : Int) ≤ (wr (Int.tdiv i (2 : Int))))) then (Option.bind (techs[(wr (Int.tdiv i (2 : Int))).toNat]?) fun r1 => (bif (chk [LT.str] r1) then (bif (((verEq R2.length R2.length) && true) && (roomOk ((R2.length + 1) + 1) 16)) then (loopN B5_0 m ⟨[.dead, (AVal.ro 1 techs), .dead, (AVal.ref 16000 1 0 0), .dead, (AVal.ref 16016 1 0 0), .dead, (AVal.slc 25600 (R2 ++ [[(AVal.sc (Value.string (cS r 0)))], [(AVal.sc (Value.string (cS r1 0)))]]).length), (i64 (wr (i - (1 : Int)))), .dead, .dead, .dead, .dead, .dead, .dead, .dead, .dead, .dead, .dead, .dead, .dead, .dead, .dead, .dead, .dead, .dead, .dead, .dead, .dead, .dead, .dead, .dead, .dead, .dead, .dead, .dead, .dead, .dead, .dead, .dead, .dead, .dead, .dead, .dead, .dead, .dead, .dead, .dead, .dead, .dead, .dead, .dead, .dead], [(Prod.mk 16000 (Blk.mk BKind.box 26 3 [[(AVal.ro 19 b0_0), (AVal.ro 6 b0_1), (AVal.ro 8 b0_2)]])), (Prod.mk 16016 (Blk.mk BKind.box 29 2 [[(AVal.sc (Value.string b1_0)), (i64 b1_1)]])), (Prod.mk 25600 (Blk.mk BKind.arr 9 1 (R2 ++ [[(AVal.sc (Value.string (cS r 0)))], [(AVal.sc (Value.string (cS r1 0)))]])))]⟩ (K5_0 k)) else none) else none)) else none) else none)) else none) else (k (.exit 0) ⟨[.dead, (AVal.ro 1 techs), .dead, (AVal.ref 16000 1 0 0), .dead, (AVal.ref 16016 1 0 0), .dead, (AVal.slc 25600 R2.length), .dead, .dead, .dead, .dead, .dead, .dead, .dead, .dead, .dead, .dead, .dead, .dead, .dead, .dead, .dead, .dead, .dead, .dead, .dead, .dead, .dead, .dead, .dead, .dead, .dead, .dead, .dead, .dead, .dead, .dead, .dead, .dead, .dead, .dead, .dead, .dead, .dead, .dead, .dead, .dead, .dead, .dead, .dead, .dead, .dead], [(Prod.mk 16000 (Blk.mk BKind.box 26 3 [[(AVal.ro 19 b0_0), (AVal.ro 6 b0_1), (AVal.ro 8 b0_2)]])), (Prod.mk 16016 (Blk.mk BKind.box 29 2 [[(AVal.sc (Value.string b1_0)), (i64 b1_1)]])), (Prod.mk 25600 (Blk.mk BKind.arr 9 1 R2))]⟩))) (by kernel_rfl)
      (n_condH rfl (fun h0 => (n_condH rfl (fun h1 => (n_bind fun r => (n_condH rfl (fun h2 => (n_condH rfl (fun h3 => (n_bind fun r1 => (n_condH rfl (fun h4 => (n_condH (n_andL (n_andL (verEq_rfl _) rfl) rfl) (fun h5 => (spec5_0 k m (R2 ++ [[(AVal.sc (Value.string (cS r 0)))], [(AVal.sc (Value.string (cS r1 0)))]]) techs (wr (i - (1 : Int))) b0_0 b0_1 b0_2 b1_0 b1_1)) fun h5 => n_none)) fun h4 => n_none))) fun h3 => n_none)) fun h2 => n_none))) fun h1 => n_none)) fun h0 => rfl)
theorem okL5_0 : LoopOk TT TU GL0 C4 ownF L5 (lp Try.f5 0) :=
  loopOk_of ks5_0 hs5_0 W5_0 FU (fun s k => (G_skirmishlaw22_UpgradeOrder_0 (roRows (cIa s.tmps 1)) FU (blkAt s.heap 2).2.rows (toI (cIa s.tmps 8))).bind (X5_0 (roRows (cIa s.tmps 1)) (roRows (cIa (rows0 (blkAt s.heap 0).2) 0)) (roRows (cIa (rows0 (blkAt s.heap 0).2) 1)) (roRows (cIa (rows0 (blkAt s.heap 0).2) 2)) (toS (cIa (rows0 (blkAt s.heap 1).2) 0)) (toI (cIa (rows0 (blkAt s.heap 1).2) 1)) k)) (fun s k => by kernel_rfl) (fun s k => spec5_0 k FU (blkAt s.heap 2).2.rows (roRows (cIa s.tmps 1)) (toI (cIa s.tmps 8)) (roRows (cIa (rows0 (blkAt s.heap 0).2) 0)) (roRows (cIa (rows0 (blkAt s.heap 0).2) 1)) (roRows (cIa (rows0 (blkAt s.heap 0).2) 2)) (toS (cIa (rows0 (blkAt s.heap 1).2) 0)) (toI (cIa (rows0 (blkAt s.heap 1).2) 1)))
theorem run5 (r_Units : List (List AVal)) (r_Weapons : List (List AVal)) (r_Techs : List (List AVal)) (techs : List (List AVal)) (a_Unit : ByteArray) (a_Stat : Int) : fcall TT TU GL0 C4 ownF true L5 Try.f5 [(.agg [(.ro 19 r_Units), (.ro 6 r_Weapons), (.ro 8 r_Techs)]), (.ro 1 techs), (.agg [(.sc (.string a_Unit)), (.sc (.int .i64 a_Stat))])] = (F_skirmishlaw22_UpgradeOrder r_Units r_Weapons r_Techs techs a_Unit a_Stat).bind fun t => some (enc5 t) :=
  Eq.trans (b := (Option.bind (F_skirmishlaw10_Huge r_Units r_Weapons r_Techs) fun t => (bif t then (Option.bind F_skirmishlaw22_awake fun t1 => (some (CR.mk true (bo t1) [] []))) else (Option.bind (F_skirmishlaw22_huge techs) fun t2 => (bif t2 then (Option.bind F_skirmishlaw22_awake fun t3 => (some (CR.mk true (bo t3) [] []))) else (Option.bind (G_skirmishlaw22_UpgradeOrder_0 techs FU [] (wr ((Int.ofNat techs.length) - (1 : Int)))) fun t4 => (bif (verEq t4.length t4.length) then (Option.bind (F_upgrade_Stat r_Units r_Weapons r_Techs t4 a_Unit a_Stat) fun t5 => (Option.bind (F_upgrade_Stat r_Units r_Weapons r_Techs techs a_Unit a_Stat) fun t6 => (bif (t5 == t6) then (Option.bind F_skirmishlaw22_awake fun t7 => (some (CR.mk true (bo t7) [] []))) else (some (CR.mk true (bo false) [] []))))) else none))))))) (by kernel_rfl)
    (n_bind fun t => (n_condH rfl (fun h0 => (n_bind fun t1 => rfl)) fun h0 => (n_bind fun t2 => (n_condH rfl (fun h1 => (n_bind fun t3 => rfl)) fun h1 => (n_bind fun t4 => (n_true (verEq_rfl _) (n_bind fun t5 => (n_bind fun t6 => (n_condH rfl (fun h2 => (n_bind fun t7 => rfl)) fun h2 => rfl)))))))))
theorem lib5 : Lib Try.prog GL0 C5 :=
  Lib.fn lib4 mixed TT_ok Try.func5 (by decide +kernel) (by kernel_rfl) true L5 (loops_of 1 (by kernel_rfl) (belowS below0 okL5_0)) ks5 (F := fun us => F_skirmishlaw22_UpgradeOrder (roRows (cIa (aggL (cIa us 0)) 0)) (roRows (cIa (aggL (cIa us 0)) 1)) (roRows (cIa (aggL (cIa us 0)) 2)) (roRows (cIa us 1)) (toS (cIa (aggL (cIa us 2)) 0)) (toI (cIa (aggL (cIa us 2)) 1))) (fun us => rfl) (fun us => run5 (roRows (cIa (aggL (cIa us 0)) 0)) (roRows (cIa (aggL (cIa us 0)) 1)) (roRows (cIa (aggL (cIa us 0)) 2)) (roRows (cIa us 1)) (toS (cIa (aggL (cIa us 2)) 0)) (toI (cIa (aggL (cIa us 2)) 1))) (fun t => rfl)

/-! ### 48: skirmish/skirmishref21.Find -/

noncomputable def W48_0 : Ex → List Bool
  | .ret => [false, false, false, false, true, true, false, false, false, false, false, false, false, false, false, false, false, false, false, false, false, false, false, false, false]
  | .exit n => bif Nat.beq n 0 then [false, false, false, false, true, false, false, false, false, false, false, false, false, false, false, false, false, false, false, false, false, false, false, false, false] else []
  | .normal => []
noncomputable def G_skirmishref21_Find_0 (l : List (List AVal)) (id : Int) : Nat → Int → Option (Bool × Int × Int × ByteArray × Int × Int × Int × Int × Int × Int × Int × List (List AVal) × List (List AVal))
  | 0, _ => none
  | m + 1, i =>
    bif (decide (i < (Int.ofNat l.length))) then
      bif (decide ((0 : Int) ≤ i)) then
        Option.bind (l[i.toNat]?) fun r =>
        bif (chk [(LT.int IntKind.i64), (LT.int IntKind.i64), LT.str, (LT.int IntKind.i64), (LT.int IntKind.i64), (LT.int IntKind.i64), (LT.int IntKind.i64), (LT.int IntKind.i64), (LT.int IntKind.i64), (LT.int IntKind.i64), (LT.sl 114 5), (LT.sl 117 3)] r) then
          bif ((cI r 0) == id) then
            Option.bind (l[i.toNat]?) fun r1 =>
            bif (chk [(LT.int IntKind.i64), (LT.int IntKind.i64), LT.str, (LT.int IntKind.i64), (LT.int IntKind.i64), (LT.int IntKind.i64), (LT.int IntKind.i64), (LT.int IntKind.i64), (LT.int IntKind.i64), (LT.int IntKind.i64), (LT.sl 114 5), (LT.sl 117 3)] r1) then
              some (true, (cI r1 0), (cI r1 1), (cS r1 2), (cI r1 3), (cI r1 4), (cI r1 5), (cI r1 6), (cI r1 7), (cI r1 8), (cI r1 9), (cR r1 10), (cR r1 11))
            else
            none
          else
          G_skirmishref21_Find_0 l id m (wr (i + (1 : Int)))
        else
        none
      else
      none
    else
    some (false, 0, 0, ⟨#[]⟩, 0, 0, 0, 0, 0, 0, 0, [], [])
noncomputable def E48_0 (l : List (List AVal)) (id : Int) (i : Int) (b0_0 : Int) (b0_1 : Int) (b0_2 : ByteArray) (b0_3 : Int) (b0_4 : Int) (b0_5 : Int) (b0_6 : Int) (b0_7 : Int) (b0_8 : Int) (b0_9 : Int) : St := ⟨[(.ro 12 l), (.sc (.int .i64 id)), .dead, .dead, (.ref 16000 1 0 0), .dead, (.sc (.int .i64 i)), .dead, .dead, .dead, .dead, .dead, .dead, .dead, .dead, .dead, .dead, .dead, .dead, .dead, .dead, .dead, .dead, .dead, .dead], [(16000, ⟨.box, 78, 12, [[(.sc (.int .i64 b0_0)), (.sc (.int .i64 b0_1)), (.sc (.string b0_2)), (.sc (.int .i64 b0_3)), (.sc (.int .i64 b0_4)), (.sc (.int .i64 b0_5)), (.sc (.int .i64 b0_6)), (.sc (.int .i64 b0_7)), (.sc (.int .i64 b0_8)), (.sc (.int .i64 b0_9)), .emp, .emp]]⟩)]⟩
noncomputable def X48_0 (b0_0 : Int) (b0_1 : Int) (b0_2 : ByteArray) (b0_3 : Int) (b0_4 : Int) (b0_5 : Int) (b0_6 : Int) (b0_7 : Int) (b0_8 : Int) (b0_9 : Int) (k : Ex → St → Option CR) (t : Bool × Int × Int × ByteArray × Int × Int × Int × Int × Int × Int × Int × List (List AVal) × List (List AVal)) : Option CR := bif t.1 then k .ret ⟨[.dead, .dead, .dead, .dead, (.ref 16000 1 0 0), (.sc (.bool true)), .dead, .dead, .dead, .dead, .dead, .dead, .dead, .dead, .dead, .dead, .dead, .dead, .dead, .dead, .dead, .dead, .dead, .dead, .dead], [(16000, ⟨.box, 78, 12, [[(.sc (.int .i64 t.2.1)), (.sc (.int .i64 t.2.2.1)), (.sc (.string t.2.2.2.1)), (.sc (.int .i64 t.2.2.2.2.1)), (.sc (.int .i64 t.2.2.2.2.2.1)), (.sc (.int .i64 t.2.2.2.2.2.2.1)), (.sc (.int .i64 t.2.2.2.2.2.2.2.1)), (.sc (.int .i64 t.2.2.2.2.2.2.2.2.1)), (.sc (.int .i64 t.2.2.2.2.2.2.2.2.2.1)), (.sc (.int .i64 t.2.2.2.2.2.2.2.2.2.2.1)), (.ro 5 t.2.2.2.2.2.2.2.2.2.2.2.1), (.ro 3 t.2.2.2.2.2.2.2.2.2.2.2.2)]]⟩)]⟩ else k (.exit 0) ⟨[.dead, .dead, .dead, .dead, (.ref 16000 1 0 0), .dead, .dead, .dead, .dead, .dead, .dead, .dead, .dead, .dead, .dead, .dead, .dead, .dead, .dead, .dead, .dead, .dead, .dead, .dead, .dead], [(16000, ⟨.box, 78, 12, [[(.sc (.int .i64 b0_0)), (.sc (.int .i64 b0_1)), (.sc (.string b0_2)), (.sc (.int .i64 b0_3)), (.sc (.int .i64 b0_4)), (.sc (.int .i64 b0_5)), (.sc (.int .i64 b0_6)), (.sc (.int .i64 b0_7)), (.sc (.int .i64 b0_8)), (.sc (.int .i64 b0_9)), .emp, .emp]]⟩)]⟩
noncomputable def ks48_0 : List SK := [.f (.ro 12), .f (.int .i64), .f .dead, .f .dead, .f (.ref 16000 1 0 0), .f .dead, .f (.int .i64), .f .dead, .f .dead, .f .dead, .f .dead, .f .dead, .f .dead, .f .dead, .f .dead, .f .dead, .f .dead, .f .dead, .f .dead, .f .dead, .f .dead, .f .dead, .f .dead, .f .dead, .f .dead]
noncomputable def hs48_0 : List HK := [⟨16000, .box, 78, 12, some [.int .i64, .int .i64, .str, .int .i64, .int .i64, .int .i64, .int .i64, .int .i64, .int .i64, .int .i64, .emp, .emp]⟩]
noncomputable def Lm48_0 (s : St) (k : Ex → St → Option CR) : Option CR := bif chkS ks48_0 hs48_0 s then (G_skirmishref21_Find_0 (roRows (cIa s.tmps 0)) (toI (cIa s.tmps 1)) FU (toI (cIa s.tmps 6))).bind (X48_0 (toI (cIa (rows0 (blkAt s.heap 0).2) 0)) (toI (cIa (rows0 (blkAt s.heap 0).2) 1)) (toS (cIa (rows0 (blkAt s.heap 0).2) 2)) (toI (cIa (rows0 (blkAt s.heap 0).2) 3)) (toI (cIa (rows0 (blkAt s.heap 0).2) 4)) (toI (cIa (rows0 (blkAt s.heap 0).2) 5)) (toI (cIa (rows0 (blkAt s.heap 0).2) 6)) (toI (cIa (rows0 (blkAt s.heap 0).2) 7)) (toI (cIa (rows0 (blkAt s.heap 0).2) 8)) (toI (cIa (rows0 (blkAt s.heap 0).2) 9)) k) else none
noncomputable def L48_0 (s : St) (k : Ex → St → Option CR) : Option CR := Lm48_0 (maskS (maskOf ks48_0) s) k

noncomputable def L48 : LT' := fun i s k => bif Nat.beq i 0 then L48_0 s k else none

/-- 'skirmish/skirmishref21.Find' -/
noncomputable def F_skirmishref21_Find (l : List (List AVal)) (id : Int) : Option (Int × Int × ByteArray × Int × Int × Int × Int × Int × Int × Int × List (List AVal) × List (List AVal) × Bool) :=
  Option.bind (G_skirmishref21_Find_0 l id FU (0 : Int)) fun t =>
  bif t.1 then
    some (t.2.1, t.2.2.1, t.2.2.2.1, t.2.2.2.2.1, t.2.2.2.2.2.1, t.2.2.2.2.2.2.1, t.2.2.2.2.2.2.2.1, t.2.2.2.2.2.2.2.2.1, t.2.2.2.2.2.2.2.2.2.1, t.2.2.2.2.2.2.2.2.2.2.1, t.2.2.2.2.2.2.2.2.2.2.2.1, t.2.2.2.2.2.2.2.2.2.2.2.2, true)
  else
  some ((0 : Int), (0 : Int), (ByteArray.mk (Array.mk [])), (0 : Int), (0 : Int), (0 : Int), (0 : Int), (0 : Int), (0 : Int), (0 : Int), [], [], false)
noncomputable def enc48 (t : Int × Int × ByteArray × Int × Int × Int × Int × Int × Int × Int × List (List AVal) × List (List AVal) × Bool) : CR := ⟨true, (.tup [(.agg [(.sc (.int .i64 t.1)), (.sc (.int .i64 t.2.1)), (.sc (.string t.2.2.1)), (.sc (.int .i64 t.2.2.2.1)), (.sc (.int .i64 t.2.2.2.2.1)), (.sc (.int .i64 t.2.2.2.2.2.1)), (.sc (.int .i64 t.2.2.2.2.2.2.1)), (.sc (.int .i64 t.2.2.2.2.2.2.2.1)), (.sc (.int .i64 t.2.2.2.2.2.2.2.2.1)), (.sc (.int .i64 t.2.2.2.2.2.2.2.2.2.1)), (.ro 5 t.2.2.2.2.2.2.2.2.2.2.1), (.ro 3 t.2.2.2.2.2.2.2.2.2.2.2.1)]), (.sc (.bool t.2.2.2.2.2.2.2.2.2.2.2.2))]), [], []⟩
noncomputable def ks48 : List SK := [.f (.ro 12), .f (.int .i64)]
noncomputable def S48 (us : List AVal) : Call := bif chkA ks48 us then Call.of (F_skirmishref21_Find (roRows (cIa us 0)) (toI (cIa us 1))) enc48 else Call.none
noncomputable def C48 := AI.ext 48 S48 C5

@[reducible] noncomputable def B48_0 := bodyOf TT TU GL0 C5 ownF L48 (lp Try.f48 0)
@[reducible] noncomputable def K48_0 (k : Ex → St → Option CR) : Ex → St → Option CR := fun e s => k e (maskS (W48_0 e) s)
theorem spec48_0 (k : Ex → St → Option CR) : ∀ (m : Nat) (l : List (List AVal)) (id : Int) (i : Int) (b0_0 : Int) (b0_1 : Int) (b0_2 : ByteArray) (b0_3 : Int) (b0_4 : Int) (b0_5 : Int) (b0_6 : Int) (b0_7 : Int) (b0_8 : Int) (b0_9 : Int), loopN B48_0 m (E48_0 l id i b0_0 b0_1 b0_2 b0_3 b0_4 b0_5 b0_6 b0_7 b0_8 b0_9) (K48_0 k) = (G_skirmishref21_Find_0 l id m i).bind (X48_0 b0_0 b0_1 b0_2 b0_3 b0_4 b0_5 b0_6 b0_7 b0_8 b0_9 k)
  | 0, _, _, _, _, _, _, _, _, _, _, _, _, _ => rfl
  | m + 1, l, id, i, b0_0, b0_1, b0_2, b0_3, b0_4, b0_5, b0_6, b0_7, b0_8, b0_9 =>
    Eq.trans (b := (bif (decide (i < (Int.ofNat l.length))) then (bif (decide ((0 : Int) ≤ i)) then (Option.bind (l[i.toNat]?) fun r => (bif (chk [(LT.int IntKind.i64), (LT.int IntKind.i64), LT.str, (LT.int IntKind.i64), (LT.int IntKind.i64), (LT.int IntKind.i64), (LT.int IntKind.i64), (LT.int IntKind.i64), (LT.int IntKind.i64), (LT.int IntKind.i64), (LT.sl 114 5), (LT.sl 117 3)] r) then (bif ((cI r 0) == id) then (bif (decide ((0 : Int) ≤ i)) then (Option.bind (l[i.toNat]?) fun r1 => (bif (chk [(LT.int IntKind.i64), (LT.int IntKind.i64), LT.str, (LT.int IntKind.i64), (LT.int IntKind.i64), (LT.int IntKind.i64), (LT.int IntKind.i64), (LT.int IntKind.i64), (LT.int IntKind.i64), (LT.int IntKind.i64), (LT.sl 114 5), (LT.sl 117 3)] r1) then (k .ret ⟨[.dead, .dead, .dead, .dead, (AVal.ref 16000 1 0 0), (bo true), .dead, .dead, .dead, .dead, .dead, .dead, .dead, .dead, .dead, .dead, .dead, .dead, .dead, .dead, .dead, .dead, .dead, .dead, .dead], [(Prod.mk 16000 (Blk.mk BKind.box 78 12 [[(i64 (cI r1 0)), (i64 (cI r1 1)), (AVal.sc (Value.string (cS r1 2))), (i64 (cI r1 3)), (i64 (cI r1 4)), (i64 (cI r1 5)), (i64 (cI r1 6)), (i64 (cI r1 7)), (i64 (cI r1 8)), (i64 (cI r1 9)), (AVal.ro 5 (cR r1 10)), (AVal.ro 3 (cR r1 11))]]))]⟩) else none)) else none) else (loopN B48_0 m ⟨[(AVal.ro 12 l), (i64 id), .dead, .dead, (AVal.ref 16000 1 0 0), .dead, (i64 (wr (i + (1 : Int)))), .dead, .dead, .dead, .dead, .dead, .dead, .dead, .dead, .dead, .dead, .dead, .dead, .dead, .dead, .dead, .dead, .dead, .dead], [(Prod.mk 16000 (Blk.mk BKind.box 78 12 [[(i64 b0_0), (i64 b0_1), (AVal.sc (Value.string b0_2)), (i64 b0_3), (i64 b0_4), (i64 b0_5), (i64 b0_6), (i64 b0_7), (i64 b0_8), (i64 b0_9), AVal.emp, AVal.emp]]))]⟩ (K48_0 k))) else none)) else none) else (k (.exit 0) ⟨[.dead, .dead, .dead, .dead, (AVal.ref 16000 1 0 0), .dead, .dead, .dead, .dead, .dead, .dead, .dead, .dead, .dead, .dead, .dead, .dead, .dead, .dead, .dead, .dead, .dead, .dead, .dead, .dead], [(Prod.mk 16000 (Blk.mk BKind.box 78 12 [[(i64 b0_0), (i64 b0_1), (AVal.sc (Value.string b0_2)), (i64 b0_3), (i64 b0_4), (i64 b0_5), (i64 b0_6), (i64 b0_7), (i64 b0_8), (i64 b0_9), AVal.emp, AVal.emp]]))]⟩))) (by kernel_rfl)
      (n_condH rfl (fun h0 => (n_condH rfl (fun h1 => (n_bind fun r => (n_condH rfl (fun h2 => (n_condH rfl (fun h3 => (n_true h1 (n_bind fun r1 => (n_condH rfl (fun h4 => rfl) fun h4 => n_none)))) fun h3 => (spec48_0 k m l id (wr (i + (1 : Int))) b0_0 b0_1 b0_2 b0_3 b0_4 b0_5 b0_6 b0_7 b0_8 b0_9))) fun h2 => n_none))) fun h1 => n_none)) fun h0 => rfl)
theorem okL48_0 : LoopOk TT TU GL0 C5 ownF L48 (lp Try.f48 0) :=
  loopOk_of ks48_0 hs48_0 W48_0 FU (fun s k => (G_skirmishref21_Find_0 (roRows (cIa s.tmps 0)) (toI (cIa s.tmps 1)) FU (toI (cIa s.tmps 6))).bind (X48_0 (toI (cIa (rows0 (blkAt s.heap 0).2) 0)) (toI (cIa (rows0 (blkAt s.heap 0).2) 1)) (toS (cIa (rows0 (blkAt s.heap 0).2) 2)) (toI (cIa (rows0 (blkAt s.heap 0).2) 3)) (toI (cIa (rows0 (blkAt s.heap 0).2) 4)) (toI (cIa (rows0 (blkAt s.heap 0).2) 5)) (toI (cIa (rows0 (blkAt s.heap 0).2) 6)) (toI (cIa (rows0 (blkAt s.heap 0).2) 7)) (toI (cIa (rows0 (blkAt s.heap 0).2) 8)) (toI (cIa (rows0 (blkAt s.heap 0).2) 9)) k)) (fun s k => by kernel_rfl) (fun s k => spec48_0 k FU (roRows (cIa s.tmps 0)) (toI (cIa s.tmps 1)) (toI (cIa s.tmps 6)) (toI (cIa (rows0 (blkAt s.heap 0).2) 0)) (toI (cIa (rows0 (blkAt s.heap 0).2) 1)) (toS (cIa (rows0 (blkAt s.heap 0).2) 2)) (toI (cIa (rows0 (blkAt s.heap 0).2) 3)) (toI (cIa (rows0 (blkAt s.heap 0).2) 4)) (toI (cIa (rows0 (blkAt s.heap 0).2) 5)) (toI (cIa (rows0 (blkAt s.heap 0).2) 6)) (toI (cIa (rows0 (blkAt s.heap 0).2) 7)) (toI (cIa (rows0 (blkAt s.heap 0).2) 8)) (toI (cIa (rows0 (blkAt s.heap 0).2) 9)))
theorem run48 (l : List (List AVal)) (id : Int) : fcall TT TU GL0 C5 ownF false L48 Try.f48 [(.ro 12 l), (.sc (.int .i64 id))] = (F_skirmishref21_Find l id).bind fun t => some (enc48 t) :=
  Eq.trans (b := (Option.bind (G_skirmishref21_Find_0 l id FU (0 : Int)) fun t => (bif t.1 then (some (CR.mk true (AVal.tup [(AVal.agg [(i64 t.2.1), (i64 t.2.2.1), (AVal.sc (Value.string t.2.2.2.1)), (i64 t.2.2.2.2.1), (i64 t.2.2.2.2.2.1), (i64 t.2.2.2.2.2.2.1), (i64 t.2.2.2.2.2.2.2.1), (i64 t.2.2.2.2.2.2.2.2.1), (i64 t.2.2.2.2.2.2.2.2.2.1), (i64 t.2.2.2.2.2.2.2.2.2.2.1), (AVal.ro 5 t.2.2.2.2.2.2.2.2.2.2.2.1), (AVal.ro 3 t.2.2.2.2.2.2.2.2.2.2.2.2)]), (bo true)]) [] [])) else (some (CR.mk true (AVal.tup [(AVal.agg [(i64 (0 : Int)), (i64 (0 : Int)), (AVal.sc (Value.string (ByteArray.mk (Array.mk [])))), (i64 (0 : Int)), (i64 (0 : Int)), (i64 (0 : Int)), (i64 (0 : Int)), (i64 (0 : Int)), (i64 (0 : Int)), (i64 (0 : Int)), (AVal.ro 5 []), (AVal.ro 3 [])]), (bo false)]) [] []))))) (by kernel_rfl)
    (n_bind fun t => (n_condH rfl (fun h0 => rfl) fun h0 => rfl))
theorem lib48 : Lib Try.prog GL0 C48 :=
  Lib.fn lib5 mixed TT_ok Try.func48 (by decide +kernel) (by kernel_rfl) false L48 (loops_of 1 (by kernel_rfl) (belowS below0 okL48_0)) ks48 (F := fun us => F_skirmishref21_Find (roRows (cIa us 0)) (toI (cIa us 1))) (fun us => rfl) (fun us => run48 (roRows (cIa us 0)) (toI (cIa us 1))) (fun t => rfl)

/-! ### 69: skirmish/skirmishref22.Player -/

noncomputable def W69_0 : Ex → List Bool
  | .ret => [false, false, false, false, true, true, false, false, false, false, false, false, false, false, false, false, false, false, false, false, false, false, false, false, false, false, false, false]
  | .exit n => bif Nat.beq n 0 then [false, false, false, false, true, false, false, false, false, false, false, false, false, false, false, false, false, false, false, false, false, false, false, false, false, false, false, false] else []
  | .normal => []
noncomputable def G_skirmishref22_Player_0 (id : Int) (b0_11 : List (List AVal)) : Nat → Int → Option (Bool × Int × Int × Int × Int × List (List AVal) × Bool)
  | 0, _ => none
  | m + 1, i =>
    bif (decide (i < (Int.ofNat b0_11.length))) then
      bif (decide ((0 : Int) ≤ i)) then
        Option.bind (b0_11[i.toNat]?) fun r =>
        bif (chk [(LT.int IntKind.i64), (LT.int IntKind.i64), (LT.int IntKind.i64), (LT.int IntKind.i64), (LT.sl 9 1), LT.bool] r) then
          bif ((cI r 0) == id) then
            Option.bind (b0_11[i.toNat]?) fun r1 =>
            bif (chk [(LT.int IntKind.i64), (LT.int IntKind.i64), (LT.int IntKind.i64), (LT.int IntKind.i64), (LT.sl 9 1), LT.bool] r1) then
              some (true, (cI r1 0), (cI r1 1), (cI r1 2), (cI r1 3), (cR r1 4), (cB r1 5))
            else
            none
          else
          G_skirmishref22_Player_0 id b0_11 m (wr (i + (1 : Int)))
        else
        none
      else
      none
    else
    some (false, 0, 0, 0, 0, [], false)
noncomputable def E69_0 (id : Int) (i : Int) (b0_0 : Int) (b0_1 : Int) (b0_2 : Int) (b0_3 : Bool) (b0_4 : Int) (b0_5 : List (List AVal)) (b0_6 : List (List AVal)) (b0_7 : List (List AVal)) (b0_8 : Int) (b0_9 : Int) (b0_10 : List (List AVal)) (b0_11 : List (List AVal)) (b0_12 : List (List AVal)) (b0_13 : List (List AVal)) (b0_14 : List (List AVal)) (b0_15 : List (List AVal)) (b1_0 : Int) (b1_1 : Int) (b1_2 : Int) (b1_3 : Int) (b1_5 : Bool) : St := ⟨[.dead, (.sc (.int .i64 id)), (.ref 16000 1 0 0), .dead, (.ref 16016 1 0 0), .dead, (.sc (.int .i64 i)), .dead, .dead, .dead, .dead, .dead, .dead, .dead, .dead, .dead, .dead, .dead, .dead, .dead, .dead, .dead, .dead, .dead, .dead, .dead, .dead, .dead], [(16000, ⟨.box, 66, 16, [[(.sc (.int .i64 b0_0)), (.sc (.int .i64 b0_1)), (.sc (.int .i64 b0_2)), (.sc (.bool b0_3)), (.sc (.int .u64 b0_4)), (.ro 19 b0_5), (.ro 6 b0_6), (.ro 8 b0_7), (.sc (.int .i64 b0_8)), (.sc (.int .i64 b0_9)), (.ro 3 b0_10), (.ro 6 b0_11), (.ro 12 b0_12), (.ro 9 b0_13), (.ro 3 b0_14), (.ro 4 b0_15)]]⟩), (16016, ⟨.box, 68, 6, [[(.sc (.int .i64 b1_0)), (.sc (.int .i64 b1_1)), (.sc (.int .i64 b1_2)), (.sc (.int .i64 b1_3)), .emp, (.sc (.bool b1_5))]]⟩)]⟩
noncomputable def X69_0 (b1_0 : Int) (b1_1 : Int) (b1_2 : Int) (b1_3 : Int) (b1_5 : Bool) (k : Ex → St → Option CR) (t : Bool × Int × Int × Int × Int × List (List AVal) × Bool) : Option CR := bif t.1 then k .ret ⟨[.dead, .dead, .dead, .dead, (.ref 16016 1 0 0), (.sc (.bool true)), .dead, .dead, .dead, .dead, .dead, .dead, .dead, .dead, .dead, .dead, .dead, .dead, .dead, .dead, .dead, .dead, .dead, .dead, .dead, .dead, .dead, .dead], [(16016, ⟨.box, 68, 6, [[(.sc (.int .i64 t.2.1)), (.sc (.int .i64 t.2.2.1)), (.sc (.int .i64 t.2.2.2.1)), (.sc (.int .i64 t.2.2.2.2.1)), (.ro 1 t.2.2.2.2.2.1), (.sc (.bool t.2.2.2.2.2.2))]]⟩)]⟩ else k (.exit 0) ⟨[.dead, .dead, .dead, .dead, (.ref 16016 1 0 0), .dead, .dead, .dead, .dead, .dead, .dead, .dead, .dead, .dead, .dead, .dead, .dead, .dead, .dead, .dead, .dead, .dead, .dead, .dead, .dead, .dead, .dead, .dead], [(16016, ⟨.box, 68, 6, [[(.sc (.int .i64 b1_0)), (.sc (.int .i64 b1_1)), (.sc (.int .i64 b1_2)), (.sc (.int .i64 b1_3)), .emp, (.sc (.bool b1_5))]]⟩)]⟩
noncomputable def ks69_0 : List SK := [.f .dead, .f (.int .i64), .f (.ref 16000 1 0 0), .f .dead, .f (.ref 16016 1 0 0), .f .dead, .f (.int .i64), .f .dead, .f .dead, .f .dead, .f .dead, .f .dead, .f .dead, .f .dead, .f .dead, .f .dead, .f .dead, .f .dead, .f .dead, .f .dead, .f .dead, .f .dead, .f .dead, .f .dead, .f .dead, .f .dead, .f .dead, .f .dead]
noncomputable def hs69_0 : List HK := [⟨16000, .box, 66, 16, some [.int .i64, .int .i64, .int .i64, .bool, .int .u64, .ro 19, .ro 6, .ro 8, .int .i64, .int .i64, .ro 3, .ro 6, .ro 12, .ro 9, .ro 3, .ro 4]⟩, ⟨16016, .box, 68, 6, some [.int .i64, .int .i64, .int .i64, .int .i64, .emp, .bool]⟩]
noncomputable def Lm69_0 (s : St) (k : Ex → St → Option CR) : Option CR := bif chkS ks69_0 hs69_0 s then (G_skirmishref22_Player_0 (toI (cIa s.tmps 1)) (roRows (cIa (rows0 (blkAt s.heap 0).2) 11)) FU (toI (cIa s.tmps 6))).bind (X69_0 (toI (cIa (rows0 (blkAt s.heap 1).2) 0)) (toI (cIa (rows0 (blkAt s.heap 1).2) 1)) (toI (cIa (rows0 (blkAt s.heap 1).2) 2)) (toI (cIa (rows0 (blkAt s.heap 1).2) 3)) (toB (cIa (rows0 (blkAt s.heap 1).2) 5)) k) else none
noncomputable def L69_0 (s : St) (k : Ex → St → Option CR) : Option CR := Lm69_0 (maskS (maskOf ks69_0) s) k

noncomputable def L69 : LT' := fun i s k => bif Nat.beq i 0 then L69_0 s k else none

/-- 'skirmish/skirmishref22.Player' -/
noncomputable def F_skirmishref22_Player (g_Turn : Int) (g_NextId : Int) (g_Winner : Int) (g_Paused : Bool) (g_Rng : Int) (g_Rules_Units : List (List AVal)) (g_Rules_Weapons : List (List AVal)) (g_Rules_Techs : List (List AVal)) (g_Map_W : Int) (g_Map_H : Int) (g_Map_Cells : List (List AVal)) (g_Players : List (List AVal)) (g_Units : List (List AVal)) (g_Shots : List (List AVal)) (g_Memories : List (List AVal)) (g_Scripts : List (List AVal)) (id : Int) : Option (Int × Int × Int × Int × List (List AVal) × Bool × Bool) :=
  Option.bind (G_skirmishref22_Player_0 id g_Players FU (0 : Int)) fun t =>
  bif t.1 then
    some (t.2.1, t.2.2.1, t.2.2.2.1, t.2.2.2.2.1, t.2.2.2.2.2.1, t.2.2.2.2.2.2, true)
  else
  some ((0 : Int), (0 : Int), (0 : Int), (0 : Int), [], false, false)
noncomputable def enc69 (t : Int × Int × Int × Int × List (List AVal) × Bool × Bool) : CR := ⟨true, (.tup [(.agg [(.sc (.int .i64 t.1)), (.sc (.int .i64 t.2.1)), (.sc (.int .i64 t.2.2.1)), (.sc (.int .i64 t.2.2.2.1)), (.ro 1 t.2.2.2.2.1), (.sc (.bool t.2.2.2.2.2.1))]), (.sc (.bool t.2.2.2.2.2.2))]), [], []⟩
noncomputable def ks69 : List SK := [.agg [.int .i64, .int .i64, .int .i64, .bool, .int .u64, .ro 19, .ro 6, .ro 8, .int .i64, .int .i64, .ro 3, .ro 6, .ro 12, .ro 9, .ro 3, .ro 4], .f (.int .i64)]
noncomputable def S69 (us : List AVal) : Call := bif chkA ks69 us then Call.of (F_skirmishref22_Player (toI (cIa (aggL (cIa us 0)) 0)) (toI (cIa (aggL (cIa us 0)) 1)) (toI (cIa (aggL (cIa us 0)) 2)) (toB (cIa (aggL (cIa us 0)) 3)) (toI (cIa (aggL (cIa us 0)) 4)) (roRows (cIa (aggL (cIa us 0)) 5)) (roRows (cIa (aggL (cIa us 0)) 6)) (roRows (cIa (aggL (cIa us 0)) 7)) (toI (cIa (aggL (cIa us 0)) 8)) (toI (cIa (aggL (cIa us 0)) 9)) (roRows (cIa (aggL (cIa us 0)) 10)) (roRows (cIa (aggL (cIa us 0)) 11)) (roRows (cIa (aggL (cIa us 0)) 12)) (roRows (cIa (aggL (cIa us 0)) 13)) (roRows (cIa (aggL (cIa us 0)) 14)) (roRows (cIa (aggL (cIa us 0)) 15)) (toI (cIa us 1))) enc69 else Call.none
noncomputable def C69 := AI.ext 69 S69 C48

@[reducible] noncomputable def B69_0 := bodyOf TT TU GL0 C48 ownF L69 (lp Try.f69 0)
@[reducible] noncomputable def K69_0 (k : Ex → St → Option CR) : Ex → St → Option CR := fun e s => k e (maskS (W69_0 e) s)
theorem spec69_0 (k : Ex → St → Option CR) : ∀ (m : Nat) (id : Int) (i : Int) (b0_0 : Int) (b0_1 : Int) (b0_2 : Int) (b0_3 : Bool) (b0_4 : Int) (b0_5 : List (List AVal)) (b0_6 : List (List AVal)) (b0_7 : List (List AVal)) (b0_8 : Int) (b0_9 : Int) (b0_10 : List (List AVal)) (b0_11 : List (List AVal)) (b0_12 : List (List AVal)) (b0_13 : List (List AVal)) (b0_14 : List (List AVal)) (b0_15 : List (List AVal)) (b1_0 : Int) (b1_1 : Int) (b1_2 : Int) (b1_3 : Int) (b1_5 : Bool), loopN B69_0 m (E69_0 id i b0_0 b0_1 b0_2 b0_3 b0_4 b0_5 b0_6 b0_7 b0_8 b0_9 b0_10 b0_11 b0_12 b0_13 b0_14 b0_15 b1_0 b1_1 b1_2 b1_3 b1_5) (K69_0 k) = (G_skirmishref22_Player_0 id b0_11 m i).bind (X69_0 b1_0 b1_1 b1_2 b1_3 b1_5 k)
  | 0, _, _, _, _, _, _, _, _, _, _, _, _, _, _, _, _, _, _, _, _, _, _, _ => rfl
  | m + 1, id, i, b0_0, b0_1, b0_2, b0_3, b0_4, b0_5, b0_6, b0_7, b0_8, b0_9, b0_10, b0_11, b0_12, b0_13, b0_14, b0_15, b1_0, b1_1, b1_2, b1_3, b1_5 =>
    Eq.trans (b := (bif (decide (i < (Int.ofNat b0_11.length))) then (bif (decide ((0 : Int) ≤ i)) then (Option.bind (b0_11[i.toNat]?) fun r => (bif (chk [(LT.int IntKind.i64), (LT.int IntKind.i64), (LT.int IntKind.i64), (LT.int IntKind.i64), (LT.sl 9 1), LT.bool] r) then (bif ((cI r 0) == id) then (bif (decide ((0 : Int) ≤ i)) then (Option.bind (b0_11[i.toNat]?) fun r1 => (bif (chk [(LT.int IntKind.i64), (LT.int IntKind.i64), (LT.int IntKind.i64), (LT.int IntKind.i64), (LT.sl 9 1), LT.bool] r1) then (k .ret ⟨[.dead, .dead, .dead, .dead, (AVal.ref 16016 1 0 0), (bo true), .dead, .dead, .dead, .dead, .dead, .dead, .dead, .dead, .dead, .dead, .dead, .dead, .dead, .dead, .dead, .dead, .dead, .dead, .dead, .dead, .dead, .dead], [(Prod.mk 16016 (Blk.mk BKind.box 68 6 [[(i64 (cI r1 0)), (i64 (cI r1 1)), (i64 (cI r1 2)), (i64 (cI r1 3)), (AVal.ro 1 (cR r1 4)), (bo (cB r1 5))]]))]⟩) else none)) else none) else (loopN B69_0 m ⟨[.dead, (i64 id), (AVal.ref 16000 1 0 0), .dead, (AVal.ref 16016 1 0 0), .dead, (i64 (wr (i + (1 : Int)))), .dead, .dead, .dead, .dead, .dead, .dead, .dead, .dead, .dead, .dead, .dead, .dead, .dead, .dead, .dead, .dead, .dead, .dead, .dead, .dead, .dead], [(Prod.mk 16000 (Blk.mk BKind.box 66 16 [[(i64 b0_0), (i64 b0_1), (i64 b0_2), (bo b0_3), (AVal.sc (Value.int IntKind.u64 b0_4)), (AVal.ro 19 b0_5), (AVal.ro 6 b0_6), (AVal.ro 8 b0_7), (i64 b0_8), (i64 b0_9), (AVal.ro 3 b0_10), (AVal.ro 6 b0_11), (AVal.ro 12 b0_12), (AVal.ro 9 b0_13), (AVal.ro 3 b0_14), (AVal.ro 4 b0_15)]])), (Prod.mk 16016 (Blk.mk BKind.box 68 6 [[(i64 b1_0), (i64 b1_1), (i64 b1_2), (i64 b1_3), AVal.emp, (bo b1_5)]]))]⟩ (K69_0 k))) else none)) else none) else (k (.exit 0) ⟨[.dead, .dead, .dead, .dead, (AVal.ref 16016 1 0 0), .dead, .dead, .dead, .dead, .dead, .dead, .dead, .dead, .dead, .dead, .dead, .dead, .dead, .dead, .dead, .dead, .dead, .dead, .dead, .dead, .dead, .dead, .dead], [(Prod.mk 16016 (Blk.mk BKind.box 68 6 [[(i64 b1_0), (i64 b1_1), (i64 b1_2), (i64 b1_3), AVal.emp, (bo b1_5)]]))]⟩))) (by kernel_rfl)
      (n_condH rfl (fun h0 => (n_condH rfl (fun h1 => (n_bind fun r => (n_condH rfl (fun h2 => (n_condH rfl (fun h3 => (n_true h1 (n_bind fun r1 => (n_condH rfl (fun h4 => rfl) fun h4 => n_none)))) fun h3 => (spec69_0 k m id (wr (i + (1 : Int))) b0_0 b0_1 b0_2 b0_3 b0_4 b0_5 b0_6 b0_7 b0_8 b0_9 b0_10 b0_11 b0_12 b0_13 b0_14 b0_15 b1_0 b1_1 b1_2 b1_3 b1_5))) fun h2 => n_none))) fun h1 => n_none)) fun h0 => rfl)
theorem okL69_0 : LoopOk TT TU GL0 C48 ownF L69 (lp Try.f69 0) :=
  loopOk_of ks69_0 hs69_0 W69_0 FU (fun s k => (G_skirmishref22_Player_0 (toI (cIa s.tmps 1)) (roRows (cIa (rows0 (blkAt s.heap 0).2) 11)) FU (toI (cIa s.tmps 6))).bind (X69_0 (toI (cIa (rows0 (blkAt s.heap 1).2) 0)) (toI (cIa (rows0 (blkAt s.heap 1).2) 1)) (toI (cIa (rows0 (blkAt s.heap 1).2) 2)) (toI (cIa (rows0 (blkAt s.heap 1).2) 3)) (toB (cIa (rows0 (blkAt s.heap 1).2) 5)) k)) (fun s k => by kernel_rfl) (fun s k => spec69_0 k FU (toI (cIa s.tmps 1)) (toI (cIa s.tmps 6)) (toI (cIa (rows0 (blkAt s.heap 0).2) 0)) (toI (cIa (rows0 (blkAt s.heap 0).2) 1)) (toI (cIa (rows0 (blkAt s.heap 0).2) 2)) (toB (cIa (rows0 (blkAt s.heap 0).2) 3)) (toI (cIa (rows0 (blkAt s.heap 0).2) 4)) (roRows (cIa (rows0 (blkAt s.heap 0).2) 5)) (roRows (cIa (rows0 (blkAt s.heap 0).2) 6)) (roRows (cIa (rows0 (blkAt s.heap 0).2) 7)) (toI (cIa (rows0 (blkAt s.heap 0).2) 8)) (toI (cIa (rows0 (blkAt s.heap 0).2) 9)) (roRows (cIa (rows0 (blkAt s.heap 0).2) 10)) (roRows (cIa (rows0 (blkAt s.heap 0).2) 11)) (roRows (cIa (rows0 (blkAt s.heap 0).2) 12)) (roRows (cIa (rows0 (blkAt s.heap 0).2) 13)) (roRows (cIa (rows0 (blkAt s.heap 0).2) 14)) (roRows (cIa (rows0 (blkAt s.heap 0).2) 15)) (toI (cIa (rows0 (blkAt s.heap 1).2) 0)) (toI (cIa (rows0 (blkAt s.heap 1).2) 1)) (toI (cIa (rows0 (blkAt s.heap 1).2) 2)) (toI (cIa (rows0 (blkAt s.heap 1).2) 3)) (toB (cIa (rows0 (blkAt s.heap 1).2) 5)))
theorem run69 (g_Turn : Int) (g_NextId : Int) (g_Winner : Int) (g_Paused : Bool) (g_Rng : Int) (g_Rules_Units : List (List AVal)) (g_Rules_Weapons : List (List AVal)) (g_Rules_Techs : List (List AVal)) (g_Map_W : Int) (g_Map_H : Int) (g_Map_Cells : List (List AVal)) (g_Players : List (List AVal)) (g_Units : List (List AVal)) (g_Shots : List (List AVal)) (g_Memories : List (List AVal)) (g_Scripts : List (List AVal)) (id : Int) : fcall TT TU GL0 C48 ownF false L69 Try.f69 [(.agg [(.sc (.int .i64 g_Turn)), (.sc (.int .i64 g_NextId)), (.sc (.int .i64 g_Winner)), (.sc (.bool g_Paused)), (.sc (.int .u64 g_Rng)), (.ro 19 g_Rules_Units), (.ro 6 g_Rules_Weapons), (.ro 8 g_Rules_Techs), (.sc (.int .i64 g_Map_W)), (.sc (.int .i64 g_Map_H)), (.ro 3 g_Map_Cells), (.ro 6 g_Players), (.ro 12 g_Units), (.ro 9 g_Shots), (.ro 3 g_Memories), (.ro 4 g_Scripts)]), (.sc (.int .i64 id))] = (F_skirmishref22_Player g_Turn g_NextId g_Winner g_Paused g_Rng g_Rules_Units g_Rules_Weapons g_Rules_Techs g_Map_W g_Map_H g_Map_Cells g_Players g_Units g_Shots g_Memories g_Scripts id).bind fun t => some (enc69 t) :=
  Eq.trans (b := (Option.bind (G_skirmishref22_Player_0 id g_Players FU (0 : Int)) fun t => (bif t.1 then (some (CR.mk true (AVal.tup [(AVal.agg [(i64 t.2.1), (i64 t.2.2.1), (i64 t.2.2.2.1), (i64 t.2.2.2.2.1), (AVal.ro 1 t.2.2.2.2.2.1), (bo t.2.2.2.2.2.2)]), (bo true)]) [] [])) else (some (CR.mk true (AVal.tup [(AVal.agg [(i64 (0 : Int)), (i64 (0 : Int)), (i64 (0 : Int)), (i64 (0 : Int)), (AVal.ro 1 []), (bo false)]), (bo false)]) [] []))))) (by kernel_rfl)
    (n_bind fun t => (n_condH rfl (fun h0 => rfl) fun h0 => rfl))
theorem lib69 : Lib Try.prog GL0 C69 :=
  Lib.fn lib48 mixed TT_ok Try.func69 (by decide +kernel) (by kernel_rfl) false L69 (loops_of 1 (by kernel_rfl) (belowS below0 okL69_0)) ks69 (F := fun us => F_skirmishref22_Player (toI (cIa (aggL (cIa us 0)) 0)) (toI (cIa (aggL (cIa us 0)) 1)) (toI (cIa (aggL (cIa us 0)) 2)) (toB (cIa (aggL (cIa us 0)) 3)) (toI (cIa (aggL (cIa us 0)) 4)) (roRows (cIa (aggL (cIa us 0)) 5)) (roRows (cIa (aggL (cIa us 0)) 6)) (roRows (cIa (aggL (cIa us 0)) 7)) (toI (cIa (aggL (cIa us 0)) 8)) (toI (cIa (aggL (cIa us 0)) 9)) (roRows (cIa (aggL (cIa us 0)) 10)) (roRows (cIa (aggL (cIa us 0)) 11)) (roRows (cIa (aggL (cIa us 0)) 12)) (roRows (cIa (aggL (cIa us 0)) 13)) (roRows (cIa (aggL (cIa us 0)) 14)) (roRows (cIa (aggL (cIa us 0)) 15)) (toI (cIa us 1))) (fun us => rfl) (fun us => run69 (toI (cIa (aggL (cIa us 0)) 0)) (toI (cIa (aggL (cIa us 0)) 1)) (toI (cIa (aggL (cIa us 0)) 2)) (toB (cIa (aggL (cIa us 0)) 3)) (toI (cIa (aggL (cIa us 0)) 4)) (roRows (cIa (aggL (cIa us 0)) 5)) (roRows (cIa (aggL (cIa us 0)) 6)) (roRows (cIa (aggL (cIa us 0)) 7)) (toI (cIa (aggL (cIa us 0)) 8)) (toI (cIa (aggL (cIa us 0)) 9)) (roRows (cIa (aggL (cIa us 0)) 10)) (roRows (cIa (aggL (cIa us 0)) 11)) (roRows (cIa (aggL (cIa us 0)) 12)) (roRows (cIa (aggL (cIa us 0)) 13)) (roRows (cIa (aggL (cIa us 0)) 14)) (roRows (cIa (aggL (cIa us 0)) 15)) (toI (cIa us 1))) (fun t => rfl)

/-! ### 49: skirmish/skirmishref22.Techs -/



/-- 'skirmish/skirmishref22.Techs' -/
noncomputable def F_skirmishref22_Techs (g_Turn : Int) (g_NextId : Int) (g_Winner : Int) (g_Paused : Bool) (g_Rng : Int) (g_Rules_Units : List (List AVal)) (g_Rules_Weapons : List (List AVal)) (g_Rules_Techs : List (List AVal)) (g_Map_W : Int) (g_Map_H : Int) (g_Map_Cells : List (List AVal)) (g_Players : List (List AVal)) (g_Units : List (List AVal)) (g_Shots : List (List AVal)) (g_Memories : List (List AVal)) (g_Scripts : List (List AVal)) (id : Int) : Option (List (List AVal)) :=
  Option.bind (F_skirmishref22_Player g_Turn g_NextId g_Winner g_Paused g_Rng g_Rules_Units g_Rules_Weapons g_Rules_Techs g_Map_W g_Map_H g_Map_Cells g_Players g_Units g_Shots g_Memories g_Scripts id) fun t =>
  some t.2.2.2.2.1
noncomputable def enc49 (t : List (List AVal)) : CR := ⟨true, (.ro 1 t), [], []⟩
noncomputable def ks49 : List SK := [.agg [.int .i64, .int .i64, .int .i64, .bool, .int .u64, .ro 19, .ro 6, .ro 8, .int .i64, .int .i64, .ro 3, .ro 6, .ro 12, .ro 9, .ro 3, .ro 4], .f (.int .i64)]
noncomputable def S49 (us : List AVal) : Call := bif chkA ks49 us then Call.of (F_skirmishref22_Techs (toI (cIa (aggL (cIa us 0)) 0)) (toI (cIa (aggL (cIa us 0)) 1)) (toI (cIa (aggL (cIa us 0)) 2)) (toB (cIa (aggL (cIa us 0)) 3)) (toI (cIa (aggL (cIa us 0)) 4)) (roRows (cIa (aggL (cIa us 0)) 5)) (roRows (cIa (aggL (cIa us 0)) 6)) (roRows (cIa (aggL (cIa us 0)) 7)) (toI (cIa (aggL (cIa us 0)) 8)) (toI (cIa (aggL (cIa us 0)) 9)) (roRows (cIa (aggL (cIa us 0)) 10)) (roRows (cIa (aggL (cIa us 0)) 11)) (roRows (cIa (aggL (cIa us 0)) 12)) (roRows (cIa (aggL (cIa us 0)) 13)) (roRows (cIa (aggL (cIa us 0)) 14)) (roRows (cIa (aggL (cIa us 0)) 15)) (toI (cIa us 1))) enc49 else Call.none
noncomputable def C49 := AI.ext 49 S49 C69

theorem run49 (g_Turn : Int) (g_NextId : Int) (g_Winner : Int) (g_Paused : Bool) (g_Rng : Int) (g_Rules_Units : List (List AVal)) (g_Rules_Weapons : List (List AVal)) (g_Rules_Techs : List (List AVal)) (g_Map_W : Int) (g_Map_H : Int) (g_Map_Cells : List (List AVal)) (g_Players : List (List AVal)) (g_Units : List (List AVal)) (g_Shots : List (List AVal)) (g_Memories : List (List AVal)) (g_Scripts : List (List AVal)) (id : Int) : fcall TT TU GL0 C69 ownF false noL Try.f49 [(.agg [(.sc (.int .i64 g_Turn)), (.sc (.int .i64 g_NextId)), (.sc (.int .i64 g_Winner)), (.sc (.bool g_Paused)), (.sc (.int .u64 g_Rng)), (.ro 19 g_Rules_Units), (.ro 6 g_Rules_Weapons), (.ro 8 g_Rules_Techs), (.sc (.int .i64 g_Map_W)), (.sc (.int .i64 g_Map_H)), (.ro 3 g_Map_Cells), (.ro 6 g_Players), (.ro 12 g_Units), (.ro 9 g_Shots), (.ro 3 g_Memories), (.ro 4 g_Scripts)]), (.sc (.int .i64 id))] = (F_skirmishref22_Techs g_Turn g_NextId g_Winner g_Paused g_Rng g_Rules_Units g_Rules_Weapons g_Rules_Techs g_Map_W g_Map_H g_Map_Cells g_Players g_Units g_Shots g_Memories g_Scripts id).bind fun t => some (enc49 t) :=
  Eq.trans (b := (Option.bind (F_skirmishref22_Player g_Turn g_NextId g_Winner g_Paused g_Rng g_Rules_Units g_Rules_Weapons g_Rules_Techs g_Map_W g_Map_H g_Map_Cells g_Players g_Units g_Shots g_Memories g_Scripts id) fun t => (some (CR.mk true (AVal.ro 1 t.2.2.2.2.1) [] [])))) (by kernel_rfl)
    (n_bind fun t => rfl)
theorem lib49 : Lib Try.prog GL0 C49 :=
  Lib.fn lib69 mixed TT_ok Try.func49 (by decide +kernel) (by kernel_rfl) false noL (loops_of 0 (by kernel_rfl) below0) ks49 (F := fun us => F_skirmishref22_Techs (toI (cIa (aggL (cIa us 0)) 0)) (toI (cIa (aggL (cIa us 0)) 1)) (toI (cIa (aggL (cIa us 0)) 2)) (toB (cIa (aggL (cIa us 0)) 3)) (toI (cIa (aggL (cIa us 0)) 4)) (roRows (cIa (aggL (cIa us 0)) 5)) (roRows (cIa (aggL (cIa us 0)) 6)) (roRows (cIa (aggL (cIa us 0)) 7)) (toI (cIa (aggL (cIa us 0)) 8)) (toI (cIa (aggL (cIa us 0)) 9)) (roRows (cIa (aggL (cIa us 0)) 10)) (roRows (cIa (aggL (cIa us 0)) 11)) (roRows (cIa (aggL (cIa us 0)) 12)) (roRows (cIa (aggL (cIa us 0)) 13)) (roRows (cIa (aggL (cIa us 0)) 14)) (roRows (cIa (aggL (cIa us 0)) 15)) (toI (cIa us 1))) (fun us => rfl) (fun us => run49 (toI (cIa (aggL (cIa us 0)) 0)) (toI (cIa (aggL (cIa us 0)) 1)) (toI (cIa (aggL (cIa us 0)) 2)) (toB (cIa (aggL (cIa us 0)) 3)) (toI (cIa (aggL (cIa us 0)) 4)) (roRows (cIa (aggL (cIa us 0)) 5)) (roRows (cIa (aggL (cIa us 0)) 6)) (roRows (cIa (aggL (cIa us 0)) 7)) (toI (cIa (aggL (cIa us 0)) 8)) (toI (cIa (aggL (cIa us 0)) 9)) (roRows (cIa (aggL (cIa us 0)) 10)) (roRows (cIa (aggL (cIa us 0)) 11)) (roRows (cIa (aggL (cIa us 0)) 12)) (roRows (cIa (aggL (cIa us 0)) 13)) (roRows (cIa (aggL (cIa us 0)) 14)) (roRows (cIa (aggL (cIa us 0)) 15)) (toI (cIa us 1))) (fun t => rfl)

/-! ### 19: skirmish/skirmishref09.Unit -/

noncomputable def W19_0 : Ex → List Bool
  | .ret => [false, false, false, false, true, true, false, false, false, false, false, false, false, false, false, false, false, false, false, false, false, false, false, false, false, false, false, false]
  | .exit n => bif Nat.beq n 0 then [false, false, false, false, true, false, false, false, false, false, false, false, false, false, false, false, false, false, false, false, false, false, false, false, false, false, false, false] else []
  | .normal => []
noncomputable def G_skirmishref09_Unit_0 (name : ByteArray) (b0_0 : List (List AVal)) : Nat → Int → Option (Bool × ByteArray × Bool × Bool × Int × Int × Int × Int × Int × Int × Int × Int × Int × ByteArray × Int × Int × Int × List (List AVal) × List (List AVal) × List (List AVal))
  | 0, _ => none
  | m + 1, i =>
    bif (decide (i < (Int.ofNat b0_0.length))) then
      bif (decide ((0 : Int) ≤ i)) then
        Option.bind (b0_0[i.toNat]?) fun r =>
        bif (chk [LT.str, LT.bool, LT.bool, (LT.int IntKind.i64), (LT.int IntKind.i64), (LT.int IntKind.i64), (LT.int IntKind.i64), (LT.int IntKind.i64), (LT.int IntKind.i64), (LT.int IntKind.i64), (LT.int IntKind.i64), (LT.int IntKind.i64), LT.str, (LT.int IntKind.i64), (LT.int IntKind.i64), (LT.int IntKind.i64), (LT.sl 9 1), (LT.sl 9 1), (LT.sl 9 1)] r) then
          bif (List.beq (ByteArray.toList (cS r 0)) (ByteArray.toList name)) then
            Option.bind (b0_0[i.toNat]?) fun r1 =>
            bif (chk [LT.str, LT.bool, LT.bool, (LT.int IntKind.i64), (LT.int IntKind.i64), (LT.int IntKind.i64), (LT.int IntKind.i64), (LT.int IntKind.i64), (LT.int IntKind.i64), (LT.int IntKind.i64), (LT.int IntKind.i64), (LT.int IntKind.i64), LT.str, (LT.int IntKind.i64), (LT.int IntKind.i64), (LT.int IntKind.i64), (LT.sl 9 1), (LT.sl 9 1), (LT.sl 9 1)] r1) then
              some (true, (cS r1 0), (cB r1 1), (cB r1 2), (cI r1 3), (cI r1 4), (cI r1 5), (cI r1 6), (cI r1 7), (cI r1 8), (cI r1 9), (cI r1 10), (cI r1 11), (cS r1 12), (cI r1 13), (cI r1 14), (cI r1 15), (cR r1 16), (cR r1 17), (cR r1 18))
            else
            none
          else
          G_skirmishref09_Unit_0 name b0_0 m (wr (i + (1 : Int)))
        else
        none
      else
      none
    else
    some (false, ⟨#[]⟩, false, false, 0, 0, 0, 0, 0, 0, 0, 0, 0, ⟨#[]⟩, 0, 0, 0, [], [], [])
noncomputable def E19_0 (name : ByteArray) (i : Int) (b0_0 : List (List AVal)) (b0_1 : List (List AVal)) (b0_2 : List (List AVal)) (b1_0 : ByteArray) (b1_1 : Bool) (b1_2 : Bool) (b1_3 : Int) (b1_4 : Int) (b1_5 : Int) (b1_6 : Int) (b1_7 : Int) (b1_8 : Int) (b1_9 : Int) (b1_10 : Int) (b1_11 : Int) (b1_12 : ByteArray) (b1_13 : Int) (b1_14 : Int) (b1_15 : Int) : St := ⟨[.dead, (.sc (.string name)), (.ref 16000 1 0 0), .dead, (.ref 16016 1 0 0), .dead, (.sc (.int .i64 i)), .dead, .dead, .dead, .dead, .dead, .dead, .dead, .dead, .dead, .dead, .dead, .dead, .dead, .dead, .dead, .dead, .dead, .dead, .dead, .dead, .dead], [(16000, ⟨.box, 26, 3, [[(.ro 19 b0_0), (.ro 6 b0_1), (.ro 8 b0_2)]]⟩), (16016, ⟨.box, 43, 19, [[(.sc (.string b1_0)), (.sc (.bool b1_1)), (.sc (.bool b1_2)), (.sc (.int .i64 b1_3)), (.sc (.int .i64 b1_4)), (.sc (.int .i64 b1_5)), (.sc (.int .i64 b1_6)), (.sc (.int .i64 b1_7)), (.sc (.int .i64 b1_8)), (.sc (.int .i64 b1_9)), (.sc (.int .i64 b1_10)), (.sc (.int .i64 b1_11)), (.sc (.string b1_12)), (.sc (.int .i64 b1_13)), (.sc (.int .i64 b1_14)), (.sc (.int .i64 b1_15)), .emp, .emp, .emp]]⟩)]⟩
noncomputable def X19_0 (b1_0 : ByteArray) (b1_1 : Bool) (b1_2 : Bool) (b1_3 : Int) (b1_4 : Int) (b1_5 : Int) (b1_6 : Int) (b1_7 : Int) (b1_8 : Int) (b1_9 : Int) (b1_10 : Int) (b1_11 : Int) (b1_12 : ByteArray) (b1_13 : Int) (b1_14 : Int) (b1_15 : Int) (k : Ex → St → Option CR) (t : Bool × ByteArray × Bool × Bool × Int × Int × Int × Int × Int × Int × Int × Int × Int × ByteArray × Int × Int × Int × List (List AVal) × List (List AVal) × List (List AVal)) : Option CR := bif t.1 then k .ret ⟨[.dead, .dead, .dead, .dead, (.ref 16016 1 0 0), (.sc (.bool true)), .dead, .dead, .dead, .dead, .dead, .dead, .dead, .dead, .dead, .dead, .dead, .dead, .dead, .dead, .dead, .dead, .dead, .dead, .dead, .dead, .dead, .dead], [(16016, ⟨.box, 43, 19, [[(.sc (.string t.2.1)), (.sc (.bool t.2.2.1)), (.sc (.bool t.2.2.2.1)), (.sc (.int .i64 t.2.2.2.2.1)), (.sc (.int .i64 t.2.2.2.2.2.1)), (.sc (.int .i64 t.2.2.2.2.2.2.1)), (.sc (.int .i64 t.2.2.2.2.2.2.2.1)), (.sc (.int .i64 t.2.2.2.2.2.2.2.2.1)), (.sc (.int .i64 t.2.2.2.2.2.2.2.2.2.1)), (.sc (.int .i64 t.2.2.2.2.2.2.2.2.2.2.1)), (.sc (.int .i64 t.2.2.2.2.2.2.2.2.2.2.2.1)), (.sc (.int .i64 t.2.2.2.2.2.2.2.2.2.2.2.2.1)), (.sc (.string t.2.2.2.2.2.2.2.2.2.2.2.2.2.1)), (.sc (.int .i64 t.2.2.2.2.2.2.2.2.2.2.2.2.2.2.1)), (.sc (.int .i64 t.2.2.2.2.2.2.2.2.2.2.2.2.2.2.2.1)), (.sc (.int .i64 t.2.2.2.2.2.2.2.2.2.2.2.2.2.2.2.2.1)), (.ro 1 t.2.2.2.2.2.2.2.2.2.2.2.2.2.2.2.2.2.1), (.ro 1 t.2.2.2.2.2.2.2.2.2.2.2.2.2.2.2.2.2.2.1), (.ro 1 t.2.2.2.2.2.2.2.2.2.2.2.2.2.2.2.2.2.2.2)]]⟩)]⟩ else k (.exit 0) ⟨[.dead, .dead, .dead, .dead, (.ref 16016 1 0 0), .dead, .dead, .dead, .dead, .dead, .dead, .dead, .dead, .dead, .dead, .dead, .dead, .dead, .dead, .dead, .dead, .dead, .dead, .dead, .dead, .dead, .dead, .dead], [(16016, ⟨.box, 43, 19, [[(.sc (.string b1_0)), (.sc (.bool b1_1)), (.sc (.bool b1_2)), (.sc (.int .i64 b1_3)), (.sc (.int .i64 b1_4)), (.sc (.int .i64 b1_5)), (.sc (.int .i64 b1_6)), (.sc (.int .i64 b1_7)), (.sc (.int .i64 b1_8)), (.sc (.int .i64 b1_9)), (.sc (.int .i64 b1_10)), (.sc (.int .i64 b1_11)), (.sc (.string b1_12)), (.sc (.int .i64 b1_13)), (.sc (.int .i64 b1_14)), (.sc (.int .i64 b1_15)), .emp, .emp, .emp]]⟩)]⟩
noncomputable def ks19_0 : List SK := [.f .dead, .f (.str), .f (.ref 16000 1 0 0), .f .dead, .f (.ref 16016 1 0 0), .f .dead, .f (.int .i64), .f .dead, .f .dead, .f .dead, .f .dead, .f .dead, .f .dead, .f .dead, .f .dead, .f .dead, .f .dead, .f .dead, .f .dead, .f .dead, .f .dead, .f .dead, .f .dead, .f .dead, .f .dead, .f .dead, .f .dead, .f .dead]
noncomputable def hs19_0 : List HK := [⟨16000, .box, 26, 3, some [.ro 19, .ro 6, .ro 8]⟩, ⟨16016, .box, 43, 19, some [.str, .bool, .bool, .int .i64, .int .i64, .int .i64, .int .i64, .int .i64, .int .i64, .int .i64, .int .i64, .int .i64, .str, .int .i64, .int .i64, .int .i64, .emp, .emp, .emp]⟩]
noncomputable def Lm19_0 (s : St) (k : Ex → St → Option CR) : Option CR := bif chkS ks19_0 hs19_0 s then (G_skirmishref09_Unit_0 (toS (cIa s.tmps 1)) (roRows (cIa (rows0 (blkAt s.heap 0).2) 0)) FU (toI (cIa s.tmps 6))).bind (X19_0 (toS (cIa (rows0 (blkAt s.heap 1).2) 0)) (toB (cIa (rows0 (blkAt s.heap 1).2) 1)) (toB (cIa (rows0 (blkAt s.heap 1).2) 2)) (toI (cIa (rows0 (blkAt s.heap 1).2) 3)) (toI (cIa (rows0 (blkAt s.heap 1).2) 4)) (toI (cIa (rows0 (blkAt s.heap 1).2) 5)) (toI (cIa (rows0 (blkAt s.heap 1).2) 6)) (toI (cIa (rows0 (blkAt s.heap 1).2) 7)) (toI (cIa (rows0 (blkAt s.heap 1).2) 8)) (toI (cIa (rows0 (blkAt s.heap 1).2) 9)) (toI (cIa (rows0 (blkAt s.heap 1).2) 10)) (toI (cIa (rows0 (blkAt s.heap 1).2) 11)) (toS (cIa (rows0 (blkAt s.heap 1).2) 12)) (toI (cIa (rows0 (blkAt s.heap 1).2) 13)) (toI (cIa (rows0 (blkAt s.heap 1).2) 14)) (toI (cIa (rows0 (blkAt s.heap 1).2) 15)) k) else none
noncomputable def L19_0 (s : St) (k : Ex → St → Option CR) : Option CR := Lm19_0 (maskS (maskOf ks19_0) s) k

noncomputable def L19 : LT' := fun i s k => bif Nat.beq i 0 then L19_0 s k else none

/-- 'skirmish/skirmishref09.Unit' -/
noncomputable def F_skirmishref09_Unit (r_Units : List (List AVal)) (r_Weapons : List (List AVal)) (r_Techs : List (List AVal)) (name : ByteArray) : Option (ByteArray × Bool × Bool × Int × Int × Int × Int × Int × Int × Int × Int × Int × ByteArray × Int × Int × Int × List (List AVal) × List (List AVal) × List (List AVal) × Bool) :=
  Option.bind (G_skirmishref09_Unit_0 name r_Units FU (0 : Int)) fun t =>
  bif t.1 then
    some (t.2.1, t.2.2.1, t.2.2.2.1, t.2.2.2.2.1, t.2.2.2.2.2.1, t.2.2.2.2.2.2.1, t.2.2.2.2.2.2.2.1, t.2.2.2.2.2.2.2.2.1, t.2.2.2.2.2.2.2.2.2.1, t.2.2.2.2.2.2.2.2.2.2.1, t.2.2.2.2.2.2.2.2.2.2.2.1, t.2.2.2.2.2.2.2.2.2.2.2.2.1, t.2.2.2.2.2.2.2.2.2.2.2.2.2.1, t.2.2.2.2.2.2.2.2.2.2.2.2.2.2.1, t.2.2.2.2.2.2.2.2.2.2.2.2.2.2.2.1, t.2.2.2.2.2.2.2.2.2.2.2.2.2.2.2.2.1, t.2.2.2.2.2.2.2.2.2.2.2.2.2.2.2.2.2.1, t.2.2.2.2.2.2.2.2.2.2.2.2.2.2.2.2.2.2.1, t.2.2.2.2.2.2.2.2.2.2.2.2.2.2.2.2.2.2.2, true)
  else
  some ((ByteArray.mk (Array.mk [])), false, false, (0 : Int), (0 : Int), (0 : Int), (0 : Int), (0 : Int), (0 : Int), (0 : Int), (0 : Int), (0 : Int), (ByteArray.mk (Array.mk [])), (0 : Int), (0 : Int), (0 : Int), [], [], [], false)
noncomputable def enc19 (t : ByteArray × Bool × Bool × Int × Int × Int × Int × Int × Int × Int × Int × Int × ByteArray × Int × Int × Int × List (List AVal) × List (List AVal) × List (List AVal) × Bool) : CR := ⟨true, (.tup [(.agg [(.sc (.string t.1)), (.sc (.bool t.2.1)), (.sc (.bool t.2.2.1)), (.sc (.int .i64 t.2.2.2.1)), (.sc (.int .i64 t.2.2.2.2.1)), (.sc (.int .i64 t.2.2.2.2.2.1)), (.sc (.int .i64 t.2.2.2.2.2.2.1)), (.sc (.int .i64 t.2.2.2.2.2.2.2.1)), (.sc (.int .i64 t.2.2.2.2.2.2.2.2.1)), (.sc (.int .i64 t.2.2.2.2.2.2.2.2.2.1)), (.sc (.int .i64 t.2.2.2.2.2.2.2.2.2.2.1)), (.sc (.int .i64 t.2.2.2.2.2.2.2.2.2.2.2.1)), (.sc (.string t.2.2.2.2.2.2.2.2.2.2.2.2.1)), (.sc (.int .i64 t.2.2.2.2.2.2.2.2.2.2.2.2.2.1)), (.sc (.int .i64 t.2.2.2.2.2.2.2.2.2.2.2.2.2.2.1)), (.sc (.int .i64 t.2.2.2.2.2.2.2.2.2.2.2.2.2.2.2.1)), (.ro 1 t.2.2.2.2.2.2.2.2.2.2.2.2.2.2.2.2.1), (.ro 1 t.2.2.2.2.2.2.2.2.2.2.2.2.2.2.2.2.2.1), (.ro 1 t.2.2.2.2.2.2.2.2.2.2.2.2.2.2.2.2.2.2.1)]), (.sc (.bool t.2.2.2.2.2.2.2.2.2.2.2.2.2.2.2.2.2.2.2))]), [], []⟩
noncomputable def ks19 : List SK := [.agg [.ro 19, .ro 6, .ro 8], .f (.str)]
noncomputable def S19 (us : List AVal) : Call := bif chkA ks19 us then Call.of (F_skirmishref09_Unit (roRows (cIa (aggL (cIa us 0)) 0)) (roRows (cIa (aggL (cIa us 0)) 1)) (roRows (cIa (aggL (cIa us 0)) 2)) (toS (cIa us 1))) enc19 else Call.none
noncomputable def C19 := AI.ext 19 S19 C49

@[reducible] noncomputable def B19_0 := bodyOf TT TU GL0 C49 ownF L19 (lp Try.f19 0)
@[reducible] noncomputable def K19_0 (k : Ex → St → Option CR) : Ex → St → Option CR := fun e s => k e (maskS (W19_0 e) s)
theorem spec19_0 (k : Ex → St → Option CR) : ∀ (m : Nat) (name : ByteArray) (i : Int) (b0_0 : List (List AVal)) (b0_1 : List (List AVal)) (b0_2 : List (List AVal)) (b1_0 : ByteArray) (b1_1 : Bool) (b1_2 : Bool) (b1_3 : Int) (b1_4 : Int) (b1_5 : Int) (b1_6 : Int) (b1_7 : Int) (b1_8 : Int) (b1_9 : Int) (b1_10 : Int) (b1_11 : Int) (b1_12 : ByteArray) (b1_13 : Int) (b1_14 : Int) (b1_15 : Int), loopN B19_0 m (E19_0 name i b0_0 b0_1 b0_2 b1_0 b1_1 b1_2 b1_3 b1_4 b1_5 b1_6 b1_7 b1_8 b1_9 b1_10 b1_11 b1_12 b1_13 b1_14 b1_15) (K19_0 k) = (G_skirmishref09_Unit_0 name b0_0 m i).bind (X19_0 b1_0 b1_1 b1_2 b1_3 b1_4 b1_5 b1_6 b1_7 b1_8 b1_9 b1_10 b1_11 b1_12 b1_13 b1_14 b1_15 k)
  | 0, _, _, _, _, _, _, _, _, _, _, _, _, _, _, _, _, _, _, _, _, _ => rfl
  | m + 1, name, i, b0_0, b0_1, b0_2, b1_0, b1_1, b1_2, b1_3, b1_4, b1_5, b1_6, b1_7, b1_8, b1_9, b1_10, b1_11, b1_12, b1_13, b1_14, b1_15 =>
    Eq.trans (b := (bif (decide (i < (Int.ofNat b0_0.length))) then (bif (decide ((0 : Int) ≤ i)) then (Option.bind (b0_0[i.toNat]?) fun r => (bif (chk [LT.str, LT.bool, LT.bool, (LT.int IntKind.i64), (LT.int IntKind.i64), (LT.int IntKind.i64), (LT.int IntKind.i64), (LT.int IntKind.i64), (LT.int IntKind.i64), (LT.int IntKind.i64), (LT.int IntKind.i64), (LT.int IntKind.i64), LT.str, (LT.int IntKind.i64), (LT.int IntKind.i64), (LT.int IntKind.i64), (LT.sl 9 1), (LT.sl 9 1), (LT.sl 9 1)] r) then (bif (List.beq (ByteArray.toList (cS r 0)) (ByteArray.toList name)) then (bif (decide ((0 : Int) ≤ i)) then (Option.bind (b0_0[i.toNat]?) fun r1 => (bif (chk [LT.str, LT.bool, LT.bool, (LT.int IntKind.i64), (LT.int IntKind.i64), (LT.int IntKind.i64), (LT.int IntKind.i64), (LT.int IntKind.i64), (LT.int IntKind.i64), (LT.int IntKind.i64), (LT.int IntKind.i64), (LT.int IntKind.i64), LT.str, (LT.int IntKind.i64), (LT.int IntKind.i64), (LT.int IntKind.i64), (LT.sl 9 1), (LT.sl 9 1), (LT.sl 9 1)] r1) then (k .ret ⟨[.dead, .dead, .dead, .dead, (AVal.ref 16016 1 0 0), (bo true), .dead, .dead, .dead, .dead, .dead, .dead, .dead, .dead, .dead, .dead, .dead, .dead, .dead, .dead, .dead, .dead, .dead, .dead, .dead, .dead, .dead, .dead], [(Prod.mk 16016 (Blk.mk BKind.box 43 19 [[(AVal.sc (Value.string (cS r1 0))), (bo (cB r1 1)), (bo (cB r1 2)), (i64 (cI r1 3)), (i64 (cI r1 4)), (i64 (cI r1 5)), (i64 (cI r1 6)), (i64 (cI r1 7)), (i64 (cI r1 8)), (i64 (cI r1 9)), (i64 (cI r1 10)), (i64 (cI r1 11)), (AVal.sc (Value.string (cS r1 12))), (i64 (cI r1 13)), (i64 (cI r1 14)), (i64 (cI r1 15)), (AVal.ro 1 (cR r1 16)), (AVal.ro 1 (cR r1 17)), (AVal.ro 1 (cR r1 18))]]))]⟩) else none)) else none) else (loopN B19_0 m ⟨[.dead, (AVal.sc (Value.string name)), (AVal.ref 16000 1 0 0), .dead, (AVal.ref 16016 1 0 0), .dead, (i64 (wr (i + (1 : Int)))), .dead, .dead, .dead, .dead, .dead, .dead, .dead, .dead, .dead, .dead, .dead, .dead, .dead, .dead, .dead, .dead, .dead, .dead, .dead, .dead, .dead], [(Prod.mk 16000 (Blk.mk BKind.box 26 3 [[(AVal.ro 19 b0_0), (AVal.ro 6 b0_1), (AVal.ro 8 b0_2)]])), (Prod.mk 16016 (Blk.mk BKind.box 43 19 [[(AVal.sc (Value.string b1_0)), (bo b1_1), (bo b1_2), (i64 b1_3), (i64 b1_4), (i64 b1_5), (i64 b1_6), (i64 b1_7), (i64 b1_8), (i64 b1_9), (i64 b1_10), (i64 b1_11), (AVal.sc (Value.string b1_12)), (i64 b1_13), (i64 b1_14), (i64 b1_15), AVal.emp, AVal.emp, AVal.emp]]))]⟩ (K19_0 k))) else none)) else none) else (k (.exit 0) ⟨[.dead, .dead, .dead, .dead, (AVal.ref 16016 1 0 0), .dead, .dead, .dead, .dead, .dead, .dead, .dead, .dead, .dead, .dead, .dead, .dead, .dead, .dead, .dead, .dead, .dead, .dead, .dead, .dead, .dead, .dead, .dead], [(Prod.mk 16016 (Blk.mk BKind.box 43 19 [[(AVal.sc (Value.string b1_0)), (bo b1_1), (bo b1_2), (i64 b1_3), (i64 b1_4), (i64 b1_5), (i64 b1_6), (i64 b1_7), (i64 b1_8), (i64 b1_9), (i64 b1_10), (i64 b1_11), (AVal.sc (Value.string b1_12)), (i64 b1_13), (i64 b1_14), (i64 b1_15), AVal.emp, AVal.emp, AVal.emp]]))]⟩))) (by kernel_rfl)
      (n_condH rfl (fun h0 => (n_condH rfl (fun h1 => (n_bind fun r => (n_condH rfl (fun h2 => (n_condH rfl (fun h3 => (n_true h1 (n_bind fun r1 => (n_condH rfl (fun h4 => rfl) fun h4 => n_none)))) fun h3 => (spec19_0 k m name (wr (i + (1 : Int))) b0_0 b0_1 b0_2 b1_0 b1_1 b1_2 b1_3 b1_4 b1_5 b1_6 b1_7 b1_8 b1_9 b1_10 b1_11 b1_12 b1_13 b1_14 b1_15))) fun h2 => n_none))) fun h1 => n_none)) fun h0 => rfl)
theorem okL19_0 : LoopOk TT TU GL0 C49 ownF L19 (lp Try.f19 0) :=
  loopOk_of ks19_0 hs19_0 W19_0 FU (fun s k => (G_skirmishref09_Unit_0 (toS (cIa s.tmps 1)) (roRows (cIa (rows0 (blkAt s.heap 0).2) 0)) FU (toI (cIa s.tmps 6))).bind (X19_0 (toS (cIa (rows0 (blkAt s.heap 1).2) 0)) (toB (cIa (rows0 (blkAt s.heap 1).2) 1)) (toB (cIa (rows0 (blkAt s.heap 1).2) 2)) (toI (cIa (rows0 (blkAt s.heap 1).2) 3)) (toI (cIa (rows0 (blkAt s.heap 1).2) 4)) (toI (cIa (rows0 (blkAt s.heap 1).2) 5)) (toI (cIa (rows0 (blkAt s.heap 1).2) 6)) (toI (cIa (rows0 (blkAt s.heap 1).2) 7)) (toI (cIa (rows0 (blkAt s.heap 1).2) 8)) (toI (cIa (rows0 (blkAt s.heap 1).2) 9)) (toI (cIa (rows0 (blkAt s.heap 1).2) 10)) (toI (cIa (rows0 (blkAt s.heap 1).2) 11)) (toS (cIa (rows0 (blkAt s.heap 1).2) 12)) (toI (cIa (rows0 (blkAt s.heap 1).2) 13)) (toI (cIa (rows0 (blkAt s.heap 1).2) 14)) (toI (cIa (rows0 (blkAt s.heap 1).2) 15)) k)) (fun s k => by kernel_rfl) (fun s k => spec19_0 k FU (toS (cIa s.tmps 1)) (toI (cIa s.tmps 6)) (roRows (cIa (rows0 (blkAt s.heap 0).2) 0)) (roRows (cIa (rows0 (blkAt s.heap 0).2) 1)) (roRows (cIa (rows0 (blkAt s.heap 0).2) 2)) (toS (cIa (rows0 (blkAt s.heap 1).2) 0)) (toB (cIa (rows0 (blkAt s.heap 1).2) 1)) (toB (cIa (rows0 (blkAt s.heap 1).2) 2)) (toI (cIa (rows0 (blkAt s.heap 1).2) 3)) (toI (cIa (rows0 (blkAt s.heap 1).2) 4)) (toI (cIa (rows0 (blkAt s.heap 1).2) 5)) (toI (cIa (rows0 (blkAt s.heap 1).2) 6)) (toI (cIa (rows0 (blkAt s.heap 1).2) 7)) (toI (cIa (rows0 (blkAt s.heap 1).2) 8)) (toI (cIa (rows0 (blkAt s.heap 1).2) 9)) (toI (cIa (rows0 (blkAt s.heap 1).2) 10)) (toI (cIa (rows0 (blkAt s.heap 1).2) 11)) (toS (cIa (rows0 (blkAt s.heap 1).2) 12)) (toI (cIa (rows0 (blkAt s.heap 1).2) 13)) (toI (cIa (rows0 (blkAt s.heap 1).2) 14)) (toI (cIa (rows0 (blkAt s.heap 1).2) 15)))
theorem run19 (r_Units : List (List AVal)) (r_Weapons : List (List AVal)) (r_Techs : List (List AVal)) (name : ByteArray) : fcall TT TU GL0 C49 ownF false L19 Try.f19 [(.agg [(.ro 19 r_Units), (.ro 6 r_Weapons), (.ro 8 r_Techs)]), (.sc (.string name))] = (F_skirmishref09_Unit r_Units r_Weapons r_Techs name).bind fun t => some (enc19 t) :=
  Eq.trans (b := (Option.bind (G_skirmishref09_Unit_0 name r_Units FU (0 : Int)) fun t => (bif t.1 then (some (CR.mk true (AVal.tup [(AVal.agg [(AVal.sc (Value.string t.2.1)), (bo t.2.2.1), (bo t.2.2.2.1), (i64 t.2.2.2.2.1), (i64 t.2.2.2.2.2.1), (i64 t.2.2.2.2.2.2.1), (i64 t.2.2.2.2.2.2.2.1), (i64 t.2.2.2.2.2.2.2.2.1), (i64 t.2.2.2.2.2.2.2.2.2.1), (i64 t.2.2.2.2.2.2.2.2.2.2.1), (i64 t.2.2.2.2.2.2.2.2.2.2.2.1), (i64 t.2.2.2.2.2.2.2.2.2.2.2.2.1), (AVal.sc (Value.string t.2.2.2.2.2.2.2.2.2.2.2.2.2.1)), (i64 t.2.2.2.2.2.2.2.2.2.2.2.2.2.2.1), (i64 t.2.2.2.2.2.2.2.2.2.2.2.2.2.2.2.1), (i64 t.2.2.2.2.2.2.2.2.2.2.2.2.2.2.2.2.1), (AVal.ro 1 t.2.2.2.2.2.2.2.2.2.2.2.2.2.2.2.2.2.1), (AVal.ro 1 t.2.2.2.2.2.2.2.2.2.2.2.2.2.2.2.2.2.2.1), (AVal.ro 1 t.2.2.2.2.2.2.2.2.2.2.2.2.2.2.2.2.2.2.2)]), (bo true)]) [] [])) else (some (CR.mk true (AVal.tup [(AVal.agg [(AVal.sc (Value.string (ByteArray.mk (Array.mk [])))), (bo false), (bo false), (i64 (0 : Int)), (i64 (0 : Int)), (i64 (0 : Int)), (i64 (0 : Int)), (i64 (0 : Int)), (i64 (0 : Int)), (i64 (0 : Int)), (i64 (0 : Int)), (i64 (0 : Int)), (AVal.sc (Value.string (ByteArray.mk (Array.mk [])))), (i64 (0 : Int)), (i64 (0 : Int)), (i64 (0 : Int)), (AVal.ro 1 []), (AVal.ro 1 []), (AVal.ro 1 [])]), (bo false)]) [] []))))) (by kernel_rfl)
    (n_bind fun t => (n_condH rfl (fun h0 => rfl) fun h0 => rfl))
theorem lib19 : Lib Try.prog GL0 C19 :=
  Lib.fn lib49 mixed TT_ok Try.func19 (by decide +kernel) (by kernel_rfl) false L19 (loops_of 1 (by kernel_rfl) (belowS below0 okL19_0)) ks19 (F := fun us => F_skirmishref09_Unit (roRows (cIa (aggL (cIa us 0)) 0)) (roRows (cIa (aggL (cIa us 0)) 1)) (roRows (cIa (aggL (cIa us 0)) 2)) (toS (cIa us 1))) (fun us => rfl) (fun us => run19 (roRows (cIa (aggL (cIa us 0)) 0)) (roRows (cIa (aggL (cIa us 0)) 1)) (roRows (cIa (aggL (cIa us 0)) 2)) (toS (cIa us 1))) (fun t => rfl)

/-! ### 34: skirmish/skirmishref22.with -/



/-- 'skirmish/skirmishref22.with' -/
noncomputable def F_skirmishref22_with (n : Int) (bonus : Int) (lo : Int) (hi : Int) : Option (Int) :=
  Option.bind (F_skirmishref01_Clamp n (-(4611686018427387904 : Int)) (4611686018427387904 : Int)) fun t =>
  Option.bind (F_skirmishref01_Clamp (wr (t + bonus)) lo hi) fun t1 =>
  some t1
noncomputable def enc34 (t : Int) : CR := ⟨true, (.sc (.int .i64 t)), [], []⟩
noncomputable def ks34 : List SK := [.f (.int .i64), .f (.int .i64), .f (.int .i64), .f (.int .i64)]
noncomputable def S34 (us : List AVal) : Call := bif chkA ks34 us then Call.of (F_skirmishref22_with (toI (cIa us 0)) (toI (cIa us 1)) (toI (cIa us 2)) (toI (cIa us 3))) enc34 else Call.none
noncomputable def C34 := AI.ext 34 S34 C19

theorem run34 (n : Int) (bonus : Int) (lo : Int) (hi : Int) : fcall TT TU GL0 C19 ownF true noL Try.f34 [(.sc (.int .i64 n)), (.sc (.int .i64 bonus)), (.sc (.int .i64 lo)), (.sc (.int .i64 hi))] = (F_skirmishref22_with n bonus lo hi).bind fun t => some (enc34 t) :=
  Eq.trans (b := (Option.bind (F_skirmishref01_Clamp n (-(4611686018427387904 : Int)) (4611686018427387904 : Int)) fun t => (Option.bind (F_skirmishref01_Clamp (wr (t + bonus)) lo hi) fun t1 => (some (CR.mk true (i64 t1) [] []))))) (by kernel_rfl)
    (n_bind fun t => (n_bind fun t1 => rfl))
theorem lib34 : Lib Try.prog GL0 C34 :=
  Lib.fn lib19 mixed TT_ok Try.func34 (by decide +kernel) (by kernel_rfl) true noL (loops_of 0 (by kernel_rfl) below0) ks34 (F := fun us => F_skirmishref22_with (toI (cIa us 0)) (toI (cIa us 1)) (toI (cIa us 2)) (toI (cIa us 3))) (fun us => rfl) (fun us => run34 (toI (cIa us 0)) (toI (cIa us 1)) (toI (cIa us 2)) (toI (cIa us 3))) (fun t => rfl)

/-! ### 17: skirmish/skirmishref22.Type -/



/-- 'skirmish/skirmishref22.Type' -/
noncomputable def F_skirmishref22_Type (r_Units : List (List AVal)) (r_Weapons : List (List AVal)) (r_Techs : List (List AVal)) (techs : List (List AVal)) (unit : ByteArray) : Option (ByteArray × Bool × Bool × Int × Int × Int × Int × Int × Int × Int × Int × Int × ByteArray × Int × Int × Int × List (List AVal) × List (List AVal) × List (List AVal) × Bool) :=
  Option.bind (F_skirmishref09_Unit r_Units r_Weapons r_Techs unit) fun t =>
  bif (!t.2.2.2.2.2.2.2.2.2.2.2.2.2.2.2.2.2.2.2) then
    some ((ByteArray.mk (Array.mk [])), false, false, (0 : Int), (0 : Int), (0 : Int), (0 : Int), (0 : Int), (0 : Int), (0 : Int), (0 : Int), (0 : Int), (ByteArray.mk (Array.mk [])), (0 : Int), (0 : Int), (0 : Int), [], [], [], false)
  else
  Option.bind (F_skirmishref22_Stat r_Units r_Weapons r_Techs techs unit (1 : Int)) fun t1 =>
  Option.bind (F_skirmishref22_with t.2.2.2.2.2.2.2.2.2.1 t1 (1 : Int) (100000 : Int)) fun t2 =>
  Option.bind (F_skirmishref22_Stat r_Units r_Weapons r_Techs techs unit (2 : Int)) fun t3 =>
  Option.bind (F_skirmishref22_with t.2.2.2.2.2.2.2.2.2.2.1 t3 (0 : Int) (100000 : Int)) fun t4 =>
  Option.bind (F_skirmishref22_Stat r_Units r_Weapons r_Techs techs unit (3 : Int)) fun t5 =>
  Option.bind (F_skirmishref22_with t.2.2.2.2.2.2.2.1 t5 (0 : Int) (256 : Int)) fun t6 =>
  Option.bind (F_skirmishref22_Stat r_Units r_Weapons r_Techs techs unit (4 : Int)) fun t7 =>
  Option.bind (F_skirmishref22_with t.2.2.2.2.2.2.2.2.1 t7 (0 : Int) (16 : Int)) fun t8 =>
  some (t.1, t.2.1, t.2.2.1, t.2.2.2.1, t.2.2.2.2.1, t.2.2.2.2.2.1, t.2.2.2.2.2.2.1, t6, t8, t2, t4, t.2.2.2.2.2.2.2.2.2.2.2.1, t.2.2.2.2.2.2.2.2.2.2.2.2.1, t.2.2.2.2.2.2.2.2.2.2.2.2.2.1, t.2.2.2.2.2.2.2.2.2.2.2.2.2.2.1, t.2.2.2.2.2.2.2.2.2.2.2.2.2.2.2.1, t.2.2.2.2.2.2.2.2.2.2.2.2.2.2.2.2.1, t.2.2.2.2.2.2.2.2.2.2.2.2.2.2.2.2.2.1, t.2.2.2.2.2.2.2.2.2.2.2.2.2.2.2.2.2.2.1, true)
noncomputable def enc17 (t : ByteArray × Bool × Bool × Int × Int × Int × Int × Int × Int × Int × Int × Int × ByteArray × Int × Int × Int × List (List AVal) × List (List AVal) × List (List AVal) × Bool) : CR := ⟨true, (.tup [(.agg [(.sc (.string t.1)), (.sc (.bool t.2.1)), (.sc (.bool t.2.2.1)), (.sc (.int .i64 t.2.2.2.1)), (.sc (.int .i64 t.2.2.2.2.1)), (.sc (.int .i64 t.2.2.2.2.2.1)), (.sc (.int .i64 t.2.2.2.2.2.2.1)), (.sc (.int .i64 t.2.2.2.2.2.2.2.1)), (.sc (.int .i64 t.2.2.2.2.2.2.2.2.1)), (.sc (.int .i64 t.2.2.2.2.2.2.2.2.2.1)), (.sc (.int .i64 t.2.2.2.2.2.2.2.2.2.2.1)), (.sc (.int .i64 t.2.2.2.2.2.2.2.2.2.2.2.1)), (.sc (.string t.2.2.2.2.2.2.2.2.2.2.2.2.1)), (.sc (.int .i64 t.2.2.2.2.2.2.2.2.2.2.2.2.2.1)), (.sc (.int .i64 t.2.2.2.2.2.2.2.2.2.2.2.2.2.2.1)), (.sc (.int .i64 t.2.2.2.2.2.2.2.2.2.2.2.2.2.2.2.1)), (.ro 1 t.2.2.2.2.2.2.2.2.2.2.2.2.2.2.2.2.1), (.ro 1 t.2.2.2.2.2.2.2.2.2.2.2.2.2.2.2.2.2.1), (.ro 1 t.2.2.2.2.2.2.2.2.2.2.2.2.2.2.2.2.2.2.1)]), (.sc (.bool t.2.2.2.2.2.2.2.2.2.2.2.2.2.2.2.2.2.2.2))]), [], []⟩
noncomputable def ks17 : List SK := [.agg [.ro 19, .ro 6, .ro 8], .f (.ro 1), .f (.str)]
noncomputable def S17 (us : List AVal) : Call := bif chkA ks17 us then Call.of (F_skirmishref22_Type (roRows (cIa (aggL (cIa us 0)) 0)) (roRows (cIa (aggL (cIa us 0)) 1)) (roRows (cIa (aggL (cIa us 0)) 2)) (roRows (cIa us 1)) (toS (cIa us 2))) enc17 else Call.none
noncomputable def C17 := AI.ext 17 S17 C34

theorem run17 (r_Units : List (List AVal)) (r_Weapons : List (List AVal)) (r_Techs : List (List AVal)) (techs : List (List AVal)) (unit : ByteArray) : fcall TT TU GL0 C34 ownF false noL Try.f17 [(.agg [(.ro 19 r_Units), (.ro 6 r_Weapons), (.ro 8 r_Techs)]), (.ro 1 techs), (.sc (.string unit))] = (F_skirmishref22_Type r_Units r_Weapons r_Techs techs unit).bind fun t => some (enc17 t) :=
  Eq.trans (b := (Option.bind (F_skirmishref09_Unit r_Units r_Weapons r_Techs unit) fun t => (bif (!t.2.2.2.2.2.2.2.2.2.2.2.2.2.2.2.2.2.2.2) then (some (CR.mk true (AVal.tup [(AVal.agg [(AVal.sc (Value.string (ByteArray.mk (Array.mk [])))), (bo false), (bo false), (i64 (0 : Int)), (i64 (0 : Int)), (i64 (0 : Int)), (i64 (0 : Int)), (i64 (0 : Int)), (i64 (0 : Int)), (i64 (0 : Int)), (i64 (0 : Int)), (i64 (0 : Int)), (AVal.sc (Value.string (ByteArray.mk (Array.mk [])))), (i64 (0 : Int)), (i64 (0 : Int)), (i64 (0 : Int)), (AVal.ro 1 []), (AVal.ro 1 []), (AVal.ro 1 [])]), (bo false)]) [] [])) else (Option.bind (F_skirmishref22_Stat r_Units r_Weapons r_Techs techs unit (1 : Int)) fun t1 => (Option.bind (F_skirmishref22_with t.2.2.2.2.2.2.2.2.2.1 t1 (1 : Int) (100000 : Int)) fun t2 => (Option.bind (F_skirmishref22_Stat r_Units r_Weapons r_Techs techs unit (2 : Int)) fun t3 => (Option.bind (F_skirmishref22_with t.2.2.2.2.2.2.2.2.2.2.1 t3 (0 : Int) (100000 : Int)) fun t4 => (Option.bind (F_skirmishref22_Stat r_Units r_Weapons r_Techs techs unit (3 : Int)) fun t5 => (Option.bind (F_skirmishref22_with t.2.2.2.2.2.2.2.1 t5 (0 : Int) (256 : Int)) fun t6 => (Option.bind (F_skirmishref22_Stat r_Units r_Weapons r_Techs techs unit (4 : Int)) fun t7 => (Option.bind (F_skirmishref22_with t.2.2.2.2.2.2.2.2.1 t7 (0 : Int) (16 : Int)) fun t8 => (some (CR.mk true (AVal.tup [(AVal.agg [(AVal.sc (Value.string t.1)), (bo t.2.1), (bo t.2.2.1), (i64 t.2.2.2.1), (i64 t.2.2.2.2.1), (i64 t.2.2.2.2.2.1), (i64 t.2.2.2.2.2.2.1), (i64 t6), (i64 t8), (i64 t2), (i64 t4), (i64 t.2.2.2.2.2.2.2.2.2.2.2.1), (AVal.sc (Value.string t.2.2.2.2.2.2.2.2.2.2.2.2.1)), (i64 t.2.2.2.2.2.2.2.2.2.2.2.2.2.1), (i64 t.2.2.2.2.2.2.2.2.2.2.2.2.2.2.1), (i64 t.2.2.2.2.2.2.2.2.2.2.2.2.2.2.2.1), (AVal.ro 1 t.2.2.2.2.2.2.2.2.2.2.2.2.2.2.2.2.1), (AVal.ro 1 t.2.2.2.2.2.2.2.2.2.2.2.2.2.2.2.2.2.1), (AVal.ro 1 t.2.2.2.2.2.2.2.2.2.2.2.2.2.2.2.2.2.2.1)]), (bo true)]) [] []))))))))))))) (by kernel_rfl)
    (n_bind fun t => (n_condH rfl (fun h0 => rfl) fun h0 => (n_bind fun t1 => (n_bind fun t2 => (n_bind fun t3 => (n_bind fun t4 => (n_bind fun t5 => (n_bind fun t6 => (n_bind fun t7 => (n_bind fun t8 => rfl))))))))))
theorem lib17 : Lib Try.prog GL0 C17 :=
  Lib.fn lib34 mixed TT_ok Try.func17 (by decide +kernel) (by kernel_rfl) false noL (loops_of 0 (by kernel_rfl) below0) ks17 (F := fun us => F_skirmishref22_Type (roRows (cIa (aggL (cIa us 0)) 0)) (roRows (cIa (aggL (cIa us 0)) 1)) (roRows (cIa (aggL (cIa us 0)) 2)) (roRows (cIa us 1)) (toS (cIa us 2))) (fun us => rfl) (fun us => run17 (roRows (cIa (aggL (cIa us 0)) 0)) (roRows (cIa (aggL (cIa us 0)) 1)) (roRows (cIa (aggL (cIa us 0)) 2)) (roRows (cIa us 1)) (toS (cIa us 2))) (fun t => rfl)

/-! ### 25: skirmish/skirmishref22.Of -/



/-- 'skirmish/skirmishref22.Of' -/
noncomputable def F_skirmishref22_Of (g_Turn : Int) (g_NextId : Int) (g_Winner : Int) (g_Paused : Bool) (g_Rng : Int) (g_Rules_Units : List (List AVal)) (g_Rules_Weapons : List (List AVal)) (g_Rules_Techs : List (List AVal)) (g_Map_W : Int) (g_Map_H : Int) (g_Map_Cells : List (List AVal)) (g_Players : List (List AVal)) (g_Units : List (List AVal)) (g_Shots : List (List AVal)) (g_Memories : List (List AVal)) (g_Scripts : List (List AVal)) (id : Int) : Option (ByteArray × Bool × Bool × Int × Int × Int × Int × Int × Int × Int × Int × Int × ByteArray × Int × Int × Int × List (List AVal) × List (List AVal) × List (List AVal) × Bool) :=
  Option.bind (F_skirmishref21_Find g_Units id) fun t =>
  bif (!t.2.2.2.2.2.2.2.2.2.2.2.2) then
    some ((ByteArray.mk (Array.mk [])), false, false, (0 : Int), (0 : Int), (0 : Int), (0 : Int), (0 : Int), (0 : Int), (0 : Int), (0 : Int), (0 : Int), (ByteArray.mk (Array.mk [])), (0 : Int), (0 : Int), (0 : Int), [], [], [], false)
  else
  Option.bind (F_skirmishref22_Techs g_Turn g_NextId g_Winner g_Paused g_Rng g_Rules_Units g_Rules_Weapons g_Rules_Techs g_Map_W g_Map_H g_Map_Cells g_Players g_Units g_Shots g_Memories g_Scripts t.2.1) fun t1 =>
  Option.bind (F_skirmishref22_Type g_Rules_Units g_Rules_Weapons g_Rules_Techs t1 t.2.2.1) fun t2 =>
  some (t2.1, t2.2.1, t2.2.2.1, t2.2.2.2.1, t2.2.2.2.2.1, t2.2.2.2.2.2.1, t2.2.2.2.2.2.2.1, t2.2.2.2.2.2.2.2.1, t2.2.2.2.2.2.2.2.2.1, t2.2.2.2.2.2.2.2.2.2.1, t2.2.2.2.2.2.2.2.2.2.2.1, t2.2.2.2.2.2.2.2.2.2.2.2.1, t2.2.2.2.2.2.2.2.2.2.2.2.2.1, t2.2.2.2.2.2.2.2.2.2.2.2.2.2.1, t2.2.2.2.2.2.2.2.2.2.2.2.2.2.2.1, t2.2.2.2.2.2.2.2.2.2.2.2.2.2.2.2.1, t2.2.2.2.2.2.2.2.2.2.2.2.2.2.2.2.2.1, t2.2.2.2.2.2.2.2.2.2.2.2.2.2.2.2.2.2.1, t2.2.2.2.2.2.2.2.2.2.2.2.2.2.2.2.2.2.2.1, t2.2.2.2.2.2.2.2.2.2.2.2.2.2.2.2.2.2.2.2)
noncomputable def enc25 (t : ByteArray × Bool × Bool × Int × Int × Int × Int × Int × Int × Int × Int × Int × ByteArray × Int × Int × Int × List (List AVal) × List (List AVal) × List (List AVal) × Bool) : CR := ⟨true, (.tup [(.agg [(.sc (.string t.1)), (.sc (.bool t.2.1)), (.sc (.bool t.2.2.1)), (.sc (.int .i64 t.2.2.2.1)), (.sc (.int .i64 t.2.2.2.2.1)), (.sc (.int .i64 t.2.2.2.2.2.1)), (.sc (.int .i64 t.2.2.2.2.2.2.1)), (.sc (.int .i64 t.2.2.2.2.2.2.2.1)), (.sc (.int .i64 t.2.2.2.2.2.2.2.2.1)), (.sc (.int .i64 t.2.2.2.2.2.2.2.2.2.1)), (.sc (.int .i64 t.2.2.2.2.2.2.2.2.2.2.1)), (.sc (.int .i64 t.2.2.2.2.2.2.2.2.2.2.2.1)), (.sc (.string t.2.2.2.2.2.2.2.2.2.2.2.2.1)), (.sc (.int .i64 t.2.2.2.2.2.2.2.2.2.2.2.2.2.1)), (.sc (.int .i64 t.2.2.2.2.2.2.2.2.2.2.2.2.2.2.1)), (.sc (.int .i64 t.2.2.2.2.2.2.2.2.2.2.2.2.2.2.2.1)), (.ro 1 t.2.2.2.2.2.2.2.2.2.2.2.2.2.2.2.2.1), (.ro 1 t.2.2.2.2.2.2.2.2.2.2.2.2.2.2.2.2.2.1), (.ro 1 t.2.2.2.2.2.2.2.2.2.2.2.2.2.2.2.2.2.2.1)]), (.sc (.bool t.2.2.2.2.2.2.2.2.2.2.2.2.2.2.2.2.2.2.2))]), [], []⟩
noncomputable def ks25 : List SK := [.agg [.int .i64, .int .i64, .int .i64, .bool, .int .u64, .ro 19, .ro 6, .ro 8, .int .i64, .int .i64, .ro 3, .ro 6, .ro 12, .ro 9, .ro 3, .ro 4], .f (.int .i64)]
noncomputable def S25 (us : List AVal) : Call := bif chkA ks25 us then Call.of (F_skirmishref22_Of (toI (cIa (aggL (cIa us 0)) 0)) (toI (cIa (aggL (cIa us 0)) 1)) (toI (cIa (aggL (cIa us 0)) 2)) (toB (cIa (aggL (cIa us 0)) 3)) (toI (cIa (aggL (cIa us 0)) 4)) (roRows (cIa (aggL (cIa us 0)) 5)) (roRows (cIa (aggL (cIa us 0)) 6)) (roRows (cIa (aggL (cIa us 0)) 7)) (toI (cIa (aggL (cIa us 0)) 8)) (toI (cIa (aggL (cIa us 0)) 9)) (roRows (cIa (aggL (cIa us 0)) 10)) (roRows (cIa (aggL (cIa us 0)) 11)) (roRows (cIa (aggL (cIa us 0)) 12)) (roRows (cIa (aggL (cIa us 0)) 13)) (roRows (cIa (aggL (cIa us 0)) 14)) (roRows (cIa (aggL (cIa us 0)) 15)) (toI (cIa us 1))) enc25 else Call.none
noncomputable def C25 := AI.ext 25 S25 C17

theorem run25 (g_Turn : Int) (g_NextId : Int) (g_Winner : Int) (g_Paused : Bool) (g_Rng : Int) (g_Rules_Units : List (List AVal)) (g_Rules_Weapons : List (List AVal)) (g_Rules_Techs : List (List AVal)) (g_Map_W : Int) (g_Map_H : Int) (g_Map_Cells : List (List AVal)) (g_Players : List (List AVal)) (g_Units : List (List AVal)) (g_Shots : List (List AVal)) (g_Memories : List (List AVal)) (g_Scripts : List (List AVal)) (id : Int) : fcall TT TU GL0 C17 ownF false noL Try.f25 [(.agg [(.sc (.int .i64 g_Turn)), (.sc (.int .i64 g_NextId)), (.sc (.int .i64 g_Winner)), (.sc (.bool g_Paused)), (.sc (.int .u64 g_Rng)), (.ro 19 g_Rules_Units), (.ro 6 g_Rules_Weapons), (.ro 8 g_Rules_Techs), (.sc (.int .i64 g_Map_W)), (.sc (.int .i64 g_Map_H)), (.ro 3 g_Map_Cells), (.ro 6 g_Players), (.ro 12 g_Units), (.ro 9 g_Shots), (.ro 3 g_Memories), (.ro 4 g_Scripts)]), (.sc (.int .i64 id))] = (F_skirmishref22_Of g_Turn g_NextId g_Winner g_Paused g_Rng g_Rules_Units g_Rules_Weapons g_Rules_Techs g_Map_W g_Map_H g_Map_Cells g_Players g_Units g_Shots g_Memories g_Scripts id).bind fun t => some (enc25 t) :=
  Eq.trans (b := (Option.bind (F_skirmishref21_Find g_Units id) fun t => (bif (!t.2.2.2.2.2.2.2.2.2.2.2.2) then (some (CR.mk true (AVal.tup [(AVal.agg [(AVal.sc (Value.string (ByteArray.mk (Array.mk [])))), (bo false), (bo false), (i64 (0 : Int)), (i64 (0 : Int)), (i64 (0 : Int)), (i64 (0 : Int)), (i64 (0 : Int)), (i64 (0 : Int)), (i64 (0 : Int)), (i64 (0 : Int)), (i64 (0 : Int)), (AVal.sc (Value.string (ByteArray.mk (Array.mk [])))), (i64 (0 : Int)), (i64 (0 : Int)), (i64 (0 : Int)), (AVal.ro 1 []), (AVal.ro 1 []), (AVal.ro 1 [])]), (bo false)]) [] [])) else (Option.bind (F_skirmishref22_Techs g_Turn g_NextId g_Winner g_Paused g_Rng g_Rules_Units g_Rules_Weapons g_Rules_Techs g_Map_W g_Map_H g_Map_Cells g_Players g_Units g_Shots g_Memories g_Scripts t.2.1) fun t1 => (Option.bind (F_skirmishref22_Type g_Rules_Units g_Rules_Weapons g_Rules_Techs t1 t.2.2.1) fun t2 => (some (CR.mk true (AVal.tup [(AVal.agg [(AVal.sc (Value.string t2.1)), (bo t2.2.1), (bo t2.2.2.1), (i64 t2.2.2.2.1), (i64 t2.2.2.2.2.1), (i64 t2.2.2.2.2.2.1), (i64 t2.2.2.2.2.2.2.1), (i64 t2.2.2.2.2.2.2.2.1), (i64 t2.2.2.2.2.2.2.2.2.1), (i64 t2.2.2.2.2.2.2.2.2.2.1), (i64 t2.2.2.2.2.2.2.2.2.2.2.1), (i64 t2.2.2.2.2.2.2.2.2.2.2.2.1), (AVal.sc (Value.string t2.2.2.2.2.2.2.2.2.2.2.2.2.1)), (i64 t2.2.2.2.2.2.2.2.2.2.2.2.2.2.1), (i64 t2.2.2.2.2.2.2.2.2.2.2.2.2.2.2.1), (i64 t2.2.2.2.2.2.2.2.2.2.2.2.2.2.2.2.1), (AVal.ro 1 t2.2.2.2.2.2.2.2.2.2.2.2.2.2.2.2.2.1), (AVal.ro 1 t2.2.2.2.2.2.2.2.2.2.2.2.2.2.2.2.2.2.1), (AVal.ro 1 t2.2.2.2.2.2.2.2.2.2.2.2.2.2.2.2.2.2.2.1)]), (bo t2.2.2.2.2.2.2.2.2.2.2.2.2.2.2.2.2.2.2.2)]) [] []))))))) (by kernel_rfl)
    (n_bind fun t => (n_condH rfl (fun h0 => rfl) fun h0 => (n_bind fun t1 => (n_bind fun t2 => rfl))))
theorem lib25 : Lib Try.prog GL0 C25 :=
  Lib.fn lib17 mixed TT_ok Try.func25 (by decide +kernel) (by kernel_rfl) false noL (loops_of 0 (by kernel_rfl) below0) ks25 (F := fun us => F_skirmishref22_Of (toI (cIa (aggL (cIa us 0)) 0)) (toI (cIa (aggL (cIa us 0)) 1)) (toI (cIa (aggL (cIa us 0)) 2)) (toB (cIa (aggL (cIa us 0)) 3)) (toI (cIa (aggL (cIa us 0)) 4)) (roRows (cIa (aggL (cIa us 0)) 5)) (roRows (cIa (aggL (cIa us 0)) 6)) (roRows (cIa (aggL (cIa us 0)) 7)) (toI (cIa (aggL (cIa us 0)) 8)) (toI (cIa (aggL (cIa us 0)) 9)) (roRows (cIa (aggL (cIa us 0)) 10)) (roRows (cIa (aggL (cIa us 0)) 11)) (roRows (cIa (aggL (cIa us 0)) 12)) (roRows (cIa (aggL (cIa us 0)) 13)) (roRows (cIa (aggL (cIa us 0)) 14)) (roRows (cIa (aggL (cIa us 0)) 15)) (toI (cIa us 1))) (fun us => rfl) (fun us => run25 (toI (cIa (aggL (cIa us 0)) 0)) (toI (cIa (aggL (cIa us 0)) 1)) (toI (cIa (aggL (cIa us 0)) 2)) (toB (cIa (aggL (cIa us 0)) 3)) (toI (cIa (aggL (cIa us 0)) 4)) (roRows (cIa (aggL (cIa us 0)) 5)) (roRows (cIa (aggL (cIa us 0)) 6)) (roRows (cIa (aggL (cIa us 0)) 7)) (toI (cIa (aggL (cIa us 0)) 8)) (toI (cIa (aggL (cIa us 0)) 9)) (roRows (cIa (aggL (cIa us 0)) 10)) (roRows (cIa (aggL (cIa us 0)) 11)) (roRows (cIa (aggL (cIa us 0)) 12)) (roRows (cIa (aggL (cIa us 0)) 13)) (roRows (cIa (aggL (cIa us 0)) 14)) (roRows (cIa (aggL (cIa us 0)) 15)) (toI (cIa us 1))) (fun t => rfl)

/-! ### 35: skirmish/skirmishref09.SameNames -/

noncomputable def W35_0 : Ex → List Bool
  | .ret => [false, false, false, false, true, false, false, false, false, false, false, false, false, false, false, false, false, false, false, false, false, false, false, false, false, false]
  | .exit n => bif Nat.beq n 0 then [false, false, false, false, false, false, false, false, false, false, false, false, false, false, false, false, false, false, false, false, false, false, false, false, false, false] else []
  | .normal => []
noncomputable def G_skirmishref09_SameNames_0 (a : List (List AVal)) (b : List (List AVal)) : Nat → Int → Option (Bool)
  | 0, _ => none
  | m + 1, i =>
    bif (decide (i < (Int.ofNat a.length))) then
      bif (decide ((0 : Int) ≤ i)) then
        Option.bind (a[i.toNat]?) fun r =>
        bif (chk [LT.str] r) then
          Option.bind (b[i.toNat]?) fun r1 =>
          bif (chk [LT.str] r1) then
            bif (!(List.beq (ByteArray.toList (cS r 0)) (ByteArray.toList (cS r1 0)))) then
              some true
            else
            G_skirmishref09_SameNames_0 a b m (wr (i + (1 : Int)))
          else
          none
        else
        none
      else
      none
    else
    some false
noncomputable def E35_0 (a : List (List AVal)) (b : List (List AVal)) (i : Int) : St := ⟨[(.ro 1 a), (.ro 1 b), .dead, .dead, .dead, (.sc (.int .i64 i)), .dead, .dead, .dead, .dead, .dead, .dead, .dead, .dead, .dead, .dead, .dead, .dead, .dead, .dead, .dead, .dead, .dead, .dead, .dead, .dead], []⟩
noncomputable def X35_0 (k : Ex → St → Option CR) (t : Bool) : Option CR := bif t then k .ret ⟨[.dead, .dead, .dead, .dead, (.sc (.bool false)), .dead, .dead, .dead, .dead, .dead, .dead, .dead, .dead, .dead, .dead, .dead, .dead, .dead, .dead, .dead, .dead, .dead, .dead, .dead, .dead, .dead], []⟩ else k (.exit 0) ⟨[.dead, .dead, .dead, .dead, .dead, .dead, .dead, .dead, .dead, .dead, .dead, .dead, .dead, .dead, .dead, .dead, .dead, .dead, .dead, .dead, .dead, .dead, .dead, .dead, .dead, .dead], []⟩
noncomputable def ks35_0 : List SK := [.f (.ro 1), .f (.ro 1), .f .dead, .f .dead, .f .dead, .f (.int .i64), .f .dead, .f .dead, .f .dead, .f .dead, .f .dead, .f .dead, .f .dead, .f .dead, .f .dead, .f .dead, .f .dead, .f .dead, .f .dead, .f .dead, .f .dead, .f .dead, .f .dead, .f .dead, .f .dead, .f .dead]
noncomputable def hs35_0 : List HK := []
noncomputable def Lm35_0 (s : St) (k : Ex → St → Option CR) : Option CR := bif chkS ks35_0 hs35_0 s then (G_skirmishref09_SameNames_0 (roRows (cIa s.tmps 0)) (roRows (cIa s.tmps 1)) FU (toI (cIa s.tmps 5))).bind (X35_0 k) else none
noncomputable def L35_0 (s : St) (k : Ex → St → Option CR) : Option CR := Lm35_0 (maskS (maskOf ks35_0) s) k

noncomputable def L35 : LT' := fun i s k => bif Nat.beq i 0 then L35_0 s k else none

/-- 'skirmish/skirmishref09.SameNames' -/
noncomputable def F_skirmishref09_SameNames (a : List (List AVal)) (b : List (List AVal)) : Option (Bool) :=
  bif ((Int.ofNat a.length) != (Int.ofNat b.length)) then
    some false
  else
  Option.bind (G_skirmishref09_SameNames_0 a b FU (0 : Int)) fun t =>
  bif t then
    some false
  else
  some true
noncomputable def enc35 (t : Bool) : CR := ⟨true, (.sc (.bool t)), [], []⟩
noncomputable def ks35 : List SK := [.f (.ro 1), .f (.ro 1)]
noncomputable def S35 (us : List AVal) : Call := bif chkA ks35 us then Call.of (F_skirmishref09_SameNames (roRows (cIa us 0)) (roRows (cIa us 1))) enc35 else Call.none
noncomputable def C35 := AI.ext 35 S35 C25

@[reducible] noncomputable def B35_0 := bodyOf TT TU GL0 C25 ownF L35 (lp Try.f35 0)
@[reducible] noncomputable def K35_0 (k : Ex → St → Option CR) : Ex → St → Option CR := fun e s => k e (maskS (W35_0 e) s)
theorem spec35_0 (k : Ex → St → Option CR) : ∀ (m : Nat) (a : List (List AVal)) (b : List (List AVal)) (i : Int), loopN B35_0 m (E35_0 a b i) (K35_0 k) = (G_skirmishref09_SameNames_0 a b m i).bind (X35_0 k)
  | 0, _, _, _ => rfl
  | m + 1, a, b, i =>
    Eq.trans (b := (bif (decide (i < (Int.ofNat a.length))) then (bif (decide ((0 : Int) ≤ i)) then (Option.bind (a[i.toNat]?) fun r => (bif (chk [LT.str] r) then (bif (decide ((0 : Int) ≤ i)) then (Option.bind (b[i.toNat]?) fun r1 => (bif (chk [LT.str] r1) then (bif (!(List.beq (ByteArray.toList (cS r 0)) (ByteArray.toList (cS r1 0)))) then (k .ret ⟨[.dead, .dead, .dead, .dead, (bo false), .dead, .dead, .dead, .dead, .dead, .dead, .dead, .dead, .dead, .dead, .dead, .dead, .dead, .dead, .dead, .dead, .dead, .dead, .dead, .dead, .dead], []⟩) else (loopN B35_0 m ⟨[(AVal.ro 1 a), (AVal.ro 1 b), .dead, .dead, .dead, (i64 (wr (i + (1 : Int)))), .dead, .dead, .dead, .dead, .dead, .dead, .dead, .dead, .dead, .dead, .dead, .dead, .dead, .dead, .dead, .dead, .dead, .dead, .dead, .dead], []⟩ (K35_0 k))) else none)) else none) else none)) else none) else (k (.exit 0) ⟨[.dead, .dead, .dead, .dead, .dead, .dead, .dead, .dead, .dead, .dead, .dead, .dead, .dead, .dead, .dead, .dead, .dead, .dead, .dead, .dead, .dead, .dead, .dead, .dead, .dead, .dead], []⟩))) (by kernel_rfl)
      (n_condH rfl (fun h0 => (n_condH rfl (fun h1 => (n_bind fun r => (n_condH rfl (fun h2 => (n_true h1 (n_bind fun r1 => (n_condH rfl (fun h3 => (n_condH rfl (fun h4 => rfl) fun h4 => (spec35_0 k m a b (wr (i + (1 : Int)))))) fun h3 => n_none)))) fun h2 => n_none))) fun h1 => n_none)) fun h0 => rfl)
theorem okL35_0 : LoopOk TT TU GL0 C25 ownF L35 (lp Try.f35 0) :=
  loopOk_of ks35_0 hs35_0 W35_0 FU (fun s k => (G_skirmishref09_SameNames_0 (roRows (cIa s.tmps 0)) (roRows (cIa s.tmps 1)) FU (toI (cIa s.tmps 5))).bind (X35_0 k)) (fun s k => by kernel_rfl) (fun s k => spec35_0 k FU (roRows (cIa s.tmps 0)) (roRows (cIa s.tmps 1)) (toI (cIa s.tmps 5)))
theorem run35 (a : List (List AVal)) (b : List (List AVal)) : fcall TT TU GL0 C25 ownF true L35 Try.f35 [(.ro 1 a), (.ro 1 b)] = (F_skirmishref09_SameNames a b).bind fun t => some (enc35 t) :=
  Eq.trans (b := (bif ((Int.ofNat a.length) != (Int.ofNat b.length)) then (some (CR.mk true (bo false) [] [])) else (Option.bind (G_skirmishref09_SameNames_0 a b FU (0 : Int)) fun t => (bif t then (some (CR.mk true (bo false) [] [])) else (some (CR.mk true (bo true) [] [])))))) (by kernel_rfl)
    (n_condH rfl (fun h0 => rfl) fun h0 => (n_bind fun t => (n_condH rfl (fun h1 => rfl) fun h1 => rfl)))
theorem lib35 : Lib Try.prog GL0 C35 :=
  Lib.fn lib25 mixed TT_ok Try.func35 (by decide +kernel) (by kernel_rfl) true L35 (loops_of 1 (by kernel_rfl) (belowS below0 okL35_0)) ks35 (F := fun us => F_skirmishref09_SameNames (roRows (cIa us 0)) (roRows (cIa us 1))) (fun us => rfl) (fun us => run35 (roRows (cIa us 0)) (roRows (cIa us 1))) (fun t => rfl)

/-! ### 18: skirmish/skirmishref09.SameUnit -/



/-- 'skirmish/skirmishref09.SameUnit' -/
noncomputable def F_skirmishref09_SameUnit (a_Name : ByteArray) (a_Building : Bool) (a_Depot : Bool) (a_Class : Int) (a_W : Int) (a_H : Int) (a_Radius : Int) (a_Speed : Int) (a_Sight : Int) (a_Hp : Int) (a_Armor : Int) (a_Load : Int) (a_Weapon : ByteArray) (a_Ore : Int) (a_Wood : Int) (a_Time : Int) (a_Needs : List (List AVal)) (a_Trains : List (List AVal)) (a_Researches : List (List AVal)) (b_Name : ByteArray) (b_Building : Bool) (b_Depot : Bool) (b_Class : Int) (b_W : Int) (b_H : Int) (b_Radius : Int) (b_Speed : Int) (b_Sight : Int) (b_Hp : Int) (b_Armor : Int) (b_Load : Int) (b_Weapon : ByteArray) (b_Ore : Int) (b_Wood : Int) (b_Time : Int) (b_Needs : List (List AVal)) (b_Trains : List (List AVal)) (b_Researches : List (List AVal)) : Option (Bool) :=
  bif (a_Class == b_Class) then
    bif (a_W == b_W) then
      bif (a_H == b_H) then
        bif (a_Radius == b_Radius) then
          bif (a_Speed == b_Speed) then
            bif (a_Sight == b_Sight) then
              bif (a_Hp == b_Hp) then
                bif (a_Armor == b_Armor) then
                  bif (a_Load == b_Load) then
                    bif (a_Ore == b_Ore) then
                      bif (a_Wood == b_Wood) then
                        bif (a_Time == b_Time) then
                          bif (List.beq (ByteArray.toList a_Name) (ByteArray.toList b_Name)) then
                            bif (a_Building == b_Building) then
                              bif (a_Depot == b_Depot) then
                                bif (List.beq (ByteArray.toList a_Weapon) (ByteArray.toList b_Weapon)) then
                                  Option.bind (F_skirmishref09_SameNames a_Needs b_Needs) fun t =>
                                  bif t then
                                    Option.bind (F_skirmishref09_SameNames a_Trains b_Trains) fun t1 =>
                                    bif t1 then
                                      Option.bind (F_skirmishref09_SameNames a_Researches b_Researches) fun t2 =>
                                      some t2
                                    else
                                    some false
                                  else
                                  some false
                                else
                                some false
                              else
                              some false
                            else
                            some false
                          else
                          some false
                        else
                        some false
                      else
                      some false
                    else
                    some false
                  else
                  some false
                else
                some false
              else
              some false
            else
            some false
          else
          some false
        else
        some false
      else
      some false
    else
    some false
  else
  some false
noncomputable def enc18 (t : Bool) : CR := ⟨true, (.sc (.bool t)), [], []⟩
noncomputable def ks18 : List SK := [.agg [.str, .bool, .bool, .int .i64, .int .i64, .int .i64, .int .i64, .int .i64, .int .i64, .int .i64, .int .i64, .int .i64, .str, .int .i64, .int .i64, .int .i64, .ro 1, .ro 1, .ro 1], .agg [.str, .bool, .bool, .int .i64, .int .i64, .int .i64, .int .i64, .int .i64, .int .i64, .int .i64, .int .i64, .int .i64, .str, .int .i64, .int .i64, .int .i64, .ro 1, .ro 1, .ro 1]]
noncomputable def S18 (us : List AVal) : Call := bif chkA ks18 us then Call.of (F_skirmishref09_SameUnit (toS (cIa (aggL (cIa us 0)) 0)) (toB (cIa (aggL (cIa us 0)) 1)) (toB (cIa (aggL (cIa us 0)) 2)) (toI (cIa (aggL (cIa us 0)) 3)) (toI (cIa (aggL (cIa us 0)) 4)) (toI (cIa (aggL (cIa us 0)) 5)) (toI (cIa (aggL (cIa us 0)) 6)) (toI (cIa (aggL (cIa us 0)) 7)) (toI (cIa (aggL (cIa us 0)) 8)) (toI (cIa (aggL (cIa us 0)) 9)) (toI (cIa (aggL (cIa us 0)) 10)) (toI (cIa (aggL (cIa us 0)) 11)) (toS (cIa (aggL (cIa us 0)) 12)) (toI (cIa (aggL (cIa us 0)) 13)) (toI (cIa (aggL (cIa us 0)) 14)) (toI (cIa (aggL (cIa us 0)) 15)) (roRows (cIa (aggL (cIa us 0)) 16)) (roRows (cIa (aggL (cIa us 0)) 17)) (roRows (cIa (aggL (cIa us 0)) 18)) (toS (cIa (aggL (cIa us 1)) 0)) (toB (cIa (aggL (cIa us 1)) 1)) (toB (cIa (aggL (cIa us 1)) 2)) (toI (cIa (aggL (cIa us 1)) 3)) (toI (cIa (aggL (cIa us 1)) 4)) (toI (cIa (aggL (cIa us 1)) 5)) (toI (cIa (aggL (cIa us 1)) 6)) (toI (cIa (aggL (cIa us 1)) 7)) (toI (cIa (aggL (cIa us 1)) 8)) (toI (cIa (aggL (cIa us 1)) 9)) (toI (cIa (aggL (cIa us 1)) 10)) (toI (cIa (aggL (cIa us 1)) 11)) (toS (cIa (aggL (cIa us 1)) 12)) (toI (cIa (aggL (cIa us 1)) 13)) (toI (cIa (aggL (cIa us 1)) 14)) (toI (cIa (aggL (cIa us 1)) 15)) (roRows (cIa (aggL (cIa us 1)) 16)) (roRows (cIa (aggL (cIa us 1)) 17)) (roRows (cIa (aggL (cIa us 1)) 18))) enc18 else Call.none
noncomputable def C18 := AI.ext 18 S18 C35

theorem run18 (a_Name : ByteArray) (a_Building : Bool) (a_Depot : Bool) (a_Class : Int) (a_W : Int) (a_H : Int) (a_Radius : Int) (a_Speed : Int) (a_Sight : Int) (a_Hp : Int) (a_Armor : Int) (a_Load : Int) (a_Weapon : ByteArray) (a_Ore : Int) (a_Wood : Int) (a_Time : Int) (a_Needs : List (List AVal)) (a_Trains : List (List AVal)) (a_Researches : List (List AVal)) (b_Name : ByteArray) (b_Building : Bool) (b_Depot : Bool) (b_Class : Int) (b_W : Int) (b_H : Int) (b_Radius : Int) (b_Speed : Int) (b_Sight : Int) (b_Hp : Int) (b_Armor : Int) (b_Load : Int) (b_Weapon : ByteArray) (b_Ore : Int) (b_Wood : Int) (b_Time : Int) (b_Needs : List (List AVal)) (b_Trains : List (List AVal)) (b_Researches : List (List AVal)) : fcall TT TU GL0 C35 ownF true noL Try.f18 [(.agg [(.sc (.string a_Name)), (.sc (.bool a_Building)), (.sc (.bool a_Depot)), (.sc (.int .i64 a_Class)), (.sc (.int .i64 a_W)), (.sc (.int .i64 a_H)), (.sc (.int .i64 a_Radius)), (.sc (.int .i64 a_Speed)), (.sc (.int .i64 a_Sight)), (.sc (.int .i64 a_Hp)), (.sc (.int .i64 a_Armor)), (.sc (.int .i64 a_Load)), (.sc (.string a_Weapon)), (.sc (.int .i64 a_Ore)), (.sc (.int .i64 a_Wood)), (.sc (.int .i64 a_Time)), (.ro 1 a_Needs), (.ro 1 a_Trains), (.ro 1 a_Researches)]), (.agg [(.sc (.string b_Name)), (.sc (.bool b_Building)), (.sc (.bool b_Depot)), (.sc (.int .i64 b_Class)), (.sc (.int .i64 b_W)), (.sc (.int .i64 b_H)), (.sc (.int .i64 b_Radius)), (.sc (.int .i64 b_Speed)), (.sc (.int .i64 b_Sight)), (.sc (.int .i64 b_Hp)), (.sc (.int .i64 b_Armor)), (.sc (.int .i64 b_Load)), (.sc (.string b_Weapon)), (.sc (.int .i64 b_Ore)), (.sc (.int .i64 b_Wood)), (.sc (.int .i64 b_Time)), (.ro 1 b_Needs), (.ro 1 b_Trains), (.ro 1 b_Researches)])] = (F_skirmishref09_SameUnit a_Name a_Building a_Depot a_Class a_W a_H a_Radius a_Speed a_Sight a_Hp a_Armor a_Load a_Weapon a_Ore a_Wood a_Time a_Needs a_Trains a_Researches b_Name b_Building b_Depot b_Class b_W b_H b_Radius b_Speed b_Sight b_Hp b_Armor b_Load b_Weapon b_Ore b_Wood b_Time b_Needs b_Trains b_Researches).bind fun t => some (enc18 t) :=
  Eq.trans (b := (bif (a_Class == b_Class) then (bif (a_W == b_W) then (bif (a_H == b_H) then (bif (a_Radius == b_Radius) then (bif (a_Speed == b_Speed) then (bif (a_Sight == b_Sight) then (bif (a_Hp == b_Hp) then (bif (a_Armor == b_Armor) then (bif (a_Load == b_Load) then (bif (a_Ore == b_Ore) then (bif (a_Wood == b_Wood) then (bif (a_Time == b_Time) then (bif (List.beq (ByteArray.toList a_Name) (ByteArray.toList b_Name)) then (bif (a_Building == b_Building) then (bif (a_Depot == b_Depot) then (bif (List.beq (ByteArray.toList a_Weapon) (ByteArray.toList b_Weapon)) then (Option.bind (F_skirmishref09_SameNames a_Needs b_Needs) fun t => (bif t then (Option.bind (F_skirmishref09_SameNames a_Trains b_Trains) fun t1 => (bif t1 then (Option.bind (F_skirmishref09_SameNames a_Researches b_Researches) fun t2 => (some (CR.mk true (bo t2) [] []))) else (some (CR.mk true (bo false) [] [])))) else (some (CR.mk true (bo false) [] [])))) else (some (CR.mk true (bo false) [] []))) else (some (CR.mk true (bo false) [] []))) else (some (CR.mk true (bo false) [] []))) else (some (CR.mk true (bo false) [] []))) else (some (CR.mk true (bo false) [] []))) else (some (CR.mk true (bo false) [] []))) else (some (CR.mk true (bo false) [] []))) else (some (CR.mk true (bo false) [] []))) else (some (CR.mk true (bo false) [] []))) else (some (CR.mk true (bo false) [] []))) else (some (CR.mk true (bo false) [] []))) else (some (CR.mk true (bo false) [] []))) else (some (CR.mk true (bo false) [] []))) else (some (CR.mk true (bo false) [] []))) else (some (CR.mk true (bo false) [] []))) else (some (CR.mk true (bo false) [] [])))) (by kernel_rfl)
    (n_condH rfl (fun h0 => (n_condH rfl (fun h1 => (n_condH rfl (fun h2 => (n_condH rfl (fun h3 => (n_condH rfl (fun h4 => (n_condH rfl (fun h5 => (n_condH rfl (fun h6 => (n_condH rfl (fun h7 => (n_condH rfl (fun h8 => (n_condH rfl (fun h9 => (n_condH rfl (fun h10 => (n_condH rfl (fun h11 => (n_condH rfl (fun h12 => (n_condH rfl (fun h13 => (n_condH rfl (fun h14 => (n_condH rfl (fun h15 => (n_bind fun t => (n_condH rfl (fun h16 => (n_bind fun t1 => (n_condH rfl (fun h17 => (n_bind fun t2 => rfl)) fun h17 => rfl))) fun h16 => rfl))) fun h15 => rfl)) fun h14 => rfl)) fun h13 => rfl)) fun h12 => rfl)) fun h11 => rfl)) fun h10 => rfl)) fun h9 => rfl)) fun h8 => rfl)) fun h7 => rfl)) fun h6 => rfl)) fun h5 => rfl)) fun h4 => rfl)) fun h3 => rfl)) fun h2 => rfl)) fun h1 => rfl)) fun h0 => rfl)
theorem lib18 : Lib Try.prog GL0 C18 :=
  Lib.fn lib35 mixed TT_ok Try.func18 (by decide +kernel) (by kernel_rfl) true noL (loops_of 0 (by kernel_rfl) below0) ks18 (F := fun us => F_skirmishref09_SameUnit (toS (cIa (aggL (cIa us 0)) 0)) (toB (cIa (aggL (cIa us 0)) 1)) (toB (cIa (aggL (cIa us 0)) 2)) (toI (cIa (aggL (cIa us 0)) 3)) (toI (cIa (aggL (cIa us 0)) 4)) (toI (cIa (aggL (cIa us 0)) 5)) (toI (cIa (aggL (cIa us 0)) 6)) (toI (cIa (aggL (cIa us 0)) 7)) (toI (cIa (aggL (cIa us 0)) 8)) (toI (cIa (aggL (cIa us 0)) 9)) (toI (cIa (aggL (cIa us 0)) 10)) (toI (cIa (aggL (cIa us 0)) 11)) (toS (cIa (aggL (cIa us 0)) 12)) (toI (cIa (aggL (cIa us 0)) 13)) (toI (cIa (aggL (cIa us 0)) 14)) (toI (cIa (aggL (cIa us 0)) 15)) (roRows (cIa (aggL (cIa us 0)) 16)) (roRows (cIa (aggL (cIa us 0)) 17)) (roRows (cIa (aggL (cIa us 0)) 18)) (toS (cIa (aggL (cIa us 1)) 0)) (toB (cIa (aggL (cIa us 1)) 1)) (toB (cIa (aggL (cIa us 1)) 2)) (toI (cIa (aggL (cIa us 1)) 3)) (toI (cIa (aggL (cIa us 1)) 4)) (toI (cIa (aggL (cIa us 1)) 5)) (toI (cIa (aggL (cIa us 1)) 6)) (toI (cIa (aggL (cIa us 1)) 7)) (toI (cIa (aggL (cIa us 1)) 8)) (toI (cIa (aggL (cIa us 1)) 9)) (toI (cIa (aggL (cIa us 1)) 10)) (toI (cIa (aggL (cIa us 1)) 11)) (toS (cIa (aggL (cIa us 1)) 12)) (toI (cIa (aggL (cIa us 1)) 13)) (toI (cIa (aggL (cIa us 1)) 14)) (toI (cIa (aggL (cIa us 1)) 15)) (roRows (cIa (aggL (cIa us 1)) 16)) (roRows (cIa (aggL (cIa us 1)) 17)) (roRows (cIa (aggL (cIa us 1)) 18))) (fun us => rfl) (fun us => run18 (toS (cIa (aggL (cIa us 0)) 0)) (toB (cIa (aggL (cIa us 0)) 1)) (toB (cIa (aggL (cIa us 0)) 2)) (toI (cIa (aggL (cIa us 0)) 3)) (toI (cIa (aggL (cIa us 0)) 4)) (toI (cIa (aggL (cIa us 0)) 5)) (toI (cIa (aggL (cIa us 0)) 6)) (toI (cIa (aggL (cIa us 0)) 7)) (toI (cIa (aggL (cIa us 0)) 8)) (toI (cIa (aggL (cIa us 0)) 9)) (toI (cIa (aggL (cIa us 0)) 10)) (toI (cIa (aggL (cIa us 0)) 11)) (toS (cIa (aggL (cIa us 0)) 12)) (toI (cIa (aggL (cIa us 0)) 13)) (toI (cIa (aggL (cIa us 0)) 14)) (toI (cIa (aggL (cIa us 0)) 15)) (roRows (cIa (aggL (cIa us 0)) 16)) (roRows (cIa (aggL (cIa us 0)) 17)) (roRows (cIa (aggL (cIa us 0)) 18)) (toS (cIa (aggL (cIa us 1)) 0)) (toB (cIa (aggL (cIa us 1)) 1)) (toB (cIa (aggL (cIa us 1)) 2)) (toI (cIa (aggL (cIa us 1)) 3)) (toI (cIa (aggL (cIa us 1)) 4)) (toI (cIa (aggL (cIa us 1)) 5)) (toI (cIa (aggL (cIa us 1)) 6)) (toI (cIa (aggL (cIa us 1)) 7)) (toI (cIa (aggL (cIa us 1)) 8)) (toI (cIa (aggL (cIa us 1)) 9)) (toI (cIa (aggL (cIa us 1)) 10)) (toI (cIa (aggL (cIa us 1)) 11)) (toS (cIa (aggL (cIa us 1)) 12)) (toI (cIa (aggL (cIa us 1)) 13)) (toI (cIa (aggL (cIa us 1)) 14)) (toI (cIa (aggL (cIa us 1)) 15)) (roRows (cIa (aggL (cIa us 1)) 16)) (roRows (cIa (aggL (cIa us 1)) 17)) (roRows (cIa (aggL (cIa us 1)) 18))) (fun t => rfl)

/-! ### 8: skirmish/skirmishlaw22.UpgradeOf -/

noncomputable def W8_0 : Ex → List Bool
  | .ret => [false, false, false, false, true, false, false, false, false, false, false, false, false, false, false, false, false, false, false, false, false, false, false, false, false, false, false, false, false, false, false, false, false, false, false, false, false, false, false, false, false, false, false, false, false, false, false, false, false, false, false, false, false, false, false, false, false, false, false, false, false, false, false, false]
  | .exit n => bif Nat.beq n 0 then [false, true, true, false, false, false, false, false, false, false, false, false, false, false, false, false, false, false, false, false, false, false, false, false, false, false, false, false, false, false, false, false, false, false, false, false, false, false, false, false, false, false, false, false, false, false, false, false, false, false, false, false, false, false, false, false, false, false, false, false, false, false, false, false] else []
  | .normal => []
noncomputable def G_skirmishlaw22_UpgradeOf_0 (b0_11 : List (List AVal)) : Nat → Int → Option (Bool × Bool)
  | 0, _ => none
  | m + 1, i =>
    bif (decide (i < (Int.ofNat b0_11.length))) then
      bif (decide ((0 : Int) ≤ i)) then
        Option.bind (b0_11[i.toNat]?) fun r =>
        bif (chk [(LT.int IntKind.i64), (LT.int IntKind.i64), (LT.int IntKind.i64), (LT.int IntKind.i64), (LT.sl 9 1), LT.bool] r) then
          Option.bind (F_skirmishlaw22_huge (roRows (AVal.ro 1 (cR r 4)))) fun t =>
          bif t then
            Option.bind F_skirmishlaw22_awake fun t1 =>
            some (true, t1)
          else
          G_skirmishlaw22_UpgradeOf_0 b0_11 m (wr (i + (1 : Int)))
        else
        none
      else
      none
    else
    some (false, false)
noncomputable def E8_0 (id : Int) (i : Int) (b0_0 : Int) (b0_1 : Int) (b0_2 : Int) (b0_3 : Bool) (b0_4 : Int) (b0_5 : List (List AVal)) (b0_6 : List (List AVal)) (b0_7 : List (List AVal)) (b0_8 : Int) (b0_9 : Int) (b0_10 : List (List AVal)) (b0_11 : List (List AVal)) (b0_12 : List (List AVal)) (b0_13 : List (List AVal)) (b0_14 : List (List AVal)) (b0_15 : List (List AVal)) : St := ⟨[.dead, (.sc (.int .i64 id)), (.ref 16000 1 0 0), .dead, .dead, (.sc (.int .i64 i)), .dead, .dead, .dead, .dead, .dead, .dead, .dead, .dead, .dead, .dead, .dead, .dead, .dead, .dead, .dead, .dead, .dead, .dead, .dead, .dead, .dead, .dead, .dead, .dead, .dead, .dead, .dead, .dead, .dead, .dead, .dead, .dead, .dead, .dead, .dead, .dead, .dead, .dead, .dead, .dead, .dead, .dead, .dead, .dead, .dead, .dead, .dead, .dead, .dead, .dead, .dead, .dead, .dead, .dead, .dead, .dead, .dead, .dead], [(16000, ⟨.box, 66, 16, [[(.sc (.int .i64 b0_0)), (.sc (.int .i64 b0_1)), (.sc (.int .i64 b0_2)), (.sc (.bool b0_3)), (.sc (.int .u64 b0_4)), (.ro 19 b0_5), (.ro 6 b0_6), (.ro 8 b0_7), (.sc (.int .i64 b0_8)), (.sc (.int .i64 b0_9)), (.ro 3 b0_10), (.ro 6 b0_11), (.ro 12 b0_12), (.ro 9 b0_13), (.ro 3 b0_14), (.ro 4 b0_15)]]⟩)]⟩
noncomputable def X8_0 (id : Int) (b0_0 : Int) (b0_1 : Int) (b0_2 : Int) (b0_3 : Bool) (b0_4 : Int) (b0_5 : List (List AVal)) (b0_6 : List (List AVal)) (b0_7 : List (List AVal)) (b0_8 : Int) (b0_9 : Int) (b0_10 : List (List AVal)) (b0_11 : List (List AVal)) (b0_12 : List (List AVal)) (b0_13 : List (List AVal)) (b0_14 : List (List AVal)) (b0_15 : List (List AVal)) (k : Ex → St → Option CR) (t : Bool × Bool) : Option CR := bif t.1 then k .ret ⟨[.dead, .dead, .dead, .dead, (.sc (.bool t.2)), .dead, .dead, .dead, .dead, .dead, .dead, .dead, .dead, .dead, .dead, .dead, .dead, .dead, .dead, .dead, .dead, .dead, .dead, .dead, .dead, .dead, .dead, .dead, .dead, .dead, .dead, .dead, .dead, .dead, .dead, .dead, .dead, .dead, .dead, .dead, .dead, .dead, .dead, .dead, .dead, .dead, .dead, .dead, .dead, .dead, .dead, .dead, .dead, .dead, .dead, .dead, .dead, .dead, .dead, .dead, .dead, .dead, .dead, .dead], []⟩ else k (.exit 0) ⟨[.dead, (.sc (.int .i64 id)), (.ref 16000 1 0 0), .dead, .dead, .dead, .dead, .dead, .dead, .dead, .dead, .dead, .dead, .dead, .dead, .dead, .dead, .dead, .dead, .dead, .dead, .dead, .dead, .dead, .dead, .dead, .dead, .dead, .dead, .dead, .dead, .dead, .dead, .dead, .dead, .dead, .dead, .dead, .dead, .dead, .dead, .dead, .dead, .dead, .dead, .dead, .dead, .dead, .dead, .dead, .dead, .dead, .dead, .dead, .dead, .dead, .dead, .dead, .dead, .dead, .dead, .dead, .dead, .dead], [(16000, ⟨.box, 66, 16, [[(.sc (.int .i64 b0_0)), (.sc (.int .i64 b0_1)), (.sc (.int .i64 b0_2)), (.sc (.bool b0_3)), (.sc (.int .u64 b0_4)), (.ro 19 b0_5), (.ro 6 b0_6), (.ro 8 b0_7), (.sc (.int .i64 b0_8)), (.sc (.int .i64 b0_9)), (.ro 3 b0_10), (.ro 6 b0_11), (.ro 12 b0_12), (.ro 9 b0_13), (.ro 3 b0_14), (.ro 4 b0_15)]]⟩)]⟩
noncomputable def ks8_0 : List SK := [.f .dead, .f (.int .i64), .f (.ref 16000 1 0 0), .f .dead, .f .dead, .f (.int .i64), .f .dead, .f .dead, .f .dead, .f .dead, .f .dead, .f .dead, .f .dead, .f .dead, .f .dead, .f .dead, .f .dead, .f .dead, .f .dead, .f .dead, .f .dead, .f .dead, .f .dead, .f .dead, .f .dead, .f .dead, .f .dead, .f .dead, .f .dead, .f .dead, .f .dead, .f .dead, .f .dead, .f .dead, .f .dead, .f .dead, .f .dead, .f .dead, .f .dead, .f .dead, .f .dead, .f .dead, .f .dead, .f .dead, .f .dead, .f .dead, .f .dead, .f .dead, .f .dead, .f .dead, .f .dead, .f .dead, .f .dead, .f .dead, .f .dead, .f .dead, .f .dead, .f .dead, .f .dead, .f .dead, .f .dead, .f .dead, .f .dead, .f .dead]
noncomputable def hs8_0 : List HK := [⟨16000, .box, 66, 16, some [.int .i64, .int .i64, .int .i64, .bool, .int .u64, .ro 19, .ro 6, .ro 8, .int .i64, .int .i64, .ro 3, .ro 6, .ro 12, .ro 9, .ro 3, .ro 4]⟩]
noncomputable def Lm8_0 (s : St) (k : Ex → St → Option CR) : Option CR := bif chkS ks8_0 hs8_0 s then (G_skirmishlaw22_UpgradeOf_0 (roRows (cIa (rows0 (blkAt s.heap 0).2) 11)) FU (toI (cIa s.tmps 5))).bind (X8_0 (toI (cIa s.tmps 1)) (toI (cIa (rows0 (blkAt s.heap 0).2) 0)) (toI (cIa (rows0 (blkAt s.heap 0).2) 1)) (toI (cIa (rows0 (blkAt s.heap 0).2) 2)) (toB (cIa (rows0 (blkAt s.heap 0).2) 3)) (toI (cIa (rows0 (blkAt s.heap 0).2) 4)) (roRows (cIa (rows0 (blkAt s.heap 0).2) 5)) (roRows (cIa (rows0 (blkAt s.heap 0).2) 6)) (roRows (cIa (rows0 (blkAt s.heap 0).2) 7)) (toI (cIa (rows0 (blkAt s.heap 0).2) 8)) (toI (cIa (rows0 (blkAt s.heap 0).2) 9)) (roRows (cIa (rows0 (blkAt s.heap 0).2) 10)) (roRows (cIa (rows0 (blkAt s.heap 0).2) 11)) (roRows (cIa (rows0 (blkAt s.heap 0).2) 12)) (roRows (cIa (rows0 (blkAt s.heap 0).2) 13)) (roRows (cIa (rows0 (blkAt s.heap 0).2) 14)) (roRows (cIa (rows0 (blkAt s.heap 0).2) 15)) k) else none
noncomputable def L8_0 (s : St) (k : Ex → St → Option CR) : Option CR := Lm8_0 (maskS (maskOf ks8_0) s) k

noncomputable def L8 : LT' := fun i s k => bif Nat.beq i 0 then L8_0 s k else none

/-- 'skirmish/skirmishlaw22.UpgradeOf' -/
noncomputable def F_skirmishlaw22_UpgradeOf (g_Turn : Int) (g_NextId : Int) (g_Winner : Int) (g_Paused : Bool) (g_Rng : Int) (g_Rules_Units : List (List AVal)) (g_Rules_Weapons : List (List AVal)) (g_Rules_Techs : List (List AVal)) (g_Map_W : Int) (g_Map_H : Int) (g_Map_Cells : List (List AVal)) (g_Players : List (List AVal)) (g_Units : List (List AVal)) (g_Shots : List (List AVal)) (g_Memories : List (List AVal)) (g_Scripts : List (List AVal)) (id : Int) : Option (Bool) :=
  Option.bind (F_skirmishlaw10_Huge g_Rules_Units g_Rules_Weapons g_Rules_Techs) fun t =>
  bif t then
    Option.bind F_skirmishlaw22_awake fun t1 =>
    some t1
  else
  bif (decide ((Int.ofNat g_Units.length) > (200 : Int))) then
    Option.bind F_skirmishlaw22_awake fun t2 =>
    some t2
  else
  bif (decide ((Int.ofNat g_Players.length) > (100 : Int))) then
    Option.bind F_skirmishlaw22_awake fun t3 =>
    some t3
  else
  Option.bind (G_skirmishlaw22_UpgradeOf_0 g_Players FU (0 : Int)) fun t4 =>
  bif t4.1 then
    some t4.2
  else
  Option.bind (F_upgrade_Of g_Turn g_NextId g_Winner g_Paused g_Rng g_Rules_Units g_Rules_Weapons g_Rules_Techs g_Map_W g_Map_H g_Map_Cells g_Players g_Units g_Shots g_Memories g_Scripts id) fun t5 =>
  Option.bind (F_skirmishref22_Of g_Turn g_NextId g_Winner g_Paused g_Rng g_Rules_Units g_Rules_Weapons g_Rules_Techs g_Map_W g_Map_H g_Map_Cells g_Players g_Units g_Shots g_Memories g_Scripts id) fun t6 =>
  bif (t5.2.2.2.2.2.2.2.2.2.2.2.2.2.2.2.2.2.2.2 == t6.2.2.2.2.2.2.2.2.2.2.2.2.2.2.2.2.2.2.2) then
    Option.bind (F_skirmishref09_SameUnit t5.2.2.2.1 t5.2.2.2.2.1 t5.2.2.2.2.2.1 t5.2.2.2.2.2.2.1 t5.2.2.2.2.2.2.2.1 t5.2.2.2.2.2.2.2.2.1 t5.2.2.2.2.2.2.2.2.2.1 t5.2.2.2.2.2.2.2.2.2.2.1 t5.2.2.2.2.2.2.2.2.2.2.2.1 t5.2.2.2.2.2.2.2.2.2.2.2.2.1 t5.2.2.2.2.2.2.2.2.2.2.2.2.2.1 t5.2.2.2.2.2.2.2.2.2.2.2.2.2.2.1 t5.2.2.2.2.2.2.2.2.2.2.2.2.2.2.2.1 t5.2.2.2.2.2.2.2.2.2.2.2.2.2.2.2.2.1 t5.2.2.2.2.2.2.2.2.2.2.2.2.2.2.2.2.2.1 t5.2.2.2.2.2.2.2.2.2.2.2.2.2.2.2.2.2.2.1 t5.1 t5.2.1 t5.2.2.1 t6.1 t6.2.1 t6.2.2.1 t6.2.2.2.1 t6.2.2.2.2.1 t6.2.2.2.2.2.1 t6.2.2.2.2.2.2.1 t6.2.2.2.2.2.2.2.1 t6.2.2.2.2.2.2.2.2.1 t6.2.2.2.2.2.2.2.2.2.1 t6.2.2.2.2.2.2.2.2.2.2.1 t6.2.2.2.2.2.2.2.2.2.2.2.1 t6.2.2.2.2.2.2.2.2.2.2.2.2.1 t6.2.2.2.2.2.2.2.2.2.2.2.2.2.1 t6.2.2.2.2.2.2.2.2.2.2.2.2.2.2.1 t6.2.2.2.2.2.2.2.2.2.2.2.2.2.2.2.1 t6.2.2.2.2.2.2.2.2.2.2.2.2.2.2.2.2.1 t6.2.2.2.2.2.2.2.2.2.2.2.2.2.2.2.2.2.1 t6.2.2.2.2.2.2.2.2.2.2.2.2.2.2.2.2.2.2.1) fun t7 =>
    bif t7 then
      Option.bind F_skirmishlaw22_awake fun t8 =>
      some t8
    else
    some false
  else
  some false
noncomputable def enc8 (t : Bool) : CR := ⟨true, (.sc (.bool t)), [], []⟩
noncomputable def ks8 : List SK := [.agg [.int .i64, .int .i64, .int .i64, .bool, .int .u64, .ro 19, .ro 6, .ro 8, .int .i64, .int .i64, .ro 3, .ro 6, .ro 12, .ro 9, .ro 3, .ro 4], .f (.int .i64)]
noncomputable def S8 (us : List AVal) : Call := bif chkA ks8 us then Call.of (F_skirmishlaw22_UpgradeOf (toI (cIa (aggL (cIa us 0)) 0)) (toI (cIa (aggL (cIa us 0)) 1)) (toI (cIa (aggL (cIa us 0)) 2)) (toB (cIa (aggL (cIa us 0)) 3)) (toI (cIa (aggL (cIa us 0)) 4)) (roRows (cIa (aggL (cIa us 0)) 5)) (roRows (cIa (aggL (cIa us 0)) 6)) (roRows (cIa (aggL (cIa us 0)) 7)) (toI (cIa (aggL (cIa us 0)) 8)) (toI (cIa (aggL (cIa us 0)) 9)) (roRows (cIa (aggL (cIa us 0)) 10)) (roRows (cIa (aggL (cIa us 0)) 11)) (roRows (cIa (aggL (cIa us 0)) 12)) (roRows (cIa (aggL (cIa us 0)) 13)) (roRows (cIa (aggL (cIa us 0)) 14)) (roRows (cIa (aggL (cIa us 0)) 15)) (toI (cIa us 1))) enc8 else Call.none
noncomputable def C8 := AI.ext 8 S8 C18

@[reducible] noncomputable def B8_0 := bodyOf TT TU GL0 C18 ownF L8 (lp Try.f8 0)
@[reducible] noncomputable def K8_0 (k : Ex → St → Option CR) : Ex → St → Option CR := fun e s => k e (maskS (W8_0 e) s)
theorem spec8_0 (k : Ex → St → Option CR) : ∀ (m : Nat) (id : Int) (i : Int) (b0_0 : Int) (b0_1 : Int) (b0_2 : Int) (b0_3 : Bool) (b0_4 : Int) (b0_5 : List (List AVal)) (b0_6 : List (List AVal)) (b0_7 : List (List AVal)) (b0_8 : Int) (b0_9 : Int) (b0_10 : List (List AVal)) (b0_11 : List (List AVal)) (b0_12 : List (List AVal)) (b0_13 : List (List AVal)) (b0_14 : List (List AVal)) (b0_15 : List (List AVal)), loopN B8_0 m (E8_0 id i b0_0 b0_1 b0_2 b0_3 b0_4 b0_5 b0_6 b0_7 b0_8 b0_9 b0_10 b0_11 b0_12 b0_13 b0_14 b0_15) (K8_0 k) = (G_skirmishlaw22_UpgradeOf_0 b0_11 m i).bind (X8_0 id b0_0 b0_1 b0_2 b0_3 b0_4 b0_5 b0_6 b0_7 b0_8 b0_9 b0_10 b0_11 b0_12 b0_13 b0_14 b0_15 k)
  | 0, _, _, _, _, _, _, _, _, _, _, _, _, _, _, _, _, _, _ => rfl
  | m + 1, id, i, b0_0, b0_1, b0_2, b0_3, b0_4, b0_5, b0_6, b0_7, b0_8, b0_9, b0_10, b0_11, b0_12, b0_13, b0_14, b0_15 =>
    Eq.trans (b := (bif (decide (i < (Int.ofNat b0_11.length))) then (bif (decide ((0 : Int) ≤ i)) then (Option.bind (b0_11[i.toNat]?) fun r => (bif (chk [(LT.int IntKind.i64), (LT.int IntKind.i64), (LT.int IntKind.i64), (LT.int IntKind.i64), (LT.sl 9 1), LT.bool] r) then (Option.bind (F_skirmishlaw22_huge (roRows (AVal.ro 1 (cR r 4)))) fun t => (bif t then (Option.bind F_skirmishlaw22_awake fun t1 => (k .ret ⟨[.dead, .dead, .dead, .dead, (bo t1), .dead, .dead, .dead, .dead, .dead, .dead, .dead, .dead, .dead, .dead, .dead, .dead, .dead, .dead, .dead, .dead, .dead, .dead, .dead, .dead, .dead, .dead, .dead, .dead, .dead, .dead, .dead, .dead, .dead, .dead, .dead, .dead, .dead, .dead, .dead, .dead, .dead, .dead, .dead, .dead, .dead, .dead, .dead, .dead, .dead, .dead, .dead, .dead, .dead, .dead, .dead, .dead, .dead, .dead, .dead, .dead, .dead, .dead, .dead], []⟩)) else (loopN B8_0 m ⟨[.dead, (i64 id), (AVal.ref 16000 1 0 0), .dead, .dead, (i64 (wr (i + (1 : Int)))), .dead, .dead, .dead, .dead, .dead, .dead, .dead, .dead, .dead, .dead, .dead, .dead, .dead, .dead, .dead, .dead, .dead, .dead, .dead, .dead, .dead, .dead, .dead, .dead, .dead, .dead, .dead, .dead, .dead, .dead, .dead, .dead, .dead, .dead, .dead, .dead, .dead, .dead, .dead, .dead, .dead, .dead, .dead, .dead, .dead, .dead, .dead, .dead, .dead, .dead, .dead, .dead, .dead, .dead, .dead, .dead, .dead, .dead], [(Prod.mk 16000 (Blk.mk BKind.box 66 16 [[(i64 b0_0), (i64 b0_1), (i64 b0_2), (bo b0_3), (AVal.sc (Value.int IntKind.u64 b0_4)), (AVal.ro 19 b0_5), (AVal.ro 6 b0_6), (AVal.ro 8 b0_7), (i64 b0_8), (i64 b0_9), (AVal.ro 3 b0_10), (AVal.ro 6 b0_11), (AVal.ro 12 b0_12), (AVal.ro 9 b0_13), (AVal.ro 3 b0_14), (AVal.ro 4 b0_15)]]))]⟩ (K8_0 k)))) else none)) else none) else (k (.exit 0) ⟨[.dead, (i64 id), (AVal.ref 16000 1 0 0), .dead, .dead, .dead, .dead, .dead, .dead, .dead, .dead, .dead, .dead, .dead, .dead, .dead, .dead, .dead, .dead, .dead, .dead, .dead, .dead, .dead, .dead, .dead, .dead, .dead, .dead, .dead, .dead, .dead, .dead, .dead, .dead, .dead, .dead, .dead, .dead, .dead, .dead, .dead, .dead, .dead, .dead, .dead, .dead, .dead, .dead, .dead, .dead, .dead, .dead, .dead, .dead, .dead, .dead, .dead, .dead, .dead, .dead, .dead, .dead, .dead], [(Prod.mk 16000 (Blk.mk BKind.box 66 16 [[(i64 b0_0), (i64 b0_1), (i64 b0_2), (bo b0_3), (AVal.sc (Value.int IntKind.u64 b0_4)), (AVal.ro 19 b0_5), (AVal.ro 6 b0_6), (AVal.ro 8 b0_7), (i64 b0_8), (i64 b0_9), (AVal.ro 3 b0_10), (AVal.ro 6 b0_11), (AVal.ro 12 b0_12), (AVal.ro 9 b0_13), (AVal.ro 3 b0_14), (AVal.ro 4 b0_15)]]))]⟩))) (by kernel_rfl)
      (n_condH rfl (fun h0 => (n_condH rfl (fun h1 => (n_bind fun r => (n_condH rfl (fun h2 => (n_bind fun t => (n_condH rfl (fun h3 => (n_bind fun t1 => rfl)) fun h3 => (spec8_0 k m id (wr (i + (1 : Int))) b0_0 b0_1 b0_2 b0_3 b0_4 b0_5 b0_6 b0_7 b0_8 b0_9 b0_10 b0_11 b0_12 b0_13 b0_14 b0_15)))) fun h2 => n_none))) fun h1 => n_none)) fun h0 => rfl)
theorem okL8_0 : LoopOk TT TU GL0 C18 ownF L8 (lp Try.f8 0) :=
  loopOk_of ks8_0 hs8_0 W8_0 FU (fun s k => (G_skirmishlaw22_UpgradeOf_0 (roRows (cIa (rows0 (blkAt s.heap 0).2) 11)) FU (toI (cIa s.tmps 5))).bind (X8_0 (toI (cIa s.tmps 1)) (toI (cIa (rows0 (blkAt s.heap 0).2) 0)) (toI (cIa (rows0 (blkAt s.heap 0).2) 1)) (toI (cIa (rows0 (blkAt s.heap 0).2) 2)) (toB (cIa (rows0 (blkAt s.heap 0).2) 3)) (toI (cIa (rows0 (blkAt s.heap 0).2) 4)) (roRows (cIa (rows0 (blkAt s.heap 0).2) 5)) (roRows (cIa (rows0 (blkAt s.heap 0).2) 6)) (roRows (cIa (rows0 (blkAt s.heap 0).2) 7)) (toI (cIa (rows0 (blkAt s.heap 0).2) 8)) (toI (cIa (rows0 (blkAt s.heap 0).2) 9)) (roRows (cIa (rows0 (blkAt s.heap 0).2) 10)) (roRows (cIa (rows0 (blkAt s.heap 0).2) 11)) (roRows (cIa (rows0 (blkAt s.heap 0).2) 12)) (roRows (cIa (rows0 (blkAt s.heap 0).2) 13)) (roRows (cIa (rows0 (blkAt s.heap 0).2) 14)) (roRows (cIa (rows0 (blkAt s.heap 0).2) 15)) k)) (fun s k => by kernel_rfl) (fun s k => spec8_0 k FU (toI (cIa s.tmps 1)) (toI (cIa s.tmps 5)) (toI (cIa (rows0 (blkAt s.heap 0).2) 0)) (toI (cIa (rows0 (blkAt s.heap 0).2) 1)) (toI (cIa (rows0 (blkAt s.heap 0).2) 2)) (toB (cIa (rows0 (blkAt s.heap 0).2) 3)) (toI (cIa (rows0 (blkAt s.heap 0).2) 4)) (roRows (cIa (rows0 (blkAt s.heap 0).2) 5)) (roRows (cIa (rows0 (blkAt s.heap 0).2) 6)) (roRows (cIa (rows0 (blkAt s.heap 0).2) 7)) (toI (cIa (rows0 (blkAt s.heap 0).2) 8)) (toI (cIa (rows0 (blkAt s.heap 0).2) 9)) (roRows (cIa (rows0 (blkAt s.heap 0).2) 10)) (roRows (cIa (rows0 (blkAt s.heap 0).2) 11)) (roRows (cIa (rows0 (blkAt s.heap 0).2) 12)) (roRows (cIa (rows0 (blkAt s.heap 0).2) 13)) (roRows (cIa (rows0 (blkAt s.heap 0).2) 14)) (roRows (cIa (rows0 (blkAt s.heap 0).2) 15)))
theorem run8 (g_Turn : Int) (g_NextId : Int) (g_Winner : Int) (g_Paused : Bool) (g_Rng : Int) (g_Rules_Units : List (List AVal)) (g_Rules_Weapons : List (List AVal)) (g_Rules_Techs : List (List AVal)) (g_Map_W : Int) (g_Map_H : Int) (g_Map_Cells : List (List AVal)) (g_Players : List (List AVal)) (g_Units : List (List AVal)) (g_Shots : List (List AVal)) (g_Memories : List (List AVal)) (g_Scripts : List (List AVal)) (id : Int) : fcall TT TU GL0 C18 ownF true L8 Try.f8 [(.agg [(.sc (.int .i64 g_Turn)), (.sc (.int .i64 g_NextId)), (.sc (.int .i64 g_Winner)), (.sc (.bool g_Paused)), (.sc (.int .u64 g_Rng)), (.ro 19 g_Rules_Units), (.ro 6 g_Rules_Weapons), (.ro 8 g_Rules_Techs), (.sc (.int .i64 g_Map_W)), (.sc (.int .i64 g_Map_H)), (.ro 3 g_Map_Cells), (.ro 6 g_Players), (.ro 12 g_Units), (.ro 9 g_Shots), (.ro 3 g_Memories), (.ro 4 g_Scripts)]), (.sc (.int .i64 id))] = (F_skirmishlaw22_UpgradeOf g_Turn g_NextId g_Winner g_Paused g_Rng g_Rules_Units g_Rules_Weapons g_Rules_Techs g_Map_W g_Map_H g_Map_Cells g_Players g_Units g_Shots g_Memories g_Scripts id).bind fun t => some (enc8 t) :=
  Eq.trans (b := (Option.bind (F_skirmishlaw10_Huge g_Rules_Units g_Rules_Weapons g_Rules_Techs) fun t => (bif t then (Option.bind F_skirmishlaw22_awake fun t1 => (some (CR.mk true (bo t1) [] []))) else (bif (decide ((Int.ofNat g_Units.length) > (200 : Int))) then (Option.bind F_skirmishlaw22_awake fun t2 => (some (CR.mk true (bo t2) [] []))) else (bif (decide ((Int.ofNat g_Players.length) > (100 : Int))) then (Option.bind F_skirmishlaw22_awake fun t3 => (some (CR.mk true (bo t3) [] []))) else (Option.bind (G_skirmishlaw22_UpgradeOf_0 g_Players FU (0 : Int)) fun t4 => (bif t4.1 then (some (CR.mk true (bo t4.2) [] [])) else (Option.bind (F_upgrade_Of g_Turn g_NextId g_Winner g_Paused g_Rng g_Rules_Units g_Rules_Weapons g_Rules_Techs g_Map_W g_Map_H g_Map_Cells g_Players g_Units g_Shots g_Memories g_Scripts id) fun t5 => (bif ((((true && (verEq t5.1.length t5.1.length)) && true) && true) && true) then (bif ((((true && (verEq t5.2.1.length t5.2.1.length)) && true) && true) && true) then (bif ((((true && (verEq t5.2.2.1.length t5.2.2.1.length)) && true) && true) && true) then (Option.bind (F_skirmishref22_Of g_Turn g_NextId g_Winner g_Paused g_Rng g_Rules_Units g_Rules_Weapons g_Rules_Techs g_Map_W g_Map_H g_Map_Cells g_Players g_Units g_Shots g_Memories g_Scripts id) fun t6 => (bif (t5.2.2.2.2.2.2.2.2.2.2.2.2.2.2.2.2.2.2.2 == t6.2.2.2.2.2.2.2.2.2.2.2.2.2.2.2.2.2.2.2) then (bif (verEq t5.1.length t5.1.length) then (bif (verEq t5.2.1.length t5.2.1.length) then (bif (verEq t5.2.2.1.length t5.2.2.1.length) then (Option.bind (F_skirmishref09_SameUnit t5.2.2.2.1 t5.2.2.2.2.1 t5.2.2.2.2.2.1 t5.2.2.2.2.2.2.1 t5.2.2.2.2.2.2.2.1 t5.2.2.2.2.2.2.2.2.1 t5.2.2.2.2.2.2.2.2.2.1 t5.2.2.2.2.2.2.2.2.2.2.1 t5.2.2.2.2.2.2.2.2.2.2.2.1 t5.2.2.2.2.2.2.2.2.2.2.2.2.1 t5.2.2.2.2.2.2.2.2.2.2.2.2.2.1 t5.2.2.2.2.2.2.2.2.2.2.2.2.2.2.1 t5.2.2.2.2.2.2.2.2.2.2.2.2.2.2.2.1 t5.2.2.2.2.2.2.2.2.2.2.2.2.2.2.2.2.1 t5.2.2.2.2.2.2.2.2.2.2.2.2.2.2.2.2.2.1 t5.2.2.2.2.2.2.2.2.2.2.2.2.2.2.2.2.2.2.1 t5.1 t5.2.1 t5.2.2.1 t6.1 t6.2.1 t6.2.2.1 t6.2.2.2.1 t6.2.2.2.2.1 t6.2.2.2.2.2.1 t6.2.2.2.2.2.2.1 t6.2.2.2.2.2.2.2.1 t6.2.2.2.2.2.2.2.2.1 t6.2.2.2.2.2.2.2.2.2.1 t6.2.2.2.2.2.2.2.2.2.2.1 t6.2.2.2.2.2.2.2.2.2.2.2.1 t6.2.2.2.2.2.2.2.2.2.2.2.2.1 t6.2.2.2.2.2.2.2.2.2.2.2.2.2.1 t6.2.2.2.2.2.2.2.2.2.2.2.2.2.2.1 t6.2.2.2.2.2.2.2.2.2.2.2.2.2.2.2.1 t6.2.2.2.2.2.2.2.2.2.2.2.2.2.2.2.2.1 t6.2.2.2.2.2.2.2.2.2.2.2.2.2.2.2.2.2.1 t6.2.2.2.2.2.2.2.2.2.2.2.2.2.2.2.2.2.2.1) fun t7 => (bif t7 then (Option.bind F_skirmishlaw22_awake fun t8 => (some (CR.mk true (bo t8) [] []))) else (some (CR.mk true (bo false) [] [])))) else none) else none) else none) else (some (CR.mk true (bo false) [] [])))) else none) else none) else none))))))))) (by kernel_rfl)
    (n_bind fun t => (n_condH rfl (fun h0 => (n_bind fun t1 => rfl)) fun h0 => (n_condH rfl (fun h1 => (n_bind fun t2 => rfl)) fun h1 => (n_condH rfl (fun h2 => (n_bind fun t3 => rfl)) fun h2 => (n_bind fun t4 => (n_condH rfl (fun h3 => rfl) fun h3 => (n_bind fun t5 => (n_true (n_andL (n_andL (n_andL (n_andL rfl (verEq_rfl _)) rfl) rfl) rfl) (n_true (n_andL (n_andL (n_andL (n_andL rfl (verEq_rfl _)) rfl) rfl) rfl) (n_true (n_andL (n_andL (n_andL (n_andL rfl (verEq_rfl _)) rfl) rfl) rfl) (n_bind fun t6 => (n_condH rfl (fun h4 => (n_true (verEq_rfl _) (n_true (verEq_rfl _) (n_true (verEq_rfl _) (n_bind fun t7 => (n_condH rfl (fun h5 => (n_bind fun t8 => rfl)) fun h5 => rfl)))))) fun h4 => rfl))))))))))))
theorem lib8 : Lib Try.prog GL0 C8 :=
  Lib.fn lib18 mixed TT_ok Try.func8 (by decide +kernel) (by kernel_rfl) true L8 (loops_of 1 (by kernel_rfl) (belowS below0 okL8_0)) ks8 (F := fun us => F_skirmishlaw22_UpgradeOf (toI (cIa (aggL (cIa us 0)) 0)) (toI (cIa (aggL (cIa us 0)) 1)) (toI (cIa (aggL (cIa us 0)) 2)) (toB (cIa (aggL (cIa us 0)) 3)) (toI (cIa (aggL (cIa us 0)) 4)) (roRows (cIa (aggL (cIa us 0)) 5)) (roRows (cIa (aggL (cIa us 0)) 6)) (roRows (cIa (aggL (cIa us 0)) 7)) (toI (cIa (aggL (cIa us 0)) 8)) (toI (cIa (aggL (cIa us 0)) 9)) (roRows (cIa (aggL (cIa us 0)) 10)) (roRows (cIa (aggL (cIa us 0)) 11)) (roRows (cIa (aggL (cIa us 0)) 12)) (roRows (cIa (aggL (cIa us 0)) 13)) (roRows (cIa (aggL (cIa us 0)) 14)) (roRows (cIa (aggL (cIa us 0)) 15)) (toI (cIa us 1))) (fun us => rfl) (fun us => run8 (toI (cIa (aggL (cIa us 0)) 0)) (toI (cIa (aggL (cIa us 0)) 1)) (toI (cIa (aggL (cIa us 0)) 2)) (toB (cIa (aggL (cIa us 0)) 3)) (toI (cIa (aggL (cIa us 0)) 4)) (roRows (cIa (aggL (cIa us 0)) 5)) (roRows (cIa (aggL (cIa us 0)) 6)) (roRows (cIa (aggL (cIa us 0)) 7)) (toI (cIa (aggL (cIa us 0)) 8)) (toI (cIa (aggL (cIa us 0)) 9)) (roRows (cIa (aggL (cIa us 0)) 10)) (roRows (cIa (aggL (cIa us 0)) 11)) (roRows (cIa (aggL (cIa us 0)) 12)) (roRows (cIa (aggL (cIa us 0)) 13)) (roRows (cIa (aggL (cIa us 0)) 14)) (roRows (cIa (aggL (cIa us 0)) 15)) (toI (cIa us 1))) (fun t => rfl)

/-! ### 36: skirmish/skirmishref09.limits -/

noncomputable def W36_0 : Ex → List Bool
  | .ret => [false, false, true, false, false, false, false, false, false, false, false, false, false, false, false, false, false, false, false, false, false, false, false, false, false, false, false, false, false, false, false, false, false, false, false, false, false, false, false, false, false, false, false, false, false, false, false, false, false, false, false, false, false, false, false, false, false, false, false, false, false, false, false, false, false]
  | .exit n => bif Nat.beq n 0 then [false, true, false, false, false, false, false, false, false, false, false, false, false, false, false, false, false, false, false, false, false, false, false, false, false, false, false, false, false, false, false, false, false, false, false, false, false, false, false, false, false, false, false, false, false, false, false, false, false, false, false, false, false, false, false, false, false, false, false, false, false, false, false, false, false] else []
  | .normal => []
noncomputable def G_skirmishref09_limits_0 (b0_0 : List (List AVal)) : Nat → Int → Option (Bool)
  | 0, _ => none
  | m + 1, i =>
    bif (decide (i < (Int.ofNat b0_0.length))) then
      bif (decide ((0 : Int) ≤ i)) then
        Option.bind (b0_0[i.toNat]?) fun r =>
        bif (chk [LT.str, LT.bool, LT.bool, (LT.int IntKind.i64), (LT.int IntKind.i64), (LT.int IntKind.i64), (LT.int IntKind.i64), (LT.int IntKind.i64), (LT.int IntKind.i64), (LT.int IntKind.i64), (LT.int IntKind.i64), (LT.int IntKind.i64), LT.str, (LT.int IntKind.i64), (LT.int IntKind.i64), (LT.int IntKind.i64), (LT.sl 9 1), (LT.sl 9 1), (LT.sl 9 1)] r) then
          bif (decide ((Int.ofNat (cR r 16).length) > (4 : Int))) then
            some true
          else
          bif (decide ((Int.ofNat (cR r 17).length) > (4 : Int))) then
            some true
          else
          bif (decide ((Int.ofNat (cR r 18).length) > (4 : Int))) then
            some true
          else
          G_skirmishref09_limits_0 b0_0 m (wr (i + (1 : Int)))
        else
        none
      else
      none
    else
    some false
noncomputable def E36_0 (i : Int) (b0_0 : List (List AVal)) (b0_1 : List (List AVal)) (b0_2 : List (List AVal)) : St := ⟨[.dead, (.ref 16000 1 0 0), .dead, (.sc (.int .i64 i)), .dead, .dead, .dead, .dead, .dead, .dead, .dead, .dead, .dead, .dead, .dead, .dead, .dead, .dead, .dead, .dead, .dead, .dead, .dead, .dead, .dead, .dead, .dead, .dead, .dead, .dead, .dead, .dead, .dead, .dead, .dead, .dead, .dead, .dead, .dead, .dead, .dead, .dead, .dead, .dead, .dead, .dead, .dead, .dead, .dead, .dead, .dead, .dead, .dead, .dead, .dead, .dead, .dead, .dead, .dead, .dead, .dead, .dead, .dead, .dead, .dead], [(16000, ⟨.box, 26, 3, [[(.ro 19 b0_0), (.ro 6 b0_1), (.ro 8 b0_2)]]⟩)]⟩
noncomputable def X36_0 (b0_0 : List (List AVal)) (b0_1 : List (List AVal)) (b0_2 : List (List AVal)) (k : Ex → St → Option CR) (t : Bool) : Option CR := bif t then k .ret ⟨[.dead, .dead, (.sc (.bool false)), .dead, .dead, .dead, .dead, .dead, .dead, .dead, .dead, .dead, .dead, .dead, .dead, .dead, .dead, .dead, .dead, .dead, .dead, .dead, .dead, .dead, .dead, .dead, .dead, .dead, .dead, .dead, .dead, .dead, .dead, .dead, .dead, .dead, .dead, .dead, .dead, .dead, .dead, .dead, .dead, .dead, .dead, .dead, .dead, .dead, .dead, .dead, .dead, .dead, .dead, .dead, .dead, .dead, .dead, .dead, .dead, .dead, .dead, .dead, .dead, .dead, .dead], []⟩ else k (.exit 0) ⟨[.dead, (.ref 16000 1 0 0), .dead, .dead, .dead, .dead, .dead, .dead, .dead, .dead, .dead, .dead, .dead, .dead, .dead, .dead, .dead, .dead, .dead, .dead, .dead, .dead, .dead, .dead, .dead, .dead, .dead, .dead, .dead, .dead, .dead, .dead, .dead, .dead, .dead, .dead, .dead, .dead, .dead, .dead, .dead, .dead, .dead, .dead, .dead, .dead, .dead, .dead, .dead, .dead, .dead, .dead, .dead, .dead, .dead, .dead, .dead, .dead, .dead, .dead, .dead, .dead, .dead, .dead, .dead], [(16000, ⟨.box, 26, 3, [[(.ro 19 b0_0), (.ro 6 b0_1), (.ro 8 b0_2)]]⟩)]⟩
noncomputable def ks36_0 : List SK := [.f .dead, .f (.ref 16000 1 0 0), .f .dead, .f (.int .i64), .f .dead, .f .dead, .f .dead, .f .dead, .f .dead, .f .dead, .f .dead, .f .dead, .f .dead, .f .dead, .f .dead, .f .dead, .f .dead, .f .dead, .f .dead, .f .dead, .f .dead, .f .dead, .f .dead, .f .dead, .f .dead, .f .dead, .f .dead, .f .dead, .f .dead, .f .dead, .f .dead, .f .dead, .f .dead, .f .dead, .f .dead, .f .dead, .f .dead, .f .dead, .f .dead, .f .dead, .f .dead, .f .dead, .f .dead, .f .dead, .f .dead, .f .dead, .f .dead, .f .dead, .f .dead, .f .dead, .f .dead, .f .dead, .f .dead, .f .dead, .f .dead, .f .dead, .f .dead, .f .dead, .f .dead, .f .dead, .f .dead, .f .dead, .f .dead, .f .dead, .f .dead]
noncomputable def hs36_0 : List HK := [⟨16000, .box, 26, 3, some [.ro 19, .ro 6, .ro 8]⟩]
noncomputable def Lm36_0 (s : St) (k : Ex → St → Option CR) : Option CR := bif chkS ks36_0 hs36_0 s then (G_skirmishref09_limits_0 (roRows (cIa (rows0 (blkAt s.heap 0).2) 0)) FU (toI (cIa s.tmps 3))).bind (X36_0 (roRows (cIa (rows0 (blkAt s.heap 0).2) 0)) (roRows (cIa (rows0 (blkAt s.heap 0).2) 1)) (roRows (cIa (rows0 (blkAt s.heap 0).2) 2)) k) else none
noncomputable def L36_0 (s : St) (k : Ex → St → Option CR) : Option CR := Lm36_0 (maskS (maskOf ks36_0) s) k
noncomputable def W36_1 : Ex → List Bool
  | .ret => [false, false, true, false, false, false, false, false, false, false, false, false, false, false, false, false, false, false, false, false, false, false, false, false, false, false, false, false, false, false, false, false, false, false, false, false, false, false, false, false, false, false, false, false, false, false, false, false, false, false, false, false, false, false, false, false, false, false, false, false, false, false, false, false, false]
  | .exit n => bif Nat.beq n 2 then [false, false, false, false, false, false, false, false, false, false, false, false, false, false, false, false, false, false, false, false, false, false, false, false, false, false, false, false, false, false, false, false, false, false, false, false, false, false, false, false, false, false, false, false, false, false, false, false, false, false, false, false, false, false, false, false, false, false, false, false, false, false, false, false, false] else []
  | .normal => []
noncomputable def G_skirmishref09_limits_1 (b0_2 : List (List AVal)) : Nat → Int → Option (Bool)
  | 0, _ => none
  | m + 1, i =>
    bif (decide (i < (Int.ofNat b0_2.length))) then
      bif (decide ((0 : Int) ≤ i)) then
        Option.bind (b0_2[i.toNat]?) fun r =>
        bif (chk [LT.str, (LT.sl 9 1), (LT.int IntKind.i64), (LT.int IntKind.i64), (LT.int IntKind.i64), LT.str, (LT.int IntKind.i64), (LT.int IntKind.i64)] r) then
          bif (decide ((Int.ofNat (cR r 1).length) > (4 : Int))) then
            some true
          else
          G_skirmishref09_limits_1 b0_2 m (wr (i + (1 : Int)))
        else
        none
      else
      none
    else
    some false
noncomputable def E36_1 (i : Int) (b0_0 : List (List AVal)) (b0_1 : List (List AVal)) (b0_2 : List (List AVal)) : St := ⟨[.dead, (.ref 16000 1 0 0), .dead, .dead, .dead, (.sc (.int .i64 i)), .dead, .dead, .dead, .dead, .dead, .dead, .dead, .dead, .dead, .dead, .dead, .dead, .dead, .dead, .dead, .dead, .dead, .dead, .dead, .dead, .dead, .dead, .dead, .dead, .dead, .dead, .dead, .dead, .dead, .dead, .dead, .dead, .dead, .dead, .dead, .dead, .dead, .dead, .dead, .dead, .dead, .dead, .dead, .dead, .dead, .dead, .dead, .dead, .dead, .dead, .dead, .dead, .dead, .dead, .dead, .dead, .dead, .dead, .dead], [(16000, ⟨.box, 26, 3, [[(.ro 19 b0_0), (.ro 6 b0_1), (.ro 8 b0_2)]]⟩)]⟩
noncomputable def X36_1 (k : Ex → St → Option CR) (t : Bool) : Option CR := bif t then k .ret ⟨[.dead, .dead, (.sc (.bool false)), .dead, .dead, .dead, .dead, .dead, .dead, .dead, .dead, .dead, .dead, .dead, .dead, .dead, .dead, .dead, .dead, .dead, .dead, .dead, .dead, .dead, .dead, .dead, .dead, .dead, .dead, .dead, .dead, .dead, .dead, .dead, .dead, .dead, .dead, .dead, .dead, .dead, .dead, .dead, .dead, .dead, .dead, .dead, .dead, .dead, .dead, .dead, .dead, .dead, .dead, .dead, .dead, .dead, .dead, .dead, .dead, .dead, .dead, .dead, .dead, .dead, .dead], []⟩ else k (.exit 2) ⟨[.dead, .dead, .dead, .dead, .dead, .dead, .dead, .dead, .dead, .dead, .dead, .dead, .dead, .dead, .dead, .dead, .dead, .dead, .dead, .dead, .dead, .dead, .dead, .dead, .dead, .dead, .dead, .dead, .dead, .dead, .dead, .dead, .dead, .dead, .dead, .dead, .dead, .dead, .dead, .dead, .dead, .dead, .dead, .dead, .dead, .dead, .dead, .dead, .dead, .dead, .dead, .dead, .dead, .dead, .dead, .dead, .dead, .dead, .dead, .dead, .dead, .dead, .dead, .dead, .dead], []⟩
noncomputable def ks36_1 : List SK := [.f .dead, .f (.ref 16000 1 0 0), .f .dead, .f .dead, .f .dead, .f (.int .i64), .f .dead, .f .dead, .f .dead, .f .dead, .f .dead, .f .dead, .f .dead, .f .dead, .f .dead, .f .dead, .f .dead, .f .dead, .f .dead, .f .dead, .f .dead, .f .dead, .f .dead, .f .dead, .f .dead, .f .dead, .f .dead, .f .dead, .f .dead, .f .dead, .f .dead, .f .dead, .f .dead, .f .dead, .f .dead, .f .dead, .f .dead, .f .dead, .f .dead, .f .dead, .f .dead, .f .dead, .f .dead, .f .dead, .f .dead, .f .dead, .f .dead, .f .dead, .f .dead, .f .dead, .f .dead, .f .dead, .f .dead, .f .dead, .f .dead, .f .dead, .f .dead, .f .dead, .f .dead, .f .dead, .f .dead, .f .dead, .f .dead, .f .dead, .f .dead]
noncomputable def hs36_1 : List HK := [⟨16000, .box, 26, 3, some [.ro 19, .ro 6, .ro 8]⟩]
noncomputable def Lm36_1 (s : St) (k : Ex → St → Option CR) : Option CR := bif chkS ks36_1 hs36_1 s then (G_skirmishref09_limits_1 (roRows (cIa (rows0 (blkAt s.heap 0).2) 2)) FU (toI (cIa s.tmps 5))).bind (X36_1 k) else none
noncomputable def L36_1 (s : St) (k : Ex → St → Option CR) : Option CR := Lm36_1 (maskS (maskOf ks36_1) s) k

noncomputable def L36 : LT' := fun i s k => bif Nat.beq i 0 then L36_0 s k else bif Nat.beq i 2 then L36_1 s k else none

/-- 'skirmish/skirmishref09.limits' -/
noncomputable def F_skirmishref09_limits (r_Units : List (List AVal)) (r_Weapons : List (List AVal)) (r_Techs : List (List AVal)) : Option (Bool) :=
  bif (decide ((Int.ofNat r_Units.length) > (16 : Int))) then
    some false
  else
  bif (decide ((Int.ofNat r_Weapons.length) > (8 : Int))) then
    some false
  else
  bif (decide ((Int.ofNat r_Techs.length) > (12 : Int))) then
    some false
  else
  Option.bind (G_skirmishref09_limits_0 r_Units FU (0 : Int)) fun t =>
  bif t then
    some false
  else
  Option.bind (G_skirmishref09_limits_1 r_Techs FU (0 : Int)) fun t1 =>
  bif t1 then
    some false
  else
  some true
noncomputable def enc36 (t : Bool) : CR := ⟨true, (.sc (.bool t)), [], []⟩
noncomputable def ks36 : List SK := [.agg [.ro 19, .ro 6, .ro 8]]
noncomputable def S36 (us : List AVal) : Call := bif chkA ks36 us then Call.of (F_skirmishref09_limits (roRows (cIa (aggL (cIa us 0)) 0)) (roRows (cIa (aggL (cIa us 0)) 1)) (roRows (cIa (aggL (cIa us 0)) 2))) enc36 else Call.none
noncomputable def C36 := AI.ext 36 S36 C8

@[reducible] noncomputable def B36_0 := bodyOf TT TU GL0 C8 ownF L36 (lp Try.f36 0)
@[reducible] noncomputable def K36_0 (k : Ex → St → Option CR) : Ex → St → Option CR := fun e s => k e (maskS (W36_0 e) s)
theorem spec36_0 (k : Ex → St → Option CR) : ∀ (m : Nat) (i : Int) (b0_0 : List (List AVal)) (b0_1 : List (List AVal)) (b0_2 : List (List AVal)), loopN B36_0 m (E36_0 i b0_0 b0_1 b0_2) (K36_0 k) = (G_skirmishref09_limits_0 b0_0 m i).bind (X36_0 b0_0 b0_1 b0_2 k)
  | 0, _, _, _, _ => rfl
  | m + 1, i, b0_0, b0_1, b0_2 =>
    Eq.trans (b := (bif (decide (i < (Int.ofNat b0_0.length))) then (bif (decide ((0 : Int) ≤ i)) then (Option.bind (b0_0[i.toNat]?) fun r => (bif (chk [LT.str, LT.bool, LT.bool, (LT.int IntKind.i64), (LT.int IntKind.i64), (LT.int IntKind.i64), (LT.int IntKind.i64), (LT.int IntKind.i64), (LT.int IntKind.i64), (LT.int IntKind.i64), (LT.int IntKind.i64), (LT.int IntKind.i64), LT.str, (LT.int IntKind.i64), (LT.int IntKind.i64), (LT.int IntKind.i64), (LT.sl 9 1), (LT.sl 9 1), (LT.sl 9 1)] r) then (bif (decide ((Int.ofNat (cR r 16).length) > (4 : Int))) then (k .ret ⟨[.dead, .dead, (bo false), .dead, .dead, .dead, .dead, .dead, .dead, .dead, .dead, .dead, .dead, .dead, .dead, .dead, .dead, .dead, .dead, .dead, .dead, .dead, .dead, .dead, .dead, .dead, .dead, .dead, .dead, .dead, .dead, .dead, .dead, .dead, .dead, .dead, .dead, .dead, .dead, .dead, .dead, .dead, .dead, .dead, .dead, .dead, .dead, .dead, .dead, .dead, .dead, .dead, .dead, .dead, .dead, .dead, .dead, .dead, .dead, .dead, .dead, .dead, .dead, .dead, .dead], []⟩) else (bif (decide ((Int.ofNat (cR r 17).length) > (4 : Int))) then (k .ret ⟨[.dead, .dead, (bo false), .dead, .dead, .dead, .dead, .dead, .dead, .dead, .dead, .dead, .dead, .dead, .dead, .dead, .dead, .dead, .dead, .dead, .dead, .dead, .dead, .dead, .dead, .dead, .dead, .dead, .dead, .dead, .dead, .dead, .dead, .dead, .dead, .dead, .dead, .dead, .dead, .dead, .dead, .dead, .dead, .dead, .dead, .dead, .dead, .dead, .dead, .dead, .dead, .dead, .dead, .dead, .dead, .dead, .dead, .dead, .dead, .dead, .dead, .dead, .dead, .dead, .dead], []⟩) else (bif (decide ((Int.ofNat (cR r 18).length) > (4 : Int))) then (k .ret ⟨[.dead, .dead, (bo false), .dead, .dead, .dead, .dead, .dead, .dead, .dead, .dead, .dead, .dead, .dead, .dead, .dead, .dead, .dead, .dead, .dead, .dead, .dead, .dead, .dead, .dead, .dead, .dead, .dead, .dead, .dead, .dead, .dead, .dead, .dead, .dead, .dead, .dead, .dead, .dead, .dead, .dead, .dead, .dead, .dead, .dead, .dead, .dead, .dead, .dead, .dead, .dead, .dead, .dead, .dead, .dead, .dead, .dead, .dead, .dead, .dead, .dead, .dead, .dead, .dead, .dead], []⟩) else (loopN B36_0 m ⟨[.dead, (AVal.ref 16000 1 0 0), .dead, (i64 (wr (i + (1 : Int)))), .dead, .dead, .dead, .dead, .dead, .dead, .dead, .dead, .dead, .dead, .dead, .dead, .dead, .dead, .dead, .dead, .dead, .dead, .dead, .dead, .dead, .dead, .dead, .dead, .dead, .dead, .dead, .dead, .dead, .dead, .dead, .dead, .dead, .dead, .dead, .dead, .dead, .dead, .dead, .dead, .dead, .dead, .dead, .dead, .dead, .dead, .dead, .dead, .dead, .dead, .dead, .dead, .dead, .dead, .dead, .dead, .dead, .dead, .dead, .dead, .dead], [(Prod.mk 16000 (Blk.mk BKind.box 26 3 [[(AVal.ro 19 b0_0), (AVal.ro 6 b0_1), (AVal.ro 8 b0_2)]]))]⟩ (K36_0 k))))) else none)) else none) else (k (.exit 0) ⟨[.dead, (AVal.ref 16000 1 0 0), .dead, .dead, .dead, .dead, .dead, .dead, .dead, .dead, .dead, .dead, .dead, .dead, .dead, .dead, .dead, .dead, .dead, .dead, .dead, .dead, .dead, .dead, .dead, .dead, .dead, .dead, .dead, .dead, .dead, .dead, .dead, .dead, .dead, .dead, .dead, .dead, .dead, .dead, .dead, .dead, .dead, .dead, .dead, .dead, .dead, .dead, .dead, .dead, .dead, .dead, .dead, .dead, .dead, .dead, .dead, .dead, .dead, .dead, .dead, .dead, .dead, .dead, .dead], [(Prod.mk 16000 (Blk.mk BKind.box 26 3 [[(AVal.ro 19 b0_0), (AVal.ro 6 b0_1), (AVal.ro 8 b0_2)]]))]⟩))) (by kernel_rfl)
      (n_condH rfl (fun h0 => (n_condH rfl (fun h1 => (n_bind fun r => (n_condH rfl (fun h2 => (n_condH rfl (fun h3 => rfl) fun h3 => (n_condH rfl (fun h4 => rfl) fun h4 => (n_condH rfl (fun h5 => rfl) fun h5 => (spec36_0 k m (wr (i + (1 : Int))) b0_0 b0_1 b0_2))))) fun h2 => n_none))) fun h1 => n_none)) fun h0 => rfl)
theorem okL36_0 : LoopOk TT TU GL0 C8 ownF L36 (lp Try.f36 0) :=
  loopOk_of ks36_0 hs36_0 W36_0 FU (fun s k => (G_skirmishref09_limits_0 (roRows (cIa (rows0 (blkAt s.heap 0).2) 0)) FU (toI (cIa s.tmps 3))).bind (X36_0 (roRows (cIa (rows0 (blkAt s.heap 0).2) 0)) (roRows (cIa (rows0 (blkAt s.heap 0).2) 1)) (roRows (cIa (rows0 (blkAt s.heap 0).2) 2)) k)) (fun s k => by kernel_rfl) (fun s k => spec36_0 k FU (toI (cIa s.tmps 3)) (roRows (cIa (rows0 (blkAt s.heap 0).2) 0)) (roRows (cIa (rows0 (blkAt s.heap 0).2) 1)) (roRows (cIa (rows0 (blkAt s.heap 0).2) 2)))
@[reducible] noncomputable def B36_1 := bodyOf TT TU GL0 C8 ownF L36 (lp Try.f36 1)
@[reducible] noncomputable def K36_1 (k : Ex → St → Option CR) : Ex → St → Option CR := fun e s => k e (maskS (W36_1 e) s)
theorem spec36_1 (k : Ex → St → Option CR) : ∀ (m : Nat) (i : Int) (b0_0 : List (List AVal)) (b0_1 : List (List AVal)) (b0_2 : List (List AVal)), loopN B36_1 m (E36_1 i b0_0 b0_1 b0_2) (K36_1 k) = (G_skirmishref09_limits_1 b0_2 m i).bind (X36_1 k)
  | 0, _, _, _, _ => rfl
  | m + 1, i, b0_0, b0_1, b0_2 =>
    Eq.trans (b := (bif (decide (i < (Int.ofNat b0_2.length))) then (bif (decide ((0 : Int) ≤ i)) then (Option.bind (b0_2[i.toNat]?) fun r => (bif (chk [LT.str, (LT.sl 9 1), (LT.int IntKind.i64), (LT.int IntKind.i64), (LT.int IntKind.i64), LT.str, (LT.int IntKind.i64), (LT.int IntKind.i64)] r) then (bif (decide ((Int.ofNat (cR r 1).length) > (4 : Int))) then (k .ret ⟨[.dead, .dead, (bo false), .dead, .dead, .dead, .dead, .dead, .dead, .dead, .dead, .dead, .dead, .dead, .dead, .dead, .dead, .dead, .dead, .dead, .dead, .dead, .dead, .dead, .dead, .dead, .dead, .dead, .dead, .dead, .dead, .dead, .dead, .dead, .dead, .dead, .dead, .dead, .dead, .dead, .dead, .dead, .dead, .dead, .dead, .dead, .dead, .dead, .dead, .dead, .dead, .dead, .dead, .dead, .dead, .dead, .dead, .dead, .dead, .dead, .dead, .dead, .dead, .dead, .dead], []⟩) else (loopN B36_1 m ⟨[.dead, (AVal.ref 16000 1 0 0), .dead, .dead, .dead, (i64 (wr (i + (1 : Int)))), .dead, .dead, .dead, .dead, .dead, .dead, .dead, .dead, .dead, .dead, .dead, .dead, .dead, .dead, .dead, .dead, .dead, .dead, .dead, .dead, .dead, .dead, .dead, .dead, .dead, .dead, .dead, .dead, .dead, .dead, .dead, .dead, .dead, .dead, .dead, .dead, .dead, .dead, .dead, .dead, .dead, .dead, .dead, .dead, .dead, .dead, .dead, .dead, .dead, .dead, .dead, .dead, .dead, .dead, .dead, .dead, .dead, .dead, .dead], [(Prod.mk 16000 (Blk.mk BKind.box 26 3 [[(AVal.ro 19 b0_0), (AVal.ro 6 b0_1), (AVal.ro 8 b0_2)]]))]⟩ (K36_1 k))) else none)) else none) else (k (.exit 2) ⟨[.dead, .dead, .dead, .dead, .dead, .dead, .dead, .dead, .dead, .dead, .dead, .dead, .dead, .dead, .dead, .dead, .dead, .dead, .dead, .dead, .dead, .dead, .dead, .dead, .dead, .dead, .dead, .dead, .dead, .dead, .dead, .dead, .dead, .dead, .dead, .dead, .dead, .dead, .dead, .dead, .dead, .dead, .dead, .dead, .dead, .dead, .dead, .dead, .dead, .dead, .dead, .dead, .dead, .dead, .dead, .dead, .dead, .dead, .dead, .dead, .dead, .dead, .dead, .dead, .dead], []⟩))) (by kernel_rfl)
      (n_condH rfl (fun h0 => (n_condH rfl (fun h1 => (n_bind fun r => (n_condH rfl (fun h2 => (n_condH rfl (fun h3 => rfl) fun h3 => (spec36_1 k m (wr (i + (1 : Int))) b0_0 b0_1 b0_2))) fun h2 => n_none))) fun h1 => n_none)) fun h0 => rfl)
theorem okL36_1 : LoopOk TT TU GL0 C8 ownF L36 (lp Try.f36 1) :=
  loopOk_of ks36_1 hs36_1 W36_1 FU (fun s k => (G_skirmishref09_limits_1 (roRows (cIa (rows0 (blkAt s.heap 0).2) 2)) FU (toI (cIa s.tmps 5))).bind (X36_1 k)) (fun s k => by kernel_rfl) (fun s k => spec36_1 k FU (toI (cIa s.tmps 5)) (roRows (cIa (rows0 (blkAt s.heap 0).2) 0)) (roRows (cIa (rows0 (blkAt s.heap 0).2) 1)) (roRows (cIa (rows0 (blkAt s.heap 0).2) 2)))
theorem run36 (r_Units : List (List AVal)) (r_Weapons : List (List AVal)) (r_Techs : List (List AVal)) : fcall TT TU GL0 C8 ownF true L36 Try.f36 [(.agg [(.ro 19 r_Units), (.ro 6 r_Weapons), (.ro 8 r_Techs)])] = (F_skirmishref09_limits r_Units r_Weapons r_Techs).bind fun t => some (enc36 t) :=
  Eq.trans (b := (bif (decide ((Int.ofNat r_Units.length) > (16 : Int))) then (some (CR.mk true (bo false) [] [])) else (bif (decide ((Int.ofNat r_Weapons.length) > (8 : Int))) then (some (CR.mk true (bo false) [] [])) else (bif (decide ((Int.ofNat r_Techs.length) > (12 : Int))) then (some (CR.mk true (bo false) [] [])) else (Option.bind (G_skirmishref09_limits_0 r_Units FU (0 : Int)) fun t => (bif t then (some (CR.mk true (bo false) [] [])) else (Option.bind (G_skirmishref09_limits_1 r_Techs FU (0 : Int)) fun t1 => (bif t1 then (some (CR.mk true (bo false) [] [])) else (some (CR.mk true (bo true) [] [])))))))))) (by kernel_rfl)
    (n_condH rfl (fun h0 => rfl) fun h0 => (n_condH rfl (fun h1 => rfl) fun h1 => (n_condH rfl (fun h2 => rfl) fun h2 => (n_bind fun t => (n_condH rfl (fun h3 => rfl) fun h3 => (n_bind fun t1 => (n_condH rfl (fun h4 => rfl) fun h4 => rfl)))))))
theorem lib36 : Lib Try.prog GL0 C36 :=
  Lib.fn lib8 mixed TT_ok Try.func36 (by decide +kernel) (by kernel_rfl) true L36 (loops_of 2 (by kernel_rfl) (belowS (belowS below0 okL36_0) okL36_1)) ks36 (F := fun us => F_skirmishref09_limits (roRows (cIa (aggL (cIa us 0)) 0)) (roRows (cIa (aggL (cIa us 0)) 1)) (roRows (cIa (aggL (cIa us 0)) 2))) (fun us => rfl) (fun us => run36 (roRows (cIa (aggL (cIa us 0)) 0)) (roRows (cIa (aggL (cIa us 0)) 1)) (roRows (cIa (aggL (cIa us 0)) 2))) (fun t => rfl)

/-! ### 55: skirmish/skirmishref09.Units -/

noncomputable def W55_0 : Ex → List Bool
  | .ret => [false, false, true, false, false, false, false, false, false, false, false, false, false, false, false, false, false, false, false, false, false, false]
  | .exit n => bif Nat.beq n 0 then [false, false, false, true, false, false, false, false, false, false, false, false, false, false, false, false, false, false, false, false, false, false] else []
  | .normal => []
noncomputable def G_skirmishref09_Units_0 (b0_0 : List (List AVal)) : Nat → List (List AVal) → Int → Option (List (List AVal))
  | 0, _, _ => none
  | m + 1, R1, i =>
    bif (decide (i < (Int.ofNat b0_0.length))) then
      bif (decide ((0 : Int) ≤ i)) then
        Option.bind (b0_0[i.toNat]?) fun r =>
        bif (chk [LT.str, LT.bool, LT.bool, (LT.int IntKind.i64), (LT.int IntKind.i64), (LT.int IntKind.i64), (LT.int IntKind.i64), (LT.int IntKind.i64), (LT.int IntKind.i64), (LT.int IntKind.i64), (LT.int IntKind.i64), (LT.int IntKind.i64), LT.str, (LT.int IntKind.i64), (LT.int IntKind.i64), (LT.int IntKind.i64), (LT.sl 9 1), (LT.sl 9 1), (LT.sl 9 1)] r) then
          bif (roomOk (R1.length + 1) 16) then
            G_skirmishref09_Units_0 b0_0 m (R1 ++ [[(AVal.sc (Value.string (cS r 0)))]]) (wr (i + (1 : Int)))
          else
          none
        else
        none
      else
      none
    else
    some R1
noncomputable def E55_0 (R1 : List (List AVal)) (i : Int) (b0_0 : List (List AVal)) (b0_1 : List (List AVal)) (b0_2 : List (List AVal)) : St := ⟨[.dead, (.ref 16000 1 0 0), .dead, (.slc 19200 (R1).length), (.sc (.int .i64 i)), .dead, .dead, .dead, .dead, .dead, .dead, .dead, .dead, .dead, .dead, .dead, .dead, .dead, .dead, .dead, .dead, .dead], [(16000, ⟨.box, 26, 3, [[(.ro 19 b0_0), (.ro 6 b0_1), (.ro 8 b0_2)]]⟩), (19200, ⟨.arr, 9, 1, R1⟩)]⟩
noncomputable def X55_0 (k : Ex → St → Option CR) (t : List (List AVal)) : Option CR := k (.exit 0) ⟨[.dead, .dead, .dead, (.slc 19200 (t).length), .dead, .dead, .dead, .dead, .dead, .dead, .dead, .dead, .dead, .dead, .dead, .dead, .dead, .dead, .dead, .dead, .dead, .dead], [(19200, ⟨.arr, 9, 1, t⟩)]⟩
noncomputable def ks55_0 : List SK := [.f .dead, .f (.ref 16000 1 0 0), .f .dead, .f (.slc 19200 1), .f (.int .i64), .f .dead, .f .dead, .f .dead, .f .dead, .f .dead, .f .dead, .f .dead, .f .dead, .f .dead, .f .dead, .f .dead, .f .dead, .f .dead, .f .dead, .f .dead, .f .dead, .f .dead]
noncomputable def hs55_0 : List HK := [⟨16000, .box, 26, 3, some [.ro 19, .ro 6, .ro 8]⟩, ⟨19200, .arr, 9, 1, none⟩]
noncomputable def Lm55_0 (s : St) (k : Ex → St → Option CR) : Option CR := bif chkS ks55_0 hs55_0 s then (G_skirmishref09_Units_0 (roRows (cIa (rows0 (blkAt s.heap 0).2) 0)) FU (blkAt s.heap 1).2.rows (toI (cIa s.tmps 4))).bind (X55_0 k) else none
noncomputable def L55_0 (s : St) (k : Ex → St → Option CR) : Option CR := Lm55_0 (maskS (maskOf ks55_0) s) k

noncomputable def L55 : LT' := fun i s k => bif Nat.beq i 0 then L55_0 s k else none

/-- 'skirmish/skirmishref09.Units' -/
noncomputable def F_skirmishref09_Units (r_Units : List (List AVal)) (r_Weapons : List (List AVal)) (r_Techs : List (List AVal)) : Option (List (List AVal)) :=
  Option.bind (G_skirmishref09_Units_0 r_Units FU [] (0 : Int)) fun t =>
  some t
noncomputable def enc55 (t : List (List AVal)) : CR := ⟨true, (.slc 0 (t).length), [], [⟨.arr, 9, 1, t⟩]⟩
noncomputable def ks55 : List SK := [.agg [.ro 19, .ro 6, .ro 8]]
noncomputable def S55 (us : List AVal) : Call := bif chkA ks55 us then Call.of (F_skirmishref09_Units (roRows (cIa (aggL (cIa us 0)) 0)) (roRows (cIa (aggL (cIa us 0)) 1)) (roRows (cIa (aggL (cIa us 0)) 2))) enc55 else Call.none
noncomputable def C55 := AI.ext 55 S55 C36

@[reducible] noncomputable def B55_0 := bodyOf TT TU GL0 C36 ownF L55 (lp Try.f55 0)
@[reducible] noncomputable def K55_0 (k : Ex → St → Option CR) : Ex → St → Option CR := fun e s => k e (maskS (W55_0 e) s)
theorem spec55_0 (k : Ex → St → Option CR) : ∀ (m : Nat) (R1 : List (List AVal)) (i : Int) (b0_0 : List (List AVal)) (b0_1 : List (List AVal)) (b0_2 : List (List AVal)), loopN B55_0 m (E55_0 R1 i b0_0 b0_1 b0_2) (K55_0 k) = (G_skirmishref09_Units_0 b0_0 m R1 i).bind (X55_0 k)
  | 0, _, _, _, _, _ => rfl
  | m + 1, R1, i, b0_0, b0_1, b0_2 =>
    Eq.trans (b := (bif (decide (i < (Int.ofNat b0_0.length))) then (bif (decide ((0 : Int) ≤ i)) then (Option.bind (b0_0[i.toNat]?) fun r => (bif (chk [LT.str, LT.bool, LT.bool, (LT.int IntKind.i64), (LT.int IntKind.i64), (LT.int IntKind.i64), (LT.int IntKind.i64), (LT.int IntKind.i64), (LT.int IntKind.i64), (LT.int IntKind.i64), (LT.int IntKind.i64), (LT.int IntKind.i64), LT.str, (LT.int IntKind.i64), (LT.int IntKind.i64), (LT.int IntKind.i64), (LT.sl 9 1), (LT.sl 9 1), (LT.sl 9 1)] r) then (bif (((verEq R1.length R1.length) && true) && (roomOk (R1.length + 1) 16)) then (loopN B55_0 m ⟨[.dead, (AVal.ref 16000 1 0 0), .dead, (AVal.slc 19200 (R1 ++ [[(AVal.sc (Value.string (cS r 0)))]]).length), (i64 (wr (i + (1 : Int)))), .dead, .dead, .dead, .dead, .dead, .dead, .dead, .dead, .dead, .dead, .dead, .dead, .dead, .dead, .dead, .dead, .dead], [(Prod.mk 16000 (Blk.mk BKind.box 26 3 [[(AVal.ro 19 b0_0), (AVal.ro 6 b0_1), (AVal.ro 8 b0_2)]])), (Prod.mk 19200 (Blk.mk BKind.arr 9 1 (R1 ++ [[(AVal.sc (Value.string (cS r 0)))]])))]⟩ (K55_0 k)) else none) else none)) else none) else (k (.exit 0) ⟨[.dead, .dead, .dead, (AVal.slc 19200 R1.length), .dead, .dead, .dead, .dead, .dead, .dead, .dead, .dead, .dead, .dead, .dead, .dead, .dead, .dead, .dead, .dead, .dead, .dead], [(Prod.mk 19200 (Blk.mk BKind.arr 9 1 R1))]⟩))) (by kernel_rfl)
      (n_condH rfl (fun h0 => (n_condH rfl (fun h1 => (n_bind fun r => (n_condH rfl (fun h2 => (n_condH (n_andL (n_andL (verEq_rfl _) rfl) rfl) (fun h3 => (spec55_0 k m (R1 ++ [[(AVal.sc (Value.string (cS r 0)))]]) (wr (i + (1 : Int))) b0_0 b0_1 b0_2)) fun h3 => n_none)) fun h2 => n_none))) fun h1 => n_none)) fun h0 => rfl)
theorem okL55_0 : LoopOk TT TU GL0 C36 ownF L55 (lp Try.f55 0) :=
  loopOk_of ks55_0 hs55_0 W55_0 FU (fun s k => (G_skirmishref09_Units_0 (roRows (cIa (rows0 (blkAt s.heap 0).2) 0)) FU (blkAt s.heap 1).2.rows (toI (cIa s.tmps 4))).bind (X55_0 k)) (fun s k => by kernel_rfl) (fun s k => spec55_0 k FU (blkAt s.heap 1).2.rows (toI (cIa s.tmps 4)) (roRows (cIa (rows0 (blkAt s.heap 0).2) 0)) (roRows (cIa (rows0 (blkAt s.heap 0).2) 1)) (roRows (cIa (rows0 (blkAt s.heap 0).2) 2)))
theorem run55 (r_Units : List (List AVal)) (r_Weapons : List (List AVal)) (r_Techs : List (List AVal)) : fcall TT TU GL0 C36 ownF true L55 Try.f55 [(.agg [(.ro 19 r_Units), (.ro 6 r_Weapons), (.ro 8 r_Techs)])] = (F_skirmishref09_Units r_Units r_Weapons r_Techs).bind fun t => some (enc55 t) :=
  Eq.trans (b := (Option.bind (G_skirmishref09_Units_0 r_Units FU [] (0 : Int)) fun t => (bif (verEq t.length t.length) then (some (CR.mk true (AVal.slc 0 t.length) [] [(Blk.mk BKind.arr 9 1 t)])) else none))) (by kernel_rfl)
    (n_bind fun t => (n_true (verEq_rfl _) rfl))
theorem lib55 : Lib Try.prog GL0 C55 :=
  Lib.fn lib36 mixed TT_ok Try.func55 (by decide +kernel) (by kernel_rfl) true L55 (loops_of 1 (by kernel_rfl) (belowS below0 okL55_0)) ks55 (F := fun us => F_skirmishref09_Units (roRows (cIa (aggL (cIa us 0)) 0)) (roRows (cIa (aggL (cIa us 0)) 1)) (roRows (cIa (aggL (cIa us 0)) 2))) (fun us => rfl) (fun us => run55 (roRows (cIa (aggL (cIa us 0)) 0)) (roRows (cIa (aggL (cIa us 0)) 1)) (roRows (cIa (aggL (cIa us 0)) 2))) (fun t => rfl)

/-! ### 56: skirmish/skirmishref09.Weapons -/

noncomputable def W56_0 : Ex → List Bool
  | .ret => [false, false, true, false, false, false, false, false, false, false, false, false, false, false, false, false, false, false, false, false, false, false]
  | .exit n => bif Nat.beq n 0 then [false, false, false, true, false, false, false, false, false, false, false, false, false, false, false, false, false, false, false, false, false, false] else []
  | .normal => []
noncomputable def G_skirmishref09_Weapons_0 (b0_1 : List (List AVal)) : Nat → List (List AVal) → Int → Option (List (List AVal))
  | 0, _, _ => none
  | m + 1, R1, i =>
    bif (decide (i < (Int.ofNat b0_1.length))) then
      bif (decide ((0 : Int) ≤ i)) then
        Option.bind (b0_1[i.toNat]?) fun r =>
        bif (chk [LT.str, (LT.int IntKind.i64), (LT.int IntKind.i64), (LT.int IntKind.i64), (LT.int IntKind.i64), (LT.int IntKind.i64)] r) then
          bif (roomOk (R1.length + 1) 16) then
            G_skirmishref09_Weapons_0 b0_1 m (R1 ++ [[(AVal.sc (Value.string (cS r 0)))]]) (wr (i + (1 : Int)))
          else
          none
        else
        none
      else
      none
    else
    some R1
noncomputable def E56_0 (R1 : List (List AVal)) (i : Int) (b0_0 : List (List AVal)) (b0_1 : List (List AVal)) (b0_2 : List (List AVal)) : St := ⟨[.dead, (.ref 16000 1 0 0), .dead, (.slc 19200 (R1).length), (.sc (.int .i64 i)), .dead, .dead, .dead, .dead, .dead, .dead, .dead, .dead, .dead, .dead, .dead, .dead, .dead, .dead, .dead, .dead, .dead], [(16000, ⟨.box, 26, 3, [[(.ro 19 b0_0), (.ro 6 b0_1), (.ro 8 b0_2)]]⟩), (19200, ⟨.arr, 9, 1, R1⟩)]⟩
noncomputable def X56_0 (k : Ex → St → Option CR) (t : List (List AVal)) : Option CR := k (.exit 0) ⟨[.dead, .dead, .dead, (.slc 19200 (t).length), .dead, .dead, .dead, .dead, .dead, .dead, .dead, .dead, .dead, .dead, .dead, .dead, .dead, .dead, .dead, .dead, .dead, .dead], [(19200, ⟨.arr, 9, 1, t⟩)]⟩
noncomputable def ks56_0 : List SK := [.f .dead, .f (.ref 16000 1 0 0), .f .dead, .f (.slc 19200 1), .f (.int .i64), .f .dead, .f .dead, .f .dead, .f .dead, .f .dead, .f .dead, .f .dead, .f .dead, .f .dead, .f .dead, .f .dead, .f .dead, .f .dead, .f .dead, .f .dead, .f .dead, .f .dead]
noncomputable def hs56_0 : List HK := [⟨16000, .box, 26, 3, some [.ro 19, .ro 6, .ro 8]⟩, ⟨19200, .arr, 9, 1, none⟩]
noncomputable def Lm56_0 (s : St) (k : Ex → St → Option CR) : Option CR := bif chkS ks56_0 hs56_0 s then (G_skirmishref09_Weapons_0 (roRows (cIa (rows0 (blkAt s.heap 0).2) 1)) FU (blkAt s.heap 1).2.rows (toI (cIa s.tmps 4))).bind (X56_0 k) else none
noncomputable def L56_0 (s : St) (k : Ex → St → Option CR) : Option CR := Lm56_0 (maskS (maskOf ks56_0) s) k

noncomputable def L56 : LT' := fun i s k => bif Nat.beq i 0 then L56_0 s k else none

/-- 'skirmish/skirmishref09.Weapons' -/
noncomputable def F_skirmishref09_Weapons (r_Units : List (List AVal)) (r_Weapons : List (List AVal)) (r_Techs : List (List AVal)) : Option (List (List AVal)) :=
  Option.bind (G_skirmishref09_Weapons_0 r_Weapons FU [] (0 : Int)) fun t =>
  some t
noncomputable def enc56 (t : List (List AVal)) : CR := ⟨true, (.slc 0 (t).length), [], [⟨.arr, 9, 1, t⟩]⟩
noncomputable def ks56 : List SK := [.agg [.ro 19, .ro 6, .ro 8]]
noncomputable def S56 (us : List AVal) : Call := bif chkA ks56 us then Call.of (F_skirmishref09_Weapons (roRows (cIa (aggL (cIa us 0)) 0)) (roRows (cIa (aggL (cIa us 0)) 1)) (roRows (cIa (aggL (cIa us 0)) 2))) enc56 else Call.none
noncomputable def C56 := AI.ext 56 S56 C55

@[reducible] noncomputable def B56_0 := bodyOf TT TU GL0 C55 ownF L56 (lp Try.f56 0)
@[reducible] noncomputable def K56_0 (k : Ex → St → Option CR) : Ex → St → Option CR := fun e s => k e (maskS (W56_0 e) s)
theorem spec56_0 (k : Ex → St → Option CR) : ∀ (m : Nat) (R1 : List (List AVal)) (i : Int) (b0_0 : List (List AVal)) (b0_1 : List (List AVal)) (b0_2 : List (List AVal)), loopN B56_0 m (E56_0 R1 i b0_0 b0_1 b0_2) (K56_0 k) = (G_skirmishref09_Weapons_0 b0_1 m R1 i).bind (X56_0 k)
  | 0, _, _, _, _, _ => rfl
  | m + 1, R1, i, b0_0, b0_1, b0_2 =>
    Eq.trans (b := (bif (decide (i < (Int.ofNat b0_1.length))) then (bif (decide ((0 : Int) ≤ i)) then (Option.bind (b0_1[i.toNat]?) fun r => (bif (chk [LT.str, (LT.int IntKind.i64), (LT.int IntKind.i64), (LT.int IntKind.i64), (LT.int IntKind.i64), (LT.int IntKind.i64)] r) then (bif (((verEq R1.length R1.length) && true) && (roomOk (R1.length + 1) 16)) then (loopN B56_0 m ⟨[.dead, (AVal.ref 16000 1 0 0), .dead, (AVal.slc 19200 (R1 ++ [[(AVal.sc (Value.string (cS r 0)))]]).length), (i64 (wr (i + (1 : Int)))), .dead, .dead, .dead, .dead, .dead, .dead, .dead, .dead, .dead, .dead, .dead, .dead, .dead, .dead, .dead, .dead, .dead], [(Prod.mk 16000 (Blk.mk BKind.box 26 3 [[(AVal.ro 19 b0_0), (AVal.ro 6 b0_1), (AVal.ro 8 b0_2)]])), (Prod.mk 19200 (Blk.mk BKind.arr 9 1 (R1 ++ [[(AVal.sc (Value.string (cS r 0)))]])))]⟩ (K56_0 k)) else none) else none)) else none) else (k (.exit 0) ⟨[.dead, .dead, .dead, (AVal.slc 19200 R1.length), .dead, .dead, .dead, .dead, .dead, .dead, .dead, .dead, .dead, .dead, .dead, .dead, .dead, .dead, .dead, .dead, .dead, .dead], [(Prod.mk 19200 (Blk.mk BKind.arr 9 1 R1))]⟩))) (by kernel_rfl)
      (n_condH rfl (fun h0 => (n_condH rfl (fun h1 => (n_bind fun r => (n_condH rfl (fun h2 => (n_condH (n_andL (n_andL (verEq_rfl _) rfl) rfl) (fun h3 => (spec56_0 k m (R1 ++ [[(AVal.sc (Value.string (cS r 0)))]]) (wr (i + (1 : Int))) b0_0 b0_1 b0_2)) fun h3 => n_none)) fun h2 => n_none))) fun h1 => n_none)) fun h0 => rfl)
theorem okL56_0 : LoopOk TT TU GL0 C55 ownF L56 (lp Try.f56 0) :=
  loopOk_of ks56_0 hs56_0 W56_0 FU (fun s k => (G_skirmishref09_Weapons_0 (roRows (cIa (rows0 (blkAt s.heap 0).2) 1)) FU (blkAt s.heap 1).2.rows (toI (cIa s.tmps 4))).bind (X56_0 k)) (fun s k => by kernel_rfl) (fun s k => spec56_0 k FU (blkAt s.heap 1).2.rows (toI (cIa s.tmps 4)) (roRows (cIa (rows0 (blkAt s.heap 0).2) 0)) (roRows (cIa (rows0 (blkAt s.heap 0).2) 1)) (roRows (cIa (rows0 (blkAt s.heap 0).2) 2)))
theorem run56 (r_Units : List (List AVal)) (r_Weapons : List (List AVal)) (r_Techs : List (List AVal)) : fcall TT TU GL0 C55 ownF true L56 Try.f56 [(.agg [(.ro 19 r_Units), (.ro 6 r_Weapons), (.ro 8 r_Techs)])] = (F_skirmishref09_Weapons r_Units r_Weapons r_Techs).bind fun t => some (enc56 t) :=
  Eq.trans (b := (Option.bind (G_skirmishref09_Weapons_0 r_Weapons FU [] (0 : Int)) fun t => (bif (verEq t.length t.length) then (some (CR.mk true (AVal.slc 0 t.length) [] [(Blk.mk BKind.arr 9 1 t)])) else none))) (by kernel_rfl)
    (n_bind fun t => (n_true (verEq_rfl _) rfl))
theorem lib56 : Lib Try.prog GL0 C56 :=
  Lib.fn lib55 mixed TT_ok Try.func56 (by decide +kernel) (by kernel_rfl) true L56 (loops_of 1 (by kernel_rfl) (belowS below0 okL56_0)) ks56 (F := fun us => F_skirmishref09_Weapons (roRows (cIa (aggL (cIa us 0)) 0)) (roRows (cIa (aggL (cIa us 0)) 1)) (roRows (cIa (aggL (cIa us 0)) 2))) (fun us => rfl) (fun us => run56 (roRows (cIa (aggL (cIa us 0)) 0)) (roRows (cIa (aggL (cIa us 0)) 1)) (roRows (cIa (aggL (cIa us 0)) 2))) (fun t => rfl)

/-! ### 39: skirmish/skirmishref09.Techs -/

noncomputable def W39_0 : Ex → List Bool
  | .ret => [false, false, true, false, false, false, false, false, false, false, false, false, false, false, false, false, false, false, false, false, false, false]
  | .exit n => bif Nat.beq n 0 then [false, false, false, true, false, false, false, false, false, false, false, false, false, false, false, false, false, false, false, false, false, false] else []
  | .normal => []
noncomputable def G_skirmishref09_Techs_0 (b0_2 : List (List AVal)) : Nat → List (List AVal) → Int → Option (List (List AVal))
  | 0, _, _ => none
  | m + 1, R1, i =>
    bif (decide (i < (Int.ofNat b0_2.length))) then
      bif (decide ((0 : Int) ≤ i)) then
        Option.bind (b0_2[i.toNat]?) fun r =>
        bif (chk [LT.str, (LT.sl 9 1), (LT.int IntKind.i64), (LT.int IntKind.i64), (LT.int IntKind.i64), LT.str, (LT.int IntKind.i64), (LT.int IntKind.i64)] r) then
          bif (roomOk (R1.length + 1) 16) then
            G_skirmishref09_Techs_0 b0_2 m (R1 ++ [[(AVal.sc (Value.string (cS r 0)))]]) (wr (i + (1 : Int)))
          else
          none
        else
        none
      else
      none
    else
    some R1
noncomputable def E39_0 (R1 : List (List AVal)) (i : Int) (b0_0 : List (List AVal)) (b0_1 : List (List AVal)) (b0_2 : List (List AVal)) : St := ⟨[.dead, (.ref 16000 1 0 0), .dead, (.slc 19200 (R1).length), (.sc (.int .i64 i)), .dead, .dead, .dead, .dead, .dead, .dead, .dead, .dead, .dead, .dead, .dead, .dead, .dead, .dead, .dead, .dead, .dead], [(16000, ⟨.box, 26, 3, [[(.ro 19 b0_0), (.ro 6 b0_1), (.ro 8 b0_2)]]⟩), (19200, ⟨.arr, 9, 1, R1⟩)]⟩
noncomputable def X39_0 (k : Ex → St → Option CR) (t : List (List AVal)) : Option CR := k (.exit 0) ⟨[.dead, .dead, .dead, (.slc 19200 (t).length), .dead, .dead, .dead, .dead, .dead, .dead, .dead, .dead, .dead, .dead, .dead, .dead, .dead, .dead, .dead, .dead, .dead, .dead], [(19200, ⟨.arr, 9, 1, t⟩)]⟩
noncomputable def ks39_0 : List SK := [.f .dead, .f (.ref 16000 1 0 0), .f .dead, .f (.slc 19200 1), .f (.int .i64), .f .dead, .f .dead, .f .dead, .f .dead, .f .dead, .f .dead, .f .dead, .f .dead, .f .dead, .f .dead, .f .dead, .f .dead, .f .dead, .f .dead, .f .dead, .f .dead, .f .dead]
noncomputable def hs39_0 : List HK := [⟨16000, .box, 26, 3, some [.ro 19, .ro 6, .ro 8]⟩, ⟨19200, .arr, 9, 1, none⟩]
noncomputable def Lm39_0 (s : St) (k : Ex → St → Option CR) : Option CR := bif chkS ks39_0 hs39_0 s then (G_skirmishref09_Techs_0 (roRows (cIa (rows0 (blkAt s.heap 0).2) 2)) FU (blkAt s.heap 1).2.rows (toI (cIa s.tmps 4))).bind (X39_0 k) else none
noncomputable def L39_0 (s : St) (k : Ex → St → Option CR) : Option CR := Lm39_0 (maskS (maskOf ks39_0) s) k

noncomputable def L39 : LT' := fun i s k => bif Nat.beq i 0 then L39_0 s k else none

/-- 'skirmish/skirmishref09.Techs' -/
noncomputable def F_skirmishref09_Techs (r_Units : List (List AVal)) (r_Weapons : List (List AVal)) (r_Techs : List (List AVal)) : Option (List (List AVal)) :=
  Option.bind (G_skirmishref09_Techs_0 r_Techs FU [] (0 : Int)) fun t =>
  some t
noncomputable def enc39 (t : List (List AVal)) : CR := ⟨true, (.slc 0 (t).length), [], [⟨.arr, 9, 1, t⟩]⟩
noncomputable def ks39 : List SK := [.agg [.ro 19, .ro 6, .ro 8]]
noncomputable def S39 (us : List AVal) : Call := bif chkA ks39 us then Call.of (F_skirmishref09_Techs (roRows (cIa (aggL (cIa us 0)) 0)) (roRows (cIa (aggL (cIa us 0)) 1)) (roRows (cIa (aggL (cIa us 0)) 2))) enc39 else Call.none
noncomputable def C39 := AI.ext 39 S39 C56

@[reducible] noncomputable def B39_0 := bodyOf TT TU GL0 C56 ownF L39 (lp Try.f39 0)
@[reducible] noncomputable def K39_0 (k : Ex → St → Option CR) : Ex → St → Option CR := fun e s => k e (maskS (W39_0 e) s)
theorem spec39_0 (k : Ex → St → Option CR) : ∀ (m : Nat) (R1 : List (List AVal)) (i : Int) (b0_0 : List (List AVal)) (b0_1 : List (List AVal)) (b0_2 : List (List AVal)), loopN B39_0 m (E39_0 R1 i b0_0 b0_1 b0_2) (K39_0 k) = (G_skirmishref09_Techs_0 b0_2 m R1 i).bind (X39_0 k)
  | 0, _, _, _, _, _ => rfl
  | m + 1, R1, i, b0_0, b0_1, b0_2 =>
    Eq.trans (b := (bif (decide (i < (Int.ofNat b0_2.length))) then (bif (decide ((0 : Int) ≤ i)) then (Option.bind (b0_2[i.toNat]?) fun r => (bif (chk [LT.str, (LT.sl 9 1), (LT.int IntKind.i64), (LT.int IntKind.i64), (LT.int IntKind.i64), LT.str, (LT.int IntKind.i64), (LT.int IntKind.i64)] r) then (bif (((verEq R1.length R1.length) && true) && (roomOk (R1.length + 1) 16)) then (loopN B39_0 m ⟨[.dead, (AVal.ref 16000 1 0 0), .dead, (AVal.slc 19200 (R1 ++ [[(AVal.sc (Value.string (cS r 0)))]]).length), (i64 (wr (i + (1 : Int)))), .dead, .dead, .dead, .dead, .dead, .dead, .dead, .dead, .dead, .dead, .dead, .dead, .dead, .dead, .dead, .dead, .dead], [(Prod.mk 16000 (Blk.mk BKind.box 26 3 [[(AVal.ro 19 b0_0), (AVal.ro 6 b0_1), (AVal.ro 8 b0_2)]])), (Prod.mk 19200 (Blk.mk BKind.arr 9 1 (R1 ++ [[(AVal.sc (Value.string (cS r 0)))]])))]⟩ (K39_0 k)) else none) else none)) else none) else (k (.exit 0) ⟨[.dead, .dead, .dead, (AVal.slc 19200 R1.length), .dead, .dead, .dead, .dead, .dead, .dead, .dead, .dead, .dead, .dead, .dead, .dead, .dead, .dead, .dead, .dead, .dead, .dead], [(Prod.mk 19200 (Blk.mk BKind.arr 9 1 R1))]⟩))) (by kernel_rfl)
      (n_condH rfl (fun h0 => (n_condH rfl (fun h1 => (n_bind fun r => (n_condH rfl (fun h2 => (n_condH (n_andL (n_andL (verEq_rfl _) rfl) rfl) (fun h3 => (spec39_0 k m (R1 ++ [[(AVal.sc (Value.string (cS r 0)))]]) (wr (i + (1 : Int))) b0_0 b0_1 b0_2)) fun h3 => n_none)) fun h2 => n_none))) fun h1 => n_none)) fun h0 => rfl)
theorem okL39_0 : LoopOk TT TU GL0 C56 ownF L39 (lp Try.f39 0) :=
  loopOk_of ks39_0 hs39_0 W39_0 FU (fun s k => (G_skirmishref09_Techs_0 (roRows (cIa (rows0 (blkAt s.heap 0).2) 2)) FU (blkAt s.heap 1).2.rows (toI (cIa s.tmps 4))).bind (X39_0 k)) (fun s k => by kernel_rfl) (fun s k => spec39_0 k FU (blkAt s.heap 1).2.rows (toI (cIa s.tmps 4)) (roRows (cIa (rows0 (blkAt s.heap 0).2) 0)) (roRows (cIa (rows0 (blkAt s.heap 0).2) 1)) (roRows (cIa (rows0 (blkAt s.heap 0).2) 2)))
theorem run39 (r_Units : List (List AVal)) (r_Weapons : List (List AVal)) (r_Techs : List (List AVal)) : fcall TT TU GL0 C56 ownF true L39 Try.f39 [(.agg [(.ro 19 r_Units), (.ro 6 r_Weapons), (.ro 8 r_Techs)])] = (F_skirmishref09_Techs r_Units r_Weapons r_Techs).bind fun t => some (enc39 t) :=
  Eq.trans (b := (Option.bind (G_skirmishref09_Techs_0 r_Techs FU [] (0 : Int)) fun t => (bif (verEq t.length t.length) then (some (CR.mk true (AVal.slc 0 t.length) [] [(Blk.mk BKind.arr 9 1 t)])) else none))) (by kernel_rfl)
    (n_bind fun t => (n_true (verEq_rfl _) rfl))
theorem lib39 : Lib Try.prog GL0 C39 :=
  Lib.fn lib56 mixed TT_ok Try.func39 (by decide +kernel) (by kernel_rfl) true L39 (loops_of 1 (by kernel_rfl) (belowS below0 okL39_0)) ks39 (F := fun us => F_skirmishref09_Techs (roRows (cIa (aggL (cIa us 0)) 0)) (roRows (cIa (aggL (cIa us 0)) 1)) (roRows (cIa (aggL (cIa us 0)) 2))) (fun us => rfl) (fun us => run39 (roRows (cIa (aggL (cIa us 0)) 0)) (roRows (cIa (aggL (cIa us 0)) 1)) (roRows (cIa (aggL (cIa us 0)) 2))) (fun t => rfl)

/-! ### 57: skirmish/skirmishref09.Name -/

noncomputable def W57_0 : Ex → List Bool
  | .ret => [false, false, true, false, false, false, false, false, false, false, false, false, false, false, false, false, false, false, false, false, false, false, false, false, false, false, false, false, false, false, false, false, false, false, false, false, false, false, false, false, false, false, false, false, false, false, false, false, false, false, false, false]
  | .exit n => bif Nat.beq n 0 then [false, false, false, false, false, false, false, false, false, false, false, false, false, false, false, false, false, false, false, false, false, false, false, false, false, false, false, false, false, false, false, false, false, false, false, false, false, false, false, false, false, false, false, false, false, false, false, false, false, false, false, false] else []
  | .normal => []
noncomputable def G_skirmishref09_Name_0 (s1 : ByteArray) : Nat → Int → Option (Bool)
  | 0, _ => none
  | m + 1, i =>
    bif (decide (i < (Int.ofNat (ByteArray.size s1)))) then
      bif (decide ((0 : Int) ≤ i)) then
        bif (decide ((byteA s1 i) ≥ (97 : Int))) then
          bif (!(decide ((byteA s1 i) ≤ (122 : Int)))) then
            bif (decide ((byteA s1 i) ≥ (48 : Int))) then
              bif (!(decide ((byteA s1 i) ≤ (57 : Int)))) then
                bif ((byteA s1 i) != (95 : Int)) then
                  some true
                else
                G_skirmishref09_Name_0 s1 m (wr (i + (1 : Int)))
              else
              G_skirmishref09_Name_0 s1 m (wr (i + (1 : Int)))
            else
            bif ((byteA s1 i) != (95 : Int)) then
              some true
            else
            G_skirmishref09_Name_0 s1 m (wr (i + (1 : Int)))
          else
          G_skirmishref09_Name_0 s1 m (wr (i + (1 : Int)))
        else
        bif (decide ((byteA s1 i) ≥ (48 : Int))) then
          bif (!(decide ((byteA s1 i) ≤ (57 : Int)))) then
            bif ((byteA s1 i) != (95 : Int)) then
              some true
            else
            G_skirmishref09_Name_0 s1 m (wr (i + (1 : Int)))
          else
          G_skirmishref09_Name_0 s1 m (wr (i + (1 : Int)))
        else
        bif ((byteA s1 i) != (95 : Int)) then
          some true
        else
        G_skirmishref09_Name_0 s1 m (wr (i + (1 : Int)))
      else
      none
    else
    some false
noncomputable def E57_0 (s1 : ByteArray) (i : Int) : St := ⟨[(.sc (.string s1)), .dead, .dead, (.sc (.int .i64 i)), .dead, .dead, .dead, .dead, .dead, .dead, .dead, .dead, .dead, .dead, .dead, .dead, .dead, .dead, .dead, .dead, .dead, .dead, .dead, .dead, .dead, .dead, .dead, .dead, .dead, .dead, .dead, .dead, .dead, .dead, .dead, .dead, .dead, .dead, .dead, .dead, .dead, .dead, .dead, .dead, .dead, .dead, .dead, .dead, .dead, .dead, .dead, .dead], []⟩
noncomputable def X57_0 (k : Ex → St → Option CR) (t : Bool) : Option CR := bif t then k .ret ⟨[.dead, .dead, (.sc (.bool false)), .dead, .dead, .dead, .dead, .dead, .dead, .dead, .dead, .dead, .dead, .dead, .dead, .dead, .dead, .dead, .dead, .dead, .dead, .dead, .dead, .dead, .dead, .dead, .dead, .dead, .dead, .dead, .dead, .dead, .dead, .dead, .dead, .dead, .dead, .dead, .dead, .dead, .dead, .dead, .dead, .dead, .dead, .dead, .dead, .dead, .dead, .dead, .dead, .dead], []⟩ else k (.exit 0) ⟨[.dead, .dead, .dead, .dead, .dead, .dead, .dead, .dead, .dead, .dead, .dead, .dead, .dead, .dead, .dead, .dead, .dead, .dead, .dead, .dead, .dead, .dead, .dead, .dead, .dead, .dead, .dead, .dead, .dead, .dead, .dead, .dead, .dead, .dead, .dead, .dead, .dead, .dead, .dead, .dead, .dead, .dead, .dead, .dead, .dead, .dead, .dead, .dead, .dead, .dead, .dead, .dead], []⟩
noncomputable def ks57_0 : List SK := [.f (.str), .f .dead, .f .dead, .f (.int .i64), .f .dead, .f .dead, .f .dead, .f .dead, .f .dead, .f .dead, .f .dead, .f .dead, .f .dead, .f .dead, .f .dead, .f .dead, .f .dead, .f .dead, .f .dead, .f .dead, .f .dead, .f .dead, .f .dead, .f .dead, .f .dead, .f .dead, .f .dead, .f .dead, .f .dead, .f .dead, .f .dead, .f .dead, .f .dead, .f .dead, .f .dead, .f .dead, .f .dead, .f .dead, .f .dead, .f .dead, .f .dead, .f .dead, .f .dead, .f .dead, .f .dead, .f .dead, .f .dead, .f .dead, .f .dead, .f .dead, .f .dead, .f .dead]
noncomputable def hs57_0 : List HK := []
noncomputable def Lm57_0 (s : St) (k : Ex → St → Option CR) : Option CR := bif chkS ks57_0 hs57_0 s then (G_skirmishref09_Name_0 (toS (cIa s.tmps 0)) FU (toI (cIa s.tmps 3))).bind (X57_0 k) else none
noncomputable def L57_0 (s : St) (k : Ex → St → Option CR) : Option CR := Lm57_0 (maskS (maskOf ks57_0) s) k

noncomputable def L57 : LT' := fun i s k => bif Nat.beq i 0 then L57_0 s k else none

/-- 'skirmish/skirmishref09.Name' -/
noncomputable def F_skirmishref09_Name (s1 : ByteArray) : Option (Bool) :=
  bif (decide ((Int.ofNat (ByteArray.size s1)) < (1 : Int))) then
    some false
  else
  bif (decide ((Int.ofNat (ByteArray.size s1)) > (12 : Int))) then
    some false
  else
  bif (decide ((0 : Int) < (Int.ofNat (ByteArray.size s1)))) then
    bif (decide ((byteA s1 (0 : Int)) < (97 : Int))) then
      some false
    else
    bif (decide ((byteA s1 (0 : Int)) > (122 : Int))) then
      some false
    else
    Option.bind (G_skirmishref09_Name_0 s1 FU (0 : Int)) fun t =>
    bif t then
      some false
    else
    some true
  else
  none
noncomputable def enc57 (t : Bool) : CR := ⟨true, (.sc (.bool t)), [], []⟩
noncomputable def ks57 : List SK := [.f (.str)]
noncomputable def S57 (us : List AVal) : Call := bif chkA ks57 us then Call.of (F_skirmishref09_Name (toS (cIa us 0))) enc57 else Call.none
noncomputable def C57 := AI.ext 57 S57 C39

@[reducible] noncomputable def B57_0 := bodyOf TT TU GL0 C39 ownF L57 (lp Try.f57 0)
@[reducible] noncomputable def K57_0 (k : Ex → St → Option CR) : Ex → St → Option CR := fun e s => k e (maskS (W57_0 e) s)
theorem spec57_0 (k : Ex → St → Option CR) : ∀ (m : Nat) (s1 : ByteArray) (i : Int), loopN B57_0 m (E57_0 s1 i) (K57_0 k) = (G_skirmishref09_Name_0 s1 m i).bind (X57_0 k)
  | 0, _, _ => rfl
  | m + 1, s1, i =>
    Eq.trans (b := (bif (decide (i < (Int.ofNat (ByteArray.size s1)))) then (bif ((decide ((0 : Int) ≤ i)) && (decide (i < (Int.ofNat (ByteArray.size s1))))) then (bif (decide ((byteA s1 i) ≥ (97 : Int))) then (bif (!(decide ((byteA s1 i) ≤ (122 : Int)))) then (bif (decide ((byteA s1 i) ≥ (48 : Int))) then (bif (!(decide ((byteA s1 i) ≤ (57 : Int)))) then (bif ((byteA s1 i) != (95 : Int)) then (k .ret ⟨[.dead, .dead, (bo false), .dead, .dead, .dead, .dead, .dead, .dead, .dead, .dead, .dead, .dead, .dead, .dead, .dead, .dead, .dead, .dead, .dead, .dead, .dead, .dead, .dead, .dead, .dead, .dead, .dead, .dead, .dead, .dead, .dead, .dead, .dead, .dead, .dead, .dead, .dead, .dead, .dead, .dead, .dead, .dead, .dead, .dead, .dead, .dead, .dead, .dead, .dead, .dead, .dead], []⟩) else (loopN B57_0 m ⟨[(AVal.sc (Value.string s1)), .dead, .dead, (i64 (wr (i + (1 : Int)))), .dead, .dead, .dead, .dead, .dead, .dead, .dead, .dead, .dead, .dead, .dead, .dead, .dead, .dead, .dead, .dead, .dead, .dead, .dead, .dead, .dead, .dead, .dead, .dead, .dead, .dead, .dead, .dead, .dead, .dead, .dead, .dead, .dead, .dead, .dead, .dead, .dead, .dead, .dead, .dead, .dead, .dead, .dead, .dead, .dead, .dead, .dead, .dead], []⟩ (K57_0 k))) else (loopN B57_0 m ⟨[(AVal.sc (Value.string s1)), .dead, .dead, (i64 (wr (i + (1 : Int)))), .dead, .dead, .dead, .dead, .dead, .dead, .dead, .dead, .dead, .dead, .dead, .dead, .dead, .dead, .dead, .dead, .dead, .dead, .dead, .dead, .dead, .dead, .dead, .dead, .dead, .dead, .dead, .dead, .dead, .dead, .dead, .dead, .dead, .dead, .dead, .dead, .dead, .dead, .dead, .dead, .dead, .dead, .dead, .dead, .dead, .dead, .dead, .dead], []⟩ (K57_0 k))) else (bif ((byteA s1 i) != (95 : Int)) then (k .ret ⟨[.dead, .dead, (bo false), .dead, .dead, .dead, .dead, .dead, .dead, .dead, .dead, .dead, .dead, .dead, .dead, .dead, .dead, .dead, .dead, .dead, .dead, .dead, .dead, .dead, .dead, .dead, .dead, .dead, .dead, .dead, .dead, .dead, .dead, .dead, .dead, .dead, .dead, .dead, .dead, .dead, .dead, .dead, .dead, .dead, .dead, .dead, .dead, .dead, .dead, .dead, .dead, .dead], []⟩) else (loopN B57_0 m ⟨[(AVal.sc (Value.string s1)), .dead, .dead, (i64 (wr (i + (1 : Int)))), .dead, .dead, .dead, .dead, .dead, .dead, .dead, .dead, .dead, .dead, .dead, .dead, .dead, .dead, .dead, .dead, .dead, .dead, .dead, .dead, .dead, .dead, .dead, .dead, .dead, .dead, .dead, .dead, .dead, .dead, .dead, .dead, .dead, .dead, .dead, .dead, .dead, .dead, .dead, .dead, .dead, .dead, .dead, .dead, .dead, .dead, .dead, .dead], []⟩ (K57_0 k)))) else (loopN B57_0 m ⟨[(AVal.sc (Value.string s1)), .dead, .dead, (i64 (wr (i + (1 : Int)))), .dead, .dead, .dead, .dead, .dead, .dead, .dead, .dead, .dead, .dead, .dead, .dead, .dead, .dead, .dead, .dead, .dead, .dead, .dead, .dead, .dead, .dead, .dead, .dead, .dead, .dead, .dead, .dead, .dead, .dead, .dead, .dead, .dead, .dead, .dead, .dead, .dead, .dead, .dead, .dead, .dead, .dead, .dead, .dead, .dead, .dead, .dead, .dead], []⟩ (K57_0 k))) else (bif (decide ((byteA s1 i) ≥ (48 : Int))) then (bif (!(decide ((byteA s1 i) ≤ (57 : Int)))) then (bif ((byteA s1 i) != (95 : Int)) then (k .ret ⟨[.dead, .dead, (bo false), .dead, .dead, .dead, .dead, .dead, .dead, .dead, .dead, .dead, .dead, .dead, .dead, .dead, .dead, .dead, .dead, .dead, .dead, .dead, .dead, .dead, .dead, .dead, .dead, .dead, .dead, .dead, .dead, .dead, .dead, .dead, .dead, .dead, .dead, .dead, .dead, .dead, .dead, .dead, .dead, .dead, .dead, .dead, .dead, .dead, .dead, .dead, .dead, .dead], []⟩) else (loopN B57_0 m ⟨[(AVal.sc (Value.string s1)), .dead, .dead, (i64 (wr (i + (1 : Int)))), .dead, .dead, .dead, .dead, .dead, .dead, .dead, .dead, .dead, .dead, .dead, .dead, .dead, .dead, .dead, .dead, .dead, .dead, .dead, .dead, .dead, .dead, .dead, .dead, .dead, .dead, .dead, .dead, .dead, .dead, .dead, .dead, .dead, .dead, .dead, .dead, .dead, .dead, .dead, .dead, .dead, .dead, .dead, .dead, .dead, .dead, .dead, .dead], []⟩ (K57_0 k))) else (loopN B57_0 m ⟨[(AVal.sc (Value.string s1)), .dead, .dead, (i64 (wr (i + (1 : Int)))), .dead, .dead, .dead, .dead, .dead, .dead, .dead, .dead, .dead, .dead, .dead, .dead, .dead, .dead, .dead, .dead, .dead, .dead, .dead, .dead, .dead, .dead, .dead, .dead, .dead, .dead, .dead, .dead, .dead, .dead, .dead, .dead, .dead, .dead, .dead, .dead, .dead, .dead, .dead, .dead, .dead, .dead, .dead, .dead, .dead, .dead, .dead, .dead], []⟩ (K57_0 k))) else (bif ((byteA s1 i) != (95 : Int)) then (k .ret ⟨[.dead, .dead, (bo false), .dead, .dead, .dead, .dead, .dead, .dead, .dead, .dead, .dead, .dead, .dead, .dead, .dead, .dead, .dead, .dead, .dead, .dead, .dead, .dead, .dead, .dead, .dead, .dead, .dead, .dead, .dead, .dead, .dead, .dead, .dead, .dead, .dead, .dead, .dead, .dead, .dead, .dead, .dead, .dead, .dead, .dead, .dead, .dead, .dead, .dead, .dead, .dead, .dead], []⟩) else (loopN B57_0 m ⟨[(AVal.sc (Value.string s1)), .dead, .dead, (i64 (wr (i + (1 : Int)))), .dead, .dead, .dead, .dead, .dead, .dead, .dead, .dead, .dead, .dead, .dead, .dead, .dead, .dead, .dead, .dead, .dead, .dead, .dead, .dead, .dead, .dead, .dead, .dead, .dead, .dead, .dead, .dead, .dead, .dead, .dead, .dead, .dead, .dead, .dead, .dead, .dead, .dead, .dead, .dead, .dead, .dead, .dead, .dead, .dead, .dead, .dead, .dead], []⟩ (K57_0 k))))) else none) else (k (.exit 0) ⟨[.dead, .dead, .dead, .dead, .dead, .dead, .dead, .dead, .dead, .dead, .dead, .dead, .dead, .dead, .dead, .dead, .dead, .dead, .dead, .dead, .dead, .dead, .dead, .dead, .dead, .dead, .dead, .dead, .dead, .dead, .dead, .dead, .dead, .dead, .dead, .dead, .dead, .dead, .dead, .dead, .dead, .dead, .dead, .dead, .dead, .dead, .dead, .dead, .dead, .dead, .dead, .dead], []⟩))) (by kernel_rfl)
      (n_condH rfl (fun h0 => (n_condH (n_andR rfl h0) (fun h1 => (n_condH rfl (fun h2 => (n_condH rfl (fun h3 => (n_condH rfl (fun h4 => (n_condH rfl (fun h5 => (n_condH rfl (fun h6 => rfl) fun h6 => (spec57_0 k m s1 (wr (i + (1 : Int)))))) fun h5 => (spec57_0 k m s1 (wr (i + (1 : Int)))))) fun h4 => (n_condH rfl (fun h5 => rfl) fun h5 => (spec57_0 k m s1 (wr (i + (1 : Int))))))) fun h3 => (spec57_0 k m s1 (wr (i + (1 : Int)))))) fun h2 => (n_condH rfl (fun h3 => (n_condH rfl (fun h4 => (n_condH rfl (fun h5 => rfl) fun h5 => (spec57_0 k m s1 (wr (i + (1 : Int)))))) fun h4 => (spec57_0 k m s1 (wr (i + (1 : Int)))))) fun h3 => (n_condH rfl (fun h4 => rfl) fun h4 => (spec57_0 k m s1 (wr (i + (1 : Int)))))))) fun h1 => n_none)) fun h0 => rfl)
theorem okL57_0 : LoopOk TT TU GL0 C39 ownF L57 (lp Try.f57 0) :=
  loopOk_of ks57_0 hs57_0 W57_0 FU (fun s k => (G_skirmishref09_Name_0 (toS (cIa s.tmps 0)) FU (toI (cIa s.tmps 3))).bind (X57_0 k)) (fun s k => by kernel_rfl) (fun s k => spec57_0 k FU (toS (cIa s.tmps 0)) (toI (cIa s.tmps 3)))
theorem run57 (s1 : ByteArray) : fcall TT TU GL0 C39 ownF true L57 Try.f57 [(.sc (.string s1))] = (F_skirmishref09_Name s1).bind fun t => some (enc57 t) :=
  Eq.trans (b := (bif (decide ((Int.ofNat (ByteArray.size s1)) < (1 : Int))) then (some (CR.mk true (bo false) [] [])) else (bif (decide ((Int.ofNat (ByteArray.size s1)) > (12 : Int))) then (some (CR.mk true (bo false) [] [])) else (bif ((decide ((0 : Int) ≤ (0 : Int))) && (decide ((0 : Int) < (Int.ofNat (ByteArray.size s1))))) then (bif (decide ((byteA s1 (0 : Int)) < (97 : Int))) then (some (CR.mk true (bo false) [] [])) else (bif ((decide ((0 : Int) ≤ (0 : Int))) && (decide ((0 : Int) < (Int.ofNat (ByteArray.size s1))))) then (bif (decide ((byteA s1 (0 : Int)) > (122 : Int))) then (some (CR.mk true (bo false) [] [])) else (Option.bind (G_skirmishref09_Name_0 s1 FU (0 : Int)) fun t => (bif t then (some (CR.mk true (bo false) [] [])) else (some (CR.mk true (bo true) [] []))))) else none)) else none)))) (by kernel_rfl)
    (n_condH rfl (fun h0 => rfl) fun h0 => (n_condH rfl (fun h1 => rfl) fun h1 => (n_condH (n_andL (by kernel_rfl) rfl) (fun h2 => (n_condH rfl (fun h3 => rfl) fun h3 => (n_true (n_andL (by kernel_rfl) h2) (n_condH rfl (fun h4 => rfl) fun h4 => (n_bind fun t => (n_condH rfl (fun h5 => rfl) fun h5 => rfl)))))) fun h2 => n_none)))
theorem lib57 : Lib Try.prog GL0 C57 :=
  Lib.fn lib39 mixed TT_ok Try.func57 (by decide +kernel) (by kernel_rfl) true L57 (loops_of 1 (by kernel_rfl) (belowS below0 okL57_0)) ks57 (F := fun us => F_skirmishref09_Name (toS (cIa us 0))) (fun us => rfl) (fun us => run57 (toS (cIa us 0))) (fun t => rfl)

/-! ### 37: skirmish/skirmishref09.named -/

noncomputable def W37_0 : Ex → List Bool
  | .ret => [false, false, true, false, false, false, false, false, false, false, false, false, false, false, false, false, false, false, false, false, false, false, false, false, false]
  | .exit n => bif Nat.beq n 0 then [false, false, false, false, false, false, false, false, false, false, false, false, false, false, false, false, false, false, false, false, false, false, false, false, false] else []
  | .normal => []
noncomputable def G_skirmishref09_named_0 (R0 : List (List AVal)) : Nat → Int → Option (Bool)
  | 0, _ => none
  | m + 1, i =>
    bif (decide (i < (Int.ofNat R0.length))) then
      bif ((decide ((0 : Int) ≤ i)) && (decide (i < (Int.ofNat R0.length)))) then
        Option.bind (R0[i.toNat]?) fun r =>
        bif (chk [LT.str] r) then
          Option.bind (F_skirmishref09_Name (cS r 0)) fun t =>
          bif (!t) then
            some true
          else
          G_skirmishref09_named_0 R0 m (wr (i + (1 : Int)))
        else
        none
      else
      none
    else
    some false
noncomputable def E37_0 (R0 : List (List AVal)) (i : Int) : St := ⟨[.dead, .dead, .dead, (.slc 19216 (R0).length), (.sc (.int .i64 i)), .dead, .dead, .dead, .dead, .dead, .dead, .dead, .dead, .dead, .dead, .dead, .dead, .dead, .dead, .dead, .dead, .dead, .dead, .dead, .dead], [(19216, ⟨.arr, 9, 1, R0⟩)]⟩
noncomputable def X37_0 (k : Ex → St → Option CR) (t : Bool) : Option CR := bif t then k .ret ⟨[.dead, .dead, (.sc (.bool false)), .dead, .dead, .dead, .dead, .dead, .dead, .dead, .dead, .dead, .dead, .dead, .dead, .dead, .dead, .dead, .dead, .dead, .dead, .dead, .dead, .dead, .dead], []⟩ else k (.exit 0) ⟨[.dead, .dead, .dead, .dead, .dead, .dead, .dead, .dead, .dead, .dead, .dead, .dead, .dead, .dead, .dead, .dead, .dead, .dead, .dead, .dead, .dead, .dead, .dead, .dead, .dead], []⟩
noncomputable def ks37_0 : List SK := [.f .dead, .f .dead, .f .dead, .f (.slc 19216 0), .f (.int .i64), .f .dead, .f .dead, .f .dead, .f .dead, .f .dead, .f .dead, .f .dead, .f .dead, .f .dead, .f .dead, .f .dead, .f .dead, .f .dead, .f .dead, .f .dead, .f .dead, .f .dead, .f .dead, .f .dead, .f .dead]
noncomputable def hs37_0 : List HK := [⟨19216, .arr, 9, 1, none⟩]
noncomputable def Lm37_0 (s : St) (k : Ex → St → Option CR) : Option CR := bif chkS ks37_0 hs37_0 s then (G_skirmishref09_named_0 (blkAt s.heap 0).2.rows FU (toI (cIa s.tmps 4))).bind (X37_0 k) else none
noncomputable def L37_0 (s : St) (k : Ex → St → Option CR) : Option CR := Lm37_0 (maskS (maskOf ks37_0) s) k

noncomputable def L37 : LT' := fun i s k => bif Nat.beq i 0 then L37_0 s k else none

/-- 'skirmish/skirmishref09.named' -/
noncomputable def F_skirmishref09_named (r_Units : List (List AVal)) (r_Weapons : List (List AVal)) (r_Techs : List (List AVal)) : Option (Bool) :=
  Option.bind (F_skirmishref09_Units r_Units r_Weapons r_Techs) fun t =>
  Option.bind (F_skirmishref09_Weapons r_Units r_Weapons r_Techs) fun t1 =>
  bif (roomOk (t.length + t1.length) 16) then
    Option.bind (F_skirmishref09_Techs r_Units r_Weapons r_Techs) fun t2 =>
    bif (roomOk ((Blk.rows (Blk.mk BKind.arr 9 1 (t ++ t1))).length + t2.length) 16) then
      Option.bind (G_skirmishref09_named_0 (Blk.rows (Blk.mk BKind.arr 9 1 ((Blk.rows (Blk.mk BKind.arr 9 1 (t ++ t1))) ++ t2))) FU (0 : Int)) fun t3 =>
      bif t3 then
        some false
      else
      some true
    else
    none
  else
  none
noncomputable def enc37 (t : Bool) : CR := ⟨true, (.sc (.bool t)), [], []⟩
noncomputable def ks37 : List SK := [.agg [.ro 19, .ro 6, .ro 8]]
noncomputable def S37 (us : List AVal) : Call := bif chkA ks37 us then Call.of (F_skirmishref09_named (roRows (cIa (aggL (cIa us 0)) 0)) (roRows (cIa (aggL (cIa us 0)) 1)) (roRows (cIa (aggL (cIa us 0)) 2))) enc37 else Call.none
noncomputable def C37 := AI.ext 37 S37 C57

@[reducible] noncomputable def B37_0 := bodyOf TT TU GL0 C57 ownF L37 (lp Try.f37 0)
@[reducible] noncomputable def K37_0 (k : Ex → St → Option CR) : Ex → St → Option CR := fun e s => k e (maskS (W37_0 e) s)
theorem spec37_0 (k : Ex → St → Option CR) : ∀ (m : Nat) (R0 : List (List AVal)) (i : Int), loopN B37_0 m (E37_0 R0 i) (K37_0 k) = (G_skirmishref09_named_0 R0 m i).bind (X37_0 k)
  | 0, _, _ => rfl
  | m + 1, R0, i =>
    Eq.trans (b := (bif (verEq R0.length R0.length) then (bif (decide (i < (Int.ofNat R0.length))) then (bif (((verEq R0.length R0.length) && (decide ((0 : Int) ≤ i))) && (decide (i < (Int.ofNat R0.length)))) then (bif (verEq R0.length R0.length) then (Option.bind (R0[i.toNat]?) fun r => (bif (chk [LT.str] r) then (Option.bind (F_skirmishref09_Name (cS r 0)) fun t => (bif (!t) then (k .ret ⟨[.dead, .dead, (bo false), .dead, .dead, .dead, .dead, .dead, .dead, .dead, .dead, .dead, .dead, .dead, .dead, .dead, .dead, .dead, .dead, .dead, .dead, .dead, .dead, .dead, .dead], []⟩) else (loopN B37_0 m ⟨[.dead, .dead, .dead, (AVal.slc 19216 R0.length), (i64 (wr (i + (1 : Int)))), .dead, .dead, .dead, .dead, .dead, .dead, .dead, .dead, .dead, .dead, .dead, .dead, .dead, .dead, .dead, .dead, .dead, .dead, .dead, .dead], [(Prod.mk 19216 (Blk.mk BKind.arr 9 1 R0))]⟩ (K37_0 k)))) else none)) else none) else none) else (k (.exit 0) ⟨[.dead, .dead, .dead, .dead, .dead, .dead, .dead, .dead, .dead, .dead, .dead, .dead, .dead, .dead, .dead, .dead, .dead, .dead, .dead, .dead, .dead, .dead, .dead, .dead, .dead], []⟩)) else none)) (by kernel_rfl)
      (n_true (verEq_rfl _) (n_condH rfl (fun h0 => (n_condH (n_and (n_andL (verEq_rfl _) rfl) rfl) (fun h1 => (n_true (verEq_rfl _) (n_bind fun r => (n_condH rfl (fun h2 => (n_bind fun t => (n_condH rfl (fun h3 => rfl) fun h3 => (spec37_0 k m R0 (wr (i + (1 : Int))))))) fun h2 => n_none)))) fun h1 => n_none)) fun h0 => rfl))
theorem okL37_0 : LoopOk TT TU GL0 C57 ownF L37 (lp Try.f37 0) :=
  loopOk_of ks37_0 hs37_0 W37_0 FU (fun s k => (G_skirmishref09_named_0 (blkAt s.heap 0).2.rows FU (toI (cIa s.tmps 4))).bind (X37_0 k)) (fun s k => by kernel_rfl) (fun s k => spec37_0 k FU (blkAt s.heap 0).2.rows (toI (cIa s.tmps 4)))
theorem run37 (r_Units : List (List AVal)) (r_Weapons : List (List AVal)) (r_Techs : List (List AVal)) : fcall TT TU GL0 C57 ownF true L37 Try.f37 [(.agg [(.ro 19 r_Units), (.ro 6 r_Weapons), (.ro 8 r_Techs)])] = (F_skirmishref09_named r_Units r_Weapons r_Techs).bind fun t => some (enc37 t) :=
  Eq.trans (b := (Option.bind (F_skirmishref09_Units r_Units r_Weapons r_Techs) fun t => (bif ((((true && (verEq t.length t.length)) && true) && true) && true) then (Option.bind (F_skirmishref09_Weapons r_Units r_Weapons r_Techs) fun t1 => (bif ((((true && (verEq t1.length t1.length)) && true) && true) && true) then (bif (verEq t1.length t1.length) then (bif (((verEq t.length t.length) && true) && (roomOk (t.length + t1.length) 16)) then (Option.bind (F_skirmishref09_Techs r_Units r_Weapons r_Techs) fun t2 => (bif ((((true && (verEq t2.length t2.length)) && true) && true) && true) then (bif (verEq t2.length t2.length) then (bif (((verEq (Blk.rows (Blk.mk BKind.arr 9 1 (t ++ t1))).length (t ++ t1).length) && true) && (roomOk ((Blk.rows (Blk.mk BKind.arr 9 1 (t ++ t1))).length + t2.length) 16)) then (bif (((true && (verEq ((Blk.rows (Blk.mk BKind.arr 9 1 (t ++ t1))) ++ t2).length (blkLen [(Prod.mk 19216 (Blk.mk BKind.arr 9 1 ((Blk.rows (Blk.mk BKind.arr 9 1 (t ++ t1))) ++ t2)))] 0))) && true) && true) then (Option.bind (G_skirmishref09_named_0 (Blk.rows (Blk.mk BKind.arr 9 1 ((Blk.rows (Blk.mk BKind.arr 9 1 (t ++ t1))) ++ t2))) FU (0 : Int)) fun t3 => (bif t3 then (some (CR.mk true (bo false) [] [])) else (some (CR.mk true (bo true) [] [])))) else none) else none) else none) else none)) else none) else none) else none)) else none))) (by kernel_rfl)
    (n_bind fun t => (n_true (n_andL (n_andL (n_andL (n_andL rfl (verEq_rfl _)) rfl) rfl) rfl) (n_bind fun t1 => (n_true (n_andL (n_andL (n_andL (n_andL rfl (verEq_rfl _)) rfl) rfl) rfl) (n_true (verEq_rfl _) (n_condH (n_andL (n_andL (verEq_rfl _) rfl) rfl) (fun h0 => (n_bind fun t2 => (n_true (n_andL (n_andL (n_andL (n_andL rfl (verEq_rfl _)) rfl) rfl) rfl) (n_true (verEq_rfl _) (n_condH (n_andL (n_andL (by first | exact verEq_of rfl | simp [verEq, blkLen, blkAt]) rfl) rfl) (fun h1 => (n_true (n_andL (n_andL (n_andL rfl (by first | exact verEq_of rfl | simp [verEq, blkLen, blkAt])) rfl) rfl) (n_bind fun t3 => (n_condH rfl (fun h2 => rfl) fun h2 => rfl)))) fun h1 => n_none))))) fun h0 => n_none))))))
theorem lib37 : Lib Try.prog GL0 C37 :=
  Lib.fn lib57 mixed TT_ok Try.func37 (by decide +kernel) (by kernel_rfl) true L37 (loops_of 1 (by kernel_rfl) (belowS below0 okL37_0)) ks37 (F := fun us => F_skirmishref09_named (roRows (cIa (aggL (cIa us 0)) 0)) (roRows (cIa (aggL (cIa us 0)) 1)) (roRows (cIa (aggL (cIa us 0)) 2))) (fun us => rfl) (fun us => run37 (roRows (cIa (aggL (cIa us 0)) 0)) (roRows (cIa (aggL (cIa us 0)) 1)) (roRows (cIa (aggL (cIa us 0)) 2))) (fun t => rfl)

/-! ### 58: skirmish/skirmishref09.ascending -/

noncomputable def W58_0 : Ex → List Bool
  | .ret => [false, false, true, false, false, false, false, false, false, false, false, false, false, false, false, false, false, false, false, false]
  | .exit n => bif Nat.beq n 0 then [false, false, false, false, false, false, false, false, false, false, false, false, false, false, false, false, false, false, false, false] else []
  | .normal => []
noncomputable def G_skirmishref09_ascending_0 (l : List (List AVal)) : Nat → Int → Option (Bool)
  | 0, _ => none
  | m + 1, i =>
    bif (decide (i < (Int.ofNat l.length))) then
      bif (decide ((0 : Int) ≤ (wr (i - (1 : Int))))) then
        Option.bind (l[(wr (i - (1 : Int))).toNat]?) fun r =>
        bif (chk [LT.str] r) then
          bif (decide ((0 : Int) ≤ i)) then
            Option.bind (l[i.toNat]?) fun r1 =>
            bif (chk [LT.str] r1) then
              bif (!(Op.bytesLess (ByteArray.toList (cS r 0)) (ByteArray.toList (cS r1 0)))) then
                some true
              else
              G_skirmishref09_ascending_0 l m (wr (i + (1 : Int)))
            else
            none
          else
          none
        else
        none
      else
      none
    else
    some false
noncomputable def E58_0 (l : List (List AVal)) (i : Int) : St := ⟨[(.ro 1 l), .dead, .dead, (.sc (.int .i64 i)), .dead, .dead, .dead, .dead, .dead, .dead, .dead, .dead, .dead, .dead, .dead, .dead, .dead, .dead, .dead, .dead], []⟩
noncomputable def X58_0 (k : Ex → St → Option CR) (t : Bool) : Option CR := bif t then k .ret ⟨[.dead, .dead, (.sc (.bool false)), .dead, .dead, .dead, .dead, .dead, .dead, .dead, .dead, .dead, .dead, .dead, .dead, .dead, .dead, .dead, .dead, .dead], []⟩ else k (.exit 0) ⟨[.dead, .dead, .dead, .dead, .dead, .dead, .dead, .dead, .dead, .dead, .dead, .dead, .dead, .dead, .dead, .dead, .dead, .dead, .dead, .dead], []⟩
noncomputable def ks58_0 : List SK := [.f (.ro 1), .f .dead, .f .dead, .f (.int .i64), .f .dead, .f .dead, .f .dead, .f .dead, .f .dead, .f .dead, .f .dead, .f .dead, .f .dead, .f .dead, .f .dead, .f .dead, .f .dead, .f .dead, .f .dead, .f .dead]
noncomputable def hs58_0 : List HK := []
noncomputable def Lm58_0 (s : St) (k : Ex → St → Option CR) : Option CR := bif chkS ks58_0 hs58_0 s then (G_skirmishref09_ascending_0 (roRows (cIa s.tmps 0)) FU (toI (cIa s.tmps 3))).bind (X58_0 k) else none
noncomputable def L58_0 (s : St) (k : Ex → St → Option CR) : Option CR := Lm58_0 (maskS (maskOf ks58_0) s) k

noncomputable def L58 : LT' := fun i s k => bif Nat.beq i 0 then L58_0 s k else none

/-- 'skirmish/skirmishref09.ascending' -/
noncomputable def F_skirmishref09_ascending (l : List (List AVal)) : Option (Bool) :=
  Option.bind (G_skirmishref09_ascending_0 l FU (1 : Int)) fun t =>
  bif t then
    some false
  else
  some true
noncomputable def enc58 (t : Bool) : CR := ⟨true, (.sc (.bool t)), [], []⟩
noncomputable def ks58 : List SK := [.f (.ro 1)]
noncomputable def S58 (us : List AVal) : Call := bif chkA ks58 us then Call.of (F_skirmishref09_ascending (roRows (cIa us 0))) enc58 else Call.none
noncomputable def C58 := AI.ext 58 S58 C37

@[reducible] noncomputable def B58_0 := bodyOf TT TU GL0 C37 ownF L58 (lp Try.f58 0)
@[reducible] noncomputable def K58_0 (k : Ex → St → Option CR) : Ex → St → Option CR := fun e s => k e (maskS (W58_0 e) s)
theorem spec58_0 (k : Ex → St → Option CR) : ∀ (m : Nat) (l : List (List AVal)) (i : Int), loopN B58_0 m (E58_0 l i) (K58_0 k) = (G_skirmishref09_ascending_0 l m i).bind (X58_0 k)
  | 0, _, _ => rfl
  | m + 1, l, i =>
    Eq.trans (b := (bif (decide (i < (Int.ofNat l.length))) then (bif (decide ((0 : Int) ≤ (wr (i - (1 : Int))))) then (Option.bind (l[(wr (i - (1 : Int))).toNat]?) fun r => (bif (chk [LT.str] r) then (bif (decide ((0 : Int) ≤ i)) then (Option.bind (l[i.toNat]?) fun r1 => (bif (chk [LT.str] r1) then (bif (!(Op.bytesLess (ByteArray.toList (cS r 0)) (ByteArray.toList (cS r1 0)))) then (k .ret ⟨[.dead, .dead, (bo false), .dead, .dead, .dead, .dead, .dead, .dead, .dead, .dead, .dead, .dead, .dead, .dead, .dead, .dead, .dead, .dead, .dead], []⟩) else (loopN B58_0 m ⟨[(AVal.ro 1 l), .dead, .dead, (i64 (wr (i + (1 : Int)))), .dead, .dead, .dead, .dead, .dead, .dead, .dead, .dead, .dead, .dead, .dead, .dead, .dead, .dead, .dead, .dead], []⟩ (K58_0 k))) else none)) else none) else none)) else none) else (k (.exit 0) ⟨[.dead, .dead, .dead, .dead, .dead, .dead, .dead, .dead, .dead, .dead, .dead, .dead, .dead, .dead, .dead, .dead, .dead, .dead, .dead, .dead], []⟩))) (by kernel_rfl)
      (n_condH rfl (fun h0 => (n_condH rfl (fun h1 => (n_bind fun r => (n_condH rfl (fun h2 => (n_condH rfl (fun h3 => (n_bind fun r1 => (n_condH rfl (fun h4 => (n_condH rfl (fun h5 => rfl) fun h5 => (spec58_0 k m l (wr (i + (1 : Int)))))) fun h4 => n_none))) fun h3 => n_none)) fun h2 => n_none))) fun h1 => n_none)) fun h0 => rfl)
theorem okL58_0 : LoopOk TT TU GL0 C37 ownF L58 (lp Try.f58 0) :=
  loopOk_of ks58_0 hs58_0 W58_0 FU (fun s k => (G_skirmishref09_ascending_0 (roRows (cIa s.tmps 0)) FU (toI (cIa s.tmps 3))).bind (X58_0 k)) (fun s k => by kernel_rfl) (fun s k => spec58_0 k FU (roRows (cIa s.tmps 0)) (toI (cIa s.tmps 3)))
theorem run58 (l : List (List AVal)) : fcall TT TU GL0 C37 ownF true L58 Try.f58 [(.ro 1 l)] = (F_skirmishref09_ascending l).bind fun t => some (enc58 t) :=
  Eq.trans (b := (Option.bind (G_skirmishref09_ascending_0 l FU (1 : Int)) fun t => (bif t then (some (CR.mk true (bo false) [] [])) else (some (CR.mk true (bo true) [] []))))) (by kernel_rfl)
    (n_bind fun t => (n_condH rfl (fun h0 => rfl) fun h0 => rfl))
theorem lib58 : Lib Try.prog GL0 C58 :=
  Lib.fn lib37 mixed TT_ok Try.func58 (by decide +kernel) (by kernel_rfl) true L58 (loops_of 1 (by kernel_rfl) (belowS below0 okL58_0)) ks58 (F := fun us => F_skirmishref09_ascending (roRows (cIa us 0))) (fun us => rfl) (fun us => run58 (roRows (cIa us 0))) (fun t => rfl)

/-! ### 38: skirmish/skirmishref09.ordered -/

noncomputable def W38_0 : Ex → List Bool
  | .ret => [false, false, true, false, false, false, false, false, false, false, false, false, false, false, false, false, false, false, false, false, false, false, false, false, false, false, false, false, false, false, false, false, false, false, false, false, false, false, false, false, false, false, false, false, false, false, false, false, false, false, false, false, false, false, false, false, false, false, false, false, false, false, false, false, false, false]
  | .exit n => bif Nat.beq n 0 then [false, true, false, true, false, false, false, false, false, false, false, false, false, false, false, false, false, false, false, false, false, false, false, false, false, false, false, false, false, false, false, false, false, false, false, false, false, false, false, false, false, false, false, false, false, false, false, false, false, false, false, false, false, false, false, false, false, false, false, false, false, false, false, false, false, false] else []
  | .normal => []
noncomputable def G_skirmishref09_ordered_0 (b0_0 : List (List AVal)) : Nat → Bool → Int → Option (Bool)
  | 0, _, _ => none
  | m + 1, ok, i =>
    bif (decide (i < (Int.ofNat b0_0.length))) then
      bif (decide ((0 : Int) ≤ i)) then
        Option.bind (b0_0[i.toNat]?) fun r =>
        bif (chk [LT.str, LT.bool, LT.bool, (LT.int IntKind.i64), (LT.int IntKind.i64), (LT.int IntKind.i64), (LT.int IntKind.i64), (LT.int IntKind.i64), (LT.int IntKind.i64), (LT.int IntKind.i64), (LT.int IntKind.i64), (LT.int IntKind.i64), LT.str, (LT.int IntKind.i64), (LT.int IntKind.i64), (LT.int IntKind.i64), (LT.sl 9 1), (LT.sl 9 1), (LT.sl 9 1)] r) then
          bif ok then
            Option.bind (F_skirmishref09_ascending (roRows (AVal.ro 1 (cR r 16)))) fun t =>
            bif t then
              Option.bind (F_skirmishref09_ascending (roRows (AVal.ro 1 (cR r 17)))) fun t1 =>
              bif t1 then
                Option.bind (F_skirmishref09_ascending (roRows (AVal.ro 1 (cR r 18)))) fun t2 =>
                G_skirmishref09_ordered_0 b0_0 m t2 (wr (i + (1 : Int)))
              else
              G_skirmishref09_ordered_0 b0_0 m false (wr (i + (1 : Int)))
            else
            G_skirmishref09_ordered_0 b0_0 m false (wr (i + (1 : Int)))
          else
          G_skirmishref09_ordered_0 b0_0 m false (wr (i + (1 : Int)))
        else
        none
      else
      none
    else
    some ok
noncomputable def E38_0 (ok : Bool) (i : Int) (b0_0 : List (List AVal)) (b0_1 : List (List AVal)) (b0_2 : List (List AVal)) : St := ⟨[.dead, (.ref 16000 1 0 0), .dead, (.sc (.bool ok)), (.sc (.int .i64 i)), .dead, .dead, .dead, .dead, .dead, .dead, .dead, .dead, .dead, .dead, .dead, .dead, .dead, .dead, .dead, .dead, .dead, .dead, .dead, .dead, .dead, .dead, .dead, .dead, .dead, .dead, .dead, .dead, .dead, .dead, .dead, .dead, .dead, .dead, .dead, .dead, .dead, .dead, .dead, .dead, .dead, .dead, .dead, .dead, .dead, .dead, .dead, .dead, .dead, .dead, .dead, .dead, .dead, .dead, .dead, .dead, .dead, .dead, .dead, .dead, .dead], [(16000, ⟨.box, 26, 3, [[(.ro 19 b0_0), (.ro 6 b0_1), (.ro 8 b0_2)]]⟩)]⟩
noncomputable def X38_0 (b0_0 : List (List AVal)) (b0_1 : List (List AVal)) (b0_2 : List (List AVal)) (k : Ex → St → Option CR) (t : Bool) : Option CR := k (.exit 0) ⟨[.dead, (.ref 16000 1 0 0), .dead, (.sc (.bool t)), .dead, .dead, .dead, .dead, .dead, .dead, .dead, .dead, .dead, .dead, .dead, .dead, .dead, .dead, .dead, .dead, .dead, .dead, .dead, .dead, .dead, .dead, .dead, .dead, .dead, .dead, .dead, .dead, .dead, .dead, .dead, .dead, .dead, .dead, .dead, .dead, .dead, .dead, .dead, .dead, .dead, .dead, .dead, .dead, .dead, .dead, .dead, .dead, .dead, .dead, .dead, .dead, .dead, .dead, .dead, .dead, .dead, .dead, .dead, .dead, .dead, .dead], [(16000, ⟨.box, 26, 3, [[(.ro 19 b0_0), (.ro 6 b0_1), (.ro 8 b0_2)]]⟩)]⟩
noncomputable def ks38_0 : List SK := [.f .dead, .f (.ref 16000 1 0 0), .f .dead, .f (.bool), .f (.int .i64), .f .dead, .f .dead, .f .dead, .f .dead, .f .dead, .f .dead, .f .dead, .f .dead, .f .dead, .f .dead, .f .dead, .f .dead, .f .dead, .f .dead, .f .dead, .f .dead, .f .dead, .f .dead, .f .dead, .f .dead, .f .dead, .f .dead, .f .dead, .f .dead, .f .dead, .f .dead, .f .dead, .f .dead, .f .dead, .f .dead, .f .dead, .f .dead, .f .dead, .f .dead, .f .dead, .f .dead, .f .dead, .f .dead, .f .dead, .f .dead, .f .dead, .f .dead, .f .dead, .f .dead, .f .dead, .f .dead, .f .dead, .f .dead, .f .dead, .f .dead, .f .dead, .f .dead, .f .dead, .f .dead, .f .dead, .f .dead, .f .dead, .f .dead, .f .dead, .f .dead, .f .dead]
noncomputable def hs38_0 : List HK := [⟨16000, .box, 26, 3, some [.ro 19, .ro 6, .ro 8]⟩]
noncomputable def Lm38_0 (s : St) (k : Ex → St → Option CR) : Option CR := bif chkS ks38_0 hs38_0 s then (G_skirmishref09_ordered_0 (roRows (cIa (rows0 (blkAt s.heap 0).2) 0)) FU (toB (cIa s.tmps 3)) (toI (cIa s.tmps 4))).bind (X38_0 (roRows (cIa (rows0 (blkAt s.heap 0).2) 0)) (roRows (cIa (rows0 (blkAt s.heap 0).2) 1)) (roRows (cIa (rows0 (blkAt s.heap 0).2) 2)) k) else none
noncomputable def L38_0 (s : St) (k : Ex → St → Option CR) : Option CR := Lm38_0 (maskS (maskOf ks38_0) s) k
noncomputable def W38_1 : Ex → List Bool
  | .ret => [false, false, true, false, false, false, false, false, false, false, false, false, false, false, false, false, false, false, false, false, false, false, false, false, false, false, false, false, false, false, false, false, false, false, false, false, false, false, false, false, false, false, false, false, false, false, false, false, false, false, false, false, false, false, false, false, false, false, false, false, false, false, false, false, false, false]
  | .exit n => bif Nat.beq n 2 then [false, false, false, true, false, false, false, false, false, false, false, false, false, false, false, false, false, false, false, false, false, false, false, false, false, false, false, false, false, false, false, false, false, false, false, false, false, false, false, false, false, false, false, false, false, false, false, false, false, false, false, false, false, false, false, false, false, false, false, false, false, false, false, false, false, false] else []
  | .normal => []
noncomputable def G_skirmishref09_ordered_1 (b0_2 : List (List AVal)) : Nat → Bool → Int → Option (Bool)
  | 0, _, _ => none
  | m + 1, ok, i =>
    bif (decide (i < (Int.ofNat b0_2.length))) then
      bif ok then
        bif (decide ((0 : Int) ≤ i)) then
          Option.bind (b0_2[i.toNat]?) fun r =>
          bif (chk [LT.str, (LT.sl 9 1), (LT.int IntKind.i64), (LT.int IntKind.i64), (LT.int IntKind.i64), LT.str, (LT.int IntKind.i64), (LT.int IntKind.i64)] r) then
            Option.bind (F_skirmishref09_ascending (roRows (AVal.ro 1 (cR r 1)))) fun t =>
            G_skirmishref09_ordered_1 b0_2 m t (wr (i + (1 : Int)))
          else
          none
        else
        none
      else
      G_skirmishref09_ordered_1 b0_2 m false (wr (i + (1 : Int)))
    else
    some ok
noncomputable def E38_1 (ok : Bool) (i : Int) (b0_0 : List (List AVal)) (b0_1 : List (List AVal)) (b0_2 : List (List AVal)) : St := ⟨[.dead, (.ref 16000 1 0 0), .dead, (.sc (.bool ok)), .dead, .dead, (.sc (.int .i64 i)), .dead, .dead, .dead, .dead, .dead, .dead, .dead, .dead, .dead, .dead, .dead, .dead, .dead, .dead, .dead, .dead, .dead, .dead, .dead, .dead, .dead, .dead, .dead, .dead, .dead, .dead, .dead, .dead, .dead, .dead, .dead, .dead, .dead, .dead, .dead, .dead, .dead, .dead, .dead, .dead, .dead, .dead, .dead, .dead, .dead, .dead, .dead, .dead, .dead, .dead, .dead, .dead, .dead, .dead, .dead, .dead, .dead, .dead, .dead], [(16000, ⟨.box, 26, 3, [[(.ro 19 b0_0), (.ro 6 b0_1), (.ro 8 b0_2)]]⟩)]⟩
noncomputable def X38_1 (k : Ex → St → Option CR) (t : Bool) : Option CR := k (.exit 2) ⟨[.dead, .dead, .dead, (.sc (.bool t)), .dead, .dead, .dead, .dead, .dead, .dead, .dead, .dead, .dead, .dead, .dead, .dead, .dead, .dead, .dead, .dead, .dead, .dead, .dead, .dead, .dead, .dead, .dead, .dead, .dead, .dead, .dead, .dead, .dead, .dead, .dead, .dead, .dead, .dead, .dead, .dead, .dead, .dead, .dead, .dead, .dead, .dead, .dead, .dead, .dead, .dead, .dead, .dead, .dead, .dead, .dead, .dead, .dead, .dead, .dead, .dead, .dead, .dead, .dead, .dead, .dead, .dead], []⟩
noncomputable def ks38_1 : List SK := [.f .dead, .f (.ref 16000 1 0 0), .f .dead, .f (.bool), .f .dead, .f .dead, .f (.int .i64), .f .dead, .f .dead, .f .dead, .f .dead, .f .dead, .f .dead, .f .dead, .f .dead, .f .dead, .f .dead, .f .dead, .f .dead, .f .dead, .f .dead, .f .dead, .f .dead, .f .dead, .f .dead, .f .dead, .f .dead, .f .dead, .f .dead, .f .dead, .f .dead, .f .dead, .f .dead, .f .dead, .f .dead, .f .dead, .f .dead, .f .dead, .f .dead, .f .dead, .f .dead, .f .dead, .f .dead, .f .dead, .f .dead, .f .dead, .f .dead, .f .dead, .f .dead, .f .dead, .f .dead, .f .dead, .f .dead, .f .dead, .f .dead, .f .dead, .f .dead, .f .dead, .f .dead, .f .dead, .f .dead, .f .dead, .f .dead, .f .dead, .f .dead, .f .dead]
noncomputable def hs38_1 : List HK := [⟨16000, .box, 26, 3, some [.ro 19, .ro 6, .ro 8]⟩]
noncomputable def Lm38_1 (s : St) (k : Ex → St → Option CR) : Option CR := bif chkS ks38_1 hs38_1 s then (G_skirmishref09_ordered_1 (roRows (cIa (rows0 (blkAt s.heap 0).2) 2)) FU (toB (cIa s.tmps 3)) (toI (cIa s.tmps 6))).bind (X38_1 k) else none
noncomputable def L38_1 (s : St) (k : Ex → St → Option CR) : Option CR := Lm38_1 (maskS (maskOf ks38_1) s) k

noncomputable def L38 : LT' := fun i s k => bif Nat.beq i 0 then L38_0 s k else bif Nat.beq i 2 then L38_1 s k else none

/-- 'skirmish/skirmishref09.ordered' -/
noncomputable def F_skirmishref09_ordered (r_Units : List (List AVal)) (r_Weapons : List (List AVal)) (r_Techs : List (List AVal)) : Option (Bool) :=
  Option.bind (F_skirmishref09_Units r_Units r_Weapons r_Techs) fun t =>
  Option.bind (F_skirmishref09_ascending t) fun t1 =>
  bif t1 then
    Option.bind (F_skirmishref09_Weapons r_Units r_Weapons r_Techs) fun t2 =>
    Option.bind (F_skirmishref09_ascending t2) fun t3 =>
    bif t3 then
      Option.bind (F_skirmishref09_Techs r_Units r_Weapons r_Techs) fun t4 =>
      Option.bind (F_skirmishref09_ascending t4) fun t5 =>
      Option.bind (G_skirmishref09_ordered_0 r_Units FU t5 (0 : Int)) fun t6 =>
      Option.bind (G_skirmishref09_ordered_1 r_Techs FU t6 (0 : Int)) fun t7 =>
      some t7
    else
    Option.bind (G_skirmishref09_ordered_0 r_Units FU false (0 : Int)) fun t8 =>
    Option.bind (G_skirmishref09_ordered_1 r_Techs FU t8 (0 : Int)) fun t9 =>
    some t9
  else
  Option.bind (G_skirmishref09_ordered_0 r_Units FU false (0 : Int)) fun t10 =>
  Option.bind (G_skirmishref09_ordered_1 r_Techs FU t10 (0 : Int)) fun t11 =>
  some t11
noncomputable def enc38 (t : Bool) : CR := ⟨true, (.sc (.bool t)), [], []⟩
noncomputable def ks38 : List SK := [.agg [.ro 19, .ro 6, .ro 8]]
noncomputable def S38 (us : List AVal) : Call := bif chkA ks38 us then Call.of (F_skirmishref09_ordered (roRows (cIa (aggL (cIa us 0)) 0)) (roRows (cIa (aggL (cIa us 0)) 1)) (roRows (cIa (aggL (cIa us 0)) 2))) enc38 else Call.none
noncomputable def C38 := AI.ext 38 S38 C58

@[reducible] noncomputable def B38_0 := bodyOf TT TU GL0 C58 ownF L38 (lp Try.f38 0)
@[reducible] noncomputable def K38_0 (k : Ex → St → Option CR) : Ex → St → Option CR := fun e s => k e (maskS (W38_0 e) s)
theorem spec38_0 (k : Ex → St → Option CR) : ∀ (m : Nat) (ok : Bool) (i : Int) (b0_0 : List (List AVal)) (b0_1 : List (List AVal)) (b0_2 : List (List AVal)), loopN B38_0 m (E38_0 ok i b0_0 b0_1 b0_2) (K38_0 k) = (G_skirmishref09_ordered_0 b0_0 m ok i).bind (X38_0 b0_0 b0_1 b0_2 k)
  | 0, _, _, _, _, _ => rfl
  | m + 1, ok, i, b0_0, b0_1, b0_2 =>
    Eq.trans (b := (bif (decide (i < (Int.ofNat b0_0.length))) then (bif (decide ((0 : Int) ≤ i)) then (Option.bind (b0_0[i.toNat]?) fun r => (bif (chk [LT.str, LT.bool, LT.bool, (LT.int IntKind.i64), (LT.int IntKind.i64), (LT.int IntKind.i64), (LT.int IntKind.i64), (LT.int IntKind.i64), (LT.int IntKind.i64), (LT.int IntKind.i64), (LT.int IntKind.i64), (LT.int IntKind.i64), LT.str, (LT.int IntKind.i64), (LT.int IntKind.i64), (LT.int IntKind.i64), (LT.sl 9 1), (LT.sl 9 1), (LT.sl 9 1)] r) then (bif ok then (Option.bind (F_skirmishref09_ascending (roRows (AVal.ro 1 (cR r 16)))) fun t => (bif t then (Option.bind (F_skirmishref09_ascending (roRows (AVal.ro 1 (cR r 17)))) fun t1 => (bif t1 then (Option.bind (F_skirmishref09_ascending (roRows (AVal.ro 1 (cR r 18)))) fun t2 => (loopN B38_0 m ⟨[.dead, (AVal.ref 16000 1 0 0), .dead, (bo t2), (i64 (wr (i + (1 : Int)))), .dead, .dead, .dead, .dead, .dead, .dead, .dead, .dead, .dead, .dead, .dead, .dead, .dead, .dead, .dead, .dead, .dead, .dead, .dead, .dead, .dead, .dead, .dead, .dead, .dead, .dead, .dead, .dead, .dead, .dead, .dead, .dead, .dead, .dead, .dead, .dead, .dead, .dead, .dead, .dead, .dead, .dead, .dead, .dead, .dead, .dead, .dead, .dead, .dead, .dead, .dead, .dead, .dead, .dead, .dead, .dead, .dead, .dead, .dead, .dead, .dead], [(Prod.mk 16000 (Blk.mk BKind.box 26 3 [[(AVal.ro 19 b0_0), (AVal.ro 6 b0_1), (AVal.ro 8 b0_2)]]))]⟩ (K38_0 k))) else (loopN B38_0 m ⟨[.dead, (AVal.ref 16000 1 0 0), .dead, (bo false), (i64 (wr (i + (1 : Int)))), .dead, .dead, .dead, .dead, .dead, .dead, .dead, .dead, .dead, .dead, .dead, .dead, .dead, .dead, .dead, .dead, .dead, .dead, .dead, .dead, .dead, .dead, .dead, .dead, .dead, .dead, .dead, .dead, .dead, .dead, .dead, .dead, .dead, .dead, .dead, .dead, .dead, .dead, .dead, .dead, .dead, .dead, .dead, .dead, .dead, .dead, .dead, .dead, .dead, .dead, .dead, .dead, .dead, .dead, .dead, .dead, .dead, .dead, .dead, .dead, .dead], [(Prod.mk 16000 (Blk.mk BKind.box 26 3 [[(AVal.ro 19 b0_0), (AVal.ro 6 b0_1), (AVal.ro 8 b0_2)]]))]⟩ (K38_0 k)))) else (loopN B38_0 m ⟨[.dead, (AVal.ref 16000 1 0 0), .dead, (bo false), (i64 (wr (i + (1 : Int)))), .dead, .dead, .dead, .dead, .dead, .dead, .dead, .dead, .dead, .dead, .dead, .dead, .dead, .dead, .dead, .dead, .dead, .dead, .dead, .dead, .dead, .dead, .dead, .dead, .dead, .dead, .dead, .dead, .dead, .dead, .dead, .dead, .dead, .dead, .dead, .dead, .dead, .dead, .dead, .dead, .dead, .dead, .dead, .dead, .dead, .dead, .dead, .dead, .dead, .dead, .dead, .dead, .dead, .dead, .dead, .dead, .dead, .dead, .dead, .dead, .dead], [(Prod.mk 16000 (Blk.mk BKind.box 26 3 [[(AVal.ro 19 b0_0), (AVal.ro 6 b0_1), (AVal.ro 8 b0_2)]]))]⟩ (K38_0 k)))) else (loopN B38_0 m ⟨[.dead, (AVal.ref 16000 1 0 0), .dead, (bo false), (i64 (wr (i + (1 : Int)))), .dead, .dead, .dead, .dead, .dead, .dead, .dead, .dead, .dead, .dead, .dead, .dead, .dead, .dead, .dead, .dead, .dead, .dead, .dead, .dead, .dead, .dead, .dead, .dead, .dead, .dead, .dead, .dead, .dead, .dead, .dead, .dead, .dead, .dead, .dead, .dead, .dead, .dead, .dead, .dead, .dead, .dead, .dead, .dead, .dead, .dead, .dead, .dead, .dead, .dead, .dead, .dead, .dead, .dead, .dead, .dead, .dead, .dead, .dead, .dead, .dead], [(Prod.mk 16000 (Blk.mk BKind.box 26 3 [[(AVal.ro 19 b0_0), (AVal.ro 6 b0_1), (AVal.ro 8 b0_2)]]))]⟩ (K38_0 k))) else none)) else none) else (k (.exit 0) ⟨[.dead, (AVal.ref 16000 1 0 0), .dead, (bo ok), .dead, .dead, .dead, .dead, .dead, .dead, .dead, .dead, .dead, .dead, .dead, .dead, .dead, .dead, .dead, .dead, .dead, .dead, .dead, .dead, .dead, .dead, .dead, .dead, .dead, .dead, .dead, .dead, .dead, .dead, .dead, .dead, .dead, .dead, .dead, .dead, .dead, .dead, .dead, .dead, .dead, .dead, .dead, .dead, .dead, .dead, .dead, .dead, .dead, .dead, .dead, .dead, .dead, .dead, .dead, .dead, .dead, .dead, .dead, .dead, .dead, .dead], [(Prod.mk 16000 (Blk.mk BKind.box 26 3 [[(AVal.ro 19 b0_0), (AVal.ro 6 b0_1), (AVal.ro 8 b0_2)]]))]⟩))) (by kernel_rfl)
      (n_condH rfl (fun h0 => (n_condH rfl (fun h1 => (n_bind fun r => (n_condH rfl (fun h2 => (n_condH rfl (fun h3 => (n_bind fun t => (n_condH rfl (fun h4 => (n_bind fun t1 => (n_condH rfl (fun h5 => (n_bind fun t2 => (spec38_0 k m t2 (wr (i + (1 : Int))) b0_0 b0_1 b0_2))) fun h5 => (spec38_0 k m false (wr (i + (1 : Int))) b0_0 b0_1 b0_2)))) fun h4 => (spec38_0 k m false (wr (i + (1 : Int))) b0_0 b0_1 b0_2)))) fun h3 => (spec38_0 k m false (wr (i + (1 : Int))) b0_0 b0_1 b0_2))) fun h2 => n_none))) fun h1 => n_none)) fun h0 => rfl)
theorem okL38_0 : LoopOk TT TU GL0 C58 ownF L38 (lp Try.f38 0) :=
  loopOk_of ks38_0 hs38_0 W38_0 FU (fun s k => (G_skirmishref09_ordered_0 (roRows (cIa (rows0 (blkAt s.heap 0).2) 0)) FU (toB (cIa s.tmps 3)) (toI (cIa s.tmps 4))).bind (X38_0 (roRows (cIa (rows0 (blkAt s.heap 0).2) 0)) (roRows (cIa (rows0 (blkAt s.heap 0).2) 1)) (roRows (cIa (rows0 (blkAt s.heap 0).2) 2)) k)) (fun s k => by kernel_rfl) (fun s k => spec38_0 k FU (toB (cIa s.tmps 3)) (toI (cIa s.tmps 4)) (roRows (cIa (rows0 (blkAt s.heap 0).2) 0)) (roRows (cIa (rows0 (blkAt s.heap 0).2) 1)) (roRows (cIa (rows0 (blkAt s.heap 0).2) 2)))
@[reducible] noncomputable def B38_1 := bodyOf TT TU GL0 C58 ownF L38 (lp Try.f38 1)
@[reducible] noncomputable def K38_1 (k : Ex → St → Option CR) : Ex → St → Option CR := fun e s => k e (maskS (W38_1 e) s)
theorem spec38_1 (k : Ex → St → Option CR) : ∀ (m : Nat) (ok : Bool) (i : Int) (b0_0 : List (List AVal)) (b0_1 : List (List AVal)) (b0_2 : List (List AVal)), loopN B38_1 m (E38_1 ok i b0_0 b0_1 b0_2) (K38_1 k) = (G_skirmishref09_ordered_1 b0_2 m ok i).bind (X38_1 k)
  | 0, _, _, _, _, _ => rfl
  | m + 1, ok, i, b0_0, b0_1, b0_2 =>
    Eq.trans (b := (bif (decide (i < (Int.ofNat b0_2.length))) then (bif ok then (bif (decide ((0 : Int) ≤ i)) then (Option.bind (b0_2[i.toNat]?) fun r => (bif (chk [LT.str, (LT.sl 9 1), (LT.int IntKind.i64), (LT.int IntKind.i64), (LT.int IntKind.i64), LT.str, (LT.int IntKind.i64), (LT.int IntKind.i64)] r) then (Option.bind (F_skirmishref09_ascending (roRows (AVal.ro 1 (cR r 1)))) fun t => (loopN B38_1 m ⟨[.dead, (AVal.ref 16000 1 0 0), .dead, (bo t), .dead, .dead, (i64 (wr (i + (1 : Int)))), .dead, .dead, .dead, .dead, .dead, .dead, .dead, .dead, .dead, .dead, .dead, .dead, .dead, .dead, .dead, .dead, .dead, .dead, .dead, .dead, .dead, .dead, .dead, .dead, .dead, .dead, .dead, .dead, .dead, .dead, .dead, .dead, .dead, .dead, .dead, .dead, .dead, .dead, .dead, .dead, .dead, .dead, .dead, .dead, .dead, .dead, .dead, .dead, .dead, .dead, .dead, .dead, .dead, .dead, .dead, .dead, .dead, .dead, .dead], [(Prod.mk 16000 (Blk.mk BKind.box 26 3 [[(AVal.ro 19 b0_0), (AVal.ro 6 b0_1), (AVal.ro 8 b0_2)]]))]⟩ (K38_1 k))) else none)) else none) else (loopN B38_1 m ⟨[.dead, (AVal.ref 16000 1 0 0), .dead, (bo false), .dead, .dead, (i64 (wr (i + (1 : Int)))), .dead, .dead, .dead, .dead, .dead, .dead, .dead, .dead, .dead, .dead, .dead, .dead, .dead, .dead, .dead, .dead, .dead, .dead, .dead, .dead, .dead, .dead, .dead, .dead, .dead, .dead, .dead, .dead, .dead, .dead, .dead, .dead, .dead, .dead, .dead, .dead, .dead, .dead, .dead, .dead, .dead, .dead, .dead, .dead, .dead, .dead, .dead, .dead, .dead, .dead, .dead, .dead, .dead, .dead, .dead, .dead, .dead, .dead, .dead], [(Prod.mk 16000 (Blk.mk BKind.box 26 3 [[(AVal.ro 19 b0_0), (AVal.ro 6 b0_1), (AVal.ro 8 b0_2)]]))]⟩ (K38_1 k))) else (k (.exit 2) ⟨[.dead, .dead, .dead, (bo ok), .dead, .dead, .dead, .dead, .dead, .dead, .dead, .dead, .dead, .dead, .dead, .dead, .dead, .dead, .dead, .dead, .dead, .dead, .dead, .dead, .dead, .dead, .dead, .dead, .dead, .dead, .dead, .dead, .dead, .dead, .dead, .dead, .dead, .dead, .dead, .dead, .dead, .dead, .dead, .dead, .dead, .dead, .dead, .dead, .dead, .dead, .dead, .dead, .dead, .dead, .dead, .dead, .dead, .dead, .dead, .dead, .dead, .dead, .dead, .dead, .dead, .dead], []⟩))) (by kernel_rfl)
      (n_condH rfl (fun h0 => (n_condH rfl (fun h1 => (n_condH rfl (fun h2 => (n_bind fun r => (n_condH rfl (fun h3 => (n_bind fun t => (spec38_1 k m t (wr (i + (1 : Int))) b0_0 b0_1 b0_2))) fun h3 => n_none))) fun h2 => n_none)) fun h1 => (spec38_1 k m false (wr (i + (1 : Int))) b0_0 b0_1 b0_2))) fun h0 => rfl)
theorem okL38_1 : LoopOk TT TU GL0 C58 ownF L38 (lp Try.f38 1) :=
  loopOk_of ks38_1 hs38_1 W38_1 FU (fun s k => (G_skirmishref09_ordered_1 (roRows (cIa (rows0 (blkAt s.heap 0).2) 2)) FU (toB (cIa s.tmps 3)) (toI (cIa s.tmps 6))).bind (X38_1 k)) (fun s k => by kernel_rfl) (fun s k => spec38_1 k FU (toB (cIa s.tmps 3)) (toI (cIa s.tmps 6)) (roRows (cIa (rows0 (blkAt s.heap 0).2) 0)) (roRows (cIa (rows0 (blkAt s.heap 0).2) 1)) (roRows (cIa (rows0 (blkAt s.heap 0).2) 2)))
theorem run38 (r_Units : List (List AVal)) (r_Weapons : List (List AVal)) (r_Techs : List (List AVal)) : fcall TT TU GL0 C58 ownF true L38 Try.f38 [(.agg [(.ro 19 r_Units), (.ro 6 r_Weapons), (.ro 8 r_Techs)])] = (F_skirmishref09_ordered r_Units r_Weapons r_Techs).bind fun t => some (enc38 t) :=
  Eq.trans (b := (Option.bind (F_skirmishref09_Units r_Units r_Weapons r_Techs) fun t => (bif ((((true && (verEq t.length t.length)) && true) && true) && true) then (bif (verEq t.length t.length) then (Option.bind (F_skirmishref09_ascending t) fun t1 => (bif t1 then (Option.bind (F_skirmishref09_Weapons r_Units r_Weapons r_Techs) fun t2 => (bif ((((true && (verEq t2.length t2.length)) && true) && true) && true) then (bif (verEq t2.length t2.length) then (Option.bind (F_skirmishref09_ascending t2) fun t3 => (bif t3 then (Option.bind (F_skirmishref09_Techs r_Units r_Weapons r_Techs) fun t4 => (bif ((((true && (verEq t4.length t4.length)) && true) && true) && true) then (bif (verEq t4.length t4.length) then (Option.bind (F_skirmishref09_ascending t4) fun t5 => (Option.bind (G_skirmishref09_ordered_0 r_Units FU t5 (0 : Int)) fun t6 => (Option.bind (G_skirmishref09_ordered_1 r_Techs FU t6 (0 : Int)) fun t7 => (some (CR.mk true (bo t7) [] []))))) else none) else none)) else (Option.bind (G_skirmishref09_ordered_0 r_Units FU false (0 : Int)) fun t8 => (Option.bind (G_skirmishref09_ordered_1 r_Techs FU t8 (0 : Int)) fun t9 => (some (CR.mk true (bo t9) [] [])))))) else none) else none)) else (Option.bind (G_skirmishref09_ordered_0 r_Units FU false (0 : Int)) fun t10 => (Option.bind (G_skirmishref09_ordered_1 r_Techs FU t10 (0 : Int)) fun t11 => (some (CR.mk true (bo t11) [] [])))))) else none) else none))) (by kernel_rfl)
    (n_bind fun t => (n_true (n_andL (n_andL (n_andL (n_andL rfl (verEq_rfl _)) rfl) rfl) rfl) (n_true (verEq_rfl _) (n_bind fun t1 => (n_condH rfl (fun h0 => (n_bind fun t2 => (n_true (n_andL (n_andL (n_andL (n_andL rfl (verEq_rfl _)) rfl) rfl) rfl) (n_true (verEq_rfl _) (n_bind fun t3 => (n_condH rfl (fun h1 => (n_bind fun t4 => (n_true (n_andL (n_andL (n_andL (n_andL rfl (verEq_rfl _)) rfl) rfl) rfl) (n_true (verEq_rfl _) (n_bind fun t5 => (n_bind fun t6 => (n_bind fun t7 => rfl))))))) fun h1 => (n_bind fun t8 => (n_bind fun t9 => rfl)))))))) fun h0 => (n_bind fun t10 => (n_bind fun t11 => rfl)))))))
theorem lib38 : Lib Try.prog GL0 C38 :=
  Lib.fn lib58 mixed TT_ok Try.func38 (by decide +kernel) (by kernel_rfl) true L38 (loops_of 2 (by kernel_rfl) (belowS (belowS below0 okL38_0) okL38_1)) ks38 (F := fun us => F_skirmishref09_ordered (roRows (cIa (aggL (cIa us 0)) 0)) (roRows (cIa (aggL (cIa us 0)) 1)) (roRows (cIa (aggL (cIa us 0)) 2))) (fun us => rfl) (fun us => run38 (roRows (cIa (aggL (cIa us 0)) 0)) (roRows (cIa (aggL (cIa us 0)) 1)) (roRows (cIa (aggL (cIa us 0)) 2))) (fun t => rfl)

/-! ### 60: skirmish/skirmishref09.within -/



/-- 'skirmish/skirmishref09.within' -/
noncomputable def F_skirmishref09_within (n : Int) (lo : Int) (hi : Int) : Option (Bool) :=
  bif (decide (n ≥ lo)) then
    some (decide (n ≤ hi))
  else
  some false
noncomputable def enc60 (t : Bool) : CR := ⟨true, (.sc (.bool t)), [], []⟩
noncomputable def ks60 : List SK := [.f (.int .i64), .f (.int .i64), .f (.int .i64)]
noncomputable def S60 (us : List AVal) : Call := bif chkA ks60 us then Call.of (F_skirmishref09_within (toI (cIa us 0)) (toI (cIa us 1)) (toI (cIa us 2))) enc60 else Call.none
noncomputable def C60 := AI.ext 60 S60 C38

theorem run60 (n : Int) (lo : Int) (hi : Int) : fcall TT TU GL0 C38 ownF true noL Try.f60 [(.sc (.int .i64 n)), (.sc (.int .i64 lo)), (.sc (.int .i64 hi))] = (F_skirmishref09_within n lo hi).bind fun t => some (enc60 t) :=
  Eq.trans (b := (bif (decide (n ≥ lo)) then (some (CR.mk true (bo (decide (n ≤ hi))) [] [])) else (some (CR.mk true (bo false) [] [])))) (by kernel_rfl)
    (n_condH rfl (fun h0 => rfl) fun h0 => rfl)
theorem lib60 : Lib Try.prog GL0 C60 :=
  Lib.fn lib38 mixed TT_ok Try.func60 (by decide +kernel) (by kernel_rfl) true noL (loops_of 0 (by kernel_rfl) below0) ks60 (F := fun us => F_skirmishref09_within (toI (cIa us 0)) (toI (cIa us 1)) (toI (cIa us 2))) (fun us => rfl) (fun us => run60 (toI (cIa us 0)) (toI (cIa us 1)) (toI (cIa us 2))) (fun t => rfl)

/-! ### 61: skirmish/skirmishref09.stat -/



/-- 'skirmish/skirmishref09.stat' -/
noncomputable def F_skirmishref09_stat (n : Int) : Option (Bool) :=
  Option.bind (F_skirmishref09_within n (0 : Int) (100000 : Int)) fun t =>
  some t
noncomputable def enc61 (t : Bool) : CR := ⟨true, (.sc (.bool t)), [], []⟩
noncomputable def ks61 : List SK := [.f (.int .i64)]
noncomputable def S61 (us : List AVal) : Call := bif chkA ks61 us then Call.of (F_skirmishref09_stat (toI (cIa us 0))) enc61 else Call.none
noncomputable def C61 := AI.ext 61 S61 C60

theorem run61 (n : Int) : fcall TT TU GL0 C60 ownF true noL Try.f61 [(.sc (.int .i64 n))] = (F_skirmishref09_stat n).bind fun t => some (enc61 t) :=
  Eq.trans (b := (Option.bind (F_skirmishref09_within n (0 : Int) (100000 : Int)) fun t => (some (CR.mk true (bo t) [] [])))) (by kernel_rfl)
    (n_bind fun t => rfl)
theorem lib61 : Lib Try.prog GL0 C61 :=
  Lib.fn lib60 mixed TT_ok Try.func61 (by decide +kernel) (by kernel_rfl) true noL (loops_of 0 (by kernel_rfl) below0) ks61 (F := fun us => F_skirmishref09_stat (toI (cIa us 0))) (fun us => rfl) (fun us => run61 (toI (cIa us 0))) (fun t => rfl)

/-! ### 59: skirmish/skirmishref09.shaped -/



/-- 'skirmish/skirmishref09.shaped' -/
noncomputable def F_skirmishref09_shaped (u_Name : ByteArray) (u_Building : Bool) (u_Depot : Bool) (u_Class : Int) (u_W : Int) (u_H : Int) (u_Radius : Int) (u_Speed : Int) (u_Sight : Int) (u_Hp : Int) (u_Armor : Int) (u_Load : Int) (u_Weapon : ByteArray) (u_Ore : Int) (u_Wood : Int) (u_Time : Int) (u_Needs : List (List AVal)) (u_Trains : List (List AVal)) (u_Researches : List (List AVal)) : Option (Bool) :=
  Option.bind (F_skirmishref09_within u_Sight (0 : Int) (16 : Int)) fun t =>
  bif (!t) then
    some false
  else
  Option.bind (F_skirmishref09_within u_Hp (1 : Int) (100000 : Int)) fun t1 =>
  bif (!t1) then
    some false
  else
  Option.bind (F_skirmishref09_stat u_Armor) fun t2 =>
  bif (!t2) then
    some false
  else
  Option.bind (F_skirmishref09_stat u_Ore) fun t3 =>
  bif (!t3) then
    some false
  else
  Option.bind (F_skirmishref09_stat u_Wood) fun t4 =>
  bif (!t4) then
    some false
  else
  Option.bind (F_skirmishref09_stat u_Time) fun t5 =>
  bif (!t5) then
    some false
  else
  bif u_Building then
    bif (u_Class == (0 : Int)) then
      Option.bind (F_skirmishref09_within u_W (1 : Int) (4 : Int)) fun t6 =>
      bif t6 then
        Option.bind (F_skirmishref09_within u_H (1 : Int) (4 : Int)) fun t7 =>
        bif t7 then
          bif (u_Radius == (0 : Int)) then
            bif (u_Speed == (0 : Int)) then
              some (u_Load == (0 : Int))
            else
            some false
          else
          some false
        else
        some false
      else
      some false
    else
    some false
  else
  Option.bind (F_skirmishref09_within u_Class (1 : Int) (3 : Int)) fun t8 =>
  bif t8 then
    bif (u_W == (0 : Int)) then
      bif (u_H == (0 : Int)) then
        Option.bind (F_skirmishref09_within u_Radius (16 : Int) (128 : Int)) fun t9 =>
        bif t9 then
          Option.bind (F_skirmishref09_within u_Speed (0 : Int) (256 : Int)) fun t10 =>
          bif t10 then
            Option.bind (F_skirmishref09_stat u_Load) fun t11 =>
            bif t11 then
              some (!u_Depot)
            else
            some false
          else
          some false
        else
        some false
      else
      some false
    else
    some false
  else
  some false
noncomputable def enc59 (t : Bool) : CR := ⟨true, (.sc (.bool t)), [], []⟩
noncomputable def ks59 : List SK := [.agg [.str, .bool, .bool, .int .i64, .int .i64, .int .i64, .int .i64, .int .i64, .int .i64, .int .i64, .int .i64, .int .i64, .str, .int .i64, .int .i64, .int .i64, .ro 1, .ro 1, .ro 1]]
noncomputable def S59 (us : List AVal) : Call := bif chkA ks59 us then Call.of (F_skirmishref09_shaped (toS (cIa (aggL (cIa us 0)) 0)) (toB (cIa (aggL (cIa us 0)) 1)) (toB (cIa (aggL (cIa us 0)) 2)) (toI (cIa (aggL (cIa us 0)) 3)) (toI (cIa (aggL (cIa us 0)) 4)) (toI (cIa (aggL (cIa us 0)) 5)) (toI (cIa (aggL (cIa us 0)) 6)) (toI (cIa (aggL (cIa us 0)) 7)) (toI (cIa (aggL (cIa us 0)) 8)) (toI (cIa (aggL (cIa us 0)) 9)) (toI (cIa (aggL (cIa us 0)) 10)) (toI (cIa (aggL (cIa us 0)) 11)) (toS (cIa (aggL (cIa us 0)) 12)) (toI (cIa (aggL (cIa us 0)) 13)) (toI (cIa (aggL (cIa us 0)) 14)) (toI (cIa (aggL (cIa us 0)) 15)) (roRows (cIa (aggL (cIa us 0)) 16)) (roRows (cIa (aggL (cIa us 0)) 17)) (roRows (cIa (aggL (cIa us 0)) 18))) enc59 else Call.none
noncomputable def C59 := AI.ext 59 S59 C61

theorem run59 (u_Name : ByteArray) (u_Building : Bool) (u_Depot : Bool) (u_Class : Int) (u_W : Int) (u_H : Int) (u_Radius : Int) (u_Speed : Int) (u_Sight : Int) (u_Hp : Int) (u_Armor : Int) (u_Load : Int) (u_Weapon : ByteArray) (u_Ore : Int) (u_Wood : Int) (u_Time : Int) (u_Needs : List (List AVal)) (u_Trains : List (List AVal)) (u_Researches : List (List AVal)) : fcall TT TU GL0 C61 ownF true noL Try.f59 [(.agg [(.sc (.string u_Name)), (.sc (.bool u_Building)), (.sc (.bool u_Depot)), (.sc (.int .i64 u_Class)), (.sc (.int .i64 u_W)), (.sc (.int .i64 u_H)), (.sc (.int .i64 u_Radius)), (.sc (.int .i64 u_Speed)), (.sc (.int .i64 u_Sight)), (.sc (.int .i64 u_Hp)), (.sc (.int .i64 u_Armor)), (.sc (.int .i64 u_Load)), (.sc (.string u_Weapon)), (.sc (.int .i64 u_Ore)), (.sc (.int .i64 u_Wood)), (.sc (.int .i64 u_Time)), (.ro 1 u_Needs), (.ro 1 u_Trains), (.ro 1 u_Researches)])] = (F_skirmishref09_shaped u_Name u_Building u_Depot u_Class u_W u_H u_Radius u_Speed u_Sight u_Hp u_Armor u_Load u_Weapon u_Ore u_Wood u_Time u_Needs u_Trains u_Researches).bind fun t => some (enc59 t) :=
  Eq.trans (b := (Option.bind (F_skirmishref09_within u_Sight (0 : Int) (16 : Int)) fun t => (bif (!t) then (some (CR.mk true (bo false) [] [])) else (Option.bind (F_skirmishref09_within u_Hp (1 : Int) (100000 : Int)) fun t1 => (bif (!t1) then (some (CR.mk true (bo false) [] [])) else (Option.bind (F_skirmishref09_stat u_Armor) fun t2 => (bif (!t2) then (some (CR.mk true (bo false) [] [])) else (Option.bind (F_skirmishref09_stat u_Ore) fun t3 => (bif (!t3) then (some (CR.mk true (bo false) [] [])) else (Option.bind (F_skirmishref09_stat u_Wood) fun t4 => (bif (!t4) then (some (CR.mk true (bo false) [] [])) else (Option.bind (F_skirmishref09_stat u_Time) fun t5 => (bif (!t5) then (some (CR.mk true (bo false) [] [])) else (bif u_Building then (bif (u_Class == (0 : Int)) then (Option.bind (F_skirmishref09_within u_W (1 : Int) (4 : Int)) fun t6 => (bif t6 then (Option.bind (F_skirmishref09_within u_H (1 : Int) (4 : Int)) fun t7 => (bif t7 then (bif (u_Radius == (0 : Int)) then (bif (u_Speed == (0 : Int)) then (some (CR.mk true (bo (u_Load == (0 : Int))) [] [])) else (some (CR.mk true (bo false) [] []))) else (some (CR.mk true (bo false) [] []))) else (some (CR.mk true (bo false) [] [])))) else (some (CR.mk true (bo false) [] [])))) else (some (CR.mk true (bo false) [] []))) else (Option.bind (F_skirmishref09_within u_Class (1 : Int) (3 : Int)) fun t8 => (bif t8 then (bif (u_W == (0 : Int)) then (bif (u_H == (0 : Int)) then (Option.bind (F_skirmishref09_within u_Radius (16 : Int) (128 : Int)) fun t9 => (bif t9 then (Option.bind (F_skirmishref09_within u_Speed (0 : Int) (256 : Int)) fun t10 => (bif t10 then (Option.bind (F_skirmishref09_stat u_Load) fun t11 => (bif t11 then (some (CR.mk true (bo (!u_Depot)) [] [])) else (some (CR.mk true (bo false) [] [])))) else (some (CR.mk true (bo false) [] [])))) else (some (CR.mk true (bo false) [] [])))) else (some (CR.mk true (bo false) [] []))) else (some (CR.mk true (bo false) [] []))) else (some (CR.mk true (bo false) [] [])))))))))))))))))) (by kernel_rfl)
    (n_bind fun t => (n_condH rfl (fun h0 => rfl) fun h0 => (n_bind fun t1 => (n_condH rfl (fun h1 => rfl) fun h1 => (n_bind fun t2 => (n_condH rfl (fun h2 => rfl) fun h2 => (n_bind fun t3 => (n_condH rfl (fun h3 => rfl) fun h3 => (n_bind fun t4 => (n_condH rfl (fun h4 => rfl) fun h4 => (n_bind fun t5 => (n_condH rfl (fun h5 => rfl) fun h5 => (n_condH rfl (fun h6 => (n_condH rfl (fun h7 => (n_bind fun t6 => (n_condH rfl (fun h8 => (n_bind fun t7 => (n_condH rfl (fun h9 => (n_condH rfl (fun h10 => (n_condH rfl (fun h11 => rfl) fun h11 => rfl)) fun h10 => rfl)) fun h9 => rfl))) fun h8 => rfl))) fun h7 => rfl)) fun h6 => (n_bind fun t8 => (n_condH rfl (fun h7 => (n_condH rfl (fun h8 => (n_condH rfl (fun h9 => (n_bind fun t9 => (n_condH rfl (fun h10 => (n_bind fun t10 => (n_condH rfl (fun h11 => (n_bind fun t11 => (n_condH rfl (fun h12 => rfl) fun h12 => rfl))) fun h11 => rfl))) fun h10 => rfl))) fun h9 => rfl)) fun h8 => rfl)) fun h7 => rfl)))))))))))))))
theorem lib59 : Lib Try.prog GL0 C59 :=
  Lib.fn lib61 mixed TT_ok Try.func59 (by decide +kernel) (by kernel_rfl) true noL (loops_of 0 (by kernel_rfl) below0) ks59 (F := fun us => F_skirmishref09_shaped (toS (cIa (aggL (cIa us 0)) 0)) (toB (cIa (aggL (cIa us 0)) 1)) (toB (cIa (aggL (cIa us 0)) 2)) (toI (cIa (aggL (cIa us 0)) 3)) (toI (cIa (aggL (cIa us 0)) 4)) (toI (cIa (aggL (cIa us 0)) 5)) (toI (cIa (aggL (cIa us 0)) 6)) (toI (cIa (aggL (cIa us 0)) 7)) (toI (cIa (aggL (cIa us 0)) 8)) (toI (cIa (aggL (cIa us 0)) 9)) (toI (cIa (aggL (cIa us 0)) 10)) (toI (cIa (aggL (cIa us 0)) 11)) (toS (cIa (aggL (cIa us 0)) 12)) (toI (cIa (aggL (cIa us 0)) 13)) (toI (cIa (aggL (cIa us 0)) 14)) (toI (cIa (aggL (cIa us 0)) 15)) (roRows (cIa (aggL (cIa us 0)) 16)) (roRows (cIa (aggL (cIa us 0)) 17)) (roRows (cIa (aggL (cIa us 0)) 18))) (fun us => rfl) (fun us => run59 (toS (cIa (aggL (cIa us 0)) 0)) (toB (cIa (aggL (cIa us 0)) 1)) (toB (cIa (aggL (cIa us 0)) 2)) (toI (cIa (aggL (cIa us 0)) 3)) (toI (cIa (aggL (cIa us 0)) 4)) (toI (cIa (aggL (cIa us 0)) 5)) (toI (cIa (aggL (cIa us 0)) 6)) (toI (cIa (aggL (cIa us 0)) 7)) (toI (cIa (aggL (cIa us 0)) 8)) (toI (cIa (aggL (cIa us 0)) 9)) (toI (cIa (aggL (cIa us 0)) 10)) (toI (cIa (aggL (cIa us 0)) 11)) (toS (cIa (aggL (cIa us 0)) 12)) (toI (cIa (aggL (cIa us 0)) 13)) (toI (cIa (aggL (cIa us 0)) 14)) (toI (cIa (aggL (cIa us 0)) 15)) (roRows (cIa (aggL (cIa us 0)) 16)) (roRows (cIa (aggL (cIa us 0)) 17)) (roRows (cIa (aggL (cIa us 0)) 18))) (fun t => rfl)

end Go.Proofs.Ytiplnalnahmdgaa.AI
