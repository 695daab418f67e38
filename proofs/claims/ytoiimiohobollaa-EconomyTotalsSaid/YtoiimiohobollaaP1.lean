/- What functions answer: printed by wip/tool2/Ev.lean out of the interpreter's run; each print is checked by Lean. -/
import Derived.Test.YtoiimiohobollaaTab
namespace Go.Proofs.Ytoiimiohobollaa.AI
open Go.RowKit
set_option linter.unusedVariables false
set_option linter.unusedSimpArgs false
set_option maxRecDepth 100000
/-! ### 5: skirmish/skirmishlaw28.huge -/



/-- 'skirmish/skirmishlaw28.huge' -/
noncomputable def F_skirmishlaw28_huge (g_Turn : Int) (g_NextId : Int) (g_Winner : Int) (g_Paused : Bool) (g_Rng : Int) (g_Rules_Units : List (List AVal)) (g_Rules_Weapons : List (List AVal)) (g_Rules_Techs : List (List AVal)) (g_Map_W : Int) (g_Map_H : Int) (g_Map_Cells : List (List AVal)) (g_Players : List (List AVal)) (g_Units : List (List AVal)) (g_Shots : List (List AVal)) (g_Memories : List (List AVal)) (g_Scripts : List (List AVal)) : Option (Bool) :=
  bif (decide ((Int.ofNat g_Players.length) > (100 : Int))) then
    some true
  else
  bif (decide ((Int.ofNat g_Units.length) > (200 : Int))) then
    some true
  else
  bif (decide ((Int.ofNat g_Map_Cells.length) > (2000 : Int))) then
    some true
  else
  bif (decide ((Int.ofNat g_Shots.length) > (200 : Int))) then
    some true
  else
  bif (decide ((Int.ofNat g_Memories.length) > (50 : Int))) then
    some true
  else
  some (decide ((Int.ofNat g_Scripts.length) > (50 : Int)))
noncomputable def enc5 (t : Bool) : CR := ⟨true, (.sc (.bool t)), [], []⟩
noncomputable def ks5 : List SK := [.agg [.int .i64, .int .i64, .int .i64, .bool, .int .u64, .ro 19, .ro 6, .ro 8, .int .i64, .int .i64, .ro 3, .ro 6, .ro 12, .ro 9, .ro 3, .ro 4]]
noncomputable def S5 (us : List AVal) : Call := bif chkA ks5 us then Call.of (F_skirmishlaw28_huge (toI (cIa (aggL (cIa us 0)) 0)) (toI (cIa (aggL (cIa us 0)) 1)) (toI (cIa (aggL (cIa us 0)) 2)) (toB (cIa (aggL (cIa us 0)) 3)) (toI (cIa (aggL (cIa us 0)) 4)) (roRows (cIa (aggL (cIa us 0)) 5)) (roRows (cIa (aggL (cIa us 0)) 6)) (roRows (cIa (aggL (cIa us 0)) 7)) (toI (cIa (aggL (cIa us 0)) 8)) (toI (cIa (aggL (cIa us 0)) 9)) (roRows (cIa (aggL (cIa us 0)) 10)) (roRows (cIa (aggL (cIa us 0)) 11)) (roRows (cIa (aggL (cIa us 0)) 12)) (roRows (cIa (aggL (cIa us 0)) 13)) (roRows (cIa (aggL (cIa us 0)) 14)) (roRows (cIa (aggL (cIa us 0)) 15))) enc5 else Call.none
noncomputable def C5 := AI.ext 5 S5 Cnone

theorem run5 (g_Turn : Int) (g_NextId : Int) (g_Winner : Int) (g_Paused : Bool) (g_Rng : Int) (g_Rules_Units : List (List AVal)) (g_Rules_Weapons : List (List AVal)) (g_Rules_Techs : List (List AVal)) (g_Map_W : Int) (g_Map_H : Int) (g_Map_Cells : List (List AVal)) (g_Players : List (List AVal)) (g_Units : List (List AVal)) (g_Shots : List (List AVal)) (g_Memories : List (List AVal)) (g_Scripts : List (List AVal)) : fcall TT TU GL0 Cnone ownF true noL Try.f5 [(.agg [(.sc (.int .i64 g_Turn)), (.sc (.int .i64 g_NextId)), (.sc (.int .i64 g_Winner)), (.sc (.bool g_Paused)), (.sc (.int .u64 g_Rng)), (.ro 19 g_Rules_Units), (.ro 6 g_Rules_Weapons), (.ro 8 g_Rules_Techs), (.sc (.int .i64 g_Map_W)), (.sc (.int .i64 g_Map_H)), (.ro 3 g_Map_Cells), (.ro 6 g_Players), (.ro 12 g_Units), (.ro 9 g_Shots), (.ro 3 g_Memories), (.ro 4 g_Scripts)])] = (F_skirmishlaw28_huge g_Turn g_NextId g_Winner g_Paused g_Rng g_Rules_Units g_Rules_Weapons g_Rules_Techs g_Map_W g_Map_H g_Map_Cells g_Players g_Units g_Shots g_Memories g_Scripts).bind fun t => some (enc5 t) :=
  Eq.trans (b := (bif (decide ((Int.ofNat g_Players.length) > (100 : Int))) then (some (CR.mk true (bo true) [] [])) else (bif (decide ((Int.ofNat g_Units.length) > (200 : Int))) then (some (CR.mk true (bo true) [] [])) else (bif (decide ((Int.ofNat g_Map_Cells.length) > (2000 : Int))) then (some (CR.mk true (bo true) [] [])) else (bif (decide ((Int.ofNat g_Shots.length) > (200 : Int))) then (some (CR.mk true (bo true) [] [])) else (bif (decide ((Int.ofNat g_Memories.length) > (50 : Int))) then (some (CR.mk true (bo true) [] [])) else (some (CR.mk true (bo (decide ((Int.ofNat g_Scripts.length) > (50 : Int)))) [] [])))))))) (by kernel_rfl)
    (n_condH rfl (fun h0 => rfl) fun h0 => (n_condH rfl (fun h1 => rfl) fun h1 => (n_condH rfl (fun h2 => rfl) fun h2 => (n_condH rfl (fun h3 => rfl) fun h3 => (n_condH rfl (fun h4 => rfl) fun h4 => rfl)))))
theorem lib5 : Lib Try.prog GL0 C5 :=
  Lib.fn libnone mixed TT_ok Try.func5 (by decide +kernel) (by kernel_rfl) true noL (loops_of 0 (by kernel_rfl) below0) ks5 (F := fun us => F_skirmishlaw28_huge (toI (cIa (aggL (cIa us 0)) 0)) (toI (cIa (aggL (cIa us 0)) 1)) (toI (cIa (aggL (cIa us 0)) 2)) (toB (cIa (aggL (cIa us 0)) 3)) (toI (cIa (aggL (cIa us 0)) 4)) (roRows (cIa (aggL (cIa us 0)) 5)) (roRows (cIa (aggL (cIa us 0)) 6)) (roRows (cIa (aggL (cIa us 0)) 7)) (toI (cIa (aggL (cIa us 0)) 8)) (toI (cIa (aggL (cIa us 0)) 9)) (roRows (cIa (aggL (cIa us 0)) 10)) (roRows (cIa (aggL (cIa us 0)) 11)) (roRows (cIa (aggL (cIa us 0)) 12)) (roRows (cIa (aggL (cIa us 0)) 13)) (roRows (cIa (aggL (cIa us 0)) 14)) (roRows (cIa (aggL (cIa us 0)) 15))) (fun us => rfl) (fun us => run5 (toI (cIa (aggL (cIa us 0)) 0)) (toI (cIa (aggL (cIa us 0)) 1)) (toI (cIa (aggL (cIa us 0)) 2)) (toB (cIa (aggL (cIa us 0)) 3)) (toI (cIa (aggL (cIa us 0)) 4)) (roRows (cIa (aggL (cIa us 0)) 5)) (roRows (cIa (aggL (cIa us 0)) 6)) (roRows (cIa (aggL (cIa us 0)) 7)) (toI (cIa (aggL (cIa us 0)) 8)) (toI (cIa (aggL (cIa us 0)) 9)) (roRows (cIa (aggL (cIa us 0)) 10)) (roRows (cIa (aggL (cIa us 0)) 11)) (roRows (cIa (aggL (cIa us 0)) 12)) (roRows (cIa (aggL (cIa us 0)) 13)) (roRows (cIa (aggL (cIa us 0)) 14)) (roRows (cIa (aggL (cIa us 0)) 15))) (fun t => rfl)

/-! ### 30: skirmish/skirmishlaw13.Flat -/

noncomputable def W30_0 : Ex → List Bool
  | .ret => [false, false, false, false, true, false, false, false, false, false, false, false, false, false, false, false, false, false, false, false, false, false, false, false]
  | .exit n => bif Nat.beq n 0 then [false, false, false, false, true, true, false, false, false, false, false, false, false, false, false, false, false, false, false, false, false, false, false, false] else []
  | .normal => []
noncomputable def G_skirmishlaw13_Flat_0 (w : Int) (h : Int) : Nat → List (List AVal) → Int → Option (List (List AVal))
  | 0, _, _ => none
  | m + 1, R2, i =>
    bif (decide (i < (wr (w * h)))) then
      bif (roomOk (R2.length + 1) 24) then
        G_skirmishlaw13_Flat_0 w h m (R2 ++ [[(i64 (1 : Int)), (i64 (0 : Int)), (i64 (0 : Int))]]) (wr (i + (1 : Int)))
      else
      none
    else
    some R2
noncomputable def E30_0 (R0 : List (List AVal)) (R2 : List (List AVal)) (w : Int) (h : Int) (i : Int) (b1_0 : Int) (b1_1 : Int) (b3_0 : Int) (b3_1 : Int) : St := ⟨[(.sc (.int .i64 w)), (.sc (.int .i64 h)), .dead, .dead, (.ref 16000 1 0 0), (.ref 19248 1 0 0), (.sc (.int .i64 i)), .dead, .dead, .dead, .dead, .dead, .dead, .dead, .dead, .dead, .dead, .dead, .dead, .dead, .dead, .dead, .dead, .dead], [(16003, ⟨.arr, 63, 3, R0⟩), (16000, ⟨.box, 30, 3, [[(.sc (.int .i64 b1_0)), (.sc (.int .i64 b1_1)), (.slc 16003 (R0).length)]]⟩), (19234, ⟨.arr, 63, 3, R2⟩), (19248, ⟨.box, 30, 3, [[(.sc (.int .i64 b3_0)), (.sc (.int .i64 b3_1)), (.slc 19234 (R2).length)]]⟩)]⟩
noncomputable def X30_0 (R0 : List (List AVal)) (b1_0 : Int) (b1_1 : Int) (b3_0 : Int) (b3_1 : Int) (k : Ex → St → Option CR) (t : List (List AVal)) : Option CR := k (.exit 0) ⟨[.dead, .dead, .dead, .dead, (.ref 16000 1 0 0), (.ref 19248 1 0 0), .dead, .dead, .dead, .dead, .dead, .dead, .dead, .dead, .dead, .dead, .dead, .dead, .dead, .dead, .dead, .dead, .dead, .dead], [(16003, ⟨.arr, 63, 3, R0⟩), (16000, ⟨.box, 30, 3, [[(.sc (.int .i64 b1_0)), (.sc (.int .i64 b1_1)), (.slc 16003 (R0).length)]]⟩), (19234, ⟨.arr, 63, 3, t⟩), (19248, ⟨.box, 30, 3, [[(.sc (.int .i64 b3_0)), (.sc (.int .i64 b3_1)), (.slc 19234 (t).length)]]⟩)]⟩
noncomputable def ks30_0 : List SK := [.f (.int .i64), .f (.int .i64), .f .dead, .f .dead, .f (.ref 16000 1 0 0), .f (.ref 19248 1 0 0), .f (.int .i64), .f .dead, .f .dead, .f .dead, .f .dead, .f .dead, .f .dead, .f .dead, .f .dead, .f .dead, .f .dead, .f .dead, .f .dead, .f .dead, .f .dead, .f .dead, .f .dead, .f .dead]
noncomputable def hs30_0 : List HK := [⟨16003, .arr, 63, 3, none⟩, ⟨16000, .box, 30, 3, some [.int .i64, .int .i64, .slc 16003 0]⟩, ⟨19234, .arr, 63, 3, none⟩, ⟨19248, .box, 30, 3, some [.int .i64, .int .i64, .slc 19234 2]⟩]
noncomputable def Lm30_0 (s : St) (k : Ex → St → Option CR) : Option CR := bif chkS ks30_0 hs30_0 s then (G_skirmishlaw13_Flat_0 (toI (cIa s.tmps 0)) (toI (cIa s.tmps 1)) FU (blkAt s.heap 2).2.rows (toI (cIa s.tmps 6))).bind (X30_0 (blkAt s.heap 0).2.rows (toI (cIa (rows0 (blkAt s.heap 1).2) 0)) (toI (cIa (rows0 (blkAt s.heap 1).2) 1)) (toI (cIa (rows0 (blkAt s.heap 3).2) 0)) (toI (cIa (rows0 (blkAt s.heap 3).2) 1)) k) else none
noncomputable def L30_0 (s : St) (k : Ex → St → Option CR) : Option CR := Lm30_0 (maskS (maskOf ks30_0) s) k

noncomputable def L30 : LT' := fun i s k => bif Nat.beq i 0 then L30_0 s k else none

/-- 'skirmish/skirmishlaw13.Flat' -/
noncomputable def F_skirmishlaw13_Flat (w : Int) (h : Int) : Option (List (List AVal) × Int × Int) :=
  Option.bind (G_skirmishlaw13_Flat_0 w h FU [] (0 : Int)) fun t =>
  some (t, w, h)
noncomputable def enc30 (t : List (List AVal) × Int × Int) : CR := ⟨true, (.agg [(.sc (.int .i64 t.2.1)), (.sc (.int .i64 t.2.2)), (.slc 0 (t.1).length)]), [], [⟨.arr, 63, 3, t.1⟩]⟩
noncomputable def ks30 : List SK := [.f (.int .i64), .f (.int .i64)]
noncomputable def S30 (us : List AVal) : Call := bif chkA ks30 us then Call.of (F_skirmishlaw13_Flat (toI (cIa us 0)) (toI (cIa us 1))) enc30 else Call.none
noncomputable def C30 := AI.ext 30 S30 C5

@[reducible] noncomputable def B30_0 := bodyOf TT TU GL0 C5 ownE L30 (lp Try.f30 0)
@[reducible] noncomputable def K30_0 (k : Ex → St → Option CR) : Ex → St → Option CR := fun e s => k e (maskS (W30_0 e) s)
theorem spec30_0 (k : Ex → St → Option CR) : ∀ (m : Nat) (R0 : List (List AVal)) (R2 : List (List AVal)) (w : Int) (h : Int) (i : Int) (b1_0 : Int) (b1_1 : Int) (b3_0 : Int) (b3_1 : Int), loopN B30_0 m (E30_0 R0 R2 w h i b1_0 b1_1 b3_0 b3_1) (K30_0 k) = (G_skirmishlaw13_Flat_0 w h m R2 i).bind (X30_0 R0 b1_0 b1_1 b3_0 b3_1 k)
  | 0, _, _, _, _, _, _, _, _, _ => rfl
  | m + 1, R0, R2, w, h, i, b1_0, b1_1, b3_0, b3_1 =>
    Eq.trans (b := (bif (decide (i < (wr (w * h)))) then (bif (((verEq R2.length R2.length) && true) && (roomOk (R2.length + 1) 24)) then (loopN B30_0 m ⟨[(i64 w), (i64 h), .dead, .dead, (AVal.ref 16000 1 0 0), (AVal.ref 19248 1 0 0), (i64 (wr (i + (1 : Int)))), .dead, .dead, .dead, .dead, .dead, .dead, .dead, .dead, .dead, .dead, .dead, .dead, .dead, .dead, .dead, .dead, .dead], [(Prod.mk 16003 (Blk.mk BKind.arr 63 3 R0)), (Prod.mk 16000 (Blk.mk BKind.box 30 3 [[(i64 b1_0), (i64 b1_1), (AVal.slc 16003 R0.length)]])), (Prod.mk 19234 (Blk.mk BKind.arr 63 3 (R2 ++ [[(i64 (1 : Int)), (i64 (0 : Int)), (i64 (0 : Int))]]))), (Prod.mk 19248 (Blk.mk BKind.box 30 3 [[(i64 b3_0), (i64 b3_1), (AVal.slc 19234 (R2 ++ [[(i64 (1 : Int)), (i64 (0 : Int)), (i64 (0 : Int))]]).length)]]))]⟩ (K30_0 k)) else none) else (k (.exit 0) ⟨[.dead, .dead, .dead, .dead, (AVal.ref 16000 1 0 0), (AVal.ref 19248 1 0 0), .dead, .dead, .dead, .dead, .dead, .dead, .dead, .dead, .dead, .dead, .dead, .dead, .dead, .dead, .dead, .dead, .dead, .dead], [(Prod.mk 16003 (Blk.mk BKind.arr 63 3 R0)), (Prod.mk 16000 (Blk.mk BKind.box 30 3 [[(i64 b1_0), (i64 b1_1), (AVal.slc 16003 R0.length)]])), (Prod.mk 19234 (Blk.mk BKind.arr 63 3 R2)), (Prod.mk 19248 (Blk.mk BKind.box 30 3 [[(i64 b3_0), (i64 b3_1), (AVal.slc 19234 R2.length)]]))]⟩))) (by kernel_rfl)
      (n_condH rfl (fun h0 => (n_condH (n_andL (n_andL (verEq_rfl _) rfl) rfl) (fun h1 => (spec30_0 k m R0 (R2 ++ [[(i64 (1 : Int)), (i64 (0 : Int)), (i64 (0 : Int))]]) w h (wr (i + (1 : Int))) b1_0 b1_1 b3_0 b3_1)) fun h1 => n_none)) fun h0 => rfl)
theorem okL30_0 : LoopOk TT TU GL0 C5 ownE L30 (lp Try.f30 0) :=
  loopOk_of ks30_0 hs30_0 W30_0 FU (fun s k => (G_skirmishlaw13_Flat_0 (toI (cIa s.tmps 0)) (toI (cIa s.tmps 1)) FU (blkAt s.heap 2).2.rows (toI (cIa s.tmps 6))).bind (X30_0 (blkAt s.heap 0).2.rows (toI (cIa (rows0 (blkAt s.heap 1).2) 0)) (toI (cIa (rows0 (blkAt s.heap 1).2) 1)) (toI (cIa (rows0 (blkAt s.heap 3).2) 0)) (toI (cIa (rows0 (blkAt s.heap 3).2) 1)) k)) (fun s k => by kernel_rfl) (fun s k => spec30_0 k FU (blkAt s.heap 0).2.rows (blkAt s.heap 2).2.rows (toI (cIa s.tmps 0)) (toI (cIa s.tmps 1)) (toI (cIa s.tmps 6)) (toI (cIa (rows0 (blkAt s.heap 1).2) 0)) (toI (cIa (rows0 (blkAt s.heap 1).2) 1)) (toI (cIa (rows0 (blkAt s.heap 3).2) 0)) (toI (cIa (rows0 (blkAt s.heap 3).2) 1)))
theorem run30 (w : Int) (h : Int) : fcall TT TU GL0 C5 ownE true L30 Try.f30 [(.sc (.int .i64 w)), (.sc (.int .i64 h))] = (F_skirmishlaw13_Flat w h).bind fun t => some (enc30 t) :=
  Eq.trans (b := (Option.bind (G_skirmishlaw13_Flat_0 w h FU [] (0 : Int)) fun t => (bif (verEq t.length t.length) then (some (CR.mk true (AVal.agg [(i64 w), (i64 h), (AVal.slc 0 t.length)]) [] [(Blk.mk BKind.arr 63 3 t)])) else none))) (by kernel_rfl)
    (n_bind fun t => (n_true (verEq_rfl _) rfl))
theorem lib30 : Lib Try.prog GL0 C30 :=
  Lib.fn lib5 mixed TT_ok Try.func30 (by decide +kernel) (by kernel_rfl) true L30 (loops_of 1 (by kernel_rfl) (belowS below0 okL30_0)) ks30 (F := fun us => F_skirmishlaw13_Flat (toI (cIa us 0)) (toI (cIa us 1))) (fun us => rfl) (fun us => run30 (toI (cIa us 0)) (toI (cIa us 1))) (fun t => rfl)

/-! ### 16: skirmish/skirmishlaw28.Mine -/



/-- 'skirmish/skirmishlaw28.Mine' -/
noncomputable def F_skirmishlaw28_Mine : Option (List (List AVal) × List (List AVal) × List (List AVal) × List (List AVal) × List (List AVal) × List (List AVal) × List (List AVal) × List (List AVal) × List (List AVal) × Int × Int × Int × Bool × Int × Int × Int) :=
  Option.bind (F_skirmishlaw13_Flat (4 : Int) (4 : Int)) fun t =>
  bif (decide ((6 : Int) < (Int.ofNat t.1.length))) then
    some ([[(AVal.sc (Value.string (ByteArray.mk (Array.mk [98, 97, 115, 101])))), (bo true), (bo true), (i64 (0 : Int)), (i64 (2 : Int)), (i64 (2 : Int)), (i64 (0 : Int)), (i64 (0 : Int)), (i64 (4 : Int)), (i64 (90 : Int)), (i64 (0 : Int)), (i64 (0 : Int)), (AVal.sc (Value.string (ByteArray.mk (Array.mk [])))), (i64 (0 : Int)), (i64 (0 : Int)), (i64 (0 : Int)), (AVal.ro 0 []), (AVal.ro 1 [[(AVal.sc (Value.string (ByteArray.mk (Array.mk [119, 111, 114, 107, 101, 114]))))]]), (AVal.ro 0 [])], [(AVal.sc (Value.string (ByteArray.mk (Array.mk [119, 111, 114, 107, 101, 114])))), (bo false), (bo false), (i64 (1 : Int)), (i64 (0 : Int)), (i64 (0 : Int)), (i64 (40 : Int)), (i64 (90 : Int)), (i64 (4 : Int)), (i64 (20 : Int)), (i64 (0 : Int)), (i64 (12 : Int)), (AVal.sc (Value.string (ByteArray.mk (Array.mk [])))), (i64 (50 : Int)), (i64 (0 : Int)), (i64 (3 : Int)), (AVal.ro 0 []), (AVal.ro 0 []), (AVal.ro 0 [])]], [], [], (List.set t.1 (6 : Int).toNat [(i64 (5 : Int)), (i64 (0 : Int)), (i64 (9 : Int))]), [[(i64 (1 : Int)), (i64 (1 : Int)), (i64 (60 : Int)), (i64 (0 : Int)), (AVal.ro 0 []), (bo false)]], [[(i64 (1 : Int)), (i64 (1 : Int)), (AVal.sc (Value.string (ByteArray.mk (Array.mk [98, 97, 115, 101])))), (i64 (256 : Int)), (i64 (256 : Int)), (i64 (90 : Int)), (i64 (0 : Int)), (i64 (0 : Int)), (i64 (0 : Int)), (i64 (0 : Int)), (AVal.ro 0 []), (AVal.ro 0 [])], [(i64 (2 : Int)), (i64 (1 : Int)), (AVal.sc (Value.string (ByteArray.mk (Array.mk [119, 111, 114, 107, 101, 114])))), (i64 (640 : Int)), (i64 (128 : Int)), (i64 (20 : Int)), (i64 (0 : Int)), (i64 (0 : Int)), (i64 (10 : Int)), (i64 (0 : Int)), (AVal.ro 5 [[(i64 (3 : Int)), (i64 (640 : Int)), (i64 (384 : Int)), (i64 (0 : Int)), (AVal.sc (Value.string (ByteArray.mk (Array.mk []))))]]), (AVal.ro 0 [])]], [], [], [], (0 : Int), (3 : Int), (0 : Int), false, (0 : Int), t.2.1, t.2.2)
  else
  none
noncomputable def enc16 (t : List (List AVal) × List (List AVal) × List (List AVal) × List (List AVal) × List (List AVal) × List (List AVal) × List (List AVal) × List (List AVal) × List (List AVal) × Int × Int × Int × Bool × Int × Int × Int) : CR := ⟨true, (.agg [(.sc (.int .i64 t.2.2.2.2.2.2.2.2.2.1)), (.sc (.int .i64 t.2.2.2.2.2.2.2.2.2.2.1)), (.sc (.int .i64 t.2.2.2.2.2.2.2.2.2.2.2.1)), (.sc (.bool t.2.2.2.2.2.2.2.2.2.2.2.2.1)), (.sc (.int .u64 t.2.2.2.2.2.2.2.2.2.2.2.2.2.1)), (.slc 0 (t.1).length), (.slc 1 (t.2.1).length), (.slc 2 (t.2.2.1).length), (.sc (.int .i64 t.2.2.2.2.2.2.2.2.2.2.2.2.2.2.1)), (.sc (.int .i64 t.2.2.2.2.2.2.2.2.2.2.2.2.2.2.2)), (.slc 3 (t.2.2.2.1).length), (.slc 4 (t.2.2.2.2.1).length), (.slc 5 (t.2.2.2.2.2.1).length), (.slc 6 (t.2.2.2.2.2.2.1).length), (.slc 7 (t.2.2.2.2.2.2.2.1).length), (.slc 8 (t.2.2.2.2.2.2.2.2.1).length)]), [], [⟨.arr, 77, 19, t.1⟩, ⟨.arr, 161, 6, t.2.1⟩, ⟨.arr, 163, 8, t.2.2.1⟩, ⟨.arr, 63, 3, t.2.2.2.1⟩, ⟨.arr, 42, 6, t.2.2.2.2.1⟩, ⟨.arr, 61, 12, t.2.2.2.2.2.1⟩, ⟨.arr, 165, 9, t.2.2.2.2.2.2.1⟩, ⟨.arr, 169, 3, t.2.2.2.2.2.2.2.1⟩, ⟨.arr, 176, 4, t.2.2.2.2.2.2.2.2.1⟩]⟩
noncomputable def ks16 : List SK := []
noncomputable def S16 (us : List AVal) : Call := bif chkA ks16 us then Call.of (F_skirmishlaw28_Mine) enc16 else Call.none
noncomputable def C16 := AI.ext 16 S16 C30

theorem run16 : fcall TT TU GL0 C30 ownF true noL Try.f16 [] = (F_skirmishlaw28_Mine).bind fun t => some (enc16 t) :=
  Eq.trans (b := (Option.bind (F_skirmishlaw13_Flat (4 : Int) (4 : Int)) fun t => (bif ((((true && (verEq t.1.length t.1.length)) && true) && true) && true) then (bif (((verEq t.1.length t.1.length) && (decide ((0 : Int) ≤ (6 : Int)))) && (decide ((6 : Int) < (Int.ofNat t.1.length)))) then (bif ((((verEq t.1.length t.1.length) && true) && true) && true) then (bif (verEq (Blk.rows (Blk.mk BKind.arr 63 3 (List.set t.1 (6 : Int).toNat [(i64 (5 : Int)), (i64 (0 : Int)), (i64 (9 : Int))]))).length t.1.length) then (some (CR.mk true (AVal.agg [(i64 (0 : Int)), (i64 (3 : Int)), (i64 (0 : Int)), (bo false), (AVal.sc (Value.int IntKind.u64 (0 : Int))), (AVal.slc 0 2), (AVal.slc 1 0), (AVal.slc 2 0), (i64 t.2.1), (i64 t.2.2), (AVal.slc 3 (Blk.rows (Blk.mk BKind.arr 63 3 (List.set t.1 (6 : Int).toNat [(i64 (5 : Int)), (i64 (0 : Int)), (i64 (9 : Int))]))).length), (AVal.slc 4 1), (AVal.slc 5 2), (AVal.slc 6 0), (AVal.slc 7 0), (AVal.slc 8 0)]) [] [(Blk.mk BKind.arr 77 19 [[(AVal.sc (Value.string (ByteArray.mk (Array.mk [98, 97, 115, 101])))), (bo true), (bo true), (i64 (0 : Int)), (i64 (2 : Int)), (i64 (2 : Int)), (i64 (0 : Int)), (i64 (0 : Int)), (i64 (4 : Int)), (i64 (90 : Int)), (i64 (0 : Int)), (i64 (0 : Int)), (AVal.sc (Value.string (ByteArray.mk (Array.mk [])))), (i64 (0 : Int)), (i64 (0 : Int)), (i64 (0 : Int)), (AVal.ro 0 []), (AVal.ro 1 [[(AVal.sc (Value.string (ByteArray.mk (Array.mk [119, 111, 114, 107, 101, 114]))))]]), (AVal.ro 0 [])], [(AVal.sc (Value.string (ByteArray.mk (Array.mk [119, 111, 114, 107, 101, 114])))), (bo false), (bo false), (i64 (1 : Int)), (i64 (0 : Int)), (i64 (0 : Int)), (i64 (40 : Int)), (i64 (90 : Int)), (i64 (4 : Int)), (i64 (20 : Int)), (i64 (0 : Int)), (i64 (12 : Int)), (AVal.sc (Value.string (ByteArray.mk (Array.mk [])))), (i64 (50 : Int)), (i64 (0 : Int)), (i64 (3 : Int)), (AVal.ro 0 []), (AVal.ro 0 []), (AVal.ro 0 [])]]), (Blk.mk BKind.arr 161 6 []), (Blk.mk BKind.arr 163 8 []), (Blk.mk BKind.arr 63 3 (List.set t.1 (6 : Int).toNat [(i64 (5 : Int)), (i64 (0 : Int)), (i64 (9 : Int))])), (Blk.mk BKind.arr 42 6 [[(i64 (1 : Int)), (i64 (1 : Int)), (i64 (60 : Int)), (i64 (0 : Int)), (AVal.ro 0 []), (bo false)]]), (Blk.mk BKind.arr 61 12 [[(i64 (1 : Int)), (i64 (1 : Int)), (AVal.sc (Value.string (ByteArray.mk (Array.mk [98, 97, 115, 101])))), (i64 (256 : Int)), (i64 (256 : Int)), (i64 (90 : Int)), (i64 (0 : Int)), (i64 (0 : Int)), (i64 (0 : Int)), (i64 (0 : Int)), (AVal.ro 0 []), (AVal.ro 0 [])], [(i64 (2 : Int)), (i64 (1 : Int)), (AVal.sc (Value.string (ByteArray.mk (Array.mk [119, 111, 114, 107, 101, 114])))), (i64 (640 : Int)), (i64 (128 : Int)), (i64 (20 : Int)), (i64 (0 : Int)), (i64 (0 : Int)), (i64 (10 : Int)), (i64 (0 : Int)), (AVal.ro 5 [[(i64 (3 : Int)), (i64 (640 : Int)), (i64 (384 : Int)), (i64 (0 : Int)), (AVal.sc (Value.string (ByteArray.mk (Array.mk []))))]]), (AVal.ro 0 [])]]), (Blk.mk BKind.arr 165 9 []), (Blk.mk BKind.arr 169 3 []), (Blk.mk BKind.arr 176 4 [])])) else none) else none) else none) else none))) (by kernel_rfl)
    (n_bind fun t => (n_true (n_andL (n_andL (n_andL (n_andL rfl (verEq_rfl _)) rfl) rfl) rfl) (n_condH (n_andL (n_andL (verEq_rfl _) (by kernel_rfl)) rfl) (fun h0 => (n_true (n_andL (n_andL (n_andL (verEq_rfl _) rfl) rfl) rfl) (n_true (by first | exact verEq_of rfl | simp [verEq, blkLen, blkAt]) rfl))) fun h0 => n_none)))
theorem lib16 : Lib Try.prog GL0 C16 :=
  Lib.fn lib30 mixed TT_ok Try.func16 (by decide +kernel) (by kernel_rfl) true noL (loops_of 0 (by kernel_rfl) below0) ks16 (F := fun us => F_skirmishlaw28_Mine) (fun us => rfl) (fun us => run16) (fun t => rfl)

/-! ### 38: slices.Clone[[]skirmish/api.Player,skirmish/api.Player] -/



/-- 'slices.Clone[[]skirmish/api.Player,skirmish/api.Player]' -/
noncomputable def F_slices_Clone_Player_ne (s1 : List (List AVal)) : Option (List (List AVal)) :=
  bif (List.isEmpty s1) then
    none
  else
  bif (roomOk (0 + s1.length) 64) then
    some s1
  else
  none
noncomputable def F_slices_Clone_Player (s1 : List (List AVal)) : Option (List (List AVal)) := bif s1.isEmpty then some [] else F_slices_Clone_Player_ne s1
noncomputable def enc38 (t : List (List AVal)) : CR := ⟨true, (.slc 0 (t).length), [], [⟨.arr, 42, 6, t⟩]⟩
noncomputable def S38 (us : List AVal) : Call := bif chkA [.f (.ro 6)] us then Call.of (F_slices_Clone_Player (roRows (cIa us 0))) enc38 else Call.none
noncomputable def C38 := AI.ext 38 S38 C16

theorem run38 (s1 : List (List AVal)) : fcall TT TU GL0 C16 ownF true noL Try.f38 [(.ro 6 s1)] = (F_slices_Clone_Player_ne s1).bind fun t => some (enc38 t) :=
  Eq.trans (b := (bif (List.isEmpty s1) then none else (bif (roomOk (0 + s1.length) 64) then (bif (verEq s1.length s1.length) then (some (CR.mk true (AVal.slc 0 s1.length) [] [(Blk.mk BKind.arr 42 6 s1)])) else none) else none))) (by kernel_rfl)
    (n_condH rfl (fun h0 => n_none) fun h0 => (n_condH rfl (fun h1 => (n_true (verEq_rfl _) rfl)) fun h1 => n_none))
theorem lib38 : Lib Try.prog GL0 C38 :=
  Lib.clone lib16 mixed TT_ok Try.func38 (by decide +kernel) (by kernel_rfl) true noL (loops_of 0 (by kernel_rfl) below0)  6 (fun us => rfl) run38 (fun a cap => by cases a <;> kernel_rfl) (fun t => rfl)

/-! ### 39: slices.Clone[[]skirmish/api.Entity,skirmish/api.Entity] -/



/-- 'slices.Clone[[]skirmish/api.Entity,skirmish/api.Entity]' -/
noncomputable def F_slices_Clone_Entity_ne (s1 : List (List AVal)) : Option (List (List AVal)) :=
  bif (List.isEmpty s1) then
    none
  else
  bif (roomOk (0 + s1.length) 136) then
    some s1
  else
  none
noncomputable def F_slices_Clone_Entity (s1 : List (List AVal)) : Option (List (List AVal)) := bif s1.isEmpty then some [] else F_slices_Clone_Entity_ne s1
noncomputable def enc39 (t : List (List AVal)) : CR := ⟨true, (.slc 0 (t).length), [], [⟨.arr, 61, 12, t⟩]⟩
noncomputable def S39 (us : List AVal) : Call := bif chkA [.f (.ro 12)] us then Call.of (F_slices_Clone_Entity (roRows (cIa us 0))) enc39 else Call.none
noncomputable def C39 := AI.ext 39 S39 C38

theorem run39 (s1 : List (List AVal)) : fcall TT TU GL0 C38 ownF true noL Try.f39 [(.ro 12 s1)] = (F_slices_Clone_Entity_ne s1).bind fun t => some (enc39 t) :=
  Eq.trans (b := (bif (List.isEmpty s1) then none else (bif (roomOk (0 + s1.length) 136) then (bif (verEq s1.length s1.length) then (some (CR.mk true (AVal.slc 0 s1.length) [] [(Blk.mk BKind.arr 61 12 s1)])) else none) else none))) (by kernel_rfl)
    (n_condH rfl (fun h0 => n_none) fun h0 => (n_condH rfl (fun h1 => (n_true (verEq_rfl _) rfl)) fun h1 => n_none))
theorem lib39 : Lib Try.prog GL0 C39 :=
  Lib.clone lib38 mixed TT_ok Try.func39 (by decide +kernel) (by kernel_rfl) true noL (loops_of 0 (by kernel_rfl) below0)  12 (fun us => rfl) run39 (fun a cap => by cases a <;> kernel_rfl) (fun t => rfl)

/-! ### 20: skirmish/economy.clone -/



/-- 'skirmish/economy.clone' -/
noncomputable def F_economy_clone (g_Turn : Int) (g_NextId : Int) (g_Winner : Int) (g_Paused : Bool) (g_Rng : Int) (g_Rules_Units : List (List AVal)) (g_Rules_Weapons : List (List AVal)) (g_Rules_Techs : List (List AVal)) (g_Map_W : Int) (g_Map_H : Int) (g_Map_Cells : List (List AVal)) (g_Players : List (List AVal)) (g_Units : List (List AVal)) (g_Shots : List (List AVal)) (g_Memories : List (List AVal)) (g_Scripts : List (List AVal)) : Option (List (List AVal) × List (List AVal) × Int × Int × Int × Bool × Int × List (List AVal) × List (List AVal) × List (List AVal) × Int × Int × List (List AVal) × List (List AVal) × List (List AVal) × List (List AVal)) :=
  Option.bind (F_slices_Clone_Player g_Players) fun t =>
  Option.bind (F_slices_Clone_Entity g_Units) fun t1 =>
  some (t, t1, g_Turn, g_NextId, g_Winner, g_Paused, g_Rng, g_Rules_Units, g_Rules_Weapons, g_Rules_Techs, g_Map_W, g_Map_H, g_Map_Cells, g_Shots, g_Memories, g_Scripts)
noncomputable def enc20 (t : List (List AVal) × List (List AVal) × Int × Int × Int × Bool × Int × List (List AVal) × List (List AVal) × List (List AVal) × Int × Int × List (List AVal) × List (List AVal) × List (List AVal) × List (List AVal)) : CR := ⟨true, (.agg [(.sc (.int .i64 t.2.2.1)), (.sc (.int .i64 t.2.2.2.1)), (.sc (.int .i64 t.2.2.2.2.1)), (.sc (.bool t.2.2.2.2.2.1)), (.sc (.int .u64 t.2.2.2.2.2.2.1)), (.ro 19 t.2.2.2.2.2.2.2.1), (.ro 6 t.2.2.2.2.2.2.2.2.1), (.ro 8 t.2.2.2.2.2.2.2.2.2.1), (.sc (.int .i64 t.2.2.2.2.2.2.2.2.2.2.1)), (.sc (.int .i64 t.2.2.2.2.2.2.2.2.2.2.2.1)), (.ro 3 t.2.2.2.2.2.2.2.2.2.2.2.2.1), (.slc 0 (t.1).length), (.slc 1 (t.2.1).length), (.ro 9 t.2.2.2.2.2.2.2.2.2.2.2.2.2.1), (.ro 3 t.2.2.2.2.2.2.2.2.2.2.2.2.2.2.1), (.ro 4 t.2.2.2.2.2.2.2.2.2.2.2.2.2.2.2)]), [], [⟨.arr, 42, 6, t.1⟩, ⟨.arr, 61, 12, t.2.1⟩]⟩
noncomputable def ks20 : List SK := [.agg [.int .i64, .int .i64, .int .i64, .bool, .int .u64, .ro 19, .ro 6, .ro 8, .int .i64, .int .i64, .ro 3, .ro 6, .ro 12, .ro 9, .ro 3, .ro 4]]
noncomputable def S20 (us : List AVal) : Call := bif chkA ks20 us then Call.of (F_economy_clone (toI (cIa (aggL (cIa us 0)) 0)) (toI (cIa (aggL (cIa us 0)) 1)) (toI (cIa (aggL (cIa us 0)) 2)) (toB (cIa (aggL (cIa us 0)) 3)) (toI (cIa (aggL (cIa us 0)) 4)) (roRows (cIa (aggL (cIa us 0)) 5)) (roRows (cIa (aggL (cIa us 0)) 6)) (roRows (cIa (aggL (cIa us 0)) 7)) (toI (cIa (aggL (cIa us 0)) 8)) (toI (cIa (aggL (cIa us 0)) 9)) (roRows (cIa (aggL (cIa us 0)) 10)) (roRows (cIa (aggL (cIa us 0)) 11)) (roRows (cIa (aggL (cIa us 0)) 12)) (roRows (cIa (aggL (cIa us 0)) 13)) (roRows (cIa (aggL (cIa us 0)) 14)) (roRows (cIa (aggL (cIa us 0)) 15))) enc20 else Call.none
noncomputable def C20 := AI.ext 20 S20 C39

theorem run20 (g_Turn : Int) (g_NextId : Int) (g_Winner : Int) (g_Paused : Bool) (g_Rng : Int) (g_Rules_Units : List (List AVal)) (g_Rules_Weapons : List (List AVal)) (g_Rules_Techs : List (List AVal)) (g_Map_W : Int) (g_Map_H : Int) (g_Map_Cells : List (List AVal)) (g_Players : List (List AVal)) (g_Units : List (List AVal)) (g_Shots : List (List AVal)) (g_Memories : List (List AVal)) (g_Scripts : List (List AVal)) : fcall TT TU GL0 C39 ownF true noL Try.f20 [(.agg [(.sc (.int .i64 g_Turn)), (.sc (.int .i64 g_NextId)), (.sc (.int .i64 g_Winner)), (.sc (.bool g_Paused)), (.sc (.int .u64 g_Rng)), (.ro 19 g_Rules_Units), (.ro 6 g_Rules_Weapons), (.ro 8 g_Rules_Techs), (.sc (.int .i64 g_Map_W)), (.sc (.int .i64 g_Map_H)), (.ro 3 g_Map_Cells), (.ro 6 g_Players), (.ro 12 g_Units), (.ro 9 g_Shots), (.ro 3 g_Memories), (.ro 4 g_Scripts)])] = (F_economy_clone g_Turn g_NextId g_Winner g_Paused g_Rng g_Rules_Units g_Rules_Weapons g_Rules_Techs g_Map_W g_Map_H g_Map_Cells g_Players g_Units g_Shots g_Memories g_Scripts).bind fun t => some (enc20 t) :=
  Eq.trans (b := (Option.bind (F_slices_Clone_Player g_Players) fun t => (bif ((((true && (verEq t.length t.length)) && true) && true) && true) then (Option.bind (F_slices_Clone_Entity g_Units) fun t1 => (bif ((((true && (verEq t1.length t1.length)) && true) && true) && true) then (bif (verEq t.length t.length) then (bif (verEq t1.length t1.length) then (some (CR.mk true (AVal.agg [(i64 g_Turn), (i64 g_NextId), (i64 g_Winner), (bo g_Paused), (AVal.sc (Value.int IntKind.u64 g_Rng)), (AVal.ro 19 g_Rules_Units), (AVal.ro 6 g_Rules_Weapons), (AVal.ro 8 g_Rules_Techs), (i64 g_Map_W), (i64 g_Map_H), (AVal.ro 3 g_Map_Cells), (AVal.slc 0 t.length), (AVal.slc 1 t1.length), (AVal.ro 9 g_Shots), (AVal.ro 3 g_Memories), (AVal.ro 4 g_Scripts)]) [] [(Blk.mk BKind.arr 42 6 t), (Blk.mk BKind.arr 61 12 t1)])) else none) else none) else none)) else none))) (by kernel_rfl)
    (n_bind fun t => (n_true (n_andL (n_andL (n_andL (n_andL rfl (verEq_rfl _)) rfl) rfl) rfl) (n_bind fun t1 => (n_true (n_andL (n_andL (n_andL (n_andL rfl (verEq_rfl _)) rfl) rfl) rfl) (n_true (verEq_rfl _) (n_true (verEq_rfl _) rfl))))))
theorem lib20 : Lib Try.prog GL0 C20 :=
  Lib.fn lib39 mixed TT_ok Try.func20 (by decide +kernel) (by kernel_rfl) true noL (loops_of 0 (by kernel_rfl) below0) ks20 (F := fun us => F_economy_clone (toI (cIa (aggL (cIa us 0)) 0)) (toI (cIa (aggL (cIa us 0)) 1)) (toI (cIa (aggL (cIa us 0)) 2)) (toB (cIa (aggL (cIa us 0)) 3)) (toI (cIa (aggL (cIa us 0)) 4)) (roRows (cIa (aggL (cIa us 0)) 5)) (roRows (cIa (aggL (cIa us 0)) 6)) (roRows (cIa (aggL (cIa us 0)) 7)) (toI (cIa (aggL (cIa us 0)) 8)) (toI (cIa (aggL (cIa us 0)) 9)) (roRows (cIa (aggL (cIa us 0)) 10)) (roRows (cIa (aggL (cIa us 0)) 11)) (roRows (cIa (aggL (cIa us 0)) 12)) (roRows (cIa (aggL (cIa us 0)) 13)) (roRows (cIa (aggL (cIa us 0)) 14)) (roRows (cIa (aggL (cIa us 0)) 15))) (fun us => rfl) (fun us => run20 (toI (cIa (aggL (cIa us 0)) 0)) (toI (cIa (aggL (cIa us 0)) 1)) (toI (cIa (aggL (cIa us 0)) 2)) (toB (cIa (aggL (cIa us 0)) 3)) (toI (cIa (aggL (cIa us 0)) 4)) (roRows (cIa (aggL (cIa us 0)) 5)) (roRows (cIa (aggL (cIa us 0)) 6)) (roRows (cIa (aggL (cIa us 0)) 7)) (toI (cIa (aggL (cIa us 0)) 8)) (toI (cIa (aggL (cIa us 0)) 9)) (roRows (cIa (aggL (cIa us 0)) 10)) (roRows (cIa (aggL (cIa us 0)) 11)) (roRows (cIa (aggL (cIa us 0)) 12)) (roRows (cIa (aggL (cIa us 0)) 13)) (roRows (cIa (aggL (cIa us 0)) 14)) (roRows (cIa (aggL (cIa us 0)) 15))) (fun t => rfl)

/-! ### 52: skirmish/rules.unitName -/



/-- 'skirmish/rules.unitName' -/
noncomputable def F_rules_unitName (u_Name : ByteArray) (u_Building : Bool) (u_Depot : Bool) (u_Class : Int) (u_W : Int) (u_H : Int) (u_Radius : Int) (u_Speed : Int) (u_Sight : Int) (u_Hp : Int) (u_Armor : Int) (u_Load : Int) (u_Weapon : ByteArray) (u_Ore : Int) (u_Wood : Int) (u_Time : Int) (u_Needs : List (List AVal)) (u_Trains : List (List AVal)) (u_Researches : List (List AVal)) : Option (ByteArray) :=
  some u_Name
noncomputable def enc52 (t : ByteArray) : CR := ⟨true, (.sc (.string t)), [], []⟩
noncomputable def ks52 : List SK := [.agg [.str, .bool, .bool, .int .i64, .int .i64, .int .i64, .int .i64, .int .i64, .int .i64, .int .i64, .int .i64, .int .i64, .str, .int .i64, .int .i64, .int .i64, .ro 1, .ro 1, .ro 1]]
noncomputable def S52 (us : List AVal) : Call := bif chkA ks52 us then Call.of (F_rules_unitName (toS (cIa (aggL (cIa us 0)) 0)) (toB (cIa (aggL (cIa us 0)) 1)) (toB (cIa (aggL (cIa us 0)) 2)) (toI (cIa (aggL (cIa us 0)) 3)) (toI (cIa (aggL (cIa us 0)) 4)) (toI (cIa (aggL (cIa us 0)) 5)) (toI (cIa (aggL (cIa us 0)) 6)) (toI (cIa (aggL (cIa us 0)) 7)) (toI (cIa (aggL (cIa us 0)) 8)) (toI (cIa (aggL (cIa us 0)) 9)) (toI (cIa (aggL (cIa us 0)) 10)) (toI (cIa (aggL (cIa us 0)) 11)) (toS (cIa (aggL (cIa us 0)) 12)) (toI (cIa (aggL (cIa us 0)) 13)) (toI (cIa (aggL (cIa us 0)) 14)) (toI (cIa (aggL (cIa us 0)) 15)) (roRows (cIa (aggL (cIa us 0)) 16)) (roRows (cIa (aggL (cIa us 0)) 17)) (roRows (cIa (aggL (cIa us 0)) 18))) enc52 else Call.none
noncomputable def C52 := AI.ext 52 S52 C20

theorem run52 (u_Name : ByteArray) (u_Building : Bool) (u_Depot : Bool) (u_Class : Int) (u_W : Int) (u_H : Int) (u_Radius : Int) (u_Speed : Int) (u_Sight : Int) (u_Hp : Int) (u_Armor : Int) (u_Load : Int) (u_Weapon : ByteArray) (u_Ore : Int) (u_Wood : Int) (u_Time : Int) (u_Needs : List (List AVal)) (u_Trains : List (List AVal)) (u_Researches : List (List AVal)) : fcall TT TU GL0 C20 ownF true noL Try.f52 [(.agg [(.sc (.string u_Name)), (.sc (.bool u_Building)), (.sc (.bool u_Depot)), (.sc (.int .i64 u_Class)), (.sc (.int .i64 u_W)), (.sc (.int .i64 u_H)), (.sc (.int .i64 u_Radius)), (.sc (.int .i64 u_Speed)), (.sc (.int .i64 u_Sight)), (.sc (.int .i64 u_Hp)), (.sc (.int .i64 u_Armor)), (.sc (.int .i64 u_Load)), (.sc (.string u_Weapon)), (.sc (.int .i64 u_Ore)), (.sc (.int .i64 u_Wood)), (.sc (.int .i64 u_Time)), (.ro 1 u_Needs), (.ro 1 u_Trains), (.ro 1 u_Researches)])] = (F_rules_unitName u_Name u_Building u_Depot u_Class u_W u_H u_Radius u_Speed u_Sight u_Hp u_Armor u_Load u_Weapon u_Ore u_Wood u_Time u_Needs u_Trains u_Researches).bind fun t => some (enc52 t) :=
  Eq.trans (b := (some (CR.mk true (AVal.sc (Value.string u_Name)) [] []))) (by kernel_rfl)
    rfl
theorem lib52 : Lib Try.prog GL0 C52 :=
  Lib.fn lib20 mixed TT_ok Try.func52 (by decide +kernel) (by kernel_rfl) true noL (loops_of 0 (by kernel_rfl) below0) ks52 (F := fun us => F_rules_unitName (toS (cIa (aggL (cIa us 0)) 0)) (toB (cIa (aggL (cIa us 0)) 1)) (toB (cIa (aggL (cIa us 0)) 2)) (toI (cIa (aggL (cIa us 0)) 3)) (toI (cIa (aggL (cIa us 0)) 4)) (toI (cIa (aggL (cIa us 0)) 5)) (toI (cIa (aggL (cIa us 0)) 6)) (toI (cIa (aggL (cIa us 0)) 7)) (toI (cIa (aggL (cIa us 0)) 8)) (toI (cIa (aggL (cIa us 0)) 9)) (toI (cIa (aggL (cIa us 0)) 10)) (toI (cIa (aggL (cIa us 0)) 11)) (toS (cIa (aggL (cIa us 0)) 12)) (toI (cIa (aggL (cIa us 0)) 13)) (toI (cIa (aggL (cIa us 0)) 14)) (toI (cIa (aggL (cIa us 0)) 15)) (roRows (cIa (aggL (cIa us 0)) 16)) (roRows (cIa (aggL (cIa us 0)) 17)) (roRows (cIa (aggL (cIa us 0)) 18))) (fun us => rfl) (fun us => run52 (toS (cIa (aggL (cIa us 0)) 0)) (toB (cIa (aggL (cIa us 0)) 1)) (toB (cIa (aggL (cIa us 0)) 2)) (toI (cIa (aggL (cIa us 0)) 3)) (toI (cIa (aggL (cIa us 0)) 4)) (toI (cIa (aggL (cIa us 0)) 5)) (toI (cIa (aggL (cIa us 0)) 6)) (toI (cIa (aggL (cIa us 0)) 7)) (toI (cIa (aggL (cIa us 0)) 8)) (toI (cIa (aggL (cIa us 0)) 9)) (toI (cIa (aggL (cIa us 0)) 10)) (toI (cIa (aggL (cIa us 0)) 11)) (toS (cIa (aggL (cIa us 0)) 12)) (toI (cIa (aggL (cIa us 0)) 13)) (toI (cIa (aggL (cIa us 0)) 14)) (toI (cIa (aggL (cIa us 0)) 15)) (roRows (cIa (aggL (cIa us 0)) 16)) (roRows (cIa (aggL (cIa us 0)) 17)) (roRows (cIa (aggL (cIa us 0)) 18))) (fun t => rfl)

/-! ### 51: skirmish/rules.find[skirmish/api.UnitType] -/

noncomputable def W51_0 : Ex → List Bool
  | .ret => [false, false, false, false, false, false, true, true, false, false, false, false, false, false, false, false, false, false, false, false, false, false, false, false, false]
  | .exit n => bif Nat.beq n 0 then [false, false, false, false, false, false, true, false, false, false, false, false, false, false, false, false, false, false, false, false, false, false, false, false, false] else []
  | .normal => []
noncomputable def G_rules_find_UnitType_0 (want : ByteArray) (x11 : List (List AVal)) (x12 : Int) : Nat → Int → Option (Bool × ByteArray × Bool × Bool × Int × Int × Int × Int × Int × Int × Int × Int × Int × ByteArray × Int × Int × Int × List (List AVal) × List (List AVal) × List (List AVal))
  | 0, _ => none
  | m + 1, x13 =>
    bif (decide (x13 < x12)) then
      bif (decide ((0 : Int) ≤ x13)) then
        Option.bind (x11[x13.toNat]?) fun r =>
        bif (chk [LT.str, LT.bool, LT.bool, (LT.int IntKind.i64), (LT.int IntKind.i64), (LT.int IntKind.i64), (LT.int IntKind.i64), (LT.int IntKind.i64), (LT.int IntKind.i64), (LT.int IntKind.i64), (LT.int IntKind.i64), (LT.int IntKind.i64), LT.str, (LT.int IntKind.i64), (LT.int IntKind.i64), (LT.int IntKind.i64), (LT.sl 9 1), (LT.sl 9 1), (LT.sl 9 1)] r) then
          Option.bind (F_rules_unitName (cS r 0) (cB r 1) (cB r 2) (cI r 3) (cI r 4) (cI r 5) (cI r 6) (cI r 7) (cI r 8) (cI r 9) (cI r 10) (cI r 11) (cS r 12) (cI r 13) (cI r 14) (cI r 15) (roRows (AVal.ro 1 (cR r 16))) (roRows (AVal.ro 1 (cR r 17))) (roRows (AVal.ro 1 (cR r 18)))) fun t =>
          bif (List.beq (ByteArray.toList t) (ByteArray.toList want)) then
            some (true, (cS r 0), (cB r 1), (cB r 2), (cI r 3), (cI r 4), (cI r 5), (cI r 6), (cI r 7), (cI r 8), (cI r 9), (cI r 10), (cI r 11), (cS r 12), (cI r 13), (cI r 14), (cI r 15), (cR r 16), (cR r 17), (cR r 18))
          else
          G_rules_find_UnitType_0 want x11 x12 m (wr (x13 + (1 : Int)))
        else
        none
      else
      none
    else
    some (false, ⟨#[]⟩, false, false, 0, 0, 0, 0, 0, 0, 0, 0, 0, ⟨#[]⟩, 0, 0, 0, [], [], [])
noncomputable def E51_0 (want : ByteArray) (x11 : List (List AVal)) (x12 : Int) (x13 : Int) (b0_0 : ByteArray) (b0_1 : Bool) (b0_2 : Bool) (b0_3 : Int) (b0_4 : Int) (b0_5 : Int) (b0_6 : Int) (b0_7 : Int) (b0_8 : Int) (b0_9 : Int) (b0_10 : Int) (b0_11 : Int) (b0_12 : ByteArray) (b0_13 : Int) (b0_14 : Int) (b0_15 : Int) : St := ⟨[.dead, (.clo 52 []), (.sc (.string want)), .dead, .dead, .dead, (.ref 16000 1 0 0), .dead, .dead, .dead, .dead, (.ro 19 x11), (.sc (.int .i64 x12)), (.sc (.int .i64 x13)), .dead, .dead, .dead, .dead, .dead, .dead, .dead, .dead, .dead, .dead, .dead], [(16000, ⟨.box, 77, 19, [[(.sc (.string b0_0)), (.sc (.bool b0_1)), (.sc (.bool b0_2)), (.sc (.int .i64 b0_3)), (.sc (.int .i64 b0_4)), (.sc (.int .i64 b0_5)), (.sc (.int .i64 b0_6)), (.sc (.int .i64 b0_7)), (.sc (.int .i64 b0_8)), (.sc (.int .i64 b0_9)), (.sc (.int .i64 b0_10)), (.sc (.int .i64 b0_11)), (.sc (.string b0_12)), (.sc (.int .i64 b0_13)), (.sc (.int .i64 b0_14)), (.sc (.int .i64 b0_15)), .emp, .emp, .emp]]⟩)]⟩
noncomputable def X51_0 (b0_0 : ByteArray) (b0_1 : Bool) (b0_2 : Bool) (b0_3 : Int) (b0_4 : Int) (b0_5 : Int) (b0_6 : Int) (b0_7 : Int) (b0_8 : Int) (b0_9 : Int) (b0_10 : Int) (b0_11 : Int) (b0_12 : ByteArray) (b0_13 : Int) (b0_14 : Int) (b0_15 : Int) (k : Ex → St → Option CR) (t : Bool × ByteArray × Bool × Bool × Int × Int × Int × Int × Int × Int × Int × Int × Int × ByteArray × Int × Int × Int × List (List AVal) × List (List AVal) × List (List AVal)) : Option CR := bif t.1 then k .ret ⟨[.dead, .dead, .dead, .dead, .dead, .dead, (.ref 16000 1 0 0), (.sc (.bool true)), .dead, .dead, .dead, .dead, .dead, .dead, .dead, .dead, .dead, .dead, .dead, .dead, .dead, .dead, .dead, .dead, .dead], [(16000, ⟨.box, 77, 19, [[(.sc (.string t.2.1)), (.sc (.bool t.2.2.1)), (.sc (.bool t.2.2.2.1)), (.sc (.int .i64 t.2.2.2.2.1)), (.sc (.int .i64 t.2.2.2.2.2.1)), (.sc (.int .i64 t.2.2.2.2.2.2.1)), (.sc (.int .i64 t.2.2.2.2.2.2.2.1)), (.sc (.int .i64 t.2.2.2.2.2.2.2.2.1)), (.sc (.int .i64 t.2.2.2.2.2.2.2.2.2.1)), (.sc (.int .i64 t.2.2.2.2.2.2.2.2.2.2.1)), (.sc (.int .i64 t.2.2.2.2.2.2.2.2.2.2.2.1)), (.sc (.int .i64 t.2.2.2.2.2.2.2.2.2.2.2.2.1)), (.sc (.string t.2.2.2.2.2.2.2.2.2.2.2.2.2.1)), (.sc (.int .i64 t.2.2.2.2.2.2.2.2.2.2.2.2.2.2.1)), (.sc (.int .i64 t.2.2.2.2.2.2.2.2.2.2.2.2.2.2.2.1)), (.sc (.int .i64 t.2.2.2.2.2.2.2.2.2.2.2.2.2.2.2.2.1)), (.ro 1 t.2.2.2.2.2.2.2.2.2.2.2.2.2.2.2.2.2.1), (.ro 1 t.2.2.2.2.2.2.2.2.2.2.2.2.2.2.2.2.2.2.1), (.ro 1 t.2.2.2.2.2.2.2.2.2.2.2.2.2.2.2.2.2.2.2)]]⟩)]⟩ else k (.exit 0) ⟨[.dead, .dead, .dead, .dead, .dead, .dead, (.ref 16000 1 0 0), .dead, .dead, .dead, .dead, .dead, .dead, .dead, .dead, .dead, .dead, .dead, .dead, .dead, .dead, .dead, .dead, .dead, .dead], [(16000, ⟨.box, 77, 19, [[(.sc (.string b0_0)), (.sc (.bool b0_1)), (.sc (.bool b0_2)), (.sc (.int .i64 b0_3)), (.sc (.int .i64 b0_4)), (.sc (.int .i64 b0_5)), (.sc (.int .i64 b0_6)), (.sc (.int .i64 b0_7)), (.sc (.int .i64 b0_8)), (.sc (.int .i64 b0_9)), (.sc (.int .i64 b0_10)), (.sc (.int .i64 b0_11)), (.sc (.string b0_12)), (.sc (.int .i64 b0_13)), (.sc (.int .i64 b0_14)), (.sc (.int .i64 b0_15)), .emp, .emp, .emp]]⟩)]⟩
noncomputable def ks51_0 : List SK := [.f .dead, .f (.clo 52 []), .f (.str), .f .dead, .f .dead, .f .dead, .f (.ref 16000 1 0 0), .f .dead, .f .dead, .f .dead, .f .dead, .f (.ro 19), .f (.int .i64), .f (.int .i64), .f .dead, .f .dead, .f .dead, .f .dead, .f .dead, .f .dead, .f .dead, .f .dead, .f .dead, .f .dead, .f .dead]
noncomputable def hs51_0 : List HK := [⟨16000, .box, 77, 19, some [.str, .bool, .bool, .int .i64, .int .i64, .int .i64, .int .i64, .int .i64, .int .i64, .int .i64, .int .i64, .int .i64, .str, .int .i64, .int .i64, .int .i64, .emp, .emp, .emp]⟩]
noncomputable def Lm51_0 (s : St) (k : Ex → St → Option CR) : Option CR := bif chkS ks51_0 hs51_0 s then (G_rules_find_UnitType_0 (toS (cIa s.tmps 2)) (roRows (cIa s.tmps 11)) (toI (cIa s.tmps 12)) FU (toI (cIa s.tmps 13))).bind (X51_0 (toS (cIa (rows0 (blkAt s.heap 0).2) 0)) (toB (cIa (rows0 (blkAt s.heap 0).2) 1)) (toB (cIa (rows0 (blkAt s.heap 0).2) 2)) (toI (cIa (rows0 (blkAt s.heap 0).2) 3)) (toI (cIa (rows0 (blkAt s.heap 0).2) 4)) (toI (cIa (rows0 (blkAt s.heap 0).2) 5)) (toI (cIa (rows0 (blkAt s.heap 0).2) 6)) (toI (cIa (rows0 (blkAt s.heap 0).2) 7)) (toI (cIa (rows0 (blkAt s.heap 0).2) 8)) (toI (cIa (rows0 (blkAt s.heap 0).2) 9)) (toI (cIa (rows0 (blkAt s.heap 0).2) 10)) (toI (cIa (rows0 (blkAt s.heap 0).2) 11)) (toS (cIa (rows0 (blkAt s.heap 0).2) 12)) (toI (cIa (rows0 (blkAt s.heap 0).2) 13)) (toI (cIa (rows0 (blkAt s.heap 0).2) 14)) (toI (cIa (rows0 (blkAt s.heap 0).2) 15)) k) else none
noncomputable def L51_0 (s : St) (k : Ex → St → Option CR) : Option CR := Lm51_0 (maskS (maskOf ks51_0) s) k

noncomputable def L51 : LT' := fun i s k => bif Nat.beq i 0 then L51_0 s k else none

/-- 'skirmish/rules.find[skirmish/api.UnitType]' -/
noncomputable def F_rules_find_UnitType (l : List (List AVal)) (want : ByteArray) : Option (ByteArray × Bool × Bool × Int × Int × Int × Int × Int × Int × Int × Int × Int × ByteArray × Int × Int × Int × List (List AVal) × List (List AVal) × List (List AVal) × Bool) :=
  Option.bind (G_rules_find_UnitType_0 want l (Int.ofNat l.length) FU (0 : Int)) fun t =>
  bif t.1 then
    some (t.2.1, t.2.2.1, t.2.2.2.1, t.2.2.2.2.1, t.2.2.2.2.2.1, t.2.2.2.2.2.2.1, t.2.2.2.2.2.2.2.1, t.2.2.2.2.2.2.2.2.1, t.2.2.2.2.2.2.2.2.2.1, t.2.2.2.2.2.2.2.2.2.2.1, t.2.2.2.2.2.2.2.2.2.2.2.1, t.2.2.2.2.2.2.2.2.2.2.2.2.1, t.2.2.2.2.2.2.2.2.2.2.2.2.2.1, t.2.2.2.2.2.2.2.2.2.2.2.2.2.2.1, t.2.2.2.2.2.2.2.2.2.2.2.2.2.2.2.1, t.2.2.2.2.2.2.2.2.2.2.2.2.2.2.2.2.1, t.2.2.2.2.2.2.2.2.2.2.2.2.2.2.2.2.2.1, t.2.2.2.2.2.2.2.2.2.2.2.2.2.2.2.2.2.2.1, t.2.2.2.2.2.2.2.2.2.2.2.2.2.2.2.2.2.2.2, true)
  else
  some ((ByteArray.mk (Array.mk [])), false, false, (0 : Int), (0 : Int), (0 : Int), (0 : Int), (0 : Int), (0 : Int), (0 : Int), (0 : Int), (0 : Int), (ByteArray.mk (Array.mk [])), (0 : Int), (0 : Int), (0 : Int), [], [], [], false)
noncomputable def enc51 (t : ByteArray × Bool × Bool × Int × Int × Int × Int × Int × Int × Int × Int × Int × ByteArray × Int × Int × Int × List (List AVal) × List (List AVal) × List (List AVal) × Bool) : CR := ⟨true, (.tup [(.agg [(.sc (.string t.1)), (.sc (.bool t.2.1)), (.sc (.bool t.2.2.1)), (.sc (.int .i64 t.2.2.2.1)), (.sc (.int .i64 t.2.2.2.2.1)), (.sc (.int .i64 t.2.2.2.2.2.1)), (.sc (.int .i64 t.2.2.2.2.2.2.1)), (.sc (.int .i64 t.2.2.2.2.2.2.2.1)), (.sc (.int .i64 t.2.2.2.2.2.2.2.2.1)), (.sc (.int .i64 t.2.2.2.2.2.2.2.2.2.1)), (.sc (.int .i64 t.2.2.2.2.2.2.2.2.2.2.1)), (.sc (.int .i64 t.2.2.2.2.2.2.2.2.2.2.2.1)), (.sc (.string t.2.2.2.2.2.2.2.2.2.2.2.2.1)), (.sc (.int .i64 t.2.2.2.2.2.2.2.2.2.2.2.2.2.1)), (.sc (.int .i64 t.2.2.2.2.2.2.2.2.2.2.2.2.2.2.1)), (.sc (.int .i64 t.2.2.2.2.2.2.2.2.2.2.2.2.2.2.2.1)), (.ro 1 t.2.2.2.2.2.2.2.2.2.2.2.2.2.2.2.2.1), (.ro 1 t.2.2.2.2.2.2.2.2.2.2.2.2.2.2.2.2.2.1), (.ro 1 t.2.2.2.2.2.2.2.2.2.2.2.2.2.2.2.2.2.2.1)]), (.sc (.bool t.2.2.2.2.2.2.2.2.2.2.2.2.2.2.2.2.2.2.2))]), [], []⟩
noncomputable def ks51 : List SK := [.f (.ro 19), .f (.clo 52 []), .f (.str)]
noncomputable def S51 (us : List AVal) : Call := bif chkA ks51 us then Call.of (F_rules_find_UnitType (roRows (cIa us 0)) (toS (cIa us 2))) enc51 else Call.none
noncomputable def C51 := AI.ext 51 S51 C52

@[reducible] noncomputable def B51_0 := bodyOf TT TU GL0 C52 ownF L51 (lp Try.f51 0)
@[reducible] noncomputable def K51_0 (k : Ex → St → Option CR) : Ex → St → Option CR := fun e s => k e (maskS (W51_0 e) s)
theorem spec51_0 (k : Ex → St → Option CR) : ∀ (m : Nat) (want : ByteArray) (x11 : List (List AVal)) (x12 : Int) (x13 : Int) (b0_0 : ByteArray) (b0_1 : Bool) (b0_2 : Bool) (b0_3 : Int) (b0_4 : Int) (b0_5 : Int) (b0_6 : Int) (b0_7 : Int) (b0_8 : Int) (b0_9 : Int) (b0_10 : Int) (b0_11 : Int) (b0_12 : ByteArray) (b0_13 : Int) (b0_14 : Int) (b0_15 : Int), loopN B51_0 m (E51_0 want x11 x12 x13 b0_0 b0_1 b0_2 b0_3 b0_4 b0_5 b0_6 b0_7 b0_8 b0_9 b0_10 b0_11 b0_12 b0_13 b0_14 b0_15) (K51_0 k) = (G_rules_find_UnitType_0 want x11 x12 m x13).bind (X51_0 b0_0 b0_1 b0_2 b0_3 b0_4 b0_5 b0_6 b0_7 b0_8 b0_9 b0_10 b0_11 b0_12 b0_13 b0_14 b0_15 k)
  | 0, _, _, _, _, _, _, _, _, _, _, _, _, _, _, _, _, _, _, _, _ => rfl
  | m + 1, want, x11, x12, x13, b0_0, b0_1, b0_2, b0_3, b0_4, b0_5, b0_6, b0_7, b0_8, b0_9, b0_10, b0_11, b0_12, b0_13, b0_14, b0_15 =>
    Eq.trans (b := (bif (decide (x13 < x12)) then (bif (decide ((0 : Int) ≤ x13)) then (Option.bind (x11[x13.toNat]?) fun r => (bif (chk [LT.str, LT.bool, LT.bool, (LT.int IntKind.i64), (LT.int IntKind.i64), (LT.int IntKind.i64), (LT.int IntKind.i64), (LT.int IntKind.i64), (LT.int IntKind.i64), (LT.int IntKind.i64), (LT.int IntKind.i64), (LT.int IntKind.i64), LT.str, (LT.int IntKind.i64), (LT.int IntKind.i64), (LT.int IntKind.i64), (LT.sl 9 1), (LT.sl 9 1), (LT.sl 9 1)] r) then (Option.bind (F_rules_unitName (cS r 0) (cB r 1) (cB r 2) (cI r 3) (cI r 4) (cI r 5) (cI r 6) (cI r 7) (cI r 8) (cI r 9) (cI r 10) (cI r 11) (cS r 12) (cI r 13) (cI r 14) (cI r 15) (roRows (AVal.ro 1 (cR r 16))) (roRows (AVal.ro 1 (cR r 17))) (roRows (AVal.ro 1 (cR r 18)))) fun t => (bif (List.beq (ByteArray.toList t) (ByteArray.toList want)) then (k .ret ⟨[.dead, .dead, .dead, .dead, .dead, .dead, (AVal.ref 16000 1 0 0), (bo true), .dead, .dead, .dead, .dead, .dead, .dead, .dead, .dead, .dead, .dead, .dead, .dead, .dead, .dead, .dead, .dead, .dead], [(Prod.mk 16000 (Blk.mk BKind.box 77 19 [[(AVal.sc (Value.string (cS r 0))), (bo (cB r 1)), (bo (cB r 2)), (i64 (cI r 3)), (i64 (cI r 4)), (i64 (cI r 5)), (i64 (cI r 6)), (i64 (cI r 7)), (i64 (cI r 8)), (i64 (cI r 9)), (i64 (cI r 10)), (i64 (cI r 11)), (AVal.sc (Value.string (cS r 12))), (i64 (cI r 13)), (i64 (cI r 14)), (i64 (cI r 15)), (AVal.ro 1 (cR r 16)), (AVal.ro 1 (cR r 17)), (AVal.ro 1 (cR r 18))]]))]⟩) else (loopN B51_0 m ⟨[.dead, (AVal.clo 52 []), (AVal.sc (Value.string want)), .dead, .dead, .dead, (AVal.ref 16000 1 0 0), .dead, .dead, .dead, .dead, (AVal.ro 19 x11), (i64 x12), (i64 (wr (x13 + (1 : Int)))), .dead, .dead, .dead, .dead, .dead, .dead, .dead, .dead, .dead, .dead, .dead], [(Prod.mk 16000 (Blk.mk BKind.box 77 19 [[(AVal.sc (Value.string b0_0)), (bo b0_1), (bo b0_2), (i64 b0_3), (i64 b0_4), (i64 b0_5), (i64 b0_6), (i64 b0_7), (i64 b0_8), (i64 b0_9), (i64 b0_10), (i64 b0_11), (AVal.sc (Value.string b0_12)), (i64 b0_13), (i64 b0_14), (i64 b0_15), AVal.emp, AVal.emp, AVal.emp]]))]⟩ (K51_0 k)))) else none)) else none) else (k (.exit 0) ⟨[.dead, .dead, .dead, .dead, .dead, .dead, (AVal.ref 16000 1 0 0), .dead, .dead, .dead, .dead, .dead, .dead, .dead, .dead, .dead, .dead, .dead, .dead, .dead, .dead, .dead, .dead, .dead, .dead], [(Prod.mk 16000 (Blk.mk BKind.box 77 19 [[(AVal.sc (Value.string b0_0)), (bo b0_1), (bo b0_2), (i64 b0_3), (i64 b0_4), (i64 b0_5), (i64 b0_6), (i64 b0_7), (i64 b0_8), (i64 b0_9), (i64 b0_10), (i64 b0_11), (AVal.sc (Value.string b0_12)), (i64 b0_13), (i64 b0_14), (i64 b0_15), AVal.emp, AVal.emp, AVal.emp]]))]⟩))) (by kernel_rfl)
      (n_condH rfl (fun h0 => (n_condH rfl (fun h1 => (n_bind fun r => (n_condH rfl (fun h2 => (n_bind fun t => (n_condH rfl (fun h3 => rfl) fun h3 => (spec51_0 k m want x11 x12 (wr (x13 + (1 : Int))) b0_0 b0_1 b0_2 b0_3 b0_4 b0_5 b0_6 b0_7 b0_8 b0_9 b0_10 b0_11 b0_12 b0_13 b0_14 b0_15)))) fun h2 => n_none))) fun h1 => n_none)) fun h0 => rfl)
theorem okL51_0 : LoopOk TT TU GL0 C52 ownF L51 (lp Try.f51 0) :=
  loopOk_of ks51_0 hs51_0 W51_0 FU (fun s k => (G_rules_find_UnitType_0 (toS (cIa s.tmps 2)) (roRows (cIa s.tmps 11)) (toI (cIa s.tmps 12)) FU (toI (cIa s.tmps 13))).bind (X51_0 (toS (cIa (rows0 (blkAt s.heap 0).2) 0)) (toB (cIa (rows0 (blkAt s.heap 0).2) 1)) (toB (cIa (rows0 (blkAt s.heap 0).2) 2)) (toI (cIa (rows0 (blkAt s.heap 0).2) 3)) (toI (cIa (rows0 (blkAt s.heap 0).2) 4)) (toI (cIa (rows0 (blkAt s.heap 0).2) 5)) (toI (cIa (rows0 (blkAt s.heap 0).2) 6)) (toI (cIa (rows0 (blkAt s.heap 0).2) 7)) (toI (cIa (rows0 (blkAt s.heap 0).2) 8)) (toI (cIa (rows0 (blkAt s.heap 0).2) 9)) (toI (cIa (rows0 (blkAt s.heap 0).2) 10)) (toI (cIa (rows0 (blkAt s.heap 0).2) 11)) (toS (cIa (rows0 (blkAt s.heap 0).2) 12)) (toI (cIa (rows0 (blkAt s.heap 0).2) 13)) (toI (cIa (rows0 (blkAt s.heap 0).2) 14)) (toI (cIa (rows0 (blkAt s.heap 0).2) 15)) k)) (fun s k => by kernel_rfl) (fun s k => spec51_0 k FU (toS (cIa s.tmps 2)) (roRows (cIa s.tmps 11)) (toI (cIa s.tmps 12)) (toI (cIa s.tmps 13)) (toS (cIa (rows0 (blkAt s.heap 0).2) 0)) (toB (cIa (rows0 (blkAt s.heap 0).2) 1)) (toB (cIa (rows0 (blkAt s.heap 0).2) 2)) (toI (cIa (rows0 (blkAt s.heap 0).2) 3)) (toI (cIa (rows0 (blkAt s.heap 0).2) 4)) (toI (cIa (rows0 (blkAt s.heap 0).2) 5)) (toI (cIa (rows0 (blkAt s.heap 0).2) 6)) (toI (cIa (rows0 (blkAt s.heap 0).2) 7)) (toI (cIa (rows0 (blkAt s.heap 0).2) 8)) (toI (cIa (rows0 (blkAt s.heap 0).2) 9)) (toI (cIa (rows0 (blkAt s.heap 0).2) 10)) (toI (cIa (rows0 (blkAt s.heap 0).2) 11)) (toS (cIa (rows0 (blkAt s.heap 0).2) 12)) (toI (cIa (rows0 (blkAt s.heap 0).2) 13)) (toI (cIa (rows0 (blkAt s.heap 0).2) 14)) (toI (cIa (rows0 (blkAt s.heap 0).2) 15)))
theorem run51 (l : List (List AVal)) (want : ByteArray) : fcall TT TU GL0 C52 ownF false L51 Try.f51 [(.ro 19 l), (.clo 52 []), (.sc (.string want))] = (F_rules_find_UnitType l want).bind fun t => some (enc51 t) :=
  Eq.trans (b := (Option.bind (G_rules_find_UnitType_0 want l (Int.ofNat l.length) FU (0 : Int)) fun t => (bif t.1 then (some (CR.mk true (AVal.tup [(AVal.agg [(AVal.sc (Value.string t.2.1)), (bo t.2.2.1), (bo t.2.2.2.1), (i64 t.2.2.2.2.1), (i64 t.2.2.2.2.2.1), (i64 t.2.2.2.2.2.2.1), (i64 t.2.2.2.2.2.2.2.1), (i64 t.2.2.2.2.2.2.2.2.1), (i64 t.2.2.2.2.2.2.2.2.2.1), (i64 t.2.2.2.2.2.2.2.2.2.2.1), (i64 t.2.2.2.2.2.2.2.2.2.2.2.1), (i64 t.2.2.2.2.2.2.2.2.2.2.2.2.1), (AVal.sc (Value.string t.2.2.2.2.2.2.2.2.2.2.2.2.2.1)), (i64 t.2.2.2.2.2.2.2.2.2.2.2.2.2.2.1), (i64 t.2.2.2.2.2.2.2.2.2.2.2.2.2.2.2.1), (i64 t.2.2.2.2.2.2.2.2.2.2.2.2.2.2.2.2.1), (AVal.ro 1 t.2.2.2.2.2.2.2.2.2.2.2.2.2.2.2.2.2.1), (AVal.ro 1 t.2.2.2.2.2.2.2.2.2.2.2.2.2.2.2.2.2.2.1), (AVal.ro 1 t.2.2.2.2.2.2.2.2.2.2.2.2.2.2.2.2.2.2.2)]), (bo true)]) [] [])) else (some (CR.mk true (AVal.tup [(AVal.agg [(AVal.sc (Value.string (ByteArray.mk (Array.mk [])))), (bo false), (bo false), (i64 (0 : Int)), (i64 (0 : Int)), (i64 (0 : Int)), (i64 (0 : Int)), (i64 (0 : Int)), (i64 (0 : Int)), (i64 (0 : Int)), (i64 (0 : Int)), (i64 (0 : Int)), (AVal.sc (Value.string (ByteArray.mk (Array.mk [])))), (i64 (0 : Int)), (i64 (0 : Int)), (i64 (0 : Int)), (AVal.ro 1 []), (AVal.ro 1 []), (AVal.ro 1 [])]), (bo false)]) [] []))))) (by kernel_rfl)
    (n_bind fun t => (n_condH rfl (fun h0 => rfl) fun h0 => rfl))
theorem lib51 : Lib Try.prog GL0 C51 :=
  Lib.fn lib52 mixed TT_ok Try.func51 (by decide +kernel) (by kernel_rfl) false L51 (loops_of 1 (by kernel_rfl) (belowS below0 okL51_0)) ks51 (F := fun us => F_rules_find_UnitType (roRows (cIa us 0)) (toS (cIa us 2))) (fun us => rfl) (fun us => run51 (roRows (cIa us 0)) (toS (cIa us 2))) (fun t => rfl)

/-! ### 68: slices.Clone[[]string,string] -/



/-- 'slices.Clone[[]string,string]' -/
noncomputable def F_slices_Clone_string_ne (s1 : List (List AVal)) : Option (List (List AVal)) :=
  bif (List.isEmpty s1) then
    none
  else
  bif (roomOk (0 + s1.length) 16) then
    some s1
  else
  none
noncomputable def F_slices_Clone_string (s1 : List (List AVal)) : Option (List (List AVal)) := bif s1.isEmpty then some [] else F_slices_Clone_string_ne s1
noncomputable def enc68 (t : List (List AVal)) : CR := ⟨true, (.slc 0 (t).length), [], [⟨.arr, 9, 1, t⟩]⟩
noncomputable def S68 (us : List AVal) : Call := bif chkA [.f (.ro 1)] us then Call.of (F_slices_Clone_string (roRows (cIa us 0))) enc68 else Call.none
noncomputable def C68 := AI.ext 68 S68 C51

theorem run68 (s1 : List (List AVal)) : fcall TT TU GL0 C51 ownF true noL Try.f68 [(.ro 1 s1)] = (F_slices_Clone_string_ne s1).bind fun t => some (enc68 t) :=
  Eq.trans (b := (bif (List.isEmpty s1) then none else (bif (roomOk (0 + s1.length) 16) then (bif (verEq s1.length s1.length) then (some (CR.mk true (AVal.slc 0 s1.length) [] [(Blk.mk BKind.arr 9 1 s1)])) else none) else none))) (by kernel_rfl)
    (n_condH rfl (fun h0 => n_none) fun h0 => (n_condH rfl (fun h1 => (n_true (verEq_rfl _) rfl)) fun h1 => n_none))
theorem lib68 : Lib Try.prog GL0 C68 :=
  Lib.clone lib51 mixed TT_ok Try.func68 (by decide +kernel) (by kernel_rfl) true noL (loops_of 0 (by kernel_rfl) below0)  1 (fun us => rfl) run68 (fun a cap => by cases a <;> kernel_rfl) (fun t => rfl)

/-! ### 53: skirmish/rules.cloneUnit -/



/-- 'skirmish/rules.cloneUnit' -/
noncomputable def F_rules_cloneUnit (u_Name : ByteArray) (u_Building : Bool) (u_Depot : Bool) (u_Class : Int) (u_W : Int) (u_H : Int) (u_Radius : Int) (u_Speed : Int) (u_Sight : Int) (u_Hp : Int) (u_Armor : Int) (u_Load : Int) (u_Weapon : ByteArray) (u_Ore : Int) (u_Wood : Int) (u_Time : Int) (u_Needs : List (List AVal)) (u_Trains : List (List AVal)) (u_Researches : List (List AVal)) : Option (List (List AVal) × List (List AVal) × List (List AVal) × ByteArray × Bool × Bool × Int × Int × Int × Int × Int × Int × Int × Int × Int × ByteArray × Int × Int × Int) :=
  Option.bind (F_slices_Clone_string u_Needs) fun t =>
  Option.bind (F_slices_Clone_string u_Trains) fun t1 =>
  Option.bind (F_slices_Clone_string u_Researches) fun t2 =>
  some (t, t1, t2, u_Name, u_Building, u_Depot, u_Class, u_W, u_H, u_Radius, u_Speed, u_Sight, u_Hp, u_Armor, u_Load, u_Weapon, u_Ore, u_Wood, u_Time)
noncomputable def enc53 (t : List (List AVal) × List (List AVal) × List (List AVal) × ByteArray × Bool × Bool × Int × Int × Int × Int × Int × Int × Int × Int × Int × ByteArray × Int × Int × Int) : CR := ⟨true, (.agg [(.sc (.string t.2.2.2.1)), (.sc (.bool t.2.2.2.2.1)), (.sc (.bool t.2.2.2.2.2.1)), (.sc (.int .i64 t.2.2.2.2.2.2.1)), (.sc (.int .i64 t.2.2.2.2.2.2.2.1)), (.sc (.int .i64 t.2.2.2.2.2.2.2.2.1)), (.sc (.int .i64 t.2.2.2.2.2.2.2.2.2.1)), (.sc (.int .i64 t.2.2.2.2.2.2.2.2.2.2.1)), (.sc (.int .i64 t.2.2.2.2.2.2.2.2.2.2.2.1)), (.sc (.int .i64 t.2.2.2.2.2.2.2.2.2.2.2.2.1)), (.sc (.int .i64 t.2.2.2.2.2.2.2.2.2.2.2.2.2.1)), (.sc (.int .i64 t.2.2.2.2.2.2.2.2.2.2.2.2.2.2.1)), (.sc (.string t.2.2.2.2.2.2.2.2.2.2.2.2.2.2.2.1)), (.sc (.int .i64 t.2.2.2.2.2.2.2.2.2.2.2.2.2.2.2.2.1)), (.sc (.int .i64 t.2.2.2.2.2.2.2.2.2.2.2.2.2.2.2.2.2.1)), (.sc (.int .i64 t.2.2.2.2.2.2.2.2.2.2.2.2.2.2.2.2.2.2)), (.slc 0 (t.1).length), (.slc 1 (t.2.1).length), (.slc 2 (t.2.2.1).length)]), [], [⟨.arr, 9, 1, t.1⟩, ⟨.arr, 9, 1, t.2.1⟩, ⟨.arr, 9, 1, t.2.2.1⟩]⟩
noncomputable def ks53 : List SK := [.agg [.str, .bool, .bool, .int .i64, .int .i64, .int .i64, .int .i64, .int .i64, .int .i64, .int .i64, .int .i64, .int .i64, .str, .int .i64, .int .i64, .int .i64, .ro 1, .ro 1, .ro 1]]
noncomputable def S53 (us : List AVal) : Call := bif chkA ks53 us then Call.of (F_rules_cloneUnit (toS (cIa (aggL (cIa us 0)) 0)) (toB (cIa (aggL (cIa us 0)) 1)) (toB (cIa (aggL (cIa us 0)) 2)) (toI (cIa (aggL (cIa us 0)) 3)) (toI (cIa (aggL (cIa us 0)) 4)) (toI (cIa (aggL (cIa us 0)) 5)) (toI (cIa (aggL (cIa us 0)) 6)) (toI (cIa (aggL (cIa us 0)) 7)) (toI (cIa (aggL (cIa us 0)) 8)) (toI (cIa (aggL (cIa us 0)) 9)) (toI (cIa (aggL (cIa us 0)) 10)) (toI (cIa (aggL (cIa us 0)) 11)) (toS (cIa (aggL (cIa us 0)) 12)) (toI (cIa (aggL (cIa us 0)) 13)) (toI (cIa (aggL (cIa us 0)) 14)) (toI (cIa (aggL (cIa us 0)) 15)) (roRows (cIa (aggL (cIa us 0)) 16)) (roRows (cIa (aggL (cIa us 0)) 17)) (roRows (cIa (aggL (cIa us 0)) 18))) enc53 else Call.none
noncomputable def C53 := AI.ext 53 S53 C68

theorem run53 (u_Name : ByteArray) (u_Building : Bool) (u_Depot : Bool) (u_Class : Int) (u_W : Int) (u_H : Int) (u_Radius : Int) (u_Speed : Int) (u_Sight : Int) (u_Hp : Int) (u_Armor : Int) (u_Load : Int) (u_Weapon : ByteArray) (u_Ore : Int) (u_Wood : Int) (u_Time : Int) (u_Needs : List (List AVal)) (u_Trains : List (List AVal)) (u_Researches : List (List AVal)) : fcall TT TU GL0 C68 ownF true noL Try.f53 [(.agg [(.sc (.string u_Name)), (.sc (.bool u_Building)), (.sc (.bool u_Depot)), (.sc (.int .i64 u_Class)), (.sc (.int .i64 u_W)), (.sc (.int .i64 u_H)), (.sc (.int .i64 u_Radius)), (.sc (.int .i64 u_Speed)), (.sc (.int .i64 u_Sight)), (.sc (.int .i64 u_Hp)), (.sc (.int .i64 u_Armor)), (.sc (.int .i64 u_Load)), (.sc (.string u_Weapon)), (.sc (.int .i64 u_Ore)), (.sc (.int .i64 u_Wood)), (.sc (.int .i64 u_Time)), (.ro 1 u_Needs), (.ro 1 u_Trains), (.ro 1 u_Researches)])] = (F_rules_cloneUnit u_Name u_Building u_Depot u_Class u_W u_H u_Radius u_Speed u_Sight u_Hp u_Armor u_Load u_Weapon u_Ore u_Wood u_Time u_Needs u_Trains u_Researches).bind fun t => some (enc53 t) :=
  Eq.trans (b := (Option.bind (F_slices_Clone_string u_Needs) fun t => (bif ((((true && (verEq t.length t.length)) && true) && true) && true) then (Option.bind (F_slices_Clone_string u_Trains) fun t1 => (bif ((((true && (verEq t1.length t1.length)) && true) && true) && true) then (Option.bind (F_slices_Clone_string u_Researches) fun t2 => (bif ((((true && (verEq t2.length t2.length)) && true) && true) && true) then (bif (verEq t.length t.length) then (bif (verEq t1.length t1.length) then (bif (verEq t2.length t2.length) then (some (CR.mk true (AVal.agg [(AVal.sc (Value.string u_Name)), (bo u_Building), (bo u_Depot), (i64 u_Class), (i64 u_W), (i64 u_H), (i64 u_Radius), (i64 u_Speed), (i64 u_Sight), (i64 u_Hp), (i64 u_Armor), (i64 u_Load), (AVal.sc (Value.string u_Weapon)), (i64 u_Ore), (i64 u_Wood), (i64 u_Time), (AVal.slc 0 t.length), (AVal.slc 1 t1.length), (AVal.slc 2 t2.length)]) [] [(Blk.mk BKind.arr 9 1 t), (Blk.mk BKind.arr 9 1 t1), (Blk.mk BKind.arr 9 1 t2)])) else none) else none) else none) else none)) else none)) else none))) (by kernel_rfl)
    (n_bind fun t => (n_true (n_andL (n_andL (n_andL (n_andL rfl (verEq_rfl _)) rfl) rfl) rfl) (n_bind fun t1 => (n_true (n_andL (n_andL (n_andL (n_andL rfl (verEq_rfl _)) rfl) rfl) rfl) (n_bind fun t2 => (n_true (n_andL (n_andL (n_andL (n_andL rfl (verEq_rfl _)) rfl) rfl) rfl) (n_true (verEq_rfl _) (n_true (verEq_rfl _) (n_true (verEq_rfl _) rfl)))))))))
theorem lib53 : Lib Try.prog GL0 C53 :=
  Lib.fn lib68 mixed TT_ok Try.func53 (by decide +kernel) (by kernel_rfl) true noL (loops_of 0 (by kernel_rfl) below0) ks53 (F := fun us => F_rules_cloneUnit (toS (cIa (aggL (cIa us 0)) 0)) (toB (cIa (aggL (cIa us 0)) 1)) (toB (cIa (aggL (cIa us 0)) 2)) (toI (cIa (aggL (cIa us 0)) 3)) (toI (cIa (aggL (cIa us 0)) 4)) (toI (cIa (aggL (cIa us 0)) 5)) (toI (cIa (aggL (cIa us 0)) 6)) (toI (cIa (aggL (cIa us 0)) 7)) (toI (cIa (aggL (cIa us 0)) 8)) (toI (cIa (aggL (cIa us 0)) 9)) (toI (cIa (aggL (cIa us 0)) 10)) (toI (cIa (aggL (cIa us 0)) 11)) (toS (cIa (aggL (cIa us 0)) 12)) (toI (cIa (aggL (cIa us 0)) 13)) (toI (cIa (aggL (cIa us 0)) 14)) (toI (cIa (aggL (cIa us 0)) 15)) (roRows (cIa (aggL (cIa us 0)) 16)) (roRows (cIa (aggL (cIa us 0)) 17)) (roRows (cIa (aggL (cIa us 0)) 18))) (fun us => rfl) (fun us => run53 (toS (cIa (aggL (cIa us 0)) 0)) (toB (cIa (aggL (cIa us 0)) 1)) (toB (cIa (aggL (cIa us 0)) 2)) (toI (cIa (aggL (cIa us 0)) 3)) (toI (cIa (aggL (cIa us 0)) 4)) (toI (cIa (aggL (cIa us 0)) 5)) (toI (cIa (aggL (cIa us 0)) 6)) (toI (cIa (aggL (cIa us 0)) 7)) (toI (cIa (aggL (cIa us 0)) 8)) (toI (cIa (aggL (cIa us 0)) 9)) (toI (cIa (aggL (cIa us 0)) 10)) (toI (cIa (aggL (cIa us 0)) 11)) (toS (cIa (aggL (cIa us 0)) 12)) (toI (cIa (aggL (cIa us 0)) 13)) (toI (cIa (aggL (cIa us 0)) 14)) (toI (cIa (aggL (cIa us 0)) 15)) (roRows (cIa (aggL (cIa us 0)) 16)) (roRows (cIa (aggL (cIa us 0)) 17)) (roRows (cIa (aggL (cIa us 0)) 18))) (fun t => rfl)

/-! ### 33: skirmish/rules.Unit -/



/-- 'skirmish/rules.Unit' -/
noncomputable def F_rules_Unit (r_Units : List (List AVal)) (r_Weapons : List (List AVal)) (r_Techs : List (List AVal)) (name : ByteArray) : Option (List (List AVal) × List (List AVal) × List (List AVal) × ByteArray × Bool × Bool × Int × Int × Int × Int × Int × Int × Int × Int × Int × ByteArray × Int × Int × Int × Bool) :=
  Option.bind (F_rules_find_UnitType r_Units name) fun t =>
  Option.bind (F_rules_cloneUnit t.1 t.2.1 t.2.2.1 t.2.2.2.1 t.2.2.2.2.1 t.2.2.2.2.2.1 t.2.2.2.2.2.2.1 t.2.2.2.2.2.2.2.1 t.2.2.2.2.2.2.2.2.1 t.2.2.2.2.2.2.2.2.2.1 t.2.2.2.2.2.2.2.2.2.2.1 t.2.2.2.2.2.2.2.2.2.2.2.1 t.2.2.2.2.2.2.2.2.2.2.2.2.1 t.2.2.2.2.2.2.2.2.2.2.2.2.2.1 t.2.2.2.2.2.2.2.2.2.2.2.2.2.2.1 t.2.2.2.2.2.2.2.2.2.2.2.2.2.2.2.1 t.2.2.2.2.2.2.2.2.2.2.2.2.2.2.2.2.1 t.2.2.2.2.2.2.2.2.2.2.2.2.2.2.2.2.2.1 t.2.2.2.2.2.2.2.2.2.2.2.2.2.2.2.2.2.2.1) fun t1 =>
  some (t1.1, t1.2.1, t1.2.2.1, t1.2.2.2.1, t1.2.2.2.2.1, t1.2.2.2.2.2.1, t1.2.2.2.2.2.2.1, t1.2.2.2.2.2.2.2.1, t1.2.2.2.2.2.2.2.2.1, t1.2.2.2.2.2.2.2.2.2.1, t1.2.2.2.2.2.2.2.2.2.2.1, t1.2.2.2.2.2.2.2.2.2.2.2.1, t1.2.2.2.2.2.2.2.2.2.2.2.2.1, t1.2.2.2.2.2.2.2.2.2.2.2.2.2.1, t1.2.2.2.2.2.2.2.2.2.2.2.2.2.2.1, t1.2.2.2.2.2.2.2.2.2.2.2.2.2.2.2.1, t1.2.2.2.2.2.2.2.2.2.2.2.2.2.2.2.2.1, t1.2.2.2.2.2.2.2.2.2.2.2.2.2.2.2.2.2.1, t1.2.2.2.2.2.2.2.2.2.2.2.2.2.2.2.2.2.2, t.2.2.2.2.2.2.2.2.2.2.2.2.2.2.2.2.2.2.2)
noncomputable def enc33 (t : List (List AVal) × List (List AVal) × List (List AVal) × ByteArray × Bool × Bool × Int × Int × Int × Int × Int × Int × Int × Int × Int × ByteArray × Int × Int × Int × Bool) : CR := ⟨true, (.tup [(.agg [(.sc (.string t.2.2.2.1)), (.sc (.bool t.2.2.2.2.1)), (.sc (.bool t.2.2.2.2.2.1)), (.sc (.int .i64 t.2.2.2.2.2.2.1)), (.sc (.int .i64 t.2.2.2.2.2.2.2.1)), (.sc (.int .i64 t.2.2.2.2.2.2.2.2.1)), (.sc (.int .i64 t.2.2.2.2.2.2.2.2.2.1)), (.sc (.int .i64 t.2.2.2.2.2.2.2.2.2.2.1)), (.sc (.int .i64 t.2.2.2.2.2.2.2.2.2.2.2.1)), (.sc (.int .i64 t.2.2.2.2.2.2.2.2.2.2.2.2.1)), (.sc (.int .i64 t.2.2.2.2.2.2.2.2.2.2.2.2.2.1)), (.sc (.int .i64 t.2.2.2.2.2.2.2.2.2.2.2.2.2.2.1)), (.sc (.string t.2.2.2.2.2.2.2.2.2.2.2.2.2.2.2.1)), (.sc (.int .i64 t.2.2.2.2.2.2.2.2.2.2.2.2.2.2.2.2.1)), (.sc (.int .i64 t.2.2.2.2.2.2.2.2.2.2.2.2.2.2.2.2.2.1)), (.sc (.int .i64 t.2.2.2.2.2.2.2.2.2.2.2.2.2.2.2.2.2.2.1)), (.slc 0 (t.1).length), (.slc 1 (t.2.1).length), (.slc 2 (t.2.2.1).length)]), (.sc (.bool t.2.2.2.2.2.2.2.2.2.2.2.2.2.2.2.2.2.2.2))]), [], [⟨.arr, 9, 1, t.1⟩, ⟨.arr, 9, 1, t.2.1⟩, ⟨.arr, 9, 1, t.2.2.1⟩]⟩
noncomputable def ks33 : List SK := [.agg [.ro 19, .ro 6, .ro 8], .f (.str)]
noncomputable def S33 (us : List AVal) : Call := bif chkA ks33 us then Call.of (F_rules_Unit (roRows (cIa (aggL (cIa us 0)) 0)) (roRows (cIa (aggL (cIa us 0)) 1)) (roRows (cIa (aggL (cIa us 0)) 2)) (toS (cIa us 1))) enc33 else Call.none
noncomputable def C33 := AI.ext 33 S33 C53

theorem run33 (r_Units : List (List AVal)) (r_Weapons : List (List AVal)) (r_Techs : List (List AVal)) (name : ByteArray) : fcall TT TU GL0 C53 ownF true noL Try.f33 [(.agg [(.ro 19 r_Units), (.ro 6 r_Weapons), (.ro 8 r_Techs)]), (.sc (.string name))] = (F_rules_Unit r_Units r_Weapons r_Techs name).bind fun t => some (enc33 t) :=
  Eq.trans (b := (Option.bind (F_rules_find_UnitType r_Units name) fun t => (Option.bind (F_rules_cloneUnit t.1 t.2.1 t.2.2.1 t.2.2.2.1 t.2.2.2.2.1 t.2.2.2.2.2.1 t.2.2.2.2.2.2.1 t.2.2.2.2.2.2.2.1 t.2.2.2.2.2.2.2.2.1 t.2.2.2.2.2.2.2.2.2.1 t.2.2.2.2.2.2.2.2.2.2.1 t.2.2.2.2.2.2.2.2.2.2.2.1 t.2.2.2.2.2.2.2.2.2.2.2.2.1 t.2.2.2.2.2.2.2.2.2.2.2.2.2.1 t.2.2.2.2.2.2.2.2.2.2.2.2.2.2.1 t.2.2.2.2.2.2.2.2.2.2.2.2.2.2.2.1 t.2.2.2.2.2.2.2.2.2.2.2.2.2.2.2.2.1 t.2.2.2.2.2.2.2.2.2.2.2.2.2.2.2.2.2.1 t.2.2.2.2.2.2.2.2.2.2.2.2.2.2.2.2.2.2.1) fun t1 => (bif ((((true && (verEq t1.1.length t1.1.length)) && true) && true) && true) then (bif ((((true && (verEq t1.2.1.length t1.2.1.length)) && true) && true) && true) then (bif ((((true && (verEq t1.2.2.1.length t1.2.2.1.length)) && true) && true) && true) then (bif (verEq t1.1.length t1.1.length) then (bif (verEq t1.2.1.length t1.2.1.length) then (bif (verEq t1.2.2.1.length t1.2.2.1.length) then (some (CR.mk true (AVal.tup [(AVal.agg [(AVal.sc (Value.string t1.2.2.2.1)), (bo t1.2.2.2.2.1), (bo t1.2.2.2.2.2.1), (i64 t1.2.2.2.2.2.2.1), (i64 t1.2.2.2.2.2.2.2.1), (i64 t1.2.2.2.2.2.2.2.2.1), (i64 t1.2.2.2.2.2.2.2.2.2.1), (i64 t1.2.2.2.2.2.2.2.2.2.2.1), (i64 t1.2.2.2.2.2.2.2.2.2.2.2.1), (i64 t1.2.2.2.2.2.2.2.2.2.2.2.2.1), (i64 t1.2.2.2.2.2.2.2.2.2.2.2.2.2.1), (i64 t1.2.2.2.2.2.2.2.2.2.2.2.2.2.2.1), (AVal.sc (Value.string t1.2.2.2.2.2.2.2.2.2.2.2.2.2.2.2.1)), (i64 t1.2.2.2.2.2.2.2.2.2.2.2.2.2.2.2.2.1), (i64 t1.2.2.2.2.2.2.2.2.2.2.2.2.2.2.2.2.2.1), (i64 t1.2.2.2.2.2.2.2.2.2.2.2.2.2.2.2.2.2.2), (AVal.slc 0 t1.1.length), (AVal.slc 1 t1.2.1.length), (AVal.slc 2 t1.2.2.1.length)]), (bo t.2.2.2.2.2.2.2.2.2.2.2.2.2.2.2.2.2.2.2)]) [] [(Blk.mk BKind.arr 9 1 t1.1), (Blk.mk BKind.arr 9 1 t1.2.1), (Blk.mk BKind.arr 9 1 t1.2.2.1)])) else none) else none) else none) else none) else none) else none)))) (by kernel_rfl)
    (n_bind fun t => (n_bind fun t1 => (n_true (n_andL (n_andL (n_andL (n_andL rfl (verEq_rfl _)) rfl) rfl) rfl) (n_true (n_andL (n_andL (n_andL (n_andL rfl (verEq_rfl _)) rfl) rfl) rfl) (n_true (n_andL (n_andL (n_andL (n_andL rfl (verEq_rfl _)) rfl) rfl) rfl) (n_true (verEq_rfl _) (n_true (verEq_rfl _) (n_true (verEq_rfl _) rfl))))))))
theorem lib33 : Lib Try.prog GL0 C33 :=
  Lib.fn lib53 mixed TT_ok Try.func33 (by decide +kernel) (by kernel_rfl) true noL (loops_of 0 (by kernel_rfl) below0) ks33 (F := fun us => F_rules_Unit (roRows (cIa (aggL (cIa us 0)) 0)) (roRows (cIa (aggL (cIa us 0)) 1)) (roRows (cIa (aggL (cIa us 0)) 2)) (toS (cIa us 1))) (fun us => rfl) (fun us => run33 (roRows (cIa (aggL (cIa us 0)) 0)) (roRows (cIa (aggL (cIa us 0)) 1)) (roRows (cIa (aggL (cIa us 0)) 2)) (toS (cIa us 1))) (fun t => rfl)

/-! ### 55: skirmish/orders.Current -/



/-- 'skirmish/orders.Current' -/
noncomputable def F_orders_Current (l : List (List AVal)) : Option (Int × Int × Int × Int × ByteArray × Bool) :=
  bif ((Int.ofNat l.length) == (0 : Int)) then
    some ((0 : Int), (0 : Int), (0 : Int), (0 : Int), (ByteArray.mk (Array.mk [])), false)
  else
  Option.bind (l[(0 : Int).toNat]?) fun r =>
  bif (chk [(LT.int IntKind.i64), (LT.int IntKind.i64), (LT.int IntKind.i64), (LT.int IntKind.i64), LT.str] r) then
    some ((cI r 0), (cI r 1), (cI r 2), (cI r 3), (cS r 4), true)
  else
  none
noncomputable def enc55 (t : Int × Int × Int × Int × ByteArray × Bool) : CR := ⟨true, (.tup [(.agg [(.sc (.int .i64 t.1)), (.sc (.int .i64 t.2.1)), (.sc (.int .i64 t.2.2.1)), (.sc (.int .i64 t.2.2.2.1)), (.sc (.string t.2.2.2.2.1))]), (.sc (.bool t.2.2.2.2.2))]), [], []⟩
noncomputable def ks55 : List SK := [.f (.ro 5)]
noncomputable def S55 (us : List AVal) : Call := bif chkA ks55 us then Call.of (F_orders_Current (roRows (cIa us 0))) enc55 else Call.none
noncomputable def C55 := AI.ext 55 S55 C33

theorem run55 (l : List (List AVal)) : fcall TT TU GL0 C33 ownF true noL Try.f55 [(.ro 5 l)] = (F_orders_Current l).bind fun t => some (enc55 t) :=
  Eq.trans (b := (bif ((Int.ofNat l.length) == (0 : Int)) then (some (CR.mk true (AVal.tup [(AVal.agg [(i64 (0 : Int)), (i64 (0 : Int)), (i64 (0 : Int)), (i64 (0 : Int)), (AVal.sc (Value.string (ByteArray.mk (Array.mk []))))]), (bo false)]) [] [])) else (Option.bind (l[(0 : Int).toNat]?) fun r => (bif (chk [(LT.int IntKind.i64), (LT.int IntKind.i64), (LT.int IntKind.i64), (LT.int IntKind.i64), LT.str] r) then (some (CR.mk true (AVal.tup [(AVal.agg [(i64 (cI r 0)), (i64 (cI r 1)), (i64 (cI r 2)), (i64 (cI r 3)), (AVal.sc (Value.string (cS r 4)))]), (bo true)]) [] [])) else none)))) (by kernel_rfl)
    (n_condH rfl (fun h0 => rfl) fun h0 => (n_bind fun r => (n_condH rfl (fun h1 => rfl) fun h1 => n_none)))
theorem lib55 : Lib Try.prog GL0 C55 :=
  Lib.fn lib33 mixed TT_ok Try.func55 (by decide +kernel) (by kernel_rfl) true noL (loops_of 0 (by kernel_rfl) below0) ks55 (F := fun us => F_orders_Current (roRows (cIa us 0))) (fun us => rfl) (fun us => run55 (roRows (cIa us 0))) (fun t => rfl)

/-! ### 34: skirmish/entity.Ready -/



/-- 'skirmish/entity.Ready' -/
noncomputable def F_entity_Ready (e_Id : Int) (e_Owner : Int) (e_Type : ByteArray) (e_At_X : Int) (e_At_Y : Int) (e_Hp : Int) (e_Cool : Int) (e_Left : Int) (e_Ore : Int) (e_Wood : Int) (e_Orders : List (List AVal)) (e_Jobs : List (List AVal)) : Option (Bool) :=
  some (e_Left == (0 : Int))
noncomputable def enc34 (t : Bool) : CR := ⟨true, (.sc (.bool t)), [], []⟩
noncomputable def ks34 : List SK := [.agg [.int .i64, .int .i64, .str, .int .i64, .int .i64, .int .i64, .int .i64, .int .i64, .int .i64, .int .i64, .ro 5, .ro 3]]
noncomputable def S34 (us : List AVal) : Call := bif chkA ks34 us then Call.of (F_entity_Ready (toI (cIa (aggL (cIa us 0)) 0)) (toI (cIa (aggL (cIa us 0)) 1)) (toS (cIa (aggL (cIa us 0)) 2)) (toI (cIa (aggL (cIa us 0)) 3)) (toI (cIa (aggL (cIa us 0)) 4)) (toI (cIa (aggL (cIa us 0)) 5)) (toI (cIa (aggL (cIa us 0)) 6)) (toI (cIa (aggL (cIa us 0)) 7)) (toI (cIa (aggL (cIa us 0)) 8)) (toI (cIa (aggL (cIa us 0)) 9)) (roRows (cIa (aggL (cIa us 0)) 10)) (roRows (cIa (aggL (cIa us 0)) 11))) enc34 else Call.none
noncomputable def C34 := AI.ext 34 S34 C55

theorem run34 (e_Id : Int) (e_Owner : Int) (e_Type : ByteArray) (e_At_X : Int) (e_At_Y : Int) (e_Hp : Int) (e_Cool : Int) (e_Left : Int) (e_Ore : Int) (e_Wood : Int) (e_Orders : List (List AVal)) (e_Jobs : List (List AVal)) : fcall TT TU GL0 C55 ownF true noL Try.f34 [(.agg [(.sc (.int .i64 e_Id)), (.sc (.int .i64 e_Owner)), (.sc (.string e_Type)), (.sc (.int .i64 e_At_X)), (.sc (.int .i64 e_At_Y)), (.sc (.int .i64 e_Hp)), (.sc (.int .i64 e_Cool)), (.sc (.int .i64 e_Left)), (.sc (.int .i64 e_Ore)), (.sc (.int .i64 e_Wood)), (.ro 5 e_Orders), (.ro 3 e_Jobs)])] = (F_entity_Ready e_Id e_Owner e_Type e_At_X e_At_Y e_Hp e_Cool e_Left e_Ore e_Wood e_Orders e_Jobs).bind fun t => some (enc34 t) :=
  Eq.trans (b := (some (CR.mk true (bo (e_Left == (0 : Int))) [] []))) (by kernel_rfl)
    rfl
theorem lib34 : Lib Try.prog GL0 C34 :=
  Lib.fn lib55 mixed TT_ok Try.func34 (by decide +kernel) (by kernel_rfl) true noL (loops_of 0 (by kernel_rfl) below0) ks34 (F := fun us => F_entity_Ready (toI (cIa (aggL (cIa us 0)) 0)) (toI (cIa (aggL (cIa us 0)) 1)) (toS (cIa (aggL (cIa us 0)) 2)) (toI (cIa (aggL (cIa us 0)) 3)) (toI (cIa (aggL (cIa us 0)) 4)) (toI (cIa (aggL (cIa us 0)) 5)) (toI (cIa (aggL (cIa us 0)) 6)) (toI (cIa (aggL (cIa us 0)) 7)) (toI (cIa (aggL (cIa us 0)) 8)) (toI (cIa (aggL (cIa us 0)) 9)) (roRows (cIa (aggL (cIa us 0)) 10)) (roRows (cIa (aggL (cIa us 0)) 11))) (fun us => rfl) (fun us => run34 (toI (cIa (aggL (cIa us 0)) 0)) (toI (cIa (aggL (cIa us 0)) 1)) (toS (cIa (aggL (cIa us 0)) 2)) (toI (cIa (aggL (cIa us 0)) 3)) (toI (cIa (aggL (cIa us 0)) 4)) (toI (cIa (aggL (cIa us 0)) 5)) (toI (cIa (aggL (cIa us 0)) 6)) (toI (cIa (aggL (cIa us 0)) 7)) (toI (cIa (aggL (cIa us 0)) 8)) (toI (cIa (aggL (cIa us 0)) 9)) (roRows (cIa (aggL (cIa us 0)) 10)) (roRows (cIa (aggL (cIa us 0)) 11))) (fun t => rfl)

/-! ### 56: skirmish/num.Cell -/



/-- 'skirmish/num.Cell' -/
noncomputable def F_num_Cell (x : Int) : Option (Int) :=
  some (Int.fdiv x ((2 : Int) ^ (Min.min (8 : Int).toNat 64)))
noncomputable def enc56 (t : Int) : CR := ⟨true, (.sc (.int .i64 t)), [], []⟩
noncomputable def ks56 : List SK := [.f (.int .i64)]
noncomputable def S56 (us : List AVal) : Call := bif chkA ks56 us then Call.of (F_num_Cell (toI (cIa us 0))) enc56 else Call.none
noncomputable def C56 := AI.ext 56 S56 C34

theorem run56 (x : Int) : fcall TT TU GL0 C34 ownF true noL Try.f56 [(.sc (.int .i64 x))] = (F_num_Cell x).bind fun t => some (enc56 t) :=
  Eq.trans (b := (some (CR.mk true (i64 (Int.fdiv x ((2 : Int) ^ (Min.min (8 : Int).toNat 64)))) [] []))) (by kernel_rfl)
    rfl
theorem lib56 : Lib Try.prog GL0 C56 :=
  Lib.fn lib34 mixed TT_ok Try.func56 (by decide +kernel) (by kernel_rfl) true noL (loops_of 0 (by kernel_rfl) below0) ks56 (F := fun us => F_num_Cell (toI (cIa us 0))) (fun us => rfl) (fun us => run56 (toI (cIa us 0))) (fun t => rfl)

/-! ### 43: skirmish/economy.field -/



/-- 'skirmish/economy.field' -/
noncomputable def F_economy_field (g_Turn : Int) (g_NextId : Int) (g_Winner : Int) (g_Paused : Bool) (g_Rng : Int) (g_Rules_Units : List (List AVal)) (g_Rules_Weapons : List (List AVal)) (g_Rules_Techs : List (List AVal)) (g_Map_W : Int) (g_Map_H : Int) (g_Map_Cells : List (List AVal)) (g_Players : List (List AVal)) (g_Units : List (List AVal)) (g_Shots : List (List AVal)) (g_Memories : List (List AVal)) (g_Scripts : List (List AVal)) (e_Id : Int) (e_Owner : Int) (e_Type : ByteArray) (e_At_X : Int) (e_At_Y : Int) (e_Hp : Int) (e_Cool : Int) (e_Left : Int) (e_Ore : Int) (e_Wood : Int) (e_Orders : List (List AVal)) (e_Jobs : List (List AVal)) : Option (Int × Int × Int × Bool) :=
  Option.bind (F_rules_Unit g_Rules_Units g_Rules_Weapons g_Rules_Techs e_Type) fun t =>
  Option.bind (F_orders_Current e_Orders) fun t1 =>
  bif (!t.2.2.2.2.2.2.2.2.2.2.2.2.2.2.2.2.2.2.2) then
    some ((0 : Int), (0 : Int), (0 : Int), false)
  else
  bif (!t1.2.2.2.2.2) then
    some ((0 : Int), (0 : Int), (0 : Int), false)
  else
  Option.bind (F_entity_Ready e_Id e_Owner e_Type e_At_X e_At_Y e_Hp e_Cool e_Left e_Ore e_Wood e_Orders e_Jobs) fun t2 =>
  bif (!t2) then
    some ((0 : Int), (0 : Int), (0 : Int), false)
  else
  bif t.2.2.2.2.1 then
    some ((0 : Int), (0 : Int), (0 : Int), false)
  else
  bif (decide (t.2.2.2.2.2.2.2.2.2.2.2.2.2.2.1 ≤ (0 : Int))) then
    some ((0 : Int), (0 : Int), (0 : Int), false)
  else
  bif (t1.1 != (3 : Int)) then
    some ((0 : Int), (0 : Int), (0 : Int), false)
  else
  Option.bind (F_num_Cell t1.2.1) fun t3 =>
  Option.bind (F_num_Cell t1.2.2.1) fun t4 =>
  some (t3, t4, t.2.2.2.2.2.2.2.2.2.2.2.2.2.2.1, true)
noncomputable def enc43 (t : Int × Int × Int × Bool) : CR := ⟨true, (.tup [(.agg [(.sc (.int .i64 t.1)), (.sc (.int .i64 t.2.1))]), (.sc (.int .i64 t.2.2.1)), (.sc (.bool t.2.2.2))]), [], []⟩
noncomputable def ks43 : List SK := [.agg [.int .i64, .int .i64, .int .i64, .bool, .int .u64, .ro 19, .ro 6, .ro 8, .int .i64, .int .i64, .ro 3, .ro 6, .ro 12, .ro 9, .ro 3, .ro 4], .agg [.int .i64, .int .i64, .str, .int .i64, .int .i64, .int .i64, .int .i64, .int .i64, .int .i64, .int .i64, .ro 5, .ro 3]]
noncomputable def S43 (us : List AVal) : Call := bif chkA ks43 us then Call.of (F_economy_field (toI (cIa (aggL (cIa us 0)) 0)) (toI (cIa (aggL (cIa us 0)) 1)) (toI (cIa (aggL (cIa us 0)) 2)) (toB (cIa (aggL (cIa us 0)) 3)) (toI (cIa (aggL (cIa us 0)) 4)) (roRows (cIa (aggL (cIa us 0)) 5)) (roRows (cIa (aggL (cIa us 0)) 6)) (roRows (cIa (aggL (cIa us 0)) 7)) (toI (cIa (aggL (cIa us 0)) 8)) (toI (cIa (aggL (cIa us 0)) 9)) (roRows (cIa (aggL (cIa us 0)) 10)) (roRows (cIa (aggL (cIa us 0)) 11)) (roRows (cIa (aggL (cIa us 0)) 12)) (roRows (cIa (aggL (cIa us 0)) 13)) (roRows (cIa (aggL (cIa us 0)) 14)) (roRows (cIa (aggL (cIa us 0)) 15)) (toI (cIa (aggL (cIa us 1)) 0)) (toI (cIa (aggL (cIa us 1)) 1)) (toS (cIa (aggL (cIa us 1)) 2)) (toI (cIa (aggL (cIa us 1)) 3)) (toI (cIa (aggL (cIa us 1)) 4)) (toI (cIa (aggL (cIa us 1)) 5)) (toI (cIa (aggL (cIa us 1)) 6)) (toI (cIa (aggL (cIa us 1)) 7)) (toI (cIa (aggL (cIa us 1)) 8)) (toI (cIa (aggL (cIa us 1)) 9)) (roRows (cIa (aggL (cIa us 1)) 10)) (roRows (cIa (aggL (cIa us 1)) 11))) enc43 else Call.none
noncomputable def C43 := AI.ext 43 S43 C56

theorem run43 (g_Turn : Int) (g_NextId : Int) (g_Winner : Int) (g_Paused : Bool) (g_Rng : Int) (g_Rules_Units : List (List AVal)) (g_Rules_Weapons : List (List AVal)) (g_Rules_Techs : List (List AVal)) (g_Map_W : Int) (g_Map_H : Int) (g_Map_Cells : List (List AVal)) (g_Players : List (List AVal)) (g_Units : List (List AVal)) (g_Shots : List (List AVal)) (g_Memories : List (List AVal)) (g_Scripts : List (List AVal)) (e_Id : Int) (e_Owner : Int) (e_Type : ByteArray) (e_At_X : Int) (e_At_Y : Int) (e_Hp : Int) (e_Cool : Int) (e_Left : Int) (e_Ore : Int) (e_Wood : Int) (e_Orders : List (List AVal)) (e_Jobs : List (List AVal)) : fcall TT TU GL0 C56 ownF true noL Try.f43 [(.agg [(.sc (.int .i64 g_Turn)), (.sc (.int .i64 g_NextId)), (.sc (.int .i64 g_Winner)), (.sc (.bool g_Paused)), (.sc (.int .u64 g_Rng)), (.ro 19 g_Rules_Units), (.ro 6 g_Rules_Weapons), (.ro 8 g_Rules_Techs), (.sc (.int .i64 g_Map_W)), (.sc (.int .i64 g_Map_H)), (.ro 3 g_Map_Cells), (.ro 6 g_Players), (.ro 12 g_Units), (.ro 9 g_Shots), (.ro 3 g_Memories), (.ro 4 g_Scripts)]), (.agg [(.sc (.int .i64 e_Id)), (.sc (.int .i64 e_Owner)), (.sc (.string e_Type)), (.sc (.int .i64 e_At_X)), (.sc (.int .i64 e_At_Y)), (.sc (.int .i64 e_Hp)), (.sc (.int .i64 e_Cool)), (.sc (.int .i64 e_Left)), (.sc (.int .i64 e_Ore)), (.sc (.int .i64 e_Wood)), (.ro 5 e_Orders), (.ro 3 e_Jobs)])] = (F_economy_field g_Turn g_NextId g_Winner g_Paused g_Rng g_Rules_Units g_Rules_Weapons g_Rules_Techs g_Map_W g_Map_H g_Map_Cells g_Players g_Units g_Shots g_Memories g_Scripts e_Id e_Owner e_Type e_At_X e_At_Y e_Hp e_Cool e_Left e_Ore e_Wood e_Orders e_Jobs).bind fun t => some (enc43 t) :=
  Eq.trans (b := (Option.bind (F_rules_Unit g_Rules_Units g_Rules_Weapons g_Rules_Techs e_Type) fun t => (bif ((((true && (verEq t.1.length t.1.length)) && true) && true) && true) then (bif ((((true && (verEq t.2.1.length t.2.1.length)) && true) && true) && true) then (bif ((((true && (verEq t.2.2.1.length t.2.2.1.length)) && true) && true) && true) then (Option.bind (F_orders_Current e_Orders) fun t1 => (bif (!t.2.2.2.2.2.2.2.2.2.2.2.2.2.2.2.2.2.2.2) then (some (CR.mk true (AVal.tup [(AVal.agg [(i64 (0 : Int)), (i64 (0 : Int))]), (i64 (0 : Int)), (bo false)]) [] [])) else (bif (!t1.2.2.2.2.2) then (some (CR.mk true (AVal.tup [(AVal.agg [(i64 (0 : Int)), (i64 (0 : Int))]), (i64 (0 : Int)), (bo false)]) [] [])) else (Option.bind (F_entity_Ready e_Id e_Owner e_Type e_At_X e_At_Y e_Hp e_Cool e_Left e_Ore e_Wood e_Orders e_Jobs) fun t2 => (bif (!t2) then (some (CR.mk true (AVal.tup [(AVal.agg [(i64 (0 : Int)), (i64 (0 : Int))]), (i64 (0 : Int)), (bo false)]) [] [])) else (bif t.2.2.2.2.1 then (some (CR.mk true (AVal.tup [(AVal.agg [(i64 (0 : Int)), (i64 (0 : Int))]), (i64 (0 : Int)), (bo false)]) [] [])) else (bif (decide (t.2.2.2.2.2.2.2.2.2.2.2.2.2.2.1 ≤ (0 : Int))) then (some (CR.mk true (AVal.tup [(AVal.agg [(i64 (0 : Int)), (i64 (0 : Int))]), (i64 (0 : Int)), (bo false)]) [] [])) else (bif (t1.1 != (3 : Int)) then (some (CR.mk true (AVal.tup [(AVal.agg [(i64 (0 : Int)), (i64 (0 : Int))]), (i64 (0 : Int)), (bo false)]) [] [])) else (Option.bind (F_num_Cell t1.2.1) fun t3 => (Option.bind (F_num_Cell t1.2.2.1) fun t4 => (some (CR.mk true (AVal.tup [(AVal.agg [(i64 t3), (i64 t4)]), (i64 t.2.2.2.2.2.2.2.2.2.2.2.2.2.2.1), (bo true)]) [] [])))))))))))) else none) else none) else none))) (by kernel_rfl)
    (n_bind fun t => (n_true (n_andL (n_andL (n_andL (n_andL rfl (verEq_rfl _)) rfl) rfl) rfl) (n_true (n_andL (n_andL (n_andL (n_andL rfl (verEq_rfl _)) rfl) rfl) rfl) (n_true (n_andL (n_andL (n_andL (n_andL rfl (verEq_rfl _)) rfl) rfl) rfl) (n_bind fun t1 => (n_condH rfl (fun h0 => rfl) fun h0 => (n_condH rfl (fun h1 => rfl) fun h1 => (n_bind fun t2 => (n_condH rfl (fun h2 => rfl) fun h2 => (n_condH rfl (fun h3 => rfl) fun h3 => (n_condH rfl (fun h4 => rfl) fun h4 => (n_condH rfl (fun h5 => rfl) fun h5 => (n_bind fun t3 => (n_bind fun t4 => rfl))))))))))))))
theorem lib43 : Lib Try.prog GL0 C43 :=
  Lib.fn lib56 mixed TT_ok Try.func43 (by decide +kernel) (by kernel_rfl) true noL (loops_of 0 (by kernel_rfl) below0) ks43 (F := fun us => F_economy_field (toI (cIa (aggL (cIa us 0)) 0)) (toI (cIa (aggL (cIa us 0)) 1)) (toI (cIa (aggL (cIa us 0)) 2)) (toB (cIa (aggL (cIa us 0)) 3)) (toI (cIa (aggL (cIa us 0)) 4)) (roRows (cIa (aggL (cIa us 0)) 5)) (roRows (cIa (aggL (cIa us 0)) 6)) (roRows (cIa (aggL (cIa us 0)) 7)) (toI (cIa (aggL (cIa us 0)) 8)) (toI (cIa (aggL (cIa us 0)) 9)) (roRows (cIa (aggL (cIa us 0)) 10)) (roRows (cIa (aggL (cIa us 0)) 11)) (roRows (cIa (aggL (cIa us 0)) 12)) (roRows (cIa (aggL (cIa us 0)) 13)) (roRows (cIa (aggL (cIa us 0)) 14)) (roRows (cIa (aggL (cIa us 0)) 15)) (toI (cIa (aggL (cIa us 1)) 0)) (toI (cIa (aggL (cIa us 1)) 1)) (toS (cIa (aggL (cIa us 1)) 2)) (toI (cIa (aggL (cIa us 1)) 3)) (toI (cIa (aggL (cIa us 1)) 4)) (toI (cIa (aggL (cIa us 1)) 5)) (toI (cIa (aggL (cIa us 1)) 6)) (toI (cIa (aggL (cIa us 1)) 7)) (toI (cIa (aggL (cIa us 1)) 8)) (toI (cIa (aggL (cIa us 1)) 9)) (roRows (cIa (aggL (cIa us 1)) 10)) (roRows (cIa (aggL (cIa us 1)) 11))) (fun us => rfl) (fun us => run43 (toI (cIa (aggL (cIa us 0)) 0)) (toI (cIa (aggL (cIa us 0)) 1)) (toI (cIa (aggL (cIa us 0)) 2)) (toB (cIa (aggL (cIa us 0)) 3)) (toI (cIa (aggL (cIa us 0)) 4)) (roRows (cIa (aggL (cIa us 0)) 5)) (roRows (cIa (aggL (cIa us 0)) 6)) (roRows (cIa (aggL (cIa us 0)) 7)) (toI (cIa (aggL (cIa us 0)) 8)) (toI (cIa (aggL (cIa us 0)) 9)) (roRows (cIa (aggL (cIa us 0)) 10)) (roRows (cIa (aggL (cIa us 0)) 11)) (roRows (cIa (aggL (cIa us 0)) 12)) (roRows (cIa (aggL (cIa us 0)) 13)) (roRows (cIa (aggL (cIa us 0)) 14)) (roRows (cIa (aggL (cIa us 0)) 15)) (toI (cIa (aggL (cIa us 1)) 0)) (toI (cIa (aggL (cIa us 1)) 1)) (toS (cIa (aggL (cIa us 1)) 2)) (toI (cIa (aggL (cIa us 1)) 3)) (toI (cIa (aggL (cIa us 1)) 4)) (toI (cIa (aggL (cIa us 1)) 5)) (toI (cIa (aggL (cIa us 1)) 6)) (toI (cIa (aggL (cIa us 1)) 7)) (toI (cIa (aggL (cIa us 1)) 8)) (toI (cIa (aggL (cIa us 1)) 9)) (roRows (cIa (aggL (cIa us 1)) 10)) (roRows (cIa (aggL (cIa us 1)) 11))) (fun t => rfl)

/-! ### 86: skirmish/grid.Valid -/



/-- 'skirmish/grid.Valid' -/
noncomputable def F_grid_Valid (w : Int) (h : Int) : Option (Bool) :=
  bif (decide (w ≥ (1 : Int))) then
    bif (decide (w ≤ (32 : Int))) then
      bif (decide (h ≥ (1 : Int))) then
        some (decide (h ≤ (32 : Int)))
      else
      some false
    else
    some false
  else
  some false
noncomputable def enc86 (t : Bool) : CR := ⟨true, (.sc (.bool t)), [], []⟩
noncomputable def ks86 : List SK := [.f (.int .i64), .f (.int .i64)]
noncomputable def S86 (us : List AVal) : Call := bif chkA ks86 us then Call.of (F_grid_Valid (toI (cIa us 0)) (toI (cIa us 1))) enc86 else Call.none
noncomputable def C86 := AI.ext 86 S86 C43

theorem run86 (w : Int) (h : Int) : fcall TT TU GL0 C43 ownF true noL Try.f86 [(.sc (.int .i64 w)), (.sc (.int .i64 h))] = (F_grid_Valid w h).bind fun t => some (enc86 t) :=
  Eq.trans (b := (bif (decide (w ≥ (1 : Int))) then (bif (decide (w ≤ (32 : Int))) then (bif (decide (h ≥ (1 : Int))) then (some (CR.mk true (bo (decide (h ≤ (32 : Int)))) [] [])) else (some (CR.mk true (bo false) [] []))) else (some (CR.mk true (bo false) [] []))) else (some (CR.mk true (bo false) [] [])))) (by kernel_rfl)
    (n_condH rfl (fun h0 => (n_condH rfl (fun h1 => (n_condH rfl (fun h2 => rfl) fun h2 => rfl)) fun h1 => rfl)) fun h0 => rfl)
theorem lib86 : Lib Try.prog GL0 C86 :=
  Lib.fn lib43 mixed TT_ok Try.func86 (by decide +kernel) (by kernel_rfl) true noL (loops_of 0 (by kernel_rfl) below0) ks86 (F := fun us => F_grid_Valid (toI (cIa us 0)) (toI (cIa us 1))) (fun us => rfl) (fun us => run86 (toI (cIa us 0)) (toI (cIa us 1))) (fun t => rfl)

/-! ### 72: skirmish/terrain.formed -/



/-- 'skirmish/terrain.formed' -/
noncomputable def F_terrain_formed (m_W : Int) (m_H : Int) (m_Cells : List (List AVal)) : Option (Bool) :=
  Option.bind (F_grid_Valid m_W m_H) fun t =>
  bif t then
    some ((Int.ofNat m_Cells.length) == (wr (m_W * m_H)))
  else
  some false
noncomputable def enc72 (t : Bool) : CR := ⟨true, (.sc (.bool t)), [], []⟩
noncomputable def ks72 : List SK := [.agg [.int .i64, .int .i64, .ro 3]]
noncomputable def S72 (us : List AVal) : Call := bif chkA ks72 us then Call.of (F_terrain_formed (toI (cIa (aggL (cIa us 0)) 0)) (toI (cIa (aggL (cIa us 0)) 1)) (roRows (cIa (aggL (cIa us 0)) 2))) enc72 else Call.none
noncomputable def C72 := AI.ext 72 S72 C86

theorem run72 (m_W : Int) (m_H : Int) (m_Cells : List (List AVal)) : fcall TT TU GL0 C86 ownF true noL Try.f72 [(.agg [(.sc (.int .i64 m_W)), (.sc (.int .i64 m_H)), (.ro 3 m_Cells)])] = (F_terrain_formed m_W m_H m_Cells).bind fun t => some (enc72 t) :=
  Eq.trans (b := (Option.bind (F_grid_Valid m_W m_H) fun t => (bif t then (some (CR.mk true (bo ((Int.ofNat m_Cells.length) == (wr (m_W * m_H)))) [] [])) else (some (CR.mk true (bo false) [] []))))) (by kernel_rfl)
    (n_bind fun t => (n_condH rfl (fun h0 => rfl) fun h0 => rfl))
theorem lib72 : Lib Try.prog GL0 C72 :=
  Lib.fn lib86 mixed TT_ok Try.func72 (by decide +kernel) (by kernel_rfl) true noL (loops_of 0 (by kernel_rfl) below0) ks72 (F := fun us => F_terrain_formed (toI (cIa (aggL (cIa us 0)) 0)) (toI (cIa (aggL (cIa us 0)) 1)) (roRows (cIa (aggL (cIa us 0)) 2))) (fun us => rfl) (fun us => run72 (toI (cIa (aggL (cIa us 0)) 0)) (toI (cIa (aggL (cIa us 0)) 1)) (roRows (cIa (aggL (cIa us 0)) 2))) (fun t => rfl)

/-! ### 73: skirmish/grid.In -/



/-- 'skirmish/grid.In' -/
noncomputable def F_grid_In (w : Int) (h : Int) (p_X : Int) (p_Y : Int) : Option (Bool) :=
  bif (decide (p_X ≥ (0 : Int))) then
    bif (decide (p_X < w)) then
      bif (decide (p_Y ≥ (0 : Int))) then
        some (decide (p_Y < h))
      else
      some false
    else
    some false
  else
  some false
noncomputable def enc73 (t : Bool) : CR := ⟨true, (.sc (.bool t)), [], []⟩
noncomputable def ks73 : List SK := [.f (.int .i64), .f (.int .i64), .agg [.int .i64, .int .i64]]
noncomputable def S73 (us : List AVal) : Call := bif chkA ks73 us then Call.of (F_grid_In (toI (cIa us 0)) (toI (cIa us 1)) (toI (cIa (aggL (cIa us 2)) 0)) (toI (cIa (aggL (cIa us 2)) 1))) enc73 else Call.none
noncomputable def C73 := AI.ext 73 S73 C72

theorem run73 (w : Int) (h : Int) (p_X : Int) (p_Y : Int) : fcall TT TU GL0 C72 ownF true noL Try.f73 [(.sc (.int .i64 w)), (.sc (.int .i64 h)), (.agg [(.sc (.int .i64 p_X)), (.sc (.int .i64 p_Y))])] = (F_grid_In w h p_X p_Y).bind fun t => some (enc73 t) :=
  Eq.trans (b := (bif (decide (p_X ≥ (0 : Int))) then (bif (decide (p_X < w)) then (bif (decide (p_Y ≥ (0 : Int))) then (some (CR.mk true (bo (decide (p_Y < h))) [] [])) else (some (CR.mk true (bo false) [] []))) else (some (CR.mk true (bo false) [] []))) else (some (CR.mk true (bo false) [] [])))) (by kernel_rfl)
    (n_condH rfl (fun h0 => (n_condH rfl (fun h1 => (n_condH rfl (fun h2 => rfl) fun h2 => rfl)) fun h1 => rfl)) fun h0 => rfl)
theorem lib73 : Lib Try.prog GL0 C73 :=
  Lib.fn lib72 mixed TT_ok Try.func73 (by decide +kernel) (by kernel_rfl) true noL (loops_of 0 (by kernel_rfl) below0) ks73 (F := fun us => F_grid_In (toI (cIa us 0)) (toI (cIa us 1)) (toI (cIa (aggL (cIa us 2)) 0)) (toI (cIa (aggL (cIa us 2)) 1))) (fun us => rfl) (fun us => run73 (toI (cIa us 0)) (toI (cIa us 1)) (toI (cIa (aggL (cIa us 2)) 0)) (toI (cIa (aggL (cIa us 2)) 1))) (fun t => rfl)

/-! ### 57: skirmish/terrain.inside -/



/-- 'skirmish/terrain.inside' -/
noncomputable def F_terrain_inside (m_W : Int) (m_H : Int) (m_Cells : List (List AVal)) (p_X : Int) (p_Y : Int) : Option (Bool) :=
  Option.bind (F_terrain_formed m_W m_H m_Cells) fun t =>
  bif t then
    Option.bind (F_grid_In m_W m_H p_X p_Y) fun t1 =>
    some t1
  else
  some false
noncomputable def enc57 (t : Bool) : CR := ⟨true, (.sc (.bool t)), [], []⟩
noncomputable def ks57 : List SK := [.agg [.int .i64, .int .i64, .ro 3], .agg [.int .i64, .int .i64]]
noncomputable def S57 (us : List AVal) : Call := bif chkA ks57 us then Call.of (F_terrain_inside (toI (cIa (aggL (cIa us 0)) 0)) (toI (cIa (aggL (cIa us 0)) 1)) (roRows (cIa (aggL (cIa us 0)) 2)) (toI (cIa (aggL (cIa us 1)) 0)) (toI (cIa (aggL (cIa us 1)) 1))) enc57 else Call.none
noncomputable def C57 := AI.ext 57 S57 C73

theorem run57 (m_W : Int) (m_H : Int) (m_Cells : List (List AVal)) (p_X : Int) (p_Y : Int) : fcall TT TU GL0 C73 ownF true noL Try.f57 [(.agg [(.sc (.int .i64 m_W)), (.sc (.int .i64 m_H)), (.ro 3 m_Cells)]), (.agg [(.sc (.int .i64 p_X)), (.sc (.int .i64 p_Y))])] = (F_terrain_inside m_W m_H m_Cells p_X p_Y).bind fun t => some (enc57 t) :=
  Eq.trans (b := (Option.bind (F_terrain_formed m_W m_H m_Cells) fun t => (bif t then (Option.bind (F_grid_In m_W m_H p_X p_Y) fun t1 => (some (CR.mk true (bo t1) [] []))) else (some (CR.mk true (bo false) [] []))))) (by kernel_rfl)
    (n_bind fun t => (n_condH rfl (fun h0 => (n_bind fun t1 => rfl)) fun h0 => rfl))
theorem lib57 : Lib Try.prog GL0 C57 :=
  Lib.fn lib73 mixed TT_ok Try.func57 (by decide +kernel) (by kernel_rfl) true noL (loops_of 0 (by kernel_rfl) below0) ks57 (F := fun us => F_terrain_inside (toI (cIa (aggL (cIa us 0)) 0)) (toI (cIa (aggL (cIa us 0)) 1)) (roRows (cIa (aggL (cIa us 0)) 2)) (toI (cIa (aggL (cIa us 1)) 0)) (toI (cIa (aggL (cIa us 1)) 1))) (fun us => rfl) (fun us => run57 (toI (cIa (aggL (cIa us 0)) 0)) (toI (cIa (aggL (cIa us 0)) 1)) (roRows (cIa (aggL (cIa us 0)) 2)) (toI (cIa (aggL (cIa us 1)) 0)) (toI (cIa (aggL (cIa us 1)) 1))) (fun t => rfl)

/-! ### 41: skirmish/num.Clamp -/



/-- 'skirmish/num.Clamp' -/
noncomputable def F_num_Clamp (n : Int) (lo : Int) (hi : Int) : Option (Int) :=
  some (maxI lo (minI n hi))
noncomputable def enc41 (t : Int) : CR := ⟨true, (.sc (.int .i64 t)), [], []⟩
noncomputable def ks41 : List SK := [.f (.int .i64), .f (.int .i64), .f (.int .i64)]
noncomputable def S41 (us : List AVal) : Call := bif chkA ks41 us then Call.of (F_num_Clamp (toI (cIa us 0)) (toI (cIa us 1)) (toI (cIa us 2))) enc41 else Call.none
noncomputable def C41 := AI.ext 41 S41 C57

theorem run41 (n : Int) (lo : Int) (hi : Int) : fcall TT TU GL0 C57 ownF true noL Try.f41 [(.sc (.int .i64 n)), (.sc (.int .i64 lo)), (.sc (.int .i64 hi))] = (F_num_Clamp n lo hi).bind fun t => some (enc41 t) :=
  Eq.trans (b := (some (CR.mk true (i64 (maxI lo (minI n hi))) [] []))) (by kernel_rfl)
    rfl
theorem lib41 : Lib Try.prog GL0 C41 :=
  Lib.fn lib57 mixed TT_ok Try.func41 (by decide +kernel) (by kernel_rfl) true noL (loops_of 0 (by kernel_rfl) below0) ks41 (F := fun us => F_num_Clamp (toI (cIa us 0)) (toI (cIa us 1)) (toI (cIa us 2))) (fun us => rfl) (fun us => run41 (toI (cIa us 0)) (toI (cIa us 1)) (toI (cIa us 2))) (fun t => rfl)

/-! ### 75: skirmish/grid.near -/



/-- 'skirmish/grid.near' -/
noncomputable def F_grid_near (n : Int) : Option (Int) :=
  Option.bind (F_num_Clamp n (-(1048576 : Int)) (1048576 : Int)) fun t =>
  some t
noncomputable def enc75 (t : Int) : CR := ⟨true, (.sc (.int .i64 t)), [], []⟩
noncomputable def ks75 : List SK := [.f (.int .i64)]
noncomputable def S75 (us : List AVal) : Call := bif chkA ks75 us then Call.of (F_grid_near (toI (cIa us 0))) enc75 else Call.none
noncomputable def C75 := AI.ext 75 S75 C41

theorem run75 (n : Int) : fcall TT TU GL0 C41 ownF true noL Try.f75 [(.sc (.int .i64 n))] = (F_grid_near n).bind fun t => some (enc75 t) :=
  Eq.trans (b := (Option.bind (F_num_Clamp n (-(1048576 : Int)) (1048576 : Int)) fun t => (some (CR.mk true (i64 t) [] [])))) (by kernel_rfl)
    (n_bind fun t => rfl)
theorem lib75 : Lib Try.prog GL0 C75 :=
  Lib.fn lib41 mixed TT_ok Try.func75 (by decide +kernel) (by kernel_rfl) true noL (loops_of 0 (by kernel_rfl) below0) ks75 (F := fun us => F_grid_near (toI (cIa us 0))) (fun us => rfl) (fun us => run75 (toI (cIa us 0))) (fun t => rfl)

/-! ### 74: skirmish/grid.pos -/



/-- 'skirmish/grid.pos' -/
noncomputable def F_grid_pos (p_X : Int) (p_Y : Int) : Option (Int × Int) :=
  Option.bind (F_grid_near p_X) fun t =>
  Option.bind (F_grid_near p_Y) fun t1 =>
  some (t, t1)
noncomputable def enc74 (t : Int × Int) : CR := ⟨true, (.agg [(.sc (.int .i64 t.1)), (.sc (.int .i64 t.2))]), [], []⟩
noncomputable def ks74 : List SK := [.agg [.int .i64, .int .i64]]
noncomputable def S74 (us : List AVal) : Call := bif chkA ks74 us then Call.of (F_grid_pos (toI (cIa (aggL (cIa us 0)) 0)) (toI (cIa (aggL (cIa us 0)) 1))) enc74 else Call.none
noncomputable def C74 := AI.ext 74 S74 C75

theorem run74 (p_X : Int) (p_Y : Int) : fcall TT TU GL0 C75 ownF true noL Try.f74 [(.agg [(.sc (.int .i64 p_X)), (.sc (.int .i64 p_Y))])] = (F_grid_pos p_X p_Y).bind fun t => some (enc74 t) :=
  Eq.trans (b := (Option.bind (F_grid_near p_X) fun t => (Option.bind (F_grid_near p_Y) fun t1 => (some (CR.mk true (AVal.agg [(i64 t), (i64 t1)]) [] []))))) (by kernel_rfl)
    (n_bind fun t => (n_bind fun t1 => rfl))
theorem lib74 : Lib Try.prog GL0 C74 :=
  Lib.fn lib75 mixed TT_ok Try.func74 (by decide +kernel) (by kernel_rfl) true noL (loops_of 0 (by kernel_rfl) below0) ks74 (F := fun us => F_grid_pos (toI (cIa (aggL (cIa us 0)) 0)) (toI (cIa (aggL (cIa us 0)) 1))) (fun us => rfl) (fun us => run74 (toI (cIa (aggL (cIa us 0)) 0)) (toI (cIa (aggL (cIa us 0)) 1))) (fun t => rfl)

/-! ### 58: skirmish/grid.Index -/



/-- 'skirmish/grid.Index' -/
noncomputable def F_grid_Index (w : Int) (p_X : Int) (p_Y : Int) : Option (Int) :=
  Option.bind (F_grid_pos p_X p_Y) fun t =>
  Option.bind (F_grid_near w) fun t1 =>
  some (wr ((wr (t.2 * t1)) + t.1))
noncomputable def enc58 (t : Int) : CR := ⟨true, (.sc (.int .i64 t)), [], []⟩
noncomputable def ks58 : List SK := [.f (.int .i64), .agg [.int .i64, .int .i64]]
noncomputable def S58 (us : List AVal) : Call := bif chkA ks58 us then Call.of (F_grid_Index (toI (cIa us 0)) (toI (cIa (aggL (cIa us 1)) 0)) (toI (cIa (aggL (cIa us 1)) 1))) enc58 else Call.none
noncomputable def C58 := AI.ext 58 S58 C74

theorem run58 (w : Int) (p_X : Int) (p_Y : Int) : fcall TT TU GL0 C74 ownF true noL Try.f58 [(.sc (.int .i64 w)), (.agg [(.sc (.int .i64 p_X)), (.sc (.int .i64 p_Y))])] = (F_grid_Index w p_X p_Y).bind fun t => some (enc58 t) :=
  Eq.trans (b := (Option.bind (F_grid_pos p_X p_Y) fun t => (Option.bind (F_grid_near w) fun t1 => (some (CR.mk true (i64 (wr ((wr (t.2 * t1)) + t.1))) [] []))))) (by kernel_rfl)
    (n_bind fun t => (n_bind fun t1 => rfl))
theorem lib58 : Lib Try.prog GL0 C58 :=
  Lib.fn lib74 mixed TT_ok Try.func58 (by decide +kernel) (by kernel_rfl) true noL (loops_of 0 (by kernel_rfl) below0) ks58 (F := fun us => F_grid_Index (toI (cIa us 0)) (toI (cIa (aggL (cIa us 1)) 0)) (toI (cIa (aggL (cIa us 1)) 1))) (fun us => rfl) (fun us => run58 (toI (cIa us 0)) (toI (cIa (aggL (cIa us 1)) 0)) (toI (cIa (aggL (cIa us 1)) 1))) (fun t => rfl)

/-! ### 44: skirmish/terrain.Get -/



/-- 'skirmish/terrain.Get' -/
noncomputable def F_terrain_Get (m_W : Int) (m_H : Int) (m_Cells : List (List AVal)) (p_X : Int) (p_Y : Int) : Option (Int × Int × Int × Bool) :=
  Option.bind (F_terrain_inside m_W m_H m_Cells p_X p_Y) fun t =>
  bif (!t) then
    some ((0 : Int), (0 : Int), (0 : Int), false)
  else
  Option.bind (F_grid_Index m_W p_X p_Y) fun t1 =>
  bif (decide ((0 : Int) ≤ t1)) then
    Option.bind (m_Cells[t1.toNat]?) fun r =>
    bif (chk [(LT.int IntKind.i64), (LT.int IntKind.i64), (LT.int IntKind.i64)] r) then
      some ((cI r 0), (cI r 1), (cI r 2), true)
    else
    none
  else
  none
noncomputable def enc44 (t : Int × Int × Int × Bool) : CR := ⟨true, (.tup [(.agg [(.sc (.int .i64 t.1)), (.sc (.int .i64 t.2.1)), (.sc (.int .i64 t.2.2.1))]), (.sc (.bool t.2.2.2))]), [], []⟩
noncomputable def ks44 : List SK := [.agg [.int .i64, .int .i64, .ro 3], .agg [.int .i64, .int .i64]]
noncomputable def S44 (us : List AVal) : Call := bif chkA ks44 us then Call.of (F_terrain_Get (toI (cIa (aggL (cIa us 0)) 0)) (toI (cIa (aggL (cIa us 0)) 1)) (roRows (cIa (aggL (cIa us 0)) 2)) (toI (cIa (aggL (cIa us 1)) 0)) (toI (cIa (aggL (cIa us 1)) 1))) enc44 else Call.none
noncomputable def C44 := AI.ext 44 S44 C58

theorem run44 (m_W : Int) (m_H : Int) (m_Cells : List (List AVal)) (p_X : Int) (p_Y : Int) : fcall TT TU GL0 C58 ownF true noL Try.f44 [(.agg [(.sc (.int .i64 m_W)), (.sc (.int .i64 m_H)), (.ro 3 m_Cells)]), (.agg [(.sc (.int .i64 p_X)), (.sc (.int .i64 p_Y))])] = (F_terrain_Get m_W m_H m_Cells p_X p_Y).bind fun t => some (enc44 t) :=
  Eq.trans (b := (Option.bind (F_terrain_inside m_W m_H m_Cells p_X p_Y) fun t => (bif (!t) then (some (CR.mk true (AVal.tup [(AVal.agg [(i64 (0 : Int)), (i64 (0 : Int)), (i64 (0 : Int))]), (bo false)]) [] [])) else (Option.bind (F_grid_Index m_W p_X p_Y) fun t1 => (bif (decide ((0 : Int) ≤ t1)) then (Option.bind (m_Cells[t1.toNat]?) fun r => (bif (chk [(LT.int IntKind.i64), (LT.int IntKind.i64), (LT.int IntKind.i64)] r) then (some (CR.mk true (AVal.tup [(AVal.agg [(i64 (cI r 0)), (i64 (cI r 1)), (i64 (cI r 2))]), (bo true)]) [] [])) else none)) else none))))) (by kernel_rfl)
    (n_bind fun t => (n_condH rfl (fun h0 => rfl) fun h0 => (n_bind fun t1 => (n_condH rfl (fun h1 => (n_bind fun r => (n_condH rfl (fun h2 => rfl) fun h2 => n_none))) fun h1 => n_none))))
theorem lib44 : Lib Try.prog GL0 C44 :=
  Lib.fn lib58 mixed TT_ok Try.func44 (by decide +kernel) (by kernel_rfl) true noL (loops_of 0 (by kernel_rfl) below0) ks44 (F := fun us => F_terrain_Get (toI (cIa (aggL (cIa us 0)) 0)) (toI (cIa (aggL (cIa us 0)) 1)) (roRows (cIa (aggL (cIa us 0)) 2)) (toI (cIa (aggL (cIa us 1)) 0)) (toI (cIa (aggL (cIa us 1)) 1))) (fun us => rfl) (fun us => run44 (toI (cIa (aggL (cIa us 0)) 0)) (toI (cIa (aggL (cIa us 0)) 1)) (roRows (cIa (aggL (cIa us 0)) 2)) (toI (cIa (aggL (cIa us 1)) 0)) (toI (cIa (aggL (cIa us 1)) 1))) (fun t => rfl)

/-! ### 45: skirmish/num.Center -/



/-- 'skirmish/num.Center' -/
noncomputable def F_num_Center (c : Int) : Option (Int) :=
  bif (decide (c > (36028797018963967 : Int))) then
    some (9223372036854775807 : Int)
  else
  bif (decide (c < (-(36028797018963968 : Int)))) then
    some (-(9223372036854775808 : Int))
  else
  some (wr ((wr (c * (256 : Int))) + (128 : Int)))
noncomputable def enc45 (t : Int) : CR := ⟨true, (.sc (.int .i64 t)), [], []⟩
noncomputable def ks45 : List SK := [.f (.int .i64)]
noncomputable def S45 (us : List AVal) : Call := bif chkA ks45 us then Call.of (F_num_Center (toI (cIa us 0))) enc45 else Call.none
noncomputable def C45 := AI.ext 45 S45 C44

theorem run45 (c : Int) : fcall TT TU GL0 C44 ownF true noL Try.f45 [(.sc (.int .i64 c))] = (F_num_Center c).bind fun t => some (enc45 t) :=
  Eq.trans (b := (bif (decide (c > (36028797018963967 : Int))) then (some (CR.mk true (i64 (9223372036854775807 : Int)) [] [])) else (bif (decide (c < (-(36028797018963968 : Int)))) then (some (CR.mk true (i64 (-(9223372036854775808 : Int))) [] [])) else (some (CR.mk true (i64 (wr ((wr (c * (256 : Int))) + (128 : Int)))) [] []))))) (by kernel_rfl)
    (n_condH rfl (fun h0 => rfl) fun h0 => (n_condH rfl (fun h1 => rfl) fun h1 => rfl))
theorem lib45 : Lib Try.prog GL0 C45 :=
  Lib.fn lib44 mixed TT_ok Try.func45 (by decide +kernel) (by kernel_rfl) true noL (loops_of 0 (by kernel_rfl) below0) ks45 (F := fun us => F_num_Center (toI (cIa us 0))) (fun us => rfl) (fun us => run45 (toI (cIa us 0))) (fun t => rfl)

/-! ### 59: skirmish/vec.near -/



/-- 'skirmish/vec.near' -/
noncomputable def F_vec_near (n : Int) : Option (Int) :=
  Option.bind (F_num_Clamp n (-(1048576 : Int)) (1048576 : Int)) fun t =>
  some t
noncomputable def enc59 (t : Int) : CR := ⟨true, (.sc (.int .i64 t)), [], []⟩
noncomputable def ks59 : List SK := [.f (.int .i64)]
noncomputable def S59 (us : List AVal) : Call := bif chkA ks59 us then Call.of (F_vec_near (toI (cIa us 0))) enc59 else Call.none
noncomputable def C59 := AI.ext 59 S59 C45

theorem run59 (n : Int) : fcall TT TU GL0 C45 ownF true noL Try.f59 [(.sc (.int .i64 n))] = (F_vec_near n).bind fun t => some (enc59 t) :=
  Eq.trans (b := (Option.bind (F_num_Clamp n (-(1048576 : Int)) (1048576 : Int)) fun t => (some (CR.mk true (i64 t) [] [])))) (by kernel_rfl)
    (n_bind fun t => rfl)
theorem lib59 : Lib Try.prog GL0 C59 :=
  Lib.fn lib45 mixed TT_ok Try.func59 (by decide +kernel) (by kernel_rfl) true noL (loops_of 0 (by kernel_rfl) below0) ks59 (F := fun us => F_vec_near (toI (cIa us 0))) (fun us => rfl) (fun us => run59 (toI (cIa us 0))) (fun t => rfl)

/-! ### 61: skirmish/vec.nearest -/



/-- 'skirmish/vec.nearest' -/
noncomputable def F_vec_nearest (a_X : Int) (a_Y : Int) : Option (Int × Int) :=
  Option.bind (F_vec_near a_X) fun t =>
  Option.bind (F_vec_near a_Y) fun t1 =>
  some (t, t1)
noncomputable def enc61 (t : Int × Int) : CR := ⟨true, (.agg [(.sc (.int .i64 t.1)), (.sc (.int .i64 t.2))]), [], []⟩
noncomputable def ks61 : List SK := [.agg [.int .i64, .int .i64]]
noncomputable def S61 (us : List AVal) : Call := bif chkA ks61 us then Call.of (F_vec_nearest (toI (cIa (aggL (cIa us 0)) 0)) (toI (cIa (aggL (cIa us 0)) 1))) enc61 else Call.none
noncomputable def C61 := AI.ext 61 S61 C59

theorem run61 (a_X : Int) (a_Y : Int) : fcall TT TU GL0 C59 ownF true noL Try.f61 [(.agg [(.sc (.int .i64 a_X)), (.sc (.int .i64 a_Y))])] = (F_vec_nearest a_X a_Y).bind fun t => some (enc61 t) :=
  Eq.trans (b := (Option.bind (F_vec_near a_X) fun t => (Option.bind (F_vec_near a_Y) fun t1 => (some (CR.mk true (AVal.agg [(i64 t), (i64 t1)]) [] []))))) (by kernel_rfl)
    (n_bind fun t => (n_bind fun t1 => rfl))
theorem lib61 : Lib Try.prog GL0 C61 :=
  Lib.fn lib59 mixed TT_ok Try.func61 (by decide +kernel) (by kernel_rfl) true noL (loops_of 0 (by kernel_rfl) below0) ks61 (F := fun us => F_vec_nearest (toI (cIa (aggL (cIa us 0)) 0)) (toI (cIa (aggL (cIa us 0)) 1))) (fun us => rfl) (fun us => run61 (toI (cIa (aggL (cIa us 0)) 0)) (toI (cIa (aggL (cIa us 0)) 1))) (fun t => rfl)

/-! ### 76: skirmish/vec.dot -/



/-- 'skirmish/vec.dot' -/
noncomputable def F_vec_dot (a_X : Int) (a_Y : Int) (b_X : Int) (b_Y : Int) : Option (Int) :=
  some (wr ((wr (a_X * b_X)) + (wr (a_Y * b_Y))))
noncomputable def enc76 (t : Int) : CR := ⟨true, (.sc (.int .i64 t)), [], []⟩
noncomputable def ks76 : List SK := [.agg [.int .i64, .int .i64], .agg [.int .i64, .int .i64]]
noncomputable def S76 (us : List AVal) : Call := bif chkA ks76 us then Call.of (F_vec_dot (toI (cIa (aggL (cIa us 0)) 0)) (toI (cIa (aggL (cIa us 0)) 1)) (toI (cIa (aggL (cIa us 1)) 0)) (toI (cIa (aggL (cIa us 1)) 1))) enc76 else Call.none
noncomputable def C76 := AI.ext 76 S76 C61

theorem run76 (a_X : Int) (a_Y : Int) (b_X : Int) (b_Y : Int) : fcall TT TU GL0 C61 ownF true noL Try.f76 [(.agg [(.sc (.int .i64 a_X)), (.sc (.int .i64 a_Y))]), (.agg [(.sc (.int .i64 b_X)), (.sc (.int .i64 b_Y))])] = (F_vec_dot a_X a_Y b_X b_Y).bind fun t => some (enc76 t) :=
  Eq.trans (b := (some (CR.mk true (i64 (wr ((wr (a_X * b_X)) + (wr (a_Y * b_Y))))) [] []))) (by kernel_rfl)
    rfl
theorem lib76 : Lib Try.prog GL0 C76 :=
  Lib.fn lib61 mixed TT_ok Try.func76 (by decide +kernel) (by kernel_rfl) true noL (loops_of 0 (by kernel_rfl) below0) ks76 (F := fun us => F_vec_dot (toI (cIa (aggL (cIa us 0)) 0)) (toI (cIa (aggL (cIa us 0)) 1)) (toI (cIa (aggL (cIa us 1)) 0)) (toI (cIa (aggL (cIa us 1)) 1))) (fun us => rfl) (fun us => run76 (toI (cIa (aggL (cIa us 0)) 0)) (toI (cIa (aggL (cIa us 0)) 1)) (toI (cIa (aggL (cIa us 1)) 0)) (toI (cIa (aggL (cIa us 1)) 1))) (fun t => rfl)

/-! ### 60: skirmish/vec.apart -/



/-- 'skirmish/vec.apart' -/
noncomputable def F_vec_apart (a_X : Int) (a_Y : Int) (b_X : Int) (b_Y : Int) : Option (Int × Int × Int) :=
  Option.bind (F_vec_dot (wr (b_X - a_X)) (wr (b_Y - a_Y)) (wr (b_X - a_X)) (wr (b_Y - a_Y))) fun t =>
  some ((wr (b_X - a_X)), (wr (b_Y - a_Y)), t)
noncomputable def enc60 (t : Int × Int × Int) : CR := ⟨true, (.tup [(.agg [(.sc (.int .i64 t.1)), (.sc (.int .i64 t.2.1))]), (.sc (.int .i64 t.2.2))]), [], []⟩
noncomputable def ks60 : List SK := [.agg [.int .i64, .int .i64], .agg [.int .i64, .int .i64]]
noncomputable def S60 (us : List AVal) : Call := bif chkA ks60 us then Call.of (F_vec_apart (toI (cIa (aggL (cIa us 0)) 0)) (toI (cIa (aggL (cIa us 0)) 1)) (toI (cIa (aggL (cIa us 1)) 0)) (toI (cIa (aggL (cIa us 1)) 1))) enc60 else Call.none
noncomputable def C60 := AI.ext 60 S60 C76

theorem run60 (a_X : Int) (a_Y : Int) (b_X : Int) (b_Y : Int) : fcall TT TU GL0 C76 ownF true noL Try.f60 [(.agg [(.sc (.int .i64 a_X)), (.sc (.int .i64 a_Y))]), (.agg [(.sc (.int .i64 b_X)), (.sc (.int .i64 b_Y))])] = (F_vec_apart a_X a_Y b_X b_Y).bind fun t => some (enc60 t) :=
  Eq.trans (b := (Option.bind (F_vec_dot (wr (b_X - a_X)) (wr (b_Y - a_Y)) (wr (b_X - a_X)) (wr (b_Y - a_Y))) fun t => (some (CR.mk true (AVal.tup [(AVal.agg [(i64 (wr (b_X - a_X))), (i64 (wr (b_Y - a_Y)))]), (i64 t)]) [] [])))) (by kernel_rfl)
    (n_bind fun t => rfl)
theorem lib60 : Lib Try.prog GL0 C60 :=
  Lib.fn lib76 mixed TT_ok Try.func60 (by decide +kernel) (by kernel_rfl) true noL (loops_of 0 (by kernel_rfl) below0) ks60 (F := fun us => F_vec_apart (toI (cIa (aggL (cIa us 0)) 0)) (toI (cIa (aggL (cIa us 0)) 1)) (toI (cIa (aggL (cIa us 1)) 0)) (toI (cIa (aggL (cIa us 1)) 1))) (fun us => rfl) (fun us => run60 (toI (cIa (aggL (cIa us 0)) 0)) (toI (cIa (aggL (cIa us 0)) 1)) (toI (cIa (aggL (cIa us 1)) 0)) (toI (cIa (aggL (cIa us 1)) 1))) (fun t => rfl)

/-! ### 46: skirmish/vec.Within -/



/-- 'skirmish/vec.Within' -/
noncomputable def F_vec_Within (a_X : Int) (a_Y : Int) (b_X : Int) (b_Y : Int) (r1 : Int) : Option (Bool) :=
  Option.bind (F_vec_near r1) fun t =>
  Option.bind (F_vec_nearest a_X a_Y) fun t1 =>
  Option.bind (F_vec_nearest b_X b_Y) fun t2 =>
  Option.bind (F_vec_apart t1.1 t1.2 t2.1 t2.2) fun t3 =>
  bif (decide (t ≥ (0 : Int))) then
    some (decide (t3.2.2 ≤ (wr (t * t))))
  else
  some false
noncomputable def enc46 (t : Bool) : CR := ⟨true, (.sc (.bool t)), [], []⟩
noncomputable def ks46 : List SK := [.agg [.int .i64, .int .i64], .agg [.int .i64, .int .i64], .f (.int .i64)]
noncomputable def S46 (us : List AVal) : Call := bif chkA ks46 us then Call.of (F_vec_Within (toI (cIa (aggL (cIa us 0)) 0)) (toI (cIa (aggL (cIa us 0)) 1)) (toI (cIa (aggL (cIa us 1)) 0)) (toI (cIa (aggL (cIa us 1)) 1)) (toI (cIa us 2))) enc46 else Call.none
noncomputable def C46 := AI.ext 46 S46 C60

theorem run46 (a_X : Int) (a_Y : Int) (b_X : Int) (b_Y : Int) (r1 : Int) : fcall TT TU GL0 C60 ownF true noL Try.f46 [(.agg [(.sc (.int .i64 a_X)), (.sc (.int .i64 a_Y))]), (.agg [(.sc (.int .i64 b_X)), (.sc (.int .i64 b_Y))]), (.sc (.int .i64 r1))] = (F_vec_Within a_X a_Y b_X b_Y r1).bind fun t => some (enc46 t) :=
  Eq.trans (b := (Option.bind (F_vec_near r1) fun t => (Option.bind (F_vec_nearest a_X a_Y) fun t1 => (Option.bind (F_vec_nearest b_X b_Y) fun t2 => (Option.bind (F_vec_apart t1.1 t1.2 t2.1 t2.2) fun t3 => (bif (decide (t ≥ (0 : Int))) then (some (CR.mk true (bo (decide (t3.2.2 ≤ (wr (t * t))))) [] [])) else (some (CR.mk true (bo false) [] [])))))))) (by kernel_rfl)
    (n_bind fun t => (n_bind fun t1 => (n_bind fun t2 => (n_bind fun t3 => (n_condH rfl (fun h0 => rfl) fun h0 => rfl)))))
theorem lib46 : Lib Try.prog GL0 C46 :=
  Lib.fn lib60 mixed TT_ok Try.func46 (by decide +kernel) (by kernel_rfl) true noL (loops_of 0 (by kernel_rfl) below0) ks46 (F := fun us => F_vec_Within (toI (cIa (aggL (cIa us 0)) 0)) (toI (cIa (aggL (cIa us 0)) 1)) (toI (cIa (aggL (cIa us 1)) 0)) (toI (cIa (aggL (cIa us 1)) 1)) (toI (cIa us 2))) (fun us => rfl) (fun us => run46 (toI (cIa (aggL (cIa us 0)) 0)) (toI (cIa (aggL (cIa us 0)) 1)) (toI (cIa (aggL (cIa us 1)) 0)) (toI (cIa (aggL (cIa us 1)) 1)) (toI (cIa us 2))) (fun t => rfl)

/-! ### 79: skirmish/terrain.validCell -/



/-- 'skirmish/terrain.validCell' -/
noncomputable def F_terrain_validCell (c_Kind : Int) (c_Height : Int) (c_Amount : Int) : Option (Bool) :=
  bif (decide (c_Kind < (1 : Int))) then
    some false
  else
  bif (decide (c_Kind > (5 : Int))) then
    some false
  else
  bif (decide (c_Height < (0 : Int))) then
    some false
  else
  bif (decide (c_Height > (3 : Int))) then
    some false
  else
  bif (decide (c_Amount < (0 : Int))) then
    some false
  else
  bif (decide (c_Amount > (1000000 : Int))) then
    some false
  else
  bif (c_Kind == (4 : Int)) then
    some ((decide (c_Amount > (0 : Int))) == true)
  else
  some ((decide (c_Amount > (0 : Int))) == (c_Kind == (5 : Int)))
noncomputable def enc79 (t : Bool) : CR := ⟨true, (.sc (.bool t)), [], []⟩
noncomputable def ks79 : List SK := [.agg [.int .i64, .int .i64, .int .i64]]
noncomputable def S79 (us : List AVal) : Call := bif chkA ks79 us then Call.of (F_terrain_validCell (toI (cIa (aggL (cIa us 0)) 0)) (toI (cIa (aggL (cIa us 0)) 1)) (toI (cIa (aggL (cIa us 0)) 2))) enc79 else Call.none
noncomputable def C79 := AI.ext 79 S79 C46

theorem run79 (c_Kind : Int) (c_Height : Int) (c_Amount : Int) : fcall TT TU GL0 C46 ownF true noL Try.f79 [(.agg [(.sc (.int .i64 c_Kind)), (.sc (.int .i64 c_Height)), (.sc (.int .i64 c_Amount))])] = (F_terrain_validCell c_Kind c_Height c_Amount).bind fun t => some (enc79 t) :=
  Eq.trans (b := (bif (decide (c_Kind < (1 : Int))) then (some (CR.mk true (bo false) [] [])) else (bif (decide (c_Kind > (5 : Int))) then (some (CR.mk true (bo false) [] [])) else (bif (decide (c_Height < (0 : Int))) then (some (CR.mk true (bo false) [] [])) else (bif (decide (c_Height > (3 : Int))) then (some (CR.mk true (bo false) [] [])) else (bif (decide (c_Amount < (0 : Int))) then (some (CR.mk true (bo false) [] [])) else (bif (decide (c_Amount > (1000000 : Int))) then (some (CR.mk true (bo false) [] [])) else (bif (c_Kind == (4 : Int)) then (some (CR.mk true (bo ((decide (c_Amount > (0 : Int))) == true)) [] [])) else (some (CR.mk true (bo ((decide (c_Amount > (0 : Int))) == (c_Kind == (5 : Int)))) [] [])))))))))) (by kernel_rfl)
    (n_condH rfl (fun h0 => rfl) fun h0 => (n_condH rfl (fun h1 => rfl) fun h1 => (n_condH rfl (fun h2 => rfl) fun h2 => (n_condH rfl (fun h3 => rfl) fun h3 => (n_condH rfl (fun h4 => rfl) fun h4 => (n_condH rfl (fun h5 => rfl) fun h5 => (n_condH rfl (fun h6 => rfl) fun h6 => rfl)))))))
theorem lib79 : Lib Try.prog GL0 C79 :=
  Lib.fn lib46 mixed TT_ok Try.func79 (by decide +kernel) (by kernel_rfl) true noL (loops_of 0 (by kernel_rfl) below0) ks79 (F := fun us => F_terrain_validCell (toI (cIa (aggL (cIa us 0)) 0)) (toI (cIa (aggL (cIa us 0)) 1)) (toI (cIa (aggL (cIa us 0)) 2))) (fun us => rfl) (fun us => run79 (toI (cIa (aggL (cIa us 0)) 0)) (toI (cIa (aggL (cIa us 0)) 1)) (toI (cIa (aggL (cIa us 0)) 2))) (fun t => rfl)

/-! ### 78: skirmish/terrain.Valid$1 -/



/-- 'skirmish/terrain.Valid$1' -/
noncomputable def F_terrain_Valid_1 (c_Kind : Int) (c_Height : Int) (c_Amount : Int) : Option (Bool) :=
  Option.bind (F_terrain_validCell c_Kind c_Height c_Amount) fun t =>
  some (!t)
noncomputable def enc78 (t : Bool) : CR := ⟨true, (.sc (.bool t)), [], []⟩
noncomputable def ks78 : List SK := [.agg [.int .i64, .int .i64, .int .i64]]
noncomputable def S78 (us : List AVal) : Call := bif chkA ks78 us then Call.of (F_terrain_Valid_1 (toI (cIa (aggL (cIa us 0)) 0)) (toI (cIa (aggL (cIa us 0)) 1)) (toI (cIa (aggL (cIa us 0)) 2))) enc78 else Call.none
noncomputable def C78 := AI.ext 78 S78 C79

theorem run78 (c_Kind : Int) (c_Height : Int) (c_Amount : Int) : fcall TT TU GL0 C79 ownF true noL Try.f78 [(.agg [(.sc (.int .i64 c_Kind)), (.sc (.int .i64 c_Height)), (.sc (.int .i64 c_Amount))])] = (F_terrain_Valid_1 c_Kind c_Height c_Amount).bind fun t => some (enc78 t) :=
  Eq.trans (b := (Option.bind (F_terrain_validCell c_Kind c_Height c_Amount) fun t => (some (CR.mk true (bo (!t)) [] [])))) (by kernel_rfl)
    (n_bind fun t => rfl)
theorem lib78 : Lib Try.prog GL0 C78 :=
  Lib.fn lib79 mixed TT_ok Try.func78 (by decide +kernel) (by kernel_rfl) true noL (loops_of 0 (by kernel_rfl) below0) ks78 (F := fun us => F_terrain_Valid_1 (toI (cIa (aggL (cIa us 0)) 0)) (toI (cIa (aggL (cIa us 0)) 1)) (toI (cIa (aggL (cIa us 0)) 2))) (fun us => rfl) (fun us => run78 (toI (cIa (aggL (cIa us 0)) 0)) (toI (cIa (aggL (cIa us 0)) 1)) (toI (cIa (aggL (cIa us 0)) 2))) (fun t => rfl)

/-! ### 87: slices.IndexFunc[[]skirmish/api.Cell,skirmish/api.Cell] -/

noncomputable def W87_0 : Ex → List Bool
  | .ret => [false, false, false, false, true, false, false, false, false, false, false, false, false, false, false, false, false, false, false]
  | .exit n => bif Nat.beq n 0 then [false, false, false, false, false, false, false, false, false, false, false, false, false, false, false, false, false, false, false] else []
  | .normal => []
noncomputable def G_slices_IndexFunc_Cell_0 (s1 : List (List AVal)) (x7 : Int) : Nat → Int → Option (Bool × Int)
  | 0, _ => none
  | m + 1, x8 =>
    bif (decide (x8 < x7)) then
      bif (decide ((0 : Int) ≤ x8)) then
        Option.bind (s1[x8.toNat]?) fun r =>
        bif (chk [(LT.int IntKind.i64), (LT.int IntKind.i64), (LT.int IntKind.i64)] r) then
          Option.bind (F_terrain_Valid_1 (cI r 0) (cI r 1) (cI r 2)) fun t =>
          bif t then
            some (true, x8)
          else
          G_slices_IndexFunc_Cell_0 s1 x7 m (wr (x8 + (1 : Int)))
        else
        none
      else
      none
    else
    some (false, 0)
noncomputable def E87_0 (s1 : List (List AVal)) (x7 : Int) (x8 : Int) : St := ⟨[(.ro 3 s1), (.clo 78 []), .dead, .dead, .dead, .dead, .dead, (.sc (.int .i64 x7)), (.sc (.int .i64 x8)), .dead, .dead, .dead, .dead, .dead, .dead, .dead, .dead, .dead, .dead], []⟩
noncomputable def X87_0 (k : Ex → St → Option CR) (t : Bool × Int) : Option CR := bif t.1 then k .ret ⟨[.dead, .dead, .dead, .dead, (.sc (.int .i64 t.2)), .dead, .dead, .dead, .dead, .dead, .dead, .dead, .dead, .dead, .dead, .dead, .dead, .dead, .dead], []⟩ else k (.exit 0) ⟨[.dead, .dead, .dead, .dead, .dead, .dead, .dead, .dead, .dead, .dead, .dead, .dead, .dead, .dead, .dead, .dead, .dead, .dead, .dead], []⟩
noncomputable def ks87_0 : List SK := [.f (.ro 3), .f (.clo 78 []), .f .dead, .f .dead, .f .dead, .f .dead, .f .dead, .f (.int .i64), .f (.int .i64), .f .dead, .f .dead, .f .dead, .f .dead, .f .dead, .f .dead, .f .dead, .f .dead, .f .dead, .f .dead]
noncomputable def hs87_0 : List HK := []
noncomputable def Lm87_0 (s : St) (k : Ex → St → Option CR) : Option CR := bif chkS ks87_0 hs87_0 s then (G_slices_IndexFunc_Cell_0 (roRows (cIa s.tmps 0)) (toI (cIa s.tmps 7)) FU (toI (cIa s.tmps 8))).bind (X87_0 k) else none
noncomputable def L87_0 (s : St) (k : Ex → St → Option CR) : Option CR := Lm87_0 (maskS (maskOf ks87_0) s) k

noncomputable def L87 : LT' := fun i s k => bif Nat.beq i 0 then L87_0 s k else none

/-- 'slices.IndexFunc[[]skirmish/api.Cell,skirmish/api.Cell]' -/
noncomputable def F_slices_IndexFunc_Cell (s1 : List (List AVal)) : Option (Int) :=
  Option.bind (G_slices_IndexFunc_Cell_0 s1 (Int.ofNat s1.length) FU (0 : Int)) fun t =>
  bif t.1 then
    some t.2
  else
  some (-(1 : Int))
noncomputable def enc87 (t : Int) : CR := ⟨true, (.sc (.int .i64 t)), [], []⟩
noncomputable def ks87 : List SK := [.f (.ro 3), .f (.clo 78 [])]
noncomputable def S87 (us : List AVal) : Call := bif chkA ks87 us then Call.of (F_slices_IndexFunc_Cell (roRows (cIa us 0))) enc87 else Call.none
noncomputable def C87 := AI.ext 87 S87 C78

@[reducible] noncomputable def B87_0 := bodyOf TT TU GL0 C78 ownF L87 (lp Try.f87 0)
@[reducible] noncomputable def K87_0 (k : Ex → St → Option CR) : Ex → St → Option CR := fun e s => k e (maskS (W87_0 e) s)
theorem spec87_0 (k : Ex → St → Option CR) : ∀ (m : Nat) (s1 : List (List AVal)) (x7 : Int) (x8 : Int), loopN B87_0 m (E87_0 s1 x7 x8) (K87_0 k) = (G_slices_IndexFunc_Cell_0 s1 x7 m x8).bind (X87_0 k)
  | 0, _, _, _ => rfl
  | m + 1, s1, x7, x8 =>
    Eq.trans (b := (bif (decide (x8 < x7)) then (bif (decide ((0 : Int) ≤ x8)) then (Option.bind (s1[x8.toNat]?) fun r => (bif (chk [(LT.int IntKind.i64), (LT.int IntKind.i64), (LT.int IntKind.i64)] r) then (Option.bind (F_terrain_Valid_1 (cI r 0) (cI r 1) (cI r 2)) fun t => (bif t then (k .ret ⟨[.dead, .dead, .dead, .dead, (i64 x8), .dead, .dead, .dead, .dead, .dead, .dead, .dead, .dead, .dead, .dead, .dead, .dead, .dead, .dead], []⟩) else (loopN B87_0 m ⟨[(AVal.ro 3 s1), (AVal.clo 78 []), .dead, .dead, .dead, .dead, .dead, (i64 x7), (i64 (wr (x8 + (1 : Int)))), .dead, .dead, .dead, .dead, .dead, .dead, .dead, .dead, .dead, .dead], []⟩ (K87_0 k)))) else none)) else none) else (k (.exit 0) ⟨[.dead, .dead, .dead, .dead, .dead, .dead, .dead, .dead, .dead, .dead, .dead, .dead, .dead, .dead, .dead, .dead, .dead, .dead, .dead], []⟩))) (by kernel_rfl)
      (n_condH rfl (fun h0 => (n_condH rfl (fun h1 => (n_bind fun r => (n_condH rfl (fun h2 => (n_bind fun t => (n_condH rfl (fun h3 => rfl) fun h3 => (spec87_0 k m s1 x7 (wr (x8 + (1 : Int))))))) fun h2 => n_none))) fun h1 => n_none)) fun h0 => rfl)
theorem okL87_0 : LoopOk TT TU GL0 C78 ownF L87 (lp Try.f87 0) :=
  loopOk_of ks87_0 hs87_0 W87_0 FU (fun s k => (G_slices_IndexFunc_Cell_0 (roRows (cIa s.tmps 0)) (toI (cIa s.tmps 7)) FU (toI (cIa s.tmps 8))).bind (X87_0 k)) (fun s k => by kernel_rfl) (fun s k => spec87_0 k FU (roRows (cIa s.tmps 0)) (toI (cIa s.tmps 7)) (toI (cIa s.tmps 8)))
theorem run87 (s1 : List (List AVal)) : fcall TT TU GL0 C78 ownF false L87 Try.f87 [(.ro 3 s1), (.clo 78 [])] = (F_slices_IndexFunc_Cell s1).bind fun t => some (enc87 t) :=
  Eq.trans (b := (Option.bind (G_slices_IndexFunc_Cell_0 s1 (Int.ofNat s1.length) FU (0 : Int)) fun t => (bif t.1 then (some (CR.mk true (i64 t.2) [] [])) else (some (CR.mk true (i64 (-(1 : Int))) [] []))))) (by kernel_rfl)
    (n_bind fun t => (n_condH rfl (fun h0 => rfl) fun h0 => rfl))
theorem lib87 : Lib Try.prog GL0 C87 :=
  Lib.fn lib78 mixed TT_ok Try.func87 (by decide +kernel) (by kernel_rfl) false L87 (loops_of 1 (by kernel_rfl) (belowS below0 okL87_0)) ks87 (F := fun us => F_slices_IndexFunc_Cell (roRows (cIa us 0))) (fun us => rfl) (fun us => run87 (roRows (cIa us 0))) (fun t => rfl)

/-! ### 77: slices.ContainsFunc[[]skirmish/api.Cell,skirmish/api.Cell] -/



/-- 'slices.ContainsFunc[[]skirmish/api.Cell,skirmish/api.Cell]' -/
noncomputable def F_slices_ContainsFunc_Cell (s1 : List (List AVal)) : Option (Bool) :=
  Option.bind (F_slices_IndexFunc_Cell s1) fun t =>
  some (decide (t ≥ (0 : Int)))
noncomputable def enc77 (t : Bool) : CR := ⟨true, (.sc (.bool t)), [], []⟩
noncomputable def ks77 : List SK := [.f (.ro 3), .f (.clo 78 [])]
noncomputable def S77 (us : List AVal) : Call := bif chkA ks77 us then Call.of (F_slices_ContainsFunc_Cell (roRows (cIa us 0))) enc77 else Call.none
noncomputable def C77 := AI.ext 77 S77 C87

theorem run77 (s1 : List (List AVal)) : fcall TT TU GL0 C87 ownF false noL Try.f77 [(.ro 3 s1), (.clo 78 [])] = (F_slices_ContainsFunc_Cell s1).bind fun t => some (enc77 t) :=
  Eq.trans (b := (Option.bind (F_slices_IndexFunc_Cell s1) fun t => (some (CR.mk true (bo (decide (t ≥ (0 : Int)))) [] [])))) (by kernel_rfl)
    (n_bind fun t => rfl)
theorem lib77 : Lib Try.prog GL0 C77 :=
  Lib.fn lib87 mixed TT_ok Try.func77 (by decide +kernel) (by kernel_rfl) false noL (loops_of 0 (by kernel_rfl) below0) ks77 (F := fun us => F_slices_ContainsFunc_Cell (roRows (cIa us 0))) (fun us => rfl) (fun us => run77 (roRows (cIa us 0))) (fun t => rfl)

/-! ### 62: skirmish/terrain.Valid -/



/-- 'skirmish/terrain.Valid' -/
noncomputable def F_terrain_Valid (m_W : Int) (m_H : Int) (m_Cells : List (List AVal)) : Option (Bool) :=
  Option.bind (F_terrain_formed m_W m_H m_Cells) fun t =>
  bif t then
    Option.bind (F_slices_ContainsFunc_Cell m_Cells) fun t1 =>
    some (!t1)
  else
  some false
noncomputable def enc62 (t : Bool) : CR := ⟨true, (.sc (.bool t)), [], []⟩
noncomputable def ks62 : List SK := [.agg [.int .i64, .int .i64, .ro 3]]
noncomputable def S62 (us : List AVal) : Call := bif chkA ks62 us then Call.of (F_terrain_Valid (toI (cIa (aggL (cIa us 0)) 0)) (toI (cIa (aggL (cIa us 0)) 1)) (roRows (cIa (aggL (cIa us 0)) 2))) enc62 else Call.none
noncomputable def C62 := AI.ext 62 S62 C77

theorem run62 (m_W : Int) (m_H : Int) (m_Cells : List (List AVal)) : fcall TT TU GL0 C77 ownF true noL Try.f62 [(.agg [(.sc (.int .i64 m_W)), (.sc (.int .i64 m_H)), (.ro 3 m_Cells)])] = (F_terrain_Valid m_W m_H m_Cells).bind fun t => some (enc62 t) :=
  Eq.trans (b := (Option.bind (F_terrain_formed m_W m_H m_Cells) fun t => (bif t then (Option.bind (F_slices_ContainsFunc_Cell m_Cells) fun t1 => (some (CR.mk true (bo (!t1)) [] []))) else (some (CR.mk true (bo false) [] []))))) (by kernel_rfl)
    (n_bind fun t => (n_condH rfl (fun h0 => (n_bind fun t1 => rfl)) fun h0 => rfl))
theorem lib62 : Lib Try.prog GL0 C62 :=
  Lib.fn lib77 mixed TT_ok Try.func62 (by decide +kernel) (by kernel_rfl) true noL (loops_of 0 (by kernel_rfl) below0) ks62 (F := fun us => F_terrain_Valid (toI (cIa (aggL (cIa us 0)) 0)) (toI (cIa (aggL (cIa us 0)) 1)) (roRows (cIa (aggL (cIa us 0)) 2))) (fun us => rfl) (fun us => run62 (toI (cIa (aggL (cIa us 0)) 0)) (toI (cIa (aggL (cIa us 0)) 1)) (roRows (cIa (aggL (cIa us 0)) 2))) (fun t => rfl)

/-! ### 80: slices.Clone[[]skirmish/api.Cell,skirmish/api.Cell] -/



/-- 'slices.Clone[[]skirmish/api.Cell,skirmish/api.Cell]' -/
noncomputable def F_slices_Clone_Cell_ne (s1 : List (List AVal)) : Option (List (List AVal)) :=
  bif (List.isEmpty s1) then
    none
  else
  bif (roomOk (0 + s1.length) 24) then
    some s1
  else
  none
noncomputable def F_slices_Clone_Cell (s1 : List (List AVal)) : Option (List (List AVal)) := bif s1.isEmpty then some [] else F_slices_Clone_Cell_ne s1
noncomputable def enc80 (t : List (List AVal)) : CR := ⟨true, (.slc 0 (t).length), [], [⟨.arr, 63, 3, t⟩]⟩
noncomputable def S80 (us : List AVal) : Call := bif chkA [.f (.ro 3)] us then Call.of (F_slices_Clone_Cell (roRows (cIa us 0))) enc80 else Call.none
noncomputable def C80 := AI.ext 80 S80 C62

theorem run80 (s1 : List (List AVal)) : fcall TT TU GL0 C62 ownF true noL Try.f80 [(.ro 3 s1)] = (F_slices_Clone_Cell_ne s1).bind fun t => some (enc80 t) :=
  Eq.trans (b := (bif (List.isEmpty s1) then none else (bif (roomOk (0 + s1.length) 24) then (bif (verEq s1.length s1.length) then (some (CR.mk true (AVal.slc 0 s1.length) [] [(Blk.mk BKind.arr 63 3 s1)])) else none) else none))) (by kernel_rfl)
    (n_condH rfl (fun h0 => n_none) fun h0 => (n_condH rfl (fun h1 => (n_true (verEq_rfl _) rfl)) fun h1 => n_none))
theorem lib80 : Lib Try.prog GL0 C80 :=
  Lib.clone lib62 mixed TT_ok Try.func80 (by decide +kernel) (by kernel_rfl) true noL (loops_of 0 (by kernel_rfl) below0)  3 (fun us => rfl) run80 (fun a cap => by cases a <;> kernel_rfl) (fun t => rfl)

/-! ### 63: skirmish/terrain.with -/



/-- 'skirmish/terrain.with' -/
noncomputable def F_terrain_with (m_W : Int) (m_H : Int) (m_Cells : List (List AVal)) (p_X : Int) (p_Y : Int) (c_Kind : Int) (c_Height : Int) (c_Amount : Int) : Option (List (List AVal) × Int × Int) :=
  Option.bind (F_slices_Clone_Cell m_Cells) fun t =>
  Option.bind (F_grid_Index m_W p_X p_Y) fun t1 =>
  bif ((decide ((0 : Int) ≤ t1)) && (decide (t1 < (Int.ofNat t.length)))) then
    some ((List.set t t1.toNat [(i64 c_Kind), (i64 c_Height), (i64 c_Amount)]), m_W, m_H)
  else
  none
noncomputable def enc63 (t : List (List AVal) × Int × Int) : CR := ⟨true, (.agg [(.sc (.int .i64 t.2.1)), (.sc (.int .i64 t.2.2)), (.slc 0 (t.1).length)]), [], [⟨.arr, 63, 3, t.1⟩]⟩
noncomputable def ks63 : List SK := [.agg [.int .i64, .int .i64, .ro 3], .agg [.int .i64, .int .i64], .agg [.int .i64, .int .i64, .int .i64]]
noncomputable def S63 (us : List AVal) : Call := bif chkA ks63 us then Call.of (F_terrain_with (toI (cIa (aggL (cIa us 0)) 0)) (toI (cIa (aggL (cIa us 0)) 1)) (roRows (cIa (aggL (cIa us 0)) 2)) (toI (cIa (aggL (cIa us 1)) 0)) (toI (cIa (aggL (cIa us 1)) 1)) (toI (cIa (aggL (cIa us 2)) 0)) (toI (cIa (aggL (cIa us 2)) 1)) (toI (cIa (aggL (cIa us 2)) 2))) enc63 else Call.none
noncomputable def C63 := AI.ext 63 S63 C80

theorem run63 (m_W : Int) (m_H : Int) (m_Cells : List (List AVal)) (p_X : Int) (p_Y : Int) (c_Kind : Int) (c_Height : Int) (c_Amount : Int) : fcall TT TU GL0 C80 ownF true noL Try.f63 [(.agg [(.sc (.int .i64 m_W)), (.sc (.int .i64 m_H)), (.ro 3 m_Cells)]), (.agg [(.sc (.int .i64 p_X)), (.sc (.int .i64 p_Y))]), (.agg [(.sc (.int .i64 c_Kind)), (.sc (.int .i64 c_Height)), (.sc (.int .i64 c_Amount))])] = (F_terrain_with m_W m_H m_Cells p_X p_Y c_Kind c_Height c_Amount).bind fun t => some (enc63 t) :=
  Eq.trans (b := (Option.bind (F_slices_Clone_Cell m_Cells) fun t => (bif ((((true && (verEq t.length t.length)) && true) && true) && true) then (Option.bind (F_grid_Index m_W p_X p_Y) fun t1 => (bif (((verEq t.length t.length) && (decide ((0 : Int) ≤ t1))) && (decide (t1 < (Int.ofNat t.length)))) then (bif ((((verEq t.length t.length) && true) && true) && true) then (bif (verEq (Blk.rows (Blk.mk BKind.arr 63 3 (List.set t t1.toNat [(i64 c_Kind), (i64 c_Height), (i64 c_Amount)]))).length t.length) then (some (CR.mk true (AVal.agg [(i64 m_W), (i64 m_H), (AVal.slc 0 (Blk.rows (Blk.mk BKind.arr 63 3 (List.set t t1.toNat [(i64 c_Kind), (i64 c_Height), (i64 c_Amount)]))).length)]) [] [(Blk.mk BKind.arr 63 3 (List.set t t1.toNat [(i64 c_Kind), (i64 c_Height), (i64 c_Amount)]))])) else none) else none) else none)) else none))) (by kernel_rfl)
    (n_bind fun t => (n_true (n_andL (n_andL (n_andL (n_andL rfl (verEq_rfl _)) rfl) rfl) rfl) (n_bind fun t1 => (n_condH (n_and (n_andL (verEq_rfl _) rfl) rfl) (fun h0 => (n_true (n_andL (n_andL (n_andL (verEq_rfl _) rfl) rfl) rfl) (n_true (by first | exact verEq_of rfl | simp [verEq, blkLen, blkAt]) rfl))) fun h0 => n_none))))
theorem lib63 : Lib Try.prog GL0 C63 :=
  Lib.fn lib80 mixed TT_ok Try.func63 (by decide +kernel) (by kernel_rfl) true noL (loops_of 0 (by kernel_rfl) below0) ks63 (F := fun us => F_terrain_with (toI (cIa (aggL (cIa us 0)) 0)) (toI (cIa (aggL (cIa us 0)) 1)) (roRows (cIa (aggL (cIa us 0)) 2)) (toI (cIa (aggL (cIa us 1)) 0)) (toI (cIa (aggL (cIa us 1)) 1)) (toI (cIa (aggL (cIa us 2)) 0)) (toI (cIa (aggL (cIa us 2)) 1)) (toI (cIa (aggL (cIa us 2)) 2))) (fun us => rfl) (fun us => run63 (toI (cIa (aggL (cIa us 0)) 0)) (toI (cIa (aggL (cIa us 0)) 1)) (roRows (cIa (aggL (cIa us 0)) 2)) (toI (cIa (aggL (cIa us 1)) 0)) (toI (cIa (aggL (cIa us 1)) 1)) (toI (cIa (aggL (cIa us 2)) 0)) (toI (cIa (aggL (cIa us 2)) 1)) (toI (cIa (aggL (cIa us 2)) 2))) (fun t => rfl)

/-! ### 47: skirmish/terrain.Take -/



/-- 'skirmish/terrain.Take' -/
noncomputable def F_terrain_Take (m_W : Int) (m_H : Int) (m_Cells : List (List AVal)) (p_X : Int) (p_Y : Int) (n : Int) : Option (List (List AVal) × Int × Int × Int × Int) :=
  Option.bind (F_terrain_Valid m_W m_H m_Cells) fun t =>
  bif (!t) then
    some ([], (0 : Int), (0 : Int), (0 : Int), (1 : Int))
  else
  bif (decide (n < (1 : Int))) then
    some ([], (0 : Int), (0 : Int), (0 : Int), (1 : Int))
  else
  Option.bind (F_terrain_Get m_W m_H m_Cells p_X p_Y) fun t1 =>
  bif (!t1.2.2.2) then
    some ([], (0 : Int), (0 : Int), (0 : Int), (8 : Int))
  else
  bif (t1.2.2.1 == (0 : Int)) then
    some ([], (0 : Int), (0 : Int), (0 : Int), (8 : Int))
  else
  bif ((wr (t1.2.2.1 - (minI n t1.2.2.1))) == (0 : Int)) then
    Option.bind (F_terrain_with m_W m_H m_Cells p_X p_Y (1 : Int) t1.2.1 (wr (t1.2.2.1 - (minI n t1.2.2.1)))) fun t2 =>
    some (t2.1, t2.2.1, t2.2.2, (minI n t1.2.2.1), (0 : Int))
  else
  Option.bind (F_terrain_with m_W m_H m_Cells p_X p_Y t1.1 t1.2.1 (wr (t1.2.2.1 - (minI n t1.2.2.1)))) fun t3 =>
  some (t3.1, t3.2.1, t3.2.2, (minI n t1.2.2.1), (0 : Int))
noncomputable def enc47 (t : List (List AVal) × Int × Int × Int × Int) : CR := ⟨true, (.tup [(.agg [(.sc (.int .i64 t.2.1)), (.sc (.int .i64 t.2.2.1)), (.slc 0 (t.1).length)]), (.sc (.int .i64 t.2.2.2.1)), (.sc (.int .i64 t.2.2.2.2))]), [], [⟨.arr, 63, 3, t.1⟩]⟩
noncomputable def ks47 : List SK := [.agg [.int .i64, .int .i64, .ro 3], .agg [.int .i64, .int .i64], .f (.int .i64)]
noncomputable def S47 (us : List AVal) : Call := bif chkA ks47 us then Call.of (F_terrain_Take (toI (cIa (aggL (cIa us 0)) 0)) (toI (cIa (aggL (cIa us 0)) 1)) (roRows (cIa (aggL (cIa us 0)) 2)) (toI (cIa (aggL (cIa us 1)) 0)) (toI (cIa (aggL (cIa us 1)) 1)) (toI (cIa us 2))) enc47 else Call.none
noncomputable def C47 := AI.ext 47 S47 C63

theorem run47 (m_W : Int) (m_H : Int) (m_Cells : List (List AVal)) (p_X : Int) (p_Y : Int) (n : Int) : fcall TT TU GL0 C63 ownF true noL Try.f47 [(.agg [(.sc (.int .i64 m_W)), (.sc (.int .i64 m_H)), (.ro 3 m_Cells)]), (.agg [(.sc (.int .i64 p_X)), (.sc (.int .i64 p_Y))]), (.sc (.int .i64 n))] = (F_terrain_Take m_W m_H m_Cells p_X p_Y n).bind fun t => some (enc47 t) :=
  Eq.trans (b := (Option.bind (F_terrain_Valid m_W m_H m_Cells) fun t => (bif (!t) then (some (CR.mk true (AVal.tup [(AVal.agg [(i64 (0 : Int)), (i64 (0 : Int)), (AVal.slc 0 0)]), (i64 (0 : Int)), (i64 (1 : Int))]) [] [(Blk.mk BKind.arr 63 3 [])])) else (bif (decide (n < (1 : Int))) then (some (CR.mk true (AVal.tup [(AVal.agg [(i64 (0 : Int)), (i64 (0 : Int)), (AVal.slc 0 0)]), (i64 (0 : Int)), (i64 (1 : Int))]) [] [(Blk.mk BKind.arr 63 3 [])])) else (Option.bind (F_terrain_Get m_W m_H m_Cells p_X p_Y) fun t1 => (bif (!t1.2.2.2) then (some (CR.mk true (AVal.tup [(AVal.agg [(i64 (0 : Int)), (i64 (0 : Int)), (AVal.slc 0 0)]), (i64 (0 : Int)), (i64 (8 : Int))]) [] [(Blk.mk BKind.arr 63 3 [])])) else (bif (t1.2.2.1 == (0 : Int)) then (some (CR.mk true (AVal.tup [(AVal.agg [(i64 (0 : Int)), (i64 (0 : Int)), (AVal.slc 0 0)]), (i64 (0 : Int)), (i64 (8 : Int))]) [] [(Blk.mk BKind.arr 63 3 [])])) else (bif ((wr (t1.2.2.1 - (minI n t1.2.2.1))) == (0 : Int)) then (Option.bind (F_terrain_with m_W m_H m_Cells p_X p_Y (1 : Int) t1.2.1 (wr (t1.2.2.1 - (minI n t1.2.2.1)))) fun t2 => (bif ((((true && (verEq t2.1.length t2.1.length)) && true) && true) && true) then (bif (verEq t2.1.length t2.1.length) then (some (CR.mk true (AVal.tup [(AVal.agg [(i64 t2.2.1), (i64 t2.2.2), (AVal.slc 0 t2.1.length)]), (i64 (minI n t1.2.2.1)), (i64 (0 : Int))]) [] [(Blk.mk BKind.arr 63 3 t2.1)])) else none) else none)) else (Option.bind (F_terrain_with m_W m_H m_Cells p_X p_Y t1.1 t1.2.1 (wr (t1.2.2.1 - (minI n t1.2.2.1)))) fun t3 => (bif ((((true && (verEq t3.1.length t3.1.length)) && true) && true) && true) then (bif (verEq t3.1.length t3.1.length) then (some (CR.mk true (AVal.tup [(AVal.agg [(i64 t3.2.1), (i64 t3.2.2), (AVal.slc 0 t3.1.length)]), (i64 (minI n t1.2.2.1)), (i64 (0 : Int))]) [] [(Blk.mk BKind.arr 63 3 t3.1)])) else none) else none)))))))))) (by kernel_rfl)
    (n_bind fun t => (n_condH rfl (fun h0 => rfl) fun h0 => (n_condH rfl (fun h1 => rfl) fun h1 => (n_bind fun t1 => (n_condH rfl (fun h2 => rfl) fun h2 => (n_condH rfl (fun h3 => rfl) fun h3 => (n_condH rfl (fun h4 => (n_bind fun t2 => (n_true (n_andL (n_andL (n_andL (n_andL rfl (verEq_rfl _)) rfl) rfl) rfl) (n_true (verEq_rfl _) rfl)))) fun h4 => (n_bind fun t3 => (n_true (n_andL (n_andL (n_andL (n_andL rfl (verEq_rfl _)) rfl) rfl) rfl) (n_true (verEq_rfl _) rfl))))))))))
theorem lib47 : Lib Try.prog GL0 C47 :=
  Lib.fn lib63 mixed TT_ok Try.func47 (by decide +kernel) (by kernel_rfl) true noL (loops_of 0 (by kernel_rfl) below0) ks47 (F := fun us => F_terrain_Take (toI (cIa (aggL (cIa us 0)) 0)) (toI (cIa (aggL (cIa us 0)) 1)) (roRows (cIa (aggL (cIa us 0)) 2)) (toI (cIa (aggL (cIa us 1)) 0)) (toI (cIa (aggL (cIa us 1)) 1)) (toI (cIa us 2))) (fun us => rfl) (fun us => run47 (toI (cIa (aggL (cIa us 0)) 0)) (toI (cIa (aggL (cIa us 0)) 1)) (roRows (cIa (aggL (cIa us 0)) 2)) (toI (cIa (aggL (cIa us 1)) 0)) (toI (cIa (aggL (cIa us 1)) 1)) (toI (cIa us 2))) (fun t => rfl)

/-! ### 66: skirmish/entity.find$1 -/



/-- 'skirmish/entity.find$1' -/
noncomputable def F_entity_find_1 (e_Id : Int) (e_Owner : Int) (e_Type : ByteArray) (e_At_X : Int) (e_At_Y : Int) (e_Hp : Int) (e_Cool : Int) (e_Left : Int) (e_Ore : Int) (e_Wood : Int) (e_Orders : List (List AVal)) (e_Jobs : List (List AVal)) (a1 : Int) : Option (Bool) :=
  some (e_Id == a1)
noncomputable def enc66 (t : Bool) : CR := ⟨true, (.sc (.bool t)), [], []⟩
noncomputable def ks66 : List SK := [.agg [.int .i64, .int .i64, .str, .int .i64, .int .i64, .int .i64, .int .i64, .int .i64, .int .i64, .int .i64, .ro 5, .ro 3], .rptr [.int .i64]]
noncomputable def S66 (us : List AVal) : Call := bif chkA ks66 us then Call.of (F_entity_find_1 (toI (cIa (aggL (cIa us 0)) 0)) (toI (cIa (aggL (cIa us 0)) 1)) (toS (cIa (aggL (cIa us 0)) 2)) (toI (cIa (aggL (cIa us 0)) 3)) (toI (cIa (aggL (cIa us 0)) 4)) (toI (cIa (aggL (cIa us 0)) 5)) (toI (cIa (aggL (cIa us 0)) 6)) (toI (cIa (aggL (cIa us 0)) 7)) (toI (cIa (aggL (cIa us 0)) 8)) (toI (cIa (aggL (cIa us 0)) 9)) (roRows (cIa (aggL (cIa us 0)) 10)) (roRows (cIa (aggL (cIa us 0)) 11)) (toI (cIa (rptrL (cIa us 1)) 0))) enc66 else Call.none
noncomputable def C66 := AI.ext 66 S66 C47

theorem run66 (e_Id : Int) (e_Owner : Int) (e_Type : ByteArray) (e_At_X : Int) (e_At_Y : Int) (e_Hp : Int) (e_Cool : Int) (e_Left : Int) (e_Ore : Int) (e_Wood : Int) (e_Orders : List (List AVal)) (e_Jobs : List (List AVal)) (a1 : Int) : fcall TT TU GL0 C47 ownF true noL Try.f66 [(.agg [(.sc (.int .i64 e_Id)), (.sc (.int .i64 e_Owner)), (.sc (.string e_Type)), (.sc (.int .i64 e_At_X)), (.sc (.int .i64 e_At_Y)), (.sc (.int .i64 e_Hp)), (.sc (.int .i64 e_Cool)), (.sc (.int .i64 e_Left)), (.sc (.int .i64 e_Ore)), (.sc (.int .i64 e_Wood)), (.ro 5 e_Orders), (.ro 3 e_Jobs)]), (.rptr [(.sc (.int .i64 a1))])] = (F_entity_find_1 e_Id e_Owner e_Type e_At_X e_At_Y e_Hp e_Cool e_Left e_Ore e_Wood e_Orders e_Jobs a1).bind fun t => some (enc66 t) :=
  Eq.trans (b := (some (CR.mk true (bo (e_Id == a1)) [] []))) (by kernel_rfl)
    rfl
theorem lib66 : Lib Try.prog GL0 C66 :=
  Lib.fn lib47 mixed TT_ok Try.func66 (by decide +kernel) (by kernel_rfl) true noL (loops_of 0 (by kernel_rfl) below0) ks66 (F := fun us => F_entity_find_1 (toI (cIa (aggL (cIa us 0)) 0)) (toI (cIa (aggL (cIa us 0)) 1)) (toS (cIa (aggL (cIa us 0)) 2)) (toI (cIa (aggL (cIa us 0)) 3)) (toI (cIa (aggL (cIa us 0)) 4)) (toI (cIa (aggL (cIa us 0)) 5)) (toI (cIa (aggL (cIa us 0)) 6)) (toI (cIa (aggL (cIa us 0)) 7)) (toI (cIa (aggL (cIa us 0)) 8)) (toI (cIa (aggL (cIa us 0)) 9)) (roRows (cIa (aggL (cIa us 0)) 10)) (roRows (cIa (aggL (cIa us 0)) 11)) (toI (cIa (rptrL (cIa us 1)) 0))) (fun us => rfl) (fun us => run66 (toI (cIa (aggL (cIa us 0)) 0)) (toI (cIa (aggL (cIa us 0)) 1)) (toS (cIa (aggL (cIa us 0)) 2)) (toI (cIa (aggL (cIa us 0)) 3)) (toI (cIa (aggL (cIa us 0)) 4)) (toI (cIa (aggL (cIa us 0)) 5)) (toI (cIa (aggL (cIa us 0)) 6)) (toI (cIa (aggL (cIa us 0)) 7)) (toI (cIa (aggL (cIa us 0)) 8)) (toI (cIa (aggL (cIa us 0)) 9)) (roRows (cIa (aggL (cIa us 0)) 10)) (roRows (cIa (aggL (cIa us 0)) 11)) (toI (cIa (rptrL (cIa us 1)) 0))) (fun t => rfl)

/-! ### 65: slices.IndexFunc[[]skirmish/api.Entity,skirmish/api.Entity] -/

noncomputable def W65_0 : Ex → List Bool
  | .ret => [false, false, false, false, true, false, false, false, false, false, false, false, false, false, false, false, false, false, false]
  | .exit n => bif Nat.beq n 0 then [false, false, false, false, false, false, false, false, false, false, false, false, false, false, false, false, false, false, false] else []
  | .normal => []
noncomputable def G_slices_IndexFunc_Entity_0 (s1 : List (List AVal)) (f_0_0 : Int) (x7 : Int) : Nat → Int → Option (Bool × Int)
  | 0, _ => none
  | m + 1, x8 =>
    bif (decide (x8 < x7)) then
      bif (decide ((0 : Int) ≤ x8)) then
        Option.bind (s1[x8.toNat]?) fun r =>
        bif (chk [(LT.int IntKind.i64), (LT.int IntKind.i64), LT.str, (LT.int IntKind.i64), (LT.int IntKind.i64), (LT.int IntKind.i64), (LT.int IntKind.i64), (LT.int IntKind.i64), (LT.int IntKind.i64), (LT.int IntKind.i64), (LT.sl 79 5), (LT.sl 122 3)] r) then
          Option.bind (F_entity_find_1 (cI r 0) (cI r 1) (cS r 2) (cI r 3) (cI r 4) (cI r 5) (cI r 6) (cI r 7) (cI r 8) (cI r 9) (roRows (AVal.ro 5 (cR r 10))) (roRows (AVal.ro 3 (cR r 11))) f_0_0) fun t =>
          bif t then
            some (true, x8)
          else
          G_slices_IndexFunc_Entity_0 s1 f_0_0 x7 m (wr (x8 + (1 : Int)))
        else
        none
      else
      none
    else
    some (false, 0)
noncomputable def E65_0 (s1 : List (List AVal)) (f_0_0 : Int) (x7 : Int) (x8 : Int) : St := ⟨[(.ro 12 s1), (.clo 66 [(.rptr [(.sc (.int .i64 f_0_0))])]), .dead, .dead, .dead, .dead, .dead, (.sc (.int .i64 x7)), (.sc (.int .i64 x8)), .dead, .dead, .dead, .dead, .dead, .dead, .dead, .dead, .dead, .dead], []⟩
noncomputable def X65_0 (k : Ex → St → Option CR) (t : Bool × Int) : Option CR := bif t.1 then k .ret ⟨[.dead, .dead, .dead, .dead, (.sc (.int .i64 t.2)), .dead, .dead, .dead, .dead, .dead, .dead, .dead, .dead, .dead, .dead, .dead, .dead, .dead, .dead], []⟩ else k (.exit 0) ⟨[.dead, .dead, .dead, .dead, .dead, .dead, .dead, .dead, .dead, .dead, .dead, .dead, .dead, .dead, .dead, .dead, .dead, .dead, .dead], []⟩
noncomputable def ks65_0 : List SK := [.f (.ro 12), .f (.clo 66 [[.int .i64]]), .f .dead, .f .dead, .f .dead, .f .dead, .f .dead, .f (.int .i64), .f (.int .i64), .f .dead, .f .dead, .f .dead, .f .dead, .f .dead, .f .dead, .f .dead, .f .dead, .f .dead, .f .dead]
noncomputable def hs65_0 : List HK := []
noncomputable def Lm65_0 (s : St) (k : Ex → St → Option CR) : Option CR := bif chkS ks65_0 hs65_0 s then (G_slices_IndexFunc_Entity_0 (roRows (cIa s.tmps 0)) (toI (cIa (rptrL (cIa (cloL (cIa s.tmps 1)) 0)) 0)) (toI (cIa s.tmps 7)) FU (toI (cIa s.tmps 8))).bind (X65_0 k) else none
noncomputable def L65_0 (s : St) (k : Ex → St → Option CR) : Option CR := Lm65_0 (maskS (maskOf ks65_0) s) k

noncomputable def L65 : LT' := fun i s k => bif Nat.beq i 0 then L65_0 s k else none

/-- 'slices.IndexFunc[[]skirmish/api.Entity,skirmish/api.Entity]' -/
noncomputable def F_slices_IndexFunc_Entity (s1 : List (List AVal)) (f_0 : Int) : Option (Int) :=
  Option.bind (G_slices_IndexFunc_Entity_0 s1 f_0 (Int.ofNat s1.length) FU (0 : Int)) fun t =>
  bif t.1 then
    some t.2
  else
  some (-(1 : Int))
noncomputable def enc65 (t : Int) : CR := ⟨true, (.sc (.int .i64 t)), [], []⟩
noncomputable def ks65 : List SK := [.f (.ro 12), .f (.clo 66 [[.int .i64]])]
noncomputable def S65 (us : List AVal) : Call := bif chkA ks65 us then Call.of (F_slices_IndexFunc_Entity (roRows (cIa us 0)) (toI (cIa (rptrL (cIa (cloL (cIa us 1)) 0)) 0))) enc65 else Call.none
noncomputable def C65 := AI.ext 65 S65 C66

@[reducible] noncomputable def B65_0 := bodyOf TT TU GL0 C66 ownF L65 (lp Try.f65 0)
@[reducible] noncomputable def K65_0 (k : Ex → St → Option CR) : Ex → St → Option CR := fun e s => k e (maskS (W65_0 e) s)
theorem spec65_0 (k : Ex → St → Option CR) : ∀ (m : Nat) (s1 : List (List AVal)) (f_0_0 : Int) (x7 : Int) (x8 : Int), loopN B65_0 m (E65_0 s1 f_0_0 x7 x8) (K65_0 k) = (G_slices_IndexFunc_Entity_0 s1 f_0_0 x7 m x8).bind (X65_0 k)
  | 0, _, _, _, _ => rfl
  | m + 1, s1, f_0_0, x7, x8 =>
    Eq.trans (b := (bif (decide (x8 < x7)) then (bif (decide ((0 : Int) ≤ x8)) then (Option.bind (s1[x8.toNat]?) fun r => (bif (chk [(LT.int IntKind.i64), (LT.int IntKind.i64), LT.str, (LT.int IntKind.i64), (LT.int IntKind.i64), (LT.int IntKind.i64), (LT.int IntKind.i64), (LT.int IntKind.i64), (LT.int IntKind.i64), (LT.int IntKind.i64), (LT.sl 79 5), (LT.sl 122 3)] r) then (Option.bind (F_entity_find_1 (cI r 0) (cI r 1) (cS r 2) (cI r 3) (cI r 4) (cI r 5) (cI r 6) (cI r 7) (cI r 8) (cI r 9) (roRows (AVal.ro 5 (cR r 10))) (roRows (AVal.ro 3 (cR r 11))) f_0_0) fun t => (bif t then (k .ret ⟨[.dead, .dead, .dead, .dead, (i64 x8), .dead, .dead, .dead, .dead, .dead, .dead, .dead, .dead, .dead, .dead, .dead, .dead, .dead, .dead], []⟩) else (loopN B65_0 m ⟨[(AVal.ro 12 s1), (AVal.clo 66 [(AVal.rptr [(i64 f_0_0)])]), .dead, .dead, .dead, .dead, .dead, (i64 x7), (i64 (wr (x8 + (1 : Int)))), .dead, .dead, .dead, .dead, .dead, .dead, .dead, .dead, .dead, .dead], []⟩ (K65_0 k)))) else none)) else none) else (k (.exit 0) ⟨[.dead, .dead, .dead, .dead, .dead, .dead, .dead, .dead, .dead, .dead, .dead, .dead, .dead, .dead, .dead, .dead, .dead, .dead, .dead], []⟩))) (by kernel_rfl)
      (n_condH rfl (fun h0 => (n_condH rfl (fun h1 => (n_bind fun r => (n_condH rfl (fun h2 => (n_bind fun t => (n_condH rfl (fun h3 => rfl) fun h3 => (spec65_0 k m s1 f_0_0 x7 (wr (x8 + (1 : Int))))))) fun h2 => n_none))) fun h1 => n_none)) fun h0 => rfl)
theorem okL65_0 : LoopOk TT TU GL0 C66 ownF L65 (lp Try.f65 0) :=
  loopOk_of ks65_0 hs65_0 W65_0 FU (fun s k => (G_slices_IndexFunc_Entity_0 (roRows (cIa s.tmps 0)) (toI (cIa (rptrL (cIa (cloL (cIa s.tmps 1)) 0)) 0)) (toI (cIa s.tmps 7)) FU (toI (cIa s.tmps 8))).bind (X65_0 k)) (fun s k => by kernel_rfl) (fun s k => spec65_0 k FU (roRows (cIa s.tmps 0)) (toI (cIa (rptrL (cIa (cloL (cIa s.tmps 1)) 0)) 0)) (toI (cIa s.tmps 7)) (toI (cIa s.tmps 8)))
theorem run65 (s1 : List (List AVal)) (f_0 : Int) : fcall TT TU GL0 C66 ownF false L65 Try.f65 [(.ro 12 s1), (.clo 66 [(.rptr [(.sc (.int .i64 f_0))])])] = (F_slices_IndexFunc_Entity s1 f_0).bind fun t => some (enc65 t) :=
  Eq.trans (b := (Option.bind (G_slices_IndexFunc_Entity_0 s1 f_0 (Int.ofNat s1.length) FU (0 : Int)) fun t => (bif t.1 then (some (CR.mk true (i64 t.2) [] [])) else (some (CR.mk true (i64 (-(1 : Int))) [] []))))) (by kernel_rfl)
    (n_bind fun t => (n_condH rfl (fun h0 => rfl) fun h0 => rfl))
theorem lib65 : Lib Try.prog GL0 C65 :=
  Lib.fn lib66 mixed TT_ok Try.func65 (by decide +kernel) (by kernel_rfl) false L65 (loops_of 1 (by kernel_rfl) (belowS below0 okL65_0)) ks65 (F := fun us => F_slices_IndexFunc_Entity (roRows (cIa us 0)) (toI (cIa (rptrL (cIa (cloL (cIa us 1)) 0)) 0))) (fun us => rfl) (fun us => run65 (roRows (cIa us 0)) (toI (cIa (rptrL (cIa (cloL (cIa us 1)) 0)) 0))) (fun t => rfl)

/-! ### 49: skirmish/entity.find -/



/-- 'skirmish/entity.find' -/
noncomputable def F_entity_find (l : List (List AVal)) (id : Int) : Option (Int) :=
  Option.bind (F_slices_IndexFunc_Entity l id) fun t =>
  some t
noncomputable def enc49 (t : Int) : CR := ⟨true, (.sc (.int .i64 t)), [], []⟩
noncomputable def ks49 : List SK := [.f (.ro 12), .f (.int .i64)]
noncomputable def S49 (us : List AVal) : Call := bif chkA ks49 us then Call.of (F_entity_find (roRows (cIa us 0)) (toI (cIa us 1))) enc49 else Call.none
noncomputable def C49 := AI.ext 49 S49 C65

theorem run49 (l : List (List AVal)) (id : Int) : fcall TT TU GL0 C65 ownRo false noL Try.f49 [(.ro 12 l), (.sc (.int .i64 id))] = (F_entity_find l id).bind fun t => some (enc49 t) :=
  Eq.trans (b := (Option.bind (F_slices_IndexFunc_Entity l id) fun t => (some (CR.mk true (i64 t) [] [])))) (by kernel_rfl)
    (n_bind fun t => rfl)
theorem lib49 : Lib Try.prog GL0 C49 :=
  Lib.fn lib65 mixed TT_ok Try.func49 (by decide +kernel) (by kernel_rfl) false noL (loops_of 0 (by kernel_rfl) below0) ks49 (F := fun us => F_entity_find (roRows (cIa us 0)) (toI (cIa us 1))) (fun us => rfl) (fun us => run49 (roRows (cIa us 0)) (toI (cIa us 1))) (fun t => rfl)

/-! ### 64: slices.Clone[[]skirmish/api.Order,skirmish/api.Order] -/



/-- 'slices.Clone[[]skirmish/api.Order,skirmish/api.Order]' -/
noncomputable def F_slices_Clone_Order_ne (s1 : List (List AVal)) : Option (List (List AVal)) :=
  bif (List.isEmpty s1) then
    none
  else
  bif (roomOk (0 + s1.length) 48) then
    some s1
  else
  none
noncomputable def F_slices_Clone_Order (s1 : List (List AVal)) : Option (List (List AVal)) := bif s1.isEmpty then some [] else F_slices_Clone_Order_ne s1
noncomputable def enc64 (t : List (List AVal)) : CR := ⟨true, (.slc 0 (t).length), [], [⟨.arr, 79, 5, t⟩]⟩
noncomputable def S64 (us : List AVal) : Call := bif chkA [.f (.ro 5)] us then Call.of (F_slices_Clone_Order (roRows (cIa us 0))) enc64 else Call.none
noncomputable def C64 := AI.ext 64 S64 C49

theorem run64 (s1 : List (List AVal)) : fcall TT TU GL0 C49 ownF true noL Try.f64 [(.ro 5 s1)] = (F_slices_Clone_Order_ne s1).bind fun t => some (enc64 t) :=
  Eq.trans (b := (bif (List.isEmpty s1) then none else (bif (roomOk (0 + s1.length) 48) then (bif (verEq s1.length s1.length) then (some (CR.mk true (AVal.slc 0 s1.length) [] [(Blk.mk BKind.arr 79 5 s1)])) else none) else none))) (by kernel_rfl)
    (n_condH rfl (fun h0 => n_none) fun h0 => (n_condH rfl (fun h1 => (n_true (verEq_rfl _) rfl)) fun h1 => n_none))
theorem lib64 : Lib Try.prog GL0 C64 :=
  Lib.clone lib49 mixed TT_ok Try.func64 (by decide +kernel) (by kernel_rfl) true noL (loops_of 0 (by kernel_rfl) below0)  5 (fun us => rfl) run64 (fun a cap => by cases a <;> kernel_rfl) (fun t => rfl)

/-! ### 67: slices.Clone[[]skirmish/api.Job,skirmish/api.Job] -/



/-- 'slices.Clone[[]skirmish/api.Job,skirmish/api.Job]' -/
noncomputable def F_slices_Clone_Job_ne (s1 : List (List AVal)) : Option (List (List AVal)) :=
  bif (List.isEmpty s1) then
    none
  else
  bif (roomOk (0 + s1.length) 32) then
    some s1
  else
  none
noncomputable def F_slices_Clone_Job (s1 : List (List AVal)) : Option (List (List AVal)) := bif s1.isEmpty then some [] else F_slices_Clone_Job_ne s1
noncomputable def enc67 (t : List (List AVal)) : CR := ⟨true, (.slc 0 (t).length), [], [⟨.arr, 122, 3, t⟩]⟩
noncomputable def S67 (us : List AVal) : Call := bif chkA [.f (.ro 3)] us then Call.of (F_slices_Clone_Job (roRows (cIa us 0))) enc67 else Call.none
noncomputable def C67 := AI.ext 67 S67 C64

theorem run67 (s1 : List (List AVal)) : fcall TT TU GL0 C64 ownF true noL Try.f67 [(.ro 3 s1)] = (F_slices_Clone_Job_ne s1).bind fun t => some (enc67 t) :=
  Eq.trans (b := (bif (List.isEmpty s1) then none else (bif (roomOk (0 + s1.length) 32) then (bif (verEq s1.length s1.length) then (some (CR.mk true (AVal.slc 0 s1.length) [] [(Blk.mk BKind.arr 122 3 s1)])) else none) else none))) (by kernel_rfl)
    (n_condH rfl (fun h0 => n_none) fun h0 => (n_condH rfl (fun h1 => (n_true (verEq_rfl _) rfl)) fun h1 => n_none))
theorem lib67 : Lib Try.prog GL0 C67 :=
  Lib.clone lib64 mixed TT_ok Try.func67 (by decide +kernel) (by kernel_rfl) true noL (loops_of 0 (by kernel_rfl) below0)  3 (fun us => rfl) run67 (fun a cap => by cases a <;> kernel_rfl) (fun t => rfl)

/-! ### 50: skirmish/entity.clone -/



/-- 'skirmish/entity.clone' -/
noncomputable def F_entity_clone (e_Id : Int) (e_Owner : Int) (e_Type : ByteArray) (e_At_X : Int) (e_At_Y : Int) (e_Hp : Int) (e_Cool : Int) (e_Left : Int) (e_Ore : Int) (e_Wood : Int) (e_Orders : List (List AVal)) (e_Jobs : List (List AVal)) : Option (List (List AVal) × List (List AVal) × Int × Int × ByteArray × Int × Int × Int × Int × Int × Int × Int) :=
  Option.bind (F_slices_Clone_Order e_Orders) fun t =>
  Option.bind (F_slices_Clone_Job e_Jobs) fun t1 =>
  some (t, t1, e_Id, e_Owner, e_Type, e_At_X, e_At_Y, e_Hp, e_Cool, e_Left, e_Ore, e_Wood)
noncomputable def enc50 (t : List (List AVal) × List (List AVal) × Int × Int × ByteArray × Int × Int × Int × Int × Int × Int × Int) : CR := ⟨true, (.agg [(.sc (.int .i64 t.2.2.1)), (.sc (.int .i64 t.2.2.2.1)), (.sc (.string t.2.2.2.2.1)), (.sc (.int .i64 t.2.2.2.2.2.1)), (.sc (.int .i64 t.2.2.2.2.2.2.1)), (.sc (.int .i64 t.2.2.2.2.2.2.2.1)), (.sc (.int .i64 t.2.2.2.2.2.2.2.2.1)), (.sc (.int .i64 t.2.2.2.2.2.2.2.2.2.1)), (.sc (.int .i64 t.2.2.2.2.2.2.2.2.2.2.1)), (.sc (.int .i64 t.2.2.2.2.2.2.2.2.2.2.2)), (.slc 0 (t.1).length), (.slc 1 (t.2.1).length)]), [], [⟨.arr, 79, 5, t.1⟩, ⟨.arr, 122, 3, t.2.1⟩]⟩
noncomputable def ks50 : List SK := [.agg [.int .i64, .int .i64, .str, .int .i64, .int .i64, .int .i64, .int .i64, .int .i64, .int .i64, .int .i64, .ro 5, .ro 3]]
noncomputable def S50 (us : List AVal) : Call := bif chkA ks50 us then Call.of (F_entity_clone (toI (cIa (aggL (cIa us 0)) 0)) (toI (cIa (aggL (cIa us 0)) 1)) (toS (cIa (aggL (cIa us 0)) 2)) (toI (cIa (aggL (cIa us 0)) 3)) (toI (cIa (aggL (cIa us 0)) 4)) (toI (cIa (aggL (cIa us 0)) 5)) (toI (cIa (aggL (cIa us 0)) 6)) (toI (cIa (aggL (cIa us 0)) 7)) (toI (cIa (aggL (cIa us 0)) 8)) (toI (cIa (aggL (cIa us 0)) 9)) (roRows (cIa (aggL (cIa us 0)) 10)) (roRows (cIa (aggL (cIa us 0)) 11))) enc50 else Call.none
noncomputable def C50 := AI.ext 50 S50 C67

theorem run50 (e_Id : Int) (e_Owner : Int) (e_Type : ByteArray) (e_At_X : Int) (e_At_Y : Int) (e_Hp : Int) (e_Cool : Int) (e_Left : Int) (e_Ore : Int) (e_Wood : Int) (e_Orders : List (List AVal)) (e_Jobs : List (List AVal)) : fcall TT TU GL0 C67 ownF true noL Try.f50 [(.agg [(.sc (.int .i64 e_Id)), (.sc (.int .i64 e_Owner)), (.sc (.string e_Type)), (.sc (.int .i64 e_At_X)), (.sc (.int .i64 e_At_Y)), (.sc (.int .i64 e_Hp)), (.sc (.int .i64 e_Cool)), (.sc (.int .i64 e_Left)), (.sc (.int .i64 e_Ore)), (.sc (.int .i64 e_Wood)), (.ro 5 e_Orders), (.ro 3 e_Jobs)])] = (F_entity_clone e_Id e_Owner e_Type e_At_X e_At_Y e_Hp e_Cool e_Left e_Ore e_Wood e_Orders e_Jobs).bind fun t => some (enc50 t) :=
  Eq.trans (b := (Option.bind (F_slices_Clone_Order e_Orders) fun t => (bif ((((true && (verEq t.length t.length)) && true) && true) && true) then (Option.bind (F_slices_Clone_Job e_Jobs) fun t1 => (bif ((((true && (verEq t1.length t1.length)) && true) && true) && true) then (bif (verEq t.length t.length) then (bif (verEq t1.length t1.length) then (some (CR.mk true (AVal.agg [(i64 e_Id), (i64 e_Owner), (AVal.sc (Value.string e_Type)), (i64 e_At_X), (i64 e_At_Y), (i64 e_Hp), (i64 e_Cool), (i64 e_Left), (i64 e_Ore), (i64 e_Wood), (AVal.slc 0 t.length), (AVal.slc 1 t1.length)]) [] [(Blk.mk BKind.arr 79 5 t), (Blk.mk BKind.arr 122 3 t1)])) else none) else none) else none)) else none))) (by kernel_rfl)
    (n_bind fun t => (n_true (n_andL (n_andL (n_andL (n_andL rfl (verEq_rfl _)) rfl) rfl) rfl) (n_bind fun t1 => (n_true (n_andL (n_andL (n_andL (n_andL rfl (verEq_rfl _)) rfl) rfl) rfl) (n_true (verEq_rfl _) (n_true (verEq_rfl _) rfl))))))
theorem lib50 : Lib Try.prog GL0 C50 :=
  Lib.fn lib67 mixed TT_ok Try.func50 (by decide +kernel) (by kernel_rfl) true noL (loops_of 0 (by kernel_rfl) below0) ks50 (F := fun us => F_entity_clone (toI (cIa (aggL (cIa us 0)) 0)) (toI (cIa (aggL (cIa us 0)) 1)) (toS (cIa (aggL (cIa us 0)) 2)) (toI (cIa (aggL (cIa us 0)) 3)) (toI (cIa (aggL (cIa us 0)) 4)) (toI (cIa (aggL (cIa us 0)) 5)) (toI (cIa (aggL (cIa us 0)) 6)) (toI (cIa (aggL (cIa us 0)) 7)) (toI (cIa (aggL (cIa us 0)) 8)) (toI (cIa (aggL (cIa us 0)) 9)) (roRows (cIa (aggL (cIa us 0)) 10)) (roRows (cIa (aggL (cIa us 0)) 11))) (fun us => rfl) (fun us => run50 (toI (cIa (aggL (cIa us 0)) 0)) (toI (cIa (aggL (cIa us 0)) 1)) (toS (cIa (aggL (cIa us 0)) 2)) (toI (cIa (aggL (cIa us 0)) 3)) (toI (cIa (aggL (cIa us 0)) 4)) (toI (cIa (aggL (cIa us 0)) 5)) (toI (cIa (aggL (cIa us 0)) 6)) (toI (cIa (aggL (cIa us 0)) 7)) (toI (cIa (aggL (cIa us 0)) 8)) (toI (cIa (aggL (cIa us 0)) 9)) (roRows (cIa (aggL (cIa us 0)) 10)) (roRows (cIa (aggL (cIa us 0)) 11))) (fun t => rfl)

/-! ### 32: skirmish/entity.Find -/



/-- 'skirmish/entity.Find' -/
noncomputable def F_entity_Find (l : List (List AVal)) (id : Int) : Option (List (List AVal) × List (List AVal) × Int × Int × ByteArray × Int × Int × Int × Int × Int × Int × Int × Bool) :=
  Option.bind (F_entity_find l id) fun t =>
  bif (decide (t < (0 : Int))) then
    some ([], [], (0 : Int), (0 : Int), (ByteArray.mk (Array.mk [])), (0 : Int), (0 : Int), (0 : Int), (0 : Int), (0 : Int), (0 : Int), (0 : Int), false)
  else
  bif (decide ((0 : Int) ≤ t)) then
    Option.bind (l[t.toNat]?) fun r =>
    bif (chk [(LT.int IntKind.i64), (LT.int IntKind.i64), LT.str, (LT.int IntKind.i64), (LT.int IntKind.i64), (LT.int IntKind.i64), (LT.int IntKind.i64), (LT.int IntKind.i64), (LT.int IntKind.i64), (LT.int IntKind.i64), (LT.sl 79 5), (LT.sl 122 3)] r) then
      Option.bind (F_entity_clone (cI r 0) (cI r 1) (cS r 2) (cI r 3) (cI r 4) (cI r 5) (cI r 6) (cI r 7) (cI r 8) (cI r 9) (roRows (AVal.ro 5 (cR r 10))) (roRows (AVal.ro 3 (cR r 11)))) fun t1 =>
      some (t1.1, t1.2.1, t1.2.2.1, t1.2.2.2.1, t1.2.2.2.2.1, t1.2.2.2.2.2.1, t1.2.2.2.2.2.2.1, t1.2.2.2.2.2.2.2.1, t1.2.2.2.2.2.2.2.2.1, t1.2.2.2.2.2.2.2.2.2.1, t1.2.2.2.2.2.2.2.2.2.2.1, t1.2.2.2.2.2.2.2.2.2.2.2, true)
    else
    none
  else
  none
noncomputable def enc32 (t : List (List AVal) × List (List AVal) × Int × Int × ByteArray × Int × Int × Int × Int × Int × Int × Int × Bool) : CR := ⟨true, (.tup [(.agg [(.sc (.int .i64 t.2.2.1)), (.sc (.int .i64 t.2.2.2.1)), (.sc (.string t.2.2.2.2.1)), (.sc (.int .i64 t.2.2.2.2.2.1)), (.sc (.int .i64 t.2.2.2.2.2.2.1)), (.sc (.int .i64 t.2.2.2.2.2.2.2.1)), (.sc (.int .i64 t.2.2.2.2.2.2.2.2.1)), (.sc (.int .i64 t.2.2.2.2.2.2.2.2.2.1)), (.sc (.int .i64 t.2.2.2.2.2.2.2.2.2.2.1)), (.sc (.int .i64 t.2.2.2.2.2.2.2.2.2.2.2.1)), (.slc 0 (t.1).length), (.slc 1 (t.2.1).length)]), (.sc (.bool t.2.2.2.2.2.2.2.2.2.2.2.2))]), [], [⟨.arr, 79, 5, t.1⟩, ⟨.arr, 122, 3, t.2.1⟩]⟩
noncomputable def ks32 : List SK := [.f (.ro 12), .f (.int .i64)]
noncomputable def S32 (us : List AVal) : Call := bif chkA ks32 us then Call.of (F_entity_Find (roRows (cIa us 0)) (toI (cIa us 1))) enc32 else Call.none
noncomputable def C32 := AI.ext 32 S32 C50

theorem run32 (l : List (List AVal)) (id : Int) : fcall TT TU GL0 C50 ownF true noL Try.f32 [(.ro 12 l), (.sc (.int .i64 id))] = (F_entity_Find l id).bind fun t => some (enc32 t) :=
  Eq.trans (b := (Option.bind (F_entity_find l id) fun t => (bif (decide (t < (0 : Int))) then (some (CR.mk true (AVal.tup [(AVal.agg [(i64 (0 : Int)), (i64 (0 : Int)), (AVal.sc (Value.string (ByteArray.mk (Array.mk [])))), (i64 (0 : Int)), (i64 (0 : Int)), (i64 (0 : Int)), (i64 (0 : Int)), (i64 (0 : Int)), (i64 (0 : Int)), (i64 (0 : Int)), (AVal.slc 0 0), (AVal.slc 1 0)]), (bo false)]) [] [(Blk.mk BKind.arr 79 5 []), (Blk.mk BKind.arr 122 3 [])])) else (bif (decide ((0 : Int) ≤ t)) then (Option.bind (l[t.toNat]?) fun r => (bif (chk [(LT.int IntKind.i64), (LT.int IntKind.i64), LT.str, (LT.int IntKind.i64), (LT.int IntKind.i64), (LT.int IntKind.i64), (LT.int IntKind.i64), (LT.int IntKind.i64), (LT.int IntKind.i64), (LT.int IntKind.i64), (LT.sl 79 5), (LT.sl 122 3)] r) then (Option.bind (F_entity_clone (cI r 0) (cI r 1) (cS r 2) (cI r 3) (cI r 4) (cI r 5) (cI r 6) (cI r 7) (cI r 8) (cI r 9) (roRows (AVal.ro 5 (cR r 10))) (roRows (AVal.ro 3 (cR r 11)))) fun t1 => (bif ((((true && (verEq t1.1.length t1.1.length)) && true) && true) && true) then (bif ((((true && (verEq t1.2.1.length t1.2.1.length)) && true) && true) && true) then (bif (verEq t1.1.length t1.1.length) then (bif (verEq t1.2.1.length t1.2.1.length) then (some (CR.mk true (AVal.tup [(AVal.agg [(i64 t1.2.2.1), (i64 t1.2.2.2.1), (AVal.sc (Value.string t1.2.2.2.2.1)), (i64 t1.2.2.2.2.2.1), (i64 t1.2.2.2.2.2.2.1), (i64 t1.2.2.2.2.2.2.2.1), (i64 t1.2.2.2.2.2.2.2.2.1), (i64 t1.2.2.2.2.2.2.2.2.2.1), (i64 t1.2.2.2.2.2.2.2.2.2.2.1), (i64 t1.2.2.2.2.2.2.2.2.2.2.2), (AVal.slc 0 t1.1.length), (AVal.slc 1 t1.2.1.length)]), (bo true)]) [] [(Blk.mk BKind.arr 79 5 t1.1), (Blk.mk BKind.arr 122 3 t1.2.1)])) else none) else none) else none) else none)) else none)) else none)))) (by kernel_rfl)
    (n_bind fun t => (n_condH rfl (fun h0 => rfl) fun h0 => (n_condH rfl (fun h1 => (n_bind fun r => (n_condH rfl (fun h2 => (n_bind fun t1 => (n_true (n_andL (n_andL (n_andL (n_andL rfl (verEq_rfl _)) rfl) rfl) rfl) (n_true (n_andL (n_andL (n_andL (n_andL rfl (verEq_rfl _)) rfl) rfl) rfl) (n_true (verEq_rfl _) (n_true (verEq_rfl _) rfl)))))) fun h2 => n_none))) fun h1 => n_none)))
theorem lib32 : Lib Try.prog GL0 C32 :=
  Lib.fn lib50 mixed TT_ok Try.func32 (by decide +kernel) (by kernel_rfl) true noL (loops_of 0 (by kernel_rfl) below0) ks32 (F := fun us => F_entity_Find (roRows (cIa us 0)) (toI (cIa us 1))) (fun us => rfl) (fun us => run32 (roRows (cIa us 0)) (toI (cIa us 1))) (fun t => rfl)

/-! ### 84: skirmish/vec.minus -/



/-- 'skirmish/vec.minus' -/
noncomputable def F_vec_minus (a_X : Int) (a_Y : Int) : Option (Int × Int) :=
  some ((wr ((0 : Int) - a_X)), (wr ((0 : Int) - a_Y)))
noncomputable def enc84 (t : Int × Int) : CR := ⟨true, (.agg [(.sc (.int .i64 t.1)), (.sc (.int .i64 t.2))]), [], []⟩
noncomputable def ks84 : List SK := [.agg [.int .i64, .int .i64]]
noncomputable def S84 (us : List AVal) : Call := bif chkA ks84 us then Call.of (F_vec_minus (toI (cIa (aggL (cIa us 0)) 0)) (toI (cIa (aggL (cIa us 0)) 1))) enc84 else Call.none
noncomputable def C84 := AI.ext 84 S84 C32

theorem run84 (a_X : Int) (a_Y : Int) : fcall TT TU GL0 C32 ownF true noL Try.f84 [(.agg [(.sc (.int .i64 a_X)), (.sc (.int .i64 a_Y))])] = (F_vec_minus a_X a_Y).bind fun t => some (enc84 t) :=
  Eq.trans (b := (some (CR.mk true (AVal.agg [(i64 (wr ((0 : Int) - a_X))), (i64 (wr ((0 : Int) - a_Y)))]) [] []))) (by kernel_rfl)
    rfl
theorem lib84 : Lib Try.prog GL0 C84 :=
  Lib.fn lib32 mixed TT_ok Try.func84 (by decide +kernel) (by kernel_rfl) true noL (loops_of 0 (by kernel_rfl) below0) ks84 (F := fun us => F_vec_minus (toI (cIa (aggL (cIa us 0)) 0)) (toI (cIa (aggL (cIa us 0)) 1))) (fun us => rfl) (fun us => run84 (toI (cIa (aggL (cIa us 0)) 0)) (toI (cIa (aggL (cIa us 0)) 1))) (fun t => rfl)

/-! ### 83: skirmish/vec.sum -/

noncomputable def W83_0 : Ex → List Bool
  | .ret => [false, false, true, false, false, false, false, false, false, false, false, false, false, false, false, false, false, false, false, false, false, false, false, false, false, false, false]
  | .exit n => bif Nat.beq n 0 then [false, false, true, true, false, false, false, false, false, false, false, false, false, false, false, false, false, false, false, false, false, false, false, false, false, false, false] else []
  | .normal => []
noncomputable def G_vec_sum_0 (x6 : List (List AVal)) (x7 : Int) : Nat → Int → Int → Int → Option (Int × Int)
  | 0, _, _, _ => none
  | m + 1, x8, b1_0, b1_1 =>
    bif (decide (x8 < x7)) then
      bif (decide ((0 : Int) ≤ x8)) then
        Option.bind (x6[x8.toNat]?) fun r =>
        bif (chk [(LT.int IntKind.i64), (LT.int IntKind.i64)] r) then
          G_vec_sum_0 x6 x7 m (wr (x8 + (1 : Int))) (wr (b1_0 + (cI r 0))) (wr (b1_1 + (cI r 1)))
        else
        none
      else
      none
    else
    some (b1_0, b1_1)
noncomputable def E83_0 (x6 : List (List AVal)) (x7 : Int) (x8 : Int) (b0_0 : Int) (b0_1 : Int) (b1_0 : Int) (b1_1 : Int) : St := ⟨[.dead, .dead, (.ref 16000 1 0 0), (.ref 19200 1 0 0), .dead, .dead, (.ro 2 x6), (.sc (.int .i64 x7)), (.sc (.int .i64 x8)), .dead, .dead, .dead, .dead, .dead, .dead, .dead, .dead, .dead, .dead, .dead, .dead, .dead, .dead, .dead, .dead, .dead, .dead], [(16000, ⟨.box, 57, 2, [[(.sc (.int .i64 b0_0)), (.sc (.int .i64 b0_1))]]⟩), (19200, ⟨.box, 57, 2, [[(.sc (.int .i64 b1_0)), (.sc (.int .i64 b1_1))]]⟩)]⟩
noncomputable def X83_0 (b0_0 : Int) (b0_1 : Int) (k : Ex → St → Option CR) (t : Int × Int) : Option CR := k (.exit 0) ⟨[.dead, .dead, (.ref 16000 1 0 0), (.ref 19200 1 0 0), .dead, .dead, .dead, .dead, .dead, .dead, .dead, .dead, .dead, .dead, .dead, .dead, .dead, .dead, .dead, .dead, .dead, .dead, .dead, .dead, .dead, .dead, .dead], [(16000, ⟨.box, 57, 2, [[(.sc (.int .i64 b0_0)), (.sc (.int .i64 b0_1))]]⟩), (19200, ⟨.box, 57, 2, [[(.sc (.int .i64 t.1)), (.sc (.int .i64 t.2))]]⟩)]⟩
noncomputable def ks83_0 : List SK := [.f .dead, .f .dead, .f (.ref 16000 1 0 0), .f (.ref 19200 1 0 0), .f .dead, .f .dead, .f (.ro 2), .f (.int .i64), .f (.int .i64), .f .dead, .f .dead, .f .dead, .f .dead, .f .dead, .f .dead, .f .dead, .f .dead, .f .dead, .f .dead, .f .dead, .f .dead, .f .dead, .f .dead, .f .dead, .f .dead, .f .dead, .f .dead]
noncomputable def hs83_0 : List HK := [⟨16000, .box, 57, 2, some [.int .i64, .int .i64]⟩, ⟨19200, .box, 57, 2, some [.int .i64, .int .i64]⟩]
noncomputable def Lm83_0 (s : St) (k : Ex → St → Option CR) : Option CR := bif chkS ks83_0 hs83_0 s then (G_vec_sum_0 (roRows (cIa s.tmps 6)) (toI (cIa s.tmps 7)) FU (toI (cIa s.tmps 8)) (toI (cIa (rows0 (blkAt s.heap 1).2) 0)) (toI (cIa (rows0 (blkAt s.heap 1).2) 1))).bind (X83_0 (toI (cIa (rows0 (blkAt s.heap 0).2) 0)) (toI (cIa (rows0 (blkAt s.heap 0).2) 1)) k) else none
noncomputable def L83_0 (s : St) (k : Ex → St → Option CR) : Option CR := Lm83_0 (maskS (maskOf ks83_0) s) k

noncomputable def L83 : LT' := fun i s k => bif Nat.beq i 0 then L83_0 s k else none

/-- 'skirmish/vec.sum' -/
noncomputable def F_vec_sum (terms : List (List AVal)) : Option (Int × Int) :=
  Option.bind (G_vec_sum_0 terms (Int.ofNat terms.length) FU (0 : Int) (0 : Int) (0 : Int)) fun t =>
  Option.bind (F_vec_nearest t.1 t.2) fun t1 =>
  some (t1.1, t1.2)
noncomputable def enc83 (t : Int × Int) : CR := ⟨true, (.agg [(.sc (.int .i64 t.1)), (.sc (.int .i64 t.2))]), [], []⟩
noncomputable def ks83 : List SK := [.f (.ro 2)]
noncomputable def S83 (us : List AVal) : Call := bif chkA ks83 us then Call.of (F_vec_sum (roRows (cIa us 0))) enc83 else Call.none
noncomputable def C83 := AI.ext 83 S83 C84

@[reducible] noncomputable def B83_0 := bodyOf TT TU GL0 C84 ownF L83 (lp Try.f83 0)
@[reducible] noncomputable def K83_0 (k : Ex → St → Option CR) : Ex → St → Option CR := fun e s => k e (maskS (W83_0 e) s)
theorem spec83_0 (k : Ex → St → Option CR) : ∀ (m : Nat) (x6 : List (List AVal)) (x7 : Int) (x8 : Int) (b0_0 : Int) (b0_1 : Int) (b1_0 : Int) (b1_1 : Int), loopN B83_0 m (E83_0 x6 x7 x8 b0_0 b0_1 b1_0 b1_1) (K83_0 k) = (G_vec_sum_0 x6 x7 m x8 b1_0 b1_1).bind (X83_0 b0_0 b0_1 k)
  | 0, _, _, _, _, _, _, _ => rfl
  | m + 1, x6, x7, x8, b0_0, b0_1, b1_0, b1_1 =>
    Eq.trans (b := (bif (decide (x8 < x7)) then (bif (decide ((0 : Int) ≤ x8)) then (Option.bind (x6[x8.toNat]?) fun r => (bif (chk [(LT.int IntKind.i64), (LT.int IntKind.i64)] r) then (loopN B83_0 m ⟨[.dead, .dead, (AVal.ref 16000 1 0 0), (AVal.ref 19200 1 0 0), .dead, .dead, (AVal.ro 2 x6), (i64 x7), (i64 (wr (x8 + (1 : Int)))), .dead, .dead, .dead, .dead, .dead, .dead, .dead, .dead, .dead, .dead, .dead, .dead, .dead, .dead, .dead, .dead, .dead, .dead], [(Prod.mk 16000 (Blk.mk BKind.box 57 2 [[(i64 b0_0), (i64 b0_1)]])), (Prod.mk 19200 (Blk.mk BKind.box 57 2 [[(i64 (wr (b1_0 + (cI r 0)))), (i64 (wr (b1_1 + (cI r 1))))]]))]⟩ (K83_0 k)) else none)) else none) else (k (.exit 0) ⟨[.dead, .dead, (AVal.ref 16000 1 0 0), (AVal.ref 19200 1 0 0), .dead, .dead, .dead, .dead, .dead, .dead, .dead, .dead, .dead, .dead, .dead, .dead, .dead, .dead, .dead, .dead, .dead, .dead, .dead, .dead, .dead, .dead, .dead], [(Prod.mk 16000 (Blk.mk BKind.box 57 2 [[(i64 b0_0), (i64 b0_1)]])), (Prod.mk 19200 (Blk.mk BKind.box 57 2 [[(i64 b1_0), (i64 b1_1)]]))]⟩))) (by kernel_rfl)
      (n_condH rfl (fun h0 => (n_condH rfl (fun h1 => (n_bind fun r => (n_condH rfl (fun h2 => (spec83_0 k m x6 x7 (wr (x8 + (1 : Int))) b0_0 b0_1 (wr (b1_0 + (cI r 0))) (wr (b1_1 + (cI r 1))))) fun h2 => n_none))) fun h1 => n_none)) fun h0 => rfl)
theorem okL83_0 : LoopOk TT TU GL0 C84 ownF L83 (lp Try.f83 0) :=
  loopOk_of ks83_0 hs83_0 W83_0 FU (fun s k => (G_vec_sum_0 (roRows (cIa s.tmps 6)) (toI (cIa s.tmps 7)) FU (toI (cIa s.tmps 8)) (toI (cIa (rows0 (blkAt s.heap 1).2) 0)) (toI (cIa (rows0 (blkAt s.heap 1).2) 1))).bind (X83_0 (toI (cIa (rows0 (blkAt s.heap 0).2) 0)) (toI (cIa (rows0 (blkAt s.heap 0).2) 1)) k)) (fun s k => by kernel_rfl) (fun s k => spec83_0 k FU (roRows (cIa s.tmps 6)) (toI (cIa s.tmps 7)) (toI (cIa s.tmps 8)) (toI (cIa (rows0 (blkAt s.heap 0).2) 0)) (toI (cIa (rows0 (blkAt s.heap 0).2) 1)) (toI (cIa (rows0 (blkAt s.heap 1).2) 0)) (toI (cIa (rows0 (blkAt s.heap 1).2) 1)))
theorem run83 (terms : List (List AVal)) : fcall TT TU GL0 C84 ownF true L83 Try.f83 [(.ro 2 terms)] = (F_vec_sum terms).bind fun t => some (enc83 t) :=
  Eq.trans (b := (Option.bind (G_vec_sum_0 terms (Int.ofNat terms.length) FU (0 : Int) (0 : Int) (0 : Int)) fun t => (Option.bind (F_vec_nearest t.1 t.2) fun t1 => (some (CR.mk true (AVal.agg [(i64 t1.1), (i64 t1.2)]) [] []))))) (by kernel_rfl)
    (n_bind fun t => (n_bind fun t1 => rfl))
theorem lib83 : Lib Try.prog GL0 C83 :=
  Lib.fn lib84 mixed TT_ok Try.func83 (by decide +kernel) (by kernel_rfl) true L83 (loops_of 1 (by kernel_rfl) (belowS below0 okL83_0)) ks83 (F := fun us => F_vec_sum (roRows (cIa us 0))) (fun us => rfl) (fun us => run83 (roRows (cIa us 0))) (fun t => rfl)

/-! ### 70: skirmish/vec.Sub -/



/-- 'skirmish/vec.Sub' -/
noncomputable def F_vec_Sub (a_X : Int) (a_Y : Int) (b_X : Int) (b_Y : Int) : Option (Int × Int) :=
  Option.bind (F_vec_nearest a_X a_Y) fun t =>
  Option.bind (F_vec_nearest b_X b_Y) fun t1 =>
  Option.bind (F_vec_minus t1.1 t1.2) fun t2 =>
  Option.bind (F_vec_sum [[(i64 t.1), (i64 t.2)], [(i64 t2.1), (i64 t2.2)]]) fun t3 =>
  some (t3.1, t3.2)
noncomputable def enc70 (t : Int × Int) : CR := ⟨true, (.agg [(.sc (.int .i64 t.1)), (.sc (.int .i64 t.2))]), [], []⟩
noncomputable def ks70 : List SK := [.agg [.int .i64, .int .i64], .agg [.int .i64, .int .i64]]
noncomputable def S70 (us : List AVal) : Call := bif chkA ks70 us then Call.of (F_vec_Sub (toI (cIa (aggL (cIa us 0)) 0)) (toI (cIa (aggL (cIa us 0)) 1)) (toI (cIa (aggL (cIa us 1)) 0)) (toI (cIa (aggL (cIa us 1)) 1))) enc70 else Call.none
noncomputable def C70 := AI.ext 70 S70 C83

theorem run70 (a_X : Int) (a_Y : Int) (b_X : Int) (b_Y : Int) : fcall TT TU GL0 C83 ownF true noL Try.f70 [(.agg [(.sc (.int .i64 a_X)), (.sc (.int .i64 a_Y))]), (.agg [(.sc (.int .i64 b_X)), (.sc (.int .i64 b_Y))])] = (F_vec_Sub a_X a_Y b_X b_Y).bind fun t => some (enc70 t) :=
  Eq.trans (b := (Option.bind (F_vec_nearest a_X a_Y) fun t => (Option.bind (F_vec_nearest b_X b_Y) fun t1 => (Option.bind (F_vec_minus t1.1 t1.2) fun t2 => (Option.bind (F_vec_sum [[(i64 t.1), (i64 t.2)], [(i64 t2.1), (i64 t2.2)]]) fun t3 => (some (CR.mk true (AVal.agg [(i64 t3.1), (i64 t3.2)]) [] []))))))) (by kernel_rfl)
    (n_bind fun t => (n_bind fun t1 => (n_bind fun t2 => (n_bind fun t3 => rfl))))
theorem lib70 : Lib Try.prog GL0 C70 :=
  Lib.fn lib83 mixed TT_ok Try.func70 (by decide +kernel) (by kernel_rfl) true noL (loops_of 0 (by kernel_rfl) below0) ks70 (F := fun us => F_vec_Sub (toI (cIa (aggL (cIa us 0)) 0)) (toI (cIa (aggL (cIa us 0)) 1)) (toI (cIa (aggL (cIa us 1)) 0)) (toI (cIa (aggL (cIa us 1)) 1))) (fun us => rfl) (fun us => run70 (toI (cIa (aggL (cIa us 0)) 0)) (toI (cIa (aggL (cIa us 0)) 1)) (toI (cIa (aggL (cIa us 1)) 0)) (toI (cIa (aggL (cIa us 1)) 1))) (fun t => rfl)

/-! ### 90: skirmish/entity.corner -/



/-- 'skirmish/entity.corner' -/
noncomputable def F_entity_corner (u_Name : ByteArray) (u_Building : Bool) (u_Depot : Bool) (u_Class : Int) (u_W : Int) (u_H : Int) (u_Radius : Int) (u_Speed : Int) (u_Sight : Int) (u_Hp : Int) (u_Armor : Int) (u_Load : Int) (u_Weapon : ByteArray) (u_Ore : Int) (u_Wood : Int) (u_Time : Int) (u_Needs : List (List AVal)) (u_Trains : List (List AVal)) (u_Researches : List (List AVal)) (at__X : Int) (at__Y : Int) : Option (Int × Int) :=
  Option.bind (F_vec_Sub at__X at__Y (wr (Int.tdiv (wr (u_W * (256 : Int))) (2 : Int))) (wr (Int.tdiv (wr (u_H * (256 : Int))) (2 : Int)))) fun t =>
  some (t.1, t.2)
noncomputable def enc90 (t : Int × Int) : CR := ⟨true, (.agg [(.sc (.int .i64 t.1)), (.sc (.int .i64 t.2))]), [], []⟩
noncomputable def ks90 : List SK := [.agg [.str, .bool, .bool, .int .i64, .int .i64, .int .i64, .int .i64, .int .i64, .int .i64, .int .i64, .int .i64, .int .i64, .str, .int .i64, .int .i64, .int .i64, .ro 1, .ro 1, .ro 1], .agg [.int .i64, .int .i64]]
noncomputable def S90 (us : List AVal) : Call := bif chkA ks90 us then Call.of (F_entity_corner (toS (cIa (aggL (cIa us 0)) 0)) (toB (cIa (aggL (cIa us 0)) 1)) (toB (cIa (aggL (cIa us 0)) 2)) (toI (cIa (aggL (cIa us 0)) 3)) (toI (cIa (aggL (cIa us 0)) 4)) (toI (cIa (aggL (cIa us 0)) 5)) (toI (cIa (aggL (cIa us 0)) 6)) (toI (cIa (aggL (cIa us 0)) 7)) (toI (cIa (aggL (cIa us 0)) 8)) (toI (cIa (aggL (cIa us 0)) 9)) (toI (cIa (aggL (cIa us 0)) 10)) (toI (cIa (aggL (cIa us 0)) 11)) (toS (cIa (aggL (cIa us 0)) 12)) (toI (cIa (aggL (cIa us 0)) 13)) (toI (cIa (aggL (cIa us 0)) 14)) (toI (cIa (aggL (cIa us 0)) 15)) (roRows (cIa (aggL (cIa us 0)) 16)) (roRows (cIa (aggL (cIa us 0)) 17)) (roRows (cIa (aggL (cIa us 0)) 18)) (toI (cIa (aggL (cIa us 1)) 0)) (toI (cIa (aggL (cIa us 1)) 1))) enc90 else Call.none
noncomputable def C90 := AI.ext 90 S90 C70

theorem run90 (u_Name : ByteArray) (u_Building : Bool) (u_Depot : Bool) (u_Class : Int) (u_W : Int) (u_H : Int) (u_Radius : Int) (u_Speed : Int) (u_Sight : Int) (u_Hp : Int) (u_Armor : Int) (u_Load : Int) (u_Weapon : ByteArray) (u_Ore : Int) (u_Wood : Int) (u_Time : Int) (u_Needs : List (List AVal)) (u_Trains : List (List AVal)) (u_Researches : List (List AVal)) (at__X : Int) (at__Y : Int) : fcall TT TU GL0 C70 ownF true noL Try.f90 [(.agg [(.sc (.string u_Name)), (.sc (.bool u_Building)), (.sc (.bool u_Depot)), (.sc (.int .i64 u_Class)), (.sc (.int .i64 u_W)), (.sc (.int .i64 u_H)), (.sc (.int .i64 u_Radius)), (.sc (.int .i64 u_Speed)), (.sc (.int .i64 u_Sight)), (.sc (.int .i64 u_Hp)), (.sc (.int .i64 u_Armor)), (.sc (.int .i64 u_Load)), (.sc (.string u_Weapon)), (.sc (.int .i64 u_Ore)), (.sc (.int .i64 u_Wood)), (.sc (.int .i64 u_Time)), (.ro 1 u_Needs), (.ro 1 u_Trains), (.ro 1 u_Researches)]), (.agg [(.sc (.int .i64 at__X)), (.sc (.int .i64 at__Y))])] = (F_entity_corner u_Name u_Building u_Depot u_Class u_W u_H u_Radius u_Speed u_Sight u_Hp u_Armor u_Load u_Weapon u_Ore u_Wood u_Time u_Needs u_Trains u_Researches at__X at__Y).bind fun t => some (enc90 t) :=
  Eq.trans (b := (Option.bind (F_vec_Sub at__X at__Y (wr (Int.tdiv (wr (u_W * (256 : Int))) (2 : Int))) (wr (Int.tdiv (wr (u_H * (256 : Int))) (2 : Int)))) fun t => (some (CR.mk true (AVal.agg [(i64 t.1), (i64 t.2)]) [] [])))) (by kernel_rfl)
    (n_bind fun t => rfl)
theorem lib90 : Lib Try.prog GL0 C90 :=
  Lib.fn lib70 mixed TT_ok Try.func90 (by decide +kernel) (by kernel_rfl) true noL (loops_of 0 (by kernel_rfl) below0) ks90 (F := fun us => F_entity_corner (toS (cIa (aggL (cIa us 0)) 0)) (toB (cIa (aggL (cIa us 0)) 1)) (toB (cIa (aggL (cIa us 0)) 2)) (toI (cIa (aggL (cIa us 0)) 3)) (toI (cIa (aggL (cIa us 0)) 4)) (toI (cIa (aggL (cIa us 0)) 5)) (toI (cIa (aggL (cIa us 0)) 6)) (toI (cIa (aggL (cIa us 0)) 7)) (toI (cIa (aggL (cIa us 0)) 8)) (toI (cIa (aggL (cIa us 0)) 9)) (toI (cIa (aggL (cIa us 0)) 10)) (toI (cIa (aggL (cIa us 0)) 11)) (toS (cIa (aggL (cIa us 0)) 12)) (toI (cIa (aggL (cIa us 0)) 13)) (toI (cIa (aggL (cIa us 0)) 14)) (toI (cIa (aggL (cIa us 0)) 15)) (roRows (cIa (aggL (cIa us 0)) 16)) (roRows (cIa (aggL (cIa us 0)) 17)) (roRows (cIa (aggL (cIa us 0)) 18)) (toI (cIa (aggL (cIa us 1)) 0)) (toI (cIa (aggL (cIa us 1)) 1))) (fun us => rfl) (fun us => run90 (toS (cIa (aggL (cIa us 0)) 0)) (toB (cIa (aggL (cIa us 0)) 1)) (toB (cIa (aggL (cIa us 0)) 2)) (toI (cIa (aggL (cIa us 0)) 3)) (toI (cIa (aggL (cIa us 0)) 4)) (toI (cIa (aggL (cIa us 0)) 5)) (toI (cIa (aggL (cIa us 0)) 6)) (toI (cIa (aggL (cIa us 0)) 7)) (toI (cIa (aggL (cIa us 0)) 8)) (toI (cIa (aggL (cIa us 0)) 9)) (toI (cIa (aggL (cIa us 0)) 10)) (toI (cIa (aggL (cIa us 0)) 11)) (toS (cIa (aggL (cIa us 0)) 12)) (toI (cIa (aggL (cIa us 0)) 13)) (toI (cIa (aggL (cIa us 0)) 14)) (toI (cIa (aggL (cIa us 0)) 15)) (roRows (cIa (aggL (cIa us 0)) 16)) (roRows (cIa (aggL (cIa us 0)) 17)) (roRows (cIa (aggL (cIa us 0)) 18)) (toI (cIa (aggL (cIa us 1)) 0)) (toI (cIa (aggL (cIa us 1)) 1))) (fun t => rfl)

/-! ### 89: skirmish/entity.cell -/



/-- 'skirmish/entity.cell' -/
noncomputable def F_entity_cell (v_X : Int) (v_Y : Int) : Option (Int × Int) :=
  Option.bind (F_num_Cell v_X) fun t =>
  Option.bind (F_num_Cell v_Y) fun t1 =>
  some (t, t1)
noncomputable def enc89 (t : Int × Int) : CR := ⟨true, (.agg [(.sc (.int .i64 t.1)), (.sc (.int .i64 t.2))]), [], []⟩
noncomputable def ks89 : List SK := [.agg [.int .i64, .int .i64]]
noncomputable def S89 (us : List AVal) : Call := bif chkA ks89 us then Call.of (F_entity_cell (toI (cIa (aggL (cIa us 0)) 0)) (toI (cIa (aggL (cIa us 0)) 1))) enc89 else Call.none
noncomputable def C89 := AI.ext 89 S89 C90

theorem run89 (v_X : Int) (v_Y : Int) : fcall TT TU GL0 C90 ownF true noL Try.f89 [(.agg [(.sc (.int .i64 v_X)), (.sc (.int .i64 v_Y))])] = (F_entity_cell v_X v_Y).bind fun t => some (enc89 t) :=
  Eq.trans (b := (Option.bind (F_num_Cell v_X) fun t => (Option.bind (F_num_Cell v_Y) fun t1 => (some (CR.mk true (AVal.agg [(i64 t), (i64 t1)]) [] []))))) (by kernel_rfl)
    (n_bind fun t => (n_bind fun t1 => rfl))
theorem lib89 : Lib Try.prog GL0 C89 :=
  Lib.fn lib90 mixed TT_ok Try.func89 (by decide +kernel) (by kernel_rfl) true noL (loops_of 0 (by kernel_rfl) below0) ks89 (F := fun us => F_entity_cell (toI (cIa (aggL (cIa us 0)) 0)) (toI (cIa (aggL (cIa us 0)) 1))) (fun us => rfl) (fun us => run89 (toI (cIa (aggL (cIa us 0)) 0)) (toI (cIa (aggL (cIa us 0)) 1))) (fun t => rfl)

/-! ### 85: skirmish/entity.Rect -/



/-- 'skirmish/entity.Rect' -/
noncomputable def F_entity_Rect (r_Units : List (List AVal)) (r_Weapons : List (List AVal)) (r_Techs : List (List AVal)) (e_Id : Int) (e_Owner : Int) (e_Type : ByteArray) (e_At_X : Int) (e_At_Y : Int) (e_Hp : Int) (e_Cool : Int) (e_Left : Int) (e_Ore : Int) (e_Wood : Int) (e_Orders : List (List AVal)) (e_Jobs : List (List AVal)) : Option (Int × Int × Int × Int × Bool) :=
  Option.bind (F_rules_Unit r_Units r_Weapons r_Techs e_Type) fun t =>
  bif (!t.2.2.2.2.2.2.2.2.2.2.2.2.2.2.2.2.2.2.2) then
    some ((0 : Int), (0 : Int), (0 : Int), (0 : Int), false)
  else
  bif (!t.2.2.2.2.1) then
    some ((0 : Int), (0 : Int), (0 : Int), (0 : Int), false)
  else
  bif (decide (t.2.2.2.2.2.2.2.1 < (1 : Int))) then
    some ((0 : Int), (0 : Int), (0 : Int), (0 : Int), false)
  else
  bif (decide (t.2.2.2.2.2.2.2.1 > (4 : Int))) then
    some ((0 : Int), (0 : Int), (0 : Int), (0 : Int), false)
  else
  bif (decide (t.2.2.2.2.2.2.2.2.1 < (1 : Int))) then
    some ((0 : Int), (0 : Int), (0 : Int), (0 : Int), false)
  else
  bif (decide (t.2.2.2.2.2.2.2.2.1 > (4 : Int))) then
    some ((0 : Int), (0 : Int), (0 : Int), (0 : Int), false)
  else
  Option.bind (F_entity_corner t.2.2.2.1 t.2.2.2.2.1 t.2.2.2.2.2.1 t.2.2.2.2.2.2.1 t.2.2.2.2.2.2.2.1 t.2.2.2.2.2.2.2.2.1 t.2.2.2.2.2.2.2.2.2.1 t.2.2.2.2.2.2.2.2.2.2.1 t.2.2.2.2.2.2.2.2.2.2.2.1 t.2.2.2.2.2.2.2.2.2.2.2.2.1 t.2.2.2.2.2.2.2.2.2.2.2.2.2.1 t.2.2.2.2.2.2.2.2.2.2.2.2.2.2.1 t.2.2.2.2.2.2.2.2.2.2.2.2.2.2.2.1 t.2.2.2.2.2.2.2.2.2.2.2.2.2.2.2.2.1 t.2.2.2.2.2.2.2.2.2.2.2.2.2.2.2.2.2.1 t.2.2.2.2.2.2.2.2.2.2.2.2.2.2.2.2.2.2.1 t.1 t.2.1 t.2.2.1 e_At_X e_At_Y) fun t1 =>
  Option.bind (F_entity_cell t1.1 t1.2) fun t2 =>
  some (t2.1, t2.2, t.2.2.2.2.2.2.2.1, t.2.2.2.2.2.2.2.2.1, true)
noncomputable def enc85 (t : Int × Int × Int × Int × Bool) : CR := ⟨true, (.tup [(.agg [(.sc (.int .i64 t.1)), (.sc (.int .i64 t.2.1)), (.sc (.int .i64 t.2.2.1)), (.sc (.int .i64 t.2.2.2.1))]), (.sc (.bool t.2.2.2.2))]), [], []⟩
noncomputable def ks85 : List SK := [.agg [.ro 19, .ro 6, .ro 8], .agg [.int .i64, .int .i64, .str, .int .i64, .int .i64, .int .i64, .int .i64, .int .i64, .int .i64, .int .i64, .ro 5, .ro 3]]
noncomputable def S85 (us : List AVal) : Call := bif chkA ks85 us then Call.of (F_entity_Rect (roRows (cIa (aggL (cIa us 0)) 0)) (roRows (cIa (aggL (cIa us 0)) 1)) (roRows (cIa (aggL (cIa us 0)) 2)) (toI (cIa (aggL (cIa us 1)) 0)) (toI (cIa (aggL (cIa us 1)) 1)) (toS (cIa (aggL (cIa us 1)) 2)) (toI (cIa (aggL (cIa us 1)) 3)) (toI (cIa (aggL (cIa us 1)) 4)) (toI (cIa (aggL (cIa us 1)) 5)) (toI (cIa (aggL (cIa us 1)) 6)) (toI (cIa (aggL (cIa us 1)) 7)) (toI (cIa (aggL (cIa us 1)) 8)) (toI (cIa (aggL (cIa us 1)) 9)) (roRows (cIa (aggL (cIa us 1)) 10)) (roRows (cIa (aggL (cIa us 1)) 11))) enc85 else Call.none
noncomputable def C85 := AI.ext 85 S85 C89

theorem run85 (r_Units : List (List AVal)) (r_Weapons : List (List AVal)) (r_Techs : List (List AVal)) (e_Id : Int) (e_Owner : Int) (e_Type : ByteArray) (e_At_X : Int) (e_At_Y : Int) (e_Hp : Int) (e_Cool : Int) (e_Left : Int) (e_Ore : Int) (e_Wood : Int) (e_Orders : List (List AVal)) (e_Jobs : List (List AVal)) : fcall TT TU GL0 C89 ownF true noL Try.f85 [(.agg [(.ro 19 r_Units), (.ro 6 r_Weapons), (.ro 8 r_Techs)]), (.agg [(.sc (.int .i64 e_Id)), (.sc (.int .i64 e_Owner)), (.sc (.string e_Type)), (.sc (.int .i64 e_At_X)), (.sc (.int .i64 e_At_Y)), (.sc (.int .i64 e_Hp)), (.sc (.int .i64 e_Cool)), (.sc (.int .i64 e_Left)), (.sc (.int .i64 e_Ore)), (.sc (.int .i64 e_Wood)), (.ro 5 e_Orders), (.ro 3 e_Jobs)])] = (F_entity_Rect r_Units r_Weapons r_Techs e_Id e_Owner e_Type e_At_X e_At_Y e_Hp e_Cool e_Left e_Ore e_Wood e_Orders e_Jobs).bind fun t => some (enc85 t) :=
  Eq.trans (b := (Option.bind (F_rules_Unit r_Units r_Weapons r_Techs e_Type) fun t => (bif ((((true && (verEq t.1.length t.1.length)) && true) && true) && true) then (bif ((((true && (verEq t.2.1.length t.2.1.length)) && true) && true) && true) then (bif ((((true && (verEq t.2.2.1.length t.2.2.1.length)) && true) && true) && true) then (bif (!t.2.2.2.2.2.2.2.2.2.2.2.2.2.2.2.2.2.2.2) then (some (CR.mk true (AVal.tup [(AVal.agg [(i64 (0 : Int)), (i64 (0 : Int)), (i64 (0 : Int)), (i64 (0 : Int))]), (bo false)]) [] [])) else (bif (!t.2.2.2.2.1) then (some (CR.mk true (AVal.tup [(AVal.agg [(i64 (0 : Int)), (i64 (0 : Int)), (i64 (0 : Int)), (i64 (0 : Int))]), (bo false)]) [] [])) else (bif (decide (t.2.2.2.2.2.2.2.1 < (1 : Int))) then (some (CR.mk true (AVal.tup [(AVal.agg [(i64 (0 : Int)), (i64 (0 : Int)), (i64 (0 : Int)), (i64 (0 : Int))]), (bo false)]) [] [])) else (bif (decide (t.2.2.2.2.2.2.2.1 > (4 : Int))) then (some (CR.mk true (AVal.tup [(AVal.agg [(i64 (0 : Int)), (i64 (0 : Int)), (i64 (0 : Int)), (i64 (0 : Int))]), (bo false)]) [] [])) else (bif (decide (t.2.2.2.2.2.2.2.2.1 < (1 : Int))) then (some (CR.mk true (AVal.tup [(AVal.agg [(i64 (0 : Int)), (i64 (0 : Int)), (i64 (0 : Int)), (i64 (0 : Int))]), (bo false)]) [] [])) else (bif (decide (t.2.2.2.2.2.2.2.2.1 > (4 : Int))) then (some (CR.mk true (AVal.tup [(AVal.agg [(i64 (0 : Int)), (i64 (0 : Int)), (i64 (0 : Int)), (i64 (0 : Int))]), (bo false)]) [] [])) else (bif (verEq t.1.length t.1.length) then (bif (verEq t.2.1.length t.2.1.length) then (bif (verEq t.2.2.1.length t.2.2.1.length) then (Option.bind (F_entity_corner t.2.2.2.1 t.2.2.2.2.1 t.2.2.2.2.2.1 t.2.2.2.2.2.2.1 t.2.2.2.2.2.2.2.1 t.2.2.2.2.2.2.2.2.1 t.2.2.2.2.2.2.2.2.2.1 t.2.2.2.2.2.2.2.2.2.2.1 t.2.2.2.2.2.2.2.2.2.2.2.1 t.2.2.2.2.2.2.2.2.2.2.2.2.1 t.2.2.2.2.2.2.2.2.2.2.2.2.2.1 t.2.2.2.2.2.2.2.2.2.2.2.2.2.2.1 t.2.2.2.2.2.2.2.2.2.2.2.2.2.2.2.1 t.2.2.2.2.2.2.2.2.2.2.2.2.2.2.2.2.1 t.2.2.2.2.2.2.2.2.2.2.2.2.2.2.2.2.2.1 t.2.2.2.2.2.2.2.2.2.2.2.2.2.2.2.2.2.2.1 t.1 t.2.1 t.2.2.1 e_At_X e_At_Y) fun t1 => (Option.bind (F_entity_cell t1.1 t1.2) fun t2 => (some (CR.mk true (AVal.tup [(AVal.agg [(i64 t2.1), (i64 t2.2), (i64 t.2.2.2.2.2.2.2.1), (i64 t.2.2.2.2.2.2.2.2.1)]), (bo true)]) [] [])))) else none) else none) else none))))))) else none) else none) else none))) (by kernel_rfl)
    (n_bind fun t => (n_true (n_andL (n_andL (n_andL (n_andL rfl (verEq_rfl _)) rfl) rfl) rfl) (n_true (n_andL (n_andL (n_andL (n_andL rfl (verEq_rfl _)) rfl) rfl) rfl) (n_true (n_andL (n_andL (n_andL (n_andL rfl (verEq_rfl _)) rfl) rfl) rfl) (n_condH rfl (fun h0 => rfl) fun h0 => (n_condH rfl (fun h1 => rfl) fun h1 => (n_condH rfl (fun h2 => rfl) fun h2 => (n_condH rfl (fun h3 => rfl) fun h3 => (n_condH rfl (fun h4 => rfl) fun h4 => (n_condH rfl (fun h5 => rfl) fun h5 => (n_true (verEq_rfl _) (n_true (verEq_rfl _) (n_true (verEq_rfl _) (n_bind fun t1 => (n_bind fun t2 => rfl)))))))))))))))
theorem lib85 : Lib Try.prog GL0 C85 :=
  Lib.fn lib89 mixed TT_ok Try.func85 (by decide +kernel) (by kernel_rfl) true noL (loops_of 0 (by kernel_rfl) below0) ks85 (F := fun us => F_entity_Rect (roRows (cIa (aggL (cIa us 0)) 0)) (roRows (cIa (aggL (cIa us 0)) 1)) (roRows (cIa (aggL (cIa us 0)) 2)) (toI (cIa (aggL (cIa us 1)) 0)) (toI (cIa (aggL (cIa us 1)) 1)) (toS (cIa (aggL (cIa us 1)) 2)) (toI (cIa (aggL (cIa us 1)) 3)) (toI (cIa (aggL (cIa us 1)) 4)) (toI (cIa (aggL (cIa us 1)) 5)) (toI (cIa (aggL (cIa us 1)) 6)) (toI (cIa (aggL (cIa us 1)) 7)) (toI (cIa (aggL (cIa us 1)) 8)) (toI (cIa (aggL (cIa us 1)) 9)) (roRows (cIa (aggL (cIa us 1)) 10)) (roRows (cIa (aggL (cIa us 1)) 11))) (fun us => rfl) (fun us => run85 (roRows (cIa (aggL (cIa us 0)) 0)) (roRows (cIa (aggL (cIa us 0)) 1)) (roRows (cIa (aggL (cIa us 0)) 2)) (toI (cIa (aggL (cIa us 1)) 0)) (toI (cIa (aggL (cIa us 1)) 1)) (toS (cIa (aggL (cIa us 1)) 2)) (toI (cIa (aggL (cIa us 1)) 3)) (toI (cIa (aggL (cIa us 1)) 4)) (toI (cIa (aggL (cIa us 1)) 5)) (toI (cIa (aggL (cIa us 1)) 6)) (toI (cIa (aggL (cIa us 1)) 7)) (toI (cIa (aggL (cIa us 1)) 8)) (toI (cIa (aggL (cIa us 1)) 9)) (roRows (cIa (aggL (cIa us 1)) 10)) (roRows (cIa (aggL (cIa us 1)) 11))) (fun t => rfl)

/-! ### 71: skirmish/target.nearest -/



/-- 'skirmish/target.nearest' -/
noncomputable def F_target_nearest (g_Turn : Int) (g_NextId : Int) (g_Winner : Int) (g_Paused : Bool) (g_Rng : Int) (g_Rules_Units : List (List AVal)) (g_Rules_Weapons : List (List AVal)) (g_Rules_Techs : List (List AVal)) (g_Map_W : Int) (g_Map_H : Int) (g_Map_Cells : List (List AVal)) (g_Players : List (List AVal)) (g_Units : List (List AVal)) (g_Shots : List (List AVal)) (g_Memories : List (List AVal)) (g_Scripts : List (List AVal)) (e_Id : Int) (e_Owner : Int) (e_Type : ByteArray) (e_At_X : Int) (e_At_Y : Int) (e_Hp : Int) (e_Cool : Int) (e_Left : Int) (e_Ore : Int) (e_Wood : Int) (e_Orders : List (List AVal)) (e_Jobs : List (List AVal)) (at__X : Int) (at__Y : Int) : Option (Int × Int) :=
  Option.bind (F_entity_Rect g_Rules_Units g_Rules_Weapons g_Rules_Techs e_Id e_Owner e_Type e_At_X e_At_Y e_Hp e_Cool e_Left e_Ore e_Wood e_Orders e_Jobs) fun t =>
  bif (!t.2.2.2.2) then
    some (e_At_X, e_At_Y)
  else
  Option.bind (F_num_Clamp at__X (wr (t.1 * (256 : Int))) (wr ((wr (t.1 + t.2.2.1)) * (256 : Int)))) fun t1 =>
  Option.bind (F_num_Clamp at__Y (wr (t.2.1 * (256 : Int))) (wr ((wr (t.2.1 + t.2.2.2.1)) * (256 : Int)))) fun t2 =>
  some (t1, t2)
noncomputable def enc71 (t : Int × Int) : CR := ⟨true, (.agg [(.sc (.int .i64 t.1)), (.sc (.int .i64 t.2))]), [], []⟩
noncomputable def ks71 : List SK := [.agg [.int .i64, .int .i64, .int .i64, .bool, .int .u64, .ro 19, .ro 6, .ro 8, .int .i64, .int .i64, .ro 3, .ro 6, .ro 12, .ro 9, .ro 3, .ro 4], .agg [.int .i64, .int .i64, .str, .int .i64, .int .i64, .int .i64, .int .i64, .int .i64, .int .i64, .int .i64, .ro 5, .ro 3], .agg [.int .i64, .int .i64]]
noncomputable def S71 (us : List AVal) : Call := bif chkA ks71 us then Call.of (F_target_nearest (toI (cIa (aggL (cIa us 0)) 0)) (toI (cIa (aggL (cIa us 0)) 1)) (toI (cIa (aggL (cIa us 0)) 2)) (toB (cIa (aggL (cIa us 0)) 3)) (toI (cIa (aggL (cIa us 0)) 4)) (roRows (cIa (aggL (cIa us 0)) 5)) (roRows (cIa (aggL (cIa us 0)) 6)) (roRows (cIa (aggL (cIa us 0)) 7)) (toI (cIa (aggL (cIa us 0)) 8)) (toI (cIa (aggL (cIa us 0)) 9)) (roRows (cIa (aggL (cIa us 0)) 10)) (roRows (cIa (aggL (cIa us 0)) 11)) (roRows (cIa (aggL (cIa us 0)) 12)) (roRows (cIa (aggL (cIa us 0)) 13)) (roRows (cIa (aggL (cIa us 0)) 14)) (roRows (cIa (aggL (cIa us 0)) 15)) (toI (cIa (aggL (cIa us 1)) 0)) (toI (cIa (aggL (cIa us 1)) 1)) (toS (cIa (aggL (cIa us 1)) 2)) (toI (cIa (aggL (cIa us 1)) 3)) (toI (cIa (aggL (cIa us 1)) 4)) (toI (cIa (aggL (cIa us 1)) 5)) (toI (cIa (aggL (cIa us 1)) 6)) (toI (cIa (aggL (cIa us 1)) 7)) (toI (cIa (aggL (cIa us 1)) 8)) (toI (cIa (aggL (cIa us 1)) 9)) (roRows (cIa (aggL (cIa us 1)) 10)) (roRows (cIa (aggL (cIa us 1)) 11)) (toI (cIa (aggL (cIa us 2)) 0)) (toI (cIa (aggL (cIa us 2)) 1))) enc71 else Call.none
noncomputable def C71 := AI.ext 71 S71 C85

theorem run71 (g_Turn : Int) (g_NextId : Int) (g_Winner : Int) (g_Paused : Bool) (g_Rng : Int) (g_Rules_Units : List (List AVal)) (g_Rules_Weapons : List (List AVal)) (g_Rules_Techs : List (List AVal)) (g_Map_W : Int) (g_Map_H : Int) (g_Map_Cells : List (List AVal)) (g_Players : List (List AVal)) (g_Units : List (List AVal)) (g_Shots : List (List AVal)) (g_Memories : List (List AVal)) (g_Scripts : List (List AVal)) (e_Id : Int) (e_Owner : Int) (e_Type : ByteArray) (e_At_X : Int) (e_At_Y : Int) (e_Hp : Int) (e_Cool : Int) (e_Left : Int) (e_Ore : Int) (e_Wood : Int) (e_Orders : List (List AVal)) (e_Jobs : List (List AVal)) (at__X : Int) (at__Y : Int) : fcall TT TU GL0 C85 ownF true noL Try.f71 [(.agg [(.sc (.int .i64 g_Turn)), (.sc (.int .i64 g_NextId)), (.sc (.int .i64 g_Winner)), (.sc (.bool g_Paused)), (.sc (.int .u64 g_Rng)), (.ro 19 g_Rules_Units), (.ro 6 g_Rules_Weapons), (.ro 8 g_Rules_Techs), (.sc (.int .i64 g_Map_W)), (.sc (.int .i64 g_Map_H)), (.ro 3 g_Map_Cells), (.ro 6 g_Players), (.ro 12 g_Units), (.ro 9 g_Shots), (.ro 3 g_Memories), (.ro 4 g_Scripts)]), (.agg [(.sc (.int .i64 e_Id)), (.sc (.int .i64 e_Owner)), (.sc (.string e_Type)), (.sc (.int .i64 e_At_X)), (.sc (.int .i64 e_At_Y)), (.sc (.int .i64 e_Hp)), (.sc (.int .i64 e_Cool)), (.sc (.int .i64 e_Left)), (.sc (.int .i64 e_Ore)), (.sc (.int .i64 e_Wood)), (.ro 5 e_Orders), (.ro 3 e_Jobs)]), (.agg [(.sc (.int .i64 at__X)), (.sc (.int .i64 at__Y))])] = (F_target_nearest g_Turn g_NextId g_Winner g_Paused g_Rng g_Rules_Units g_Rules_Weapons g_Rules_Techs g_Map_W g_Map_H g_Map_Cells g_Players g_Units g_Shots g_Memories g_Scripts e_Id e_Owner e_Type e_At_X e_At_Y e_Hp e_Cool e_Left e_Ore e_Wood e_Orders e_Jobs at__X at__Y).bind fun t => some (enc71 t) :=
  Eq.trans (b := (Option.bind (F_entity_Rect g_Rules_Units g_Rules_Weapons g_Rules_Techs e_Id e_Owner e_Type e_At_X e_At_Y e_Hp e_Cool e_Left e_Ore e_Wood e_Orders e_Jobs) fun t => (bif (!t.2.2.2.2) then (some (CR.mk true (AVal.agg [(i64 e_At_X), (i64 e_At_Y)]) [] [])) else (Option.bind (F_num_Clamp at__X (wr (t.1 * (256 : Int))) (wr ((wr (t.1 + t.2.2.1)) * (256 : Int)))) fun t1 => (Option.bind (F_num_Clamp at__Y (wr (t.2.1 * (256 : Int))) (wr ((wr (t.2.1 + t.2.2.2.1)) * (256 : Int)))) fun t2 => (some (CR.mk true (AVal.agg [(i64 t1), (i64 t2)]) [] []))))))) (by kernel_rfl)
    (n_bind fun t => (n_condH rfl (fun h0 => rfl) fun h0 => (n_bind fun t1 => (n_bind fun t2 => rfl))))
theorem lib71 : Lib Try.prog GL0 C71 :=
  Lib.fn lib85 mixed TT_ok Try.func71 (by decide +kernel) (by kernel_rfl) true noL (loops_of 0 (by kernel_rfl) below0) ks71 (F := fun us => F_target_nearest (toI (cIa (aggL (cIa us 0)) 0)) (toI (cIa (aggL (cIa us 0)) 1)) (toI (cIa (aggL (cIa us 0)) 2)) (toB (cIa (aggL (cIa us 0)) 3)) (toI (cIa (aggL (cIa us 0)) 4)) (roRows (cIa (aggL (cIa us 0)) 5)) (roRows (cIa (aggL (cIa us 0)) 6)) (roRows (cIa (aggL (cIa us 0)) 7)) (toI (cIa (aggL (cIa us 0)) 8)) (toI (cIa (aggL (cIa us 0)) 9)) (roRows (cIa (aggL (cIa us 0)) 10)) (roRows (cIa (aggL (cIa us 0)) 11)) (roRows (cIa (aggL (cIa us 0)) 12)) (roRows (cIa (aggL (cIa us 0)) 13)) (roRows (cIa (aggL (cIa us 0)) 14)) (roRows (cIa (aggL (cIa us 0)) 15)) (toI (cIa (aggL (cIa us 1)) 0)) (toI (cIa (aggL (cIa us 1)) 1)) (toS (cIa (aggL (cIa us 1)) 2)) (toI (cIa (aggL (cIa us 1)) 3)) (toI (cIa (aggL (cIa us 1)) 4)) (toI (cIa (aggL (cIa us 1)) 5)) (toI (cIa (aggL (cIa us 1)) 6)) (toI (cIa (aggL (cIa us 1)) 7)) (toI (cIa (aggL (cIa us 1)) 8)) (toI (cIa (aggL (cIa us 1)) 9)) (roRows (cIa (aggL (cIa us 1)) 10)) (roRows (cIa (aggL (cIa us 1)) 11)) (toI (cIa (aggL (cIa us 2)) 0)) (toI (cIa (aggL (cIa us 2)) 1))) (fun us => rfl) (fun us => run71 (toI (cIa (aggL (cIa us 0)) 0)) (toI (cIa (aggL (cIa us 0)) 1)) (toI (cIa (aggL (cIa us 0)) 2)) (toB (cIa (aggL (cIa us 0)) 3)) (toI (cIa (aggL (cIa us 0)) 4)) (roRows (cIa (aggL (cIa us 0)) 5)) (roRows (cIa (aggL (cIa us 0)) 6)) (roRows (cIa (aggL (cIa us 0)) 7)) (toI (cIa (aggL (cIa us 0)) 8)) (toI (cIa (aggL (cIa us 0)) 9)) (roRows (cIa (aggL (cIa us 0)) 10)) (roRows (cIa (aggL (cIa us 0)) 11)) (roRows (cIa (aggL (cIa us 0)) 12)) (roRows (cIa (aggL (cIa us 0)) 13)) (roRows (cIa (aggL (cIa us 0)) 14)) (roRows (cIa (aggL (cIa us 0)) 15)) (toI (cIa (aggL (cIa us 1)) 0)) (toI (cIa (aggL (cIa us 1)) 1)) (toS (cIa (aggL (cIa us 1)) 2)) (toI (cIa (aggL (cIa us 1)) 3)) (toI (cIa (aggL (cIa us 1)) 4)) (toI (cIa (aggL (cIa us 1)) 5)) (toI (cIa (aggL (cIa us 1)) 6)) (toI (cIa (aggL (cIa us 1)) 7)) (toI (cIa (aggL (cIa us 1)) 8)) (toI (cIa (aggL (cIa us 1)) 9)) (roRows (cIa (aggL (cIa us 1)) 10)) (roRows (cIa (aggL (cIa us 1)) 11)) (toI (cIa (aggL (cIa us 2)) 0)) (toI (cIa (aggL (cIa us 2)) 1))) (fun t => rfl)

/-! ### 88: skirmish/vec.Dot -/



/-- 'skirmish/vec.Dot' -/
noncomputable def F_vec_Dot (a_X : Int) (a_Y : Int) (b_X : Int) (b_Y : Int) : Option (Int) :=
  Option.bind (F_vec_nearest a_X a_Y) fun t =>
  Option.bind (F_vec_nearest b_X b_Y) fun t1 =>
  Option.bind (F_vec_dot t.1 t.2 t1.1 t1.2) fun t2 =>
  some t2
noncomputable def enc88 (t : Int) : CR := ⟨true, (.sc (.int .i64 t)), [], []⟩
noncomputable def ks88 : List SK := [.agg [.int .i64, .int .i64], .agg [.int .i64, .int .i64]]
noncomputable def S88 (us : List AVal) : Call := bif chkA ks88 us then Call.of (F_vec_Dot (toI (cIa (aggL (cIa us 0)) 0)) (toI (cIa (aggL (cIa us 0)) 1)) (toI (cIa (aggL (cIa us 1)) 0)) (toI (cIa (aggL (cIa us 1)) 1))) enc88 else Call.none
noncomputable def C88 := AI.ext 88 S88 C71

theorem run88 (a_X : Int) (a_Y : Int) (b_X : Int) (b_Y : Int) : fcall TT TU GL0 C71 ownF true noL Try.f88 [(.agg [(.sc (.int .i64 a_X)), (.sc (.int .i64 a_Y))]), (.agg [(.sc (.int .i64 b_X)), (.sc (.int .i64 b_Y))])] = (F_vec_Dot a_X a_Y b_X b_Y).bind fun t => some (enc88 t) :=
  Eq.trans (b := (Option.bind (F_vec_nearest a_X a_Y) fun t => (Option.bind (F_vec_nearest b_X b_Y) fun t1 => (Option.bind (F_vec_dot t.1 t.2 t1.1 t1.2) fun t2 => (some (CR.mk true (i64 t2) [] [])))))) (by kernel_rfl)
    (n_bind fun t => (n_bind fun t1 => (n_bind fun t2 => rfl)))
theorem lib88 : Lib Try.prog GL0 C88 :=
  Lib.fn lib71 mixed TT_ok Try.func88 (by decide +kernel) (by kernel_rfl) true noL (loops_of 0 (by kernel_rfl) below0) ks88 (F := fun us => F_vec_Dot (toI (cIa (aggL (cIa us 0)) 0)) (toI (cIa (aggL (cIa us 0)) 1)) (toI (cIa (aggL (cIa us 1)) 0)) (toI (cIa (aggL (cIa us 1)) 1))) (fun us => rfl) (fun us => run88 (toI (cIa (aggL (cIa us 0)) 0)) (toI (cIa (aggL (cIa us 0)) 1)) (toI (cIa (aggL (cIa us 1)) 0)) (toI (cIa (aggL (cIa us 1)) 1))) (fun t => rfl)

/-! ### 82: skirmish/vec.Len2 -/



/-- 'skirmish/vec.Len2' -/
noncomputable def F_vec_Len2 (a_X : Int) (a_Y : Int) : Option (Int) :=
  Option.bind (F_vec_Dot a_X a_Y a_X a_Y) fun t =>
  some t
noncomputable def enc82 (t : Int) : CR := ⟨true, (.sc (.int .i64 t)), [], []⟩
noncomputable def ks82 : List SK := [.agg [.int .i64, .int .i64]]
noncomputable def S82 (us : List AVal) : Call := bif chkA ks82 us then Call.of (F_vec_Len2 (toI (cIa (aggL (cIa us 0)) 0)) (toI (cIa (aggL (cIa us 0)) 1))) enc82 else Call.none
noncomputable def C82 := AI.ext 82 S82 C88

theorem run82 (a_X : Int) (a_Y : Int) : fcall TT TU GL0 C88 ownF true noL Try.f82 [(.agg [(.sc (.int .i64 a_X)), (.sc (.int .i64 a_Y))])] = (F_vec_Len2 a_X a_Y).bind fun t => some (enc82 t) :=
  Eq.trans (b := (Option.bind (F_vec_Dot a_X a_Y a_X a_Y) fun t => (some (CR.mk true (i64 t) [] [])))) (by kernel_rfl)
    (n_bind fun t => rfl)
theorem lib82 : Lib Try.prog GL0 C82 :=
  Lib.fn lib88 mixed TT_ok Try.func82 (by decide +kernel) (by kernel_rfl) true noL (loops_of 0 (by kernel_rfl) below0) ks82 (F := fun us => F_vec_Len2 (toI (cIa (aggL (cIa us 0)) 0)) (toI (cIa (aggL (cIa us 0)) 1))) (fun us => rfl) (fun us => run82 (toI (cIa (aggL (cIa us 0)) 0)) (toI (cIa (aggL (cIa us 0)) 1))) (fun t => rfl)

/-! ### 81: skirmish/num.Isqrt -/

noncomputable def W81_0 : Ex → List Bool
  | .ret => [false, false, true, false, false, false, false, false, false, false, false, false, false, false, false, false, false, false, false, false, false, false]
  | .exit n => bif Nat.beq n 0 then [false, false, false, true, false, false, false, false, false, false, false, false, false, false, false, false, false, false, false, false, false, false] else []
  | .normal => []
noncomputable def G_num_Isqrt_0 (n : Int) : Nat → Int → Int → Option (Int)
  | 0, _, _ => none
  | m + 1, r1, bit =>
    bif (decide (bit > (0 : Int))) then
      bif ((wr (Int.ofNat (BitVec.toNat (HOr.hOr (BitVec.ofInt 64 r1) (BitVec.ofInt 64 bit))))) == (0 : Int)) then
        none
      else
      bif (decide ((wr (Int.ofNat (BitVec.toNat (HOr.hOr (BitVec.ofInt 64 r1) (BitVec.ofInt 64 bit))))) ≤ (wr (Int.tdiv n (wr (Int.ofNat (BitVec.toNat (HOr.hOr (BitVec.ofInt 64 r1) (BitVec.ofInt 64 bit))))))))) then
        G_num_Isqrt_0 n m (wr (Int.ofNat (BitVec.toNat (HOr.hOr (BitVec.ofInt 64 r1) (BitVec.ofInt 64 bit))))) (Int.fdiv bit ((2 : Int) ^ (Min.min (1 : Int).toNat 64)))
      else
      G_num_Isqrt_0 n m r1 (Int.fdiv bit ((2 : Int) ^ (Min.min (1 : Int).toNat 64)))
    else
    some r1
noncomputable def E81_0 (n : Int) (r1 : Int) (bit : Int) : St := ⟨[(.sc (.int .i64 n)), .dead, .dead, (.sc (.int .i64 r1)), (.sc (.int .i64 bit)), .dead, .dead, .dead, .dead, .dead, .dead, .dead, .dead, .dead, .dead, .dead, .dead, .dead, .dead, .dead, .dead, .dead], []⟩
noncomputable def X81_0 (k : Ex → St → Option CR) (t : Int) : Option CR := k (.exit 0) ⟨[.dead, .dead, .dead, (.sc (.int .i64 t)), .dead, .dead, .dead, .dead, .dead, .dead, .dead, .dead, .dead, .dead, .dead, .dead, .dead, .dead, .dead, .dead, .dead, .dead], []⟩
noncomputable def ks81_0 : List SK := [.f (.int .i64), .f .dead, .f .dead, .f (.int .i64), .f (.int .i64), .f .dead, .f .dead, .f .dead, .f .dead, .f .dead, .f .dead, .f .dead, .f .dead, .f .dead, .f .dead, .f .dead, .f .dead, .f .dead, .f .dead, .f .dead, .f .dead, .f .dead]
noncomputable def hs81_0 : List HK := []
noncomputable def Lm81_0 (s : St) (k : Ex → St → Option CR) : Option CR := bif chkS ks81_0 hs81_0 s then (G_num_Isqrt_0 (toI (cIa s.tmps 0)) FU (toI (cIa s.tmps 3)) (toI (cIa s.tmps 4))).bind (X81_0 k) else none
noncomputable def L81_0 (s : St) (k : Ex → St → Option CR) : Option CR := Lm81_0 (maskS (maskOf ks81_0) s) k

noncomputable def L81 : LT' := fun i s k => bif Nat.beq i 0 then L81_0 s k else none

/-- 'skirmish/num.Isqrt' -/
noncomputable def F_num_Isqrt (n : Int) : Option (Int) :=
  bif (decide (n ≤ (0 : Int))) then
    some (0 : Int)
  else
  Option.bind (G_num_Isqrt_0 n FU (0 : Int) (2147483648 : Int)) fun t =>
  some t
noncomputable def enc81 (t : Int) : CR := ⟨true, (.sc (.int .i64 t)), [], []⟩
noncomputable def ks81 : List SK := [.f (.int .i64)]
noncomputable def S81 (us : List AVal) : Call := bif chkA ks81 us then Call.of (F_num_Isqrt (toI (cIa us 0))) enc81 else Call.none
noncomputable def C81 := AI.ext 81 S81 C82

@[reducible] noncomputable def B81_0 := bodyOf TT TU GL0 C82 ownF L81 (lp Try.f81 0)
@[reducible] noncomputable def K81_0 (k : Ex → St → Option CR) : Ex → St → Option CR := fun e s => k e (maskS (W81_0 e) s)
theorem spec81_0 (k : Ex → St → Option CR) : ∀ (m : Nat) (n : Int) (r1 : Int) (bit : Int), loopN B81_0 m (E81_0 n r1 bit) (K81_0 k) = (G_num_Isqrt_0 n m r1 bit).bind (X81_0 k)
  | 0, _, _, _ => rfl
  | m + 1, n, r1, bit =>
    Eq.trans (b := (bif (decide (bit > (0 : Int))) then (bif ((wr (Int.ofNat (BitVec.toNat (HOr.hOr (BitVec.ofInt 64 r1) (BitVec.ofInt 64 bit))))) == (0 : Int)) then none else (bif (decide ((wr (Int.ofNat (BitVec.toNat (HOr.hOr (BitVec.ofInt 64 r1) (BitVec.ofInt 64 bit))))) ≤ (wr (Int.tdiv n (wr (Int.ofNat (BitVec.toNat (HOr.hOr (BitVec.ofInt 64 r1) (BitVec.ofInt 64 bit))))))))) then (loopN B81_0 m ⟨[(i64 n), .dead, .dead, (i64 (wr (Int.ofNat (BitVec.toNat (HOr.hOr (BitVec.ofInt 64 r1) (BitVec.ofInt 64 bit)))))), (i64 (Int.fdiv bit ((2 : Int) ^ (Min.min (1 : Int).toNat 64)))), .dead, .dead, .dead, .dead, .dead, .dead, .dead, .dead, .dead, .dead, .dead, .dead, .dead, .dead, .dead, .dead, .dead], []⟩ (K81_0 k)) else (loopN B81_0 m ⟨[(i64 n), .dead, .dead, (i64 r1), (i64 (Int.fdiv bit ((2 : Int) ^ (Min.min (1 : Int).toNat 64)))), .dead, .dead, .dead, .dead, .dead, .dead, .dead, .dead, .dead, .dead, .dead, .dead, .dead, .dead, .dead, .dead, .dead], []⟩ (K81_0 k)))) else (k (.exit 0) ⟨[.dead, .dead, .dead, (i64 r1), .dead, .dead, .dead, .dead, .dead, .dead, .dead, .dead, .dead, .dead, .dead, .dead, .dead, .dead, .dead, .dead, .dead, .dead], []⟩))) (by kernel_rfl)
      (n_condH rfl (fun h0 => (n_condH rfl (fun h1 => n_none) fun h1 => (n_condH rfl (fun h2 => (spec81_0 k m n (wr (Int.ofNat (BitVec.toNat (HOr.hOr (BitVec.ofInt 64 r1) (BitVec.ofInt 64 bit))))) (Int.fdiv bit ((2 : Int) ^ (Min.min (1 : Int).toNat 64))))) fun h2 => (spec81_0 k m n r1 (Int.fdiv bit ((2 : Int) ^ (Min.min (1 : Int).toNat 64))))))) fun h0 => rfl)
theorem okL81_0 : LoopOk TT TU GL0 C82 ownF L81 (lp Try.f81 0) :=
  loopOk_of ks81_0 hs81_0 W81_0 FU (fun s k => (G_num_Isqrt_0 (toI (cIa s.tmps 0)) FU (toI (cIa s.tmps 3)) (toI (cIa s.tmps 4))).bind (X81_0 k)) (fun s k => by kernel_rfl) (fun s k => spec81_0 k FU (toI (cIa s.tmps 0)) (toI (cIa s.tmps 3)) (toI (cIa s.tmps 4)))
theorem run81 (n : Int) : fcall TT TU GL0 C82 ownF true L81 Try.f81 [(.sc (.int .i64 n))] = (F_num_Isqrt n).bind fun t => some (enc81 t) :=
  Eq.trans (b := (bif (decide (n ≤ (0 : Int))) then (some (CR.mk true (i64 (0 : Int)) [] [])) else (Option.bind (G_num_Isqrt_0 n FU (0 : Int) (2147483648 : Int)) fun t => (some (CR.mk true (i64 t) [] []))))) (by kernel_rfl)
    (n_condH rfl (fun h0 => rfl) fun h0 => (n_bind fun t => rfl))
theorem lib81 : Lib Try.prog GL0 C81 :=
  Lib.fn lib82 mixed TT_ok Try.func81 (by decide +kernel) (by kernel_rfl) true L81 (loops_of 1 (by kernel_rfl) (belowS below0 okL81_0)) ks81 (F := fun us => F_num_Isqrt (toI (cIa us 0))) (fun us => rfl) (fun us => run81 (toI (cIa us 0))) (fun t => rfl)

/-! ### 69: skirmish/vec.Len -/



/-- 'skirmish/vec.Len' -/
noncomputable def F_vec_Len (a_X : Int) (a_Y : Int) : Option (Int) :=
  Option.bind (F_vec_Len2 a_X a_Y) fun t =>
  Option.bind (F_num_Isqrt t) fun t1 =>
  some t1
noncomputable def enc69 (t : Int) : CR := ⟨true, (.sc (.int .i64 t)), [], []⟩
noncomputable def ks69 : List SK := [.agg [.int .i64, .int .i64]]
noncomputable def S69 (us : List AVal) : Call := bif chkA ks69 us then Call.of (F_vec_Len (toI (cIa (aggL (cIa us 0)) 0)) (toI (cIa (aggL (cIa us 0)) 1))) enc69 else Call.none
noncomputable def C69 := AI.ext 69 S69 C81

theorem run69 (a_X : Int) (a_Y : Int) : fcall TT TU GL0 C81 ownF true noL Try.f69 [(.agg [(.sc (.int .i64 a_X)), (.sc (.int .i64 a_Y))])] = (F_vec_Len a_X a_Y).bind fun t => some (enc69 t) :=
  Eq.trans (b := (Option.bind (F_vec_Len2 a_X a_Y) fun t => (Option.bind (F_num_Isqrt t) fun t1 => (some (CR.mk true (i64 t1) [] []))))) (by kernel_rfl)
    (n_bind fun t => (n_bind fun t1 => rfl))
theorem lib69 : Lib Try.prog GL0 C69 :=
  Lib.fn lib81 mixed TT_ok Try.func69 (by decide +kernel) (by kernel_rfl) true noL (loops_of 0 (by kernel_rfl) below0) ks69 (F := fun us => F_vec_Len (toI (cIa (aggL (cIa us 0)) 0)) (toI (cIa (aggL (cIa us 0)) 1))) (fun us => rfl) (fun us => run69 (toI (cIa (aggL (cIa us 0)) 0)) (toI (cIa (aggL (cIa us 0)) 1))) (fun t => rfl)

/-! ### 54: skirmish/target.distance -/



/-- 'skirmish/target.distance' -/
noncomputable def F_target_distance (g_Turn : Int) (g_NextId : Int) (g_Winner : Int) (g_Paused : Bool) (g_Rng : Int) (g_Rules_Units : List (List AVal)) (g_Rules_Weapons : List (List AVal)) (g_Rules_Techs : List (List AVal)) (g_Map_W : Int) (g_Map_H : Int) (g_Map_Cells : List (List AVal)) (g_Players : List (List AVal)) (g_Units : List (List AVal)) (g_Shots : List (List AVal)) (g_Memories : List (List AVal)) (g_Scripts : List (List AVal)) (a_Id : Int) (a_Owner : Int) (a_Type : ByteArray) (a_At_X : Int) (a_At_Y : Int) (a_Hp : Int) (a_Cool : Int) (a_Left : Int) (a_Ore : Int) (a_Wood : Int) (a_Orders : List (List AVal)) (a_Jobs : List (List AVal)) (b_Id : Int) (b_Owner : Int) (b_Type : ByteArray) (b_At_X : Int) (b_At_Y : Int) (b_Hp : Int) (b_Cool : Int) (b_Left : Int) (b_Ore : Int) (b_Wood : Int) (b_Orders : List (List AVal)) (b_Jobs : List (List AVal)) : Option (Int) :=
  Option.bind (F_target_nearest g_Turn g_NextId g_Winner g_Paused g_Rng g_Rules_Units g_Rules_Weapons g_Rules_Techs g_Map_W g_Map_H g_Map_Cells g_Players g_Units g_Shots g_Memories g_Scripts b_Id b_Owner b_Type b_At_X b_At_Y b_Hp b_Cool b_Left b_Ore b_Wood b_Orders b_Jobs a_At_X a_At_Y) fun t =>
  Option.bind (F_vec_Sub t.1 t.2 a_At_X a_At_Y) fun t1 =>
  Option.bind (F_vec_Len t1.1 t1.2) fun t2 =>
  some t2
noncomputable def enc54 (t : Int) : CR := ⟨true, (.sc (.int .i64 t)), [], []⟩
noncomputable def ks54 : List SK := [.agg [.int .i64, .int .i64, .int .i64, .bool, .int .u64, .ro 19, .ro 6, .ro 8, .int .i64, .int .i64, .ro 3, .ro 6, .ro 12, .ro 9, .ro 3, .ro 4], .agg [.int .i64, .int .i64, .str, .int .i64, .int .i64, .int .i64, .int .i64, .int .i64, .int .i64, .int .i64, .ro 5, .ro 3], .agg [.int .i64, .int .i64, .str, .int .i64, .int .i64, .int .i64, .int .i64, .int .i64, .int .i64, .int .i64, .ro 5, .ro 3]]
noncomputable def S54 (us : List AVal) : Call := bif chkA ks54 us then Call.of (F_target_distance (toI (cIa (aggL (cIa us 0)) 0)) (toI (cIa (aggL (cIa us 0)) 1)) (toI (cIa (aggL (cIa us 0)) 2)) (toB (cIa (aggL (cIa us 0)) 3)) (toI (cIa (aggL (cIa us 0)) 4)) (roRows (cIa (aggL (cIa us 0)) 5)) (roRows (cIa (aggL (cIa us 0)) 6)) (roRows (cIa (aggL (cIa us 0)) 7)) (toI (cIa (aggL (cIa us 0)) 8)) (toI (cIa (aggL (cIa us 0)) 9)) (roRows (cIa (aggL (cIa us 0)) 10)) (roRows (cIa (aggL (cIa us 0)) 11)) (roRows (cIa (aggL (cIa us 0)) 12)) (roRows (cIa (aggL (cIa us 0)) 13)) (roRows (cIa (aggL (cIa us 0)) 14)) (roRows (cIa (aggL (cIa us 0)) 15)) (toI (cIa (aggL (cIa us 1)) 0)) (toI (cIa (aggL (cIa us 1)) 1)) (toS (cIa (aggL (cIa us 1)) 2)) (toI (cIa (aggL (cIa us 1)) 3)) (toI (cIa (aggL (cIa us 1)) 4)) (toI (cIa (aggL (cIa us 1)) 5)) (toI (cIa (aggL (cIa us 1)) 6)) (toI (cIa (aggL (cIa us 1)) 7)) (toI (cIa (aggL (cIa us 1)) 8)) (toI (cIa (aggL (cIa us 1)) 9)) (roRows (cIa (aggL (cIa us 1)) 10)) (roRows (cIa (aggL (cIa us 1)) 11)) (toI (cIa (aggL (cIa us 2)) 0)) (toI (cIa (aggL (cIa us 2)) 1)) (toS (cIa (aggL (cIa us 2)) 2)) (toI (cIa (aggL (cIa us 2)) 3)) (toI (cIa (aggL (cIa us 2)) 4)) (toI (cIa (aggL (cIa us 2)) 5)) (toI (cIa (aggL (cIa us 2)) 6)) (toI (cIa (aggL (cIa us 2)) 7)) (toI (cIa (aggL (cIa us 2)) 8)) (toI (cIa (aggL (cIa us 2)) 9)) (roRows (cIa (aggL (cIa us 2)) 10)) (roRows (cIa (aggL (cIa us 2)) 11))) enc54 else Call.none
noncomputable def C54 := AI.ext 54 S54 C69

theorem run54 (g_Turn : Int) (g_NextId : Int) (g_Winner : Int) (g_Paused : Bool) (g_Rng : Int) (g_Rules_Units : List (List AVal)) (g_Rules_Weapons : List (List AVal)) (g_Rules_Techs : List (List AVal)) (g_Map_W : Int) (g_Map_H : Int) (g_Map_Cells : List (List AVal)) (g_Players : List (List AVal)) (g_Units : List (List AVal)) (g_Shots : List (List AVal)) (g_Memories : List (List AVal)) (g_Scripts : List (List AVal)) (a_Id : Int) (a_Owner : Int) (a_Type : ByteArray) (a_At_X : Int) (a_At_Y : Int) (a_Hp : Int) (a_Cool : Int) (a_Left : Int) (a_Ore : Int) (a_Wood : Int) (a_Orders : List (List AVal)) (a_Jobs : List (List AVal)) (b_Id : Int) (b_Owner : Int) (b_Type : ByteArray) (b_At_X : Int) (b_At_Y : Int) (b_Hp : Int) (b_Cool : Int) (b_Left : Int) (b_Ore : Int) (b_Wood : Int) (b_Orders : List (List AVal)) (b_Jobs : List (List AVal)) : fcall TT TU GL0 C69 ownF true noL Try.f54 [(.agg [(.sc (.int .i64 g_Turn)), (.sc (.int .i64 g_NextId)), (.sc (.int .i64 g_Winner)), (.sc (.bool g_Paused)), (.sc (.int .u64 g_Rng)), (.ro 19 g_Rules_Units), (.ro 6 g_Rules_Weapons), (.ro 8 g_Rules_Techs), (.sc (.int .i64 g_Map_W)), (.sc (.int .i64 g_Map_H)), (.ro 3 g_Map_Cells), (.ro 6 g_Players), (.ro 12 g_Units), (.ro 9 g_Shots), (.ro 3 g_Memories), (.ro 4 g_Scripts)]), (.agg [(.sc (.int .i64 a_Id)), (.sc (.int .i64 a_Owner)), (.sc (.string a_Type)), (.sc (.int .i64 a_At_X)), (.sc (.int .i64 a_At_Y)), (.sc (.int .i64 a_Hp)), (.sc (.int .i64 a_Cool)), (.sc (.int .i64 a_Left)), (.sc (.int .i64 a_Ore)), (.sc (.int .i64 a_Wood)), (.ro 5 a_Orders), (.ro 3 a_Jobs)]), (.agg [(.sc (.int .i64 b_Id)), (.sc (.int .i64 b_Owner)), (.sc (.string b_Type)), (.sc (.int .i64 b_At_X)), (.sc (.int .i64 b_At_Y)), (.sc (.int .i64 b_Hp)), (.sc (.int .i64 b_Cool)), (.sc (.int .i64 b_Left)), (.sc (.int .i64 b_Ore)), (.sc (.int .i64 b_Wood)), (.ro 5 b_Orders), (.ro 3 b_Jobs)])] = (F_target_distance g_Turn g_NextId g_Winner g_Paused g_Rng g_Rules_Units g_Rules_Weapons g_Rules_Techs g_Map_W g_Map_H g_Map_Cells g_Players g_Units g_Shots g_Memories g_Scripts a_Id a_Owner a_Type a_At_X a_At_Y a_Hp a_Cool a_Left a_Ore a_Wood a_Orders a_Jobs b_Id b_Owner b_Type b_At_X b_At_Y b_Hp b_Cool b_Left b_Ore b_Wood b_Orders b_Jobs).bind fun t => some (enc54 t) :=
  Eq.trans (b := (Option.bind (F_target_nearest g_Turn g_NextId g_Winner g_Paused g_Rng g_Rules_Units g_Rules_Weapons g_Rules_Techs g_Map_W g_Map_H g_Map_Cells g_Players g_Units g_Shots g_Memories g_Scripts b_Id b_Owner b_Type b_At_X b_At_Y b_Hp b_Cool b_Left b_Ore b_Wood b_Orders b_Jobs a_At_X a_At_Y) fun t => (Option.bind (F_vec_Sub t.1 t.2 a_At_X a_At_Y) fun t1 => (Option.bind (F_vec_Len t1.1 t1.2) fun t2 => (some (CR.mk true (i64 t2) [] [])))))) (by kernel_rfl)
    (n_bind fun t => (n_bind fun t1 => (n_bind fun t2 => rfl)))
theorem lib54 : Lib Try.prog GL0 C54 :=
  Lib.fn lib69 mixed TT_ok Try.func54 (by decide +kernel) (by kernel_rfl) true noL (loops_of 0 (by kernel_rfl) below0) ks54 (F := fun us => F_target_distance (toI (cIa (aggL (cIa us 0)) 0)) (toI (cIa (aggL (cIa us 0)) 1)) (toI (cIa (aggL (cIa us 0)) 2)) (toB (cIa (aggL (cIa us 0)) 3)) (toI (cIa (aggL (cIa us 0)) 4)) (roRows (cIa (aggL (cIa us 0)) 5)) (roRows (cIa (aggL (cIa us 0)) 6)) (roRows (cIa (aggL (cIa us 0)) 7)) (toI (cIa (aggL (cIa us 0)) 8)) (toI (cIa (aggL (cIa us 0)) 9)) (roRows (cIa (aggL (cIa us 0)) 10)) (roRows (cIa (aggL (cIa us 0)) 11)) (roRows (cIa (aggL (cIa us 0)) 12)) (roRows (cIa (aggL (cIa us 0)) 13)) (roRows (cIa (aggL (cIa us 0)) 14)) (roRows (cIa (aggL (cIa us 0)) 15)) (toI (cIa (aggL (cIa us 1)) 0)) (toI (cIa (aggL (cIa us 1)) 1)) (toS (cIa (aggL (cIa us 1)) 2)) (toI (cIa (aggL (cIa us 1)) 3)) (toI (cIa (aggL (cIa us 1)) 4)) (toI (cIa (aggL (cIa us 1)) 5)) (toI (cIa (aggL (cIa us 1)) 6)) (toI (cIa (aggL (cIa us 1)) 7)) (toI (cIa (aggL (cIa us 1)) 8)) (toI (cIa (aggL (cIa us 1)) 9)) (roRows (cIa (aggL (cIa us 1)) 10)) (roRows (cIa (aggL (cIa us 1)) 11)) (toI (cIa (aggL (cIa us 2)) 0)) (toI (cIa (aggL (cIa us 2)) 1)) (toS (cIa (aggL (cIa us 2)) 2)) (toI (cIa (aggL (cIa us 2)) 3)) (toI (cIa (aggL (cIa us 2)) 4)) (toI (cIa (aggL (cIa us 2)) 5)) (toI (cIa (aggL (cIa us 2)) 6)) (toI (cIa (aggL (cIa us 2)) 7)) (toI (cIa (aggL (cIa us 2)) 8)) (toI (cIa (aggL (cIa us 2)) 9)) (roRows (cIa (aggL (cIa us 2)) 10)) (roRows (cIa (aggL (cIa us 2)) 11))) (fun us => rfl) (fun us => run54 (toI (cIa (aggL (cIa us 0)) 0)) (toI (cIa (aggL (cIa us 0)) 1)) (toI (cIa (aggL (cIa us 0)) 2)) (toB (cIa (aggL (cIa us 0)) 3)) (toI (cIa (aggL (cIa us 0)) 4)) (roRows (cIa (aggL (cIa us 0)) 5)) (roRows (cIa (aggL (cIa us 0)) 6)) (roRows (cIa (aggL (cIa us 0)) 7)) (toI (cIa (aggL (cIa us 0)) 8)) (toI (cIa (aggL (cIa us 0)) 9)) (roRows (cIa (aggL (cIa us 0)) 10)) (roRows (cIa (aggL (cIa us 0)) 11)) (roRows (cIa (aggL (cIa us 0)) 12)) (roRows (cIa (aggL (cIa us 0)) 13)) (roRows (cIa (aggL (cIa us 0)) 14)) (roRows (cIa (aggL (cIa us 0)) 15)) (toI (cIa (aggL (cIa us 1)) 0)) (toI (cIa (aggL (cIa us 1)) 1)) (toS (cIa (aggL (cIa us 1)) 2)) (toI (cIa (aggL (cIa us 1)) 3)) (toI (cIa (aggL (cIa us 1)) 4)) (toI (cIa (aggL (cIa us 1)) 5)) (toI (cIa (aggL (cIa us 1)) 6)) (toI (cIa (aggL (cIa us 1)) 7)) (toI (cIa (aggL (cIa us 1)) 8)) (toI (cIa (aggL (cIa us 1)) 9)) (roRows (cIa (aggL (cIa us 1)) 10)) (roRows (cIa (aggL (cIa us 1)) 11)) (toI (cIa (aggL (cIa us 2)) 0)) (toI (cIa (aggL (cIa us 2)) 1)) (toS (cIa (aggL (cIa us 2)) 2)) (toI (cIa (aggL (cIa us 2)) 3)) (toI (cIa (aggL (cIa us 2)) 4)) (toI (cIa (aggL (cIa us 2)) 5)) (toI (cIa (aggL (cIa us 2)) 6)) (toI (cIa (aggL (cIa us 2)) 7)) (toI (cIa (aggL (cIa us 2)) 8)) (toI (cIa (aggL (cIa us 2)) 9)) (roRows (cIa (aggL (cIa us 2)) 10)) (roRows (cIa (aggL (cIa us 2)) 11))) (fun t => rfl)

/-! ### 35: skirmish/target.Distance -/



/-- 'skirmish/target.Distance' -/
noncomputable def F_target_Distance (g_Turn : Int) (g_NextId : Int) (g_Winner : Int) (g_Paused : Bool) (g_Rng : Int) (g_Rules_Units : List (List AVal)) (g_Rules_Weapons : List (List AVal)) (g_Rules_Techs : List (List AVal)) (g_Map_W : Int) (g_Map_H : Int) (g_Map_Cells : List (List AVal)) (g_Players : List (List AVal)) (g_Units : List (List AVal)) (g_Shots : List (List AVal)) (g_Memories : List (List AVal)) (g_Scripts : List (List AVal)) (a : Int) (b : Int) : Option (Int × Bool) :=
  Option.bind (F_entity_Find g_Units a) fun t =>
  Option.bind (F_entity_Find g_Units b) fun t1 =>
  bif (!t.2.2.2.2.2.2.2.2.2.2.2.2) then
    some ((0 : Int), false)
  else
  bif (!t1.2.2.2.2.2.2.2.2.2.2.2.2) then
    some ((0 : Int), false)
  else
  Option.bind (F_target_distance g_Turn g_NextId g_Winner g_Paused g_Rng g_Rules_Units g_Rules_Weapons g_Rules_Techs g_Map_W g_Map_H g_Map_Cells g_Players g_Units g_Shots g_Memories g_Scripts t.2.2.1 t.2.2.2.1 t.2.2.2.2.1 t.2.2.2.2.2.1 t.2.2.2.2.2.2.1 t.2.2.2.2.2.2.2.1 t.2.2.2.2.2.2.2.2.1 t.2.2.2.2.2.2.2.2.2.1 t.2.2.2.2.2.2.2.2.2.2.1 t.2.2.2.2.2.2.2.2.2.2.2.1 t.1 t.2.1 t1.2.2.1 t1.2.2.2.1 t1.2.2.2.2.1 t1.2.2.2.2.2.1 t1.2.2.2.2.2.2.1 t1.2.2.2.2.2.2.2.1 t1.2.2.2.2.2.2.2.2.1 t1.2.2.2.2.2.2.2.2.2.1 t1.2.2.2.2.2.2.2.2.2.2.1 t1.2.2.2.2.2.2.2.2.2.2.2.1 t1.1 t1.2.1) fun t2 =>
  some (t2, true)
noncomputable def enc35 (t : Int × Bool) : CR := ⟨true, (.tup [(.sc (.int .i64 t.1)), (.sc (.bool t.2))]), [], []⟩
noncomputable def ks35 : List SK := [.agg [.int .i64, .int .i64, .int .i64, .bool, .int .u64, .ro 19, .ro 6, .ro 8, .int .i64, .int .i64, .ro 3, .ro 6, .ro 12, .ro 9, .ro 3, .ro 4], .f (.int .i64), .f (.int .i64)]
noncomputable def S35 (us : List AVal) : Call := bif chkA ks35 us then Call.of (F_target_Distance (toI (cIa (aggL (cIa us 0)) 0)) (toI (cIa (aggL (cIa us 0)) 1)) (toI (cIa (aggL (cIa us 0)) 2)) (toB (cIa (aggL (cIa us 0)) 3)) (toI (cIa (aggL (cIa us 0)) 4)) (roRows (cIa (aggL (cIa us 0)) 5)) (roRows (cIa (aggL (cIa us 0)) 6)) (roRows (cIa (aggL (cIa us 0)) 7)) (toI (cIa (aggL (cIa us 0)) 8)) (toI (cIa (aggL (cIa us 0)) 9)) (roRows (cIa (aggL (cIa us 0)) 10)) (roRows (cIa (aggL (cIa us 0)) 11)) (roRows (cIa (aggL (cIa us 0)) 12)) (roRows (cIa (aggL (cIa us 0)) 13)) (roRows (cIa (aggL (cIa us 0)) 14)) (roRows (cIa (aggL (cIa us 0)) 15)) (toI (cIa us 1)) (toI (cIa us 2))) enc35 else Call.none
noncomputable def C35 := AI.ext 35 S35 C54

theorem run35 (g_Turn : Int) (g_NextId : Int) (g_Winner : Int) (g_Paused : Bool) (g_Rng : Int) (g_Rules_Units : List (List AVal)) (g_Rules_Weapons : List (List AVal)) (g_Rules_Techs : List (List AVal)) (g_Map_W : Int) (g_Map_H : Int) (g_Map_Cells : List (List AVal)) (g_Players : List (List AVal)) (g_Units : List (List AVal)) (g_Shots : List (List AVal)) (g_Memories : List (List AVal)) (g_Scripts : List (List AVal)) (a : Int) (b : Int) : fcall TT TU GL0 C54 ownF true noL Try.f35 [(.agg [(.sc (.int .i64 g_Turn)), (.sc (.int .i64 g_NextId)), (.sc (.int .i64 g_Winner)), (.sc (.bool g_Paused)), (.sc (.int .u64 g_Rng)), (.ro 19 g_Rules_Units), (.ro 6 g_Rules_Weapons), (.ro 8 g_Rules_Techs), (.sc (.int .i64 g_Map_W)), (.sc (.int .i64 g_Map_H)), (.ro 3 g_Map_Cells), (.ro 6 g_Players), (.ro 12 g_Units), (.ro 9 g_Shots), (.ro 3 g_Memories), (.ro 4 g_Scripts)]), (.sc (.int .i64 a)), (.sc (.int .i64 b))] = (F_target_Distance g_Turn g_NextId g_Winner g_Paused g_Rng g_Rules_Units g_Rules_Weapons g_Rules_Techs g_Map_W g_Map_H g_Map_Cells g_Players g_Units g_Shots g_Memories g_Scripts a b).bind fun t => some (enc35 t) :=
  Eq.trans (b := (Option.bind (F_entity_Find g_Units a) fun t => (bif ((((true && (verEq t.1.length t.1.length)) && true) && true) && true) then (bif ((((true && (verEq t.2.1.length t.2.1.length)) && true) && true) && true) then (Option.bind (F_entity_Find g_Units b) fun t1 => (bif ((((true && (verEq t1.1.length t1.1.length)) && true) && true) && true) then (bif ((((true && (verEq t1.2.1.length t1.2.1.length)) && true) && true) && true) then (bif (!t.2.2.2.2.2.2.2.2.2.2.2.2) then (some (CR.mk true (AVal.tup [(i64 (0 : Int)), (bo false)]) [] [])) else (bif (!t1.2.2.2.2.2.2.2.2.2.2.2.2) then (some (CR.mk true (AVal.tup [(i64 (0 : Int)), (bo false)]) [] [])) else (bif (verEq t.1.length t.1.length) then (bif (verEq t.2.1.length t.2.1.length) then (bif (verEq t1.1.length t1.1.length) then (bif (verEq t1.2.1.length t1.2.1.length) then (Option.bind (F_target_distance g_Turn g_NextId g_Winner g_Paused g_Rng g_Rules_Units g_Rules_Weapons g_Rules_Techs g_Map_W g_Map_H g_Map_Cells g_Players g_Units g_Shots g_Memories g_Scripts t.2.2.1 t.2.2.2.1 t.2.2.2.2.1 t.2.2.2.2.2.1 t.2.2.2.2.2.2.1 t.2.2.2.2.2.2.2.1 t.2.2.2.2.2.2.2.2.1 t.2.2.2.2.2.2.2.2.2.1 t.2.2.2.2.2.2.2.2.2.2.1 t.2.2.2.2.2.2.2.2.2.2.2.1 t.1 t.2.1 t1.2.2.1 t1.2.2.2.1 t1.2.2.2.2.1 t1.2.2.2.2.2.1 t1.2.2.2.2.2.2.1 t1.2.2.2.2.2.2.2.1 t1.2.2.2.2.2.2.2.2.1 t1.2.2.2.2.2.2.2.2.2.1 t1.2.2.2.2.2.2.2.2.2.2.1 t1.2.2.2.2.2.2.2.2.2.2.2.1 t1.1 t1.2.1) fun t2 => (some (CR.mk true (AVal.tup [(i64 t2), (bo true)]) [] []))) else none) else none) else none) else none))) else none) else none)) else none) else none))) (by kernel_rfl)
    (n_bind fun t => (n_true (n_andL (n_andL (n_andL (n_andL rfl (verEq_rfl _)) rfl) rfl) rfl) (n_true (n_andL (n_andL (n_andL (n_andL rfl (verEq_rfl _)) rfl) rfl) rfl) (n_bind fun t1 => (n_true (n_andL (n_andL (n_andL (n_andL rfl (verEq_rfl _)) rfl) rfl) rfl) (n_true (n_andL (n_andL (n_andL (n_andL rfl (verEq_rfl _)) rfl) rfl) rfl) (n_condH rfl (fun h0 => rfl) fun h0 => (n_condH rfl (fun h1 => rfl) fun h1 => (n_true (verEq_rfl _) (n_true (verEq_rfl _) (n_true (verEq_rfl _) (n_true (verEq_rfl _) (n_bind fun t2 => rfl)))))))))))))
theorem lib35 : Lib Try.prog GL0 C35 :=
  Lib.fn lib54 mixed TT_ok Try.func35 (by decide +kernel) (by kernel_rfl) true noL (loops_of 0 (by kernel_rfl) below0) ks35 (F := fun us => F_target_Distance (toI (cIa (aggL (cIa us 0)) 0)) (toI (cIa (aggL (cIa us 0)) 1)) (toI (cIa (aggL (cIa us 0)) 2)) (toB (cIa (aggL (cIa us 0)) 3)) (toI (cIa (aggL (cIa us 0)) 4)) (roRows (cIa (aggL (cIa us 0)) 5)) (roRows (cIa (aggL (cIa us 0)) 6)) (roRows (cIa (aggL (cIa us 0)) 7)) (toI (cIa (aggL (cIa us 0)) 8)) (toI (cIa (aggL (cIa us 0)) 9)) (roRows (cIa (aggL (cIa us 0)) 10)) (roRows (cIa (aggL (cIa us 0)) 11)) (roRows (cIa (aggL (cIa us 0)) 12)) (roRows (cIa (aggL (cIa us 0)) 13)) (roRows (cIa (aggL (cIa us 0)) 14)) (roRows (cIa (aggL (cIa us 0)) 15)) (toI (cIa us 1)) (toI (cIa us 2))) (fun us => rfl) (fun us => run35 (toI (cIa (aggL (cIa us 0)) 0)) (toI (cIa (aggL (cIa us 0)) 1)) (toI (cIa (aggL (cIa us 0)) 2)) (toB (cIa (aggL (cIa us 0)) 3)) (toI (cIa (aggL (cIa us 0)) 4)) (roRows (cIa (aggL (cIa us 0)) 5)) (roRows (cIa (aggL (cIa us 0)) 6)) (roRows (cIa (aggL (cIa us 0)) 7)) (toI (cIa (aggL (cIa us 0)) 8)) (toI (cIa (aggL (cIa us 0)) 9)) (roRows (cIa (aggL (cIa us 0)) 10)) (roRows (cIa (aggL (cIa us 0)) 11)) (roRows (cIa (aggL (cIa us 0)) 12)) (roRows (cIa (aggL (cIa us 0)) 13)) (roRows (cIa (aggL (cIa us 0)) 14)) (roRows (cIa (aggL (cIa us 0)) 15)) (toI (cIa us 1)) (toI (cIa us 2))) (fun t => rfl)

end Go.Proofs.Ytoiimiohobollaa.AI
