/- What functions answer: printed by wip/tool2/Ev.lean out of the interpreter's run; each print is checked by Lean. -/
import Derived.Test.YtclfphmehilaeaaDoorPa
namespace Go.Proofs.YtclfphmehilaeaaDoor.AI
open Go.RowKit
set_option linter.unusedVariables false
set_option linter.unusedSimpArgs false
set_option maxRecDepth 100000
noncomputable def W12_0 : Ex → List Bool
  | .ret => [false, false, false, false, false, false, false, false, false, false, true, true, true, false, false, false, false, false, false, false, false, false, false, false, false, false, false, false, false, false, false, false, false, false, false, false, false, false, false, false, false, false, false, false, false, false, false, false, false, false, false, false, false, false, false, false, false, false, false, false, false, false, false, false, false, false, false, false, false, false, false, false, false, false, false, false, false, false, false, false, false, false, false, false, false, false, false, false, false, false, false, false, false, false, false, false, false, false, false, false, false, false, false, false, false, false, false, false]
  | .exit n => bif Nat.beq n 0 then [false, false, false, false, false, false, false, false, true, false, false, false, false, false, false, true, true, false, false, false, false, false, false, false, false, false, false, false, false, false, false, false, false, false, false, false, false, false, false, false, false, false, false, false, false, false, false, false, false, false, false, false, false, false, false, false, false, false, false, false, false, false, false, false, false, false, false, false, false, false, false, false, false, false, false, false, false, false, false, false, false, false, false, false, false, false, false, false, false, false, false, false, false, false, false, false, false, false, false, false, false, false, false, false, false, false, false, false] else []
  | _ => []
noncomputable def W12_1 : Ex → List Bool
  | .ret => [false, false, false, false, false, false, false, false, false, false, true, true, true, false, false, false, false, false, false, false, false, false, false, false, false, false, false, false, false, false, false, false, false, false, false, false, false, false, false, false, false, false, false, false, false, false, false, false, false, false, false, false, false, false, false, false, false, false, false, false, false, false, false, false, false, false, false, false, false, false, false, false, false, false, false, false, false, false, false, false, false, false, false, false, false, false, false, false, false, false, false, false, false, false, false, false, false, false, false, false, false, false, false, false, false, false, false, false]
  | .exit n => bif Nat.beq n 2 then [false, true, true, false, false, true, false, false, true, true, false, false, false, false, false, true, true, true, false, false, false, false, false, false, false, false, false, false, false, false, false, false, false, false, false, false, false, false, false, false, false, false, false, false, false, false, false, false, false, false, false, false, false, false, false, false, false, false, false, false, false, false, false, false, false, false, false, false, false, false, false, false, false, false, false, false, false, false, false, false, false, false, false, false, false, false, false, false, false, false, false, false, false, false, false, false, false, false, false, false, false, false, false, false, false, false, false, false] else bif Nat.beq n 1 then [false, true, true, false, false, true, false, false, true, true, false, false, false, false, false, true, true, true, false, false, false, false, false, false, false, false, false, false, false, false, false, false, false, false, false, false, false, false, false, false, false, false, false, false, false, false, false, false, false, false, false, false, false, false, false, false, false, false, false, false, false, false, false, false, false, false, false, false, false, false, false, false, false, false, false, false, false, false, false, false, false, false, false, false, false, false, false, false, false, false, false, false, false, false, false, false, false, false, false, false, false, false, false, false, false, false, false, false] else bif Nat.beq n 0 then [false, false, false, false, false, false, false, false, true, false, false, false, false, false, false, true, true, false, false, false, false, false, false, false, false, false, false, false, false, false, false, false, false, false, false, false, false, false, false, false, false, false, false, false, false, false, false, false, false, false, false, false, false, false, false, false, false, false, false, false, false, false, false, false, false, false, false, false, false, false, false, false, false, false, false, false, false, false, false, false, false, false, false, false, false, false, false, false, false, false, false, false, false, false, false, false, false, false, false, false, false, false, false, false, false, false, false, false] else []
  | _ => []
noncomputable def G_astar_Path_1 (R3 blocked : LL) (class_ b0_0 b0_1 : Int) (b0_2 : LL) (b6_0 b6_1 : Int) : Nat → Int → Option (Int × Int)
  | 0, _ => none
  | m + 1, x65 =>
    bif (decide (x65 < (8 : Int))) then
      Option.bind (F_terrain_Step b0_0 b0_1 b0_2 blocked class_ b6_0 b6_1 x65) fun t =>
      bif (!t.2) then
        G_astar_Path_1 R3 blocked class_ b0_0 b0_1 b0_2 b6_0 b6_1 m (wr (x65 + (1 : Int)))
      else
      Option.bind (F_grid_Step b6_0 b6_1 x65) fun t1 =>
      Option.bind (F_astar_Path_1 t1.1 t1.2 R3 b0_0 b0_1 b0_2) fun t2 =>
      bif (decide (t2 ≥ (0 : Int))) then
        Option.bind (F_astar_Path_1 t1.1 t1.2 R3 b0_0 b0_1 b0_2) fun t3 =>
        Option.bind (F_astar_Path_1 b6_0 b6_1 R3 b0_0 b0_1 b0_2) fun t4 =>
        bif ((wr (t3 + t.1)) == t4) then
          some (t1.1, t1.2)
        else
        G_astar_Path_1 R3 blocked class_ b0_0 b0_1 b0_2 b6_0 b6_1 m (wr (x65 + (1 : Int)))
      else
      G_astar_Path_1 R3 blocked class_ b0_0 b0_1 b0_2 b6_0 b6_1 m (wr (x65 + (1 : Int)))
    else
    some (b6_0, b6_1)
noncomputable def E12_1 (R3 R5 blocked : LL) (class_ x65 b0_0 b0_1 : Int) (b0_2 : LL) (b1_0 b1_1 b2_0 b2_1 b6_0 b6_1 : Int) : St := ⟨[.dead, (.ro 1 blocked), (.sc (.int .i64 class_)), .dead, .dead, (.ref 16000 1 0 0), .dead, .dead, (.ref 16016 1 0 0), (.ref 16032 1 0 0), .dead, .dead, .dead, .dead, .dead, (.clo 27 [(.ref 16000224 1 0 0), (.ref 16000 1 0 0)]), (.slc 48016 (R5).length), (.ref 16000272 1 0 0), .dead, .dead, .dead, .dead, .dead, .dead, .dead, .dead, .dead, .dead, .dead, .dead, .dead, .dead, .dead, .dead, .dead, .dead, .dead, .dead, .dead, .dead, .dead, .dead, .dead, .dead, .dead, .dead, .dead, .dead, .dead, .dead, .dead, .dead, .dead, .dead, .dead, .dead, .dead, .dead, .dead, .dead, .dead, .dead, .dead, .dead, .dead, (.sc (.int .i64 x65)), .dead, .dead, .dead, .dead, .dead, .dead, .dead, .dead, .dead, .dead, .dead, .dead, .dead, .dead, .dead, .dead, .dead, .dead, .dead, .dead, .dead, .dead, .dead, .dead, .dead, .dead, .dead, .dead, .dead, .dead, .dead, .dead, .dead, .dead, .dead, .dead, .dead, .dead, .dead, .dead, .dead, .dead], [(16000, ⟨.box, 24, 3, [[(.sc (.int .i64 b0_0)), (.sc (.int .i64 b0_1)), (.ro 3 b0_2)]]⟩), (16016, ⟨.box, 27, 2, [[(.sc (.int .i64 b1_0)), (.sc (.int .i64 b1_1))]]⟩), (16032, ⟨.box, 27, 2, [[(.sc (.int .i64 b2_0)), (.sc (.int .i64 b2_1))]]⟩), (35232, ⟨.arr, 3, 1, R3⟩), (16000224, ⟨.box, 41, 1, [[(.slc 35232 (R3).length)]]⟩), (48016, ⟨.arr, 27, 2, R5⟩), (16000272, ⟨.box, 27, 2, [[(.sc (.int .i64 b6_0)), (.sc (.int .i64 b6_1))]]⟩)]⟩
noncomputable def X12_1 (R3 R5 blocked : LL) (class_ b0_0 b0_1 : Int) (b0_2 : LL) (b1_0 b1_1 b2_0 b2_1 : Int) (k : Ex → St → Option CR) (t : Int × Int) : Option CR := k (.exit 2) ⟨[.dead, (.ro 1 blocked), (.sc (.int .i64 class_)), .dead, .dead, (.ref 16000 1 0 0), .dead, .dead, (.ref 16016 1 0 0), (.ref 16032 1 0 0), .dead, .dead, .dead, .dead, .dead, (.clo 27 [(.ref 16000224 1 0 0), (.ref 16000 1 0 0)]), (.slc 48016 (R5).length), (.ref 16000272 1 0 0), .dead, .dead, .dead, .dead, .dead, .dead, .dead, .dead, .dead, .dead, .dead, .dead, .dead, .dead, .dead, .dead, .dead, .dead, .dead, .dead, .dead, .dead, .dead, .dead, .dead, .dead, .dead, .dead, .dead, .dead, .dead, .dead, .dead, .dead, .dead, .dead, .dead, .dead, .dead, .dead, .dead, .dead, .dead, .dead, .dead, .dead, .dead, .dead, .dead, .dead, .dead, .dead, .dead, .dead, .dead, .dead, .dead, .dead, .dead, .dead, .dead, .dead, .dead, .dead, .dead, .dead, .dead, .dead, .dead, .dead, .dead, .dead, .dead, .dead, .dead, .dead, .dead, .dead, .dead, .dead, .dead, .dead, .dead, .dead, .dead, .dead, .dead, .dead, .dead, .dead], [(16000, ⟨.box, 24, 3, [[(.sc (.int .i64 b0_0)), (.sc (.int .i64 b0_1)), (.ro 3 b0_2)]]⟩), (16016, ⟨.box, 27, 2, [[(.sc (.int .i64 b1_0)), (.sc (.int .i64 b1_1))]]⟩), (16032, ⟨.box, 27, 2, [[(.sc (.int .i64 b2_0)), (.sc (.int .i64 b2_1))]]⟩), (35232, ⟨.arr, 3, 1, R3⟩), (16000224, ⟨.box, 41, 1, [[(.slc 35232 (R3).length)]]⟩), (48016, ⟨.arr, 27, 2, R5⟩), (16000272, ⟨.box, 27, 2, [[(.sc (.int .i64 t.1)), (.sc (.int .i64 t.2))]]⟩)]⟩
noncomputable def ks12_1 : List SK := [.f .dead, .f (.ro 1), .f (.int .i64), .f .dead, .f .dead, .f (.ref 16000 1 0 0), .f .dead, .f .dead, .f (.ref 16016 1 0 0), .f (.ref 16032 1 0 0), .f .dead, .f .dead, .f .dead, .f .dead, .f .dead, .f (.cloR 27 [(16000224, 1, 0, 0), (16000, 1, 0, 0)]), .f (.slc 48016 5), .f (.ref 16000272 1 0 0), .f .dead, .f .dead, .f .dead, .f .dead, .f .dead, .f .dead, .f .dead, .f .dead, .f .dead, .f .dead, .f .dead, .f .dead, .f .dead, .f .dead, .f .dead, .f .dead, .f .dead, .f .dead, .f .dead, .f .dead, .f .dead, .f .dead, .f .dead, .f .dead, .f .dead, .f .dead, .f .dead, .f .dead, .f .dead, .f .dead, .f .dead, .f .dead, .f .dead, .f .dead, .f .dead, .f .dead, .f .dead, .f .dead, .f .dead, .f .dead, .f .dead, .f .dead, .f .dead, .f .dead, .f .dead, .f .dead, .f .dead, .f (.int .i64), .f .dead, .f .dead, .f .dead, .f .dead, .f .dead, .f .dead, .f .dead, .f .dead, .f .dead, .f .dead, .f .dead, .f .dead, .f .dead, .f .dead, .f .dead, .f .dead, .f .dead, .f .dead, .f .dead, .f .dead, .f .dead, .f .dead, .f .dead, .f .dead, .f .dead, .f .dead, .f .dead, .f .dead, .f .dead, .f .dead, .f .dead, .f .dead, .f .dead, .f .dead, .f .dead, .f .dead, .f .dead, .f .dead, .f .dead, .f .dead, .f .dead, .f .dead]
noncomputable def hs12_1 : List HK := [⟨16000, .box, 24, 3, some [.int .i64, .int .i64, .ro 3]⟩, ⟨16016, .box, 27, 2, some [.int .i64, .int .i64]⟩, ⟨16032, .box, 27, 2, some [.int .i64, .int .i64]⟩, ⟨35232, .arr, 3, 1, none⟩, ⟨16000224, .box, 41, 1, some [.slc 35232 3]⟩, ⟨48016, .arr, 27, 2, none⟩, ⟨16000272, .box, 27, 2, some [.int .i64, .int .i64]⟩]
noncomputable def Lm12_1 (s : St) (k : Ex → St → Option CR) : Option CR := bif chkS ks12_1 hs12_1 s then (G_astar_Path_1 (blkAt s.heap 3).2.rows (roRows (cIa s.tmps 1)) (toI (cIa s.tmps 2)) (toI (cIa (rows0 (blkAt s.heap 0).2) 0)) (toI (cIa (rows0 (blkAt s.heap 0).2) 1)) (roRows (cIa (rows0 (blkAt s.heap 0).2) 2)) (toI (cIa (rows0 (blkAt s.heap 6).2) 0)) (toI (cIa (rows0 (blkAt s.heap 6).2) 1)) FU (toI (cIa s.tmps 65))).bind (X12_1 (blkAt s.heap 3).2.rows (blkAt s.heap 5).2.rows (roRows (cIa s.tmps 1)) (toI (cIa s.tmps 2)) (toI (cIa (rows0 (blkAt s.heap 0).2) 0)) (toI (cIa (rows0 (blkAt s.heap 0).2) 1)) (roRows (cIa (rows0 (blkAt s.heap 0).2) 2)) (toI (cIa (rows0 (blkAt s.heap 1).2) 0)) (toI (cIa (rows0 (blkAt s.heap 1).2) 1)) (toI (cIa (rows0 (blkAt s.heap 2).2) 0)) (toI (cIa (rows0 (blkAt s.heap 2).2) 1)) k) else none
noncomputable def L12_1 (s : St) (k : Ex → St → Option CR) : Option CR := Lm12_1 (maskS (maskOf ks12_1) s) k
noncomputable def G_astar_Path_0 (R3 blocked : LL) (class_ b0_0 b0_1 : Int) (b0_2 : LL) (b2_0 b2_1 : Int) : Nat → LL → Int → Int → Option (LL)
  | 0, _, _, _ => none
  | m + 1, R5, b6_0, b6_1 =>
    bif (!((b6_0 == b2_0) && (b6_1 == b2_1))) then
      Option.bind (G_astar_Path_1 R3 blocked class_ b0_0 b0_1 b0_2 b6_0 b6_1 FU (0 : Int)) fun t =>
      bif (roomOk (R5.length + 1) 16) then
        G_astar_Path_0 R3 blocked class_ b0_0 b0_1 b0_2 b2_0 b2_1 m (R5 ++ [[(i64 t.1), (i64 t.2)]]) t.1 t.2
      else
      none
    else
    some R5
noncomputable def E12_0 (R3 R5 blocked : LL) (class_ b0_0 b0_1 : Int) (b0_2 : LL) (b1_0 b1_1 b2_0 b2_1 b6_0 b6_1 : Int) : St := ⟨[.dead, (.ro 1 blocked), (.sc (.int .i64 class_)), .dead, .dead, (.ref 16000 1 0 0), .dead, .dead, (.ref 16016 1 0 0), (.ref 16032 1 0 0), .dead, .dead, .dead, .dead, .dead, (.clo 27 [(.ref 16000224 1 0 0), (.ref 16000 1 0 0)]), (.slc 48016 (R5).length), (.ref 16000272 1 0 0), .dead, .dead, .dead, .dead, .dead, .dead, .dead, .dead, .dead, .dead, .dead, .dead, .dead, .dead, .dead, .dead, .dead, .dead, .dead, .dead, .dead, .dead, .dead, .dead, .dead, .dead, .dead, .dead, .dead, .dead, .dead, .dead, .dead, .dead, .dead, .dead, .dead, .dead, .dead, .dead, .dead, .dead, .dead, .dead, .dead, .dead, .dead, .dead, .dead, .dead, .dead, .dead, .dead, .dead, .dead, .dead, .dead, .dead, .dead, .dead, .dead, .dead, .dead, .dead, .dead, .dead, .dead, .dead, .dead, .dead, .dead, .dead, .dead, .dead, .dead, .dead, .dead, .dead, .dead, .dead, .dead, .dead, .dead, .dead, .dead, .dead, .dead, .dead, .dead, .dead], [(16000, ⟨.box, 24, 3, [[(.sc (.int .i64 b0_0)), (.sc (.int .i64 b0_1)), (.ro 3 b0_2)]]⟩), (16016, ⟨.box, 27, 2, [[(.sc (.int .i64 b1_0)), (.sc (.int .i64 b1_1))]]⟩), (16032, ⟨.box, 27, 2, [[(.sc (.int .i64 b2_0)), (.sc (.int .i64 b2_1))]]⟩), (35232, ⟨.arr, 3, 1, R3⟩), (16000224, ⟨.box, 41, 1, [[(.slc 35232 (R3).length)]]⟩), (48016, ⟨.arr, 27, 2, R5⟩), (16000272, ⟨.box, 27, 2, [[(.sc (.int .i64 b6_0)), (.sc (.int .i64 b6_1))]]⟩)]⟩
noncomputable def X12_0 (R3 : LL) (b0_0 b0_1 : Int) (b0_2 : LL) (b1_0 b1_1 : Int) (k : Ex → St → Option CR) (t : LL) : Option CR := k (.exit 0) ⟨[.dead, .dead, .dead, .dead, .dead, .dead, .dead, .dead, (.ref 16016 1 0 0), .dead, .dead, .dead, .dead, .dead, .dead, (.clo 27 [(.ref 16000224 1 0 0), (.ref 16000 1 0 0)]), (.slc 48016 (t).length), .dead, .dead, .dead, .dead, .dead, .dead, .dead, .dead, .dead, .dead, .dead, .dead, .dead, .dead, .dead, .dead, .dead, .dead, .dead, .dead, .dead, .dead, .dead, .dead, .dead, .dead, .dead, .dead, .dead, .dead, .dead, .dead, .dead, .dead, .dead, .dead, .dead, .dead, .dead, .dead, .dead, .dead, .dead, .dead, .dead, .dead, .dead, .dead, .dead, .dead, .dead, .dead, .dead, .dead, .dead, .dead, .dead, .dead, .dead, .dead, .dead, .dead, .dead, .dead, .dead, .dead, .dead, .dead, .dead, .dead, .dead, .dead, .dead, .dead, .dead, .dead, .dead, .dead, .dead, .dead, .dead, .dead, .dead, .dead, .dead, .dead, .dead, .dead, .dead, .dead, .dead], [(16000, ⟨.box, 24, 3, [[(.sc (.int .i64 b0_0)), (.sc (.int .i64 b0_1)), (.ro 3 b0_2)]]⟩), (16016, ⟨.box, 27, 2, [[(.sc (.int .i64 b1_0)), (.sc (.int .i64 b1_1))]]⟩), (35232, ⟨.arr, 3, 1, R3⟩), (16000224, ⟨.box, 41, 1, [[(.slc 35232 (R3).length)]]⟩), (48016, ⟨.arr, 27, 2, t⟩)]⟩
noncomputable def ks12_0 : List SK := [.f .dead, .f (.ro 1), .f (.int .i64), .f .dead, .f .dead, .f (.ref 16000 1 0 0), .f .dead, .f .dead, .f (.ref 16016 1 0 0), .f (.ref 16032 1 0 0), .f .dead, .f .dead, .f .dead, .f .dead, .f .dead, .f (.cloR 27 [(16000224, 1, 0, 0), (16000, 1, 0, 0)]), .f (.slc 48016 5), .f (.ref 16000272 1 0 0), .f .dead, .f .dead, .f .dead, .f .dead, .f .dead, .f .dead, .f .dead, .f .dead, .f .dead, .f .dead, .f .dead, .f .dead, .f .dead, .f .dead, .f .dead, .f .dead, .f .dead, .f .dead, .f .dead, .f .dead, .f .dead, .f .dead, .f .dead, .f .dead, .f .dead, .f .dead, .f .dead, .f .dead, .f .dead, .f .dead, .f .dead, .f .dead, .f .dead, .f .dead, .f .dead, .f .dead, .f .dead, .f .dead, .f .dead, .f .dead, .f .dead, .f .dead, .f .dead, .f .dead, .f .dead, .f .dead, .f .dead, .f .dead, .f .dead, .f .dead, .f .dead, .f .dead, .f .dead, .f .dead, .f .dead, .f .dead, .f .dead, .f .dead, .f .dead, .f .dead, .f .dead, .f .dead, .f .dead, .f .dead, .f .dead, .f .dead, .f .dead, .f .dead, .f .dead, .f .dead, .f .dead, .f .dead, .f .dead, .f .dead, .f .dead, .f .dead, .f .dead, .f .dead, .f .dead, .f .dead, .f .dead, .f .dead, .f .dead, .f .dead, .f .dead, .f .dead, .f .dead, .f .dead, .f .dead, .f .dead]
noncomputable def hs12_0 : List HK := [⟨16000, .box, 24, 3, some [.int .i64, .int .i64, .ro 3]⟩, ⟨16016, .box, 27, 2, some [.int .i64, .int .i64]⟩, ⟨16032, .box, 27, 2, some [.int .i64, .int .i64]⟩, ⟨35232, .arr, 3, 1, none⟩, ⟨16000224, .box, 41, 1, some [.slc 35232 3]⟩, ⟨48016, .arr, 27, 2, none⟩, ⟨16000272, .box, 27, 2, some [.int .i64, .int .i64]⟩]
noncomputable def Lm12_0 (s : St) (k : Ex → St → Option CR) : Option CR := bif chkS ks12_0 hs12_0 s then (G_astar_Path_0 (blkAt s.heap 3).2.rows (roRows (cIa s.tmps 1)) (toI (cIa s.tmps 2)) (toI (cIa (rows0 (blkAt s.heap 0).2) 0)) (toI (cIa (rows0 (blkAt s.heap 0).2) 1)) (roRows (cIa (rows0 (blkAt s.heap 0).2) 2)) (toI (cIa (rows0 (blkAt s.heap 2).2) 0)) (toI (cIa (rows0 (blkAt s.heap 2).2) 1)) FU (blkAt s.heap 5).2.rows (toI (cIa (rows0 (blkAt s.heap 6).2) 0)) (toI (cIa (rows0 (blkAt s.heap 6).2) 1))).bind (X12_0 (blkAt s.heap 3).2.rows (toI (cIa (rows0 (blkAt s.heap 0).2) 0)) (toI (cIa (rows0 (blkAt s.heap 0).2) 1)) (roRows (cIa (rows0 (blkAt s.heap 0).2) 2)) (toI (cIa (rows0 (blkAt s.heap 1).2) 0)) (toI (cIa (rows0 (blkAt s.heap 1).2) 1)) k) else none
noncomputable def L12_0 (s : St) (k : Ex → St → Option CR) : Option CR := Lm12_0 (maskS (maskOf ks12_0) s) k
noncomputable def L12 : LT' := fun i s k => bif Nat.beq i 0 then L12_0 s k else bif Nat.beq i 2 then L12_1 s k else none
noncomputable def F_astar_Path (m_W m_H : Int) (m_Cells blocked : LL) (class_ a_X a_Y b_X b_Y : Int) : Option (LL × Int × Int) :=
  Option.bind (F_astar_ground__valid m_W m_H m_Cells blocked class_) fun t =>
  bif (!t) then
    some ([], (0 : Int), (1 : Int))
  else
  Option.bind (F_astar_ground__inside m_W m_H m_Cells blocked class_ a_X a_Y) fun t1 =>
  bif (!t1) then
    some ([], (0 : Int), (1 : Int))
  else
  Option.bind (F_astar_ground__inside m_W m_H m_Cells blocked class_ b_X b_Y) fun t2 =>
  bif (!t2) then
    some ([], (0 : Int), (1 : Int))
  else
  Option.bind (F_astar_ground__free m_W m_H m_Cells blocked class_ a_X a_Y) fun t3 =>
  bif (!t3) then
    some ([], (0 : Int), (9 : Int))
  else
  Option.bind (F_astar_ground__free m_W m_H m_Cells blocked class_ b_X b_Y) fun t4 =>
  bif (!t4) then
    some ([], (0 : Int), (9 : Int))
  else
  Option.bind (F_astar_ground__reach m_W m_H m_Cells blocked class_ b_X b_Y) fun t5 =>
  Option.bind (F_astar_Path_1 a_X a_Y t5 m_W m_H m_Cells) fun t6 =>
  bif (decide (t6 < (0 : Int))) then
    some ([], (0 : Int), (22 : Int))
  else
  Option.bind (G_astar_Path_0 t5 blocked class_ m_W m_H m_Cells b_X b_Y FU [[(i64 a_X), (i64 a_Y)]] a_X a_Y) fun t7 =>
  Option.bind (F_astar_Path_1 a_X a_Y t5 m_W m_H m_Cells) fun t8 =>
  some (t7, t8, (0 : Int))
noncomputable def enc12 (t : LL × Int × Int) : CR := ⟨true, (.tup [(.slc 0 (t.1).length), (.sc (.int .i64 t.2.1)), (.sc (.int .i64 t.2.2))]), [], [⟨.arr, 27, 2, t.1⟩]⟩
noncomputable def ks12 : List SK := [.agg [.int .i64, .int .i64, .ro 3], .f (.ro 1), .f (.int .i64), .agg [.int .i64, .int .i64], .agg [.int .i64, .int .i64]]
noncomputable def S12 (us : List AVal) : Call := bif chkA ks12 us then Call.of (F_astar_Path (toI (cIa (aggL (cIa us 0)) 0)) (toI (cIa (aggL (cIa us 0)) 1)) (roRows (cIa (aggL (cIa us 0)) 2)) (roRows (cIa us 1)) (toI (cIa us 2)) (toI (cIa (aggL (cIa us 3)) 0)) (toI (cIa (aggL (cIa us 3)) 1)) (toI (cIa (aggL (cIa us 4)) 0)) (toI (cIa (aggL (cIa us 4)) 1))) enc12 else Call.none
noncomputable def C12 := AI.ext 12 S12 C26
@[reducible] noncomputable def B12_1 := bodyOf TT TU GL0 C26 ownF L12 (lp Tryd.f12 1)
@[reducible] noncomputable def K12_1 (k : Ex → St → Option CR) : Ex → St → Option CR := fun e s => k e (maskS (W12_1 e) s)
theorem spec12_1 (k : Ex → St → Option CR) : ∀ (m : Nat) (R3 R5 blocked : LL) (class_ x65 b0_0 b0_1 : Int) (b0_2 : LL) (b1_0 b1_1 b2_0 b2_1 b6_0 b6_1 : Int), loopN B12_1 m (E12_1 R3 R5 blocked class_ x65 b0_0 b0_1 b0_2 b1_0 b1_1 b2_0 b2_1 b6_0 b6_1) (K12_1 k) = (G_astar_Path_1 R3 blocked class_ b0_0 b0_1 b0_2 b6_0 b6_1 m x65).bind (X12_1 R3 R5 blocked class_ b0_0 b0_1 b0_2 b1_0 b1_1 b2_0 b2_1 k)
  | 0, _, _, _, _, _, _, _, _, _, _, _, _, _, _ => rfl
  | m + 1, R3, R5, blocked, class_, x65, b0_0, b0_1, b0_2, b1_0, b1_1, b2_0, b2_1, b6_0, b6_1 =>
    Eq.trans (by kernel_rfl) (n_condH rfl (fun h0 => (n_bind fun t => (n_condH rfl (fun h1 => (spec12_1 k m R3 R5 blocked class_ (wr (x65 + (1 : Int))) b0_0 b0_1 b0_2 b1_0 b1_1 b2_0 b2_1 b6_0 b6_1)) fun h1 => (n_bind fun t1 => (n_tru (show (((true && (verEq R3.length (blkLen [(Prod.mk 0 (Blk.mk BKind.box 41 1 [[(AVal.slc 2 R3.length)]])), (Prod.mk 1 (Blk.mk BKind.box 24 3 [[(i64 b0_0), (i64 b0_1), (AVal.ro 3 b0_2)]])), (Prod.mk 2 (Blk.mk BKind.arr 3 1 R3))] 2))) && true) && true) = true from (n_andL (n_andL (n_andL rfl (by first | exact verEq_of rfl | simp [verEq, blkLen, blkAt])) rfl) rfl)) (n_bind fun t2 => (n_condH rfl (fun h2 => (n_tru (show (((true && (verEq R3.length (blkLen [(Prod.mk 0 (Blk.mk BKind.box 41 1 [[(AVal.slc 2 R3.length)]])), (Prod.mk 1 (Blk.mk BKind.box 24 3 [[(i64 b0_0), (i64 b0_1), (AVal.ro 3 b0_2)]])), (Prod.mk 2 (Blk.mk BKind.arr 3 1 R3))] 2))) && true) && true) = true from (n_andL (n_andL (n_andL rfl (by first | exact verEq_of rfl | simp [verEq, blkLen, blkAt])) rfl) rfl)) (n_bind fun t3 => (n_tru (show (((true && (verEq R3.length (blkLen [(Prod.mk 0 (Blk.mk BKind.box 41 1 [[(AVal.slc 2 R3.length)]])), (Prod.mk 1 (Blk.mk BKind.box 24 3 [[(i64 b0_0), (i64 b0_1), (AVal.ro 3 b0_2)]])), (Prod.mk 2 (Blk.mk BKind.arr 3 1 R3))] 2))) && true) && true) = true from (n_andL (n_andL (n_andL rfl (by first | exact verEq_of rfl | simp [verEq, blkLen, blkAt])) rfl) rfl)) (n_bind fun t4 => (n_condH rfl (fun h3 => rfl) fun h3 => (spec12_1 k m R3 R5 blocked class_ (wr (x65 + (1 : Int))) b0_0 b0_1 b0_2 b1_0 b1_1 b2_0 b2_1 b6_0 b6_1))))))) fun h2 => (spec12_1 k m R3 R5 blocked class_ (wr (x65 + (1 : Int))) b0_0 b0_1 b0_2 b1_0 b1_1 b2_0 b2_1 b6_0 b6_1)))))))) fun h0 => rfl)
theorem okL12_1 : LoopOk TT TU GL0 C26 ownF L12 (lp Tryd.f12 1) :=
  loopOk_of ks12_1 hs12_1 W12_1 FU (fun s k => (G_astar_Path_1 (blkAt s.heap 3).2.rows (roRows (cIa s.tmps 1)) (toI (cIa s.tmps 2)) (toI (cIa (rows0 (blkAt s.heap 0).2) 0)) (toI (cIa (rows0 (blkAt s.heap 0).2) 1)) (roRows (cIa (rows0 (blkAt s.heap 0).2) 2)) (toI (cIa (rows0 (blkAt s.heap 6).2) 0)) (toI (cIa (rows0 (blkAt s.heap 6).2) 1)) FU (toI (cIa s.tmps 65))).bind (X12_1 (blkAt s.heap 3).2.rows (blkAt s.heap 5).2.rows (roRows (cIa s.tmps 1)) (toI (cIa s.tmps 2)) (toI (cIa (rows0 (blkAt s.heap 0).2) 0)) (toI (cIa (rows0 (blkAt s.heap 0).2) 1)) (roRows (cIa (rows0 (blkAt s.heap 0).2) 2)) (toI (cIa (rows0 (blkAt s.heap 1).2) 0)) (toI (cIa (rows0 (blkAt s.heap 1).2) 1)) (toI (cIa (rows0 (blkAt s.heap 2).2) 0)) (toI (cIa (rows0 (blkAt s.heap 2).2) 1)) k)) (fun s k => by kernel_rfl) (fun s k => spec12_1 k FU (blkAt s.heap 3).2.rows (blkAt s.heap 5).2.rows (roRows (cIa s.tmps 1)) (toI (cIa s.tmps 2)) (toI (cIa s.tmps 65)) (toI (cIa (rows0 (blkAt s.heap 0).2) 0)) (toI (cIa (rows0 (blkAt s.heap 0).2) 1)) (roRows (cIa (rows0 (blkAt s.heap 0).2) 2)) (toI (cIa (rows0 (blkAt s.heap 1).2) 0)) (toI (cIa (rows0 (blkAt s.heap 1).2) 1)) (toI (cIa (rows0 (blkAt s.heap 2).2) 0)) (toI (cIa (rows0 (blkAt s.heap 2).2) 1)) (toI (cIa (rows0 (blkAt s.heap 6).2) 0)) (toI (cIa (rows0 (blkAt s.heap 6).2) 1)))
@[reducible] noncomputable def B12_0 := bodyOf TT TU GL0 C26 ownF L12 (lp Tryd.f12 0)
@[reducible] noncomputable def K12_0 (k : Ex → St → Option CR) : Ex → St → Option CR := fun e s => k e (maskS (W12_0 e) s)
theorem spec12_0 (k : Ex → St → Option CR) : ∀ (m : Nat) (R3 R5 blocked : LL) (class_ b0_0 b0_1 : Int) (b0_2 : LL) (b1_0 b1_1 b2_0 b2_1 b6_0 b6_1 : Int), loopN B12_0 m (E12_0 R3 R5 blocked class_ b0_0 b0_1 b0_2 b1_0 b1_1 b2_0 b2_1 b6_0 b6_1) (K12_0 k) = (G_astar_Path_0 R3 blocked class_ b0_0 b0_1 b0_2 b2_0 b2_1 m R5 b6_0 b6_1).bind (X12_0 R3 b0_0 b0_1 b0_2 b1_0 b1_1 k)
  | 0, _, _, _, _, _, _, _, _, _, _, _, _, _ => rfl
  | m + 1, R3, R5, blocked, class_, b0_0, b0_1, b0_2, b1_0, b1_1, b2_0, b2_1, b6_0, b6_1 =>
    Eq.trans (by kernel_rfl) (n_condH rfl (fun h0 => (n_tru (show (((true && (verEq R5.length (blkLen [(Prod.mk 16000 (Blk.mk BKind.box 24 3 [[(i64 b0_0), (i64 b0_1), (AVal.ro 3 b0_2)]])), (Prod.mk 16016 (Blk.mk BKind.box 27 2 [[(i64 b1_0), (i64 b1_1)]])), (Prod.mk 16032 (Blk.mk BKind.box 27 2 [[(i64 b2_0), (i64 b2_1)]])), (Prod.mk 35232 (Blk.mk BKind.arr 3 1 R3)), (Prod.mk 16000224 (Blk.mk BKind.box 41 1 [[(AVal.slc 35232 R3.length)]])), (Prod.mk 48016 (Blk.mk BKind.arr 27 2 R5)), (Prod.mk 16000272 (Blk.mk BKind.box 27 2 [[(i64 b6_0), (i64 b6_1)]]))] 5))) && true) && (((true && (verEq R3.length (blkLen [(Prod.mk 16000 (Blk.mk BKind.box 24 3 [[(i64 b0_0), (i64 b0_1), (AVal.ro 3 b0_2)]])), (Prod.mk 16016 (Blk.mk BKind.box 27 2 [[(i64 b1_0), (i64 b1_1)]])), (Prod.mk 16032 (Blk.mk BKind.box 27 2 [[(i64 b2_0), (i64 b2_1)]])), (Prod.mk 35232 (Blk.mk BKind.arr 3 1 R3)), (Prod.mk 16000224 (Blk.mk BKind.box 41 1 [[(AVal.slc 35232 R3.length)]])), (Prod.mk 48016 (Blk.mk BKind.arr 27 2 R5)), (Prod.mk 16000272 (Blk.mk BKind.box 27 2 [[(i64 b6_0), (i64 b6_1)]]))] 3))) && true) && true)) = true from (n_andL (n_andL (n_andL rfl (by first | exact verEq_of rfl | simp [verEq, blkLen, blkAt])) rfl) (n_andL (n_andL (n_andL rfl (by first | exact verEq_of rfl | simp [verEq, blkLen, blkAt])) rfl) rfl))) (n_bind fun t => (n_condH (show ((((verEq R5.length R5.length) && true) && (roomOk (R5.length + 1) 16))) = _ from (n_andL (n_andL (verEq_rfl _) rfl) rfl)) (fun h1 => (spec12_0 k m R3 (R5 ++ [[(i64 t.1), (i64 t.2)]]) blocked class_ b0_0 b0_1 b0_2 b1_0 b1_1 b2_0 b2_1 t.1 t.2)) fun h1 => rfl)))) fun h0 => rfl)
theorem okL12_0 : LoopOk TT TU GL0 C26 ownF L12 (lp Tryd.f12 0) :=
  loopOk_of ks12_0 hs12_0 W12_0 FU (fun s k => (G_astar_Path_0 (blkAt s.heap 3).2.rows (roRows (cIa s.tmps 1)) (toI (cIa s.tmps 2)) (toI (cIa (rows0 (blkAt s.heap 0).2) 0)) (toI (cIa (rows0 (blkAt s.heap 0).2) 1)) (roRows (cIa (rows0 (blkAt s.heap 0).2) 2)) (toI (cIa (rows0 (blkAt s.heap 2).2) 0)) (toI (cIa (rows0 (blkAt s.heap 2).2) 1)) FU (blkAt s.heap 5).2.rows (toI (cIa (rows0 (blkAt s.heap 6).2) 0)) (toI (cIa (rows0 (blkAt s.heap 6).2) 1))).bind (X12_0 (blkAt s.heap 3).2.rows (toI (cIa (rows0 (blkAt s.heap 0).2) 0)) (toI (cIa (rows0 (blkAt s.heap 0).2) 1)) (roRows (cIa (rows0 (blkAt s.heap 0).2) 2)) (toI (cIa (rows0 (blkAt s.heap 1).2) 0)) (toI (cIa (rows0 (blkAt s.heap 1).2) 1)) k)) (fun s k => by kernel_rfl) (fun s k => spec12_0 k FU (blkAt s.heap 3).2.rows (blkAt s.heap 5).2.rows (roRows (cIa s.tmps 1)) (toI (cIa s.tmps 2)) (toI (cIa (rows0 (blkAt s.heap 0).2) 0)) (toI (cIa (rows0 (blkAt s.heap 0).2) 1)) (roRows (cIa (rows0 (blkAt s.heap 0).2) 2)) (toI (cIa (rows0 (blkAt s.heap 1).2) 0)) (toI (cIa (rows0 (blkAt s.heap 1).2) 1)) (toI (cIa (rows0 (blkAt s.heap 2).2) 0)) (toI (cIa (rows0 (blkAt s.heap 2).2) 1)) (toI (cIa (rows0 (blkAt s.heap 6).2) 0)) (toI (cIa (rows0 (blkAt s.heap 6).2) 1)))
theorem run12 (m_W m_H : Int) (m_Cells blocked : LL) (class_ a_X a_Y b_X b_Y : Int) : fcall TT TU GL0 C26 ownF true L12 Tryd.f12 [(.agg [(.sc (.int .i64 m_W)), (.sc (.int .i64 m_H)), (.ro 3 m_Cells)]), (.ro 1 blocked), (.sc (.int .i64 class_)), (.agg [(.sc (.int .i64 a_X)), (.sc (.int .i64 a_Y))]), (.agg [(.sc (.int .i64 b_X)), (.sc (.int .i64 b_Y))])] = (F_astar_Path m_W m_H m_Cells blocked class_ a_X a_Y b_X b_Y).bind fun t => some (enc12 t) :=
  Eq.trans (by kernel_rfl) (n_bind fun t => (n_condH rfl (fun h0 => rfl) fun h0 => (n_bind fun t1 => (n_condH rfl (fun h1 => rfl) fun h1 => (n_bind fun t2 => (n_condH rfl (fun h2 => rfl) fun h2 => (n_bind fun t3 => (n_condH rfl (fun h3 => rfl) fun h3 => (n_bind fun t4 => (n_condH rfl (fun h4 => rfl) fun h4 => (n_bind fun t5 => (n_tru (show ((((true && (verEq t5.length t5.length)) && true) && true) && true) = true from (n_andL (n_andL (n_andL (n_andL rfl (verEq_rfl _)) rfl) rfl) rfl)) (n_tru (show (((true && (verEq t5.length (blkLen [(Prod.mk 0 (Blk.mk BKind.box 41 1 [[(AVal.slc 2 t5.length)]])), (Prod.mk 1 (Blk.mk BKind.box 24 3 [[(i64 m_W), (i64 m_H), (AVal.ro 3 m_Cells)]])), (Prod.mk 2 (Blk.mk BKind.arr 3 1 t5))] 2))) && true) && true) = true from (n_andL (n_andL (n_andL rfl (by first | exact verEq_of rfl | simp [verEq, blkLen, blkAt])) rfl) rfl)) (n_bind fun t6 => (n_condH rfl (fun h5 => rfl) fun h5 => (n_tru (show (((true && (verEq t5.length (blkLen [(Prod.mk 16000 (Blk.mk BKind.box 24 3 [[(i64 m_W), (i64 m_H), (AVal.ro 3 m_Cells)]])), (Prod.mk 16016 (Blk.mk BKind.box 27 2 [[(i64 a_X), (i64 a_Y)]])), (Prod.mk 16032 (Blk.mk BKind.box 27 2 [[(i64 b_X), (i64 b_Y)]])), (Prod.mk 35232 (Blk.mk BKind.arr 3 1 t5)), (Prod.mk 16000224 (Blk.mk BKind.box 41 1 [[(AVal.slc 35232 t5.length)]])), (Prod.mk 48016 (Blk.mk BKind.arr 27 2 [[(i64 a_X), (i64 a_Y)]])), (Prod.mk 16000272 (Blk.mk BKind.box 27 2 [[(i64 a_X), (i64 a_Y)]]))] 3))) && true) && true) = true from (n_andL (n_andL (n_andL rfl (by first | exact verEq_of rfl | simp [verEq, blkLen, blkAt])) rfl) rfl)) (n_bind fun t7 => (n_tru (show (((true && (verEq t5.length (blkLen [(Prod.mk 0 (Blk.mk BKind.box 41 1 [[(AVal.slc 2 t5.length)]])), (Prod.mk 1 (Blk.mk BKind.box 24 3 [[(i64 m_W), (i64 m_H), (AVal.ro 3 m_Cells)]])), (Prod.mk 2 (Blk.mk BKind.arr 3 1 t5))] 2))) && true) && true) = true from (n_andL (n_andL (n_andL rfl (by first | exact verEq_of rfl | simp [verEq, blkLen, blkAt])) rfl) rfl)) (n_bind fun t8 => (n_tru (show (verEq t7.length t7.length) = true from (verEq_rfl _)) rfl))))))))))))))))))))
theorem lib12 : Lib Tryd.prog GL0 C12 :=
  Lib.fn lib26 mixed TT_ok Tryd.func12 (by decide +kernel) (by kernel_rfl) true L12 (loops_of 2 (by kernel_rfl) (belowS (belowS below0 okL12_0) okL12_1)) ks12 (F := fun us => F_astar_Path (toI (cIa (aggL (cIa us 0)) 0)) (toI (cIa (aggL (cIa us 0)) 1)) (roRows (cIa (aggL (cIa us 0)) 2)) (roRows (cIa us 1)) (toI (cIa us 2)) (toI (cIa (aggL (cIa us 3)) 0)) (toI (cIa (aggL (cIa us 3)) 1)) (toI (cIa (aggL (cIa us 4)) 0)) (toI (cIa (aggL (cIa us 4)) 1))) (fun us => rfl) (fun us => run12 (toI (cIa (aggL (cIa us 0)) 0)) (toI (cIa (aggL (cIa us 0)) 1)) (roRows (cIa (aggL (cIa us 0)) 2)) (roRows (cIa us 1)) (toI (cIa us 2)) (toI (cIa (aggL (cIa us 3)) 0)) (toI (cIa (aggL (cIa us 3)) 1)) (toI (cIa (aggL (cIa us 4)) 0)) (toI (cIa (aggL (cIa us 4)) 1))) (fun t => rfl)
noncomputable def F_astar_Cost_1 (p_X p_Y a1_m_W a1_m_H : Int) (a1_m_Cells a1_blocked : LL) (a1_class : Int) : Option (Bool) :=
  Option.bind (F_astar_ground__inside a1_m_W a1_m_H a1_m_Cells a1_blocked a1_class p_X p_Y) fun t =>
  some (!t)
noncomputable def enc38 (t : Bool) : CR := ⟨true, (.sc (.bool t)), [], []⟩
noncomputable def ks38 : List SK := [.agg [.int .i64, .int .i64], .rptr [.int .i64, .int .i64, .ro 3, .ro 1, .int .i64]]
noncomputable def S38 (us : List AVal) : Call := bif chkA ks38 us then Call.of (F_astar_Cost_1 (toI (cIa (aggL (cIa us 0)) 0)) (toI (cIa (aggL (cIa us 0)) 1)) (toI (cIa (rptrL (cIa us 1)) 0)) (toI (cIa (rptrL (cIa us 1)) 1)) (roRows (cIa (rptrL (cIa us 1)) 2)) (roRows (cIa (rptrL (cIa us 1)) 3)) (toI (cIa (rptrL (cIa us 1)) 4))) enc38 else Call.none
noncomputable def C38 := AI.ext 38 S38 C12
theorem run38 (p_X p_Y a1_m_W a1_m_H : Int) (a1_m_Cells a1_blocked : LL) (a1_class : Int) : fcall TT TU GL0 C12 ownF true noL Tryd.f38 [(.agg [(.sc (.int .i64 p_X)), (.sc (.int .i64 p_Y))]), (.rptr [(.sc (.int .i64 a1_m_W)), (.sc (.int .i64 a1_m_H)), (.ro 3 a1_m_Cells), (.ro 1 a1_blocked), (.sc (.int .i64 a1_class))])] = (F_astar_Cost_1 p_X p_Y a1_m_W a1_m_H a1_m_Cells a1_blocked a1_class).bind fun t => some (enc38 t) :=
  Eq.trans (by kernel_rfl) (n_bind fun t => rfl)
theorem lib38 : Lib Tryd.prog GL0 C38 :=
  Lib.fn lib12 mixed TT_ok Tryd.func38 (by decide +kernel) (by kernel_rfl) true noL (loops_of 0 (by kernel_rfl) below0) ks38 (F := fun us => F_astar_Cost_1 (toI (cIa (aggL (cIa us 0)) 0)) (toI (cIa (aggL (cIa us 0)) 1)) (toI (cIa (rptrL (cIa us 1)) 0)) (toI (cIa (rptrL (cIa us 1)) 1)) (roRows (cIa (rptrL (cIa us 1)) 2)) (roRows (cIa (rptrL (cIa us 1)) 3)) (toI (cIa (rptrL (cIa us 1)) 4))) (fun us => rfl) (fun us => run38 (toI (cIa (aggL (cIa us 0)) 0)) (toI (cIa (aggL (cIa us 0)) 1)) (toI (cIa (rptrL (cIa us 1)) 0)) (toI (cIa (rptrL (cIa us 1)) 1)) (roRows (cIa (rptrL (cIa us 1)) 2)) (roRows (cIa (rptrL (cIa us 1)) 3)) (toI (cIa (rptrL (cIa us 1)) 4))) (fun t => rfl)
noncomputable def W61_0 : Ex → List Bool
  | .ret => [false, false, false, false, true, false, false, false, false, false, false, false, false, false, false, false, false, false, false]
  | .exit n => bif Nat.beq n 0 then [false, false, false, false, false, false, false, false, false, false, false, false, false, false, false, false, false, false, false] else []
  | _ => []
noncomputable def G_slices_IndexFunc_Pos_0 (s1 : LL) (f_0_0 f_0_1 : Int) (f_0_2 f_0_3 : LL) (f_0_4 x7 : Int) : Nat → Int → Option (Bool × Int)
  | 0, _ => none
  | m + 1, x8 =>
    bif (decide (x8 < x7)) then
      bif (decide ((0 : Int) ≤ x8)) then
        Option.bind (s1[x8.toNat]?) fun r =>
        bif (chk [(LT.int IntKind.i64), (LT.int IntKind.i64)] r) then
          Option.bind (F_astar_Cost_1 (cI r 0) (cI r 1) f_0_0 f_0_1 f_0_2 f_0_3 f_0_4) fun t =>
          bif t then
            some (true, x8)
          else
          G_slices_IndexFunc_Pos_0 s1 f_0_0 f_0_1 f_0_2 f_0_3 f_0_4 x7 m (wr (x8 + (1 : Int)))
        else
        none
      else
      none
    else
    some (false, 0)
noncomputable def E61_0 (s1 : LL) (f_0_0 f_0_1 : Int) (f_0_2 f_0_3 : LL) (f_0_4 x7 x8 : Int) : St := ⟨[(.ro 2 s1), (.clo 38 [(.rptr [(.sc (.int .i64 f_0_0)), (.sc (.int .i64 f_0_1)), (.ro 3 f_0_2), (.ro 1 f_0_3), (.sc (.int .i64 f_0_4))])]), .dead, .dead, .dead, .dead, .dead, (.sc (.int .i64 x7)), (.sc (.int .i64 x8)), .dead, .dead, .dead, .dead, .dead, .dead, .dead, .dead, .dead, .dead], []⟩
noncomputable def X61_0 (k : Ex → St → Option CR) (t : Bool × Int) : Option CR := bif t.1 then k .ret ⟨[.dead, .dead, .dead, .dead, (.sc (.int .i64 t.2)), .dead, .dead, .dead, .dead, .dead, .dead, .dead, .dead, .dead, .dead, .dead, .dead, .dead, .dead], []⟩ else k (.exit 0) ⟨[.dead, .dead, .dead, .dead, .dead, .dead, .dead, .dead, .dead, .dead, .dead, .dead, .dead, .dead, .dead, .dead, .dead, .dead, .dead], []⟩
noncomputable def ks61_0 : List SK := [.f (.ro 2), .f (.clo 38 [[.int .i64, .int .i64, .sl 0 3, .sl 0 1, .int .i64]]), .f .dead, .f .dead, .f .dead, .f .dead, .f .dead, .f (.int .i64), .f (.int .i64), .f .dead, .f .dead, .f .dead, .f .dead, .f .dead, .f .dead, .f .dead, .f .dead, .f .dead, .f .dead]
noncomputable def hs61_0 : List HK := []
noncomputable def Lm61_0 (s : St) (k : Ex → St → Option CR) : Option CR := bif chkS ks61_0 hs61_0 s then (G_slices_IndexFunc_Pos_0 (roRows (cIa s.tmps 0)) (toI (cIa (rptrL (cIa (cloL (cIa s.tmps 1)) 0)) 0)) (toI (cIa (rptrL (cIa (cloL (cIa s.tmps 1)) 0)) 1)) (roRows (cIa (rptrL (cIa (cloL (cIa s.tmps 1)) 0)) 2)) (roRows (cIa (rptrL (cIa (cloL (cIa s.tmps 1)) 0)) 3)) (toI (cIa (rptrL (cIa (cloL (cIa s.tmps 1)) 0)) 4)) (toI (cIa s.tmps 7)) FU (toI (cIa s.tmps 8))).bind (X61_0 k) else none
noncomputable def L61_0 (s : St) (k : Ex → St → Option CR) : Option CR := Lm61_0 (maskS (maskOf ks61_0) s) k
noncomputable def L61 : LT' := fun i s k => bif Nat.beq i 0 then L61_0 s k else none
noncomputable def F_slices_IndexFunc_Pos (s1 : LL) (f_0_m_W f_0_m_H : Int) (f_0_m_Cells f_0_blocked : LL) (f_0_class : Int) : Option (Int) :=
  Option.bind (G_slices_IndexFunc_Pos_0 s1 f_0_m_W f_0_m_H f_0_m_Cells f_0_blocked f_0_class (Int.ofNat s1.length) FU (0 : Int)) fun t =>
  bif t.1 then
    some t.2
  else
  some (-(1 : Int))
noncomputable def enc61 (t : Int) : CR := ⟨true, (.sc (.int .i64 t)), [], []⟩
noncomputable def ks61 : List SK := [.f (.ro 2), .f (.clo 38 [[.int .i64, .int .i64, .sl 65 3, .sl 4 1, .int .i64]])]
noncomputable def S61 (us : List AVal) : Call := bif chkA ks61 us then Call.of (F_slices_IndexFunc_Pos (roRows (cIa us 0)) (toI (cIa (rptrL (cIa (cloL (cIa us 1)) 0)) 0)) (toI (cIa (rptrL (cIa (cloL (cIa us 1)) 0)) 1)) (roRows (cIa (rptrL (cIa (cloL (cIa us 1)) 0)) 2)) (roRows (cIa (rptrL (cIa (cloL (cIa us 1)) 0)) 3)) (toI (cIa (rptrL (cIa (cloL (cIa us 1)) 0)) 4))) enc61 else Call.none
noncomputable def C61 := AI.ext 61 S61 C38
@[reducible] noncomputable def B61_0 := bodyOf TT TU GL0 C38 ownF L61 (lp Tryd.f61 0)
@[reducible] noncomputable def K61_0 (k : Ex → St → Option CR) : Ex → St → Option CR := fun e s => k e (maskS (W61_0 e) s)
theorem spec61_0 (k : Ex → St → Option CR) : ∀ (m : Nat) (s1 : LL) (f_0_0 f_0_1 : Int) (f_0_2 f_0_3 : LL) (f_0_4 x7 x8 : Int), loopN B61_0 m (E61_0 s1 f_0_0 f_0_1 f_0_2 f_0_3 f_0_4 x7 x8) (K61_0 k) = (G_slices_IndexFunc_Pos_0 s1 f_0_0 f_0_1 f_0_2 f_0_3 f_0_4 x7 m x8).bind (X61_0 k)
  | 0, _, _, _, _, _, _, _, _ => rfl
  | m + 1, s1, f_0_0, f_0_1, f_0_2, f_0_3, f_0_4, x7, x8 =>
    Eq.trans (by kernel_rfl) (n_condH rfl (fun h0 => (n_condH rfl (fun h1 => (n_bind fun r => (n_condH rfl (fun h2 => (n_bind fun t => (n_condH rfl (fun h3 => rfl) fun h3 => (spec61_0 k m s1 f_0_0 f_0_1 f_0_2 f_0_3 f_0_4 x7 (wr (x8 + (1 : Int))))))) fun h2 => rfl))) fun h1 => rfl)) fun h0 => rfl)
theorem okL61_0 : LoopOk TT TU GL0 C38 ownF L61 (lp Tryd.f61 0) :=
  loopOk_of ks61_0 hs61_0 W61_0 FU (fun s k => (G_slices_IndexFunc_Pos_0 (roRows (cIa s.tmps 0)) (toI (cIa (rptrL (cIa (cloL (cIa s.tmps 1)) 0)) 0)) (toI (cIa (rptrL (cIa (cloL (cIa s.tmps 1)) 0)) 1)) (roRows (cIa (rptrL (cIa (cloL (cIa s.tmps 1)) 0)) 2)) (roRows (cIa (rptrL (cIa (cloL (cIa s.tmps 1)) 0)) 3)) (toI (cIa (rptrL (cIa (cloL (cIa s.tmps 1)) 0)) 4)) (toI (cIa s.tmps 7)) FU (toI (cIa s.tmps 8))).bind (X61_0 k)) (fun s k => by kernel_rfl) (fun s k => spec61_0 k FU (roRows (cIa s.tmps 0)) (toI (cIa (rptrL (cIa (cloL (cIa s.tmps 1)) 0)) 0)) (toI (cIa (rptrL (cIa (cloL (cIa s.tmps 1)) 0)) 1)) (roRows (cIa (rptrL (cIa (cloL (cIa s.tmps 1)) 0)) 2)) (roRows (cIa (rptrL (cIa (cloL (cIa s.tmps 1)) 0)) 3)) (toI (cIa (rptrL (cIa (cloL (cIa s.tmps 1)) 0)) 4)) (toI (cIa s.tmps 7)) (toI (cIa s.tmps 8)))
theorem run61 (s1 : LL) (f_0_m_W f_0_m_H : Int) (f_0_m_Cells f_0_blocked : LL) (f_0_class : Int) : fcall TT TU GL0 C38 ownF true L61 Tryd.f61 [(.ro 2 s1), (.clo 38 [(.rptr [(.sc (.int .i64 f_0_m_W)), (.sc (.int .i64 f_0_m_H)), (.ro 3 f_0_m_Cells), (.ro 1 f_0_blocked), (.sc (.int .i64 f_0_class))])])] = (F_slices_IndexFunc_Pos s1 f_0_m_W f_0_m_H f_0_m_Cells f_0_blocked f_0_class).bind fun t => some (enc61 t) :=
  Eq.trans (by kernel_rfl) (n_bind fun t => (n_condH rfl (fun h0 => rfl) fun h0 => rfl))
theorem lib61 : Lib Tryd.prog GL0 C61 :=
  Lib.fn lib38 mixed TT_ok Tryd.func61 (by decide +kernel) (by kernel_rfl) true L61 (loops_of 1 (by kernel_rfl) (belowS below0 okL61_0)) ks61 (F := fun us => F_slices_IndexFunc_Pos (roRows (cIa us 0)) (toI (cIa (rptrL (cIa (cloL (cIa us 1)) 0)) 0)) (toI (cIa (rptrL (cIa (cloL (cIa us 1)) 0)) 1)) (roRows (cIa (rptrL (cIa (cloL (cIa us 1)) 0)) 2)) (roRows (cIa (rptrL (cIa (cloL (cIa us 1)) 0)) 3)) (toI (cIa (rptrL (cIa (cloL (cIa us 1)) 0)) 4))) (fun us => rfl) (fun us => run61 (roRows (cIa us 0)) (toI (cIa (rptrL (cIa (cloL (cIa us 1)) 0)) 0)) (toI (cIa (rptrL (cIa (cloL (cIa us 1)) 0)) 1)) (roRows (cIa (rptrL (cIa (cloL (cIa us 1)) 0)) 2)) (roRows (cIa (rptrL (cIa (cloL (cIa us 1)) 0)) 3)) (toI (cIa (rptrL (cIa (cloL (cIa us 1)) 0)) 4))) (fun t => rfl)
noncomputable def F_slices_ContainsFunc_Pos (s1 : LL) (f_0_m_W f_0_m_H : Int) (f_0_m_Cells f_0_blocked : LL) (f_0_class : Int) : Option (Bool) :=
  Option.bind (F_slices_IndexFunc_Pos s1 f_0_m_W f_0_m_H f_0_m_Cells f_0_blocked f_0_class) fun t =>
  some (decide (t ≥ (0 : Int)))
noncomputable def enc37 (t : Bool) : CR := ⟨true, (.sc (.bool t)), [], []⟩
noncomputable def ks37 : List SK := [.f (.ro 2), .f (.clo 38 [[.int .i64, .int .i64, .sl 65 3, .sl 4 1, .int .i64]])]
noncomputable def S37 (us : List AVal) : Call := bif chkA ks37 us then Call.of (F_slices_ContainsFunc_Pos (roRows (cIa us 0)) (toI (cIa (rptrL (cIa (cloL (cIa us 1)) 0)) 0)) (toI (cIa (rptrL (cIa (cloL (cIa us 1)) 0)) 1)) (roRows (cIa (rptrL (cIa (cloL (cIa us 1)) 0)) 2)) (roRows (cIa (rptrL (cIa (cloL (cIa us 1)) 0)) 3)) (toI (cIa (rptrL (cIa (cloL (cIa us 1)) 0)) 4))) enc37 else Call.none
noncomputable def C37 := AI.ext 37 S37 C61
theorem run37 (s1 : LL) (f_0_m_W f_0_m_H : Int) (f_0_m_Cells f_0_blocked : LL) (f_0_class : Int) : fcall TT TU GL0 C61 ownF true noL Tryd.f37 [(.ro 2 s1), (.clo 38 [(.rptr [(.sc (.int .i64 f_0_m_W)), (.sc (.int .i64 f_0_m_H)), (.ro 3 f_0_m_Cells), (.ro 1 f_0_blocked), (.sc (.int .i64 f_0_class))])])] = (F_slices_ContainsFunc_Pos s1 f_0_m_W f_0_m_H f_0_m_Cells f_0_blocked f_0_class).bind fun t => some (enc37 t) :=
  Eq.trans (by kernel_rfl) (n_bind fun t => rfl)
theorem lib37 : Lib Tryd.prog GL0 C37 :=
  Lib.fn lib61 mixed TT_ok Tryd.func37 (by decide +kernel) (by kernel_rfl) true noL (loops_of 0 (by kernel_rfl) below0) ks37 (F := fun us => F_slices_ContainsFunc_Pos (roRows (cIa us 0)) (toI (cIa (rptrL (cIa (cloL (cIa us 1)) 0)) 0)) (toI (cIa (rptrL (cIa (cloL (cIa us 1)) 0)) 1)) (roRows (cIa (rptrL (cIa (cloL (cIa us 1)) 0)) 2)) (roRows (cIa (rptrL (cIa (cloL (cIa us 1)) 0)) 3)) (toI (cIa (rptrL (cIa (cloL (cIa us 1)) 0)) 4))) (fun us => rfl) (fun us => run37 (roRows (cIa us 0)) (toI (cIa (rptrL (cIa (cloL (cIa us 1)) 0)) 0)) (toI (cIa (rptrL (cIa (cloL (cIa us 1)) 0)) 1)) (roRows (cIa (rptrL (cIa (cloL (cIa us 1)) 0)) 2)) (roRows (cIa (rptrL (cIa (cloL (cIa us 1)) 0)) 3)) (toI (cIa (rptrL (cIa (cloL (cIa us 1)) 0)) 4))) (fun t => rfl)
noncomputable def W39_0 : Ex → List Bool
  | .ret => [false, false, false, false, true, false, false, false, false, false, false, false, false, false, false, false]
  | .exit n => bif Nat.beq n 0 then [false, false, false, false, false, false, false, false, false, false, false, false, false, false, false, false] else []
  | _ => []
noncomputable def G_astar_direction_0 (b0_0 b0_1 b1_0 b1_1 : Int) : Nat → Int → Option (Bool × Int)
  | 0, _ => none
  | m + 1, x6 =>
    bif (decide (x6 < (8 : Int))) then
      Option.bind (F_grid_Step b0_0 b0_1 x6) fun t =>
      bif ((t.1 == b1_0) && (t.2 == b1_1)) then
        some (true, x6)
      else
      G_astar_direction_0 b0_0 b0_1 b1_0 b1_1 m (wr (x6 + (1 : Int)))
    else
    some (false, 0)
noncomputable def E39_0 (x6 b0_0 b0_1 b1_0 b1_1 : Int) : St := ⟨[.dead, .dead, (.ref 16000 1 0 0), (.ref 16016 1 0 0), .dead, .dead, (.sc (.int .i64 x6)), .dead, .dead, .dead, .dead, .dead, .dead, .dead, .dead, .dead], [(16000, ⟨.box, 27, 2, [[(.sc (.int .i64 b0_0)), (.sc (.int .i64 b0_1))]]⟩), (16016, ⟨.box, 27, 2, [[(.sc (.int .i64 b1_0)), (.sc (.int .i64 b1_1))]]⟩)]⟩
noncomputable def X39_0 (k : Ex → St → Option CR) (t : Bool × Int) : Option CR := bif t.1 then k .ret ⟨[.dead, .dead, .dead, .dead, (.sc (.int .i64 t.2)), .dead, .dead, .dead, .dead, .dead, .dead, .dead, .dead, .dead, .dead, .dead], []⟩ else k (.exit 0) ⟨[.dead, .dead, .dead, .dead, .dead, .dead, .dead, .dead, .dead, .dead, .dead, .dead, .dead, .dead, .dead, .dead], []⟩
noncomputable def ks39_0 : List SK := [.f .dead, .f .dead, .f (.ref 16000 1 0 0), .f (.ref 16016 1 0 0), .f .dead, .f .dead, .f (.int .i64), .f .dead, .f .dead, .f .dead, .f .dead, .f .dead, .f .dead, .f .dead, .f .dead, .f .dead]
noncomputable def hs39_0 : List HK := [⟨16000, .box, 27, 2, some [.int .i64, .int .i64]⟩, ⟨16016, .box, 27, 2, some [.int .i64, .int .i64]⟩]
noncomputable def Lm39_0 (s : St) (k : Ex → St → Option CR) : Option CR := bif chkS ks39_0 hs39_0 s then (G_astar_direction_0 (toI (cIa (rows0 (blkAt s.heap 0).2) 0)) (toI (cIa (rows0 (blkAt s.heap 0).2) 1)) (toI (cIa (rows0 (blkAt s.heap 1).2) 0)) (toI (cIa (rows0 (blkAt s.heap 1).2) 1)) FU (toI (cIa s.tmps 6))).bind (X39_0 k) else none
noncomputable def L39_0 (s : St) (k : Ex → St → Option CR) : Option CR := Lm39_0 (maskS (maskOf ks39_0) s) k
noncomputable def L39 : LT' := fun i s k => bif Nat.beq i 0 then L39_0 s k else none
noncomputable def F_astar_direction (p_X p_Y q_X q_Y : Int) : Option (Int) :=
  Option.bind (G_astar_direction_0 p_X p_Y q_X q_Y FU (0 : Int)) fun t =>
  bif t.1 then
    some t.2
  else
  some (-(1 : Int))
noncomputable def enc39 (t : Int) : CR := ⟨true, (.sc (.int .i64 t)), [], []⟩
noncomputable def ks39 : List SK := [.agg [.int .i64, .int .i64], .agg [.int .i64, .int .i64]]
noncomputable def S39 (us : List AVal) : Call := bif chkA ks39 us then Call.of (F_astar_direction (toI (cIa (aggL (cIa us 0)) 0)) (toI (cIa (aggL (cIa us 0)) 1)) (toI (cIa (aggL (cIa us 1)) 0)) (toI (cIa (aggL (cIa us 1)) 1))) enc39 else Call.none
noncomputable def C39 := AI.ext 39 S39 C37
@[reducible] noncomputable def B39_0 := bodyOf TT TU GL0 C37 ownF L39 (lp Tryd.f39 0)
@[reducible] noncomputable def K39_0 (k : Ex → St → Option CR) : Ex → St → Option CR := fun e s => k e (maskS (W39_0 e) s)
theorem spec39_0 (k : Ex → St → Option CR) : ∀ (m : Nat) (x6 b0_0 b0_1 b1_0 b1_1 : Int), loopN B39_0 m (E39_0 x6 b0_0 b0_1 b1_0 b1_1) (K39_0 k) = (G_astar_direction_0 b0_0 b0_1 b1_0 b1_1 m x6).bind (X39_0 k)
  | 0, _, _, _, _, _ => rfl
  | m + 1, x6, b0_0, b0_1, b1_0, b1_1 =>
    Eq.trans (by kernel_rfl) (n_condH rfl (fun h0 => (n_bind fun t => (n_condH rfl (fun h1 => rfl) fun h1 => (spec39_0 k m (wr (x6 + (1 : Int))) b0_0 b0_1 b1_0 b1_1)))) fun h0 => rfl)
theorem okL39_0 : LoopOk TT TU GL0 C37 ownF L39 (lp Tryd.f39 0) :=
  loopOk_of ks39_0 hs39_0 W39_0 FU (fun s k => (G_astar_direction_0 (toI (cIa (rows0 (blkAt s.heap 0).2) 0)) (toI (cIa (rows0 (blkAt s.heap 0).2) 1)) (toI (cIa (rows0 (blkAt s.heap 1).2) 0)) (toI (cIa (rows0 (blkAt s.heap 1).2) 1)) FU (toI (cIa s.tmps 6))).bind (X39_0 k)) (fun s k => by kernel_rfl) (fun s k => spec39_0 k FU (toI (cIa s.tmps 6)) (toI (cIa (rows0 (blkAt s.heap 0).2) 0)) (toI (cIa (rows0 (blkAt s.heap 0).2) 1)) (toI (cIa (rows0 (blkAt s.heap 1).2) 0)) (toI (cIa (rows0 (blkAt s.heap 1).2) 1)))
theorem run39 (p_X p_Y q_X q_Y : Int) : fcall TT TU GL0 C37 ownF true L39 Tryd.f39 [(.agg [(.sc (.int .i64 p_X)), (.sc (.int .i64 p_Y))]), (.agg [(.sc (.int .i64 q_X)), (.sc (.int .i64 q_Y))])] = (F_astar_direction p_X p_Y q_X q_Y).bind fun t => some (enc39 t) :=
  Eq.trans (by kernel_rfl) (n_bind fun t => (n_condH rfl (fun h0 => rfl) fun h0 => rfl))
theorem lib39 : Lib Tryd.prog GL0 C39 :=
  Lib.fn lib37 mixed TT_ok Tryd.func39 (by decide +kernel) (by kernel_rfl) true L39 (loops_of 1 (by kernel_rfl) (belowS below0 okL39_0)) ks39 (F := fun us => F_astar_direction (toI (cIa (aggL (cIa us 0)) 0)) (toI (cIa (aggL (cIa us 0)) 1)) (toI (cIa (aggL (cIa us 1)) 0)) (toI (cIa (aggL (cIa us 1)) 1))) (fun us => rfl) (fun us => run39 (toI (cIa (aggL (cIa us 0)) 0)) (toI (cIa (aggL (cIa us 0)) 1)) (toI (cIa (aggL (cIa us 1)) 0)) (toI (cIa (aggL (cIa us 1)) 1))) (fun t => rfl)
noncomputable def W15_0 : Ex → List Bool
  | .ret => [false, false, false, false, false, false, false, false, true, true, false, false, false, false, false, false, false, false, false, false, false, false, false, false, false, false, false, false, false, false, false, false, false, false, false, false, false, false, false, false, false, false, false, false, false, false, false, false, false, false, false, false, false, false, false, false, false, false, false, false, false, false, false, false, false, false, false, false, false, false, false]
  | .exit n => bif Nat.beq n 0 then [false, false, false, false, false, false, false, false, false, false, false, true, false, false, false, false, false, false, false, false, false, false, false, false, false, false, false, false, false, false, false, false, false, false, false, false, false, false, false, false, false, false, false, false, false, false, false, false, false, false, false, false, false, false, false, false, false, false, false, false, false, false, false, false, false, false, false, false, false, false, false] else []
  | _ => []
noncomputable def G_astar_Cost_0 (blocked : LL) (class_ : Int) (path x40 : LL) (x41 b0_0 b0_1 : Int) (b0_2 : LL) : Nat → Int → Int → Option (Bool × Int)
  | 0, _, _ => none
  | m + 1, sum, x42 =>
    bif (decide (x42 < x41)) then
      bif (decide ((0 : Int) ≤ x42)) then
        Option.bind (x40[x42.toNat]?) fun r =>
        bif (chk [(LT.int IntKind.i64), (LT.int IntKind.i64)] r) then
          Option.bind (path[x42.toNat]?) fun r1 =>
          bif (chk [(LT.int IntKind.i64), (LT.int IntKind.i64)] r1) then
            Option.bind (path[x42.toNat]?) fun r2 =>
            bif (chk [(LT.int IntKind.i64), (LT.int IntKind.i64)] r2) then
              Option.bind (F_astar_direction (cI r2 0) (cI r2 1) (cI r 0) (cI r 1)) fun t =>
              Option.bind (F_terrain_Step b0_0 b0_1 b0_2 blocked class_ (cI r1 0) (cI r1 1) t) fun t1 =>
              bif (!t1.2) then
                some (true, 0)
              else
              G_astar_Cost_0 blocked class_ path x40 x41 b0_0 b0_1 b0_2 m (wr (sum + t1.1)) (wr (x42 + (1 : Int)))
            else
            none
          else
          none
        else
        none
      else
      none
    else
    some (false, sum)
noncomputable def E15_0 (blocked : LL) (class_ : Int) (path : LL) (sum : Int) (x40 : LL) (x41 x42 b0_0 b0_1 : Int) (b0_2 : LL) : St := ⟨[.dead, (.ro 1 blocked), (.sc (.int .i64 class_)), (.ro 2 path), (.ref 16000 1 0 0), .dead, .dead, .dead, .dead, .dead, .dead, (.sc (.int .i64 sum)), .dead, .dead, .dead, .dead, .dead, .dead, .dead, .dead, .dead, .dead, .dead, .dead, .dead, .dead, .dead, .dead, .dead, .dead, .dead, .dead, .dead, .dead, .dead, .dead, .dead, .dead, .dead, .dead, (.ro 2 x40), (.sc (.int .i64 x41)), (.sc (.int .i64 x42)), .dead, .dead, .dead, .dead, .dead, .dead, .dead, .dead, .dead, .dead, .dead, .dead, .dead, .dead, .dead, .dead, .dead, .dead, .dead, .dead, .dead, .dead, .dead, .dead, .dead, .dead, .dead, .dead], [(16000, ⟨.box, 24, 3, [[(.sc (.int .i64 b0_0)), (.sc (.int .i64 b0_1)), (.ro 3 b0_2)]]⟩)]⟩
noncomputable def X15_0 (k : Ex → St → Option CR) (t : Bool × Int) : Option CR := bif t.1 then k .ret ⟨[.dead, .dead, .dead, .dead, .dead, .dead, .dead, .dead, (.sc (.int .i64 (0 : Int))), (.sc (.int .i64 (9 : Int))), .dead, .dead, .dead, .dead, .dead, .dead, .dead, .dead, .dead, .dead, .dead, .dead, .dead, .dead, .dead, .dead, .dead, .dead, .dead, .dead, .dead, .dead, .dead, .dead, .dead, .dead, .dead, .dead, .dead, .dead, .dead, .dead, .dead, .dead, .dead, .dead, .dead, .dead, .dead, .dead, .dead, .dead, .dead, .dead, .dead, .dead, .dead, .dead, .dead, .dead, .dead, .dead, .dead, .dead, .dead, .dead, .dead, .dead, .dead, .dead, .dead], []⟩ else k (.exit 0) ⟨[.dead, .dead, .dead, .dead, .dead, .dead, .dead, .dead, .dead, .dead, .dead, (.sc (.int .i64 t.2)), .dead, .dead, .dead, .dead, .dead, .dead, .dead, .dead, .dead, .dead, .dead, .dead, .dead, .dead, .dead, .dead, .dead, .dead, .dead, .dead, .dead, .dead, .dead, .dead, .dead, .dead, .dead, .dead, .dead, .dead, .dead, .dead, .dead, .dead, .dead, .dead, .dead, .dead, .dead, .dead, .dead, .dead, .dead, .dead, .dead, .dead, .dead, .dead, .dead, .dead, .dead, .dead, .dead, .dead, .dead, .dead, .dead, .dead, .dead], []⟩
noncomputable def ks15_0 : List SK := [.f .dead, .f (.ro 1), .f (.int .i64), .f (.ro 2), .f (.ref 16000 1 0 0), .f .dead, .f .dead, .f .dead, .f .dead, .f .dead, .f .dead, .f (.int .i64), .f .dead, .f .dead, .f .dead, .f .dead, .f .dead, .f .dead, .f .dead, .f .dead, .f .dead, .f .dead, .f .dead, .f .dead, .f .dead, .f .dead, .f .dead, .f .dead, .f .dead, .f .dead, .f .dead, .f .dead, .f .dead, .f .dead, .f .dead, .f .dead, .f .dead, .f .dead, .f .dead, .f .dead, .f (.ro 2), .f (.int .i64), .f (.int .i64), .f .dead, .f .dead, .f .dead, .f .dead, .f .dead, .f .dead, .f .dead, .f .dead, .f .dead, .f .dead, .f .dead, .f .dead, .f .dead, .f .dead, .f .dead, .f .dead, .f .dead, .f .dead, .f .dead, .f .dead, .f .dead, .f .dead, .f .dead, .f .dead, .f .dead, .f .dead, .f .dead, .f .dead]
noncomputable def hs15_0 : List HK := [⟨16000, .box, 24, 3, some [.int .i64, .int .i64, .ro 3]⟩]
noncomputable def Lm15_0 (s : St) (k : Ex → St → Option CR) : Option CR := bif chkS ks15_0 hs15_0 s then (G_astar_Cost_0 (roRows (cIa s.tmps 1)) (toI (cIa s.tmps 2)) (roRows (cIa s.tmps 3)) (roRows (cIa s.tmps 40)) (toI (cIa s.tmps 41)) (toI (cIa (rows0 (blkAt s.heap 0).2) 0)) (toI (cIa (rows0 (blkAt s.heap 0).2) 1)) (roRows (cIa (rows0 (blkAt s.heap 0).2) 2)) FU (toI (cIa s.tmps 11)) (toI (cIa s.tmps 42))).bind (X15_0 k) else none
noncomputable def L15_0 (s : St) (k : Ex → St → Option CR) : Option CR := Lm15_0 (maskS (maskOf ks15_0) s) k
noncomputable def L15 : LT' := fun i s k => bif Nat.beq i 0 then L15_0 s k else none
noncomputable def F_astar_Cost (m_W m_H : Int) (m_Cells blocked : LL) (class_ : Int) (path : LL) : Option (Int × Int) :=
  Option.bind (F_astar_ground__valid m_W m_H m_Cells blocked class_) fun t =>
  bif (!t) then
    some ((0 : Int), (1 : Int))
  else
  bif ((Int.ofNat path.length) == (0 : Int)) then
    some ((0 : Int), (1 : Int))
  else
  Option.bind (F_slices_ContainsFunc_Pos path m_W m_H m_Cells blocked class_) fun t1 =>
  bif t1 then
    some ((0 : Int), (1 : Int))
  else
  Option.bind (path[(0 : Int).toNat]?) fun r =>
  bif (chk [(LT.int IntKind.i64), (LT.int IntKind.i64)] r) then
    Option.bind (F_astar_ground__free m_W m_H m_Cells blocked class_ (cI r 0) (cI r 1)) fun t2 =>
    bif (!t2) then
      some ((0 : Int), (9 : Int))
    else
    bif ((decide ((1 : Int) ≤ (Int.ofNat path.length))) && (decide ((Int.ofNat path.length) ≤ (Int.ofNat path.length)))) then
      Option.bind (G_astar_Cost_0 blocked class_ path (roRows (AVal.ro 2 (List.drop (1 : Int).toNat (List.take (Int.ofNat path.length).toNat path)))) (Int.ofNat (List.drop (1 : Int).toNat (List.take (Int.ofNat path.length).toNat path)).length) m_W m_H m_Cells FU (0 : Int) (0 : Int)) fun t3 =>
      bif t3.1 then
        some ((0 : Int), (9 : Int))
      else
      some (t3.2, (0 : Int))
    else
    none
  else
  none
noncomputable def enc15 (t : Int × Int) : CR := ⟨true, (.tup [(.sc (.int .i64 t.1)), (.sc (.int .i64 t.2))]), [], []⟩
noncomputable def ks15 : List SK := [.agg [.int .i64, .int .i64, .ro 3], .f (.ro 1), .f (.int .i64), .f (.ro 2)]
noncomputable def S15 (us : List AVal) : Call := bif chkA ks15 us then Call.of (F_astar_Cost (toI (cIa (aggL (cIa us 0)) 0)) (toI (cIa (aggL (cIa us 0)) 1)) (roRows (cIa (aggL (cIa us 0)) 2)) (roRows (cIa us 1)) (toI (cIa us 2)) (roRows (cIa us 3))) enc15 else Call.none
noncomputable def C15 := AI.ext 15 S15 C39
@[reducible] noncomputable def B15_0 := bodyOf TT TU GL0 C39 ownF L15 (lp Tryd.f15 0)
@[reducible] noncomputable def K15_0 (k : Ex → St → Option CR) : Ex → St → Option CR := fun e s => k e (maskS (W15_0 e) s)
theorem spec15_0 (k : Ex → St → Option CR) : ∀ (m : Nat) (blocked : LL) (class_ : Int) (path : LL) (sum : Int) (x40 : LL) (x41 x42 b0_0 b0_1 : Int) (b0_2 : LL), loopN B15_0 m (E15_0 blocked class_ path sum x40 x41 x42 b0_0 b0_1 b0_2) (K15_0 k) = (G_astar_Cost_0 blocked class_ path x40 x41 b0_0 b0_1 b0_2 m sum x42).bind (X15_0 k)
  | 0, _, _, _, _, _, _, _, _, _, _ => rfl
  | m + 1, blocked, class_, path, sum, x40, x41, x42, b0_0, b0_1, b0_2 =>
    Eq.trans (by kernel_rfl) (n_condH rfl (fun h0 => (n_condH rfl (fun h1 => (n_bind fun r => (n_condH rfl (fun h2 => (n_tru h1 (n_bind fun r1 => (n_condH rfl (fun h3 => (n_tru h1 (n_bind fun r2 => (n_condH rfl (fun h4 => (n_bind fun t => (n_bind fun t1 => (n_condH rfl (fun h5 => rfl) fun h5 => (spec15_0 k m blocked class_ path (wr (sum + t1.1)) x40 x41 (wr (x42 + (1 : Int))) b0_0 b0_1 b0_2))))) fun h4 => rfl)))) fun h3 => rfl)))) fun h2 => rfl))) fun h1 => rfl)) fun h0 => rfl)
theorem okL15_0 : LoopOk TT TU GL0 C39 ownF L15 (lp Tryd.f15 0) :=
  loopOk_of ks15_0 hs15_0 W15_0 FU (fun s k => (G_astar_Cost_0 (roRows (cIa s.tmps 1)) (toI (cIa s.tmps 2)) (roRows (cIa s.tmps 3)) (roRows (cIa s.tmps 40)) (toI (cIa s.tmps 41)) (toI (cIa (rows0 (blkAt s.heap 0).2) 0)) (toI (cIa (rows0 (blkAt s.heap 0).2) 1)) (roRows (cIa (rows0 (blkAt s.heap 0).2) 2)) FU (toI (cIa s.tmps 11)) (toI (cIa s.tmps 42))).bind (X15_0 k)) (fun s k => by kernel_rfl) (fun s k => spec15_0 k FU (roRows (cIa s.tmps 1)) (toI (cIa s.tmps 2)) (roRows (cIa s.tmps 3)) (toI (cIa s.tmps 11)) (roRows (cIa s.tmps 40)) (toI (cIa s.tmps 41)) (toI (cIa s.tmps 42)) (toI (cIa (rows0 (blkAt s.heap 0).2) 0)) (toI (cIa (rows0 (blkAt s.heap 0).2) 1)) (roRows (cIa (rows0 (blkAt s.heap 0).2) 2)))
theorem run15 (m_W m_H : Int) (m_Cells blocked : LL) (class_ : Int) (path : LL) : fcall TT TU GL0 C39 ownF true L15 Tryd.f15 [(.agg [(.sc (.int .i64 m_W)), (.sc (.int .i64 m_H)), (.ro 3 m_Cells)]), (.ro 1 blocked), (.sc (.int .i64 class_)), (.ro 2 path)] = (F_astar_Cost m_W m_H m_Cells blocked class_ path).bind fun t => some (enc15 t) :=
  Eq.trans (by kernel_rfl) (n_bind fun t => (n_condH rfl (fun h0 => rfl) fun h0 => (n_condH rfl (fun h1 => rfl) fun h1 => (n_bind fun t1 => (n_condH rfl (fun h2 => rfl) fun h2 => (n_bind fun r => (n_condH rfl (fun h3 => (n_bind fun t2 => (n_condH rfl (fun h4 => rfl) fun h4 => (n_condH (show (((((decide ((0 : Int) ≤ (1 : Int))) && (decide ((1 : Int) ≤ (Int.ofNat path.length)))) && (decide ((Int.ofNat path.length) ≤ (Int.ofNat path.length)))) && true)) = _ from (n_andR (n_and (n_andL (by kernel_rfl) rfl) rfl) rfl)) (fun h5 => (n_bind fun t3 => (n_condH rfl (fun h6 => rfl) fun h6 => rfl))) fun h5 => rfl)))) fun h3 => rfl)))))))
theorem lib15 : Lib Tryd.prog GL0 C15 :=
  Lib.fn lib39 mixed TT_ok Tryd.func15 (by decide +kernel) (by kernel_rfl) true L15 (loops_of 1 (by kernel_rfl) (belowS below0 okL15_0)) ks15 (F := fun us => F_astar_Cost (toI (cIa (aggL (cIa us 0)) 0)) (toI (cIa (aggL (cIa us 0)) 1)) (roRows (cIa (aggL (cIa us 0)) 2)) (roRows (cIa us 1)) (toI (cIa us 2)) (roRows (cIa us 3))) (fun us => rfl) (fun us => run15 (toI (cIa (aggL (cIa us 0)) 0)) (toI (cIa (aggL (cIa us 0)) 1)) (roRows (cIa (aggL (cIa us 0)) 2)) (roRows (cIa us 1)) (toI (cIa us 2)) (roRows (cIa us 3))) (fun t => rfl)
noncomputable def F_astar_Reach (m_W m_H : Int) (m_Cells blocked : LL) (class_ a_X a_Y : Int) : Option (LL) :=
  Option.bind (F_astar_ground__valid m_W m_H m_Cells blocked class_) fun t =>
  bif (!t) then
    some []
  else
  Option.bind (F_astar_ground__inside m_W m_H m_Cells blocked class_ a_X a_Y) fun t1 =>
  bif (!t1) then
    some []
  else
  Option.bind (F_astar_ground__reach m_W m_H m_Cells blocked class_ a_X a_Y) fun t2 =>
  some t2
noncomputable def enc18 (t : LL) : CR := ⟨true, (.slc 0 (t).length), [], [⟨.arr, 3, 1, t⟩]⟩
noncomputable def ks18 : List SK := [.agg [.int .i64, .int .i64, .ro 3], .f (.ro 1), .f (.int .i64), .agg [.int .i64, .int .i64]]
noncomputable def S18 (us : List AVal) : Call := bif chkA ks18 us then Call.of (F_astar_Reach (toI (cIa (aggL (cIa us 0)) 0)) (toI (cIa (aggL (cIa us 0)) 1)) (roRows (cIa (aggL (cIa us 0)) 2)) (roRows (cIa us 1)) (toI (cIa us 2)) (toI (cIa (aggL (cIa us 3)) 0)) (toI (cIa (aggL (cIa us 3)) 1))) enc18 else Call.none
noncomputable def C18 := AI.ext 18 S18 C15
theorem run18 (m_W m_H : Int) (m_Cells blocked : LL) (class_ a_X a_Y : Int) : fcall TT TU GL0 C15 ownF true noL Tryd.f18 [(.agg [(.sc (.int .i64 m_W)), (.sc (.int .i64 m_H)), (.ro 3 m_Cells)]), (.ro 1 blocked), (.sc (.int .i64 class_)), (.agg [(.sc (.int .i64 a_X)), (.sc (.int .i64 a_Y))])] = (F_astar_Reach m_W m_H m_Cells blocked class_ a_X a_Y).bind fun t => some (enc18 t) :=
  Eq.trans (by kernel_rfl) (n_bind fun t => (n_condH rfl (fun h0 => rfl) fun h0 => (n_bind fun t1 => (n_condH rfl (fun h1 => rfl) fun h1 => (n_bind fun t2 => (n_tru (show ((((true && (verEq t2.length t2.length)) && true) && true) && true) = true from (n_andL (n_andL (n_andL (n_andL rfl (verEq_rfl _)) rfl) rfl) rfl)) (n_tru (show (verEq t2.length t2.length) = true from (verEq_rfl _)) rfl)))))))
theorem lib18 : Lib Tryd.prog GL0 C18 :=
  Lib.fn lib15 mixed TT_ok Tryd.func18 (by decide +kernel) (by kernel_rfl) true noL (loops_of 0 (by kernel_rfl) below0) ks18 (F := fun us => F_astar_Reach (toI (cIa (aggL (cIa us 0)) 0)) (toI (cIa (aggL (cIa us 0)) 1)) (roRows (cIa (aggL (cIa us 0)) 2)) (roRows (cIa us 1)) (toI (cIa us 2)) (toI (cIa (aggL (cIa us 3)) 0)) (toI (cIa (aggL (cIa us 3)) 1))) (fun us => rfl) (fun us => run18 (toI (cIa (aggL (cIa us 0)) 0)) (toI (cIa (aggL (cIa us 0)) 1)) (roRows (cIa (aggL (cIa us 0)) 2)) (roRows (cIa us 1)) (toI (cIa us 2)) (toI (cIa (aggL (cIa us 3)) 0)) (toI (cIa (aggL (cIa us 3)) 1))) (fun t => rfl)
noncomputable def F_grid_At (w index : Int) : Option (Int × Int) :=
  bif (decide (w < (1 : Int))) then
    some ((0 : Int), (0 : Int))
  else
  bif (decide (index < (0 : Int))) then
    some ((0 : Int), (0 : Int))
  else
  bif (w == (0 : Int)) then
    none
  else
  some ((Int.tmod index w), (wr (Int.tdiv index w)))
noncomputable def enc43 (t : Int × Int) : CR := ⟨true, (.agg [(.sc (.int .i64 t.1)), (.sc (.int .i64 t.2))]), [], []⟩
noncomputable def ks43 : List SK := [.f (.int .i64), .f (.int .i64)]
noncomputable def S43 (us : List AVal) : Call := bif chkA ks43 us then Call.of (F_grid_At (toI (cIa us 0)) (toI (cIa us 1))) enc43 else Call.none
noncomputable def C43 := AI.ext 43 S43 C18
theorem run43 (w index : Int) : fcall TT TU GL0 C18 ownF true noL Tryd.f43 [(.sc (.int .i64 w)), (.sc (.int .i64 index))] = (F_grid_At w index).bind fun t => some (enc43 t) :=
  Eq.trans (by kernel_rfl) (n_condH rfl (fun h0 => rfl) fun h0 => (n_condH rfl (fun h1 => rfl) fun h1 => (n_condH rfl (fun h2 => rfl) fun h2 => (n_false (A := none) h2 rfl))))
theorem lib43 : Lib Tryd.prog GL0 C43 :=
  Lib.fn lib18 mixed TT_ok Tryd.func43 (by decide +kernel) (by kernel_rfl) true noL (loops_of 0 (by kernel_rfl) below0) ks43 (F := fun us => F_grid_At (toI (cIa us 0)) (toI (cIa us 1))) (fun us => rfl) (fun us => run43 (toI (cIa us 0)) (toI (cIa us 1))) (fun t => rfl)
noncomputable def W20_0 : Ex → List Bool
  | .ret => [false, false, false, false, false, false, true, false, false, false, false, false, false, false, false, false, false, false, false, false, false, false, false, false, false, false, false, false, false, false, false, false, false, false, false, false, false, false, false, false, false, false, false, false, false, false, false, false, false, false, false, false, false, false, false, false, false, false, false, false, false, false, false, false, false, false, false, false, false, false, false, false]
  | .exit n => bif Nat.beq n 0 then [false, false, false, true, false, false, false, true, true, false, false, false, false, false, false, false, false, false, false, false, false, false, false, false, false, false, false, false, false, false, false, false, false, false, false, false, false, false, false, false, false, false, false, false, false, false, false, false, false, false, false, false, false, false, false, false, false, false, false, false, false, false, false, false, false, false, false, false, false, false, false, false] else []
  | _ => []
noncomputable def G_astar_Regions_0 (x26 : Int) : Nat → LL → Int → Option (LL)
  | 0, _, _ => none
  | m + 1, R2, x27 =>
    bif (decide (x27 < x26)) then
      bif ((decide ((0 : Int) ≤ x27)) && (decide (x27 < (Int.ofNat R2.length)))) then
        G_astar_Regions_0 x26 m (List.set R2 x27.toNat [(i64 (-(1 : Int)))]) (wr (x27 + (1 : Int)))
      else
      none
    else
    some R2
noncomputable def E20_0 (R2 : LL) (x26 x27 b0_0 b0_1 : Int) (b0_2 : LL) (b1_0 b1_1 : Int) (b1_2 b1_3 : LL) (b1_4 : Int) : St := ⟨[.dead, .dead, .dead, (.ref 16000 1 0 0), .dead, .dead, .dead, (.ref 16000112 1 0 0), (.slc 28848 (R2).length), .dead, .dead, .dead, .dead, .dead, .dead, .dead, .dead, .dead, .dead, .dead, .dead, .dead, .dead, .dead, .dead, .dead, (.sc (.int .i64 x26)), (.sc (.int .i64 x27)), .dead, .dead, .dead, .dead, .dead, .dead, .dead, .dead, .dead, .dead, .dead, .dead, .dead, .dead, .dead, .dead, .dead, .dead, .dead, .dead, .dead, .dead, .dead, .dead, .dead, .dead, .dead, .dead, .dead, .dead, .dead, .dead, .dead, .dead, .dead, .dead, .dead, .dead, .dead, .dead, .dead, .dead, .dead, .dead], [(16000, ⟨.box, 24, 3, [[(.sc (.int .i64 b0_0)), (.sc (.int .i64 b0_1)), (.ro 3 b0_2)]]⟩), (16000112, ⟨.box, 46, 5, [[(.sc (.int .i64 b1_0)), (.sc (.int .i64 b1_1)), (.ro 3 b1_2), (.ro 1 b1_3), (.sc (.int .i64 b1_4))]]⟩), (28848, ⟨.arr, 3, 1, R2⟩)]⟩
noncomputable def X20_0 (b0_0 b0_1 : Int) (b0_2 : LL) (b1_0 b1_1 : Int) (b1_2 b1_3 : LL) (b1_4 : Int) (k : Ex → St → Option CR) (t : LL) : Option CR := k (.exit 0) ⟨[.dead, .dead, .dead, (.ref 16000 1 0 0), .dead, .dead, .dead, (.ref 16000112 1 0 0), (.slc 28848 (t).length), .dead, .dead, .dead, .dead, .dead, .dead, .dead, .dead, .dead, .dead, .dead, .dead, .dead, .dead, .dead, .dead, .dead, .dead, .dead, .dead, .dead, .dead, .dead, .dead, .dead, .dead, .dead, .dead, .dead, .dead, .dead, .dead, .dead, .dead, .dead, .dead, .dead, .dead, .dead, .dead, .dead, .dead, .dead, .dead, .dead, .dead, .dead, .dead, .dead, .dead, .dead, .dead, .dead, .dead, .dead, .dead, .dead, .dead, .dead, .dead, .dead, .dead, .dead], [(16000, ⟨.box, 24, 3, [[(.sc (.int .i64 b0_0)), (.sc (.int .i64 b0_1)), (.ro 3 b0_2)]]⟩), (16000112, ⟨.box, 46, 5, [[(.sc (.int .i64 b1_0)), (.sc (.int .i64 b1_1)), (.ro 3 b1_2), (.ro 1 b1_3), (.sc (.int .i64 b1_4))]]⟩), (28848, ⟨.arr, 3, 1, t⟩)]⟩
noncomputable def ks20_0 : List SK := [.f .dead, .f .dead, .f .dead, .f (.ref 16000 1 0 0), .f .dead, .f .dead, .f .dead, .f (.ref 16000112 1 0 0), .f (.slc 28848 2), .f .dead, .f .dead, .f .dead, .f .dead, .f .dead, .f .dead, .f .dead, .f .dead, .f .dead, .f .dead, .f .dead, .f .dead, .f .dead, .f .dead, .f .dead, .f .dead, .f .dead, .f (.int .i64), .f (.int .i64), .f .dead, .f .dead, .f .dead, .f .dead, .f .dead, .f .dead, .f .dead, .f .dead, .f .dead, .f .dead, .f .dead, .f .dead, .f .dead, .f .dead, .f .dead, .f .dead, .f .dead, .f .dead, .f .dead, .f .dead, .f .dead, .f .dead, .f .dead, .f .dead, .f .dead, .f .dead, .f .dead, .f .dead, .f .dead, .f .dead, .f .dead, .f .dead, .f .dead, .f .dead, .f .dead, .f .dead, .f .dead, .f .dead, .f .dead, .f .dead, .f .dead, .f .dead, .f .dead, .f .dead]
noncomputable def hs20_0 : List HK := [⟨16000, .box, 24, 3, some [.int .i64, .int .i64, .ro 3]⟩, ⟨16000112, .box, 46, 5, some [.int .i64, .int .i64, .ro 3, .ro 1, .int .i64]⟩, ⟨28848, .arr, 3, 1, none⟩]
noncomputable def Lm20_0 (s : St) (k : Ex → St → Option CR) : Option CR := bif chkS ks20_0 hs20_0 s then (G_astar_Regions_0 (toI (cIa s.tmps 26)) FU (blkAt s.heap 2).2.rows (toI (cIa s.tmps 27))).bind (X20_0 (toI (cIa (rows0 (blkAt s.heap 0).2) 0)) (toI (cIa (rows0 (blkAt s.heap 0).2) 1)) (roRows (cIa (rows0 (blkAt s.heap 0).2) 2)) (toI (cIa (rows0 (blkAt s.heap 1).2) 0)) (toI (cIa (rows0 (blkAt s.heap 1).2) 1)) (roRows (cIa (rows0 (blkAt s.heap 1).2) 2)) (roRows (cIa (rows0 (blkAt s.heap 1).2) 3)) (toI (cIa (rows0 (blkAt s.heap 1).2) 4)) k) else none
noncomputable def L20_0 (s : St) (k : Ex → St → Option CR) : Option CR := Lm20_0 (maskS (maskOf ks20_0) s) k
noncomputable def W20_1 : Ex → List Bool
  | .ret => [false, false, false, false, false, false, true, false, false, false, false, false, false, false, false, false, false, false, false, false, false, false, false, false, false, false, false, false, false, false, false, false, false, false, false, false, false, false, false, false, false, false, false, false, false, false, false, false, false, false, false, false, false, false, false, false, false, false, false, false, false, false, false, false, false, false, false, false, false, false, false, false]
  | .exit n => bif Nat.beq n 2 then [false, false, false, false, false, false, false, false, true, false, false, false, false, false, false, false, false, false, false, false, false, false, false, false, false, false, false, false, false, false, false, false, false, false, false, false, false, false, false, false, false, false, false, false, false, false, false, false, false, false, false, false, false, false, false, false, false, false, false, false, false, false, false, false, false, false, false, false, false, false, false, false] else []
  | _ => []
noncomputable def W20_2 : Ex → List Bool
  | .ret => [false, false, false, false, false, false, true, false, false, false, false, false, false, false, false, false, false, false, false, false, false, false, false, false, false, false, false, false, false, false, false, false, false, false, false, false, false, false, false, false, false, false, false, false, false, false, false, false, false, false, false, false, false, false, false, false, false, false, false, false, false, false, false, false, false, false, false, false, false, false, false, false]
  | .exit n => bif Nat.beq n 4 then [false, false, false, true, false, false, false, true, true, false, false, false, false, false, false, false, false, false, false, false, false, false, false, false, false, false, false, false, false, false, false, false, false, false, false, true, true, false, false, false, false, false, false, false, false, false, false, false, false, false, false, false, false, false, false, false, false, false, false, false, false, false, false, false, false, false, false, false, false, false, false, false] else bif Nat.beq n 3 then [false, false, false, true, false, false, false, true, true, false, false, false, false, false, false, false, false, false, false, false, false, false, false, false, false, false, false, false, false, false, false, false, false, false, false, true, true, false, false, false, false, false, false, false, false, false, false, false, false, false, false, false, false, false, false, false, false, false, false, false, false, false, false, false, false, false, false, false, false, false, false, false] else bif Nat.beq n 2 then [false, false, false, false, false, false, false, false, true, false, false, false, false, false, false, false, false, false, false, false, false, false, false, false, false, false, false, false, false, false, false, false, false, false, false, false, false, false, false, false, false, false, false, false, false, false, false, false, false, false, false, false, false, false, false, false, false, false, false, false, false, false, false, false, false, false, false, false, false, false, false, false] else []
  | _ => []
noncomputable def G_astar_Regions_2 (R3 : LL) (i x57 : Int) : Nat → LL → Int → Option (LL)
  | 0, _, _ => none
  | m + 1, R2, x58 =>
    bif (decide (x58 < x57)) then
      bif ((decide ((0 : Int) ≤ x58)) && (decide (x58 < (Int.ofNat R3.length)))) then
        Option.bind (R3[x58.toNat]?) fun r =>
        bif (chk [(LT.int IntKind.i64)] r) then
          bif (decide ((cI r 0) ≥ (0 : Int))) then
            bif (decide (x58 < (Int.ofNat R2.length))) then
              G_astar_Regions_2 R3 i x57 m (List.set R2 x58.toNat [(i64 i)]) (wr (x58 + (1 : Int)))
            else
            none
          else
          G_astar_Regions_2 R3 i x57 m R2 (wr (x58 + (1 : Int)))
        else
        none
      else
      none
    else
    some R2
noncomputable def E20_2 (R2 R3 : LL) (i x35 x36 x57 x58 b0_0 b0_1 : Int) (b0_2 : LL) (b1_0 b1_1 : Int) (b1_2 b1_3 : LL) (b1_4 : Int) : St := ⟨[.dead, .dead, .dead, (.ref 16000 1 0 0), .dead, .dead, .dead, (.ref 16000112 1 0 0), (.slc 28848 (R2).length), .dead, (.sc (.int .i64 i)), .dead, .dead, .dead, .dead, .dead, .dead, .dead, .dead, .dead, .dead, .dead, .dead, .dead, .dead, .dead, .dead, .dead, .dead, .dead, .dead, .dead, .dead, .dead, .dead, (.sc (.int .i64 x35)), (.sc (.int .i64 x36)), .dead, .dead, .dead, .dead, .dead, .dead, .dead, .dead, .dead, .dead, .dead, .dead, .dead, .dead, .dead, .dead, .dead, .dead, .dead, (.slc 64032 (R3).length), (.sc (.int .i64 x57)), (.sc (.int .i64 x58)), .dead, .dead, .dead, .dead, .dead, .dead, .dead, .dead, .dead, .dead, .dead, .dead, .dead], [(16000, ⟨.box, 24, 3, [[(.sc (.int .i64 b0_0)), (.sc (.int .i64 b0_1)), (.ro 3 b0_2)]]⟩), (16000112, ⟨.box, 46, 5, [[(.sc (.int .i64 b1_0)), (.sc (.int .i64 b1_1)), (.ro 3 b1_2), (.ro 1 b1_3), (.sc (.int .i64 b1_4))]]⟩), (28848, ⟨.arr, 3, 1, R2⟩), (64032, ⟨.arr, 3, 1, R3⟩)]⟩
noncomputable def X20_2 (x35 x36 b0_0 b0_1 : Int) (b0_2 : LL) (b1_0 b1_1 : Int) (b1_2 b1_3 : LL) (b1_4 : Int) (k : Ex → St → Option CR) (t : LL) : Option CR := k (.exit 4) ⟨[.dead, .dead, .dead, (.ref 16000 1 0 0), .dead, .dead, .dead, (.ref 16000112 1 0 0), (.slc 28848 (t).length), .dead, .dead, .dead, .dead, .dead, .dead, .dead, .dead, .dead, .dead, .dead, .dead, .dead, .dead, .dead, .dead, .dead, .dead, .dead, .dead, .dead, .dead, .dead, .dead, .dead, .dead, (.sc (.int .i64 x35)), (.sc (.int .i64 x36)), .dead, .dead, .dead, .dead, .dead, .dead, .dead, .dead, .dead, .dead, .dead, .dead, .dead, .dead, .dead, .dead, .dead, .dead, .dead, .dead, .dead, .dead, .dead, .dead, .dead, .dead, .dead, .dead, .dead, .dead, .dead, .dead, .dead, .dead, .dead], [(16000, ⟨.box, 24, 3, [[(.sc (.int .i64 b0_0)), (.sc (.int .i64 b0_1)), (.ro 3 b0_2)]]⟩), (16000112, ⟨.box, 46, 5, [[(.sc (.int .i64 b1_0)), (.sc (.int .i64 b1_1)), (.ro 3 b1_2), (.ro 1 b1_3), (.sc (.int .i64 b1_4))]]⟩), (28848, ⟨.arr, 3, 1, t⟩)]⟩
noncomputable def ks20_2 : List SK := [.f .dead, .f .dead, .f .dead, .f (.ref 16000 1 0 0), .f .dead, .f .dead, .f .dead, .f (.ref 16000112 1 0 0), .f (.slc 28848 2), .f .dead, .f (.int .i64), .f .dead, .f .dead, .f .dead, .f .dead, .f .dead, .f .dead, .f .dead, .f .dead, .f .dead, .f .dead, .f .dead, .f .dead, .f .dead, .f .dead, .f .dead, .f .dead, .f .dead, .f .dead, .f .dead, .f .dead, .f .dead, .f .dead, .f .dead, .f .dead, .f (.int .i64), .f (.int .i64), .f .dead, .f .dead, .f .dead, .f .dead, .f .dead, .f .dead, .f .dead, .f .dead, .f .dead, .f .dead, .f .dead, .f .dead, .f .dead, .f .dead, .f .dead, .f .dead, .f .dead, .f .dead, .f .dead, .f (.slc 64032 3), .f (.int .i64), .f (.int .i64), .f .dead, .f .dead, .f .dead, .f .dead, .f .dead, .f .dead, .f .dead, .f .dead, .f .dead, .f .dead, .f .dead, .f .dead, .f .dead]
noncomputable def hs20_2 : List HK := [⟨16000, .box, 24, 3, some [.int .i64, .int .i64, .ro 3]⟩, ⟨16000112, .box, 46, 5, some [.int .i64, .int .i64, .ro 3, .ro 1, .int .i64]⟩, ⟨28848, .arr, 3, 1, none⟩, ⟨64032, .arr, 3, 1, none⟩]
noncomputable def Lm20_2 (s : St) (k : Ex → St → Option CR) : Option CR := bif chkS ks20_2 hs20_2 s then (G_astar_Regions_2 (blkAt s.heap 3).2.rows (toI (cIa s.tmps 10)) (toI (cIa s.tmps 57)) FU (blkAt s.heap 2).2.rows (toI (cIa s.tmps 58))).bind (X20_2 (toI (cIa s.tmps 35)) (toI (cIa s.tmps 36)) (toI (cIa (rows0 (blkAt s.heap 0).2) 0)) (toI (cIa (rows0 (blkAt s.heap 0).2) 1)) (roRows (cIa (rows0 (blkAt s.heap 0).2) 2)) (toI (cIa (rows0 (blkAt s.heap 1).2) 0)) (toI (cIa (rows0 (blkAt s.heap 1).2) 1)) (roRows (cIa (rows0 (blkAt s.heap 1).2) 2)) (roRows (cIa (rows0 (blkAt s.heap 1).2) 3)) (toI (cIa (rows0 (blkAt s.heap 1).2) 4)) k) else none
noncomputable def L20_2 (s : St) (k : Ex → St → Option CR) : Option CR := Lm20_2 (maskS (maskOf ks20_2) s) k
noncomputable def G_astar_Regions_1 (x35 b0_0 b1_0 b1_1 : Int) (b1_2 b1_3 : LL) (b1_4 : Int) : Nat → LL → Int → Option (LL)
  | 0, _, _ => none
  | m + 1, R2, x36 =>
    bif (decide (x36 < x35)) then
      Option.bind (F_grid_At b0_0 x36) fun t =>
      bif ((decide ((0 : Int) ≤ x36)) && (decide (x36 < (Int.ofNat R2.length)))) then
        Option.bind (R2[x36.toNat]?) fun r =>
        bif (chk [(LT.int IntKind.i64)] r) then
          bif (decide ((cI r 0) ≥ (0 : Int))) then
            G_astar_Regions_1 x35 b0_0 b1_0 b1_1 b1_2 b1_3 b1_4 m R2 (wr (x36 + (1 : Int)))
          else
          Option.bind (F_astar_ground__free b1_0 b1_1 b1_2 b1_3 b1_4 t.1 t.2) fun t1 =>
          bif (!t1) then
            G_astar_Regions_1 x35 b0_0 b1_0 b1_1 b1_2 b1_3 b1_4 m R2 (wr (x36 + (1 : Int)))
          else
          Option.bind (F_astar_ground__reach b1_0 b1_1 b1_2 b1_3 b1_4 t.1 t.2) fun t2 =>
          Option.bind (G_astar_Regions_2 t2 x36 (Int.ofNat t2.length) FU R2 (0 : Int)) fun t3 =>
          G_astar_Regions_1 x35 b0_0 b1_0 b1_1 b1_2 b1_3 b1_4 m t3 (wr (x36 + (1 : Int)))
        else
        none
      else
      none
    else
    some R2
noncomputable def E20_1 (R2 : LL) (x35 x36 b0_0 b0_1 : Int) (b0_2 : LL) (b1_0 b1_1 : Int) (b1_2 b1_3 : LL) (b1_4 : Int) : St := ⟨[.dead, .dead, .dead, (.ref 16000 1 0 0), .dead, .dead, .dead, (.ref 16000112 1 0 0), (.slc 28848 (R2).length), .dead, .dead, .dead, .dead, .dead, .dead, .dead, .dead, .dead, .dead, .dead, .dead, .dead, .dead, .dead, .dead, .dead, .dead, .dead, .dead, .dead, .dead, .dead, .dead, .dead, .dead, (.sc (.int .i64 x35)), (.sc (.int .i64 x36)), .dead, .dead, .dead, .dead, .dead, .dead, .dead, .dead, .dead, .dead, .dead, .dead, .dead, .dead, .dead, .dead, .dead, .dead, .dead, .dead, .dead, .dead, .dead, .dead, .dead, .dead, .dead, .dead, .dead, .dead, .dead, .dead, .dead, .dead, .dead], [(16000, ⟨.box, 24, 3, [[(.sc (.int .i64 b0_0)), (.sc (.int .i64 b0_1)), (.ro 3 b0_2)]]⟩), (16000112, ⟨.box, 46, 5, [[(.sc (.int .i64 b1_0)), (.sc (.int .i64 b1_1)), (.ro 3 b1_2), (.ro 1 b1_3), (.sc (.int .i64 b1_4))]]⟩), (28848, ⟨.arr, 3, 1, R2⟩)]⟩
noncomputable def X20_1 (k : Ex → St → Option CR) (t : LL) : Option CR := k (.exit 2) ⟨[.dead, .dead, .dead, .dead, .dead, .dead, .dead, .dead, (.slc 28848 (t).length), .dead, .dead, .dead, .dead, .dead, .dead, .dead, .dead, .dead, .dead, .dead, .dead, .dead, .dead, .dead, .dead, .dead, .dead, .dead, .dead, .dead, .dead, .dead, .dead, .dead, .dead, .dead, .dead, .dead, .dead, .dead, .dead, .dead, .dead, .dead, .dead, .dead, .dead, .dead, .dead, .dead, .dead, .dead, .dead, .dead, .dead, .dead, .dead, .dead, .dead, .dead, .dead, .dead, .dead, .dead, .dead, .dead, .dead, .dead, .dead, .dead, .dead, .dead], [(28848, ⟨.arr, 3, 1, t⟩)]⟩
noncomputable def ks20_1 : List SK := [.f .dead, .f .dead, .f .dead, .f (.ref 16000 1 0 0), .f .dead, .f .dead, .f .dead, .f (.ref 16000112 1 0 0), .f (.slc 28848 2), .f .dead, .f .dead, .f .dead, .f .dead, .f .dead, .f .dead, .f .dead, .f .dead, .f .dead, .f .dead, .f .dead, .f .dead, .f .dead, .f .dead, .f .dead, .f .dead, .f .dead, .f .dead, .f .dead, .f .dead, .f .dead, .f .dead, .f .dead, .f .dead, .f .dead, .f .dead, .f (.int .i64), .f (.int .i64), .f .dead, .f .dead, .f .dead, .f .dead, .f .dead, .f .dead, .f .dead, .f .dead, .f .dead, .f .dead, .f .dead, .f .dead, .f .dead, .f .dead, .f .dead, .f .dead, .f .dead, .f .dead, .f .dead, .f .dead, .f .dead, .f .dead, .f .dead, .f .dead, .f .dead, .f .dead, .f .dead, .f .dead, .f .dead, .f .dead, .f .dead, .f .dead, .f .dead, .f .dead, .f .dead]
noncomputable def hs20_1 : List HK := [⟨16000, .box, 24, 3, some [.int .i64, .int .i64, .ro 3]⟩, ⟨16000112, .box, 46, 5, some [.int .i64, .int .i64, .ro 3, .ro 1, .int .i64]⟩, ⟨28848, .arr, 3, 1, none⟩]
noncomputable def Lm20_1 (s : St) (k : Ex → St → Option CR) : Option CR := bif chkS ks20_1 hs20_1 s then (G_astar_Regions_1 (toI (cIa s.tmps 35)) (toI (cIa (rows0 (blkAt s.heap 0).2) 0)) (toI (cIa (rows0 (blkAt s.heap 1).2) 0)) (toI (cIa (rows0 (blkAt s.heap 1).2) 1)) (roRows (cIa (rows0 (blkAt s.heap 1).2) 2)) (roRows (cIa (rows0 (blkAt s.heap 1).2) 3)) (toI (cIa (rows0 (blkAt s.heap 1).2) 4)) FU (blkAt s.heap 2).2.rows (toI (cIa s.tmps 36))).bind (X20_1 k) else none
noncomputable def L20_1 (s : St) (k : Ex → St → Option CR) : Option CR := Lm20_1 (maskS (maskOf ks20_1) s) k
noncomputable def L20 : LT' := fun i s k => bif Nat.beq i 0 then L20_0 s k else bif Nat.beq i 2 then L20_1 s k else bif Nat.beq i 4 then L20_2 s k else none
noncomputable def F_astar_Regions (m_W m_H : Int) (m_Cells blocked : LL) (class_ : Int) : Option (LL) :=
  Option.bind (F_astar_ground__valid m_W m_H m_Cells blocked class_) fun t =>
  bif (!t) then
    some []
  else
  bif ((((decide ((Int.ofNat m_Cells.length) = (Int.ofNat m_Cells.length))) && (decide ((0 : Int) ≤ (Int.ofNat m_Cells.length)))) && (decide ((Int.ofNat m_Cells.length) ≤ (9223372036854775807 : Int)))) && (decide (((8 : Int) * (Int.ofNat m_Cells.length)) ≤ (140737488355328 : Int)))) then
    Option.bind (G_astar_Regions_0 (Int.ofNat (Blk.rows (Blk.mk BKind.arr 3 1 (List.replicate (Int.ofNat m_Cells.length).toNat [(i64 (0 : Int))]))).length) FU (Blk.rows (Blk.mk BKind.arr 3 1 (List.replicate (Int.ofNat m_Cells.length).toNat [(i64 (0 : Int))]))) (0 : Int)) fun t1 =>
    Option.bind (G_astar_Regions_1 (Int.ofNat t1.length) m_W m_W m_H m_Cells blocked class_ FU t1 (0 : Int)) fun t2 =>
    some t2
  else
  none
noncomputable def enc20 (t : LL) : CR := ⟨true, (.slc 0 (t).length), [], [⟨.arr, 3, 1, t⟩]⟩
noncomputable def ks20 : List SK := [.agg [.int .i64, .int .i64, .ro 3], .f (.ro 1), .f (.int .i64)]
noncomputable def S20 (us : List AVal) : Call := bif chkA ks20 us then Call.of (F_astar_Regions (toI (cIa (aggL (cIa us 0)) 0)) (toI (cIa (aggL (cIa us 0)) 1)) (roRows (cIa (aggL (cIa us 0)) 2)) (roRows (cIa us 1)) (toI (cIa us 2))) enc20 else Call.none
noncomputable def C20 := AI.ext 20 S20 C43
@[reducible] noncomputable def B20_0 := bodyOf TT TU GL0 C43 ownF L20 (lp Tryd.f20 0)
@[reducible] noncomputable def K20_0 (k : Ex → St → Option CR) : Ex → St → Option CR := fun e s => k e (maskS (W20_0 e) s)
theorem spec20_0 (k : Ex → St → Option CR) : ∀ (m : Nat) (R2 : LL) (x26 x27 b0_0 b0_1 : Int) (b0_2 : LL) (b1_0 b1_1 : Int) (b1_2 b1_3 : LL) (b1_4 : Int), loopN B20_0 m (E20_0 R2 x26 x27 b0_0 b0_1 b0_2 b1_0 b1_1 b1_2 b1_3 b1_4) (K20_0 k) = (G_astar_Regions_0 x26 m R2 x27).bind (X20_0 b0_0 b0_1 b0_2 b1_0 b1_1 b1_2 b1_3 b1_4 k)
  | 0, _, _, _, _, _, _, _, _, _, _, _ => rfl
  | m + 1, R2, x26, x27, b0_0, b0_1, b0_2, b1_0, b1_1, b1_2, b1_3, b1_4 =>
    Eq.trans (b := (bif (decide (x27 < x26)) then (bif (((verEq R2.length R2.length) && (decide ((0 : Int) ≤ x27))) && (decide (x27 < (Int.ofNat R2.length)))) then (bif ((((verEq R2.length R2.length) && true) && true) && true) then (loopN B20_0 m ⟨[.dead, .dead, .dead, (AVal.ref 16000 1 0 0), .dead, .dead, .dead, (AVal.ref 16000112 1 0 0), (AVal.slc 28848 R2.length), .dead, .dead, .dead, .dead, .dead, .dead, .dead, .dead, .dead, .dead, .dead, .dead, .dead, .dead, .dead, .dead, .dead, (i64 x26), (i64 (wr (x27 + (1 : Int)))), .dead, .dead, .dead, .dead, .dead, .dead, .dead, .dead, .dead, .dead, .dead, .dead, .dead, .dead, .dead, .dead, .dead, .dead, .dead, .dead, .dead, .dead, .dead, .dead, .dead, .dead, .dead, .dead, .dead, .dead, .dead, .dead, .dead, .dead, .dead, .dead, .dead, .dead, .dead, .dead, .dead, .dead, .dead, .dead], [(Prod.mk 16000 (Blk.mk BKind.box 24 3 [[(i64 b0_0), (i64 b0_1), (AVal.ro 3 b0_2)]])), (Prod.mk 16000112 (Blk.mk BKind.box 46 5 [[(i64 b1_0), (i64 b1_1), (AVal.ro 3 b1_2), (AVal.ro 1 b1_3), (i64 b1_4)]])), (Prod.mk 28848 (Blk.mk BKind.arr 3 1 (List.set R2 x27.toNat [(i64 (-(1 : Int)))])))]⟩ (K20_0 k)) else none) else none) else (k (.exit 0) ⟨[.dead, .dead, .dead, (AVal.ref 16000 1 0 0), .dead, .dead, .dead, (AVal.ref 16000112 1 0 0), (AVal.slc 28848 R2.length), .dead, .dead, .dead, .dead, .dead, .dead, .dead, .dead, .dead, .dead, .dead, .dead, .dead, .dead, .dead, .dead, .dead, .dead, .dead, .dead, .dead, .dead, .dead, .dead, .dead, .dead, .dead, .dead, .dead, .dead, .dead, .dead, .dead, .dead, .dead, .dead, .dead, .dead, .dead, .dead, .dead, .dead, .dead, .dead, .dead, .dead, .dead, .dead, .dead, .dead, .dead, .dead, .dead, .dead, .dead, .dead, .dead, .dead, .dead, .dead, .dead, .dead, .dead], [(Prod.mk 16000 (Blk.mk BKind.box 24 3 [[(i64 b0_0), (i64 b0_1), (AVal.ro 3 b0_2)]])), (Prod.mk 16000112 (Blk.mk BKind.box 46 5 [[(i64 b1_0), (i64 b1_1), (AVal.ro 3 b1_2), (AVal.ro 1 b1_3), (i64 b1_4)]])), (Prod.mk 28848 (Blk.mk BKind.arr 3 1 R2))]⟩))) (by kernel_rfl)
      (n_condH rfl (fun h0 => (n_condH (n_and (n_andL (verEq_rfl _) rfl) rfl) (fun h1 => (n_true (n_andL (n_andL (n_andL (verEq_rfl _) rfl) rfl) rfl) ((congrArg (fun z => loopN B20_0 m z (K20_0 k)) (by simp [E20_0] : _ = E20_0 (List.set R2 x27.toNat [(i64 (-(1 : Int)))]) x26 (wr (x27 + (1 : Int))) b0_0 b0_1 b0_2 b1_0 b1_1 b1_2 b1_3 b1_4)).trans (spec20_0 k m (List.set R2 x27.toNat [(i64 (-(1 : Int)))]) x26 (wr (x27 + (1 : Int))) b0_0 b0_1 b0_2 b1_0 b1_1 b1_2 b1_3 b1_4)))) fun h1 => n_none)) fun h0 => rfl)
theorem okL20_0 : LoopOk TT TU GL0 C43 ownF L20 (lp Tryd.f20 0) :=
  loopOk_of ks20_0 hs20_0 W20_0 FU (fun s k => (G_astar_Regions_0 (toI (cIa s.tmps 26)) FU (blkAt s.heap 2).2.rows (toI (cIa s.tmps 27))).bind (X20_0 (toI (cIa (rows0 (blkAt s.heap 0).2) 0)) (toI (cIa (rows0 (blkAt s.heap 0).2) 1)) (roRows (cIa (rows0 (blkAt s.heap 0).2) 2)) (toI (cIa (rows0 (blkAt s.heap 1).2) 0)) (toI (cIa (rows0 (blkAt s.heap 1).2) 1)) (roRows (cIa (rows0 (blkAt s.heap 1).2) 2)) (roRows (cIa (rows0 (blkAt s.heap 1).2) 3)) (toI (cIa (rows0 (blkAt s.heap 1).2) 4)) k)) (fun s k => by kernel_rfl) (fun s k => spec20_0 k FU (blkAt s.heap 2).2.rows (toI (cIa s.tmps 26)) (toI (cIa s.tmps 27)) (toI (cIa (rows0 (blkAt s.heap 0).2) 0)) (toI (cIa (rows0 (blkAt s.heap 0).2) 1)) (roRows (cIa (rows0 (blkAt s.heap 0).2) 2)) (toI (cIa (rows0 (blkAt s.heap 1).2) 0)) (toI (cIa (rows0 (blkAt s.heap 1).2) 1)) (roRows (cIa (rows0 (blkAt s.heap 1).2) 2)) (roRows (cIa (rows0 (blkAt s.heap 1).2) 3)) (toI (cIa (rows0 (blkAt s.heap 1).2) 4)))
@[reducible] noncomputable def B20_2 := bodyOf TT TU GL0 C43 ownF L20 (lp Tryd.f20 2)
@[reducible] noncomputable def K20_2 (k : Ex → St → Option CR) : Ex → St → Option CR := fun e s => k e (maskS (W20_2 e) s)
theorem spec20_2 (k : Ex → St → Option CR) : ∀ (m : Nat) (R2 R3 : LL) (i x35 x36 x57 x58 b0_0 b0_1 : Int) (b0_2 : LL) (b1_0 b1_1 : Int) (b1_2 b1_3 : LL) (b1_4 : Int), loopN B20_2 m (E20_2 R2 R3 i x35 x36 x57 x58 b0_0 b0_1 b0_2 b1_0 b1_1 b1_2 b1_3 b1_4) (K20_2 k) = (G_astar_Regions_2 R3 i x57 m R2 x58).bind (X20_2 x35 x36 b0_0 b0_1 b0_2 b1_0 b1_1 b1_2 b1_3 b1_4 k)
  | 0, _, _, _, _, _, _, _, _, _, _, _, _, _, _, _ => rfl
  | m + 1, R2, R3, i, x35, x36, x57, x58, b0_0, b0_1, b0_2, b1_0, b1_1, b1_2, b1_3, b1_4 =>
    Eq.trans (b := (bif (decide (x58 < x57)) then (bif (((verEq R3.length R3.length) && (decide ((0 : Int) ≤ x58))) && (decide (x58 < (Int.ofNat R3.length)))) then (bif (verEq R3.length R3.length) then (Option.bind (R3[x58.toNat]?) fun r => (bif (chk [(LT.int IntKind.i64)] r) then (bif (decide ((cI r 0) ≥ (0 : Int))) then (bif (((verEq R2.length R2.length) && (decide ((0 : Int) ≤ x58))) && (decide (x58 < (Int.ofNat R2.length)))) then (bif ((((verEq R2.length R2.length) && true) && true) && true) then (loopN B20_2 m ⟨[.dead, .dead, .dead, (AVal.ref 16000 1 0 0), .dead, .dead, .dead, (AVal.ref 16000112 1 0 0), (AVal.slc 28848 R2.length), .dead, (i64 i), .dead, .dead, .dead, .dead, .dead, .dead, .dead, .dead, .dead, .dead, .dead, .dead, .dead, .dead, .dead, .dead, .dead, .dead, .dead, .dead, .dead, .dead, .dead, .dead, (i64 x35), (i64 x36), .dead, .dead, .dead, .dead, .dead, .dead, .dead, .dead, .dead, .dead, .dead, .dead, .dead, .dead, .dead, .dead, .dead, .dead, .dead, (AVal.slc 64032 R3.length), (i64 x57), (i64 (wr (x58 + (1 : Int)))), .dead, .dead, .dead, .dead, .dead, .dead, .dead, .dead, .dead, .dead, .dead, .dead, .dead], [(Prod.mk 16000 (Blk.mk BKind.box 24 3 [[(i64 b0_0), (i64 b0_1), (AVal.ro 3 b0_2)]])), (Prod.mk 16000112 (Blk.mk BKind.box 46 5 [[(i64 b1_0), (i64 b1_1), (AVal.ro 3 b1_2), (AVal.ro 1 b1_3), (i64 b1_4)]])), (Prod.mk 28848 (Blk.mk BKind.arr 3 1 (List.set R2 x58.toNat [(i64 i)]))), (Prod.mk 64032 (Blk.mk BKind.arr 3 1 R3))]⟩ (K20_2 k)) else none) else none) else (loopN B20_2 m ⟨[.dead, .dead, .dead, (AVal.ref 16000 1 0 0), .dead, .dead, .dead, (AVal.ref 16000112 1 0 0), (AVal.slc 28848 R2.length), .dead, (i64 i), .dead, .dead, .dead, .dead, .dead, .dead, .dead, .dead, .dead, .dead, .dead, .dead, .dead, .dead, .dead, .dead, .dead, .dead, .dead, .dead, .dead, .dead, .dead, .dead, (i64 x35), (i64 x36), .dead, .dead, .dead, .dead, .dead, .dead, .dead, .dead, .dead, .dead, .dead, .dead, .dead, .dead, .dead, .dead, .dead, .dead, .dead, (AVal.slc 64032 R3.length), (i64 x57), (i64 (wr (x58 + (1 : Int)))), .dead, .dead, .dead, .dead, .dead, .dead, .dead, .dead, .dead, .dead, .dead, .dead, .dead], [(Prod.mk 16000 (Blk.mk BKind.box 24 3 [[(i64 b0_0), (i64 b0_1), (AVal.ro 3 b0_2)]])), (Prod.mk 16000112 (Blk.mk BKind.box 46 5 [[(i64 b1_0), (i64 b1_1), (AVal.ro 3 b1_2), (AVal.ro 1 b1_3), (i64 b1_4)]])), (Prod.mk 28848 (Blk.mk BKind.arr 3 1 R2)), (Prod.mk 64032 (Blk.mk BKind.arr 3 1 R3))]⟩ (K20_2 k))) else none)) else none) else none) else (k (.exit 4) ⟨[.dead, .dead, .dead, (AVal.ref 16000 1 0 0), .dead, .dead, .dead, (AVal.ref 16000112 1 0 0), (AVal.slc 28848 R2.length), .dead, .dead, .dead, .dead, .dead, .dead, .dead, .dead, .dead, .dead, .dead, .dead, .dead, .dead, .dead, .dead, .dead, .dead, .dead, .dead, .dead, .dead, .dead, .dead, .dead, .dead, (i64 x35), (i64 x36), .dead, .dead, .dead, .dead, .dead, .dead, .dead, .dead, .dead, .dead, .dead, .dead, .dead, .dead, .dead, .dead, .dead, .dead, .dead, .dead, .dead, .dead, .dead, .dead, .dead, .dead, .dead, .dead, .dead, .dead, .dead, .dead, .dead, .dead, .dead], [(Prod.mk 16000 (Blk.mk BKind.box 24 3 [[(i64 b0_0), (i64 b0_1), (AVal.ro 3 b0_2)]])), (Prod.mk 16000112 (Blk.mk BKind.box 46 5 [[(i64 b1_0), (i64 b1_1), (AVal.ro 3 b1_2), (AVal.ro 1 b1_3), (i64 b1_4)]])), (Prod.mk 28848 (Blk.mk BKind.arr 3 1 R2))]⟩))) (by kernel_rfl)
      (n_condH rfl (fun h0 => (n_condH (n_and (n_andL (verEq_rfl _) rfl) rfl) (fun h1 => (n_true (verEq_rfl _) (n_bind fun r => (n_condH rfl (fun h2 => (n_condH rfl (fun h3 => (n_condH (n_andL (n_andL (verEq_rfl _) (n_al h1)) rfl) (fun h4 => (n_true (n_andL (n_andL (n_andL (verEq_rfl _) rfl) rfl) rfl) ((congrArg (fun z => loopN B20_2 m z (K20_2 k)) (by simp [E20_2] : _ = E20_2 (List.set R2 x58.toNat [(i64 i)]) R3 i x35 x36 x57 (wr (x58 + (1 : Int))) b0_0 b0_1 b0_2 b1_0 b1_1 b1_2 b1_3 b1_4)).trans (spec20_2 k m (List.set R2 x58.toNat [(i64 i)]) R3 i x35 x36 x57 (wr (x58 + (1 : Int))) b0_0 b0_1 b0_2 b1_0 b1_1 b1_2 b1_3 b1_4)))) fun h4 => n_none)) fun h3 => (spec20_2 k m R2 R3 i x35 x36 x57 (wr (x58 + (1 : Int))) b0_0 b0_1 b0_2 b1_0 b1_1 b1_2 b1_3 b1_4))) fun h2 => n_none)))) fun h1 => n_none)) fun h0 => rfl)
theorem okL20_2 : LoopOk TT TU GL0 C43 ownF L20 (lp Tryd.f20 2) :=
  loopOk_of ks20_2 hs20_2 W20_2 FU (fun s k => (G_astar_Regions_2 (blkAt s.heap 3).2.rows (toI (cIa s.tmps 10)) (toI (cIa s.tmps 57)) FU (blkAt s.heap 2).2.rows (toI (cIa s.tmps 58))).bind (X20_2 (toI (cIa s.tmps 35)) (toI (cIa s.tmps 36)) (toI (cIa (rows0 (blkAt s.heap 0).2) 0)) (toI (cIa (rows0 (blkAt s.heap 0).2) 1)) (roRows (cIa (rows0 (blkAt s.heap 0).2) 2)) (toI (cIa (rows0 (blkAt s.heap 1).2) 0)) (toI (cIa (rows0 (blkAt s.heap 1).2) 1)) (roRows (cIa (rows0 (blkAt s.heap 1).2) 2)) (roRows (cIa (rows0 (blkAt s.heap 1).2) 3)) (toI (cIa (rows0 (blkAt s.heap 1).2) 4)) k)) (fun s k => by kernel_rfl) (fun s k => spec20_2 k FU (blkAt s.heap 2).2.rows (blkAt s.heap 3).2.rows (toI (cIa s.tmps 10)) (toI (cIa s.tmps 35)) (toI (cIa s.tmps 36)) (toI (cIa s.tmps 57)) (toI (cIa s.tmps 58)) (toI (cIa (rows0 (blkAt s.heap 0).2) 0)) (toI (cIa (rows0 (blkAt s.heap 0).2) 1)) (roRows (cIa (rows0 (blkAt s.heap 0).2) 2)) (toI (cIa (rows0 (blkAt s.heap 1).2) 0)) (toI (cIa (rows0 (blkAt s.heap 1).2) 1)) (roRows (cIa (rows0 (blkAt s.heap 1).2) 2)) (roRows (cIa (rows0 (blkAt s.heap 1).2) 3)) (toI (cIa (rows0 (blkAt s.heap 1).2) 4)))
@[reducible] noncomputable def B20_1 := bodyOf TT TU GL0 C43 ownF L20 (lp Tryd.f20 1)
@[reducible] noncomputable def K20_1 (k : Ex → St → Option CR) : Ex → St → Option CR := fun e s => k e (maskS (W20_1 e) s)
theorem spec20_1 (k : Ex → St → Option CR) : ∀ (m : Nat) (R2 : LL) (x35 x36 b0_0 b0_1 : Int) (b0_2 : LL) (b1_0 b1_1 : Int) (b1_2 b1_3 : LL) (b1_4 : Int), loopN B20_1 m (E20_1 R2 x35 x36 b0_0 b0_1 b0_2 b1_0 b1_1 b1_2 b1_3 b1_4) (K20_1 k) = (G_astar_Regions_1 x35 b0_0 b1_0 b1_1 b1_2 b1_3 b1_4 m R2 x36).bind (X20_1 k)
  | 0, _, _, _, _, _, _, _, _, _, _, _ => rfl
  | m + 1, R2, x35, x36, b0_0, b0_1, b0_2, b1_0, b1_1, b1_2, b1_3, b1_4 =>
    Eq.trans (by kernel_rfl) (n_condH rfl (fun h0 => (n_bind fun t => (n_condH (show ((((verEq R2.length R2.length) && (decide ((0 : Int) ≤ x36))) && (decide (x36 < (Int.ofNat R2.length))))) = _ from (n_and (n_andL (verEq_rfl _) rfl) rfl)) (fun h1 => (n_tru (show (verEq R2.length R2.length) = true from (verEq_rfl _)) (n_bind fun r => (n_condH rfl (fun h2 => (n_condH rfl (fun h3 => (spec20_1 k m R2 x35 (wr (x36 + (1 : Int))) b0_0 b0_1 b0_2 b1_0 b1_1 b1_2 b1_3 b1_4)) fun h3 => (n_bind fun t1 => (n_condH rfl (fun h4 => (spec20_1 k m R2 x35 (wr (x36 + (1 : Int))) b0_0 b0_1 b0_2 b1_0 b1_1 b1_2 b1_3 b1_4)) fun h4 => (n_bind fun t2 => (n_tru (show ((((true && (verEq t2.length t2.length)) && true) && true) && true) = true from (n_andL (n_andL (n_andL (n_andL rfl (verEq_rfl _)) rfl) rfl) rfl)) (n_tru (show (verEq t2.length t2.length) = true from (verEq_rfl _)) (n_tru (show (((true && (verEq R2.length (blkLen [(Prod.mk 16000 (Blk.mk BKind.box 24 3 [[(i64 b0_0), (i64 b0_1), (AVal.ro 3 b0_2)]])), (Prod.mk 16000112 (Blk.mk BKind.box 46 5 [[(i64 b1_0), (i64 b1_1), (AVal.ro 3 b1_2), (AVal.ro 1 b1_3), (i64 b1_4)]])), (Prod.mk 28848 (Blk.mk BKind.arr 3 1 R2)), (Prod.mk 64032 (Blk.mk BKind.arr 3 1 t2))] 2))) && ((true && (verEq t2.length (blkLen [(Prod.mk 16000 (Blk.mk BKind.box 24 3 [[(i64 b0_0), (i64 b0_1), (AVal.ro 3 b0_2)]])), (Prod.mk 16000112 (Blk.mk BKind.box 46 5 [[(i64 b1_0), (i64 b1_1), (AVal.ro 3 b1_2), (AVal.ro 1 b1_3), (i64 b1_4)]])), (Prod.mk 28848 (Blk.mk BKind.arr 3 1 R2)), (Prod.mk 64032 (Blk.mk BKind.arr 3 1 t2))] 3))) && true)) && true) = true from (n_andL (n_andL (n_andL rfl (by first | exact verEq_of rfl | simp [verEq, blkLen, blkAt])) (n_andL (n_andL rfl (by first | exact verEq_of rfl | simp [verEq, blkLen, blkAt])) rfl)) rfl)) (n_bind fun t3 => (spec20_1 k m t3 x35 (wr (x36 + (1 : Int))) b0_0 b0_1 b0_2 b1_0 b1_1 b1_2 b1_3 b1_4)))))))))) fun h2 => rfl)))) fun h1 => rfl))) fun h0 => rfl)
theorem okL20_1 : LoopOk TT TU GL0 C43 ownF L20 (lp Tryd.f20 1) :=
  loopOk_of ks20_1 hs20_1 W20_1 FU (fun s k => (G_astar_Regions_1 (toI (cIa s.tmps 35)) (toI (cIa (rows0 (blkAt s.heap 0).2) 0)) (toI (cIa (rows0 (blkAt s.heap 1).2) 0)) (toI (cIa (rows0 (blkAt s.heap 1).2) 1)) (roRows (cIa (rows0 (blkAt s.heap 1).2) 2)) (roRows (cIa (rows0 (blkAt s.heap 1).2) 3)) (toI (cIa (rows0 (blkAt s.heap 1).2) 4)) FU (blkAt s.heap 2).2.rows (toI (cIa s.tmps 36))).bind (X20_1 k)) (fun s k => by kernel_rfl) (fun s k => spec20_1 k FU (blkAt s.heap 2).2.rows (toI (cIa s.tmps 35)) (toI (cIa s.tmps 36)) (toI (cIa (rows0 (blkAt s.heap 0).2) 0)) (toI (cIa (rows0 (blkAt s.heap 0).2) 1)) (roRows (cIa (rows0 (blkAt s.heap 0).2) 2)) (toI (cIa (rows0 (blkAt s.heap 1).2) 0)) (toI (cIa (rows0 (blkAt s.heap 1).2) 1)) (roRows (cIa (rows0 (blkAt s.heap 1).2) 2)) (roRows (cIa (rows0 (blkAt s.heap 1).2) 3)) (toI (cIa (rows0 (blkAt s.heap 1).2) 4)))
theorem run20 (m_W m_H : Int) (m_Cells blocked : LL) (class_ : Int) : fcall TT TU GL0 C43 ownF true L20 Tryd.f20 [(.agg [(.sc (.int .i64 m_W)), (.sc (.int .i64 m_H)), (.ro 3 m_Cells)]), (.ro 1 blocked), (.sc (.int .i64 class_))] = (F_astar_Regions m_W m_H m_Cells blocked class_).bind fun t => some (enc20 t) :=
  Eq.trans (by kernel_rfl) (n_bind fun t => (n_condH rfl (fun h0 => rfl) fun h0 => (n_condH rfl (fun h1 => (n_tru (show (verEq (Blk.rows (Blk.mk BKind.arr 3 1 (List.replicate (Int.ofNat m_Cells.length).toNat [(i64 (0 : Int))]))).length (List.replicate (Int.ofNat m_Cells.length).toNat [(i64 (0 : Int))]).length) = true from (by first | exact verEq_of rfl | simp [verEq, blkLen, blkAt])) (n_tru (show (((true && (verEq (List.replicate (Int.ofNat m_Cells.length).toNat [(i64 (0 : Int))]).length (blkLen [(Prod.mk 16000 (Blk.mk BKind.box 24 3 [[(i64 m_W), (i64 m_H), (AVal.ro 3 m_Cells)]])), (Prod.mk 16000112 (Blk.mk BKind.box 46 5 [[(i64 m_W), (i64 m_H), (AVal.ro 3 m_Cells), (AVal.ro 1 blocked), (i64 class_)]])), (Prod.mk 28848 (Blk.mk BKind.arr 3 1 (List.replicate (Int.ofNat m_Cells.length).toNat [(i64 (0 : Int))])))] 2))) && true) && true) = true from (n_andL (n_andL (n_andL rfl (by first | exact verEq_of rfl | simp [verEq, blkLen, blkAt])) rfl) rfl)) (n_bind fun t1 => (n_tru (show (verEq t1.length t1.length) = true from (verEq_rfl _)) (n_tru (show (((true && (verEq t1.length (blkLen [(Prod.mk 16000 (Blk.mk BKind.box 24 3 [[(i64 m_W), (i64 m_H), (AVal.ro 3 m_Cells)]])), (Prod.mk 16000112 (Blk.mk BKind.box 46 5 [[(i64 m_W), (i64 m_H), (AVal.ro 3 m_Cells), (AVal.ro 1 blocked), (i64 class_)]])), (Prod.mk 28848 (Blk.mk BKind.arr 3 1 t1))] 2))) && true) && true) = true from (n_andL (n_andL (n_andL rfl (by first | exact verEq_of rfl | simp [verEq, blkLen, blkAt])) rfl) rfl)) (n_bind fun t2 => (n_tru (show (verEq t2.length t2.length) = true from (verEq_rfl _)) rfl)))))))) fun h1 => rfl)))
theorem lib20 : Lib Tryd.prog GL0 C20 :=
  Lib.fn lib43 mixed TT_ok Tryd.func20 (by decide +kernel) (by kernel_rfl) true L20 (loops_of 3 (by kernel_rfl) (belowS (belowS (belowS below0 okL20_0) okL20_1) okL20_2)) ks20 (F := fun us => F_astar_Regions (toI (cIa (aggL (cIa us 0)) 0)) (toI (cIa (aggL (cIa us 0)) 1)) (roRows (cIa (aggL (cIa us 0)) 2)) (roRows (cIa us 1)) (toI (cIa us 2))) (fun us => rfl) (fun us => run20 (toI (cIa (aggL (cIa us 0)) 0)) (toI (cIa (aggL (cIa us 0)) 1)) (roRows (cIa (aggL (cIa us 0)) 2)) (roRows (cIa us 1)) (toI (cIa us 2))) (fun t => rfl)
noncomputable def F_skirmishlaw14_alive : Option (Bool) :=
  Option.bind F_skirmishlaw14_plain fun t =>
  Option.bind (F_astar_Path t.2.1 t.2.2 t.1 [] (1 : Int) (0 : Int) (0 : Int) (2 : Int) (1 : Int)) fun t1 =>
  bif ((Int.ofNat t1.1.length) != (3 : Int)) then
    some false
  else
  bif (decide ((1 : Int) < (Int.ofNat t1.1.length))) then
    Option.bind (t1.1[(1 : Int).toNat]?) fun r =>
    bif (chk [(LT.int IntKind.i64), (LT.int IntKind.i64)] r) then
      bif (!(((cI r 0) == (1 : Int)) && ((cI r 1) == (0 : Int)))) then
        some false
      else
      bif (t1.2.1 != (24 : Int)) then
        some false
      else
      bif (t1.2.2 != (0 : Int)) then
        some false
      else
      Option.bind (F_astar_Cost t.2.1 t.2.2 t.1 [] (1 : Int) t1.1) fun t2 =>
      Option.bind (F_astar_Reach t.2.1 t.2.2 t.1 [] (1 : Int) (0 : Int) (0 : Int)) fun t3 =>
      Option.bind (F_astar_Regions t.2.1 t.2.2 t.1 [[(bo true)]] (1 : Int)) fun t4 =>
      Option.bind (F_astar_Path t.2.1 t.2.2 t.1 [[(bo true)]] (1 : Int) (0 : Int) (0 : Int) (2 : Int) (0 : Int)) fun t5 =>
      bif (t2.1 == (24 : Int)) then
        bif (t2.2 == (0 : Int)) then
          bif ((Int.ofNat t3.length) == (9 : Int)) then
            bif (decide ((8 : Int) < (Int.ofNat t3.length))) then
              Option.bind (t3[(8 : Int).toNat]?) fun r1 =>
              bif (chk [(LT.int IntKind.i64)] r1) then
                bif ((cI r1 0) == (28 : Int)) then
                  bif ((Int.ofNat t4.length) == (9 : Int)) then
                    bif (decide ((0 : Int) < (Int.ofNat t4.length))) then
                      Option.bind (t4[(0 : Int).toNat]?) fun r2 =>
                      bif (chk [(LT.int IntKind.i64)] r2) then
                        bif ((cI r2 0) == (-(1 : Int))) then
                          bif (decide ((8 : Int) < (Int.ofNat t4.length))) then
                            Option.bind (t4[(8 : Int).toNat]?) fun r3 =>
                            bif (chk [(LT.int IntKind.i64)] r3) then
                              bif ((cI r3 0) == (1 : Int)) then
                                some (t5.2.2 == (9 : Int))
                              else
                              some false
                            else
                            none
                          else
                          none
                        else
                        some false
                      else
                      none
                    else
                    none
                  else
                  some false
                else
                some false
              else
              none
            else
            none
          else
          some false
        else
        some false
      else
      some false
    else
    none
  else
  none
noncomputable def enc11 (t : Bool) : CR := ⟨true, (.sc (.bool t)), [], []⟩
noncomputable def ks11 : List SK := []
noncomputable def S11 (us : List AVal) : Call := bif chkA ks11 us then Call.of (F_skirmishlaw14_alive) enc11 else Call.none
noncomputable def C11 := AI.ext 11 S11 C20
theorem run11 : fcall TT TU GL0 C20 ownF true noL Tryd.f11 [] = (F_skirmishlaw14_alive).bind fun t => some (enc11 t) :=
  Eq.trans (by kernel_rfl) (n_bind fun t => (n_tru (show ((((true && (verEq t.1.length t.1.length)) && true) && true) && true) = true from (n_andL (n_andL (n_andL (n_andL rfl (verEq_rfl _)) rfl) rfl) rfl)) (n_tru (show (verEq t.1.length t.1.length) = true from (verEq_rfl _)) (n_bind fun t1 => (n_tru (show ((((true && (verEq t1.1.length t1.1.length)) && true) && true) && true) = true from (n_andL (n_andL (n_andL (n_andL rfl (verEq_rfl _)) rfl) rfl) rfl)) (n_tru (show (verEq t1.1.length t1.1.length) = true from (verEq_rfl _)) (n_condH rfl (fun h0 => rfl) fun h0 => (n_condH (show ((((verEq t1.1.length t1.1.length) && (decide ((0 : Int) ≤ (1 : Int)))) && (decide ((1 : Int) < (Int.ofNat t1.1.length))))) = _ from (n_andL (n_andL (verEq_rfl _) (by kernel_rfl)) rfl)) (fun h1 => (n_tru (show (verEq t1.1.length t1.1.length) = true from (verEq_rfl _)) (n_bind fun r => (n_condH rfl (fun h2 => (n_condH rfl (fun h3 => rfl) fun h3 => (n_condH rfl (fun h4 => rfl) fun h4 => (n_condH rfl (fun h5 => rfl) fun h5 => (n_tru (show (verEq t.1.length t.1.length) = true from (verEq_rfl _)) (n_tru (show (verEq t1.1.length t1.1.length) = true from (verEq_rfl _)) (n_bind fun t2 => (n_tru (show (verEq t.1.length t.1.length) = true from (verEq_rfl _)) (n_bind fun t3 => (n_tru (show ((((true && (verEq t3.length t3.length)) && true) && true) && true) = true from (n_andL (n_andL (n_andL (n_andL rfl (verEq_rfl _)) rfl) rfl) rfl)) (n_tru (show (verEq t.1.length t.1.length) = true from (verEq_rfl _)) (n_bind fun t4 => (n_tru (show ((((true && (verEq t4.length t4.length)) && true) && true) && true) = true from (n_andL (n_andL (n_andL (n_andL rfl (verEq_rfl _)) rfl) rfl) rfl)) (n_tru (show (verEq t.1.length t.1.length) = true from (verEq_rfl _)) (n_bind fun t5 => (n_tru (show ((((true && (verEq t5.1.length t5.1.length)) && true) && true) && true) = true from (n_andL (n_andL (n_andL (n_andL rfl (verEq_rfl _)) rfl) rfl) rfl)) (n_condH rfl (fun h6 => (n_condH rfl (fun h7 => (n_tru (show (verEq t3.length t3.length) = true from (verEq_rfl _)) (n_condH rfl (fun h8 => (n_condH (show ((((verEq t3.length t3.length) && (decide ((0 : Int) ≤ (8 : Int)))) && (decide ((8 : Int) < (Int.ofNat t3.length))))) = _ from (n_andL (n_andL (verEq_rfl _) (by kernel_rfl)) rfl)) (fun h9 => (n_tru (show (verEq t3.length t3.length) = true from (verEq_rfl _)) (n_bind fun r1 => (n_condH rfl (fun h10 => (n_condH rfl (fun h11 => (n_tru (show (verEq t4.length t4.length) = true from (verEq_rfl _)) (n_condH rfl (fun h12 => (n_condH (show ((((verEq t4.length t4.length) && (decide ((0 : Int) ≤ (0 : Int)))) && (decide ((0 : Int) < (Int.ofNat t4.length))))) = _ from (n_andL (n_andL (verEq_rfl _) (by kernel_rfl)) rfl)) (fun h13 => (n_tru (show (verEq t4.length t4.length) = true from (verEq_rfl _)) (n_bind fun r2 => (n_condH rfl (fun h14 => (n_condH rfl (fun h15 => (n_condH (show ((((verEq t4.length t4.length) && (decide ((0 : Int) ≤ (8 : Int)))) && (decide ((8 : Int) < (Int.ofNat t4.length))))) = _ from (n_andL (n_andL (verEq_rfl _) (by kernel_rfl)) rfl)) (fun h16 => (n_tru (show (verEq t4.length t4.length) = true from (verEq_rfl _)) (n_bind fun r3 => (n_condH rfl (fun h17 => (n_condH rfl (fun h18 => rfl) fun h18 => rfl)) fun h17 => rfl)))) fun h16 => rfl)) fun h15 => rfl)) fun h14 => rfl)))) fun h13 => rfl)) fun h12 => rfl))) fun h11 => rfl)) fun h10 => rfl)))) fun h9 => rfl)) fun h8 => rfl))) fun h7 => rfl)) fun h6 => rfl))))))))))))))))) fun h2 => rfl)))) fun h1 => rfl))))))))
theorem lib11 : Lib Tryd.prog GL0 C11 :=
  Lib.fn lib20 mixed TT_ok Tryd.func11 (by decide +kernel) (by kernel_rfl) true noL (loops_of 0 (by kernel_rfl) below0) ks11 (F := fun us => F_skirmishlaw14_alive) (fun us => rfl) (fun us => run11) (fun t => rfl)
noncomputable def F_skirmishref06_Valid (w h : Int) : Option (Bool) :=
  bif (decide (w ≥ (1 : Int))) then
    bif (decide (w ≤ (32 : Int))) then
      bif (decide (h ≥ (1 : Int))) then
        some (decide (h ≤ (32 : Int)))
      else
      some false
    else
    some false
  else
  some false
noncomputable def enc71 (t : Bool) : CR := ⟨true, (.sc (.bool t)), [], []⟩
noncomputable def ks71 : List SK := [.f (.int .i64), .f (.int .i64)]
noncomputable def S71 (us : List AVal) : Call := bif chkA ks71 us then Call.of (F_skirmishref06_Valid (toI (cIa us 0)) (toI (cIa us 1))) enc71 else Call.none
noncomputable def C71 := AI.ext 71 S71 C11
theorem run71 (w h : Int) : fcall TT TU GL0 C11 ownF true noL Tryd.f71 [(.sc (.int .i64 w)), (.sc (.int .i64 h))] = (F_skirmishref06_Valid w h).bind fun t => some (enc71 t) :=
  Eq.trans (by kernel_rfl) (n_condH rfl (fun h0 => (n_condH rfl (fun h1 => (n_condH rfl (fun h2 => rfl) fun h2 => rfl)) fun h1 => rfl)) fun h0 => rfl)
theorem lib71 : Lib Tryd.prog GL0 C71 :=
  Lib.fn lib11 mixed TT_ok Tryd.func71 (by decide +kernel) (by kernel_rfl) true noL (loops_of 0 (by kernel_rfl) below0) ks71 (F := fun us => F_skirmishref06_Valid (toI (cIa us 0)) (toI (cIa us 1))) (fun us => rfl) (fun us => run71 (toI (cIa us 0)) (toI (cIa us 1))) (fun t => rfl)
noncomputable def F_skirmishref07_Formed (m_W m_H : Int) (m_Cells : LL) : Option (Bool) :=
  Option.bind (F_skirmishref06_Valid m_W m_H) fun t =>
  bif t then
    some ((Int.ofNat m_Cells.length) == (wr (m_W * m_H)))
  else
  some false
noncomputable def enc54 (t : Bool) : CR := ⟨true, (.sc (.bool t)), [], []⟩
noncomputable def ks54 : List SK := [.agg [.int .i64, .int .i64, .ro 3]]
noncomputable def S54 (us : List AVal) : Call := bif chkA ks54 us then Call.of (F_skirmishref07_Formed (toI (cIa (aggL (cIa us 0)) 0)) (toI (cIa (aggL (cIa us 0)) 1)) (roRows (cIa (aggL (cIa us 0)) 2))) enc54 else Call.none
noncomputable def C54 := AI.ext 54 S54 C71
theorem run54 (m_W m_H : Int) (m_Cells : LL) : fcall TT TU GL0 C71 ownF true noL Tryd.f54 [(.agg [(.sc (.int .i64 m_W)), (.sc (.int .i64 m_H)), (.ro 3 m_Cells)])] = (F_skirmishref07_Formed m_W m_H m_Cells).bind fun t => some (enc54 t) :=
  Eq.trans (by kernel_rfl) (n_bind fun t => (n_condH rfl (fun h0 => rfl) fun h0 => rfl))
theorem lib54 : Lib Tryd.prog GL0 C54 :=
  Lib.fn lib71 mixed TT_ok Tryd.func54 (by decide +kernel) (by kernel_rfl) true noL (loops_of 0 (by kernel_rfl) below0) ks54 (F := fun us => F_skirmishref07_Formed (toI (cIa (aggL (cIa us 0)) 0)) (toI (cIa (aggL (cIa us 0)) 1)) (roRows (cIa (aggL (cIa us 0)) 2))) (fun us => rfl) (fun us => run54 (toI (cIa (aggL (cIa us 0)) 0)) (toI (cIa (aggL (cIa us 0)) 1)) (roRows (cIa (aggL (cIa us 0)) 2))) (fun t => rfl)
noncomputable def F_skirmishref07_ValidCell (c_Kind c_Height c_Amount : Int) : Option (Bool) :=
  bif (decide (c_Kind < (1 : Int))) then
    some false
  else
  bif (decide (c_Kind > (5 : Int))) then
    some false
  else
  bif (decide (c_Height < (0 : Int))) then
    some false
  else
  bif (decide (c_Height > (3 : Int))) then
    some false
  else
  bif (decide (c_Amount < (0 : Int))) then
    some false
  else
  bif (decide (c_Amount > (1000000 : Int))) then
    some false
  else
  bif (c_Kind == (4 : Int)) then
    some ((decide (c_Amount > (0 : Int))) == true)
  else
  some ((decide (c_Amount > (0 : Int))) == (c_Kind == (5 : Int)))
noncomputable def enc55 (t : Bool) : CR := ⟨true, (.sc (.bool t)), [], []⟩
noncomputable def ks55 : List SK := [.agg [.int .i64, .int .i64, .int .i64]]
noncomputable def S55 (us : List AVal) : Call := bif chkA ks55 us then Call.of (F_skirmishref07_ValidCell (toI (cIa (aggL (cIa us 0)) 0)) (toI (cIa (aggL (cIa us 0)) 1)) (toI (cIa (aggL (cIa us 0)) 2))) enc55 else Call.none
noncomputable def C55 := AI.ext 55 S55 C54
theorem run55 (c_Kind c_Height c_Amount : Int) : fcall TT TU GL0 C54 ownF true noL Tryd.f55 [(.agg [(.sc (.int .i64 c_Kind)), (.sc (.int .i64 c_Height)), (.sc (.int .i64 c_Amount))])] = (F_skirmishref07_ValidCell c_Kind c_Height c_Amount).bind fun t => some (enc55 t) :=
  Eq.trans (by kernel_rfl) (n_condH rfl (fun h0 => rfl) fun h0 => (n_condH rfl (fun h1 => rfl) fun h1 => (n_condH rfl (fun h2 => rfl) fun h2 => (n_condH rfl (fun h3 => rfl) fun h3 => (n_condH rfl (fun h4 => rfl) fun h4 => (n_condH rfl (fun h5 => rfl) fun h5 => (n_condH rfl (fun h6 => rfl) fun h6 => rfl)))))))
theorem lib55 : Lib Tryd.prog GL0 C55 :=
  Lib.fn lib54 mixed TT_ok Tryd.func55 (by decide +kernel) (by kernel_rfl) true noL (loops_of 0 (by kernel_rfl) below0) ks55 (F := fun us => F_skirmishref07_ValidCell (toI (cIa (aggL (cIa us 0)) 0)) (toI (cIa (aggL (cIa us 0)) 1)) (toI (cIa (aggL (cIa us 0)) 2))) (fun us => rfl) (fun us => run55 (toI (cIa (aggL (cIa us 0)) 0)) (toI (cIa (aggL (cIa us 0)) 1)) (toI (cIa (aggL (cIa us 0)) 2))) (fun t => rfl)
noncomputable def W31_0 : Ex → List Bool
  | .ret => [false, false, true, false, false, false, false, false, false, false, false, false, false, false, false, false, false, false, false, false, false]
  | .exit n => bif Nat.beq n 0 then [false, false, false, false, false, false, false, false, false, false, false, false, false, false, false, false, false, false, false, false, false] else []
  | _ => []
noncomputable def G_skirmishref07_Valid_0 (b0_2 : LL) : Nat → Int → Option (Bool)
  | 0, _ => none
  | m + 1, i =>
    bif (decide (i < (Int.ofNat b0_2.length))) then
      bif (decide ((0 : Int) ≤ i)) then
        Option.bind (b0_2[i.toNat]?) fun r =>
        bif (chk [(LT.int IntKind.i64), (LT.int IntKind.i64), (LT.int IntKind.i64)] r) then
          Option.bind (F_skirmishref07_ValidCell (cI r 0) (cI r 1) (cI r 2)) fun t =>
          bif (!t) then
            some true
          else
          G_skirmishref07_Valid_0 b0_2 m (wr (i + (1 : Int)))
        else
        none
      else
      none
    else
    some false
noncomputable def E31_0 (i b0_0 b0_1 : Int) (b0_2 : LL) : St := ⟨[.dead, (.ref 16000 1 0 0), .dead, (.sc (.int .i64 i)), .dead, .dead, .dead, .dead, .dead, .dead, .dead, .dead, .dead, .dead, .dead, .dead, .dead, .dead, .dead, .dead, .dead], [(16000, ⟨.box, 24, 3, [[(.sc (.int .i64 b0_0)), (.sc (.int .i64 b0_1)), (.ro 3 b0_2)]]⟩)]⟩
noncomputable def X31_0 (k : Ex → St → Option CR) (t : Bool) : Option CR := bif t then k .ret ⟨[.dead, .dead, (.sc (.bool false)), .dead, .dead, .dead, .dead, .dead, .dead, .dead, .dead, .dead, .dead, .dead, .dead, .dead, .dead, .dead, .dead, .dead, .dead], []⟩ else k (.exit 0) ⟨[.dead, .dead, .dead, .dead, .dead, .dead, .dead, .dead, .dead, .dead, .dead, .dead, .dead, .dead, .dead, .dead, .dead, .dead, .dead, .dead, .dead], []⟩
noncomputable def ks31_0 : List SK := [.f .dead, .f (.ref 16000 1 0 0), .f .dead, .f (.int .i64), .f .dead, .f .dead, .f .dead, .f .dead, .f .dead, .f .dead, .f .dead, .f .dead, .f .dead, .f .dead, .f .dead, .f .dead, .f .dead, .f .dead, .f .dead, .f .dead, .f .dead]
noncomputable def hs31_0 : List HK := [⟨16000, .box, 24, 3, some [.int .i64, .int .i64, .ro 3]⟩]
noncomputable def Lm31_0 (s : St) (k : Ex → St → Option CR) : Option CR := bif chkS ks31_0 hs31_0 s then (G_skirmishref07_Valid_0 (roRows (cIa (rows0 (blkAt s.heap 0).2) 2)) FU (toI (cIa s.tmps 3))).bind (X31_0 k) else none
noncomputable def L31_0 (s : St) (k : Ex → St → Option CR) : Option CR := Lm31_0 (maskS (maskOf ks31_0) s) k
noncomputable def L31 : LT' := fun i s k => bif Nat.beq i 0 then L31_0 s k else none
noncomputable def F_skirmishref07_Valid (m_W m_H : Int) (m_Cells : LL) : Option (Bool) :=
  Option.bind (F_skirmishref07_Formed m_W m_H m_Cells) fun t =>
  bif (!t) then
    some false
  else
  Option.bind (G_skirmishref07_Valid_0 m_Cells FU (0 : Int)) fun t1 =>
  bif t1 then
    some false
  else
  some true
noncomputable def enc31 (t : Bool) : CR := ⟨true, (.sc (.bool t)), [], []⟩
noncomputable def ks31 : List SK := [.agg [.int .i64, .int .i64, .ro 3]]
noncomputable def S31 (us : List AVal) : Call := bif chkA ks31 us then Call.of (F_skirmishref07_Valid (toI (cIa (aggL (cIa us 0)) 0)) (toI (cIa (aggL (cIa us 0)) 1)) (roRows (cIa (aggL (cIa us 0)) 2))) enc31 else Call.none
noncomputable def C31 := AI.ext 31 S31 C55
@[reducible] noncomputable def B31_0 := bodyOf TT TU GL0 C55 ownF L31 (lp Tryd.f31 0)
@[reducible] noncomputable def K31_0 (k : Ex → St → Option CR) : Ex → St → Option CR := fun e s => k e (maskS (W31_0 e) s)
theorem spec31_0 (k : Ex → St → Option CR) : ∀ (m : Nat) (i b0_0 b0_1 : Int) (b0_2 : LL), loopN B31_0 m (E31_0 i b0_0 b0_1 b0_2) (K31_0 k) = (G_skirmishref07_Valid_0 b0_2 m i).bind (X31_0 k)
  | 0, _, _, _, _ => rfl
  | m + 1, i, b0_0, b0_1, b0_2 =>
    Eq.trans (by kernel_rfl) (n_condH rfl (fun h0 => (n_condH rfl (fun h1 => (n_bind fun r => (n_condH rfl (fun h2 => (n_bind fun t => (n_condH rfl (fun h3 => rfl) fun h3 => (spec31_0 k m (wr (i + (1 : Int))) b0_0 b0_1 b0_2)))) fun h2 => rfl))) fun h1 => rfl)) fun h0 => rfl)
theorem okL31_0 : LoopOk TT TU GL0 C55 ownF L31 (lp Tryd.f31 0) :=
  loopOk_of ks31_0 hs31_0 W31_0 FU (fun s k => (G_skirmishref07_Valid_0 (roRows (cIa (rows0 (blkAt s.heap 0).2) 2)) FU (toI (cIa s.tmps 3))).bind (X31_0 k)) (fun s k => by kernel_rfl) (fun s k => spec31_0 k FU (toI (cIa s.tmps 3)) (toI (cIa (rows0 (blkAt s.heap 0).2) 0)) (toI (cIa (rows0 (blkAt s.heap 0).2) 1)) (roRows (cIa (rows0 (blkAt s.heap 0).2) 2)))
theorem run31 (m_W m_H : Int) (m_Cells : LL) : fcall TT TU GL0 C55 ownF true L31 Tryd.f31 [(.agg [(.sc (.int .i64 m_W)), (.sc (.int .i64 m_H)), (.ro 3 m_Cells)])] = (F_skirmishref07_Valid m_W m_H m_Cells).bind fun t => some (enc31 t) :=
  Eq.trans (by kernel_rfl) (n_bind fun t => (n_condH rfl (fun h0 => rfl) fun h0 => (n_bind fun t1 => (n_condH rfl (fun h1 => rfl) fun h1 => rfl))))
theorem lib31 : Lib Tryd.prog GL0 C31 :=
  Lib.fn lib55 mixed TT_ok Tryd.func31 (by decide +kernel) (by kernel_rfl) true L31 (loops_of 1 (by kernel_rfl) (belowS below0 okL31_0)) ks31 (F := fun us => F_skirmishref07_Valid (toI (cIa (aggL (cIa us 0)) 0)) (toI (cIa (aggL (cIa us 0)) 1)) (roRows (cIa (aggL (cIa us 0)) 2))) (fun us => rfl) (fun us => run31 (toI (cIa (aggL (cIa us 0)) 0)) (toI (cIa (aggL (cIa us 0)) 1)) (roRows (cIa (aggL (cIa us 0)) 2))) (fun t => rfl)
noncomputable def F_skirmishref14_Class (class_ : Int) : Option (Bool) :=
  bif (decide (class_ ≥ (1 : Int))) then
    some (decide (class_ ≤ (3 : Int)))
  else
  some false
noncomputable def enc32 (t : Bool) : CR := ⟨true, (.sc (.bool t)), [], []⟩
noncomputable def ks32 : List SK := [.f (.int .i64)]
noncomputable def S32 (us : List AVal) : Call := bif chkA ks32 us then Call.of (F_skirmishref14_Class (toI (cIa us 0))) enc32 else Call.none
noncomputable def C32 := AI.ext 32 S32 C31
theorem run32 (class_ : Int) : fcall TT TU GL0 C31 ownF true noL Tryd.f32 [(.sc (.int .i64 class_))] = (F_skirmishref14_Class class_).bind fun t => some (enc32 t) :=
  Eq.trans (by kernel_rfl) (n_condH rfl (fun h0 => rfl) fun h0 => rfl)
theorem lib32 : Lib Tryd.prog GL0 C32 :=
  Lib.fn lib31 mixed TT_ok Tryd.func32 (by decide +kernel) (by kernel_rfl) true noL (loops_of 0 (by kernel_rfl) below0) ks32 (F := fun us => F_skirmishref14_Class (toI (cIa us 0))) (fun us => rfl) (fun us => run32 (toI (cIa us 0))) (fun t => rfl)
noncomputable def F_skirmishref14_inside (m_W m_H : Int) (m_Cells : LL) (p_X p_Y : Int) : Option (Bool) :=
  bif (decide (p_X ≥ (0 : Int))) then
    bif (decide (p_X < m_W)) then
      bif (decide (p_Y ≥ (0 : Int))) then
        some (decide (p_Y < m_H))
      else
      some false
    else
    some false
  else
  some false
noncomputable def enc33 (t : Bool) : CR := ⟨true, (.sc (.bool t)), [], []⟩
noncomputable def ks33 : List SK := [.agg [.int .i64, .int .i64, .ro 3], .agg [.int .i64, .int .i64]]
noncomputable def S33 (us : List AVal) : Call := bif chkA ks33 us then Call.of (F_skirmishref14_inside (toI (cIa (aggL (cIa us 0)) 0)) (toI (cIa (aggL (cIa us 0)) 1)) (roRows (cIa (aggL (cIa us 0)) 2)) (toI (cIa (aggL (cIa us 1)) 0)) (toI (cIa (aggL (cIa us 1)) 1))) enc33 else Call.none
noncomputable def C33 := AI.ext 33 S33 C32
theorem run33 (m_W m_H : Int) (m_Cells : LL) (p_X p_Y : Int) : fcall TT TU GL0 C32 ownF true noL Tryd.f33 [(.agg [(.sc (.int .i64 m_W)), (.sc (.int .i64 m_H)), (.ro 3 m_Cells)]), (.agg [(.sc (.int .i64 p_X)), (.sc (.int .i64 p_Y))])] = (F_skirmishref14_inside m_W m_H m_Cells p_X p_Y).bind fun t => some (enc33 t) :=
  Eq.trans (by kernel_rfl) (n_condH rfl (fun h0 => (n_condH rfl (fun h1 => (n_condH rfl (fun h2 => rfl) fun h2 => rfl)) fun h1 => rfl)) fun h0 => rfl)
theorem lib33 : Lib Tryd.prog GL0 C33 :=
  Lib.fn lib32 mixed TT_ok Tryd.func33 (by decide +kernel) (by kernel_rfl) true noL (loops_of 0 (by kernel_rfl) below0) ks33 (F := fun us => F_skirmishref14_inside (toI (cIa (aggL (cIa us 0)) 0)) (toI (cIa (aggL (cIa us 0)) 1)) (roRows (cIa (aggL (cIa us 0)) 2)) (toI (cIa (aggL (cIa us 1)) 0)) (toI (cIa (aggL (cIa us 1)) 1))) (fun us => rfl) (fun us => run33 (toI (cIa (aggL (cIa us 0)) 0)) (toI (cIa (aggL (cIa us 0)) 1)) (roRows (cIa (aggL (cIa us 0)) 2)) (toI (cIa (aggL (cIa us 1)) 0)) (toI (cIa (aggL (cIa us 1)) 1))) (fun t => rfl)
noncomputable def F_skirmishref06_In (w h p_X p_Y : Int) : Option (Bool) :=
  bif (decide (p_X ≥ (0 : Int))) then
    bif (decide (p_X < w)) then
      bif (decide (p_Y ≥ (0 : Int))) then
        some (decide (p_Y < h))
      else
      some false
    else
    some false
  else
  some false
noncomputable def enc80 (t : Bool) : CR := ⟨true, (.sc (.bool t)), [], []⟩
noncomputable def ks80 : List SK := [.f (.int .i64), .f (.int .i64), .agg [.int .i64, .int .i64]]
noncomputable def S80 (us : List AVal) : Call := bif chkA ks80 us then Call.of (F_skirmishref06_In (toI (cIa us 0)) (toI (cIa us 1)) (toI (cIa (aggL (cIa us 2)) 0)) (toI (cIa (aggL (cIa us 2)) 1))) enc80 else Call.none
noncomputable def C80 := AI.ext 80 S80 C33
theorem run80 (w h p_X p_Y : Int) : fcall TT TU GL0 C33 ownF true noL Tryd.f80 [(.sc (.int .i64 w)), (.sc (.int .i64 h)), (.agg [(.sc (.int .i64 p_X)), (.sc (.int .i64 p_Y))])] = (F_skirmishref06_In w h p_X p_Y).bind fun t => some (enc80 t) :=
  Eq.trans (by kernel_rfl) (n_condH rfl (fun h0 => (n_condH rfl (fun h1 => (n_condH rfl (fun h2 => rfl) fun h2 => rfl)) fun h1 => rfl)) fun h0 => rfl)
theorem lib80 : Lib Tryd.prog GL0 C80 :=
  Lib.fn lib33 mixed TT_ok Tryd.func80 (by decide +kernel) (by kernel_rfl) true noL (loops_of 0 (by kernel_rfl) below0) ks80 (F := fun us => F_skirmishref06_In (toI (cIa us 0)) (toI (cIa us 1)) (toI (cIa (aggL (cIa us 2)) 0)) (toI (cIa (aggL (cIa us 2)) 1))) (fun us => rfl) (fun us => run80 (toI (cIa us 0)) (toI (cIa us 1)) (toI (cIa (aggL (cIa us 2)) 0)) (toI (cIa (aggL (cIa us 2)) 1))) (fun t => rfl)
noncomputable def F_skirmishref07_Inside (m_W m_H : Int) (m_Cells : LL) (p_X p_Y : Int) : Option (Bool) :=
  Option.bind (F_skirmishref07_Formed m_W m_H m_Cells) fun t =>
  bif t then
    Option.bind (F_skirmishref06_In m_W m_H p_X p_Y) fun t1 =>
    some t1
  else
  some false
noncomputable def enc75 (t : Bool) : CR := ⟨true, (.sc (.bool t)), [], []⟩
noncomputable def ks75 : List SK := [.agg [.int .i64, .int .i64, .ro 3], .agg [.int .i64, .int .i64]]
noncomputable def S75 (us : List AVal) : Call := bif chkA ks75 us then Call.of (F_skirmishref07_Inside (toI (cIa (aggL (cIa us 0)) 0)) (toI (cIa (aggL (cIa us 0)) 1)) (roRows (cIa (aggL (cIa us 0)) 2)) (toI (cIa (aggL (cIa us 1)) 0)) (toI (cIa (aggL (cIa us 1)) 1))) enc75 else Call.none
noncomputable def C75 := AI.ext 75 S75 C80
theorem run75 (m_W m_H : Int) (m_Cells : LL) (p_X p_Y : Int) : fcall TT TU GL0 C80 ownF true noL Tryd.f75 [(.agg [(.sc (.int .i64 m_W)), (.sc (.int .i64 m_H)), (.ro 3 m_Cells)]), (.agg [(.sc (.int .i64 p_X)), (.sc (.int .i64 p_Y))])] = (F_skirmishref07_Inside m_W m_H m_Cells p_X p_Y).bind fun t => some (enc75 t) :=
  Eq.trans (by kernel_rfl) (n_bind fun t => (n_condH rfl (fun h0 => (n_bind fun t1 => rfl)) fun h0 => rfl))
theorem lib75 : Lib Tryd.prog GL0 C75 :=
  Lib.fn lib80 mixed TT_ok Tryd.func75 (by decide +kernel) (by kernel_rfl) true noL (loops_of 0 (by kernel_rfl) below0) ks75 (F := fun us => F_skirmishref07_Inside (toI (cIa (aggL (cIa us 0)) 0)) (toI (cIa (aggL (cIa us 0)) 1)) (roRows (cIa (aggL (cIa us 0)) 2)) (toI (cIa (aggL (cIa us 1)) 0)) (toI (cIa (aggL (cIa us 1)) 1))) (fun us => rfl) (fun us => run75 (toI (cIa (aggL (cIa us 0)) 0)) (toI (cIa (aggL (cIa us 0)) 1)) (roRows (cIa (aggL (cIa us 0)) 2)) (toI (cIa (aggL (cIa us 1)) 0)) (toI (cIa (aggL (cIa us 1)) 1))) (fun t => rfl)
noncomputable def F_skirmishref06_near (n : Int) : Option (Int) :=
  some (maxI (-(1048576 : Int)) (minI n (1048576 : Int)))
noncomputable def enc79 (t : Int) : CR := ⟨true, (.sc (.int .i64 t)), [], []⟩
noncomputable def ks79 : List SK := [.f (.int .i64)]
noncomputable def S79 (us : List AVal) : Call := bif chkA ks79 us then Call.of (F_skirmishref06_near (toI (cIa us 0))) enc79 else Call.none
noncomputable def C79 := AI.ext 79 S79 C75
theorem run79 (n : Int) : fcall TT TU GL0 C75 ownF true noL Tryd.f79 [(.sc (.int .i64 n))] = (F_skirmishref06_near n).bind fun t => some (enc79 t) :=
  Eq.trans (by kernel_rfl) rfl
theorem lib79 : Lib Tryd.prog GL0 C79 :=
  Lib.fn lib75 mixed TT_ok Tryd.func79 (by decide +kernel) (by kernel_rfl) true noL (loops_of 0 (by kernel_rfl) below0) ks79 (F := fun us => F_skirmishref06_near (toI (cIa us 0))) (fun us => rfl) (fun us => run79 (toI (cIa us 0))) (fun t => rfl)
noncomputable def F_skirmishref06_pos (p_X p_Y : Int) : Option (Int × Int) :=
  Option.bind (F_skirmishref06_near p_X) fun t =>
  Option.bind (F_skirmishref06_near p_Y) fun t1 =>
  some (t, t1)
noncomputable def enc72 (t : Int × Int) : CR := ⟨true, (.agg [(.sc (.int .i64 t.1)), (.sc (.int .i64 t.2))]), [], []⟩
noncomputable def ks72 : List SK := [.agg [.int .i64, .int .i64]]
noncomputable def S72 (us : List AVal) : Call := bif chkA ks72 us then Call.of (F_skirmishref06_pos (toI (cIa (aggL (cIa us 0)) 0)) (toI (cIa (aggL (cIa us 0)) 1))) enc72 else Call.none
noncomputable def C72 := AI.ext 72 S72 C79
theorem run72 (p_X p_Y : Int) : fcall TT TU GL0 C79 ownF true noL Tryd.f72 [(.agg [(.sc (.int .i64 p_X)), (.sc (.int .i64 p_Y))])] = (F_skirmishref06_pos p_X p_Y).bind fun t => some (enc72 t) :=
  Eq.trans (by kernel_rfl) (n_bind fun t => (n_bind fun t1 => rfl))
theorem lib72 : Lib Tryd.prog GL0 C72 :=
  Lib.fn lib79 mixed TT_ok Tryd.func72 (by decide +kernel) (by kernel_rfl) true noL (loops_of 0 (by kernel_rfl) below0) ks72 (F := fun us => F_skirmishref06_pos (toI (cIa (aggL (cIa us 0)) 0)) (toI (cIa (aggL (cIa us 0)) 1))) (fun us => rfl) (fun us => run72 (toI (cIa (aggL (cIa us 0)) 0)) (toI (cIa (aggL (cIa us 0)) 1))) (fun t => rfl)
noncomputable def F_skirmishref06_Index (w p_X p_Y : Int) : Option (Int) :=
  Option.bind (F_skirmishref06_pos p_X p_Y) fun t =>
  Option.bind (F_skirmishref06_near w) fun t1 =>
  some (wr ((wr (t.2 * t1)) + t.1))
noncomputable def enc76 (t : Int) : CR := ⟨true, (.sc (.int .i64 t)), [], []⟩
noncomputable def ks76 : List SK := [.f (.int .i64), .agg [.int .i64, .int .i64]]
noncomputable def S76 (us : List AVal) : Call := bif chkA ks76 us then Call.of (F_skirmishref06_Index (toI (cIa us 0)) (toI (cIa (aggL (cIa us 1)) 0)) (toI (cIa (aggL (cIa us 1)) 1))) enc76 else Call.none
noncomputable def C76 := AI.ext 76 S76 C72
theorem run76 (w p_X p_Y : Int) : fcall TT TU GL0 C72 ownF true noL Tryd.f76 [(.sc (.int .i64 w)), (.agg [(.sc (.int .i64 p_X)), (.sc (.int .i64 p_Y))])] = (F_skirmishref06_Index w p_X p_Y).bind fun t => some (enc76 t) :=
  Eq.trans (by kernel_rfl) (n_bind fun t => (n_bind fun t1 => rfl))
theorem lib76 : Lib Tryd.prog GL0 C76 :=
  Lib.fn lib72 mixed TT_ok Tryd.func76 (by decide +kernel) (by kernel_rfl) true noL (loops_of 0 (by kernel_rfl) below0) ks76 (F := fun us => F_skirmishref06_Index (toI (cIa us 0)) (toI (cIa (aggL (cIa us 1)) 0)) (toI (cIa (aggL (cIa us 1)) 1))) (fun us => rfl) (fun us => run76 (toI (cIa us 0)) (toI (cIa (aggL (cIa us 1)) 0)) (toI (cIa (aggL (cIa us 1)) 1))) (fun t => rfl)
noncomputable def F_skirmishref07_Get (m_W m_H : Int) (m_Cells : LL) (p_X p_Y : Int) : Option (Int × Int × Int × Bool) :=
  Option.bind (F_skirmishref07_Inside m_W m_H m_Cells p_X p_Y) fun t =>
  bif (!t) then
    some ((0 : Int), (0 : Int), (0 : Int), false)
  else
  Option.bind (F_skirmishref06_Index m_W p_X p_Y) fun t1 =>
  bif (decide ((0 : Int) ≤ t1)) then
    Option.bind (m_Cells[t1.toNat]?) fun r =>
    bif (chk [(LT.int IntKind.i64), (LT.int IntKind.i64), (LT.int IntKind.i64)] r) then
      some ((cI r 0), (cI r 1), (cI r 2), true)
    else
    none
  else
  none
noncomputable def enc59 (t : Int × Int × Int × Bool) : CR := ⟨true, (.tup [(.agg [(.sc (.int .i64 t.1)), (.sc (.int .i64 t.2.1)), (.sc (.int .i64 t.2.2.1))]), (.sc (.bool t.2.2.2))]), [], []⟩
noncomputable def ks59 : List SK := [.agg [.int .i64, .int .i64, .ro 3], .agg [.int .i64, .int .i64]]
noncomputable def S59 (us : List AVal) : Call := bif chkA ks59 us then Call.of (F_skirmishref07_Get (toI (cIa (aggL (cIa us 0)) 0)) (toI (cIa (aggL (cIa us 0)) 1)) (roRows (cIa (aggL (cIa us 0)) 2)) (toI (cIa (aggL (cIa us 1)) 0)) (toI (cIa (aggL (cIa us 1)) 1))) enc59 else Call.none
noncomputable def C59 := AI.ext 59 S59 C76
theorem run59 (m_W m_H : Int) (m_Cells : LL) (p_X p_Y : Int) : fcall TT TU GL0 C76 ownF true noL Tryd.f59 [(.agg [(.sc (.int .i64 m_W)), (.sc (.int .i64 m_H)), (.ro 3 m_Cells)]), (.agg [(.sc (.int .i64 p_X)), (.sc (.int .i64 p_Y))])] = (F_skirmishref07_Get m_W m_H m_Cells p_X p_Y).bind fun t => some (enc59 t) :=
  Eq.trans (by kernel_rfl) (n_bind fun t => (n_condH rfl (fun h0 => rfl) fun h0 => (n_bind fun t1 => (n_condH rfl (fun h1 => (n_bind fun r => (n_condH rfl (fun h2 => rfl) fun h2 => rfl))) fun h1 => rfl))))
theorem lib59 : Lib Tryd.prog GL0 C59 :=
  Lib.fn lib76 mixed TT_ok Tryd.func59 (by decide +kernel) (by kernel_rfl) true noL (loops_of 0 (by kernel_rfl) below0) ks59 (F := fun us => F_skirmishref07_Get (toI (cIa (aggL (cIa us 0)) 0)) (toI (cIa (aggL (cIa us 0)) 1)) (roRows (cIa (aggL (cIa us 0)) 2)) (toI (cIa (aggL (cIa us 1)) 0)) (toI (cIa (aggL (cIa us 1)) 1))) (fun us => rfl) (fun us => run59 (toI (cIa (aggL (cIa us 0)) 0)) (toI (cIa (aggL (cIa us 0)) 1)) (roRows (cIa (aggL (cIa us 0)) 2)) (toI (cIa (aggL (cIa us 1)) 0)) (toI (cIa (aggL (cIa us 1)) 1))) (fun t => rfl)
noncomputable def F_skirmishref07_Passable (m_W m_H : Int) (m_Cells : LL) (class_ p_X p_Y : Int) : Option (Bool) :=
  Option.bind (F_skirmishref07_Get m_W m_H m_Cells p_X p_Y) fun t =>
  bif (class_ == (1 : Int)) then
    bif t.2.2.2 then
      bif (t.1 == (1 : Int)) then
        some true
      else
      some (t.1 == (5 : Int))
    else
    some false
  else
  bif (class_ == (2 : Int)) then
    bif t.2.2.2 then
      bif (t.1 == (1 : Int)) then
        some true
      else
      bif (t.1 == (5 : Int)) then
        some true
      else
      some (t.1 == (2 : Int))
    else
    some false
  else
  bif (class_ == (3 : Int)) then
    some t.2.2.2
  else
  some false
noncomputable def enc56 (t : Bool) : CR := ⟨true, (.sc (.bool t)), [], []⟩
noncomputable def ks56 : List SK := [.agg [.int .i64, .int .i64, .ro 3], .f (.int .i64), .agg [.int .i64, .int .i64]]
noncomputable def S56 (us : List AVal) : Call := bif chkA ks56 us then Call.of (F_skirmishref07_Passable (toI (cIa (aggL (cIa us 0)) 0)) (toI (cIa (aggL (cIa us 0)) 1)) (roRows (cIa (aggL (cIa us 0)) 2)) (toI (cIa us 1)) (toI (cIa (aggL (cIa us 2)) 0)) (toI (cIa (aggL (cIa us 2)) 1))) enc56 else Call.none
noncomputable def C56 := AI.ext 56 S56 C59
theorem run56 (m_W m_H : Int) (m_Cells : LL) (class_ p_X p_Y : Int) : fcall TT TU GL0 C59 ownF true noL Tryd.f56 [(.agg [(.sc (.int .i64 m_W)), (.sc (.int .i64 m_H)), (.ro 3 m_Cells)]), (.sc (.int .i64 class_)), (.agg [(.sc (.int .i64 p_X)), (.sc (.int .i64 p_Y))])] = (F_skirmishref07_Passable m_W m_H m_Cells class_ p_X p_Y).bind fun t => some (enc56 t) :=
  Eq.trans (by kernel_rfl) (n_bind fun t => (n_condH rfl (fun h0 => (n_condH rfl (fun h1 => (n_condH rfl (fun h2 => rfl) fun h2 => rfl)) fun h1 => rfl)) fun h0 => (n_condH rfl (fun h1 => (n_condH rfl (fun h2 => (n_condH rfl (fun h3 => rfl) fun h3 => (n_condH rfl (fun h4 => rfl) fun h4 => rfl))) fun h2 => rfl)) fun h1 => (n_condH rfl (fun h2 => rfl) fun h2 => rfl))))
theorem lib56 : Lib Tryd.prog GL0 C56 :=
  Lib.fn lib59 mixed TT_ok Tryd.func56 (by decide +kernel) (by kernel_rfl) true noL (loops_of 0 (by kernel_rfl) below0) ks56 (F := fun us => F_skirmishref07_Passable (toI (cIa (aggL (cIa us 0)) 0)) (toI (cIa (aggL (cIa us 0)) 1)) (roRows (cIa (aggL (cIa us 0)) 2)) (toI (cIa us 1)) (toI (cIa (aggL (cIa us 2)) 0)) (toI (cIa (aggL (cIa us 2)) 1))) (fun us => rfl) (fun us => run56 (toI (cIa (aggL (cIa us 0)) 0)) (toI (cIa (aggL (cIa us 0)) 1)) (roRows (cIa (aggL (cIa us 0)) 2)) (toI (cIa us 1)) (toI (cIa (aggL (cIa us 2)) 0)) (toI (cIa (aggL (cIa us 2)) 1))) (fun t => rfl)
noncomputable def F_skirmishref14_Free (m_W m_H : Int) (m_Cells blocked : LL) (class_ p_X p_Y : Int) : Option (Bool) :=
  Option.bind (F_skirmishref07_Passable m_W m_H m_Cells class_ p_X p_Y) fun t =>
  bif (!t) then
    some false
  else
  bif (class_ == (3 : Int)) then
    some true
  else
  bif (decide ((wr ((wr (p_Y * m_W)) + p_X)) ≥ (Int.ofNat blocked.length))) then
    some true
  else
  bif (decide ((0 : Int) ≤ (wr ((wr (p_Y * m_W)) + p_X)))) then
    Option.bind (blocked[(wr ((wr (p_Y * m_W)) + p_X)).toNat]?) fun r =>
    bif (chk [LT.bool] r) then
      some (!(cB r 0))
    else
    none
  else
  none
noncomputable def enc34 (t : Bool) : CR := ⟨true, (.sc (.bool t)), [], []⟩
noncomputable def ks34 : List SK := [.agg [.int .i64, .int .i64, .ro 3], .f (.ro 1), .f (.int .i64), .agg [.int .i64, .int .i64]]
noncomputable def S34 (us : List AVal) : Call := bif chkA ks34 us then Call.of (F_skirmishref14_Free (toI (cIa (aggL (cIa us 0)) 0)) (toI (cIa (aggL (cIa us 0)) 1)) (roRows (cIa (aggL (cIa us 0)) 2)) (roRows (cIa us 1)) (toI (cIa us 2)) (toI (cIa (aggL (cIa us 3)) 0)) (toI (cIa (aggL (cIa us 3)) 1))) enc34 else Call.none
noncomputable def C34 := AI.ext 34 S34 C56
theorem run34 (m_W m_H : Int) (m_Cells blocked : LL) (class_ p_X p_Y : Int) : fcall TT TU GL0 C56 ownF true noL Tryd.f34 [(.agg [(.sc (.int .i64 m_W)), (.sc (.int .i64 m_H)), (.ro 3 m_Cells)]), (.ro 1 blocked), (.sc (.int .i64 class_)), (.agg [(.sc (.int .i64 p_X)), (.sc (.int .i64 p_Y))])] = (F_skirmishref14_Free m_W m_H m_Cells blocked class_ p_X p_Y).bind fun t => some (enc34 t) :=
  Eq.trans (by kernel_rfl) (n_bind fun t => (n_condH rfl (fun h0 => rfl) fun h0 => (n_condH rfl (fun h1 => rfl) fun h1 => (n_condH rfl (fun h2 => rfl) fun h2 => (n_condH rfl (fun h3 => (n_bind fun r => (n_condH rfl (fun h4 => rfl) fun h4 => rfl))) fun h3 => rfl)))))
theorem lib34 : Lib Tryd.prog GL0 C34 :=
  Lib.fn lib56 mixed TT_ok Tryd.func34 (by decide +kernel) (by kernel_rfl) true noL (loops_of 0 (by kernel_rfl) below0) ks34 (F := fun us => F_skirmishref14_Free (toI (cIa (aggL (cIa us 0)) 0)) (toI (cIa (aggL (cIa us 0)) 1)) (roRows (cIa (aggL (cIa us 0)) 2)) (roRows (cIa us 1)) (toI (cIa us 2)) (toI (cIa (aggL (cIa us 3)) 0)) (toI (cIa (aggL (cIa us 3)) 1))) (fun us => rfl) (fun us => run34 (toI (cIa (aggL (cIa us 0)) 0)) (toI (cIa (aggL (cIa us 0)) 1)) (roRows (cIa (aggL (cIa us 0)) 2)) (roRows (cIa us 1)) (toI (cIa us 2)) (toI (cIa (aggL (cIa us 3)) 0)) (toI (cIa (aggL (cIa us 3)) 1))) (fun t => rfl)
noncomputable def W41_0 : Ex → List Bool
  | .ret => [false, false, true, false, false, false, false, false, false, false, false, false]
  | .exit n => bif Nat.beq n 0 then [false, false, false, true, false, false, false, false, false, false, false, false] else []
  | _ => []
noncomputable def G_skirmishref14_None_0 (n : Int) : Nat → LL → Option (LL)
  | 0, _ => none
  | m + 1, R0 =>
    bif (decide ((Int.ofNat R0.length) < n)) then
      bif (roomOk (R0.length + 1) 8) then
        G_skirmishref14_None_0 n m (R0 ++ [[(i64 (-(1 : Int)))]])
      else
      none
    else
    some R0
noncomputable def E41_0 (R0 : LL) (n : Int) : St := ⟨[(.sc (.int .i64 n)), .dead, .dead, (.slc 19200 (R0).length), .dead, .dead, .dead, .dead, .dead, .dead, .dead, .dead], [(19200, ⟨.arr, 3, 1, R0⟩)]⟩
noncomputable def X41_0 (k : Ex → St → Option CR) (t : LL) : Option CR := k (.exit 0) ⟨[.dead, .dead, .dead, (.slc 19200 (t).length), .dead, .dead, .dead, .dead, .dead, .dead, .dead, .dead], [(19200, ⟨.arr, 3, 1, t⟩)]⟩
noncomputable def ks41_0 : List SK := [.f (.int .i64), .f .dead, .f .dead, .f (.slc 19200 0), .f .dead, .f .dead, .f .dead, .f .dead, .f .dead, .f .dead, .f .dead, .f .dead]
noncomputable def hs41_0 : List HK := [⟨19200, .arr, 3, 1, none⟩]
noncomputable def Lm41_0 (s : St) (k : Ex → St → Option CR) : Option CR := bif chkS ks41_0 hs41_0 s then (G_skirmishref14_None_0 (toI (cIa s.tmps 0)) FU (blkAt s.heap 0).2.rows).bind (X41_0 k) else none
noncomputable def L41_0 (s : St) (k : Ex → St → Option CR) : Option CR := Lm41_0 (maskS (maskOf ks41_0) s) k
noncomputable def L41 : LT' := fun i s k => bif Nat.beq i 0 then L41_0 s k else none
noncomputable def F_skirmishref14_None (n : Int) : Option (LL) :=
  Option.bind (G_skirmishref14_None_0 n FU []) fun t =>
  some t
noncomputable def enc41 (t : LL) : CR := ⟨true, (.slc 0 (t).length), [], [⟨.arr, 3, 1, t⟩]⟩
noncomputable def ks41 : List SK := [.f (.int .i64)]
noncomputable def S41 (us : List AVal) : Call := bif chkA ks41 us then Call.of (F_skirmishref14_None (toI (cIa us 0))) enc41 else Call.none
noncomputable def C41 := AI.ext 41 S41 C34
@[reducible] noncomputable def B41_0 := bodyOf TT TU GL0 C34 ownF L41 (lp Tryd.f41 0)
@[reducible] noncomputable def K41_0 (k : Ex → St → Option CR) : Ex → St → Option CR := fun e s => k e (maskS (W41_0 e) s)
theorem spec41_0 (k : Ex → St → Option CR) : ∀ (m : Nat) (R0 : LL) (n : Int), loopN B41_0 m (E41_0 R0 n) (K41_0 k) = (G_skirmishref14_None_0 n m R0).bind (X41_0 k)
  | 0, _, _ => rfl
  | m + 1, R0, n =>
    Eq.trans (by kernel_rfl) (n_tru (show (verEq R0.length R0.length) = true from (verEq_rfl _)) (n_condH rfl (fun h0 => (n_condH (show ((((verEq R0.length R0.length) && true) && (roomOk (R0.length + 1) 8))) = _ from (n_andL (n_andL (verEq_rfl _) rfl) rfl)) (fun h1 => (spec41_0 k m (R0 ++ [[(i64 (-(1 : Int)))]]) n)) fun h1 => rfl)) fun h0 => rfl))
theorem okL41_0 : LoopOk TT TU GL0 C34 ownF L41 (lp Tryd.f41 0) :=
  loopOk_of ks41_0 hs41_0 W41_0 FU (fun s k => (G_skirmishref14_None_0 (toI (cIa s.tmps 0)) FU (blkAt s.heap 0).2.rows).bind (X41_0 k)) (fun s k => by kernel_rfl) (fun s k => spec41_0 k FU (blkAt s.heap 0).2.rows (toI (cIa s.tmps 0)))
theorem run41 (n : Int) : fcall TT TU GL0 C34 ownF true L41 Tryd.f41 [(.sc (.int .i64 n))] = (F_skirmishref14_None n).bind fun t => some (enc41 t) :=
  Eq.trans (by kernel_rfl) (n_bind fun t => (n_tru (show (verEq t.length t.length) = true from (verEq_rfl _)) rfl))
theorem lib41 : Lib Tryd.prog GL0 C41 :=
  Lib.fn lib34 mixed TT_ok Tryd.func41 (by decide +kernel) (by kernel_rfl) true L41 (loops_of 1 (by kernel_rfl) (belowS below0 okL41_0)) ks41 (F := fun us => F_skirmishref14_None (toI (cIa us 0))) (fun us => rfl) (fun us => run41 (toI (cIa us 0))) (fun t => rfl)
noncomputable def W62_0 : Ex → List Bool
  | .ret => [false, false, false, false, true, false, false, false, false, false, false, false, false, false, false, false, false, false, false, false, false, false, false, false, false, false, false, false, false, false, false, false, false, false, false, false, false, false, false, false, false, false]
  | .exit n => bif Nat.beq n 0 then [false, false, false, false, false, true, false, false, false, false, false, false, false, false, false, false, false, false, false, false, false, false, false, false, false, false, false, false, false, false, false, false, false, false, false, false, false, false, false, false, false, false] else []
  | _ => []
noncomputable def G_skirmishref14_nearest_0 (cost settled : LL) : Nat → Int → Int → Option (Int)
  | 0, _, _ => none
  | m + 1, k1, i =>
    bif (decide (i < (Int.ofNat cost.length))) then
      bif (decide ((0 : Int) ≤ i)) then
        Option.bind (settled[i.toNat]?) fun r =>
        bif (chk [LT.bool] r) then
          bif (!(cB r 0)) then
            Option.bind (cost[i.toNat]?) fun r1 =>
            bif (chk [(LT.int IntKind.i64)] r1) then
              bif (decide ((cI r1 0) ≥ (0 : Int))) then
                bif (decide (k1 < (0 : Int))) then
                  G_skirmishref14_nearest_0 cost settled m i (wr (i + (1 : Int)))
                else
                Option.bind (cost[i.toNat]?) fun r2 =>
                bif (chk [(LT.int IntKind.i64)] r2) then
                  bif (decide ((0 : Int) ≤ k1)) then
                    Option.bind (cost[k1.toNat]?) fun r3 =>
                    bif (chk [(LT.int IntKind.i64)] r3) then
                      bif (decide ((cI r2 0) < (cI r3 0))) then
                        G_skirmishref14_nearest_0 cost settled m i (wr (i + (1 : Int)))
                      else
                      G_skirmishref14_nearest_0 cost settled m k1 (wr (i + (1 : Int)))
                    else
                    none
                  else
                  none
                else
                none
              else
              G_skirmishref14_nearest_0 cost settled m k1 (wr (i + (1 : Int)))
            else
            none
          else
          G_skirmishref14_nearest_0 cost settled m k1 (wr (i + (1 : Int)))
        else
        none
      else
      none
    else
    some k1
noncomputable def E62_0 (cost settled : LL) (k1 i : Int) : St := ⟨[(.ro 1 cost), (.ro 1 settled), .dead, .dead, .dead, (.sc (.int .i64 k1)), (.sc (.int .i64 i)), .dead, .dead, .dead, .dead, .dead, .dead, .dead, .dead, .dead, .dead, .dead, .dead, .dead, .dead, .dead, .dead, .dead, .dead, .dead, .dead, .dead, .dead, .dead, .dead, .dead, .dead, .dead, .dead, .dead, .dead, .dead, .dead, .dead, .dead, .dead], []⟩
noncomputable def X62_0 (k : Ex → St → Option CR) (t : Int) : Option CR := k (.exit 0) ⟨[.dead, .dead, .dead, .dead, .dead, (.sc (.int .i64 t)), .dead, .dead, .dead, .dead, .dead, .dead, .dead, .dead, .dead, .dead, .dead, .dead, .dead, .dead, .dead, .dead, .dead, .dead, .dead, .dead, .dead, .dead, .dead, .dead, .dead, .dead, .dead, .dead, .dead, .dead, .dead, .dead, .dead, .dead, .dead, .dead], []⟩
noncomputable def ks62_0 : List SK := [.f (.ro 1), .f (.ro 1), .f .dead, .f .dead, .f .dead, .f (.int .i64), .f (.int .i64), .f .dead, .f .dead, .f .dead, .f .dead, .f .dead, .f .dead, .f .dead, .f .dead, .f .dead, .f .dead, .f .dead, .f .dead, .f .dead, .f .dead, .f .dead, .f .dead, .f .dead, .f .dead, .f .dead, .f .dead, .f .dead, .f .dead, .f .dead, .f .dead, .f .dead, .f .dead, .f .dead, .f .dead, .f .dead, .f .dead, .f .dead, .f .dead, .f .dead, .f .dead, .f .dead]
noncomputable def hs62_0 : List HK := []
noncomputable def Lm62_0 (s : St) (k : Ex → St → Option CR) : Option CR := bif chkS ks62_0 hs62_0 s then (G_skirmishref14_nearest_0 (roRows (cIa s.tmps 0)) (roRows (cIa s.tmps 1)) FU (toI (cIa s.tmps 5)) (toI (cIa s.tmps 6))).bind (X62_0 k) else none
noncomputable def L62_0 (s : St) (k : Ex → St → Option CR) : Option CR := Lm62_0 (maskS (maskOf ks62_0) s) k
noncomputable def L62 : LT' := fun i s k => bif Nat.beq i 0 then L62_0 s k else none
noncomputable def F_skirmishref14_nearest (cost settled : LL) : Option (Int) :=
  Option.bind (G_skirmishref14_nearest_0 cost settled FU (-(1 : Int)) (0 : Int)) fun t =>
  some t
noncomputable def enc62 (t : Int) : CR := ⟨true, (.sc (.int .i64 t)), [], []⟩
noncomputable def ks62 : List SK := [.f (.ro 1), .f (.ro 1)]
noncomputable def S62 (us : List AVal) : Call := bif chkA ks62 us then Call.of (F_skirmishref14_nearest (roRows (cIa us 0)) (roRows (cIa us 1))) enc62 else Call.none
noncomputable def C62 := AI.ext 62 S62 C41
@[reducible] noncomputable def B62_0 := bodyOf TT TU GL0 C41 ownF L62 (lp Tryd.f62 0)
@[reducible] noncomputable def K62_0 (k : Ex → St → Option CR) : Ex → St → Option CR := fun e s => k e (maskS (W62_0 e) s)
theorem spec62_0 (k : Ex → St → Option CR) : ∀ (m : Nat) (cost settled : LL) (k1 i : Int), loopN B62_0 m (E62_0 cost settled k1 i) (K62_0 k) = (G_skirmishref14_nearest_0 cost settled m k1 i).bind (X62_0 k)
  | 0, _, _, _, _ => rfl
  | m + 1, cost, settled, k1, i =>
    Eq.trans (by kernel_rfl) (n_condH rfl (fun h0 => (n_condH rfl (fun h1 => (n_bind fun r => (n_condH rfl (fun h2 => (n_condH rfl (fun h3 => (n_tru h1 (n_bind fun r1 => (n_condH rfl (fun h4 => (n_condH rfl (fun h5 => (n_condH rfl (fun h6 => (spec62_0 k m cost settled i (wr (i + (1 : Int))))) fun h6 => (n_tru h1 (n_bind fun r2 => (n_condH rfl (fun h7 => (n_condH rfl (fun h8 => (n_bind fun r3 => (n_condH rfl (fun h9 => (n_condH rfl (fun h10 => (spec62_0 k m cost settled i (wr (i + (1 : Int))))) fun h10 => (spec62_0 k m cost settled k1 (wr (i + (1 : Int)))))) fun h9 => rfl))) fun h8 => rfl)) fun h7 => rfl))))) fun h5 => (spec62_0 k m cost settled k1 (wr (i + (1 : Int)))))) fun h4 => rfl)))) fun h3 => (spec62_0 k m cost settled k1 (wr (i + (1 : Int)))))) fun h2 => rfl))) fun h1 => rfl)) fun h0 => rfl)
theorem okL62_0 : LoopOk TT TU GL0 C41 ownF L62 (lp Tryd.f62 0) :=
  loopOk_of ks62_0 hs62_0 W62_0 FU (fun s k => (G_skirmishref14_nearest_0 (roRows (cIa s.tmps 0)) (roRows (cIa s.tmps 1)) FU (toI (cIa s.tmps 5)) (toI (cIa s.tmps 6))).bind (X62_0 k)) (fun s k => by kernel_rfl) (fun s k => spec62_0 k FU (roRows (cIa s.tmps 0)) (roRows (cIa s.tmps 1)) (toI (cIa s.tmps 5)) (toI (cIa s.tmps 6)))
theorem run62 (cost settled : LL) : fcall TT TU GL0 C41 ownF true L62 Tryd.f62 [(.ro 1 cost), (.ro 1 settled)] = (F_skirmishref14_nearest cost settled).bind fun t => some (enc62 t) :=
  Eq.trans (by kernel_rfl) (n_bind fun t => rfl)
theorem lib62 : Lib Tryd.prog GL0 C62 :=
  Lib.fn lib41 mixed TT_ok Tryd.func62 (by decide +kernel) (by kernel_rfl) true L62 (loops_of 1 (by kernel_rfl) (belowS below0 okL62_0)) ks62 (F := fun us => F_skirmishref14_nearest (roRows (cIa us 0)) (roRows (cIa us 1))) (fun us => rfl) (fun us => run62 (roRows (cIa us 0)) (roRows (cIa us 1))) (fun t => rfl)
noncomputable def F_skirmishref06_Shift (dir : Int) : Option (Int × Int) :=
  bif (dir == (0 : Int)) then
    some ((1 : Int), (0 : Int))
  else
  bif (dir == (1 : Int)) then
    some ((1 : Int), (1 : Int))
  else
  bif (dir == (2 : Int)) then
    some ((0 : Int), (1 : Int))
  else
  bif (dir == (3 : Int)) then
    some ((-(1 : Int)), (1 : Int))
  else
  bif (dir == (4 : Int)) then
    some ((-(1 : Int)), (0 : Int))
  else
  bif (dir == (5 : Int)) then
    some ((-(1 : Int)), (-(1 : Int)))
  else
  bif (dir == (6 : Int)) then
    some ((0 : Int), (-(1 : Int)))
  else
  bif (dir == (7 : Int)) then
    some ((1 : Int), (-(1 : Int)))
  else
  some ((0 : Int), (0 : Int))
noncomputable def enc73 (t : Int × Int) : CR := ⟨true, (.agg [(.sc (.int .i64 t.1)), (.sc (.int .i64 t.2))]), [], []⟩
noncomputable def ks73 : List SK := [.f (.int .i64)]
noncomputable def S73 (us : List AVal) : Call := bif chkA ks73 us then Call.of (F_skirmishref06_Shift (toI (cIa us 0))) enc73 else Call.none
noncomputable def C73 := AI.ext 73 S73 C62
theorem run73 (dir : Int) : fcall TT TU GL0 C62 ownF true noL Tryd.f73 [(.sc (.int .i64 dir))] = (F_skirmishref06_Shift dir).bind fun t => some (enc73 t) :=
  Eq.trans (by kernel_rfl) (n_condH rfl (fun h0 => rfl) fun h0 => (n_condH rfl (fun h1 => rfl) fun h1 => (n_condH rfl (fun h2 => rfl) fun h2 => (n_condH rfl (fun h3 => rfl) fun h3 => (n_condH rfl (fun h4 => rfl) fun h4 => (n_condH rfl (fun h5 => rfl) fun h5 => (n_condH rfl (fun h6 => rfl) fun h6 => (n_condH rfl (fun h7 => rfl) fun h7 => rfl))))))))
theorem lib73 : Lib Tryd.prog GL0 C73 :=
  Lib.fn lib62 mixed TT_ok Tryd.func73 (by decide +kernel) (by kernel_rfl) true noL (loops_of 0 (by kernel_rfl) below0) ks73 (F := fun us => F_skirmishref06_Shift (toI (cIa us 0))) (fun us => rfl) (fun us => run73 (toI (cIa us 0))) (fun t => rfl)
noncomputable def F_skirmishref06_Step (p_X p_Y dir : Int) : Option (Int × Int) :=
  bif (decide (dir < (0 : Int))) then
    some (p_X, p_Y)
  else
  bif (decide (dir > (7 : Int))) then
    some (p_X, p_Y)
  else
  Option.bind (F_skirmishref06_pos p_X p_Y) fun t =>
  Option.bind (F_skirmishref06_Shift dir) fun t1 =>
  some ((wr (t.1 + t1.1)), (wr (t.2 + t1.2)))
noncomputable def enc57 (t : Int × Int) : CR := ⟨true, (.agg [(.sc (.int .i64 t.1)), (.sc (.int .i64 t.2))]), [], []⟩
noncomputable def ks57 : List SK := [.agg [.int .i64, .int .i64], .f (.int .i64)]
noncomputable def S57 (us : List AVal) : Call := bif chkA ks57 us then Call.of (F_skirmishref06_Step (toI (cIa (aggL (cIa us 0)) 0)) (toI (cIa (aggL (cIa us 0)) 1)) (toI (cIa us 1))) enc57 else Call.none
noncomputable def C57 := AI.ext 57 S57 C73
theorem run57 (p_X p_Y dir : Int) : fcall TT TU GL0 C73 ownF true noL Tryd.f57 [(.agg [(.sc (.int .i64 p_X)), (.sc (.int .i64 p_Y))]), (.sc (.int .i64 dir))] = (F_skirmishref06_Step p_X p_Y dir).bind fun t => some (enc57 t) :=
  Eq.trans (by kernel_rfl) (n_condH rfl (fun h0 => rfl) fun h0 => (n_condH rfl (fun h1 => rfl) fun h1 => (n_bind fun t => (n_bind fun t1 => rfl))))
theorem lib57 : Lib Tryd.prog GL0 C57 :=
  Lib.fn lib73 mixed TT_ok Tryd.func57 (by decide +kernel) (by kernel_rfl) true noL (loops_of 0 (by kernel_rfl) below0) ks57 (F := fun us => F_skirmishref06_Step (toI (cIa (aggL (cIa us 0)) 0)) (toI (cIa (aggL (cIa us 0)) 1)) (toI (cIa us 1))) (fun us => rfl) (fun us => run57 (toI (cIa (aggL (cIa us 0)) 0)) (toI (cIa (aggL (cIa us 0)) 1)) (toI (cIa us 1))) (fun t => rfl)
noncomputable def F_skirmishref07_Open (m_W m_H : Int) (m_Cells blocked : LL) (class_ p_X p_Y : Int) : Option (Bool) :=
  Option.bind (F_skirmishref07_Passable m_W m_H m_Cells class_ p_X p_Y) fun t =>
  bif (!t) then
    some false
  else
  Option.bind (F_skirmishref06_Index m_W p_X p_Y) fun t1 =>
  bif (class_ == (3 : Int)) then
    some true
  else
  bif (decide (t1 ≥ (Int.ofNat blocked.length))) then
    some true
  else
  bif (decide ((0 : Int) ≤ t1)) then
    Option.bind (blocked[t1.toNat]?) fun r =>
    bif (chk [LT.bool] r) then
      some (!(cB r 0))
    else
    none
  else
  none
noncomputable def enc74 (t : Bool) : CR := ⟨true, (.sc (.bool t)), [], []⟩
noncomputable def ks74 : List SK := [.agg [.int .i64, .int .i64, .ro 3], .f (.ro 1), .f (.int .i64), .agg [.int .i64, .int .i64]]
noncomputable def S74 (us : List AVal) : Call := bif chkA ks74 us then Call.of (F_skirmishref07_Open (toI (cIa (aggL (cIa us 0)) 0)) (toI (cIa (aggL (cIa us 0)) 1)) (roRows (cIa (aggL (cIa us 0)) 2)) (roRows (cIa us 1)) (toI (cIa us 2)) (toI (cIa (aggL (cIa us 3)) 0)) (toI (cIa (aggL (cIa us 3)) 1))) enc74 else Call.none
noncomputable def C74 := AI.ext 74 S74 C57
theorem run74 (m_W m_H : Int) (m_Cells blocked : LL) (class_ p_X p_Y : Int) : fcall TT TU GL0 C57 ownF true noL Tryd.f74 [(.agg [(.sc (.int .i64 m_W)), (.sc (.int .i64 m_H)), (.ro 3 m_Cells)]), (.ro 1 blocked), (.sc (.int .i64 class_)), (.agg [(.sc (.int .i64 p_X)), (.sc (.int .i64 p_Y))])] = (F_skirmishref07_Open m_W m_H m_Cells blocked class_ p_X p_Y).bind fun t => some (enc74 t) :=
  Eq.trans (by kernel_rfl) (n_bind fun t => (n_condH rfl (fun h0 => rfl) fun h0 => (n_bind fun t1 => (n_condH rfl (fun h1 => rfl) fun h1 => (n_condH rfl (fun h2 => rfl) fun h2 => (n_condH rfl (fun h3 => (n_bind fun r => (n_condH rfl (fun h4 => rfl) fun h4 => rfl))) fun h3 => rfl))))))
theorem lib74 : Lib Tryd.prog GL0 C74 :=
  Lib.fn lib57 mixed TT_ok Tryd.func74 (by decide +kernel) (by kernel_rfl) true noL (loops_of 0 (by kernel_rfl) below0) ks74 (F := fun us => F_skirmishref07_Open (toI (cIa (aggL (cIa us 0)) 0)) (toI (cIa (aggL (cIa us 0)) 1)) (roRows (cIa (aggL (cIa us 0)) 2)) (roRows (cIa us 1)) (toI (cIa us 2)) (toI (cIa (aggL (cIa us 3)) 0)) (toI (cIa (aggL (cIa us 3)) 1))) (fun us => rfl) (fun us => run74 (toI (cIa (aggL (cIa us 0)) 0)) (toI (cIa (aggL (cIa us 0)) 1)) (roRows (cIa (aggL (cIa us 0)) 2)) (roRows (cIa us 1)) (toI (cIa us 2)) (toI (cIa (aggL (cIa us 3)) 0)) (toI (cIa (aggL (cIa us 3)) 1))) (fun t => rfl)
noncomputable def F_skirmishref07_rise (a_Kind a_Height a_Amount b_Kind b_Height b_Amount : Int) : Option (Int) :=
  bif ((maxI a_Height b_Height) == (minI a_Height b_Height)) then
    some (0 : Int)
  else
  bif ((wr ((maxI a_Height b_Height) - (1 : Int))) == (minI a_Height b_Height)) then
    some (1 : Int)
  else
  some (2 : Int)
noncomputable def enc60 (t : Int) : CR := ⟨true, (.sc (.int .i64 t)), [], []⟩
noncomputable def ks60 : List SK := [.agg [.int .i64, .int .i64, .int .i64], .agg [.int .i64, .int .i64, .int .i64]]
noncomputable def S60 (us : List AVal) : Call := bif chkA ks60 us then Call.of (F_skirmishref07_rise (toI (cIa (aggL (cIa us 0)) 0)) (toI (cIa (aggL (cIa us 0)) 1)) (toI (cIa (aggL (cIa us 0)) 2)) (toI (cIa (aggL (cIa us 1)) 0)) (toI (cIa (aggL (cIa us 1)) 1)) (toI (cIa (aggL (cIa us 1)) 2))) enc60 else Call.none
noncomputable def C60 := AI.ext 60 S60 C74
theorem run60 (a_Kind a_Height a_Amount b_Kind b_Height b_Amount : Int) : fcall TT TU GL0 C74 ownF true noL Tryd.f60 [(.agg [(.sc (.int .i64 a_Kind)), (.sc (.int .i64 a_Height)), (.sc (.int .i64 a_Amount))]), (.agg [(.sc (.int .i64 b_Kind)), (.sc (.int .i64 b_Height)), (.sc (.int .i64 b_Amount))])] = (F_skirmishref07_rise a_Kind a_Height a_Amount b_Kind b_Height b_Amount).bind fun t => some (enc60 t) :=
  Eq.trans (by kernel_rfl) (n_condH rfl (fun h0 => rfl) fun h0 => (n_condH rfl (fun h1 => rfl) fun h1 => rfl))
theorem lib60 : Lib Tryd.prog GL0 C60 :=
  Lib.fn lib74 mixed TT_ok Tryd.func60 (by decide +kernel) (by kernel_rfl) true noL (loops_of 0 (by kernel_rfl) below0) ks60 (F := fun us => F_skirmishref07_rise (toI (cIa (aggL (cIa us 0)) 0)) (toI (cIa (aggL (cIa us 0)) 1)) (toI (cIa (aggL (cIa us 0)) 2)) (toI (cIa (aggL (cIa us 1)) 0)) (toI (cIa (aggL (cIa us 1)) 1)) (toI (cIa (aggL (cIa us 1)) 2))) (fun us => rfl) (fun us => run60 (toI (cIa (aggL (cIa us 0)) 0)) (toI (cIa (aggL (cIa us 0)) 1)) (toI (cIa (aggL (cIa us 0)) 2)) (toI (cIa (aggL (cIa us 1)) 0)) (toI (cIa (aggL (cIa us 1)) 1)) (toI (cIa (aggL (cIa us 1)) 2))) (fun t => rfl)
noncomputable def F_skirmishref07_near (m_W m_H : Int) (m_Cells blocked : LL) (class_ p_X p_Y q_X q_Y : Int) : Option (Bool) :=
  Option.bind (F_skirmishref07_Open m_W m_H m_Cells blocked class_ p_X p_Y) fun t =>
  bif (!t) then
    some false
  else
  Option.bind (F_skirmishref07_Open m_W m_H m_Cells blocked class_ q_X q_Y) fun t1 =>
  bif (!t1) then
    some false
  else
  Option.bind (F_skirmishref07_Get m_W m_H m_Cells p_X p_Y) fun t2 =>
  Option.bind (F_skirmishref07_Get m_W m_H m_Cells q_X q_Y) fun t3 =>
  bif (class_ == (3 : Int)) then
    some true
  else
  Option.bind (F_skirmishref07_rise t2.1 t2.2.1 t2.2.2.1 t3.1 t3.2.1 t3.2.2.1) fun t4 =>
  some (decide (t4 < (2 : Int)))
noncomputable def enc58 (t : Bool) : CR := ⟨true, (.sc (.bool t)), [], []⟩
noncomputable def ks58 : List SK := [.agg [.int .i64, .int .i64, .ro 3], .f (.ro 1), .f (.int .i64), .agg [.int .i64, .int .i64], .agg [.int .i64, .int .i64]]
noncomputable def S58 (us : List AVal) : Call := bif chkA ks58 us then Call.of (F_skirmishref07_near (toI (cIa (aggL (cIa us 0)) 0)) (toI (cIa (aggL (cIa us 0)) 1)) (roRows (cIa (aggL (cIa us 0)) 2)) (roRows (cIa us 1)) (toI (cIa us 2)) (toI (cIa (aggL (cIa us 3)) 0)) (toI (cIa (aggL (cIa us 3)) 1)) (toI (cIa (aggL (cIa us 4)) 0)) (toI (cIa (aggL (cIa us 4)) 1))) enc58 else Call.none
noncomputable def C58 := AI.ext 58 S58 C60
theorem run58 (m_W m_H : Int) (m_Cells blocked : LL) (class_ p_X p_Y q_X q_Y : Int) : fcall TT TU GL0 C60 ownF true noL Tryd.f58 [(.agg [(.sc (.int .i64 m_W)), (.sc (.int .i64 m_H)), (.ro 3 m_Cells)]), (.ro 1 blocked), (.sc (.int .i64 class_)), (.agg [(.sc (.int .i64 p_X)), (.sc (.int .i64 p_Y))]), (.agg [(.sc (.int .i64 q_X)), (.sc (.int .i64 q_Y))])] = (F_skirmishref07_near m_W m_H m_Cells blocked class_ p_X p_Y q_X q_Y).bind fun t => some (enc58 t) :=
  Eq.trans (by kernel_rfl) (n_bind fun t => (n_condH rfl (fun h0 => rfl) fun h0 => (n_bind fun t1 => (n_condH rfl (fun h1 => rfl) fun h1 => (n_bind fun t2 => (n_bind fun t3 => (n_condH rfl (fun h2 => rfl) fun h2 => (n_bind fun t4 => rfl))))))))
theorem lib58 : Lib Tryd.prog GL0 C58 :=
  Lib.fn lib60 mixed TT_ok Tryd.func58 (by decide +kernel) (by kernel_rfl) true noL (loops_of 0 (by kernel_rfl) below0) ks58 (F := fun us => F_skirmishref07_near (toI (cIa (aggL (cIa us 0)) 0)) (toI (cIa (aggL (cIa us 0)) 1)) (roRows (cIa (aggL (cIa us 0)) 2)) (roRows (cIa us 1)) (toI (cIa us 2)) (toI (cIa (aggL (cIa us 3)) 0)) (toI (cIa (aggL (cIa us 3)) 1)) (toI (cIa (aggL (cIa us 4)) 0)) (toI (cIa (aggL (cIa us 4)) 1))) (fun us => rfl) (fun us => run58 (toI (cIa (aggL (cIa us 0)) 0)) (toI (cIa (aggL (cIa us 0)) 1)) (roRows (cIa (aggL (cIa us 0)) 2)) (roRows (cIa us 1)) (toI (cIa us 2)) (toI (cIa (aggL (cIa us 3)) 0)) (toI (cIa (aggL (cIa us 3)) 1)) (toI (cIa (aggL (cIa us 4)) 0)) (toI (cIa (aggL (cIa us 4)) 1))) (fun t => rfl)
noncomputable def F_skirmishref07_Step (m_W m_H : Int) (m_Cells blocked : LL) (class_ p_X p_Y dir : Int) : Option (Int × Bool) :=
  bif (decide (dir < (0 : Int))) then
    some ((0 : Int), false)
  else
  bif (decide (dir > (7 : Int))) then
    some ((0 : Int), false)
  else
  Option.bind (F_skirmishref06_Step p_X p_Y dir) fun t =>
  Option.bind (F_skirmishref07_near m_W m_H m_Cells blocked class_ p_X p_Y t.1 t.2) fun t1 =>
  bif (!t1) then
    some ((0 : Int), false)
  else
  bif ((Int.tmod dir (2 : Int)) == (1 : Int)) then
    bif (class_ != (3 : Int)) then
      Option.bind (F_skirmishref07_near m_W m_H m_Cells blocked class_ p_X p_Y p_X t.2) fun t2 =>
      bif t2 then
        Option.bind (F_skirmishref07_near m_W m_H m_Cells blocked class_ p_X t.2 t.1 t.2) fun t3 =>
        bif t3 then
          Option.bind (F_skirmishref07_near m_W m_H m_Cells blocked class_ p_X p_Y t.1 p_Y) fun t4 =>
          bif t4 then
            Option.bind (F_skirmishref07_near m_W m_H m_Cells blocked class_ t.1 p_Y t.1 t.2) fun t5 =>
            bif (!t5) then
              some ((0 : Int), false)
            else
            Option.bind (F_skirmishref07_Get m_W m_H m_Cells p_X p_Y) fun t6 =>
            Option.bind (F_skirmishref07_Get m_W m_H m_Cells t.1 t.2) fun t7 =>
            Option.bind (F_skirmishref07_rise t6.1 t6.2.1 t6.2.2.1 t7.1 t7.2.1 t7.2.2.1) fun t8 =>
            bif (t8 == (1 : Int)) then
              some ((wr ((14 : Int) + (5 : Int))), true)
            else
            some ((14 : Int), true)
          else
          some ((0 : Int), false)
        else
        some ((0 : Int), false)
      else
      some ((0 : Int), false)
    else
    Option.bind (F_skirmishref07_Get m_W m_H m_Cells p_X p_Y) fun t9 =>
    Option.bind (F_skirmishref07_Get m_W m_H m_Cells t.1 t.2) fun t10 =>
    some ((14 : Int), true)
  else
  Option.bind (F_skirmishref07_Get m_W m_H m_Cells p_X p_Y) fun t12 =>
  Option.bind (F_skirmishref07_Get m_W m_H m_Cells t.1 t.2) fun t13 =>
  bif (class_ != (3 : Int)) then
    Option.bind (F_skirmishref07_rise t12.1 t12.2.1 t12.2.2.1 t13.1 t13.2.1 t13.2.2.1) fun t14 =>
    bif (t14 == (1 : Int)) then
      some ((wr ((10 : Int) + (5 : Int))), true)
    else
    some ((10 : Int), true)
  else
  some ((10 : Int), true)
noncomputable def enc35 (t : Int × Bool) : CR := ⟨true, (.tup [(.sc (.int .i64 t.1)), (.sc (.bool t.2))]), [], []⟩
noncomputable def ks35 : List SK := [.agg [.int .i64, .int .i64, .ro 3], .f (.ro 1), .f (.int .i64), .agg [.int .i64, .int .i64], .f (.int .i64)]
noncomputable def S35 (us : List AVal) : Call := bif chkA ks35 us then Call.of (F_skirmishref07_Step (toI (cIa (aggL (cIa us 0)) 0)) (toI (cIa (aggL (cIa us 0)) 1)) (roRows (cIa (aggL (cIa us 0)) 2)) (roRows (cIa us 1)) (toI (cIa us 2)) (toI (cIa (aggL (cIa us 3)) 0)) (toI (cIa (aggL (cIa us 3)) 1)) (toI (cIa us 4))) enc35 else Call.none
noncomputable def C35 := AI.ext 35 S35 C58
theorem run35 (m_W m_H : Int) (m_Cells blocked : LL) (class_ p_X p_Y dir : Int) : fcall TT TU GL0 C58 ownF true noL Tryd.f35 [(.agg [(.sc (.int .i64 m_W)), (.sc (.int .i64 m_H)), (.ro 3 m_Cells)]), (.ro 1 blocked), (.sc (.int .i64 class_)), (.agg [(.sc (.int .i64 p_X)), (.sc (.int .i64 p_Y))]), (.sc (.int .i64 dir))] = (F_skirmishref07_Step m_W m_H m_Cells blocked class_ p_X p_Y dir).bind fun t => some (enc35 t) :=
  Eq.trans (by kernel_rfl) (n_condH rfl (fun h0 => rfl) fun h0 => (n_condH rfl (fun h1 => rfl) fun h1 => (n_bind fun t => (n_bind fun t1 => (n_condH rfl (fun h2 => rfl) fun h2 => (n_condH rfl (fun h3 => (n_condH rfl (fun h4 => (n_bind fun t2 => (n_condH rfl (fun h5 => (n_bind fun t3 => (n_condH rfl (fun h6 => (n_bind fun t4 => (n_condH rfl (fun h7 => (n_bind fun t5 => (n_condH rfl (fun h8 => rfl) fun h8 => (n_bind fun t6 => (n_bind fun t7 => (n_true (B := (some (CR.mk true (AVal.tup [(i64 (14 : Int)), (bo true)]) [] []))) h4 (n_bind fun t8 => (n_condH rfl (fun h9 => rfl) fun h9 => rfl)))))))) fun h7 => rfl))) fun h6 => rfl))) fun h5 => rfl))) fun h4 => (n_bind fun t9 => (n_bind fun t10 => (n_false (A := (Option.bind (F_skirmishref07_rise t9.1 t9.2.1 t9.2.2.1 t10.1 t10.2.1 t10.2.2.1) fun t11 => (bif (t11 == (1 : Int)) then (some (CR.mk true (AVal.tup [(i64 (wr ((14 : Int) + (5 : Int)))), (bo true)]) [] [])) else (some (CR.mk true (AVal.tup [(i64 (14 : Int)), (bo true)]) [] []))))) h4 rfl))))) fun h3 => (n_bind fun t12 => (n_bind fun t13 => (n_condH rfl (fun h4 => (n_bind fun t14 => (n_condH rfl (fun h5 => rfl) fun h5 => rfl))) fun h4 => rfl)))))))))
theorem lib35 : Lib Tryd.prog GL0 C35 :=
  Lib.fn lib58 mixed TT_ok Tryd.func35 (by decide +kernel) (by kernel_rfl) true noL (loops_of 0 (by kernel_rfl) below0) ks35 (F := fun us => F_skirmishref07_Step (toI (cIa (aggL (cIa us 0)) 0)) (toI (cIa (aggL (cIa us 0)) 1)) (roRows (cIa (aggL (cIa us 0)) 2)) (roRows (cIa us 1)) (toI (cIa us 2)) (toI (cIa (aggL (cIa us 3)) 0)) (toI (cIa (aggL (cIa us 3)) 1)) (toI (cIa us 4))) (fun us => rfl) (fun us => run35 (toI (cIa (aggL (cIa us 0)) 0)) (toI (cIa (aggL (cIa us 0)) 1)) (roRows (cIa (aggL (cIa us 0)) 2)) (roRows (cIa us 1)) (toI (cIa us 2)) (toI (cIa (aggL (cIa us 3)) 0)) (toI (cIa (aggL (cIa us 3)) 1)) (toI (cIa us 4))) (fun t => rfl)
noncomputable def F_skirmishref14_Beside (p_X p_Y dir : Int) : Option (Int × Int) :=
  Option.bind (F_skirmishref06_Step p_X p_Y dir) fun t =>
  some (t.1, t.2)
noncomputable def enc36 (t : Int × Int) : CR := ⟨true, (.agg [(.sc (.int .i64 t.1)), (.sc (.int .i64 t.2))]), [], []⟩
noncomputable def ks36 : List SK := [.agg [.int .i64, .int .i64], .f (.int .i64)]
noncomputable def S36 (us : List AVal) : Call := bif chkA ks36 us then Call.of (F_skirmishref14_Beside (toI (cIa (aggL (cIa us 0)) 0)) (toI (cIa (aggL (cIa us 0)) 1)) (toI (cIa us 1))) enc36 else Call.none
noncomputable def C36 := AI.ext 36 S36 C35
theorem run36 (p_X p_Y dir : Int) : fcall TT TU GL0 C35 ownF true noL Tryd.f36 [(.agg [(.sc (.int .i64 p_X)), (.sc (.int .i64 p_Y))]), (.sc (.int .i64 dir))] = (F_skirmishref14_Beside p_X p_Y dir).bind fun t => some (enc36 t) :=
  Eq.trans (by kernel_rfl) (n_bind fun t => rfl)
theorem lib36 : Lib Tryd.prog GL0 C36 :=
  Lib.fn lib35 mixed TT_ok Tryd.func36 (by decide +kernel) (by kernel_rfl) true noL (loops_of 0 (by kernel_rfl) below0) ks36 (F := fun us => F_skirmishref14_Beside (toI (cIa (aggL (cIa us 0)) 0)) (toI (cIa (aggL (cIa us 0)) 1)) (toI (cIa us 1))) (fun us => rfl) (fun us => run36 (toI (cIa (aggL (cIa us 0)) 0)) (toI (cIa (aggL (cIa us 0)) 1)) (toI (cIa us 1))) (fun t => rfl)
noncomputable def W42_0 : Ex → List Bool
  | .ret => [false, false, false, false, false, false, false, false, true, false, false, false, false, false, false, false, false, false, false, false, false, false, false, false, false, false, false, false, false, false, false, false, false, false, false, false, false, false, false, false, false, false, false, false, false, false, false, false, false, false, false, false, false, false, false, false, false, false, false, false, false, false, false, false, false, false, false, false, false, false, false, false, false, false, false, false, false, false, false, false, false, false, false, false, false, false, false, false, false, false, false, false, false, false]
  | .exit n => bif Nat.beq n 0 then [false, false, false, true, false, false, false, false, false, false, false, false, false, false, false, false, false, false, false, false, false, false, false, false, false, false, false, false, false, false, false, false, false, false, false, false, false, false, false, false, false, false, false, false, false, false, false, false, false, false, false, false, false, false, false, false, false, false, false, false, false, false, false, false, false, false, false, false, false, false, false, false, false, false, false, false, false, false, false, false, false, false, false, false, false, false, false, false, false, false, false, false, false, false] else []
  | _ => []
noncomputable def W42_1 : Ex → List Bool
  | .ret => [false, false, false, false, false, false, false, false, true, false, false, false, false, false, false, false, false, false, false, false, false, false, false, false, false, false, false, false, false, false, false, false, false, false, false, false, false, false, false, false, false, false, false, false, false, false, false, false, false, false, false, false, false, false, false, false, false, false, false, false, false, false, false, false, false, false, false, false, false, false, false, false, false, false, false, false, false, false, false, false, false, false, false, false, false, false, false, false, false, false, false, false, false, false]
  | .exit n => bif Nat.beq n 2 then [false, true, true, true, true, false, false, false, false, true, false, false, false, false, false, false, false, false, false, false, false, false, false, false, false, false, false, false, false, false, false, false, false, false, false, false, false, false, false, false, false, false, false, false, false, false, false, false, false, false, false, false, false, false, false, false, false, false, false, false, false, false, false, false, false, false, false, false, false, false, false, false, false, false, false, false, false, false, false, false, false, false, false, false, false, false, false, false, false, false, false, false, false, false] else bif Nat.beq n 1 then [false, true, true, true, true, false, false, false, false, true, false, false, false, false, false, false, false, false, false, false, false, false, false, false, false, false, false, false, false, false, false, false, false, false, false, false, false, false, false, false, false, false, false, false, false, false, false, false, false, false, false, false, false, false, false, false, false, false, false, false, false, false, false, false, false, false, false, false, false, false, false, false, false, false, false, false, false, false, false, false, false, false, false, false, false, false, false, false, false, false, false, false, false, false] else bif Nat.beq n 0 then [false, false, false, true, false, false, false, false, false, false, false, false, false, false, false, false, false, false, false, false, false, false, false, false, false, false, false, false, false, false, false, false, false, false, false, false, false, false, false, false, false, false, false, false, false, false, false, false, false, false, false, false, false, false, false, false, false, false, false, false, false, false, false, false, false, false, false, false, false, false, false, false, false, false, false, false, false, false, false, false, false, false, false, false, false, false, false, false, false, false, false, false, false, false] else []
  | _ => []
noncomputable def G_skirmishref14_Spread_1 (blocked : LL) (class_ k1 b1_0 b1_1 : Int) (b1_2 : LL) (b3_0 b3_1 : Int) : Nat → LL → Int → Option (LL)
  | 0, _, _ => none
  | m + 1, R0, dir =>
    bif (decide (dir < (8 : Int))) then
      Option.bind (F_skirmishref07_Step b1_0 b1_1 b1_2 blocked class_ b3_0 b3_1 dir) fun t =>
      bif (!t.2) then
        G_skirmishref14_Spread_1 blocked class_ k1 b1_0 b1_1 b1_2 b3_0 b3_1 m R0 (wr (dir + (1 : Int)))
      else
      Option.bind (F_skirmishref14_Beside b3_0 b3_1 dir) fun t1 =>
      bif ((decide ((0 : Int) ≤ (wr ((wr (t1.2 * b1_0)) + t1.1)))) && (decide ((wr ((wr (t1.2 * b1_0)) + t1.1)) < (Int.ofNat R0.length)))) then
        Option.bind (R0[(wr ((wr (t1.2 * b1_0)) + t1.1)).toNat]?) fun r =>
        bif (chk [(LT.int IntKind.i64)] r) then
          bif (decide ((cI r 0) < (0 : Int))) then
            bif ((decide ((0 : Int) ≤ k1)) && (decide (k1 < (Int.ofNat R0.length)))) then
              Option.bind (R0[k1.toNat]?) fun r1 =>
              bif (chk [(LT.int IntKind.i64)] r1) then
                G_skirmishref14_Spread_1 blocked class_ k1 b1_0 b1_1 b1_2 b3_0 b3_1 m (List.set R0 (wr ((wr (t1.2 * b1_0)) + t1.1)).toNat [(i64 (wr ((cI r1 0) + t.1)))]) (wr (dir + (1 : Int)))
              else
              none
            else
            none
          else
          Option.bind (R0[(wr ((wr (t1.2 * b1_0)) + t1.1)).toNat]?) fun r2 =>
          bif (chk [(LT.int IntKind.i64)] r2) then
            bif ((decide ((0 : Int) ≤ k1)) && (decide (k1 < (Int.ofNat R0.length)))) then
              Option.bind (R0[k1.toNat]?) fun r3 =>
              bif (chk [(LT.int IntKind.i64)] r3) then
                bif (decide ((cI r2 0) > (wr ((cI r3 0) + t.1)))) then
                  Option.bind (R0[k1.toNat]?) fun r4 =>
                  bif (chk [(LT.int IntKind.i64)] r4) then
                    G_skirmishref14_Spread_1 blocked class_ k1 b1_0 b1_1 b1_2 b3_0 b3_1 m (List.set R0 (wr ((wr (t1.2 * b1_0)) + t1.1)).toNat [(i64 (wr ((cI r4 0) + t.1)))]) (wr (dir + (1 : Int)))
                  else
                  none
                else
                G_skirmishref14_Spread_1 blocked class_ k1 b1_0 b1_1 b1_2 b3_0 b3_1 m R0 (wr (dir + (1 : Int)))
              else
              none
            else
            none
          else
          none
        else
        none
      else
      none
    else
    some R0
noncomputable def E42_1 (R0 R2 blocked : LL) (class_ k1 dir b1_0 b1_1 : Int) (b1_2 : LL) (b3_0 b3_1 : Int) : St := ⟨[.dead, (.ro 1 blocked), (.sc (.int .i64 class_)), (.slc 0 (R0).length), (.ref 16000 1 0 0), .dead, .dead, .dead, .dead, (.slc 19232 (R2).length), (.sc (.int .i64 k1)), (.ref 16000176 1 0 0), (.sc (.int .i64 dir)), .dead, .dead, .dead, .dead, .dead, .dead, .dead, .dead, .dead, .dead, .dead, .dead, .dead, .dead, .dead, .dead, .dead, .dead, .dead, .dead, .dead, .dead, .dead, .dead, .dead, .dead, .dead, .dead, .dead, .dead, .dead, .dead, .dead, .dead, .dead, .dead, .dead, .dead, .dead, .dead, .dead, .dead, .dead, .dead, .dead, .dead, .dead, .dead, .dead, .dead, .dead, .dead, .dead, .dead, .dead, .dead, .dead, .dead, .dead, .dead, .dead, .dead, .dead, .dead, .dead, .dead, .dead, .dead, .dead, .dead, .dead, .dead, .dead, .dead, .dead, .dead, .dead, .dead, .dead, .dead, .dead], [(0, ⟨.arr, 3, 1, R0⟩), (16000, ⟨.box, 24, 3, [[(.sc (.int .i64 b1_0)), (.sc (.int .i64 b1_1)), (.ro 3 b1_2)]]⟩), (19232, ⟨.arr, 4, 1, R2⟩), (16000176, ⟨.box, 27, 2, [[(.sc (.int .i64 b3_0)), (.sc (.int .i64 b3_1))]]⟩)]⟩
noncomputable def X42_1 (R2 blocked : LL) (class_ b1_0 b1_1 : Int) (b1_2 : LL) (k : Ex → St → Option CR) (t : LL) : Option CR := k (.exit 2) ⟨[.dead, (.ro 1 blocked), (.sc (.int .i64 class_)), (.slc 0 (t).length), (.ref 16000 1 0 0), .dead, .dead, .dead, .dead, (.slc 19232 (R2).length), .dead, .dead, .dead, .dead, .dead, .dead, .dead, .dead, .dead, .dead, .dead, .dead, .dead, .dead, .dead, .dead, .dead, .dead, .dead, .dead, .dead, .dead, .dead, .dead, .dead, .dead, .dead, .dead, .dead, .dead, .dead, .dead, .dead, .dead, .dead, .dead, .dead, .dead, .dead, .dead, .dead, .dead, .dead, .dead, .dead, .dead, .dead, .dead, .dead, .dead, .dead, .dead, .dead, .dead, .dead, .dead, .dead, .dead, .dead, .dead, .dead, .dead, .dead, .dead, .dead, .dead, .dead, .dead, .dead, .dead, .dead, .dead, .dead, .dead, .dead, .dead, .dead, .dead, .dead, .dead, .dead, .dead, .dead, .dead], [(0, ⟨.arr, 3, 1, t⟩), (16000, ⟨.box, 24, 3, [[(.sc (.int .i64 b1_0)), (.sc (.int .i64 b1_1)), (.ro 3 b1_2)]]⟩), (19232, ⟨.arr, 4, 1, R2⟩)]⟩
noncomputable def ks42_1 : List SK := [.f .dead, .f (.ro 1), .f (.int .i64), .f (.slc 0 0), .f (.ref 16000 1 0 0), .f .dead, .f .dead, .f .dead, .f .dead, .f (.slc 19232 2), .f (.int .i64), .f (.ref 16000176 1 0 0), .f (.int .i64), .f .dead, .f .dead, .f .dead, .f .dead, .f .dead, .f .dead, .f .dead, .f .dead, .f .dead, .f .dead, .f .dead, .f .dead, .f .dead, .f .dead, .f .dead, .f .dead, .f .dead, .f .dead, .f .dead, .f .dead, .f .dead, .f .dead, .f .dead, .f .dead, .f .dead, .f .dead, .f .dead, .f .dead, .f .dead, .f .dead, .f .dead, .f .dead, .f .dead, .f .dead, .f .dead, .f .dead, .f .dead, .f .dead, .f .dead, .f .dead, .f .dead, .f .dead, .f .dead, .f .dead, .f .dead, .f .dead, .f .dead, .f .dead, .f .dead, .f .dead, .f .dead, .f .dead, .f .dead, .f .dead, .f .dead, .f .dead, .f .dead, .f .dead, .f .dead, .f .dead, .f .dead, .f .dead, .f .dead, .f .dead, .f .dead, .f .dead, .f .dead, .f .dead, .f .dead, .f .dead, .f .dead, .f .dead, .f .dead, .f .dead, .f .dead, .f .dead, .f .dead, .f .dead, .f .dead, .f .dead, .f .dead]
noncomputable def hs42_1 : List HK := [⟨0, .arr, 3, 1, none⟩, ⟨16000, .box, 24, 3, some [.int .i64, .int .i64, .ro 3]⟩, ⟨19232, .arr, 4, 1, none⟩, ⟨16000176, .box, 27, 2, some [.int .i64, .int .i64]⟩]
noncomputable def Lm42_1 (s : St) (k : Ex → St → Option CR) : Option CR := bif chkS ks42_1 hs42_1 s then (G_skirmishref14_Spread_1 (roRows (cIa s.tmps 1)) (toI (cIa s.tmps 2)) (toI (cIa s.tmps 10)) (toI (cIa (rows0 (blkAt s.heap 1).2) 0)) (toI (cIa (rows0 (blkAt s.heap 1).2) 1)) (roRows (cIa (rows0 (blkAt s.heap 1).2) 2)) (toI (cIa (rows0 (blkAt s.heap 3).2) 0)) (toI (cIa (rows0 (blkAt s.heap 3).2) 1)) FU (blkAt s.heap 0).2.rows (toI (cIa s.tmps 12))).bind (X42_1 (blkAt s.heap 2).2.rows (roRows (cIa s.tmps 1)) (toI (cIa s.tmps 2)) (toI (cIa (rows0 (blkAt s.heap 1).2) 0)) (toI (cIa (rows0 (blkAt s.heap 1).2) 1)) (roRows (cIa (rows0 (blkAt s.heap 1).2) 2)) k) else none
noncomputable def L42_1 (s : St) (k : Ex → St → Option CR) : Option CR := Lm42_1 (maskS (maskOf ks42_1) s) k
noncomputable def G_skirmishref14_Spread_0 (blocked : LL) (class_ b1_0 b1_1 : Int) (b1_2 : LL) : Nat → LL → LL → Int → Option (LL)
  | 0, _, _, _ => none
  | m + 1, R0, R2, k1 =>
    bif (decide (k1 ≥ (0 : Int))) then
      bif ((decide ((0 : Int) ≤ k1)) && (decide (k1 < (Int.ofNat R2.length)))) then
        bif (b1_0 == (0 : Int)) then
          none
        else
        Option.bind (G_skirmishref14_Spread_1 blocked class_ k1 b1_0 b1_1 b1_2 (Int.tmod k1 b1_0) (wr (Int.tdiv k1 b1_0)) FU R0 (0 : Int)) fun t =>
        Option.bind (F_skirmishref14_nearest t (roRows (AVal.ro 1 (Blk.rows (Blk.mk BKind.arr 4 1 (Blk.rows (Blk.mk BKind.arr 4 1 (List.set R2 k1.toNat [(bo true)])))))))) fun t1 =>
        G_skirmishref14_Spread_0 blocked class_ b1_0 b1_1 b1_2 m t (Blk.rows (Blk.mk BKind.arr 4 1 (List.set R2 k1.toNat [(bo true)]))) t1
      else
      none
    else
    some R0
noncomputable def E42_0 (R0 R2 blocked : LL) (class_ k1 b1_0 b1_1 : Int) (b1_2 : LL) : St := ⟨[.dead, (.ro 1 blocked), (.sc (.int .i64 class_)), (.slc 0 (R0).length), (.ref 16000 1 0 0), .dead, .dead, .dead, .dead, (.slc 19232 (R2).length), (.sc (.int .i64 k1)), .dead, .dead, .dead, .dead, .dead, .dead, .dead, .dead, .dead, .dead, .dead, .dead, .dead, .dead, .dead, .dead, .dead, .dead, .dead, .dead, .dead, .dead, .dead, .dead, .dead, .dead, .dead, .dead, .dead, .dead, .dead, .dead, .dead, .dead, .dead, .dead, .dead, .dead, .dead, .dead, .dead, .dead, .dead, .dead, .dead, .dead, .dead, .dead, .dead, .dead, .dead, .dead, .dead, .dead, .dead, .dead, .dead, .dead, .dead, .dead, .dead, .dead, .dead, .dead, .dead, .dead, .dead, .dead, .dead, .dead, .dead, .dead, .dead, .dead, .dead, .dead, .dead, .dead, .dead, .dead, .dead, .dead, .dead], [(0, ⟨.arr, 3, 1, R0⟩), (16000, ⟨.box, 24, 3, [[(.sc (.int .i64 b1_0)), (.sc (.int .i64 b1_1)), (.ro 3 b1_2)]]⟩), (19232, ⟨.arr, 4, 1, R2⟩)]⟩
noncomputable def X42_0 (k : Ex → St → Option CR) (t : LL) : Option CR := k (.exit 0) ⟨[.dead, .dead, .dead, (.slc 0 (t).length), .dead, .dead, .dead, .dead, .dead, .dead, .dead, .dead, .dead, .dead, .dead, .dead, .dead, .dead, .dead, .dead, .dead, .dead, .dead, .dead, .dead, .dead, .dead, .dead, .dead, .dead, .dead, .dead, .dead, .dead, .dead, .dead, .dead, .dead, .dead, .dead, .dead, .dead, .dead, .dead, .dead, .dead, .dead, .dead, .dead, .dead, .dead, .dead, .dead, .dead, .dead, .dead, .dead, .dead, .dead, .dead, .dead, .dead, .dead, .dead, .dead, .dead, .dead, .dead, .dead, .dead, .dead, .dead, .dead, .dead, .dead, .dead, .dead, .dead, .dead, .dead, .dead, .dead, .dead, .dead, .dead, .dead, .dead, .dead, .dead, .dead, .dead, .dead, .dead, .dead], [(0, ⟨.arr, 3, 1, t⟩)]⟩
noncomputable def ks42_0 : List SK := [.f .dead, .f (.ro 1), .f (.int .i64), .f (.slc 0 0), .f (.ref 16000 1 0 0), .f .dead, .f .dead, .f .dead, .f .dead, .f (.slc 19232 2), .f (.int .i64), .f .dead, .f .dead, .f .dead, .f .dead, .f .dead, .f .dead, .f .dead, .f .dead, .f .dead, .f .dead, .f .dead, .f .dead, .f .dead, .f .dead, .f .dead, .f .dead, .f .dead, .f .dead, .f .dead, .f .dead, .f .dead, .f .dead, .f .dead, .f .dead, .f .dead, .f .dead, .f .dead, .f .dead, .f .dead, .f .dead, .f .dead, .f .dead, .f .dead, .f .dead, .f .dead, .f .dead, .f .dead, .f .dead, .f .dead, .f .dead, .f .dead, .f .dead, .f .dead, .f .dead, .f .dead, .f .dead, .f .dead, .f .dead, .f .dead, .f .dead, .f .dead, .f .dead, .f .dead, .f .dead, .f .dead, .f .dead, .f .dead, .f .dead, .f .dead, .f .dead, .f .dead, .f .dead, .f .dead, .f .dead, .f .dead, .f .dead, .f .dead, .f .dead, .f .dead, .f .dead, .f .dead, .f .dead, .f .dead, .f .dead, .f .dead, .f .dead, .f .dead, .f .dead, .f .dead, .f .dead, .f .dead, .f .dead, .f .dead]
noncomputable def hs42_0 : List HK := [⟨0, .arr, 3, 1, none⟩, ⟨16000, .box, 24, 3, some [.int .i64, .int .i64, .ro 3]⟩, ⟨19232, .arr, 4, 1, none⟩]
noncomputable def Lm42_0 (s : St) (k : Ex → St → Option CR) : Option CR := bif chkS ks42_0 hs42_0 s then (G_skirmishref14_Spread_0 (roRows (cIa s.tmps 1)) (toI (cIa s.tmps 2)) (toI (cIa (rows0 (blkAt s.heap 1).2) 0)) (toI (cIa (rows0 (blkAt s.heap 1).2) 1)) (roRows (cIa (rows0 (blkAt s.heap 1).2) 2)) FU (blkAt s.heap 0).2.rows (blkAt s.heap 2).2.rows (toI (cIa s.tmps 10))).bind (X42_0 k) else none
noncomputable def L42_0 (s : St) (k : Ex → St → Option CR) : Option CR := Lm42_0 (maskS (maskOf ks42_0) s) k
noncomputable def L42 : LT' := fun i s k => bif Nat.beq i 0 then L42_0 s k else bif Nat.beq i 2 then L42_1 s k else none
noncomputable def F_skirmishref14_Spread (m1_W m1_H : Int) (m1_Cells blocked : LL) (class_ : Int) (cost : LL) : Option (LL) :=
  bif ((((decide ((Int.ofNat cost.length) = (Int.ofNat cost.length))) && (decide ((0 : Int) ≤ (Int.ofNat cost.length)))) && (decide ((Int.ofNat cost.length) ≤ (9223372036854775807 : Int)))) && (decide (((1 : Int) * (Int.ofNat cost.length)) ≤ (140737488355328 : Int)))) then
    Option.bind (F_skirmishref14_nearest cost (roRows (AVal.ro 1 (Blk.rows (Blk.mk BKind.arr 4 1 (List.replicate (Int.ofNat cost.length).toNat [(bo false)])))))) fun t =>
    Option.bind (G_skirmishref14_Spread_0 blocked class_ m1_W m1_H m1_Cells FU cost (Blk.rows (Blk.mk BKind.arr 4 1 (List.replicate (Int.ofNat cost.length).toNat [(bo false)]))) t) fun t1 =>
    some t1
  else
  none
noncomputable def enc42 (m1_W m1_H : Int) (m1_Cells blocked : LL) (class_ : Int) (cost t : LL) : CR := ⟨true, (.slc 0 (t).length), [t], []⟩
noncomputable def ks42 : List SK := [.agg [.int .i64, .int .i64, .ro 3], .f (.ro 1), .f (.int .i64), .f (.slc 0 0)]
noncomputable def hs42 : List HK := [⟨0, .arr, 3, 1, none⟩]
noncomputable def S42 (us : List AVal) (bs : List Blk) : Call := Call.guard (chkS ks42 hs42 ⟨us, numK 0 bs⟩) (Call.of (F_skirmishref14_Spread (toI (cIa (aggL (cIa us 0)) 0)) (toI (cIa (aggL (cIa us 0)) 1)) (roRows (cIa (aggL (cIa us 0)) 2)) (roRows (cIa us 1)) (toI (cIa us 2)) (blkAt (numK 0 bs) 0).2.rows) (enc42 (toI (cIa (aggL (cIa us 0)) 0)) (toI (cIa (aggL (cIa us 0)) 1)) (roRows (cIa (aggL (cIa us 0)) 2)) (roRows (cIa us 1)) (toI (cIa us 2)) (blkAt (numK 0 bs) 0).2.rows))
noncomputable def C42 := AI.extH 42 S42 C36
@[reducible] noncomputable def B42_1 := bodyOf TT TU GL0 C36 ownF L42 (lp Tryd.f42 1)
@[reducible] noncomputable def K42_1 (k : Ex → St → Option CR) : Ex → St → Option CR := fun e s => k e (maskS (W42_1 e) s)
theorem spec42_1 (k : Ex → St → Option CR) : ∀ (m : Nat) (R0 R2 blocked : LL) (class_ k1 dir b1_0 b1_1 : Int) (b1_2 : LL) (b3_0 b3_1 : Int), loopN B42_1 m (E42_1 R0 R2 blocked class_ k1 dir b1_0 b1_1 b1_2 b3_0 b3_1) (K42_1 k) = (G_skirmishref14_Spread_1 blocked class_ k1 b1_0 b1_1 b1_2 b3_0 b3_1 m R0 dir).bind (X42_1 R2 blocked class_ b1_0 b1_1 b1_2 k)
  | 0, _, _, _, _, _, _, _, _, _, _, _ => rfl
  | m + 1, R0, R2, blocked, class_, k1, dir, b1_0, b1_1, b1_2, b3_0, b3_1 =>
    Eq.trans (b := (bif (decide (dir < (8 : Int))) then (Option.bind (F_skirmishref07_Step b1_0 b1_1 b1_2 blocked class_ b3_0 b3_1 dir) fun t => (bif (!t.2) then (loopN B42_1 m ⟨[.dead, (AVal.ro 1 blocked), (i64 class_), (AVal.slc 0 R0.length), (AVal.ref 16000 1 0 0), .dead, .dead, .dead, .dead, (AVal.slc 19232 R2.length), (i64 k1), (AVal.ref 16000176 1 0 0), (i64 (wr (dir + (1 : Int)))), .dead, .dead, .dead, .dead, .dead, .dead, .dead, .dead, .dead, .dead, .dead, .dead, .dead, .dead, .dead, .dead, .dead, .dead, .dead, .dead, .dead, .dead, .dead, .dead, .dead, .dead, .dead, .dead, .dead, .dead, .dead, .dead, .dead, .dead, .dead, .dead, .dead, .dead, .dead, .dead, .dead, .dead, .dead, .dead, .dead, .dead, .dead, .dead, .dead, .dead, .dead, .dead, .dead, .dead, .dead, .dead, .dead, .dead, .dead, .dead, .dead, .dead, .dead, .dead, .dead, .dead, .dead, .dead, .dead, .dead, .dead, .dead, .dead, .dead, .dead, .dead, .dead, .dead, .dead, .dead, .dead], [(Prod.mk 0 (Blk.mk BKind.arr 3 1 R0)), (Prod.mk 16000 (Blk.mk BKind.box 24 3 [[(i64 b1_0), (i64 b1_1), (AVal.ro 3 b1_2)]])), (Prod.mk 19232 (Blk.mk BKind.arr 4 1 R2)), (Prod.mk 16000176 (Blk.mk BKind.box 27 2 [[(i64 b3_0), (i64 b3_1)]]))]⟩ (K42_1 k)) else (Option.bind (F_skirmishref14_Beside b3_0 b3_1 dir) fun t1 => (bif (((verEq R0.length R0.length) && (decide ((0 : Int) ≤ (wr ((wr (t1.2 * b1_0)) + t1.1))))) && (decide ((wr ((wr (t1.2 * b1_0)) + t1.1)) < (Int.ofNat R0.length)))) then (bif (verEq R0.length R0.length) then (Option.bind (R0[(wr ((wr (t1.2 * b1_0)) + t1.1)).toNat]?) fun r => (bif (chk [(LT.int IntKind.i64)] r) then (bif (decide ((cI r 0) < (0 : Int))) then (bif (((verEq R0.length R0.length) && (decide ((0 : Int) ≤ k1))) && (decide (k1 < (Int.ofNat R0.length)))) then (bif (verEq R0.length R0.length) then (Option.bind (R0[k1.toNat]?) fun r1 => (bif (chk [(LT.int IntKind.i64)] r1) then (bif (((verEq R0.length R0.length) && (decide ((0 : Int) ≤ (wr ((wr (t1.2 * b1_0)) + t1.1))))) && (decide ((wr ((wr (t1.2 * b1_0)) + t1.1)) < (Int.ofNat R0.length)))) then (bif ((((verEq R0.length R0.length) && true) && true) && true) then (loopN B42_1 m ⟨[.dead, (AVal.ro 1 blocked), (i64 class_), (AVal.slc 0 R0.length), (AVal.ref 16000 1 0 0), .dead, .dead, .dead, .dead, (AVal.slc 19232 R2.length), (i64 k1), (AVal.ref 16000176 1 0 0), (i64 (wr (dir + (1 : Int)))), .dead, .dead, .dead, .dead, .dead, .dead, .dead, .dead, .dead, .dead, .dead, .dead, .dead, .dead, .dead, .dead, .dead, .dead, .dead, .dead, .dead, .dead, .dead, .dead, .dead, .dead, .dead, .dead, .dead, .dead, .dead, .dead, .dead, .dead, .dead, .dead, .dead, .dead, .dead, .dead, .dead, .dead, .dead, .dead, .dead, .dead, .dead, .dead, .dead, .dead, .dead, .dead, .dead, .dead, .dead, .dead, .dead, .dead, .dead, .dead, .dead, .dead, .dead, .dead, .dead, .dead, .dead, .dead, .dead, .dead, .dead, .dead, .dead, .dead, .dead, .dead, .dead, .dead, .dead, .dead, .dead], [(Prod.mk 0 (Blk.mk BKind.arr 3 1 (List.set R0 (wr ((wr (t1.2 * b1_0)) + t1.1)).toNat [(i64 (wr ((cI r1 0) + t.1)))]))), (Prod.mk 16000 (Blk.mk BKind.box 24 3 [[(i64 b1_0), (i64 b1_1), (AVal.ro 3 b1_2)]])), (Prod.mk 19232 (Blk.mk BKind.arr 4 1 R2)), (Prod.mk 16000176 (Blk.mk BKind.box 27 2 [[(i64 b3_0), (i64 b3_1)]]))]⟩ (K42_1 k)) else none) else none) else none)) else none) else none) else (bif (((verEq R0.length R0.length) && (decide ((0 : Int) ≤ (wr ((wr (t1.2 * b1_0)) + t1.1))))) && (decide ((wr ((wr (t1.2 * b1_0)) + t1.1)) < (Int.ofNat R0.length)))) then (bif (verEq R0.length R0.length) then (Option.bind (R0[(wr ((wr (t1.2 * b1_0)) + t1.1)).toNat]?) fun r2 => (bif (chk [(LT.int IntKind.i64)] r2) then (bif (((verEq R0.length R0.length) && (decide ((0 : Int) ≤ k1))) && (decide (k1 < (Int.ofNat R0.length)))) then (bif (verEq R0.length R0.length) then (Option.bind (R0[k1.toNat]?) fun r3 => (bif (chk [(LT.int IntKind.i64)] r3) then (bif (decide ((cI r2 0) > (wr ((cI r3 0) + t.1)))) then (bif (((verEq R0.length R0.length) && (decide ((0 : Int) ≤ k1))) && (decide (k1 < (Int.ofNat R0.length)))) then (bif (verEq R0.length R0.length) then (Option.bind (R0[k1.toNat]?) fun r4 => (bif (chk [(LT.int IntKind.i64)] r4) then (bif (((verEq R0.length R0.length) && (decide ((0 : Int) ≤ (wr ((wr (t1.2 * b1_0)) + t1.1))))) && (decide ((wr ((wr (t1.2 * b1_0)) + t1.1)) < (Int.ofNat R0.length)))) then (bif ((((verEq R0.length R0.length) && true) && true) && true) then (loopN B42_1 m ⟨[.dead, (AVal.ro 1 blocked), (i64 class_), (AVal.slc 0 R0.length), (AVal.ref 16000 1 0 0), .dead, .dead, .dead, .dead, (AVal.slc 19232 R2.length), (i64 k1), (AVal.ref 16000176 1 0 0), (i64 (wr (dir + (1 : Int)))), .dead, .dead, .dead, .dead, .dead, .dead, .dead, .dead, .dead, .dead, .dead, .dead, .dead, .dead, .dead, .dead, .dead, .dead, .dead, .dead, .dead, .dead, .dead, .dead, .dead, .dead, .dead, .dead, .dead, .dead, .dead, .dead, .dead, .dead, .dead, .dead, .dead, .dead, .dead, .dead, .dead, .dead, .dead, .dead, .dead, .dead, .dead, .dead, .dead, .dead, .dead, .dead, .dead, .dead, .dead, .dead, .dead, .dead, .dead, .dead, .dead, .dead, .dead, .dead, .dead, .dead, .dead, .dead, .dead, .dead, .dead, .dead, .dead, .dead, .dead, .dead, .dead, .dead, .dead, .dead, .dead], [(Prod.mk 0 (Blk.mk BKind.arr 3 1 (List.set R0 (wr ((wr (t1.2 * b1_0)) + t1.1)).toNat [(i64 (wr ((cI r4 0) + t.1)))]))), (Prod.mk 16000 (Blk.mk BKind.box 24 3 [[(i64 b1_0), (i64 b1_1), (AVal.ro 3 b1_2)]])), (Prod.mk 19232 (Blk.mk BKind.arr 4 1 R2)), (Prod.mk 16000176 (Blk.mk BKind.box 27 2 [[(i64 b3_0), (i64 b3_1)]]))]⟩ (K42_1 k)) else none) else none) else none)) else none) else none) else (loopN B42_1 m ⟨[.dead, (AVal.ro 1 blocked), (i64 class_), (AVal.slc 0 R0.length), (AVal.ref 16000 1 0 0), .dead, .dead, .dead, .dead, (AVal.slc 19232 R2.length), (i64 k1), (AVal.ref 16000176 1 0 0), (i64 (wr (dir + (1 : Int)))), .dead, .dead, .dead, .dead, .dead, .dead, .dead, .dead, .dead, .dead, .dead, .dead, .dead, .dead, .dead, .dead, .dead, .dead, .dead, .dead, .dead, .dead, .dead, .dead, .dead, .dead, .dead, .dead, .dead, .dead, .dead, .dead, .dead, .dead, .dead, .dead, .dead, .dead, .dead, .dead, .dead, .dead, .dead, .dead, .dead, .dead, .dead, .dead, .dead, .dead, .dead, .dead, .dead, .dead, .dead, .dead, .dead, .dead, .dead, .dead, .dead, .dead, .dead, .dead, .dead, .dead, .dead, .dead, .dead, .dead, .dead, .dead, .dead, .dead, .dead, .dead, .dead, .dead, .dead, .dead, .dead], [(Prod.mk 0 (Blk.mk BKind.arr 3 1 R0)), (Prod.mk 16000 (Blk.mk BKind.box 24 3 [[(i64 b1_0), (i64 b1_1), (AVal.ro 3 b1_2)]])), (Prod.mk 19232 (Blk.mk BKind.arr 4 1 R2)), (Prod.mk 16000176 (Blk.mk BKind.box 27 2 [[(i64 b3_0), (i64 b3_1)]]))]⟩ (K42_1 k))) else none)) else none) else none) else none)) else none) else none)) else none)) else none) else none)))) else (k (.exit 2) ⟨[.dead, (AVal.ro 1 blocked), (i64 class_), (AVal.slc 0 R0.length), (AVal.ref 16000 1 0 0), .dead, .dead, .dead, .dead, (AVal.slc 19232 R2.length), .dead, .dead, .dead, .dead, .dead, .dead, .dead, .dead, .dead, .dead, .dead, .dead, .dead, .dead, .dead, .dead, .dead, .dead, .dead, .dead, .dead, .dead, .dead, .dead, .dead, .dead, .dead, .dead, .dead, .dead, .dead, .dead, .dead, .dead, .dead, .dead, .dead, .dead, .dead, .dead, .dead, .dead, .dead, .dead, .dead, .dead, .dead, .dead, .dead, .dead, .dead, .dead, .dead, .dead, .dead, .dead, .dead, .dead, .dead, .dead, .dead, .dead, .dead, .dead, .dead, .dead, .dead, .dead, .dead, .dead, .dead, .dead, .dead, .dead, .dead, .dead, .dead, .dead, .dead, .dead, .dead, .dead, .dead, .dead], [(Prod.mk 0 (Blk.mk BKind.arr 3 1 R0)), (Prod.mk 16000 (Blk.mk BKind.box 24 3 [[(i64 b1_0), (i64 b1_1), (AVal.ro 3 b1_2)]])), (Prod.mk 19232 (Blk.mk BKind.arr 4 1 R2))]⟩))) (by kernel_rfl)
      (n_condH rfl (fun h0 => (n_bind fun t => (n_condH rfl (fun h1 => (spec42_1 k m R0 R2 blocked class_ k1 (wr (dir + (1 : Int))) b1_0 b1_1 b1_2 b3_0 b3_1)) fun h1 => (n_bind fun t1 => (n_condH (n_and (n_andL (verEq_rfl _) rfl) rfl) (fun h2 => (n_true (verEq_rfl _) (n_bind fun r => (n_condH rfl (fun h3 => (n_condH rfl (fun h4 => (n_condH (n_and (n_andL (verEq_rfl _) rfl) rfl) (fun h5 => (n_true (verEq_rfl _) (n_bind fun r1 => (n_condH rfl (fun h6 => (n_true (n_andL (n_andL (verEq_rfl _) (n_al h2)) (n_ar h2)) (n_true (n_andL (n_andL (n_andL (verEq_rfl _) rfl) rfl) rfl) ((congrArg (fun z => loopN B42_1 m z (K42_1 k)) (by simp [E42_1] : _ = E42_1 (List.set R0 (wr ((wr (t1.2 * b1_0)) + t1.1)).toNat [(i64 (wr ((cI r1 0) + t.1)))]) R2 blocked class_ k1 (wr (dir + (1 : Int))) b1_0 b1_1 b1_2 b3_0 b3_1)).trans (spec42_1 k m (List.set R0 (wr ((wr (t1.2 * b1_0)) + t1.1)).toNat [(i64 (wr ((cI r1 0) + t.1)))]) R2 blocked class_ k1 (wr (dir + (1 : Int))) b1_0 b1_1 b1_2 b3_0 b3_1))))) fun h6 => n_none)))) fun h5 => n_none)) fun h4 => (n_true (n_andL (n_andL (verEq_rfl _) (n_al h2)) (n_ar h2)) (n_true (verEq_rfl _) (n_bind fun r2 => (n_condH rfl (fun h5 => (n_condH (n_and (n_andL (verEq_rfl _) rfl) rfl) (fun h6 => (n_true (verEq_rfl _) (n_bind fun r3 => (n_condH rfl (fun h7 => (n_condH rfl (fun h8 => (n_true (n_andL (n_andL (verEq_rfl _) (n_al h6)) (n_ar h6)) (n_true (verEq_rfl _) (n_bind fun r4 => (n_condH rfl (fun h9 => (n_true (n_andL (n_andL (verEq_rfl _) (n_al h2)) (n_ar h2)) (n_true (n_andL (n_andL (n_andL (verEq_rfl _) rfl) rfl) rfl) ((congrArg (fun z => loopN B42_1 m z (K42_1 k)) (by simp [E42_1] : _ = E42_1 (List.set R0 (wr ((wr (t1.2 * b1_0)) + t1.1)).toNat [(i64 (wr ((cI r4 0) + t.1)))]) R2 blocked class_ k1 (wr (dir + (1 : Int))) b1_0 b1_1 b1_2 b3_0 b3_1)).trans (spec42_1 k m (List.set R0 (wr ((wr (t1.2 * b1_0)) + t1.1)).toNat [(i64 (wr ((cI r4 0) + t.1)))]) R2 blocked class_ k1 (wr (dir + (1 : Int))) b1_0 b1_1 b1_2 b3_0 b3_1))))) fun h9 => n_none))))) fun h8 => (spec42_1 k m R0 R2 blocked class_ k1 (wr (dir + (1 : Int))) b1_0 b1_1 b1_2 b3_0 b3_1))) fun h7 => n_none)))) fun h6 => n_none)) fun h5 => n_none)))))) fun h3 => n_none)))) fun h2 => n_none))))) fun h0 => rfl)
theorem okL42_1 : LoopOk TT TU GL0 C36 ownF L42 (lp Tryd.f42 1) :=
  loopOk_of ks42_1 hs42_1 W42_1 FU (fun s k => (G_skirmishref14_Spread_1 (roRows (cIa s.tmps 1)) (toI (cIa s.tmps 2)) (toI (cIa s.tmps 10)) (toI (cIa (rows0 (blkAt s.heap 1).2) 0)) (toI (cIa (rows0 (blkAt s.heap 1).2) 1)) (roRows (cIa (rows0 (blkAt s.heap 1).2) 2)) (toI (cIa (rows0 (blkAt s.heap 3).2) 0)) (toI (cIa (rows0 (blkAt s.heap 3).2) 1)) FU (blkAt s.heap 0).2.rows (toI (cIa s.tmps 12))).bind (X42_1 (blkAt s.heap 2).2.rows (roRows (cIa s.tmps 1)) (toI (cIa s.tmps 2)) (toI (cIa (rows0 (blkAt s.heap 1).2) 0)) (toI (cIa (rows0 (blkAt s.heap 1).2) 1)) (roRows (cIa (rows0 (blkAt s.heap 1).2) 2)) k)) (fun s k => by kernel_rfl) (fun s k => spec42_1 k FU (blkAt s.heap 0).2.rows (blkAt s.heap 2).2.rows (roRows (cIa s.tmps 1)) (toI (cIa s.tmps 2)) (toI (cIa s.tmps 10)) (toI (cIa s.tmps 12)) (toI (cIa (rows0 (blkAt s.heap 1).2) 0)) (toI (cIa (rows0 (blkAt s.heap 1).2) 1)) (roRows (cIa (rows0 (blkAt s.heap 1).2) 2)) (toI (cIa (rows0 (blkAt s.heap 3).2) 0)) (toI (cIa (rows0 (blkAt s.heap 3).2) 1)))
@[reducible] noncomputable def B42_0 := bodyOf TT TU GL0 C36 ownF L42 (lp Tryd.f42 0)
@[reducible] noncomputable def K42_0 (k : Ex → St → Option CR) : Ex → St → Option CR := fun e s => k e (maskS (W42_0 e) s)
theorem spec42_0 (k : Ex → St → Option CR) : ∀ (m : Nat) (R0 R2 blocked : LL) (class_ k1 b1_0 b1_1 : Int) (b1_2 : LL), loopN B42_0 m (E42_0 R0 R2 blocked class_ k1 b1_0 b1_1 b1_2) (K42_0 k) = (G_skirmishref14_Spread_0 blocked class_ b1_0 b1_1 b1_2 m R0 R2 k1).bind (X42_0 k)
  | 0, _, _, _, _, _, _, _, _ => rfl
  | m + 1, R0, R2, blocked, class_, k1, b1_0, b1_1, b1_2 =>
    Eq.trans (by kernel_rfl) (n_condH rfl (fun h0 => (n_condH (show ((((verEq R2.length R2.length) && (decide ((0 : Int) ≤ k1))) && (decide (k1 < (Int.ofNat R2.length))))) = _ from (n_and (n_andL (verEq_rfl _) rfl) rfl)) (fun h1 => (n_tru (show ((((verEq R2.length R2.length) && true) && true) && true) = true from (n_andL (n_andL (n_andL (verEq_rfl _) rfl) rfl) rfl)) (n_condH rfl (fun h2 => rfl) fun h2 => (n_false (A := none) h2 (n_tru (show (((true && (verEq R0.length (blkLen [(Prod.mk 0 (Blk.mk BKind.arr 3 1 R0)), (Prod.mk 16000 (Blk.mk BKind.box 24 3 [[(i64 b1_0), (i64 b1_1), (AVal.ro 3 b1_2)]])), (Prod.mk 19232 (Blk.mk BKind.arr 4 1 (List.set R2 k1.toNat [(bo true)]))), (Prod.mk 16000176 (Blk.mk BKind.box 27 2 [[(i64 (Int.tmod k1 b1_0)), (i64 (wr (Int.tdiv k1 b1_0)))]]))] 0))) && ((true && (verEq R2.length (blkLen [(Prod.mk 0 (Blk.mk BKind.arr 3 1 R0)), (Prod.mk 16000 (Blk.mk BKind.box 24 3 [[(i64 b1_0), (i64 b1_1), (AVal.ro 3 b1_2)]])), (Prod.mk 19232 (Blk.mk BKind.arr 4 1 (List.set R2 k1.toNat [(bo true)]))), (Prod.mk 16000176 (Blk.mk BKind.box 27 2 [[(i64 (Int.tmod k1 b1_0)), (i64 (wr (Int.tdiv k1 b1_0)))]]))] 2))) && true)) && true) = true from (n_andL (n_andL (n_andL rfl (by first | exact verEq_of rfl | simp [verEq, blkLen, blkAt])) (n_andL (n_andL rfl (by first | exact verEq_of rfl | simp [verEq, blkLen, blkAt])) rfl)) rfl)) (n_bind fun t => (n_tru (show (verEq t.length t.length) = true from (verEq_rfl _)) (n_tru (show (verEq (Blk.rows (Blk.mk BKind.arr 4 1 (Blk.rows (Blk.mk BKind.arr 4 1 (List.set R2 k1.toNat [(bo true)]))))).length (Blk.rows (Blk.mk BKind.arr 4 1 (List.set R2 k1.toNat [(bo true)]))).length) = true from (by first | exact verEq_of rfl | simp [verEq, blkLen, blkAt])) (n_bind fun t1 => (spec42_0 k m t (Blk.rows (Blk.mk BKind.arr 4 1 (List.set R2 k1.toNat [(bo true)]))) blocked class_ t1 b1_0 b1_1 b1_2)))))))))) fun h1 => rfl)) fun h0 => rfl)
theorem okL42_0 : LoopOk TT TU GL0 C36 ownF L42 (lp Tryd.f42 0) :=
  loopOk_of ks42_0 hs42_0 W42_0 FU (fun s k => (G_skirmishref14_Spread_0 (roRows (cIa s.tmps 1)) (toI (cIa s.tmps 2)) (toI (cIa (rows0 (blkAt s.heap 1).2) 0)) (toI (cIa (rows0 (blkAt s.heap 1).2) 1)) (roRows (cIa (rows0 (blkAt s.heap 1).2) 2)) FU (blkAt s.heap 0).2.rows (blkAt s.heap 2).2.rows (toI (cIa s.tmps 10))).bind (X42_0 k)) (fun s k => by kernel_rfl) (fun s k => spec42_0 k FU (blkAt s.heap 0).2.rows (blkAt s.heap 2).2.rows (roRows (cIa s.tmps 1)) (toI (cIa s.tmps 2)) (toI (cIa s.tmps 10)) (toI (cIa (rows0 (blkAt s.heap 1).2) 0)) (toI (cIa (rows0 (blkAt s.heap 1).2) 1)) (roRows (cIa (rows0 (blkAt s.heap 1).2) 2)))
theorem run42 (m1_W m1_H : Int) (m1_Cells blocked : LL) (class_ : Int) (cost : LL) : fcallH TT TU GL0 C36 ownF L42 Tryd.f42 [(.agg [(.sc (.int .i64 m1_W)), (.sc (.int .i64 m1_H)), (.ro 3 m1_Cells)]), (.ro 1 blocked), (.sc (.int .i64 class_)), (.slc 0 (List.length cost))] [(0, (⟨.arr, 3, 1, cost⟩ : Blk))] = (F_skirmishref14_Spread m1_W m1_H m1_Cells blocked class_ cost).bind fun t => some (enc42 m1_W m1_H m1_Cells blocked class_ cost t) :=
  Eq.trans (by kernel_rfl) (n_tru (show (verEq cost.length cost.length) = true from (verEq_rfl _)) (n_condH rfl (fun h0 => (n_tru (show (verEq cost.length cost.length) = true from (verEq_rfl _)) (n_tru (show (verEq (Blk.rows (Blk.mk BKind.arr 4 1 (List.replicate (Int.ofNat cost.length).toNat [(bo false)]))).length (List.replicate (Int.ofNat cost.length).toNat [(bo false)]).length) = true from (by first | exact verEq_of rfl | simp [verEq, blkLen, blkAt])) (n_bind fun t => (n_tru (show (((true && (verEq cost.length (blkLen [(Prod.mk 0 (Blk.mk BKind.arr 3 1 cost)), (Prod.mk 16000 (Blk.mk BKind.box 24 3 [[(i64 m1_W), (i64 m1_H), (AVal.ro 3 m1_Cells)]])), (Prod.mk 19232 (Blk.mk BKind.arr 4 1 (List.replicate (Int.ofNat cost.length).toNat [(bo false)])))] 0))) && ((true && (verEq (List.replicate (Int.ofNat cost.length).toNat [(bo false)]).length (blkLen [(Prod.mk 0 (Blk.mk BKind.arr 3 1 cost)), (Prod.mk 16000 (Blk.mk BKind.box 24 3 [[(i64 m1_W), (i64 m1_H), (AVal.ro 3 m1_Cells)]])), (Prod.mk 19232 (Blk.mk BKind.arr 4 1 (List.replicate (Int.ofNat cost.length).toNat [(bo false)])))] 2))) && true)) && true) = true from (n_andL (n_andL (n_andL rfl (by first | exact verEq_of rfl | simp [verEq, blkLen, blkAt])) (n_andL (n_andL rfl (by first | exact verEq_of rfl | simp [verEq, blkLen, blkAt])) rfl)) rfl)) (n_bind fun t1 => (n_tru (show (verEq t1.length t1.length) = true from (verEq_rfl _)) rfl))))))) fun h0 => rfl))
theorem lib42 : Lib Tryd.prog GL0 C42 :=
  Lib.fnH lib36 mixed TT_ok Tryd.func42 (by decide +kernel) (by kernel_rfl) L42 (loops_of 2 (by kernel_rfl) (belowS (belowS below0 okL42_0) okL42_1)) ks42 hs42 (by kernel_rfl) (F := fun us H => F_skirmishref14_Spread (toI (cIa (aggL (cIa us 0)) 0)) (toI (cIa (aggL (cIa us 0)) 1)) (roRows (cIa (aggL (cIa us 0)) 2)) (roRows (cIa us 1)) (toI (cIa us 2)) (blkAt H 0).2.rows) (enc := fun us H => enc42 (toI (cIa (aggL (cIa us 0)) 0)) (toI (cIa (aggL (cIa us 0)) 1)) (roRows (cIa (aggL (cIa us 0)) 2)) (roRows (cIa us 1)) (toI (cIa us 2)) (blkAt H 0).2.rows) (fun us bs => rfl) (fun us H => run42 (toI (cIa (aggL (cIa us 0)) 0)) (toI (cIa (aggL (cIa us 0)) 1)) (roRows (cIa (aggL (cIa us 0)) 2)) (roRows (cIa us 1)) (toI (cIa us 2)) (blkAt H 0).2.rows)
end Go.Proofs.YtclfphmehilaeaaDoor.AI
