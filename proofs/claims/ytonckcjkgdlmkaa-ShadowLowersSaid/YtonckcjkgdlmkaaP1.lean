/- What functions answer: printed by wip/tool2/Ev.lean out of the interpreter's run; each print is checked by Lean. -/
import Derived.Test.YtonckcjkgdlmkaaTab
namespace Go.Proofs.Ytonckcjkgdlmkaa.AI
open Go.RowKit
set_option linter.unusedVariables false
set_option maxRecDepth 100000
/-! ### 23: skirmish/skirmishref06.At -/



/-- 'skirmish/skirmishref06.At' -/
noncomputable def F_skirmishref06_At (w : Int) (index : Int) : Option (Int × Int) :=
  bif (decide (w < (1 : Int))) then
    some ((0 : Int), (0 : Int))
  else
  bif (decide (index < (0 : Int))) then
    some ((0 : Int), (0 : Int))
  else
  bif (w == (0 : Int)) then
    none
  else
  some ((Int.tmod index w), (wr (Int.tdiv index w)))
noncomputable def enc23 (t : Int × Int) : CR := ⟨true, (.agg [(.sc (.int .i64 t.1)), (.sc (.int .i64 t.2))]), [], []⟩
noncomputable def ks23 : List SK := [.f (.int .i64), .f (.int .i64)]
noncomputable def S23 (us : List AVal) : Call := bif chkA ks23 us then Call.of (F_skirmishref06_At (toI (cIa us 0)) (toI (cIa us 1))) enc23 else Call.none
noncomputable def C23 := AI.ext 23 S23 Cnone

theorem run23 (w : Int) (index : Int) : fcall TT TU GL0 Cnone ownF true noL Try.f23 [(.sc (.int .i64 w)), (.sc (.int .i64 index))] = (F_skirmishref06_At w index).bind fun t => some (enc23 t) :=
  Eq.trans (b := (bif (decide (w < (1 : Int))) then (some (CR.mk true (AVal.agg [(i64 (0 : Int)), (i64 (0 : Int))]) [] [])) else (bif (decide (index < (0 : Int))) then (some (CR.mk true (AVal.agg [(i64 (0 : Int)), (i64 (0 : Int))]) [] [])) else (bif (w == (0 : Int)) then none else (bif (w == (0 : Int)) then none else (some (CR.mk true (AVal.agg [(i64 (Int.tmod index w)), (i64 (wr (Int.tdiv index w)))]) [] []))))))) (by kernel_rfl)
    (n_condH rfl (fun h0 => rfl) fun h0 => (n_condH rfl (fun h1 => rfl) fun h1 => (n_condH rfl (fun h2 => n_none) fun h2 => (n_false h2 rfl))))
theorem lib23 : Lib Try.prog GL0 C23 :=
  Lib.fn libnone mixed TT_ok Try.func23 (by decide +kernel) (by kernel_rfl) true noL (loops_of 0 (by kernel_rfl) below0) ks23 (F := fun us => F_skirmishref06_At (toI (cIa us 0)) (toI (cIa us 1))) (fun us => rfl) (fun us => run23 (toI (cIa us 0)) (toI (cIa us 1))) (fun t => rfl)

/-! ### 25: skirmish/skirmishlaw12.field -/

noncomputable def W25_0 : Ex → List Bool
  | .ret => [false, false, false, false, false, false, true, false, false, false, false, false, false, false, false, false, false, false, false, false, false, false, false, false, false, false, false, false, false, false, false, false, false, false]
  | .exit n => bif Nat.beq n 0 then [false, false, false, false, false, false, true, true, false, false, false, false, false, false, false, false, false, false, false, false, false, false, false, false, false, false, false, false, false, false, false, false, false, false] else []
  | .normal => []
noncomputable def G_skirmishlaw12_field_0 (w : Int) (h : Int) (b0_0 : Int) (b0_1 : Int) : Nat → List (List AVal) → Int → Option (List (List AVal))
  | 0, _, _ => none
  | m + 1, R3, i =>
    bif (decide (i < (wr (w * h)))) then
      Option.bind (F_skirmishref06_At w i) fun t =>
      bif ((t.1 == b0_0) && (t.2 == b0_1)) then
        bif (roomOk (R3.length + 1) 24) then
          G_skirmishlaw12_field_0 w h b0_0 b0_1 m (R3 ++ [[(i64 (3 : Int)), (i64 (0 : Int)), (i64 (0 : Int))]]) (wr (i + (1 : Int)))
        else
        none
      else
      bif (roomOk (R3.length + 1) 24) then
        G_skirmishlaw12_field_0 w h b0_0 b0_1 m (R3 ++ [[(i64 (1 : Int)), (i64 (0 : Int)), (i64 (0 : Int))]]) (wr (i + (1 : Int)))
      else
      none
    else
    some R3
noncomputable def E25_0 (R1 : List (List AVal)) (R3 : List (List AVal)) (w : Int) (h : Int) (i : Int) (b0_0 : Int) (b0_1 : Int) (b2_0 : Int) (b2_1 : Int) (b4_0 : Int) (b4_1 : Int) : St := ⟨[(.sc (.int .i64 w)), (.sc (.int .i64 h)), .dead, .dead, .dead, (.ref 16000 1 0 0), (.ref 16016 1 0 0), (.ref 19248 1 0 0), (.sc (.int .i64 i)), .dead, .dead, .dead, .dead, .dead, .dead, .dead, .dead, .dead, .dead, .dead, .dead, .dead, .dead, .dead, .dead, .dead, .dead, .dead, .dead, .dead, .dead, .dead, .dead, .dead], [(16000, ⟨.box, 26, 2, [[(.sc (.int .i64 b0_0)), (.sc (.int .i64 b0_1))]]⟩), (16019, ⟨.arr, 46, 3, R1⟩), (16016, ⟨.box, 24, 3, [[(.sc (.int .i64 b2_0)), (.sc (.int .i64 b2_1)), (.slc 16019 (R1).length)]]⟩), (19234, ⟨.arr, 46, 3, R3⟩), (19248, ⟨.box, 24, 3, [[(.sc (.int .i64 b4_0)), (.sc (.int .i64 b4_1)), (.slc 19234 (R3).length)]]⟩)]⟩
noncomputable def X25_0 (R1 : List (List AVal)) (b2_0 : Int) (b2_1 : Int) (b4_0 : Int) (b4_1 : Int) (k : Ex → St → Option CR) (t : List (List AVal)) : Option CR := k (.exit 0) ⟨[.dead, .dead, .dead, .dead, .dead, .dead, (.ref 16016 1 0 0), (.ref 19248 1 0 0), .dead, .dead, .dead, .dead, .dead, .dead, .dead, .dead, .dead, .dead, .dead, .dead, .dead, .dead, .dead, .dead, .dead, .dead, .dead, .dead, .dead, .dead, .dead, .dead, .dead, .dead], [(16019, ⟨.arr, 46, 3, R1⟩), (16016, ⟨.box, 24, 3, [[(.sc (.int .i64 b2_0)), (.sc (.int .i64 b2_1)), (.slc 16019 (R1).length)]]⟩), (19234, ⟨.arr, 46, 3, t⟩), (19248, ⟨.box, 24, 3, [[(.sc (.int .i64 b4_0)), (.sc (.int .i64 b4_1)), (.slc 19234 (t).length)]]⟩)]⟩
noncomputable def ks25_0 : List SK := [.f (.int .i64), .f (.int .i64), .f .dead, .f .dead, .f .dead, .f (.ref 16000 1 0 0), .f (.ref 16016 1 0 0), .f (.ref 19248 1 0 0), .f (.int .i64), .f .dead, .f .dead, .f .dead, .f .dead, .f .dead, .f .dead, .f .dead, .f .dead, .f .dead, .f .dead, .f .dead, .f .dead, .f .dead, .f .dead, .f .dead, .f .dead, .f .dead, .f .dead, .f .dead, .f .dead, .f .dead, .f .dead, .f .dead, .f .dead, .f .dead]
noncomputable def hs25_0 : List HK := [⟨16000, .box, 26, 2, some [.int .i64, .int .i64]⟩, ⟨16019, .arr, 46, 3, none⟩, ⟨16016, .box, 24, 3, some [.int .i64, .int .i64, .slc 16019 1]⟩, ⟨19234, .arr, 46, 3, none⟩, ⟨19248, .box, 24, 3, some [.int .i64, .int .i64, .slc 19234 3]⟩]
noncomputable def Lm25_0 (s : St) (k : Ex → St → Option CR) : Option CR := bif chkS ks25_0 hs25_0 s then (G_skirmishlaw12_field_0 (toI (cIa s.tmps 0)) (toI (cIa s.tmps 1)) (toI (cIa (rows0 (blkAt s.heap 0).2) 0)) (toI (cIa (rows0 (blkAt s.heap 0).2) 1)) FU (blkAt s.heap 3).2.rows (toI (cIa s.tmps 8))).bind (X25_0 (blkAt s.heap 1).2.rows (toI (cIa (rows0 (blkAt s.heap 2).2) 0)) (toI (cIa (rows0 (blkAt s.heap 2).2) 1)) (toI (cIa (rows0 (blkAt s.heap 4).2) 0)) (toI (cIa (rows0 (blkAt s.heap 4).2) 1)) k) else none
noncomputable def L25_0 (s : St) (k : Ex → St → Option CR) : Option CR := Lm25_0 (maskS (maskOf ks25_0) s) k

noncomputable def L25 : LT' := fun i s k => bif Nat.beq i 0 then L25_0 s k else none

/-- 'skirmish/skirmishlaw12.field' -/
noncomputable def F_skirmishlaw12_field (w : Int) (h : Int) (rock_X : Int) (rock_Y : Int) : Option (List (List AVal) × Int × Int) :=
  Option.bind (G_skirmishlaw12_field_0 w h rock_X rock_Y FU [] (0 : Int)) fun t =>
  some (t, w, h)
noncomputable def enc25 (t : List (List AVal) × Int × Int) : CR := ⟨true, (.agg [(.sc (.int .i64 t.2.1)), (.sc (.int .i64 t.2.2)), (.slc 0 (t.1).length)]), [], [⟨.arr, 46, 3, t.1⟩]⟩
noncomputable def ks25 : List SK := [.f (.int .i64), .f (.int .i64), .agg [.int .i64, .int .i64]]
noncomputable def S25 (us : List AVal) : Call := bif chkA ks25 us then Call.of (F_skirmishlaw12_field (toI (cIa us 0)) (toI (cIa us 1)) (toI (cIa (aggL (cIa us 2)) 0)) (toI (cIa (aggL (cIa us 2)) 1))) enc25 else Call.none
noncomputable def C25 := AI.ext 25 S25 C23

@[reducible] noncomputable def B25_0 := bodyOf TT TU GL0 C23 ownE L25 (lp Try.f25 0)
@[reducible] noncomputable def K25_0 (k : Ex → St → Option CR) : Ex → St → Option CR := fun e s => k e (maskS (W25_0 e) s)
theorem spec25_0 (k : Ex → St → Option CR) : ∀ (m : Nat) (R1 : List (List AVal)) (R3 : List (List AVal)) (w : Int) (h : Int) (i : Int) (b0_0 : Int) (b0_1 : Int) (b2_0 : Int) (b2_1 : Int) (b4_0 : Int) (b4_1 : Int), loopN B25_0 m (E25_0 R1 R3 w h i b0_0 b0_1 b2_0 b2_1 b4_0 b4_1) (K25_0 k) = (G_skirmishlaw12_field_0 w h b0_0 b0_1 m R3 i).bind (X25_0 R1 b2_0 b2_1 b4_0 b4_1 k)
  | 0, _, _, _, _, _, _, _, _, _, _, _ => rfl
  | m + 1, R1, R3, w, h, i, b0_0, b0_1, b2_0, b2_1, b4_0, b4_1 =>
    Eq.trans (b := (bif (decide (i < (wr (w * h)))) then (Option.bind (F_skirmishref06_At w i) fun t => (bif ((t.1 == b0_0) && (t.2 == b0_1)) then (bif (((verEq R3.length R3.length) && true) && (roomOk (R3.length + 1) 24)) then (loopN B25_0 m ⟨[(i64 w), (i64 h), .dead, .dead, .dead, (AVal.ref 16000 1 0 0), (AVal.ref 16016 1 0 0), (AVal.ref 19248 1 0 0), (i64 (wr (i + (1 : Int)))), .dead, .dead, .dead, .dead, .dead, .dead, .dead, .dead, .dead, .dead, .dead, .dead, .dead, .dead, .dead, .dead, .dead, .dead, .dead, .dead, .dead, .dead, .dead, .dead, .dead], [(Prod.mk 16000 (Blk.mk BKind.box 26 2 [[(i64 b0_0), (i64 b0_1)]])), (Prod.mk 16019 (Blk.mk BKind.arr 46 3 R1)), (Prod.mk 16016 (Blk.mk BKind.box 24 3 [[(i64 b2_0), (i64 b2_1), (AVal.slc 16019 R1.length)]])), (Prod.mk 19234 (Blk.mk BKind.arr 46 3 (R3 ++ [[(i64 (3 : Int)), (i64 (0 : Int)), (i64 (0 : Int))]]))), (Prod.mk 19248 (Blk.mk BKind.box 24 3 [[(i64 b4_0), (i64 b4_1), (AVal.slc 19234 (R3 ++ [[(i64 (3 : Int)), (i64 (0 : Int)), (i64 (0 : Int))]]).length)]]))]⟩ (K25_0 k)) else none) else (bif (((verEq R3.length R3.length) && true) && (roomOk (R3.length + 1) 24)) then (loopN B25_0 m ⟨[(i64 w), (i64 h), .dead, .dead, .dead, (AVal.ref 16000 1 0 0), (AVal.ref 16016 1 0 0), (AVal.ref 19248 1 0 0), (i64 (wr (i + (1 : Int)))), .dead, .dead, .dead, .dead, .dead, .dead, .dead, .dead, .dead, .dead, .dead, .dead, .dead, .dead, .dead, .dead, .dead, .dead, .dead, .dead, .dead, .dead, .dead, .dead, .dead], [(Prod.mk 16000 (Blk.mk BKind.box 26 2 [[(i64 b0_0), (i64 b0_1)]])), (Prod.mk 16019 (Blk.mk BKind.arr 46 3 R1)), (Prod.mk 16016 (Blk.mk BKind.box 24 3 [[(i64 b2_0), (i64 b2_1), (AVal.slc 16019 R1.length)]])), (Prod.mk 19234 (Blk.mk BKind.arr 46 3 (R3 ++ [[(i64 (1 : Int)), (i64 (0 : Int)), (i64 (0 : Int))]]))), (Prod.mk 19248 (Blk.mk BKind.box 24 3 [[(i64 b4_0), (i64 b4_1), (AVal.slc 19234 (R3 ++ [[(i64 (1 : Int)), (i64 (0 : Int)), (i64 (0 : Int))]]).length)]]))]⟩ (K25_0 k)) else none))) else (k (.exit 0) ⟨[.dead, .dead, .dead, .dead, .dead, .dead, (AVal.ref 16016 1 0 0), (AVal.ref 19248 1 0 0), .dead, .dead, .dead, .dead, .dead, .dead, .dead, .dead, .dead, .dead, .dead, .dead, .dead, .dead, .dead, .dead, .dead, .dead, .dead, .dead, .dead, .dead, .dead, .dead, .dead, .dead], [(Prod.mk 16019 (Blk.mk BKind.arr 46 3 R1)), (Prod.mk 16016 (Blk.mk BKind.box 24 3 [[(i64 b2_0), (i64 b2_1), (AVal.slc 16019 R1.length)]])), (Prod.mk 19234 (Blk.mk BKind.arr 46 3 R3)), (Prod.mk 19248 (Blk.mk BKind.box 24 3 [[(i64 b4_0), (i64 b4_1), (AVal.slc 19234 R3.length)]]))]⟩))) (by kernel_rfl)
      (n_condH rfl (fun h0 => (n_bind fun t => (n_condH rfl (fun h1 => (n_condH (n_andL (n_andL (verEq_rfl _) rfl) rfl) (fun h2 => (spec25_0 k m R1 (R3 ++ [[(i64 (3 : Int)), (i64 (0 : Int)), (i64 (0 : Int))]]) w h (wr (i + (1 : Int))) b0_0 b0_1 b2_0 b2_1 b4_0 b4_1)) fun h2 => n_none)) fun h1 => (n_condH (n_andL (n_andL (verEq_rfl _) rfl) rfl) (fun h2 => (spec25_0 k m R1 (R3 ++ [[(i64 (1 : Int)), (i64 (0 : Int)), (i64 (0 : Int))]]) w h (wr (i + (1 : Int))) b0_0 b0_1 b2_0 b2_1 b4_0 b4_1)) fun h2 => n_none)))) fun h0 => rfl)
theorem okL25_0 : LoopOk TT TU GL0 C23 ownE L25 (lp Try.f25 0) :=
  loopOk_of ks25_0 hs25_0 W25_0 FU (fun s k => (G_skirmishlaw12_field_0 (toI (cIa s.tmps 0)) (toI (cIa s.tmps 1)) (toI (cIa (rows0 (blkAt s.heap 0).2) 0)) (toI (cIa (rows0 (blkAt s.heap 0).2) 1)) FU (blkAt s.heap 3).2.rows (toI (cIa s.tmps 8))).bind (X25_0 (blkAt s.heap 1).2.rows (toI (cIa (rows0 (blkAt s.heap 2).2) 0)) (toI (cIa (rows0 (blkAt s.heap 2).2) 1)) (toI (cIa (rows0 (blkAt s.heap 4).2) 0)) (toI (cIa (rows0 (blkAt s.heap 4).2) 1)) k)) (fun s k => by kernel_rfl) (fun s k => spec25_0 k FU (blkAt s.heap 1).2.rows (blkAt s.heap 3).2.rows (toI (cIa s.tmps 0)) (toI (cIa s.tmps 1)) (toI (cIa s.tmps 8)) (toI (cIa (rows0 (blkAt s.heap 0).2) 0)) (toI (cIa (rows0 (blkAt s.heap 0).2) 1)) (toI (cIa (rows0 (blkAt s.heap 2).2) 0)) (toI (cIa (rows0 (blkAt s.heap 2).2) 1)) (toI (cIa (rows0 (blkAt s.heap 4).2) 0)) (toI (cIa (rows0 (blkAt s.heap 4).2) 1)))
theorem run25 (w : Int) (h : Int) (rock_X : Int) (rock_Y : Int) : fcall TT TU GL0 C23 ownE true L25 Try.f25 [(.sc (.int .i64 w)), (.sc (.int .i64 h)), (.agg [(.sc (.int .i64 rock_X)), (.sc (.int .i64 rock_Y))])] = (F_skirmishlaw12_field w h rock_X rock_Y).bind fun t => some (enc25 t) :=
  Eq.trans (b := (Option.bind (G_skirmishlaw12_field_0 w h rock_X rock_Y FU [] (0 : Int)) fun t => (bif (verEq t.length t.length) then (some (CR.mk true (AVal.agg [(i64 w), (i64 h), (AVal.slc 0 t.length)]) [] [(Blk.mk BKind.arr 46 3 t)])) else none))) (by kernel_rfl)
    (n_bind fun t => (n_true (verEq_rfl _) rfl))
theorem lib25 : Lib Try.prog GL0 C25 :=
  Lib.fn lib23 mixed TT_ok Try.func25 (by decide +kernel) (by kernel_rfl) true L25 (loops_of 1 (by kernel_rfl) (belowS below0 okL25_0)) ks25 (F := fun us => F_skirmishlaw12_field (toI (cIa us 0)) (toI (cIa us 1)) (toI (cIa (aggL (cIa us 2)) 0)) (toI (cIa (aggL (cIa us 2)) 1))) (fun us => rfl) (fun us => run25 (toI (cIa us 0)) (toI (cIa us 1)) (toI (cIa (aggL (cIa us 2)) 0)) (toI (cIa (aggL (cIa us 2)) 1))) (fun t => rfl)

/-! ### 46: skirmish/terrain.validCell -/



/-- 'skirmish/terrain.validCell' -/
noncomputable def F_terrain_validCell (c_Kind : Int) (c_Height : Int) (c_Amount : Int) : Option (Bool) :=
  bif (decide (c_Kind < (1 : Int))) then
    some false
  else
  bif (decide (c_Kind > (5 : Int))) then
    some false
  else
  bif (decide (c_Height < (0 : Int))) then
    some false
  else
  bif (decide (c_Height > (3 : Int))) then
    some false
  else
  bif (decide (c_Amount < (0 : Int))) then
    some false
  else
  bif (decide (c_Amount > (1000000 : Int))) then
    some false
  else
  bif (c_Kind == (4 : Int)) then
    some ((decide (c_Amount > (0 : Int))) == true)
  else
  some ((decide (c_Amount > (0 : Int))) == (c_Kind == (5 : Int)))
noncomputable def enc46 (t : Bool) : CR := ⟨true, (.sc (.bool t)), [], []⟩
noncomputable def ks46 : List SK := [.agg [.int .i64, .int .i64, .int .i64]]
noncomputable def S46 (us : List AVal) : Call := bif chkA ks46 us then Call.of (F_terrain_validCell (toI (cIa (aggL (cIa us 0)) 0)) (toI (cIa (aggL (cIa us 0)) 1)) (toI (cIa (aggL (cIa us 0)) 2))) enc46 else Call.none
noncomputable def C46 := AI.ext 46 S46 C25

theorem run46 (c_Kind : Int) (c_Height : Int) (c_Amount : Int) : fcall TT TU GL0 C25 ownF true noL Try.f46 [(.agg [(.sc (.int .i64 c_Kind)), (.sc (.int .i64 c_Height)), (.sc (.int .i64 c_Amount))])] = (F_terrain_validCell c_Kind c_Height c_Amount).bind fun t => some (enc46 t) :=
  Eq.trans (b := (bif (decide (c_Kind < (1 : Int))) then (some (CR.mk true (bo false) [] [])) else (bif (decide (c_Kind > (5 : Int))) then (some (CR.mk true (bo false) [] [])) else (bif (decide (c_Height < (0 : Int))) then (some (CR.mk true (bo false) [] [])) else (bif (decide (c_Height > (3 : Int))) then (some (CR.mk true (bo false) [] [])) else (bif (decide (c_Amount < (0 : Int))) then (some (CR.mk true (bo false) [] [])) else (bif (decide (c_Amount > (1000000 : Int))) then (some (CR.mk true (bo false) [] [])) else (bif (c_Kind == (4 : Int)) then (some (CR.mk true (bo ((decide (c_Amount > (0 : Int))) == true)) [] [])) else (some (CR.mk true (bo ((decide (c_Amount > (0 : Int))) == (c_Kind == (5 : Int)))) [] [])))))))))) (by kernel_rfl)
    (n_condH rfl (fun h0 => rfl) fun h0 => (n_condH rfl (fun h1 => rfl) fun h1 => (n_condH rfl (fun h2 => rfl) fun h2 => (n_condH rfl (fun h3 => rfl) fun h3 => (n_condH rfl (fun h4 => rfl) fun h4 => (n_condH rfl (fun h5 => rfl) fun h5 => (n_condH rfl (fun h6 => rfl) fun h6 => rfl)))))))
theorem lib46 : Lib Try.prog GL0 C46 :=
  Lib.fn lib25 mixed TT_ok Try.func46 (by decide +kernel) (by kernel_rfl) true noL (loops_of 0 (by kernel_rfl) below0) ks46 (F := fun us => F_terrain_validCell (toI (cIa (aggL (cIa us 0)) 0)) (toI (cIa (aggL (cIa us 0)) 1)) (toI (cIa (aggL (cIa us 0)) 2))) (fun us => rfl) (fun us => run46 (toI (cIa (aggL (cIa us 0)) 0)) (toI (cIa (aggL (cIa us 0)) 1)) (toI (cIa (aggL (cIa us 0)) 2))) (fun t => rfl)

/-! ### 45: skirmish/terrain.Valid$1 -/



/-- 'skirmish/terrain.Valid$1' -/
noncomputable def F_terrain_Valid_1 (c_Kind : Int) (c_Height : Int) (c_Amount : Int) : Option (Bool) :=
  Option.bind (F_terrain_validCell c_Kind c_Height c_Amount) fun t =>
  some (!t)
noncomputable def enc45 (t : Bool) : CR := ⟨true, (.sc (.bool t)), [], []⟩
noncomputable def ks45 : List SK := [.agg [.int .i64, .int .i64, .int .i64]]
noncomputable def S45 (us : List AVal) : Call := bif chkA ks45 us then Call.of (F_terrain_Valid_1 (toI (cIa (aggL (cIa us 0)) 0)) (toI (cIa (aggL (cIa us 0)) 1)) (toI (cIa (aggL (cIa us 0)) 2))) enc45 else Call.none
noncomputable def C45 := AI.ext 45 S45 C46

theorem run45 (c_Kind : Int) (c_Height : Int) (c_Amount : Int) : fcall TT TU GL0 C46 ownF true noL Try.f45 [(.agg [(.sc (.int .i64 c_Kind)), (.sc (.int .i64 c_Height)), (.sc (.int .i64 c_Amount))])] = (F_terrain_Valid_1 c_Kind c_Height c_Amount).bind fun t => some (enc45 t) :=
  Eq.trans (b := (Option.bind (F_terrain_validCell c_Kind c_Height c_Amount) fun t => (some (CR.mk true (bo (!t)) [] [])))) (by kernel_rfl)
    (n_bind fun t => rfl)
theorem lib45 : Lib Try.prog GL0 C45 :=
  Lib.fn lib46 mixed TT_ok Try.func45 (by decide +kernel) (by kernel_rfl) true noL (loops_of 0 (by kernel_rfl) below0) ks45 (F := fun us => F_terrain_Valid_1 (toI (cIa (aggL (cIa us 0)) 0)) (toI (cIa (aggL (cIa us 0)) 1)) (toI (cIa (aggL (cIa us 0)) 2))) (fun us => rfl) (fun us => run45 (toI (cIa (aggL (cIa us 0)) 0)) (toI (cIa (aggL (cIa us 0)) 1)) (toI (cIa (aggL (cIa us 0)) 2))) (fun t => rfl)

/-! ### 58: skirmish/grid.Valid -/



/-- 'skirmish/grid.Valid' -/
noncomputable def F_grid_Valid (w : Int) (h : Int) : Option (Bool) :=
  bif (decide (w ≥ (1 : Int))) then
    bif (decide (w ≤ (32 : Int))) then
      bif (decide (h ≥ (1 : Int))) then
        some (decide (h ≤ (32 : Int)))
      else
      some false
    else
    some false
  else
  some false
noncomputable def enc58 (t : Bool) : CR := ⟨true, (.sc (.bool t)), [], []⟩
noncomputable def ks58 : List SK := [.f (.int .i64), .f (.int .i64)]
noncomputable def S58 (us : List AVal) : Call := bif chkA ks58 us then Call.of (F_grid_Valid (toI (cIa us 0)) (toI (cIa us 1))) enc58 else Call.none
noncomputable def C58 := AI.ext 58 S58 C45

theorem run58 (w : Int) (h : Int) : fcall TT TU GL0 C45 ownF true noL Try.f58 [(.sc (.int .i64 w)), (.sc (.int .i64 h))] = (F_grid_Valid w h).bind fun t => some (enc58 t) :=
  Eq.trans (b := (bif (decide (w ≥ (1 : Int))) then (bif (decide (w ≤ (32 : Int))) then (bif (decide (h ≥ (1 : Int))) then (some (CR.mk true (bo (decide (h ≤ (32 : Int)))) [] [])) else (some (CR.mk true (bo false) [] []))) else (some (CR.mk true (bo false) [] []))) else (some (CR.mk true (bo false) [] [])))) (by kernel_rfl)
    (n_condH rfl (fun h0 => (n_condH rfl (fun h1 => (n_condH rfl (fun h2 => rfl) fun h2 => rfl)) fun h1 => rfl)) fun h0 => rfl)
theorem lib58 : Lib Try.prog GL0 C58 :=
  Lib.fn lib45 mixed TT_ok Try.func58 (by decide +kernel) (by kernel_rfl) true noL (loops_of 0 (by kernel_rfl) below0) ks58 (F := fun us => F_grid_Valid (toI (cIa us 0)) (toI (cIa us 1))) (fun us => rfl) (fun us => run58 (toI (cIa us 0)) (toI (cIa us 1))) (fun t => rfl)

/-! ### 43: skirmish/terrain.formed -/



/-- 'skirmish/terrain.formed' -/
noncomputable def F_terrain_formed (m_W : Int) (m_H : Int) (m_Cells : List (List AVal)) : Option (Bool) :=
  Option.bind (F_grid_Valid m_W m_H) fun t =>
  bif t then
    some ((Int.ofNat m_Cells.length) == (wr (m_W * m_H)))
  else
  some false
noncomputable def enc43 (t : Bool) : CR := ⟨true, (.sc (.bool t)), [], []⟩
noncomputable def ks43 : List SK := [.agg [.int .i64, .int .i64, .ro 3]]
noncomputable def S43 (us : List AVal) : Call := bif chkA ks43 us then Call.of (F_terrain_formed (toI (cIa (aggL (cIa us 0)) 0)) (toI (cIa (aggL (cIa us 0)) 1)) (roRows (cIa (aggL (cIa us 0)) 2))) enc43 else Call.none
noncomputable def C43 := AI.ext 43 S43 C58

theorem run43 (m_W : Int) (m_H : Int) (m_Cells : List (List AVal)) : fcall TT TU GL0 C58 ownF true noL Try.f43 [(.agg [(.sc (.int .i64 m_W)), (.sc (.int .i64 m_H)), (.ro 3 m_Cells)])] = (F_terrain_formed m_W m_H m_Cells).bind fun t => some (enc43 t) :=
  Eq.trans (b := (Option.bind (F_grid_Valid m_W m_H) fun t => (bif t then (some (CR.mk true (bo ((Int.ofNat m_Cells.length) == (wr (m_W * m_H)))) [] [])) else (some (CR.mk true (bo false) [] []))))) (by kernel_rfl)
    (n_bind fun t => (n_condH rfl (fun h0 => rfl) fun h0 => rfl))
theorem lib43 : Lib Try.prog GL0 C43 :=
  Lib.fn lib58 mixed TT_ok Try.func43 (by decide +kernel) (by kernel_rfl) true noL (loops_of 0 (by kernel_rfl) below0) ks43 (F := fun us => F_terrain_formed (toI (cIa (aggL (cIa us 0)) 0)) (toI (cIa (aggL (cIa us 0)) 1)) (roRows (cIa (aggL (cIa us 0)) 2))) (fun us => rfl) (fun us => run43 (toI (cIa (aggL (cIa us 0)) 0)) (toI (cIa (aggL (cIa us 0)) 1)) (roRows (cIa (aggL (cIa us 0)) 2))) (fun t => rfl)

/-! ### 59: slices.IndexFunc[[]skirmish/api.Cell,skirmish/api.Cell] -/

noncomputable def W59_0 : Ex → List Bool
  | .ret => [false, false, false, false, true, false, false, false, false, false, false, false, false, false, false, false, false, false, false]
  | .exit n => bif Nat.beq n 0 then [false, false, false, false, false, false, false, false, false, false, false, false, false, false, false, false, false, false, false] else []
  | .normal => []
noncomputable def G_slices_IndexFunc_Cell_0 (s1 : List (List AVal)) (x7 : Int) : Nat → Int → Option (Bool × Int)
  | 0, _ => none
  | m + 1, x8 =>
    bif (decide (x8 < x7)) then
      bif (decide ((0 : Int) ≤ x8)) then
        Option.bind (s1[x8.toNat]?) fun r =>
        bif (chk [(LT.int IntKind.i64), (LT.int IntKind.i64), (LT.int IntKind.i64)] r) then
          Option.bind (F_terrain_Valid_1 (cI r 0) (cI r 1) (cI r 2)) fun t =>
          bif t then
            some (true, x8)
          else
          G_slices_IndexFunc_Cell_0 s1 x7 m (wr (x8 + (1 : Int)))
        else
        none
      else
      none
    else
    some (false, 0)
noncomputable def E59_0 (s1 : List (List AVal)) (x7 : Int) (x8 : Int) : St := ⟨[(.ro 3 s1), (.clo 45 []), .dead, .dead, .dead, .dead, .dead, (.sc (.int .i64 x7)), (.sc (.int .i64 x8)), .dead, .dead, .dead, .dead, .dead, .dead, .dead, .dead, .dead, .dead], []⟩
noncomputable def X59_0 (k : Ex → St → Option CR) (t : Bool × Int) : Option CR := bif t.1 then k .ret ⟨[.dead, .dead, .dead, .dead, (.sc (.int .i64 t.2)), .dead, .dead, .dead, .dead, .dead, .dead, .dead, .dead, .dead, .dead, .dead, .dead, .dead, .dead], []⟩ else k (.exit 0) ⟨[.dead, .dead, .dead, .dead, .dead, .dead, .dead, .dead, .dead, .dead, .dead, .dead, .dead, .dead, .dead, .dead, .dead, .dead, .dead], []⟩
noncomputable def ks59_0 : List SK := [.f (.ro 3), .f (.clo 45 []), .f .dead, .f .dead, .f .dead, .f .dead, .f .dead, .f (.int .i64), .f (.int .i64), .f .dead, .f .dead, .f .dead, .f .dead, .f .dead, .f .dead, .f .dead, .f .dead, .f .dead, .f .dead]
noncomputable def hs59_0 : List HK := []
noncomputable def Lm59_0 (s : St) (k : Ex → St → Option CR) : Option CR := bif chkS ks59_0 hs59_0 s then (G_slices_IndexFunc_Cell_0 (roRows (cIa s.tmps 0)) (toI (cIa s.tmps 7)) FU (toI (cIa s.tmps 8))).bind (X59_0 k) else none
noncomputable def L59_0 (s : St) (k : Ex → St → Option CR) : Option CR := Lm59_0 (maskS (maskOf ks59_0) s) k

noncomputable def L59 : LT' := fun i s k => bif Nat.beq i 0 then L59_0 s k else none

/-- 'slices.IndexFunc[[]skirmish/api.Cell,skirmish/api.Cell]' -/
noncomputable def F_slices_IndexFunc_Cell (s1 : List (List AVal)) : Option (Int) :=
  Option.bind (G_slices_IndexFunc_Cell_0 s1 (Int.ofNat s1.length) FU (0 : Int)) fun t =>
  bif t.1 then
    some t.2
  else
  some (-(1 : Int))
noncomputable def enc59 (t : Int) : CR := ⟨true, (.sc (.int .i64 t)), [], []⟩
noncomputable def ks59 : List SK := [.f (.ro 3), .f (.clo 45 [])]
noncomputable def S59 (us : List AVal) : Call := bif chkA ks59 us then Call.of (F_slices_IndexFunc_Cell (roRows (cIa us 0))) enc59 else Call.none
noncomputable def C59 := AI.ext 59 S59 C43

@[reducible] noncomputable def B59_0 := bodyOf TT TU GL0 C43 ownF L59 (lp Try.f59 0)
@[reducible] noncomputable def K59_0 (k : Ex → St → Option CR) : Ex → St → Option CR := fun e s => k e (maskS (W59_0 e) s)
theorem spec59_0 (k : Ex → St → Option CR) : ∀ (m : Nat) (s1 : List (List AVal)) (x7 : Int) (x8 : Int), loopN B59_0 m (E59_0 s1 x7 x8) (K59_0 k) = (G_slices_IndexFunc_Cell_0 s1 x7 m x8).bind (X59_0 k)
  | 0, _, _, _ => rfl
  | m + 1, s1, x7, x8 =>
    Eq.trans (b := (bif (decide (x8 < x7)) then (bif (decide ((0 : Int) ≤ x8)) then (Option.bind (s1[x8.toNat]?) fun r => (bif (chk [(LT.int IntKind.i64), (LT.int IntKind.i64), (LT.int IntKind.i64)] r) then (Option.bind (F_terrain_Valid_1 (cI r 0) (cI r 1) (cI r 2)) fun t => (bif t then (k .ret ⟨[.dead, .dead, .dead, .dead, (i64 x8), .dead, .dead, .dead, .dead, .dead, .dead, .dead, .dead, .dead, .dead, .dead, .dead, .dead, .dead], []⟩) else (loopN B59_0 m ⟨[(AVal.ro 3 s1), (AVal.clo 45 []), .dead, .dead, .dead, .dead, .dead, (i64 x7), (i64 (wr (x8 + (1 : Int)))), .dead, .dead, .dead, .dead, .dead, .dead, .dead, .dead, .dead, .dead], []⟩ (K59_0 k)))) else none)) else none) else (k (.exit 0) ⟨[.dead, .dead, .dead, .dead, .dead, .dead, .dead, .dead, .dead, .dead, .dead, .dead, .dead, .dead, .dead, .dead, .dead, .dead, .dead], []⟩))) (by kernel_rfl)
      (n_condH rfl (fun h0 => (n_condH rfl (fun h1 => (n_bind fun r => (n_condH rfl (fun h2 => (n_bind fun t => (n_condH rfl (fun h3 => rfl) fun h3 => (spec59_0 k m s1 x7 (wr (x8 + (1 : Int))))))) fun h2 => n_none))) fun h1 => n_none)) fun h0 => rfl)
theorem okL59_0 : LoopOk TT TU GL0 C43 ownF L59 (lp Try.f59 0) :=
  loopOk_of ks59_0 hs59_0 W59_0 FU (fun s k => (G_slices_IndexFunc_Cell_0 (roRows (cIa s.tmps 0)) (toI (cIa s.tmps 7)) FU (toI (cIa s.tmps 8))).bind (X59_0 k)) (fun s k => by kernel_rfl) (fun s k => spec59_0 k FU (roRows (cIa s.tmps 0)) (toI (cIa s.tmps 7)) (toI (cIa s.tmps 8)))
theorem run59 (s1 : List (List AVal)) : fcall TT TU GL0 C43 ownF true L59 Try.f59 [(.ro 3 s1), (.clo 45 [])] = (F_slices_IndexFunc_Cell s1).bind fun t => some (enc59 t) :=
  Eq.trans (b := (Option.bind (G_slices_IndexFunc_Cell_0 s1 (Int.ofNat s1.length) FU (0 : Int)) fun t => (bif t.1 then (some (CR.mk true (i64 t.2) [] [])) else (some (CR.mk true (i64 (-(1 : Int))) [] []))))) (by kernel_rfl)
    (n_bind fun t => (n_condH rfl (fun h0 => rfl) fun h0 => rfl))
theorem lib59 : Lib Try.prog GL0 C59 :=
  Lib.fn lib43 mixed TT_ok Try.func59 (by decide +kernel) (by kernel_rfl) true L59 (loops_of 1 (by kernel_rfl) (belowS below0 okL59_0)) ks59 (F := fun us => F_slices_IndexFunc_Cell (roRows (cIa us 0))) (fun us => rfl) (fun us => run59 (roRows (cIa us 0))) (fun t => rfl)

/-! ### 44: slices.ContainsFunc[[]skirmish/api.Cell,skirmish/api.Cell] -/



/-- 'slices.ContainsFunc[[]skirmish/api.Cell,skirmish/api.Cell]' -/
noncomputable def F_slices_ContainsFunc_Cell (s1 : List (List AVal)) : Option (Bool) :=
  Option.bind (F_slices_IndexFunc_Cell s1) fun t =>
  some (decide (t ≥ (0 : Int)))
noncomputable def enc44 (t : Bool) : CR := ⟨true, (.sc (.bool t)), [], []⟩
noncomputable def ks44 : List SK := [.f (.ro 3), .f (.clo 45 [])]
noncomputable def S44 (us : List AVal) : Call := bif chkA ks44 us then Call.of (F_slices_ContainsFunc_Cell (roRows (cIa us 0))) enc44 else Call.none
noncomputable def C44 := AI.ext 44 S44 C59

theorem run44 (s1 : List (List AVal)) : fcall TT TU GL0 C59 ownF true noL Try.f44 [(.ro 3 s1), (.clo 45 [])] = (F_slices_ContainsFunc_Cell s1).bind fun t => some (enc44 t) :=
  Eq.trans (b := (Option.bind (F_slices_IndexFunc_Cell s1) fun t => (some (CR.mk true (bo (decide (t ≥ (0 : Int)))) [] [])))) (by kernel_rfl)
    (n_bind fun t => rfl)
theorem lib44 : Lib Try.prog GL0 C44 :=
  Lib.fn lib59 mixed TT_ok Try.func44 (by decide +kernel) (by kernel_rfl) true noL (loops_of 0 (by kernel_rfl) below0) ks44 (F := fun us => F_slices_ContainsFunc_Cell (roRows (cIa us 0))) (fun us => rfl) (fun us => run44 (roRows (cIa us 0))) (fun t => rfl)

/-! ### 26: skirmish/terrain.Valid -/



/-- 'skirmish/terrain.Valid' -/
noncomputable def F_terrain_Valid (m_W : Int) (m_H : Int) (m_Cells : List (List AVal)) : Option (Bool) :=
  Option.bind (F_terrain_formed m_W m_H m_Cells) fun t =>
  bif t then
    Option.bind (F_slices_ContainsFunc_Cell m_Cells) fun t1 =>
    some (!t1)
  else
  some false
noncomputable def enc26 (t : Bool) : CR := ⟨true, (.sc (.bool t)), [], []⟩
noncomputable def ks26 : List SK := [.agg [.int .i64, .int .i64, .ro 3]]
noncomputable def S26 (us : List AVal) : Call := bif chkA ks26 us then Call.of (F_terrain_Valid (toI (cIa (aggL (cIa us 0)) 0)) (toI (cIa (aggL (cIa us 0)) 1)) (roRows (cIa (aggL (cIa us 0)) 2))) enc26 else Call.none
noncomputable def C26 := AI.ext 26 S26 C44

theorem run26 (m_W : Int) (m_H : Int) (m_Cells : List (List AVal)) : fcall TT TU GL0 C44 ownF true noL Try.f26 [(.agg [(.sc (.int .i64 m_W)), (.sc (.int .i64 m_H)), (.ro 3 m_Cells)])] = (F_terrain_Valid m_W m_H m_Cells).bind fun t => some (enc26 t) :=
  Eq.trans (b := (Option.bind (F_terrain_formed m_W m_H m_Cells) fun t => (bif t then (Option.bind (F_slices_ContainsFunc_Cell m_Cells) fun t1 => (some (CR.mk true (bo (!t1)) [] []))) else (some (CR.mk true (bo false) [] []))))) (by kernel_rfl)
    (n_bind fun t => (n_condH rfl (fun h0 => (n_bind fun t1 => rfl)) fun h0 => rfl))
theorem lib26 : Lib Try.prog GL0 C26 :=
  Lib.fn lib44 mixed TT_ok Try.func26 (by decide +kernel) (by kernel_rfl) true noL (loops_of 0 (by kernel_rfl) below0) ks26 (F := fun us => F_terrain_Valid (toI (cIa (aggL (cIa us 0)) 0)) (toI (cIa (aggL (cIa us 0)) 1)) (roRows (cIa (aggL (cIa us 0)) 2))) (fun us => rfl) (fun us => run26 (toI (cIa (aggL (cIa us 0)) 0)) (toI (cIa (aggL (cIa us 0)) 1)) (roRows (cIa (aggL (cIa us 0)) 2))) (fun t => rfl)

/-! ### 47: skirmish/grid.In -/



/-- 'skirmish/grid.In' -/
noncomputable def F_grid_In (w : Int) (h : Int) (p_X : Int) (p_Y : Int) : Option (Bool) :=
  bif (decide (p_X ≥ (0 : Int))) then
    bif (decide (p_X < w)) then
      bif (decide (p_Y ≥ (0 : Int))) then
        some (decide (p_Y < h))
      else
      some false
    else
    some false
  else
  some false
noncomputable def enc47 (t : Bool) : CR := ⟨true, (.sc (.bool t)), [], []⟩
noncomputable def ks47 : List SK := [.f (.int .i64), .f (.int .i64), .agg [.int .i64, .int .i64]]
noncomputable def S47 (us : List AVal) : Call := bif chkA ks47 us then Call.of (F_grid_In (toI (cIa us 0)) (toI (cIa us 1)) (toI (cIa (aggL (cIa us 2)) 0)) (toI (cIa (aggL (cIa us 2)) 1))) enc47 else Call.none
noncomputable def C47 := AI.ext 47 S47 C26

theorem run47 (w : Int) (h : Int) (p_X : Int) (p_Y : Int) : fcall TT TU GL0 C26 ownF true noL Try.f47 [(.sc (.int .i64 w)), (.sc (.int .i64 h)), (.agg [(.sc (.int .i64 p_X)), (.sc (.int .i64 p_Y))])] = (F_grid_In w h p_X p_Y).bind fun t => some (enc47 t) :=
  Eq.trans (b := (bif (decide (p_X ≥ (0 : Int))) then (bif (decide (p_X < w)) then (bif (decide (p_Y ≥ (0 : Int))) then (some (CR.mk true (bo (decide (p_Y < h))) [] [])) else (some (CR.mk true (bo false) [] []))) else (some (CR.mk true (bo false) [] []))) else (some (CR.mk true (bo false) [] [])))) (by kernel_rfl)
    (n_condH rfl (fun h0 => (n_condH rfl (fun h1 => (n_condH rfl (fun h2 => rfl) fun h2 => rfl)) fun h1 => rfl)) fun h0 => rfl)
theorem lib47 : Lib Try.prog GL0 C47 :=
  Lib.fn lib26 mixed TT_ok Try.func47 (by decide +kernel) (by kernel_rfl) true noL (loops_of 0 (by kernel_rfl) below0) ks47 (F := fun us => F_grid_In (toI (cIa us 0)) (toI (cIa us 1)) (toI (cIa (aggL (cIa us 2)) 0)) (toI (cIa (aggL (cIa us 2)) 1))) (fun us => rfl) (fun us => run47 (toI (cIa us 0)) (toI (cIa us 1)) (toI (cIa (aggL (cIa us 2)) 0)) (toI (cIa (aggL (cIa us 2)) 1))) (fun t => rfl)

/-! ### 27: skirmish/shadow.inside -/



/-- 'skirmish/shadow.inside' -/
noncomputable def F_shadow_inside (m_W : Int) (m_H : Int) (m_Cells : List (List AVal)) (p_X : Int) (p_Y : Int) : Option (Bool) :=
  Option.bind (F_grid_In m_W m_H p_X p_Y) fun t =>
  some t
noncomputable def enc27 (t : Bool) : CR := ⟨true, (.sc (.bool t)), [], []⟩
noncomputable def ks27 : List SK := [.agg [.int .i64, .int .i64, .ro 3], .agg [.int .i64, .int .i64]]
noncomputable def S27 (us : List AVal) : Call := bif chkA ks27 us then Call.of (F_shadow_inside (toI (cIa (aggL (cIa us 0)) 0)) (toI (cIa (aggL (cIa us 0)) 1)) (roRows (cIa (aggL (cIa us 0)) 2)) (toI (cIa (aggL (cIa us 1)) 0)) (toI (cIa (aggL (cIa us 1)) 1))) enc27 else Call.none
noncomputable def C27 := AI.ext 27 S27 C47

theorem run27 (m_W : Int) (m_H : Int) (m_Cells : List (List AVal)) (p_X : Int) (p_Y : Int) : fcall TT TU GL0 C47 ownF true noL Try.f27 [(.agg [(.sc (.int .i64 m_W)), (.sc (.int .i64 m_H)), (.ro 3 m_Cells)]), (.agg [(.sc (.int .i64 p_X)), (.sc (.int .i64 p_Y))])] = (F_shadow_inside m_W m_H m_Cells p_X p_Y).bind fun t => some (enc27 t) :=
  Eq.trans (b := (Option.bind (F_grid_In m_W m_H p_X p_Y) fun t => (some (CR.mk true (bo t) [] [])))) (by kernel_rfl)
    (n_bind fun t => rfl)
theorem lib27 : Lib Try.prog GL0 C27 :=
  Lib.fn lib47 mixed TT_ok Try.func27 (by decide +kernel) (by kernel_rfl) true noL (loops_of 0 (by kernel_rfl) below0) ks27 (F := fun us => F_shadow_inside (toI (cIa (aggL (cIa us 0)) 0)) (toI (cIa (aggL (cIa us 0)) 1)) (roRows (cIa (aggL (cIa us 0)) 2)) (toI (cIa (aggL (cIa us 1)) 0)) (toI (cIa (aggL (cIa us 1)) 1))) (fun us => rfl) (fun us => run27 (toI (cIa (aggL (cIa us 0)) 0)) (toI (cIa (aggL (cIa us 0)) 1)) (roRows (cIa (aggL (cIa us 0)) 2)) (toI (cIa (aggL (cIa us 1)) 0)) (toI (cIa (aggL (cIa us 1)) 1))) (fun t => rfl)

/-! ### 54: skirmish/shadow.octant$1 -/



/-- 'skirmish/shadow.octant$1' -/
noncomputable def F_shadow_octant_1 (i : Int) (j : Int) (a2 : Int) (a3_X : Int) (a3_Y : Int) : Option (Int × Int) :=
  bif ((wr (Int.ofNat (BitVec.toNat (HAnd.hAnd (BitVec.ofInt 64 a2) (BitVec.ofInt 64 (1 : Int)))))) != (0 : Int)) then
    bif ((wr (Int.ofNat (BitVec.toNat (HAnd.hAnd (BitVec.ofInt 64 a2) (BitVec.ofInt 64 (2 : Int)))))) != (0 : Int)) then
      bif ((wr (Int.ofNat (BitVec.toNat (HAnd.hAnd (BitVec.ofInt 64 a2) (BitVec.ofInt 64 (4 : Int)))))) != (0 : Int)) then
        some ((wr (a3_X + (wr ((0 : Int) - j)))), (wr (a3_Y + (wr ((0 : Int) - i)))))
      else
      some ((wr (a3_X + (wr ((0 : Int) - j)))), (wr (a3_Y + i)))
    else
    bif ((wr (Int.ofNat (BitVec.toNat (HAnd.hAnd (BitVec.ofInt 64 a2) (BitVec.ofInt 64 (4 : Int)))))) != (0 : Int)) then
      some ((wr (a3_X + j)), (wr (a3_Y + (wr ((0 : Int) - i)))))
    else
    some ((wr (a3_X + j)), (wr (a3_Y + i)))
  else
  bif ((wr (Int.ofNat (BitVec.toNat (HAnd.hAnd (BitVec.ofInt 64 a2) (BitVec.ofInt 64 (2 : Int)))))) != (0 : Int)) then
    bif ((wr (Int.ofNat (BitVec.toNat (HAnd.hAnd (BitVec.ofInt 64 a2) (BitVec.ofInt 64 (4 : Int)))))) != (0 : Int)) then
      some ((wr (a3_X + (wr ((0 : Int) - i)))), (wr (a3_Y + (wr ((0 : Int) - j)))))
    else
    some ((wr (a3_X + (wr ((0 : Int) - i)))), (wr (a3_Y + j)))
  else
  bif ((wr (Int.ofNat (BitVec.toNat (HAnd.hAnd (BitVec.ofInt 64 a2) (BitVec.ofInt 64 (4 : Int)))))) != (0 : Int)) then
    some ((wr (a3_X + i)), (wr (a3_Y + (wr ((0 : Int) - j)))))
  else
  some ((wr (a3_X + i)), (wr (a3_Y + j)))
noncomputable def enc54 (t : Int × Int) : CR := ⟨true, (.agg [(.sc (.int .i64 t.1)), (.sc (.int .i64 t.2))]), [], []⟩
noncomputable def ks54 : List SK := [.f (.int .i64), .f (.int .i64), .rptr [.int .i64], .rptr [.int .i64, .int .i64]]
noncomputable def S54 (us : List AVal) : Call := bif chkA ks54 us then Call.of (F_shadow_octant_1 (toI (cIa us 0)) (toI (cIa us 1)) (toI (cIa (rptrL (cIa us 2)) 0)) (toI (cIa (rptrL (cIa us 3)) 0)) (toI (cIa (rptrL (cIa us 3)) 1))) enc54 else Call.none
noncomputable def C54 := AI.ext 54 S54 C27

theorem run54 (i : Int) (j : Int) (a2 : Int) (a3_X : Int) (a3_Y : Int) : fcall TT TU GL0 C27 ownF true noL Try.f54 [(.sc (.int .i64 i)), (.sc (.int .i64 j)), (.rptr [(.sc (.int .i64 a2))]), (.rptr [(.sc (.int .i64 a3_X)), (.sc (.int .i64 a3_Y))])] = (F_shadow_octant_1 i j a2 a3_X a3_Y).bind fun t => some (enc54 t) :=
  Eq.trans (b := (bif ((wr (Int.ofNat (BitVec.toNat (HAnd.hAnd (BitVec.ofInt 64 a2) (BitVec.ofInt 64 (1 : Int)))))) != (0 : Int)) then (bif ((wr (Int.ofNat (BitVec.toNat (HAnd.hAnd (BitVec.ofInt 64 a2) (BitVec.ofInt 64 (2 : Int)))))) != (0 : Int)) then (bif ((wr (Int.ofNat (BitVec.toNat (HAnd.hAnd (BitVec.ofInt 64 a2) (BitVec.ofInt 64 (4 : Int)))))) != (0 : Int)) then (some (CR.mk true (AVal.agg [(i64 (wr (a3_X + (wr ((0 : Int) - j))))), (i64 (wr (a3_Y + (wr ((0 : Int) - i)))))]) [] [])) else (some (CR.mk true (AVal.agg [(i64 (wr (a3_X + (wr ((0 : Int) - j))))), (i64 (wr (a3_Y + i)))]) [] []))) else (bif ((wr (Int.ofNat (BitVec.toNat (HAnd.hAnd (BitVec.ofInt 64 a2) (BitVec.ofInt 64 (4 : Int)))))) != (0 : Int)) then (some (CR.mk true (AVal.agg [(i64 (wr (a3_X + j))), (i64 (wr (a3_Y + (wr ((0 : Int) - i)))))]) [] [])) else (some (CR.mk true (AVal.agg [(i64 (wr (a3_X + j))), (i64 (wr (a3_Y + i)))]) [] [])))) else (bif ((wr (Int.ofNat (BitVec.toNat (HAnd.hAnd (BitVec.ofInt 64 a2) (BitVec.ofInt 64 (2 : Int)))))) != (0 : Int)) then (bif ((wr (Int.ofNat (BitVec.toNat (HAnd.hAnd (BitVec.ofInt 64 a2) (BitVec.ofInt 64 (4 : Int)))))) != (0 : Int)) then (some (CR.mk true (AVal.agg [(i64 (wr (a3_X + (wr ((0 : Int) - i))))), (i64 (wr (a3_Y + (wr ((0 : Int) - j)))))]) [] [])) else (some (CR.mk true (AVal.agg [(i64 (wr (a3_X + (wr ((0 : Int) - i))))), (i64 (wr (a3_Y + j)))]) [] []))) else (bif ((wr (Int.ofNat (BitVec.toNat (HAnd.hAnd (BitVec.ofInt 64 a2) (BitVec.ofInt 64 (4 : Int)))))) != (0 : Int)) then (some (CR.mk true (AVal.agg [(i64 (wr (a3_X + i))), (i64 (wr (a3_Y + (wr ((0 : Int) - j)))))]) [] [])) else (some (CR.mk true (AVal.agg [(i64 (wr (a3_X + i))), (i64 (wr (a3_Y + j)))]) [] [])))))) (by kernel_rfl)
    (n_condH rfl (fun h0 => (n_condH rfl (fun h1 => (n_condH rfl (fun h2 => rfl) fun h2 => rfl)) fun h1 => (n_condH rfl (fun h2 => rfl) fun h2 => rfl))) fun h0 => (n_condH rfl (fun h1 => (n_condH rfl (fun h2 => rfl) fun h2 => rfl)) fun h1 => (n_condH rfl (fun h2 => rfl) fun h2 => rfl)))
theorem lib54 : Lib Try.prog GL0 C54 :=
  Lib.fn lib27 mixed TT_ok Try.func54 (by decide +kernel) (by kernel_rfl) true noL (loops_of 0 (by kernel_rfl) below0) ks54 (F := fun us => F_shadow_octant_1 (toI (cIa us 0)) (toI (cIa us 1)) (toI (cIa (rptrL (cIa us 2)) 0)) (toI (cIa (rptrL (cIa us 3)) 0)) (toI (cIa (rptrL (cIa us 3)) 1))) (fun us => rfl) (fun us => run54 (toI (cIa us 0)) (toI (cIa us 1)) (toI (cIa (rptrL (cIa us 2)) 0)) (toI (cIa (rptrL (cIa us 3)) 0)) (toI (cIa (rptrL (cIa us 3)) 1))) (fun t => rfl)

/-! ### 34: skirmish/shadow.octant -/



/-- 'skirmish/shadow.octant' -/
noncomputable def F_shadow_octant (from__X : Int) (from__Y : Int) (k1 : Int) : Option (Int × Int × Int) :=
  some (k1, from__X, from__Y)
noncomputable def enc34 (t : Int × Int × Int) : CR := ⟨true, (.clo 54 [(.rptr [(.sc (.int .i64 t.1))]), (.rptr [(.sc (.int .i64 t.2.1)), (.sc (.int .i64 t.2.2))])]), [], []⟩
noncomputable def ks34 : List SK := [.agg [.int .i64, .int .i64], .f (.int .i64)]
noncomputable def S34 (us : List AVal) : Call := bif chkA ks34 us then Call.of (F_shadow_octant (toI (cIa (aggL (cIa us 0)) 0)) (toI (cIa (aggL (cIa us 0)) 1)) (toI (cIa us 1))) enc34 else Call.none
noncomputable def C34 := AI.ext 34 S34 C54

theorem run34 (from__X : Int) (from__Y : Int) (k1 : Int) : fcall TT TU GL0 C54 ownRo false noL Try.f34 [(.agg [(.sc (.int .i64 from__X)), (.sc (.int .i64 from__Y))]), (.sc (.int .i64 k1))] = (F_shadow_octant from__X from__Y k1).bind fun t => some (enc34 t) :=
  Eq.trans (b := (some (CR.mk true (AVal.clo 54 [(AVal.rptr [(i64 k1)]), (AVal.rptr [(i64 from__X), (i64 from__Y)])]) [] []))) (by kernel_rfl)
    rfl
theorem lib34 : Lib Try.prog GL0 C34 :=
  Lib.fn lib54 mixed TT_ok Try.func34 (by decide +kernel) (by kernel_rfl) false noL (loops_of 0 (by kernel_rfl) below0) ks34 (F := fun us => F_shadow_octant (toI (cIa (aggL (cIa us 0)) 0)) (toI (cIa (aggL (cIa us 0)) 1)) (toI (cIa us 1))) (fun us => rfl) (fun us => run34 (toI (cIa (aggL (cIa us 0)) 0)) (toI (cIa (aggL (cIa us 0)) 1)) (toI (cIa us 1))) (fun t => rfl)

/-! ### 62: skirmish/num.Clamp -/



/-- 'skirmish/num.Clamp' -/
noncomputable def F_num_Clamp (n : Int) (lo : Int) (hi : Int) : Option (Int) :=
  some (maxI lo (minI n hi))
noncomputable def enc62 (t : Int) : CR := ⟨true, (.sc (.int .i64 t)), [], []⟩
noncomputable def ks62 : List SK := [.f (.int .i64), .f (.int .i64), .f (.int .i64)]
noncomputable def S62 (us : List AVal) : Call := bif chkA ks62 us then Call.of (F_num_Clamp (toI (cIa us 0)) (toI (cIa us 1)) (toI (cIa us 2))) enc62 else Call.none
noncomputable def C62 := AI.ext 62 S62 C34

theorem run62 (n : Int) (lo : Int) (hi : Int) : fcall TT TU GL0 C34 ownF true noL Try.f62 [(.sc (.int .i64 n)), (.sc (.int .i64 lo)), (.sc (.int .i64 hi))] = (F_num_Clamp n lo hi).bind fun t => some (enc62 t) :=
  Eq.trans (b := (some (CR.mk true (i64 (maxI lo (minI n hi))) [] []))) (by kernel_rfl)
    rfl
theorem lib62 : Lib Try.prog GL0 C62 :=
  Lib.fn lib34 mixed TT_ok Try.func62 (by decide +kernel) (by kernel_rfl) true noL (loops_of 0 (by kernel_rfl) below0) ks62 (F := fun us => F_num_Clamp (toI (cIa us 0)) (toI (cIa us 1)) (toI (cIa us 2))) (fun us => rfl) (fun us => run62 (toI (cIa us 0)) (toI (cIa us 1)) (toI (cIa us 2))) (fun t => rfl)

/-! ### 56: skirmish/grid.near -/



/-- 'skirmish/grid.near' -/
noncomputable def F_grid_near (n : Int) : Option (Int) :=
  Option.bind (F_num_Clamp n (-(1048576 : Int)) (1048576 : Int)) fun t =>
  some t
noncomputable def enc56 (t : Int) : CR := ⟨true, (.sc (.int .i64 t)), [], []⟩
noncomputable def ks56 : List SK := [.f (.int .i64)]
noncomputable def S56 (us : List AVal) : Call := bif chkA ks56 us then Call.of (F_grid_near (toI (cIa us 0))) enc56 else Call.none
noncomputable def C56 := AI.ext 56 S56 C62

theorem run56 (n : Int) : fcall TT TU GL0 C62 ownF true noL Try.f56 [(.sc (.int .i64 n))] = (F_grid_near n).bind fun t => some (enc56 t) :=
  Eq.trans (b := (Option.bind (F_num_Clamp n (-(1048576 : Int)) (1048576 : Int)) fun t => (some (CR.mk true (i64 t) [] [])))) (by kernel_rfl)
    (n_bind fun t => rfl)
theorem lib56 : Lib Try.prog GL0 C56 :=
  Lib.fn lib62 mixed TT_ok Try.func56 (by decide +kernel) (by kernel_rfl) true noL (loops_of 0 (by kernel_rfl) below0) ks56 (F := fun us => F_grid_near (toI (cIa us 0))) (fun us => rfl) (fun us => run56 (toI (cIa us 0))) (fun t => rfl)

/-! ### 55: skirmish/grid.pos -/



/-- 'skirmish/grid.pos' -/
noncomputable def F_grid_pos (p_X : Int) (p_Y : Int) : Option (Int × Int) :=
  Option.bind (F_grid_near p_X) fun t =>
  Option.bind (F_grid_near p_Y) fun t1 =>
  some (t, t1)
noncomputable def enc55 (t : Int × Int) : CR := ⟨true, (.agg [(.sc (.int .i64 t.1)), (.sc (.int .i64 t.2))]), [], []⟩
noncomputable def ks55 : List SK := [.agg [.int .i64, .int .i64]]
noncomputable def S55 (us : List AVal) : Call := bif chkA ks55 us then Call.of (F_grid_pos (toI (cIa (aggL (cIa us 0)) 0)) (toI (cIa (aggL (cIa us 0)) 1))) enc55 else Call.none
noncomputable def C55 := AI.ext 55 S55 C56

theorem run55 (p_X : Int) (p_Y : Int) : fcall TT TU GL0 C56 ownF true noL Try.f55 [(.agg [(.sc (.int .i64 p_X)), (.sc (.int .i64 p_Y))])] = (F_grid_pos p_X p_Y).bind fun t => some (enc55 t) :=
  Eq.trans (b := (Option.bind (F_grid_near p_X) fun t => (Option.bind (F_grid_near p_Y) fun t1 => (some (CR.mk true (AVal.agg [(i64 t), (i64 t1)]) [] []))))) (by kernel_rfl)
    (n_bind fun t => (n_bind fun t1 => rfl))
theorem lib55 : Lib Try.prog GL0 C55 :=
  Lib.fn lib56 mixed TT_ok Try.func55 (by decide +kernel) (by kernel_rfl) true noL (loops_of 0 (by kernel_rfl) below0) ks55 (F := fun us => F_grid_pos (toI (cIa (aggL (cIa us 0)) 0)) (toI (cIa (aggL (cIa us 0)) 1))) (fun us => rfl) (fun us => run55 (toI (cIa (aggL (cIa us 0)) 0)) (toI (cIa (aggL (cIa us 0)) 1))) (fun t => rfl)

/-! ### 35: skirmish/grid.Index -/



/-- 'skirmish/grid.Index' -/
noncomputable def F_grid_Index (w : Int) (p_X : Int) (p_Y : Int) : Option (Int) :=
  Option.bind (F_grid_pos p_X p_Y) fun t =>
  Option.bind (F_grid_near w) fun t1 =>
  some (wr ((wr (t.2 * t1)) + t.1))
noncomputable def enc35 (t : Int) : CR := ⟨true, (.sc (.int .i64 t)), [], []⟩
noncomputable def ks35 : List SK := [.f (.int .i64), .agg [.int .i64, .int .i64]]
noncomputable def S35 (us : List AVal) : Call := bif chkA ks35 us then Call.of (F_grid_Index (toI (cIa us 0)) (toI (cIa (aggL (cIa us 1)) 0)) (toI (cIa (aggL (cIa us 1)) 1))) enc35 else Call.none
noncomputable def C35 := AI.ext 35 S35 C55

theorem run35 (w : Int) (p_X : Int) (p_Y : Int) : fcall TT TU GL0 C55 ownF true noL Try.f35 [(.sc (.int .i64 w)), (.agg [(.sc (.int .i64 p_X)), (.sc (.int .i64 p_Y))])] = (F_grid_Index w p_X p_Y).bind fun t => some (enc35 t) :=
  Eq.trans (b := (Option.bind (F_grid_pos p_X p_Y) fun t => (Option.bind (F_grid_near w) fun t1 => (some (CR.mk true (i64 (wr ((wr (t.2 * t1)) + t.1))) [] []))))) (by kernel_rfl)
    (n_bind fun t => (n_bind fun t1 => rfl))
theorem lib35 : Lib Try.prog GL0 C35 :=
  Lib.fn lib55 mixed TT_ok Try.func35 (by decide +kernel) (by kernel_rfl) true noL (loops_of 0 (by kernel_rfl) below0) ks35 (F := fun us => F_grid_Index (toI (cIa us 0)) (toI (cIa (aggL (cIa us 1)) 0)) (toI (cIa (aggL (cIa us 1)) 1))) (fun us => rfl) (fun us => run35 (toI (cIa us 0)) (toI (cIa (aggL (cIa us 1)) 0)) (toI (cIa (aggL (cIa us 1)) 1))) (fun t => rfl)

/-! ### 63: skirmish/terrain.inside -/



/-- 'skirmish/terrain.inside' -/
noncomputable def F_terrain_inside (m_W : Int) (m_H : Int) (m_Cells : List (List AVal)) (p_X : Int) (p_Y : Int) : Option (Bool) :=
  Option.bind (F_terrain_formed m_W m_H m_Cells) fun t =>
  bif t then
    Option.bind (F_grid_In m_W m_H p_X p_Y) fun t1 =>
    some t1
  else
  some false
noncomputable def enc63 (t : Bool) : CR := ⟨true, (.sc (.bool t)), [], []⟩
noncomputable def ks63 : List SK := [.agg [.int .i64, .int .i64, .ro 3], .agg [.int .i64, .int .i64]]
noncomputable def S63 (us : List AVal) : Call := bif chkA ks63 us then Call.of (F_terrain_inside (toI (cIa (aggL (cIa us 0)) 0)) (toI (cIa (aggL (cIa us 0)) 1)) (roRows (cIa (aggL (cIa us 0)) 2)) (toI (cIa (aggL (cIa us 1)) 0)) (toI (cIa (aggL (cIa us 1)) 1))) enc63 else Call.none
noncomputable def C63 := AI.ext 63 S63 C35

theorem run63 (m_W : Int) (m_H : Int) (m_Cells : List (List AVal)) (p_X : Int) (p_Y : Int) : fcall TT TU GL0 C35 ownF true noL Try.f63 [(.agg [(.sc (.int .i64 m_W)), (.sc (.int .i64 m_H)), (.ro 3 m_Cells)]), (.agg [(.sc (.int .i64 p_X)), (.sc (.int .i64 p_Y))])] = (F_terrain_inside m_W m_H m_Cells p_X p_Y).bind fun t => some (enc63 t) :=
  Eq.trans (b := (Option.bind (F_terrain_formed m_W m_H m_Cells) fun t => (bif t then (Option.bind (F_grid_In m_W m_H p_X p_Y) fun t1 => (some (CR.mk true (bo t1) [] []))) else (some (CR.mk true (bo false) [] []))))) (by kernel_rfl)
    (n_bind fun t => (n_condH rfl (fun h0 => (n_bind fun t1 => rfl)) fun h0 => rfl))
theorem lib63 : Lib Try.prog GL0 C63 :=
  Lib.fn lib35 mixed TT_ok Try.func63 (by decide +kernel) (by kernel_rfl) true noL (loops_of 0 (by kernel_rfl) below0) ks63 (F := fun us => F_terrain_inside (toI (cIa (aggL (cIa us 0)) 0)) (toI (cIa (aggL (cIa us 0)) 1)) (roRows (cIa (aggL (cIa us 0)) 2)) (toI (cIa (aggL (cIa us 1)) 0)) (toI (cIa (aggL (cIa us 1)) 1))) (fun us => rfl) (fun us => run63 (toI (cIa (aggL (cIa us 0)) 0)) (toI (cIa (aggL (cIa us 0)) 1)) (roRows (cIa (aggL (cIa us 0)) 2)) (toI (cIa (aggL (cIa us 1)) 0)) (toI (cIa (aggL (cIa us 1)) 1))) (fun t => rfl)

/-! ### 60: skirmish/terrain.Get -/



/-- 'skirmish/terrain.Get' -/
noncomputable def F_terrain_Get (m_W : Int) (m_H : Int) (m_Cells : List (List AVal)) (p_X : Int) (p_Y : Int) : Option (Int × Int × Int × Bool) :=
  Option.bind (F_terrain_inside m_W m_H m_Cells p_X p_Y) fun t =>
  bif (!t) then
    some ((0 : Int), (0 : Int), (0 : Int), false)
  else
  Option.bind (F_grid_Index m_W p_X p_Y) fun t1 =>
  bif (decide ((0 : Int) ≤ t1)) then
    Option.bind (m_Cells[t1.toNat]?) fun r =>
    bif (chk [(LT.int IntKind.i64), (LT.int IntKind.i64), (LT.int IntKind.i64)] r) then
      some ((cI r 0), (cI r 1), (cI r 2), true)
    else
    none
  else
  none
noncomputable def enc60 (t : Int × Int × Int × Bool) : CR := ⟨true, (.tup [(.agg [(.sc (.int .i64 t.1)), (.sc (.int .i64 t.2.1)), (.sc (.int .i64 t.2.2.1))]), (.sc (.bool t.2.2.2))]), [], []⟩
noncomputable def ks60 : List SK := [.agg [.int .i64, .int .i64, .ro 3], .agg [.int .i64, .int .i64]]
noncomputable def S60 (us : List AVal) : Call := bif chkA ks60 us then Call.of (F_terrain_Get (toI (cIa (aggL (cIa us 0)) 0)) (toI (cIa (aggL (cIa us 0)) 1)) (roRows (cIa (aggL (cIa us 0)) 2)) (toI (cIa (aggL (cIa us 1)) 0)) (toI (cIa (aggL (cIa us 1)) 1))) enc60 else Call.none
noncomputable def C60 := AI.ext 60 S60 C63

theorem run60 (m_W : Int) (m_H : Int) (m_Cells : List (List AVal)) (p_X : Int) (p_Y : Int) : fcall TT TU GL0 C63 ownF true noL Try.f60 [(.agg [(.sc (.int .i64 m_W)), (.sc (.int .i64 m_H)), (.ro 3 m_Cells)]), (.agg [(.sc (.int .i64 p_X)), (.sc (.int .i64 p_Y))])] = (F_terrain_Get m_W m_H m_Cells p_X p_Y).bind fun t => some (enc60 t) :=
  Eq.trans (b := (Option.bind (F_terrain_inside m_W m_H m_Cells p_X p_Y) fun t => (bif (!t) then (some (CR.mk true (AVal.tup [(AVal.agg [(i64 (0 : Int)), (i64 (0 : Int)), (i64 (0 : Int))]), (bo false)]) [] [])) else (Option.bind (F_grid_Index m_W p_X p_Y) fun t1 => (bif (decide ((0 : Int) ≤ t1)) then (Option.bind (m_Cells[t1.toNat]?) fun r => (bif (chk [(LT.int IntKind.i64), (LT.int IntKind.i64), (LT.int IntKind.i64)] r) then (some (CR.mk true (AVal.tup [(AVal.agg [(i64 (cI r 0)), (i64 (cI r 1)), (i64 (cI r 2))]), (bo true)]) [] [])) else none)) else none))))) (by kernel_rfl)
    (n_bind fun t => (n_condH rfl (fun h0 => rfl) fun h0 => (n_bind fun t1 => (n_condH rfl (fun h1 => (n_bind fun r => (n_condH rfl (fun h2 => rfl) fun h2 => n_none))) fun h1 => n_none))))
theorem lib60 : Lib Try.prog GL0 C60 :=
  Lib.fn lib63 mixed TT_ok Try.func60 (by decide +kernel) (by kernel_rfl) true noL (loops_of 0 (by kernel_rfl) below0) ks60 (F := fun us => F_terrain_Get (toI (cIa (aggL (cIa us 0)) 0)) (toI (cIa (aggL (cIa us 0)) 1)) (roRows (cIa (aggL (cIa us 0)) 2)) (toI (cIa (aggL (cIa us 1)) 0)) (toI (cIa (aggL (cIa us 1)) 1))) (fun us => rfl) (fun us => run60 (toI (cIa (aggL (cIa us 0)) 0)) (toI (cIa (aggL (cIa us 0)) 1)) (roRows (cIa (aggL (cIa us 0)) 2)) (toI (cIa (aggL (cIa us 1)) 0)) (toI (cIa (aggL (cIa us 1)) 1))) (fun t => rfl)

/-! ### 49: skirmish/terrain.Opaque -/



/-- 'skirmish/terrain.Opaque' -/
noncomputable def F_terrain_Opaque (m_W : Int) (m_H : Int) (m_Cells : List (List AVal)) (p_X : Int) (p_Y : Int) : Option (Bool) :=
  Option.bind (F_terrain_Get m_W m_H m_Cells p_X p_Y) fun t =>
  bif (!t.2.2.2) then
    some true
  else
  bif (t.1 == (3 : Int)) then
    some true
  else
  some (t.1 == (4 : Int))
noncomputable def enc49 (t : Bool) : CR := ⟨true, (.sc (.bool t)), [], []⟩
noncomputable def ks49 : List SK := [.agg [.int .i64, .int .i64, .ro 3], .agg [.int .i64, .int .i64]]
noncomputable def S49 (us : List AVal) : Call := bif chkA ks49 us then Call.of (F_terrain_Opaque (toI (cIa (aggL (cIa us 0)) 0)) (toI (cIa (aggL (cIa us 0)) 1)) (roRows (cIa (aggL (cIa us 0)) 2)) (toI (cIa (aggL (cIa us 1)) 0)) (toI (cIa (aggL (cIa us 1)) 1))) enc49 else Call.none
noncomputable def C49 := AI.ext 49 S49 C60

theorem run49 (m_W : Int) (m_H : Int) (m_Cells : List (List AVal)) (p_X : Int) (p_Y : Int) : fcall TT TU GL0 C60 ownF true noL Try.f49 [(.agg [(.sc (.int .i64 m_W)), (.sc (.int .i64 m_H)), (.ro 3 m_Cells)]), (.agg [(.sc (.int .i64 p_X)), (.sc (.int .i64 p_Y))])] = (F_terrain_Opaque m_W m_H m_Cells p_X p_Y).bind fun t => some (enc49 t) :=
  Eq.trans (b := (Option.bind (F_terrain_Get m_W m_H m_Cells p_X p_Y) fun t => (bif (!t.2.2.2) then (some (CR.mk true (bo true) [] [])) else (bif (t.1 == (3 : Int)) then (some (CR.mk true (bo true) [] [])) else (some (CR.mk true (bo (t.1 == (4 : Int))) [] [])))))) (by kernel_rfl)
    (n_bind fun t => (n_condH rfl (fun h0 => rfl) fun h0 => (n_condH rfl (fun h1 => rfl) fun h1 => rfl)))
theorem lib49 : Lib Try.prog GL0 C49 :=
  Lib.fn lib60 mixed TT_ok Try.func49 (by decide +kernel) (by kernel_rfl) true noL (loops_of 0 (by kernel_rfl) below0) ks49 (F := fun us => F_terrain_Opaque (toI (cIa (aggL (cIa us 0)) 0)) (toI (cIa (aggL (cIa us 0)) 1)) (roRows (cIa (aggL (cIa us 0)) 2)) (toI (cIa (aggL (cIa us 1)) 0)) (toI (cIa (aggL (cIa us 1)) 1))) (fun us => rfl) (fun us => run49 (toI (cIa (aggL (cIa us 0)) 0)) (toI (cIa (aggL (cIa us 0)) 1)) (roRows (cIa (aggL (cIa us 0)) 2)) (toI (cIa (aggL (cIa us 1)) 0)) (toI (cIa (aggL (cIa us 1)) 1))) (fun t => rfl)

/-! ### 50: skirmish/shadow.height -/



/-- 'skirmish/shadow.height' -/
noncomputable def F_shadow_height (m_W : Int) (m_H : Int) (m_Cells : List (List AVal)) (p_X : Int) (p_Y : Int) : Option (Int) :=
  Option.bind (F_grid_Index m_W p_X p_Y) fun t =>
  bif (decide ((0 : Int) ≤ t)) then
    Option.bind (m_Cells[t.toNat]?) fun r =>
    bif (chk [(LT.int IntKind.i64), (LT.int IntKind.i64), (LT.int IntKind.i64)] r) then
      some (cI r 1)
    else
    none
  else
  none
noncomputable def enc50 (t : Int) : CR := ⟨true, (.sc (.int .i64 t)), [], []⟩
noncomputable def ks50 : List SK := [.agg [.int .i64, .int .i64, .ro 3], .agg [.int .i64, .int .i64]]
noncomputable def S50 (us : List AVal) : Call := bif chkA ks50 us then Call.of (F_shadow_height (toI (cIa (aggL (cIa us 0)) 0)) (toI (cIa (aggL (cIa us 0)) 1)) (roRows (cIa (aggL (cIa us 0)) 2)) (toI (cIa (aggL (cIa us 1)) 0)) (toI (cIa (aggL (cIa us 1)) 1))) enc50 else Call.none
noncomputable def C50 := AI.ext 50 S50 C49

theorem run50 (m_W : Int) (m_H : Int) (m_Cells : List (List AVal)) (p_X : Int) (p_Y : Int) : fcall TT TU GL0 C49 ownF true noL Try.f50 [(.agg [(.sc (.int .i64 m_W)), (.sc (.int .i64 m_H)), (.ro 3 m_Cells)]), (.agg [(.sc (.int .i64 p_X)), (.sc (.int .i64 p_Y))])] = (F_shadow_height m_W m_H m_Cells p_X p_Y).bind fun t => some (enc50 t) :=
  Eq.trans (b := (Option.bind (F_grid_Index m_W p_X p_Y) fun t => (bif (decide ((0 : Int) ≤ t)) then (Option.bind (m_Cells[t.toNat]?) fun r => (bif (chk [(LT.int IntKind.i64), (LT.int IntKind.i64), (LT.int IntKind.i64)] r) then (some (CR.mk true (i64 (cI r 1)) [] [])) else none)) else none))) (by kernel_rfl)
    (n_bind fun t => (n_condH rfl (fun h0 => (n_bind fun r => (n_condH rfl (fun h1 => rfl) fun h1 => n_none))) fun h0 => n_none))
theorem lib50 : Lib Try.prog GL0 C50 :=
  Lib.fn lib49 mixed TT_ok Try.func50 (by decide +kernel) (by kernel_rfl) true noL (loops_of 0 (by kernel_rfl) below0) ks50 (F := fun us => F_shadow_height (toI (cIa (aggL (cIa us 0)) 0)) (toI (cIa (aggL (cIa us 0)) 1)) (roRows (cIa (aggL (cIa us 0)) 2)) (toI (cIa (aggL (cIa us 1)) 0)) (toI (cIa (aggL (cIa us 1)) 1))) (fun us => rfl) (fun us => run50 (toI (cIa (aggL (cIa us 0)) 0)) (toI (cIa (aggL (cIa us 0)) 1)) (roRows (cIa (aggL (cIa us 0)) 2)) (toI (cIa (aggL (cIa us 1)) 0)) (toI (cIa (aggL (cIa us 1)) 1))) (fun t => rfl)

/-! ### 29: skirmish/shadow.stops -/



/-- 'skirmish/shadow.stops' -/
noncomputable def F_shadow_stops (m_W : Int) (m_H : Int) (m_Cells : List (List AVal)) (a_X : Int) (a_Y : Int) (b_X : Int) (b_Y : Int) (c_X : Int) (c_Y : Int) : Option (Bool) :=
  Option.bind (F_terrain_Opaque m_W m_H m_Cells c_X c_Y) fun t =>
  bif t then
    some true
  else
  Option.bind (F_shadow_height m_W m_H m_Cells c_X c_Y) fun t1 =>
  Option.bind (F_shadow_height m_W m_H m_Cells a_X a_Y) fun t2 =>
  Option.bind (F_shadow_height m_W m_H m_Cells b_X b_Y) fun t3 =>
  some (decide (t1 > (maxI t2 t3)))
noncomputable def enc29 (t : Bool) : CR := ⟨true, (.sc (.bool t)), [], []⟩
noncomputable def ks29 : List SK := [.agg [.int .i64, .int .i64, .ro 3], .agg [.int .i64, .int .i64], .agg [.int .i64, .int .i64], .agg [.int .i64, .int .i64]]
noncomputable def S29 (us : List AVal) : Call := bif chkA ks29 us then Call.of (F_shadow_stops (toI (cIa (aggL (cIa us 0)) 0)) (toI (cIa (aggL (cIa us 0)) 1)) (roRows (cIa (aggL (cIa us 0)) 2)) (toI (cIa (aggL (cIa us 1)) 0)) (toI (cIa (aggL (cIa us 1)) 1)) (toI (cIa (aggL (cIa us 2)) 0)) (toI (cIa (aggL (cIa us 2)) 1)) (toI (cIa (aggL (cIa us 3)) 0)) (toI (cIa (aggL (cIa us 3)) 1))) enc29 else Call.none
noncomputable def C29 := AI.ext 29 S29 C50

theorem run29 (m_W : Int) (m_H : Int) (m_Cells : List (List AVal)) (a_X : Int) (a_Y : Int) (b_X : Int) (b_Y : Int) (c_X : Int) (c_Y : Int) : fcall TT TU GL0 C50 ownF true noL Try.f29 [(.agg [(.sc (.int .i64 m_W)), (.sc (.int .i64 m_H)), (.ro 3 m_Cells)]), (.agg [(.sc (.int .i64 a_X)), (.sc (.int .i64 a_Y))]), (.agg [(.sc (.int .i64 b_X)), (.sc (.int .i64 b_Y))]), (.agg [(.sc (.int .i64 c_X)), (.sc (.int .i64 c_Y))])] = (F_shadow_stops m_W m_H m_Cells a_X a_Y b_X b_Y c_X c_Y).bind fun t => some (enc29 t) :=
  Eq.trans (b := (Option.bind (F_terrain_Opaque m_W m_H m_Cells c_X c_Y) fun t => (bif t then (some (CR.mk true (bo true) [] [])) else (Option.bind (F_shadow_height m_W m_H m_Cells c_X c_Y) fun t1 => (Option.bind (F_shadow_height m_W m_H m_Cells a_X a_Y) fun t2 => (Option.bind (F_shadow_height m_W m_H m_Cells b_X b_Y) fun t3 => (some (CR.mk true (bo (decide (t1 > (maxI t2 t3)))) [] [])))))))) (by kernel_rfl)
    (n_bind fun t => (n_condH rfl (fun h0 => rfl) fun h0 => (n_bind fun t1 => (n_bind fun t2 => (n_bind fun t3 => rfl)))))
theorem lib29 : Lib Try.prog GL0 C29 :=
  Lib.fn lib50 mixed TT_ok Try.func29 (by decide +kernel) (by kernel_rfl) true noL (loops_of 0 (by kernel_rfl) below0) ks29 (F := fun us => F_shadow_stops (toI (cIa (aggL (cIa us 0)) 0)) (toI (cIa (aggL (cIa us 0)) 1)) (roRows (cIa (aggL (cIa us 0)) 2)) (toI (cIa (aggL (cIa us 1)) 0)) (toI (cIa (aggL (cIa us 1)) 1)) (toI (cIa (aggL (cIa us 2)) 0)) (toI (cIa (aggL (cIa us 2)) 1)) (toI (cIa (aggL (cIa us 3)) 0)) (toI (cIa (aggL (cIa us 3)) 1))) (fun us => rfl) (fun us => run29 (toI (cIa (aggL (cIa us 0)) 0)) (toI (cIa (aggL (cIa us 0)) 1)) (roRows (cIa (aggL (cIa us 0)) 2)) (toI (cIa (aggL (cIa us 1)) 0)) (toI (cIa (aggL (cIa us 1)) 1)) (toI (cIa (aggL (cIa us 2)) 0)) (toI (cIa (aggL (cIa us 2)) 1)) (toI (cIa (aggL (cIa us 3)) 0)) (toI (cIa (aggL (cIa us 3)) 1))) (fun t => rfl)

/-! ### 36: skirmish/shadow.clear -/

noncomputable def W36_0 : Ex → List Bool
  | .ret => [false, false, false, false, false, false, false, false, true, false, false, false, false, false, false, false, false, false, false, false, false, false, false, false, false, false, false, false, false, false, false, false, false, false, false, false, false, false, false, false, false, false, false, false, false, false, false, false, false, false, false, false, false, false, false, false, false, false, false, false, false, false, false, false, false, false, false, false, false, false, false, false, false, false, false, false, false, false, false, false, false, false, false]
  | .exit n => bif Nat.beq n 0 then [false, false, false, false, false, false, false, false, false, false, false, false, false, false, false, false, false, false, false, false, false, false, false, false, false, false, false, false, false, false, false, false, false, false, false, false, false, false, false, false, false, false, false, false, false, false, false, false, false, false, false, false, false, false, false, false, false, false, false, false, false, false, false, false, false, false, false, false, false, false, false, false, false, false, false, false, false, false, false, false, false, false, false] else []
  | .normal => []
noncomputable def W36_1 : Ex → List Bool
  | .ret => [false, false, false, false, false, false, false, false, true, false, false, false, false, false, false, false, false, false, false, false, false, false, false, false, false, false, false, false, false, false, false, false, false, false, false, false, false, false, false, false, false, false, false, false, false, false, false, false, false, false, false, false, false, false, false, false, false, false, false, false, false, false, false, false, false, false, false, false, false, false, false, false, false, false, false, false, false, false, false, false, false, false, false]
  | .exit n => bif Nat.beq n 2 then [false, true, true, true, true, false, false, false, false, true, true, false, false, false, false, false, false, false, false, false, false, false, false, true, true, false, false, false, false, false, false, false, false, false, false, false, false, false, false, false, false, false, false, false, false, false, false, false, false, false, true, true, true, false, false, true, true, true, true, true, true, true, true, true, false, false, true, true, true, true, true, true, true, true, true, false, false, false, false, false, false, false, false] else bif Nat.beq n 1 then [false, true, true, true, true, false, false, false, false, true, true, false, false, false, false, false, false, false, false, false, false, false, false, true, true, false, false, false, false, false, false, false, false, false, false, false, false, false, false, false, false, false, false, false, false, false, false, false, false, false, true, true, true, false, false, true, true, true, true, true, true, true, true, true, false, false, true, true, true, true, true, true, true, true, true, false, false, false, false, false, false, false, false] else bif Nat.beq n 0 then [false, false, false, false, false, false, false, false, false, false, false, false, false, false, false, false, false, false, false, false, false, false, false, false, false, false, false, false, false, false, false, false, false, false, false, false, false, false, false, false, false, false, false, false, false, false, false, false, false, false, false, false, false, false, false, false, false, false, false, false, false, false, false, false, false, false, false, false, false, false, false, false, false, false, false, false, false, false, false, false, false, false, false] else []
  | .normal => []
noncomputable def G_shadow_clear_1 (at__0_0 : Int) (at__1_0 : Int) (at__1_1 : Int) (i : Int) (j : Int) (x : Int) (from_ : Int) (to : Int) (x38 : Int) (b0_0 : Int) (b0_1 : Int) (b0_2 : List (List AVal)) (b1_0 : Int) (b1_1 : Int) (b2_0 : Int) (b2_1 : Int) : Nat → Int → Option (Bool)
  | 0, _ => none
  | m + 1, x39 =>
    bif (decide (x39 < x38)) then
      Option.bind (F_shadow_octant_1 x x39 at__0_0 at__1_0 at__1_1) fun t =>
      bif ((t.1 == b1_0) && (t.2 == b1_1)) then
        G_shadow_clear_1 at__0_0 at__1_0 at__1_1 i j x from_ to x38 b0_0 b0_1 b0_2 b1_0 b1_1 b2_0 b2_1 m (wr (x39 + (1 : Int)))
      else
      bif ((t.1 == b2_0) && (t.2 == b2_1)) then
        G_shadow_clear_1 at__0_0 at__1_0 at__1_1 i j x from_ to x38 b0_0 b0_1 b0_2 b1_0 b1_1 b2_0 b2_1 m (wr (x39 + (1 : Int)))
      else
      bif (decide ((wr (j * from_)) ≥ (wr ((wr ((wr ((2 : Int) * x39)) + (1 : Int))) * i)))) then
        G_shadow_clear_1 at__0_0 at__1_0 at__1_1 i j x from_ to x38 b0_0 b0_1 b0_2 b1_0 b1_1 b2_0 b2_1 m (wr (x39 + (1 : Int)))
      else
      bif (decide ((wr (j * to)) ≤ (wr ((wr ((wr ((2 : Int) * x39)) - (1 : Int))) * i)))) then
        G_shadow_clear_1 at__0_0 at__1_0 at__1_1 i j x from_ to x38 b0_0 b0_1 b0_2 b1_0 b1_1 b2_0 b2_1 m (wr (x39 + (1 : Int)))
      else
      Option.bind (F_shadow_stops b0_0 b0_1 b0_2 b1_0 b1_1 b2_0 b2_1 t.1 t.2) fun t1 =>
      bif t1 then
        some true
      else
      G_shadow_clear_1 at__0_0 at__1_0 at__1_1 i j x from_ to x38 b0_0 b0_1 b0_2 b1_0 b1_1 b2_0 b2_1 m (wr (x39 + (1 : Int)))
    else
    some false
noncomputable def E36_1 (at__0_0 : Int) (at__1_0 : Int) (at__1_1 : Int) (i : Int) (j : Int) (x : Int) (from_ : Int) (to : Int) (x23 : Int) (x24 : Int) (x38 : Int) (x39 : Int) (b0_0 : Int) (b0_1 : Int) (b0_2 : List (List AVal)) (b1_0 : Int) (b1_1 : Int) (b2_0 : Int) (b2_1 : Int) : St := ⟨[.dead, (.clo 54 [(.rptr [(.sc (.int .i64 at__0_0))]), (.rptr [(.sc (.int .i64 at__1_0)), (.sc (.int .i64 at__1_1))])]), (.sc (.int .i64 i)), (.sc (.int .i64 j)), (.ref 16000 1 0 0), .dead, .dead, .dead, .dead, (.ref 19296 1 0 0), (.ref 19312 1 0 0), (.sc (.int .i64 x)), (.sc (.int .i64 from_)), (.sc (.int .i64 to)), .dead, .dead, .dead, .dead, .dead, .dead, .dead, .dead, .dead, (.sc (.int .i64 x23)), (.sc (.int .i64 x24)), .dead, .dead, .dead, .dead, .dead, .dead, .dead, .dead, .dead, .dead, .dead, .dead, .dead, (.sc (.int .i64 x38)), (.sc (.int .i64 x39)), .dead, .dead, .dead, .dead, .dead, .dead, .dead, .dead, .dead, .dead, .dead, .dead, .dead, .dead, .dead, .dead, .dead, .dead, .dead, .dead, .dead, .dead, .dead, .dead, .dead, .dead, .dead, .dead, .dead, .dead, .dead, .dead, .dead, .dead, .dead, .dead, .dead, .dead, .dead, .dead, .dead, .dead, .dead], [(16000, ⟨.box, 24, 3, [[(.sc (.int .i64 b0_0)), (.sc (.int .i64 b0_1)), (.ro 3 b0_2)]]⟩), (19296, ⟨.box, 26, 2, [[(.sc (.int .i64 b1_0)), (.sc (.int .i64 b1_1))]]⟩), (19312, ⟨.box, 26, 2, [[(.sc (.int .i64 b2_0)), (.sc (.int .i64 b2_1))]]⟩)]⟩
noncomputable def X36_1 (at__0_0 : Int) (at__1_0 : Int) (at__1_1 : Int) (i : Int) (j : Int) (x23 : Int) (x24 : Int) (b0_0 : Int) (b0_1 : Int) (b0_2 : List (List AVal)) (b1_0 : Int) (b1_1 : Int) (b2_0 : Int) (b2_1 : Int) (k : Ex → St → Option CR) (t : Bool) : Option CR := bif t then k .ret ⟨[.dead, .dead, .dead, .dead, .dead, .dead, .dead, .dead, (.sc (.bool false)), .dead, .dead, .dead, .dead, .dead, .dead, .dead, .dead, .dead, .dead, .dead, .dead, .dead, .dead, .dead, .dead, .dead, .dead, .dead, .dead, .dead, .dead, .dead, .dead, .dead, .dead, .dead, .dead, .dead, .dead, .dead, .dead, .dead, .dead, .dead, .dead, .dead, .dead, .dead, .dead, .dead, .dead, .dead, .dead, .dead, .dead, .dead, .dead, .dead, .dead, .dead, .dead, .dead, .dead, .dead, .dead, .dead, .dead, .dead, .dead, .dead, .dead, .dead, .dead, .dead, .dead, .dead, .dead, .dead, .dead, .dead, .dead, .dead, .dead], []⟩ else k (.exit 2) ⟨[.dead, (.clo 54 [(.rptr [(.sc (.int .i64 at__0_0))]), (.rptr [(.sc (.int .i64 at__1_0)), (.sc (.int .i64 at__1_1))])]), (.sc (.int .i64 i)), (.sc (.int .i64 j)), (.ref 16000 1 0 0), .dead, .dead, .dead, .dead, (.ref 19296 1 0 0), (.ref 19312 1 0 0), .dead, .dead, .dead, .dead, .dead, .dead, .dead, .dead, .dead, .dead, .dead, .dead, (.sc (.int .i64 x23)), (.sc (.int .i64 x24)), .dead, .dead, .dead, .dead, .dead, .dead, .dead, .dead, .dead, .dead, .dead, .dead, .dead, .dead, .dead, .dead, .dead, .dead, .dead, .dead, .dead, .dead, .dead, .dead, .dead, .dead, .dead, .dead, .dead, .dead, .dead, .dead, .dead, .dead, .dead, .dead, .dead, .dead, .dead, .dead, .dead, .dead, .dead, .dead, .dead, .dead, .dead, .dead, .dead, .dead, .dead, .dead, .dead, .dead, .dead, .dead, .dead, .dead], [(16000, ⟨.box, 24, 3, [[(.sc (.int .i64 b0_0)), (.sc (.int .i64 b0_1)), (.ro 3 b0_2)]]⟩), (19296, ⟨.box, 26, 2, [[(.sc (.int .i64 b1_0)), (.sc (.int .i64 b1_1))]]⟩), (19312, ⟨.box, 26, 2, [[(.sc (.int .i64 b2_0)), (.sc (.int .i64 b2_1))]]⟩)]⟩
noncomputable def ks36_1 : List SK := [.f .dead, .f (.clo 54 [[.int .i64], [.int .i64, .int .i64]]), .f (.int .i64), .f (.int .i64), .f (.ref 16000 1 0 0), .f .dead, .f .dead, .f .dead, .f .dead, .f (.ref 19296 1 0 0), .f (.ref 19312 1 0 0), .f (.int .i64), .f (.int .i64), .f (.int .i64), .f .dead, .f .dead, .f .dead, .f .dead, .f .dead, .f .dead, .f .dead, .f .dead, .f .dead, .f (.int .i64), .f (.int .i64), .f .dead, .f .dead, .f .dead, .f .dead, .f .dead, .f .dead, .f .dead, .f .dead, .f .dead, .f .dead, .f .dead, .f .dead, .f .dead, .f (.int .i64), .f (.int .i64), .f .dead, .f .dead, .f .dead, .f .dead, .f .dead, .f .dead, .f .dead, .f .dead, .f .dead, .f .dead, .f .dead, .f .dead, .f .dead, .f .dead, .f .dead, .f .dead, .f .dead, .f .dead, .f .dead, .f .dead, .f .dead, .f .dead, .f .dead, .f .dead, .f .dead, .f .dead, .f .dead, .f .dead, .f .dead, .f .dead, .f .dead, .f .dead, .f .dead, .f .dead, .f .dead, .f .dead, .f .dead, .f .dead, .f .dead, .f .dead, .f .dead, .f .dead, .f .dead]
noncomputable def hs36_1 : List HK := [⟨16000, .box, 24, 3, some [.int .i64, .int .i64, .ro 3]⟩, ⟨19296, .box, 26, 2, some [.int .i64, .int .i64]⟩, ⟨19312, .box, 26, 2, some [.int .i64, .int .i64]⟩]
noncomputable def Lm36_1 (s : St) (k : Ex → St → Option CR) : Option CR := bif chkS ks36_1 hs36_1 s then (G_shadow_clear_1 (toI (cIa (rptrL (cIa (cloL (cIa s.tmps 1)) 0)) 0)) (toI (cIa (rptrL (cIa (cloL (cIa s.tmps 1)) 1)) 0)) (toI (cIa (rptrL (cIa (cloL (cIa s.tmps 1)) 1)) 1)) (toI (cIa s.tmps 2)) (toI (cIa s.tmps 3)) (toI (cIa s.tmps 11)) (toI (cIa s.tmps 12)) (toI (cIa s.tmps 13)) (toI (cIa s.tmps 38)) (toI (cIa (rows0 (blkAt s.heap 0).2) 0)) (toI (cIa (rows0 (blkAt s.heap 0).2) 1)) (roRows (cIa (rows0 (blkAt s.heap 0).2) 2)) (toI (cIa (rows0 (blkAt s.heap 1).2) 0)) (toI (cIa (rows0 (blkAt s.heap 1).2) 1)) (toI (cIa (rows0 (blkAt s.heap 2).2) 0)) (toI (cIa (rows0 (blkAt s.heap 2).2) 1)) FU (toI (cIa s.tmps 39))).bind (X36_1 (toI (cIa (rptrL (cIa (cloL (cIa s.tmps 1)) 0)) 0)) (toI (cIa (rptrL (cIa (cloL (cIa s.tmps 1)) 1)) 0)) (toI (cIa (rptrL (cIa (cloL (cIa s.tmps 1)) 1)) 1)) (toI (cIa s.tmps 2)) (toI (cIa s.tmps 3)) (toI (cIa s.tmps 23)) (toI (cIa s.tmps 24)) (toI (cIa (rows0 (blkAt s.heap 0).2) 0)) (toI (cIa (rows0 (blkAt s.heap 0).2) 1)) (roRows (cIa (rows0 (blkAt s.heap 0).2) 2)) (toI (cIa (rows0 (blkAt s.heap 1).2) 0)) (toI (cIa (rows0 (blkAt s.heap 1).2) 1)) (toI (cIa (rows0 (blkAt s.heap 2).2) 0)) (toI (cIa (rows0 (blkAt s.heap 2).2) 1)) k) else none
noncomputable def L36_1 (s : St) (k : Ex → St → Option CR) : Option CR := Lm36_1 (maskS (maskOf ks36_1) s) k
noncomputable def G_shadow_clear_0 (at__0_0 : Int) (at__1_0 : Int) (at__1_1 : Int) (i : Int) (j : Int) (x23 : Int) (b0_0 : Int) (b0_1 : Int) (b0_2 : List (List AVal)) (b1_0 : Int) (b1_1 : Int) (b2_0 : Int) (b2_1 : Int) : Nat → Int → Option (Bool)
  | 0, _ => none
  | m + 1, x24 =>
    bif (decide (x24 < x23)) then
      Option.bind (G_shadow_clear_1 at__0_0 at__1_0 at__1_1 i j x24 (maxI (wr ((wr ((2 : Int) * x24)) - (1 : Int))) (0 : Int)) (minI (wr ((wr ((2 : Int) * x24)) + (1 : Int))) (wr ((2 : Int) * i))) (wr (j + (1 : Int))) b0_0 b0_1 b0_2 b1_0 b1_1 b2_0 b2_1 FU (0 : Int)) fun t =>
      bif t then
        some true
      else
      G_shadow_clear_0 at__0_0 at__1_0 at__1_1 i j x23 b0_0 b0_1 b0_2 b1_0 b1_1 b2_0 b2_1 m (wr (x24 + (1 : Int)))
    else
    some false
noncomputable def E36_0 (at__0_0 : Int) (at__1_0 : Int) (at__1_1 : Int) (i : Int) (j : Int) (x23 : Int) (x24 : Int) (b0_0 : Int) (b0_1 : Int) (b0_2 : List (List AVal)) (b1_0 : Int) (b1_1 : Int) (b2_0 : Int) (b2_1 : Int) : St := ⟨[.dead, (.clo 54 [(.rptr [(.sc (.int .i64 at__0_0))]), (.rptr [(.sc (.int .i64 at__1_0)), (.sc (.int .i64 at__1_1))])]), (.sc (.int .i64 i)), (.sc (.int .i64 j)), (.ref 16000 1 0 0), .dead, .dead, .dead, .dead, (.ref 19296 1 0 0), (.ref 19312 1 0 0), .dead, .dead, .dead, .dead, .dead, .dead, .dead, .dead, .dead, .dead, .dead, .dead, (.sc (.int .i64 x23)), (.sc (.int .i64 x24)), .dead, .dead, .dead, .dead, .dead, .dead, .dead, .dead, .dead, .dead, .dead, .dead, .dead, .dead, .dead, .dead, .dead, .dead, .dead, .dead, .dead, .dead, .dead, .dead, .dead, .dead, .dead, .dead, .dead, .dead, .dead, .dead, .dead, .dead, .dead, .dead, .dead, .dead, .dead, .dead, .dead, .dead, .dead, .dead, .dead, .dead, .dead, .dead, .dead, .dead, .dead, .dead, .dead, .dead, .dead, .dead, .dead, .dead], [(16000, ⟨.box, 24, 3, [[(.sc (.int .i64 b0_0)), (.sc (.int .i64 b0_1)), (.ro 3 b0_2)]]⟩), (19296, ⟨.box, 26, 2, [[(.sc (.int .i64 b1_0)), (.sc (.int .i64 b1_1))]]⟩), (19312, ⟨.box, 26, 2, [[(.sc (.int .i64 b2_0)), (.sc (.int .i64 b2_1))]]⟩)]⟩
noncomputable def X36_0 (k : Ex → St → Option CR) (t : Bool) : Option CR := bif t then k .ret ⟨[.dead, .dead, .dead, .dead, .dead, .dead, .dead, .dead, (.sc (.bool false)), .dead, .dead, .dead, .dead, .dead, .dead, .dead, .dead, .dead, .dead, .dead, .dead, .dead, .dead, .dead, .dead, .dead, .dead, .dead, .dead, .dead, .dead, .dead, .dead, .dead, .dead, .dead, .dead, .dead, .dead, .dead, .dead, .dead, .dead, .dead, .dead, .dead, .dead, .dead, .dead, .dead, .dead, .dead, .dead, .dead, .dead, .dead, .dead, .dead, .dead, .dead, .dead, .dead, .dead, .dead, .dead, .dead, .dead, .dead, .dead, .dead, .dead, .dead, .dead, .dead, .dead, .dead, .dead, .dead, .dead, .dead, .dead, .dead, .dead], []⟩ else k (.exit 0) ⟨[.dead, .dead, .dead, .dead, .dead, .dead, .dead, .dead, .dead, .dead, .dead, .dead, .dead, .dead, .dead, .dead, .dead, .dead, .dead, .dead, .dead, .dead, .dead, .dead, .dead, .dead, .dead, .dead, .dead, .dead, .dead, .dead, .dead, .dead, .dead, .dead, .dead, .dead, .dead, .dead, .dead, .dead, .dead, .dead, .dead, .dead, .dead, .dead, .dead, .dead, .dead, .dead, .dead, .dead, .dead, .dead, .dead, .dead, .dead, .dead, .dead, .dead, .dead, .dead, .dead, .dead, .dead, .dead, .dead, .dead, .dead, .dead, .dead, .dead, .dead, .dead, .dead, .dead, .dead, .dead, .dead, .dead, .dead], []⟩
noncomputable def ks36_0 : List SK := [.f .dead, .f (.clo 54 [[.int .i64], [.int .i64, .int .i64]]), .f (.int .i64), .f (.int .i64), .f (.ref 16000 1 0 0), .f .dead, .f .dead, .f .dead, .f .dead, .f (.ref 19296 1 0 0), .f (.ref 19312 1 0 0), .f .dead, .f .dead, .f .dead, .f .dead, .f .dead, .f .dead, .f .dead, .f .dead, .f .dead, .f .dead, .f .dead, .f .dead, .f (.int .i64), .f (.int .i64), .f .dead, .f .dead, .f .dead, .f .dead, .f .dead, .f .dead, .f .dead, .f .dead, .f .dead, .f .dead, .f .dead, .f .dead, .f .dead, .f .dead, .f .dead, .f .dead, .f .dead, .f .dead, .f .dead, .f .dead, .f .dead, .f .dead, .f .dead, .f .dead, .f .dead, .f .dead, .f .dead, .f .dead, .f .dead, .f .dead, .f .dead, .f .dead, .f .dead, .f .dead, .f .dead, .f .dead, .f .dead, .f .dead, .f .dead, .f .dead, .f .dead, .f .dead, .f .dead, .f .dead, .f .dead, .f .dead, .f .dead, .f .dead, .f .dead, .f .dead, .f .dead, .f .dead, .f .dead, .f .dead, .f .dead, .f .dead, .f .dead, .f .dead]
noncomputable def hs36_0 : List HK := [⟨16000, .box, 24, 3, some [.int .i64, .int .i64, .ro 3]⟩, ⟨19296, .box, 26, 2, some [.int .i64, .int .i64]⟩, ⟨19312, .box, 26, 2, some [.int .i64, .int .i64]⟩]
noncomputable def Lm36_0 (s : St) (k : Ex → St → Option CR) : Option CR := bif chkS ks36_0 hs36_0 s then (G_shadow_clear_0 (toI (cIa (rptrL (cIa (cloL (cIa s.tmps 1)) 0)) 0)) (toI (cIa (rptrL (cIa (cloL (cIa s.tmps 1)) 1)) 0)) (toI (cIa (rptrL (cIa (cloL (cIa s.tmps 1)) 1)) 1)) (toI (cIa s.tmps 2)) (toI (cIa s.tmps 3)) (toI (cIa s.tmps 23)) (toI (cIa (rows0 (blkAt s.heap 0).2) 0)) (toI (cIa (rows0 (blkAt s.heap 0).2) 1)) (roRows (cIa (rows0 (blkAt s.heap 0).2) 2)) (toI (cIa (rows0 (blkAt s.heap 1).2) 0)) (toI (cIa (rows0 (blkAt s.heap 1).2) 1)) (toI (cIa (rows0 (blkAt s.heap 2).2) 0)) (toI (cIa (rows0 (blkAt s.heap 2).2) 1)) FU (toI (cIa s.tmps 24))).bind (X36_0 k) else none
noncomputable def L36_0 (s : St) (k : Ex → St → Option CR) : Option CR := Lm36_0 (maskS (maskOf ks36_0) s) k

noncomputable def L36 : LT' := fun i s k => bif Nat.beq i 0 then L36_0 s k else bif Nat.beq i 2 then L36_1 s k else none

/-- 'skirmish/shadow.clear' -/
noncomputable def F_shadow_clear (m_W : Int) (m_H : Int) (m_Cells : List (List AVal)) (at__0 : Int) (at__1_X : Int) (at__1_Y : Int) (i : Int) (j : Int) : Option (Bool) :=
  Option.bind (F_shadow_octant_1 (0 : Int) (0 : Int) at__0 at__1_X at__1_Y) fun t =>
  Option.bind (F_shadow_octant_1 i j at__0 at__1_X at__1_Y) fun t1 =>
  Option.bind (G_shadow_clear_0 at__0 at__1_X at__1_Y i j (wr (i + (1 : Int))) m_W m_H m_Cells t.1 t.2 t1.1 t1.2 FU (0 : Int)) fun t2 =>
  bif t2 then
    some false
  else
  some true
noncomputable def enc36 (t : Bool) : CR := ⟨true, (.sc (.bool t)), [], []⟩
noncomputable def ks36 : List SK := [.agg [.int .i64, .int .i64, .ro 3], .f (.clo 54 [[.int .i64], [.int .i64, .int .i64]]), .f (.int .i64), .f (.int .i64)]
noncomputable def S36 (us : List AVal) : Call := bif chkA ks36 us then Call.of (F_shadow_clear (toI (cIa (aggL (cIa us 0)) 0)) (toI (cIa (aggL (cIa us 0)) 1)) (roRows (cIa (aggL (cIa us 0)) 2)) (toI (cIa (rptrL (cIa (cloL (cIa us 1)) 0)) 0)) (toI (cIa (rptrL (cIa (cloL (cIa us 1)) 1)) 0)) (toI (cIa (rptrL (cIa (cloL (cIa us 1)) 1)) 1)) (toI (cIa us 2)) (toI (cIa us 3))) enc36 else Call.none
noncomputable def C36 := AI.ext 36 S36 C29

@[reducible] noncomputable def B36_1 := bodyOf TT TU GL0 C29 ownF L36 (lp Try.f36 1)
@[reducible] noncomputable def K36_1 (k : Ex → St → Option CR) : Ex → St → Option CR := fun e s => k e (maskS (W36_1 e) s)
theorem spec36_1 (k : Ex → St → Option CR) : ∀ (m : Nat) (at__0_0 : Int) (at__1_0 : Int) (at__1_1 : Int) (i : Int) (j : Int) (x : Int) (from_ : Int) (to : Int) (x23 : Int) (x24 : Int) (x38 : Int) (x39 : Int) (b0_0 : Int) (b0_1 : Int) (b0_2 : List (List AVal)) (b1_0 : Int) (b1_1 : Int) (b2_0 : Int) (b2_1 : Int), loopN B36_1 m (E36_1 at__0_0 at__1_0 at__1_1 i j x from_ to x23 x24 x38 x39 b0_0 b0_1 b0_2 b1_0 b1_1 b2_0 b2_1) (K36_1 k) = (G_shadow_clear_1 at__0_0 at__1_0 at__1_1 i j x from_ to x38 b0_0 b0_1 b0_2 b1_0 b1_1 b2_0 b2_1 m x39).bind (X36_1 at__0_0 at__1_0 at__1_1 i j x23 x24 b0_0 b0_1 b0_2 b1_0 b1_1 b2_0 b2_1 k)
  | 0, _, _, _, _, _, _, _, _, _, _, _, _, _, _, _, _, _, _, _ => rfl
  | m + 1, at__0_0, at__1_0, at__1_1, i, j, x, from_, to, x23, x24, x38, x39, b0_0, b0_1, b0_2, b1_0, b1_1, b2_0, b2_1 =>
    Eq.trans (b := (bif (decide (x39 < x38)) then (Option.bind (F_shadow_octant_1 x x39 at__0_0 at__1_0 at__1_1) fun t => (bif ((t.1 == b1_0) && (t.2 == b1_1)) then (loopN B36_1 m ⟨[.dead, (AVal.clo 54 [(AVal.rptr [(i64 at__0_0)]), (AVal.rptr [(i64 at__1_0), (i64 at__1_1)])]), (i64 i), (i64 j), (AVal.ref 16000 1 0 0), .dead, .dead, .dead, .dead, (AVal.ref 19296 1 0 0), (AVal.ref 19312 1 0 0), (i64 x), (i64 from_), (i64 to), .dead, .dead, .dead, .dead, .dead, .dead, .dead, .dead, .dead, (i64 x23), (i64 x24), .dead, .dead, .dead, .dead, .dead, .dead, .dead, .dead, .dead, .dead, .dead, .dead, .dead, (i64 x38), (i64 (wr (x39 + (1 : Int)))), .dead, .dead, .dead, .dead, .dead, .dead, .dead, .dead, .dead, .dead, .dead, .dead, .dead, .dead, .dead, .dead, .dead, .dead, .dead, .dead, .dead, .dead, .dead, .dead, .dead, .dead, .dead, .dead, .dead, .dead, .dead, .dead, .dead, .dead, .dead, .dead, .dead, .dead, .dead, .dead, .dead, .dead, .dead], [(Prod.mk 16000 (Blk.mk BKind.box 24 3 [[(i64 b0_0), (i64 b0_1), (AVal.ro 3 b0_2)]])), (Prod.mk 19296 (Blk.mk BKind.box 26 2 [[(i64 b1_0), (i64 b1_1)]])), (Prod.mk 19312 (Blk.mk BKind.box 26 2 [[(i64 b2_0), (i64 b2_1)]]))]⟩ (K36_1 k)) else (bif ((t.1 == b2_0) && (t.2 == b2_1)) then (loopN B36_1 m ⟨[.dead, (AVal.clo 54 [(AVal.rptr [(i64 at__0_0)]), (AVal.rptr [(i64 at__1_0), (i64 at__1_1)])]), (i64 i), (i64 j), (AVal.ref 16000 1 0 0), .dead, .dead, .dead, .dead, (AVal.ref 19296 1 0 0), (AVal.ref 19312 1 0 0), (i64 x), (i64 from_), (i64 to), .dead, .dead, .dead, .dead, .dead, .dead, .dead, .dead, .dead, (i64 x23), (i64 x24), .dead, .dead, .dead, .dead, .dead, .dead, .dead, .dead, .dead, .dead, .dead, .dead, .dead, (i64 x38), (i64 (wr (x39 + (1 : Int)))), .dead, .dead, .dead, .dead, .dead, .dead, .dead, .dead, .dead, .dead, .dead, .dead, .dead, .dead, .dead, .dead, .dead, .dead, .dead, .dead, .dead, .dead, .dead, .dead, .dead, .dead, .dead, .dead, .dead, .dead, .dead, .dead, .dead, .dead, .dead, .dead, .dead, .dead, .dead, .dead, .dead, .dead, .dead], [(Prod.mk 16000 (Blk.mk BKind.box 24 3 [[(i64 b0_0), (i64 b0_1), (AVal.ro 3 b0_2)]])), (Prod.mk 19296 (Blk.mk BKind.box 26 2 [[(i64 b1_0), (i64 b1_1)]])), (Prod.mk 19312 (Blk.mk BKind.box 26 2 [[(i64 b2_0), (i64 b2_1)]]))]⟩ (K36_1 k)) else (bif (decide ((wr (j * from_)) ≥ (wr ((wr ((wr ((2 : Int) * x39)) + (1 : Int))) * i)))) then (loopN B36_1 m ⟨[.dead, (AVal.clo 54 [(AVal.rptr [(i64 at__0_0)]), (AVal.rptr [(i64 at__1_0), (i64 at__1_1)])]), (i64 i), (i64 j), (AVal.ref 16000 1 0 0), .dead, .dead, .dead, .dead, (AVal.ref 19296 1 0 0), (AVal.ref 19312 1 0 0), (i64 x), (i64 from_), (i64 to), .dead, .dead, .dead, .dead, .dead, .dead, .dead, .dead, .dead, (i64 x23), (i64 x24), .dead, .dead, .dead, .dead, .dead, .dead, .dead, .dead, .dead, .dead, .dead, .dead, .dead, (i64 x38), (i64 (wr (x39 + (1 : Int)))), .dead, .dead, .dead, .dead, .dead, .dead, .dead, .dead, .dead, .dead, .dead, .dead, .dead, .dead, .dead, .dead, .dead, .dead, .dead, .dead, .dead, .dead, .dead, .dead, .dead, .dead, .dead, .dead, .dead, .dead, .dead, .dead, .dead, .dead, .dead, .dead, .dead, .dead, .dead, .dead, .dead, .dead, .dead], [(Prod.mk 16000 (Blk.mk BKind.box 24 3 [[(i64 b0_0), (i64 b0_1), (AVal.ro 3 b0_2)]])), (Prod.mk 19296 (Blk.mk BKind.box 26 2 [[(i64 b1_0), (i64 b1_1)]])), (Prod.mk 19312 (Blk.mk BKind.box 26 2 [[(i64 b2_0), (i64 b2_1)]]))]⟩ (K36_1 k)) else (bif (decide ((wr (j * to)) ≤ (wr ((wr ((wr ((2 : Int) * x39)) - (1 : Int))) * i)))) then (loopN B36_1 m ⟨[.dead, (AVal.clo 54 [(AVal.rptr [(i64 at__0_0)]), (AVal.rptr [(i64 at__1_0), (i64 at__1_1)])]), (i64 i), (i64 j), (AVal.ref 16000 1 0 0), .dead, .dead, .dead, .dead, (AVal.ref 19296 1 0 0), (AVal.ref 19312 1 0 0), (i64 x), (i64 from_), (i64 to), .dead, .dead, .dead, .dead, .dead, .dead, .dead, .dead, .dead, (i64 x23), (i64 x24), .dead, .dead, .dead, .dead, .dead, .dead, .dead, .dead, .dead, .dead, .dead, .dead, .dead, (i64 x38), (i64 (wr (x39 + (1 : Int)))), .dead, .dead, .dead, .dead, .dead, .dead, .dead, .dead, .dead, .dead, .dead, .dead, .dead, .dead, .dead, .dead, .dead, .dead, .dead, .dead, .dead, .dead, .dead, .dead, .dead, .dead, .dead, .dead, .dead, .dead, .dead, .dead, .dead, .dead, .dead, .dead, .dead, .dead, .dead, .dead, .dead, .dead, .dead], [(Prod.mk 16000 (Blk.mk BKind.box 24 3 [[(i64 b0_0), (i64 b0_1), (AVal.ro 3 b0_2)]])), (Prod.mk 19296 (Blk.mk BKind.box 26 2 [[(i64 b1_0), (i64 b1_1)]])), (Prod.mk 19312 (Blk.mk BKind.box 26 2 [[(i64 b2_0), (i64 b2_1)]]))]⟩ (K36_1 k)) else (Option.bind (F_shadow_stops b0_0 b0_1 b0_2 b1_0 b1_1 b2_0 b2_1 t.1 t.2) fun t1 => (bif t1 then (k .ret ⟨[.dead, .dead, .dead, .dead, .dead, .dead, .dead, .dead, (bo false), .dead, .dead, .dead, .dead, .dead, .dead, .dead, .dead, .dead, .dead, .dead, .dead, .dead, .dead, .dead, .dead, .dead, .dead, .dead, .dead, .dead, .dead, .dead, .dead, .dead, .dead, .dead, .dead, .dead, .dead, .dead, .dead, .dead, .dead, .dead, .dead, .dead, .dead, .dead, .dead, .dead, .dead, .dead, .dead, .dead, .dead, .dead, .dead, .dead, .dead, .dead, .dead, .dead, .dead, .dead, .dead, .dead, .dead, .dead, .dead, .dead, .dead, .dead, .dead, .dead, .dead, .dead, .dead, .dead, .dead, .dead, .dead, .dead, .dead], []⟩) else (loopN B36_1 m ⟨[.dead, (AVal.clo 54 [(AVal.rptr [(i64 at__0_0)]), (AVal.rptr [(i64 at__1_0), (i64 at__1_1)])]), (i64 i), (i64 j), (AVal.ref 16000 1 0 0), .dead, .dead, .dead, .dead, (AVal.ref 19296 1 0 0), (AVal.ref 19312 1 0 0), (i64 x), (i64 from_), (i64 to), .dead, .dead, .dead, .dead, .dead, .dead, .dead, .dead, .dead, (i64 x23), (i64 x24), .dead, .dead, .dead, .dead, .dead, .dead, .dead, .dead, .dead, .dead, .dead, .dead, .dead, (i64 x38), (i64 (wr (x39 + (1 : Int)))), .dead, .dead, .dead, .dead, .dead, .dead, .dead, .dead, .dead, .dead, .dead, .dead, .dead, .dead, .dead, .dead, .dead, .dead, .dead, .dead, .dead, .dead, .dead, .dead, .dead, .dead, .dead, .dead, .dead, .dead, .dead, .dead, .dead, .dead, .dead, .dead, .dead, .dead, .dead, .dead, .dead, .dead, .dead], [(Prod.mk 16000 (Blk.mk BKind.box 24 3 [[(i64 b0_0), (i64 b0_1), (AVal.ro 3 b0_2)]])), (Prod.mk 19296 (Blk.mk BKind.box 26 2 [[(i64 b1_0), (i64 b1_1)]])), (Prod.mk 19312 (Blk.mk BKind.box 26 2 [[(i64 b2_0), (i64 b2_1)]]))]⟩ (K36_1 k))))))))) else (k (.exit 2) ⟨[.dead, (AVal.clo 54 [(AVal.rptr [(i64 at__0_0)]), (AVal.rptr [(i64 at__1_0), (i64 at__1_1)])]), (i64 i), (i64 j), (AVal.ref 16000 1 0 0), .dead, .dead, .dead, .dead, (AVal.ref 19296 1 0 0), (AVal.ref 19312 1 0 0), .dead, .dead, .dead, .dead, .dead, .dead, .dead, .dead, .dead, .dead, .dead, .dead, (i64 x23), (i64 x24), .dead, .dead, .dead, .dead, .dead, .dead, .dead, .dead, .dead, .dead, .dead, .dead, .dead, .dead, .dead, .dead, .dead, .dead, .dead, .dead, .dead, .dead, .dead, .dead, .dead, .dead, .dead, .dead, .dead, .dead, .dead, .dead, .dead, .dead, .dead, .dead, .dead, .dead, .dead, .dead, .dead, .dead, .dead, .dead, .dead, .dead, .dead, .dead, .dead, .dead, .dead, .dead, .dead, .dead, .dead, .dead, .dead, .dead], [(Prod.mk 16000 (Blk.mk BKind.box 24 3 [[(i64 b0_0), (i64 b0_1), (AVal.ro 3 b0_2)]])), (Prod.mk 19296 (Blk.mk BKind.box 26 2 [[(i64 b1_0), (i64 b1_1)]])), (Prod.mk 19312 (Blk.mk BKind.box 26 2 [[(i64 b2_0), (i64 b2_1)]]))]⟩))) (by kernel_rfl)
      (n_condH rfl (fun h0 => (n_bind fun t => (n_condH rfl (fun h1 => (spec36_1 k m at__0_0 at__1_0 at__1_1 i j x from_ to x23 x24 x38 (wr (x39 + (1 : Int))) b0_0 b0_1 b0_2 b1_0 b1_1 b2_0 b2_1)) fun h1 => (n_condH rfl (fun h2 => (spec36_1 k m at__0_0 at__1_0 at__1_1 i j x from_ to x23 x24 x38 (wr (x39 + (1 : Int))) b0_0 b0_1 b0_2 b1_0 b1_1 b2_0 b2_1)) fun h2 => (n_condH rfl (fun h3 => (spec36_1 k m at__0_0 at__1_0 at__1_1 i j x from_ to x23 x24 x38 (wr (x39 + (1 : Int))) b0_0 b0_1 b0_2 b1_0 b1_1 b2_0 b2_1)) fun h3 => (n_condH rfl (fun h4 => (spec36_1 k m at__0_0 at__1_0 at__1_1 i j x from_ to x23 x24 x38 (wr (x39 + (1 : Int))) b0_0 b0_1 b0_2 b1_0 b1_1 b2_0 b2_1)) fun h4 => (n_bind fun t1 => (n_condH rfl (fun h5 => rfl) fun h5 => (spec36_1 k m at__0_0 at__1_0 at__1_1 i j x from_ to x23 x24 x38 (wr (x39 + (1 : Int))) b0_0 b0_1 b0_2 b1_0 b1_1 b2_0 b2_1))))))))) fun h0 => rfl)
theorem okL36_1 : LoopOk TT TU GL0 C29 ownF L36 (lp Try.f36 1) :=
  loopOk_of ks36_1 hs36_1 W36_1 FU (fun s k => (G_shadow_clear_1 (toI (cIa (rptrL (cIa (cloL (cIa s.tmps 1)) 0)) 0)) (toI (cIa (rptrL (cIa (cloL (cIa s.tmps 1)) 1)) 0)) (toI (cIa (rptrL (cIa (cloL (cIa s.tmps 1)) 1)) 1)) (toI (cIa s.tmps 2)) (toI (cIa s.tmps 3)) (toI (cIa s.tmps 11)) (toI (cIa s.tmps 12)) (toI (cIa s.tmps 13)) (toI (cIa s.tmps 38)) (toI (cIa (rows0 (blkAt s.heap 0).2) 0)) (toI (cIa (rows0 (blkAt s.heap 0).2) 1)) (roRows (cIa (rows0 (blkAt s.heap 0).2) 2)) (toI (cIa (rows0 (blkAt s.heap 1).2) 0)) (toI (cIa (rows0 (blkAt s.heap 1).2) 1)) (toI (cIa (rows0 (blkAt s.heap 2).2) 0)) (toI (cIa (rows0 (blkAt s.heap 2).2) 1)) FU (toI (cIa s.tmps 39))).bind (X36_1 (toI (cIa (rptrL (cIa (cloL (cIa s.tmps 1)) 0)) 0)) (toI (cIa (rptrL (cIa (cloL (cIa s.tmps 1)) 1)) 0)) (toI (cIa (rptrL (cIa (cloL (cIa s.tmps 1)) 1)) 1)) (toI (cIa s.tmps 2)) (toI (cIa s.tmps 3)) (toI (cIa s.tmps 23)) (toI (cIa s.tmps 24)) (toI (cIa (rows0 (blkAt s.heap 0).2) 0)) (toI (cIa (rows0 (blkAt s.heap 0).2) 1)) (roRows (cIa (rows0 (blkAt s.heap 0).2) 2)) (toI (cIa (rows0 (blkAt s.heap 1).2) 0)) (toI (cIa (rows0 (blkAt s.heap 1).2) 1)) (toI (cIa (rows0 (blkAt s.heap 2).2) 0)) (toI (cIa (rows0 (blkAt s.heap 2).2) 1)) k)) (fun s k => by kernel_rfl) (fun s k => spec36_1 k FU (toI (cIa (rptrL (cIa (cloL (cIa s.tmps 1)) 0)) 0)) (toI (cIa (rptrL (cIa (cloL (cIa s.tmps 1)) 1)) 0)) (toI (cIa (rptrL (cIa (cloL (cIa s.tmps 1)) 1)) 1)) (toI (cIa s.tmps 2)) (toI (cIa s.tmps 3)) (toI (cIa s.tmps 11)) (toI (cIa s.tmps 12)) (toI (cIa s.tmps 13)) (toI (cIa s.tmps 23)) (toI (cIa s.tmps 24)) (toI (cIa s.tmps 38)) (toI (cIa s.tmps 39)) (toI (cIa (rows0 (blkAt s.heap 0).2) 0)) (toI (cIa (rows0 (blkAt s.heap 0).2) 1)) (roRows (cIa (rows0 (blkAt s.heap 0).2) 2)) (toI (cIa (rows0 (blkAt s.heap 1).2) 0)) (toI (cIa (rows0 (blkAt s.heap 1).2) 1)) (toI (cIa (rows0 (blkAt s.heap 2).2) 0)) (toI (cIa (rows0 (blkAt s.heap 2).2) 1)))
@[reducible] noncomputable def B36_0 := bodyOf TT TU GL0 C29 ownF L36 (lp Try.f36 0)
@[reducible] noncomputable def K36_0 (k : Ex → St → Option CR) : Ex → St → Option CR := fun e s => k e (maskS (W36_0 e) s)
theorem spec36_0 (k : Ex → St → Option CR) : ∀ (m : Nat) (at__0_0 : Int) (at__1_0 : Int) (at__1_1 : Int) (i : Int) (j : Int) (x23 : Int) (x24 : Int) (b0_0 : Int) (b0_1 : Int) (b0_2 : List (List AVal)) (b1_0 : Int) (b1_1 : Int) (b2_0 : Int) (b2_1 : Int), loopN B36_0 m (E36_0 at__0_0 at__1_0 at__1_1 i j x23 x24 b0_0 b0_1 b0_2 b1_0 b1_1 b2_0 b2_1) (K36_0 k) = (G_shadow_clear_0 at__0_0 at__1_0 at__1_1 i j x23 b0_0 b0_1 b0_2 b1_0 b1_1 b2_0 b2_1 m x24).bind (X36_0 k)
  | 0, _, _, _, _, _, _, _, _, _, _, _, _, _, _ => rfl
  | m + 1, at__0_0, at__1_0, at__1_1, i, j, x23, x24, b0_0, b0_1, b0_2, b1_0, b1_1, b2_0, b2_1 =>
    Eq.trans (b := (bif (decide (x24 < x23)) then (Option.bind (G_shadow_clear_1 at__0_0 at__1_0 at__1_1 i j x24 (maxI (wr ((wr ((2 : Int) * x24)) - (1 : Int))) (0 : Int)) (minI (wr ((wr ((2 : Int) * x24)) + (1 : Int))) (wr ((2 : Int) * i))) (wr (j + (1 : Int))) b0_0 b0_1 b0_2 b1_0 b1_1 b2_0 b2_1 FU (0 : Int)) fun t => (bif t then (k .ret ⟨[.dead, .dead, .dead, .dead, .dead, .dead, .dead, .dead, (bo false), .dead, .dead, .dead, .dead, .dead, .dead, .dead, .dead, .dead, .dead, .dead, .dead, .dead, .dead, .dead, .dead, .dead, .dead, .dead, .dead, .dead, .dead, .dead, .dead, .dead, .dead, .dead, .dead, .dead, .dead, .dead, .dead, .dead, .dead, .dead, .dead, .dead, .dead, .dead, .dead, .dead, .dead, .dead, .dead, .dead, .dead, .dead, .dead, .dead, .dead, .dead, .dead, .dead, .dead, .dead, .dead, .dead, .dead, .dead, .dead, .dead, .dead, .dead, .dead, .dead, .dead, .dead, .dead, .dead, .dead, .dead, .dead, .dead, .dead], []⟩) else (loopN B36_0 m ⟨[.dead, (AVal.clo 54 [(AVal.rptr [(i64 at__0_0)]), (AVal.rptr [(i64 at__1_0), (i64 at__1_1)])]), (i64 i), (i64 j), (AVal.ref 16000 1 0 0), .dead, .dead, .dead, .dead, (AVal.ref 19296 1 0 0), (AVal.ref 19312 1 0 0), .dead, .dead, .dead, .dead, .dead, .dead, .dead, .dead, .dead, .dead, .dead, .dead, (i64 x23), (i64 (wr (x24 + (1 : Int)))), .dead, .dead, .dead, .dead, .dead, .dead, .dead, .dead, .dead, .dead, .dead, .dead, .dead, .dead, .dead, .dead, .dead, .dead, .dead, .dead, .dead, .dead, .dead, .dead, .dead, .dead, .dead, .dead, .dead, .dead, .dead, .dead, .dead, .dead, .dead, .dead, .dead, .dead, .dead, .dead, .dead, .dead, .dead, .dead, .dead, .dead, .dead, .dead, .dead, .dead, .dead, .dead, .dead, .dead, .dead, .dead, .dead, .dead], [(Prod.mk 16000 (Blk.mk BKind.box 24 3 [[(i64 b0_0), (i64 b0_1), (AVal.ro 3 b0_2)]])), (Prod.mk 19296 (Blk.mk BKind.box 26 2 [[(i64 b1_0), (i64 b1_1)]])), (Prod.mk 19312 (Blk.mk BKind.box 26 2 [[(i64 b2_0), (i64 b2_1)]]))]⟩ (K36_0 k)))) else (k (.exit 0) ⟨[.dead, .dead, .dead, .dead, .dead, .dead, .dead, .dead, .dead, .dead, .dead, .dead, .dead, .dead, .dead, .dead, .dead, .dead, .dead, .dead, .dead, .dead, .dead, .dead, .dead, .dead, .dead, .dead, .dead, .dead, .dead, .dead, .dead, .dead, .dead, .dead, .dead, .dead, .dead, .dead, .dead, .dead, .dead, .dead, .dead, .dead, .dead, .dead, .dead, .dead, .dead, .dead, .dead, .dead, .dead, .dead, .dead, .dead, .dead, .dead, .dead, .dead, .dead, .dead, .dead, .dead, .dead, .dead, .dead, .dead, .dead, .dead, .dead, .dead, .dead, .dead, .dead, .dead, .dead, .dead, .dead, .dead, .dead], []⟩))) (by kernel_rfl)
      (n_condH rfl (fun h0 => (n_bind fun t => (n_condH rfl (fun h1 => rfl) fun h1 => (spec36_0 k m at__0_0 at__1_0 at__1_1 i j x23 (wr (x24 + (1 : Int))) b0_0 b0_1 b0_2 b1_0 b1_1 b2_0 b2_1)))) fun h0 => rfl)
theorem okL36_0 : LoopOk TT TU GL0 C29 ownF L36 (lp Try.f36 0) :=
  loopOk_of ks36_0 hs36_0 W36_0 FU (fun s k => (G_shadow_clear_0 (toI (cIa (rptrL (cIa (cloL (cIa s.tmps 1)) 0)) 0)) (toI (cIa (rptrL (cIa (cloL (cIa s.tmps 1)) 1)) 0)) (toI (cIa (rptrL (cIa (cloL (cIa s.tmps 1)) 1)) 1)) (toI (cIa s.tmps 2)) (toI (cIa s.tmps 3)) (toI (cIa s.tmps 23)) (toI (cIa (rows0 (blkAt s.heap 0).2) 0)) (toI (cIa (rows0 (blkAt s.heap 0).2) 1)) (roRows (cIa (rows0 (blkAt s.heap 0).2) 2)) (toI (cIa (rows0 (blkAt s.heap 1).2) 0)) (toI (cIa (rows0 (blkAt s.heap 1).2) 1)) (toI (cIa (rows0 (blkAt s.heap 2).2) 0)) (toI (cIa (rows0 (blkAt s.heap 2).2) 1)) FU (toI (cIa s.tmps 24))).bind (X36_0 k)) (fun s k => by kernel_rfl) (fun s k => spec36_0 k FU (toI (cIa (rptrL (cIa (cloL (cIa s.tmps 1)) 0)) 0)) (toI (cIa (rptrL (cIa (cloL (cIa s.tmps 1)) 1)) 0)) (toI (cIa (rptrL (cIa (cloL (cIa s.tmps 1)) 1)) 1)) (toI (cIa s.tmps 2)) (toI (cIa s.tmps 3)) (toI (cIa s.tmps 23)) (toI (cIa s.tmps 24)) (toI (cIa (rows0 (blkAt s.heap 0).2) 0)) (toI (cIa (rows0 (blkAt s.heap 0).2) 1)) (roRows (cIa (rows0 (blkAt s.heap 0).2) 2)) (toI (cIa (rows0 (blkAt s.heap 1).2) 0)) (toI (cIa (rows0 (blkAt s.heap 1).2) 1)) (toI (cIa (rows0 (blkAt s.heap 2).2) 0)) (toI (cIa (rows0 (blkAt s.heap 2).2) 1)))
theorem run36 (m_W : Int) (m_H : Int) (m_Cells : List (List AVal)) (at__0 : Int) (at__1_X : Int) (at__1_Y : Int) (i : Int) (j : Int) : fcall TT TU GL0 C29 ownF true L36 Try.f36 [(.agg [(.sc (.int .i64 m_W)), (.sc (.int .i64 m_H)), (.ro 3 m_Cells)]), (.clo 54 [(.rptr [(.sc (.int .i64 at__0))]), (.rptr [(.sc (.int .i64 at__1_X)), (.sc (.int .i64 at__1_Y))])]), (.sc (.int .i64 i)), (.sc (.int .i64 j))] = (F_shadow_clear m_W m_H m_Cells at__0 at__1_X at__1_Y i j).bind fun t => some (enc36 t) :=
  Eq.trans (b := (Option.bind (F_shadow_octant_1 (0 : Int) (0 : Int) at__0 at__1_X at__1_Y) fun t => (Option.bind (F_shadow_octant_1 i j at__0 at__1_X at__1_Y) fun t1 => (Option.bind (G_shadow_clear_0 at__0 at__1_X at__1_Y i j (wr (i + (1 : Int))) m_W m_H m_Cells t.1 t.2 t1.1 t1.2 FU (0 : Int)) fun t2 => (bif t2 then (some (CR.mk true (bo false) [] [])) else (some (CR.mk true (bo true) [] []))))))) (by kernel_rfl)
    (n_bind fun t => (n_bind fun t1 => (n_bind fun t2 => (n_condH rfl (fun h0 => rfl) fun h0 => rfl))))
theorem lib36 : Lib Try.prog GL0 C36 :=
  Lib.fn lib29 mixed TT_ok Try.func36 (by decide +kernel) (by kernel_rfl) true L36 (loops_of 2 (by kernel_rfl) (belowS (belowS below0 okL36_0) okL36_1)) ks36 (F := fun us => F_shadow_clear (toI (cIa (aggL (cIa us 0)) 0)) (toI (cIa (aggL (cIa us 0)) 1)) (roRows (cIa (aggL (cIa us 0)) 2)) (toI (cIa (rptrL (cIa (cloL (cIa us 1)) 0)) 0)) (toI (cIa (rptrL (cIa (cloL (cIa us 1)) 1)) 0)) (toI (cIa (rptrL (cIa (cloL (cIa us 1)) 1)) 1)) (toI (cIa us 2)) (toI (cIa us 3))) (fun us => rfl) (fun us => run36 (toI (cIa (aggL (cIa us 0)) 0)) (toI (cIa (aggL (cIa us 0)) 1)) (roRows (cIa (aggL (cIa us 0)) 2)) (toI (cIa (rptrL (cIa (cloL (cIa us 1)) 0)) 0)) (toI (cIa (rptrL (cIa (cloL (cIa us 1)) 1)) 0)) (toI (cIa (rptrL (cIa (cloL (cIa us 1)) 1)) 1)) (toI (cIa us 2)) (toI (cIa us 3))) (fun t => rfl)

/-! ### 16: skirmish/shadow.Visible -/

noncomputable def W16_0 : Ex → List Bool
  | .ret => [false, false, false, false, false, false, false, false, true, false, false, false, false, false, false, false, false, false, false, false, false, false, false, false, false, false, false, false, false, false, false, false, false, false, false, false, false, false, false, false, false, false, false, false, false, false, false, false, false, false, false, false, false, false, false, false, false, false, false, false, false, false, false, false, false, false, false, false, false, false, false, false, false, false, false, false, false, false, false, false, false, false, false, false, false, false, false, false, false, false, false, false, false, false, false, false, false, false]
  | .exit n => bif Nat.beq n 0 then [false, false, false, false, false, false, false, false, false, true, false, false, false, false, false, false, false, false, false, false, false, false, false, false, false, false, false, false, false, false, false, false, false, false, false, false, false, false, false, false, false, false, false, false, false, false, false, false, false, false, false, false, false, false, false, false, false, false, false, false, false, false, false, false, false, false, false, false, false, false, false, false, false, false, false, false, false, false, false, false, false, false, false, false, false, false, false, false, false, false, false, false, false, false, false, false, false, false] else []
  | .normal => []
noncomputable def W16_1 : Ex → List Bool
  | .ret => [false, false, false, false, false, false, false, false, true, false, false, false, false, false, false, false, false, false, false, false, false, false, false, false, false, false, false, false, false, false, false, false, false, false, false, false, false, false, false, false, false, false, false, false, false, false, false, false, false, false, false, false, false, false, false, false, false, false, false, false, false, false, false, false, false, false, false, false, false, false, false, false, false, false, false, false, false, false, false, false, false, false, false, false, false, false, false, false, false, false, false, false, false, false, false, false, false, false]
  | .exit n => bif Nat.beq n 2 then [false, false, true, true, true, true, false, false, false, true, false, false, false, false, false, false, false, false, false, false, false, false, false, false, false, false, false, false, false, false, false, false, false, false, true, false, false, false, false, false, false, false, false, false, false, false, false, false, false, false, false, false, false, false, false, false, false, false, false, false, false, false, false, false, false, false, true, true, true, true, false, false, true, true, true, true, true, true, true, false, false, false, false, false, false, false, false, true, true, true, true, true, false, false, false, false, false, false] else bif Nat.beq n 1 then [false, false, true, true, true, true, false, false, false, true, false, false, false, false, false, false, false, false, false, false, false, false, false, false, false, false, false, false, false, false, false, false, false, false, true, false, false, false, false, false, false, false, false, false, false, false, false, false, false, false, false, false, false, false, false, false, false, false, false, false, false, false, false, false, false, false, true, true, true, true, false, false, true, true, true, true, true, true, true, false, false, false, false, false, false, false, false, true, true, true, true, true, false, false, false, false, false, false] else bif Nat.beq n 0 then [false, false, false, false, false, false, false, false, false, true, false, false, false, false, false, false, false, false, false, false, false, false, false, false, false, false, false, false, false, false, false, false, false, false, false, false, false, false, false, false, false, false, false, false, false, false, false, false, false, false, false, false, false, false, false, false, false, false, false, false, false, false, false, false, false, false, false, false, false, false, false, false, false, false, false, false, false, false, false, false, false, false, false, false, false, false, false, false, false, false, false, false, false, false, false, false, false, false] else []
  | .normal => []
noncomputable def W16_2 : Ex → List Bool
  | .ret => [false, false, false, false, false, false, false, false, true, false, false, false, false, false, false, false, false, false, false, false, false, false, false, false, false, false, false, false, false, false, false, false, false, false, false, false, false, false, false, false, false, false, false, false, false, false, false, false, false, false, false, false, false, false, false, false, false, false, false, false, false, false, false, false, false, false, false, false, false, false, false, false, false, false, false, false, false, false, false, false, false, false, false, false, false, false, false, false, false, false, false, false, false, false, false, false, false, false]
  | .exit n => bif Nat.beq n 4 then [false, false, true, true, true, true, false, false, false, true, false, true, false, false, false, false, false, false, false, false, false, false, false, false, false, false, false, false, false, false, false, false, false, false, true, false, false, false, false, false, false, true, true, false, false, false, false, false, false, false, false, false, false, false, false, false, false, false, false, false, false, false, false, false, false, false, true, true, true, true, false, false, true, true, true, true, true, true, true, false, false, false, false, false, false, false, false, true, true, true, true, true, false, false, false, false, false, false] else bif Nat.beq n 3 then [false, false, true, true, true, true, false, false, false, true, false, true, false, false, false, false, false, false, false, false, false, false, false, false, false, false, false, false, false, false, false, false, false, false, true, false, false, false, false, false, false, true, true, false, false, false, false, false, false, false, false, false, false, false, false, false, false, false, false, false, false, false, false, false, false, false, true, true, true, true, false, false, true, true, true, true, true, true, true, false, false, false, false, false, false, false, false, true, true, true, true, true, false, false, false, false, false, false] else bif Nat.beq n 2 then [false, false, true, true, true, true, false, false, false, true, false, false, false, false, false, false, false, false, false, false, false, false, false, false, false, false, false, false, false, false, false, false, false, false, true, false, false, false, false, false, false, false, false, false, false, false, false, false, false, false, false, false, false, false, false, false, false, false, false, false, false, false, false, false, false, false, true, true, true, true, false, false, true, true, true, true, true, true, true, false, false, false, false, false, false, false, false, true, true, true, true, true, false, false, false, false, false, false] else bif Nat.beq n 1 then [false, false, true, true, true, true, false, false, false, true, false, false, false, false, false, false, false, false, false, false, false, false, false, false, false, false, false, false, false, false, false, false, false, false, true, false, false, false, false, false, false, false, false, false, false, false, false, false, false, false, false, false, false, false, false, false, false, false, false, false, false, false, false, false, false, false, true, true, true, true, false, false, true, true, true, true, true, true, true, false, false, false, false, false, false, false, false, true, true, true, true, true, false, false, false, false, false, false] else bif Nat.beq n 0 then [false, false, false, false, false, false, false, false, false, true, false, false, false, false, false, false, false, false, false, false, false, false, false, false, false, false, false, false, false, false, false, false, false, false, false, false, false, false, false, false, false, false, false, false, false, false, false, false, false, false, false, false, false, false, false, false, false, false, false, false, false, false, false, false, false, false, false, false, false, false, false, false, false, false, false, false, false, false, false, false, false, false, false, false, false, false, false, false, false, false, false, false, false, false, false, false, false, false] else []
  | .normal => []
noncomputable def G_shadow_Visible_2 (radius : Int) (high : Bool) (at__0_0 : Int) (at__1_0 : Int) (at__1_1 : Int) (i : Int) (x46 : Int) (b0_0 : Int) (b0_1 : Int) (b0_2 : List (List AVal)) : Nat → List (List AVal) → Int → Option (List (List AVal))
  | 0, _, _ => none
  | m + 1, R2, x47 =>
    bif (decide (x47 < x46)) then
      Option.bind (F_shadow_octant_1 i x47 at__0_0 at__1_0 at__1_1) fun t =>
      bif (decide ((wr ((wr (i * i)) + (wr (x47 * x47)))) > (wr (radius * radius)))) then
        G_shadow_Visible_2 radius high at__0_0 at__1_0 at__1_1 i x46 b0_0 b0_1 b0_2 m R2 (wr (x47 + (1 : Int)))
      else
      Option.bind (F_shadow_inside b0_0 b0_1 b0_2 t.1 t.2) fun t1 =>
      bif (!t1) then
        G_shadow_Visible_2 radius high at__0_0 at__1_0 at__1_1 i x46 b0_0 b0_1 b0_2 m R2 (wr (x47 + (1 : Int)))
      else
      Option.bind (F_grid_Index b0_0 t.1 t.2) fun t2 =>
      bif ((decide ((0 : Int) ≤ t2)) && (decide (t2 < (Int.ofNat R2.length)))) then
        Option.bind (R2[t2.toNat]?) fun r =>
        bif (chk [LT.bool] r) then
          bif (cB r 0) then
            G_shadow_Visible_2 radius high at__0_0 at__1_0 at__1_1 i x46 b0_0 b0_1 b0_2 m R2 (wr (x47 + (1 : Int)))
          else
          Option.bind (F_grid_Index b0_0 t.1 t.2) fun t3 =>
          bif high then
            bif ((decide ((0 : Int) ≤ t3)) && (decide (t3 < (Int.ofNat R2.length)))) then
              G_shadow_Visible_2 radius high at__0_0 at__1_0 at__1_1 i x46 b0_0 b0_1 b0_2 m (List.set R2 t3.toNat [(bo true)]) (wr (x47 + (1 : Int)))
            else
            none
          else
          Option.bind (F_shadow_clear b0_0 b0_1 b0_2 at__0_0 at__1_0 at__1_1 i x47) fun t4 =>
          bif ((decide ((0 : Int) ≤ t3)) && (decide (t3 < (Int.ofNat R2.length)))) then
            G_shadow_Visible_2 radius high at__0_0 at__1_0 at__1_1 i x46 b0_0 b0_1 b0_2 m (List.set R2 t3.toNat [(bo t4)]) (wr (x47 + (1 : Int)))
          else
          none
        else
        none
      else
      none
    else
    some R2
noncomputable def E16_2 (R2 : List (List AVal)) (radius : Int) (high : Bool) (at__0_0 : Int) (at__1_0 : Int) (at__1_1 : Int) (i : Int) (x34 : Int) (x41 : Int) (x42 : Int) (x46 : Int) (x47 : Int) (b0_0 : Int) (b0_1 : Int) (b0_2 : List (List AVal)) (b1_0 : Int) (b1_1 : Int) : St := ⟨[.dead, .dead, (.sc (.int .i64 radius)), (.sc (.bool high)), (.ref 16000 1 0 0), (.ref 16016 1 0 0), .dead, .dead, .dead, (.slc 28848 (R2).length), .dead, (.clo 54 [(.rptr [(.sc (.int .i64 at__0_0))]), (.rptr [(.sc (.int .i64 at__1_0)), (.sc (.int .i64 at__1_1))])]), (.sc (.int .i64 i)), .dead, .dead, .dead, .dead, .dead, .dead, .dead, .dead, .dead, .dead, .dead, .dead, .dead, .dead, .dead, .dead, .dead, .dead, .dead, .dead, .dead, (.sc (.int .i64 x34)), .dead, .dead, .dead, .dead, .dead, .dead, (.sc (.int .i64 x41)), (.sc (.int .i64 x42)), .dead, .dead, .dead, (.sc (.int .i64 x46)), (.sc (.int .i64 x47)), .dead, .dead, .dead, .dead, .dead, .dead, .dead, .dead, .dead, .dead, .dead, .dead, .dead, .dead, .dead, .dead, .dead, .dead, .dead, .dead, .dead, .dead, .dead, .dead, .dead, .dead, .dead, .dead, .dead, .dead, .dead, .dead, .dead, .dead, .dead, .dead, .dead, .dead, .dead, .dead, .dead, .dead, .dead, .dead, .dead, .dead, .dead, .dead, .dead, .dead], [(16000, ⟨.box, 24, 3, [[(.sc (.int .i64 b0_0)), (.sc (.int .i64 b0_1)), (.ro 3 b0_2)]]⟩), (16016, ⟨.box, 26, 2, [[(.sc (.int .i64 b1_0)), (.sc (.int .i64 b1_1))]]⟩), (28848, ⟨.arr, 4, 1, R2⟩)]⟩
noncomputable def X16_2 (radius : Int) (high : Bool) (at__0_0 : Int) (at__1_0 : Int) (at__1_1 : Int) (x34 : Int) (x41 : Int) (x42 : Int) (b0_0 : Int) (b0_1 : Int) (b0_2 : List (List AVal)) (b1_0 : Int) (b1_1 : Int) (k : Ex → St → Option CR) (t : List (List AVal)) : Option CR := k (.exit 4) ⟨[.dead, .dead, (.sc (.int .i64 radius)), (.sc (.bool high)), (.ref 16000 1 0 0), (.ref 16016 1 0 0), .dead, .dead, .dead, (.slc 28848 (t).length), .dead, (.clo 54 [(.rptr [(.sc (.int .i64 at__0_0))]), (.rptr [(.sc (.int .i64 at__1_0)), (.sc (.int .i64 at__1_1))])]), .dead, .dead, .dead, .dead, .dead, .dead, .dead, .dead, .dead, .dead, .dead, .dead, .dead, .dead, .dead, .dead, .dead, .dead, .dead, .dead, .dead, .dead, (.sc (.int .i64 x34)), .dead, .dead, .dead, .dead, .dead, .dead, (.sc (.int .i64 x41)), (.sc (.int .i64 x42)), .dead, .dead, .dead, .dead, .dead, .dead, .dead, .dead, .dead, .dead, .dead, .dead, .dead, .dead, .dead, .dead, .dead, .dead, .dead, .dead, .dead, .dead, .dead, .dead, .dead, .dead, .dead, .dead, .dead, .dead, .dead, .dead, .dead, .dead, .dead, .dead, .dead, .dead, .dead, .dead, .dead, .dead, .dead, .dead, .dead, .dead, .dead, .dead, .dead, .dead, .dead, .dead, .dead, .dead, .dead], [(16000, ⟨.box, 24, 3, [[(.sc (.int .i64 b0_0)), (.sc (.int .i64 b0_1)), (.ro 3 b0_2)]]⟩), (16016, ⟨.box, 26, 2, [[(.sc (.int .i64 b1_0)), (.sc (.int .i64 b1_1))]]⟩), (28848, ⟨.arr, 4, 1, t⟩)]⟩
noncomputable def ks16_2 : List SK := [.f .dead, .f .dead, .f (.int .i64), .f (.bool), .f (.ref 16000 1 0 0), .f (.ref 16016 1 0 0), .f .dead, .f .dead, .f .dead, .f (.slc 28848 2), .f .dead, .f (.clo 54 [[.int .i64], [.int .i64, .int .i64]]), .f (.int .i64), .f .dead, .f .dead, .f .dead, .f .dead, .f .dead, .f .dead, .f .dead, .f .dead, .f .dead, .f .dead, .f .dead, .f .dead, .f .dead, .f .dead, .f .dead, .f .dead, .f .dead, .f .dead, .f .dead, .f .dead, .f .dead, .f (.int .i64), .f .dead, .f .dead, .f .dead, .f .dead, .f .dead, .f .dead, .f (.int .i64), .f (.int .i64), .f .dead, .f .dead, .f .dead, .f (.int .i64), .f (.int .i64), .f .dead, .f .dead, .f .dead, .f .dead, .f .dead, .f .dead, .f .dead, .f .dead, .f .dead, .f .dead, .f .dead, .f .dead, .f .dead, .f .dead, .f .dead, .f .dead, .f .dead, .f .dead, .f .dead, .f .dead, .f .dead, .f .dead, .f .dead, .f .dead, .f .dead, .f .dead, .f .dead, .f .dead, .f .dead, .f .dead, .f .dead, .f .dead, .f .dead, .f .dead, .f .dead, .f .dead, .f .dead, .f .dead, .f .dead, .f .dead, .f .dead, .f .dead, .f .dead, .f .dead, .f .dead, .f .dead, .f .dead, .f .dead, .f .dead, .f .dead]
noncomputable def hs16_2 : List HK := [⟨16000, .box, 24, 3, some [.int .i64, .int .i64, .ro 3]⟩, ⟨16016, .box, 26, 2, some [.int .i64, .int .i64]⟩, ⟨28848, .arr, 4, 1, none⟩]
noncomputable def Lm16_2 (s : St) (k : Ex → St → Option CR) : Option CR := bif chkS ks16_2 hs16_2 s then (G_shadow_Visible_2 (toI (cIa s.tmps 2)) (toB (cIa s.tmps 3)) (toI (cIa (rptrL (cIa (cloL (cIa s.tmps 11)) 0)) 0)) (toI (cIa (rptrL (cIa (cloL (cIa s.tmps 11)) 1)) 0)) (toI (cIa (rptrL (cIa (cloL (cIa s.tmps 11)) 1)) 1)) (toI (cIa s.tmps 12)) (toI (cIa s.tmps 46)) (toI (cIa (rows0 (blkAt s.heap 0).2) 0)) (toI (cIa (rows0 (blkAt s.heap 0).2) 1)) (roRows (cIa (rows0 (blkAt s.heap 0).2) 2)) FU (blkAt s.heap 2).2.rows (toI (cIa s.tmps 47))).bind (X16_2 (toI (cIa s.tmps 2)) (toB (cIa s.tmps 3)) (toI (cIa (rptrL (cIa (cloL (cIa s.tmps 11)) 0)) 0)) (toI (cIa (rptrL (cIa (cloL (cIa s.tmps 11)) 1)) 0)) (toI (cIa (rptrL (cIa (cloL (cIa s.tmps 11)) 1)) 1)) (toI (cIa s.tmps 34)) (toI (cIa s.tmps 41)) (toI (cIa s.tmps 42)) (toI (cIa (rows0 (blkAt s.heap 0).2) 0)) (toI (cIa (rows0 (blkAt s.heap 0).2) 1)) (roRows (cIa (rows0 (blkAt s.heap 0).2) 2)) (toI (cIa (rows0 (blkAt s.heap 1).2) 0)) (toI (cIa (rows0 (blkAt s.heap 1).2) 1)) k) else none
noncomputable def L16_2 (s : St) (k : Ex → St → Option CR) : Option CR := Lm16_2 (maskS (maskOf ks16_2) s) k
noncomputable def G_shadow_Visible_1 (radius : Int) (high : Bool) (at__0_0 : Int) (at__1_0 : Int) (at__1_1 : Int) (x41 : Int) (b0_0 : Int) (b0_1 : Int) (b0_2 : List (List AVal)) : Nat → List (List AVal) → Int → Option (List (List AVal))
  | 0, _, _ => none
  | m + 1, R2, x42 =>
    bif (decide (x42 < x41)) then
      Option.bind (G_shadow_Visible_2 radius high at__0_0 at__1_0 at__1_1 x42 (wr (x42 + (1 : Int))) b0_0 b0_1 b0_2 FU R2 (0 : Int)) fun t =>
      G_shadow_Visible_1 radius high at__0_0 at__1_0 at__1_1 x41 b0_0 b0_1 b0_2 m t (wr (x42 + (1 : Int)))
    else
    some R2
noncomputable def E16_1 (R2 : List (List AVal)) (radius : Int) (high : Bool) (at__0_0 : Int) (at__1_0 : Int) (at__1_1 : Int) (x34 : Int) (x41 : Int) (x42 : Int) (b0_0 : Int) (b0_1 : Int) (b0_2 : List (List AVal)) (b1_0 : Int) (b1_1 : Int) : St := ⟨[.dead, .dead, (.sc (.int .i64 radius)), (.sc (.bool high)), (.ref 16000 1 0 0), (.ref 16016 1 0 0), .dead, .dead, .dead, (.slc 28848 (R2).length), .dead, (.clo 54 [(.rptr [(.sc (.int .i64 at__0_0))]), (.rptr [(.sc (.int .i64 at__1_0)), (.sc (.int .i64 at__1_1))])]), .dead, .dead, .dead, .dead, .dead, .dead, .dead, .dead, .dead, .dead, .dead, .dead, .dead, .dead, .dead, .dead, .dead, .dead, .dead, .dead, .dead, .dead, (.sc (.int .i64 x34)), .dead, .dead, .dead, .dead, .dead, .dead, (.sc (.int .i64 x41)), (.sc (.int .i64 x42)), .dead, .dead, .dead, .dead, .dead, .dead, .dead, .dead, .dead, .dead, .dead, .dead, .dead, .dead, .dead, .dead, .dead, .dead, .dead, .dead, .dead, .dead, .dead, .dead, .dead, .dead, .dead, .dead, .dead, .dead, .dead, .dead, .dead, .dead, .dead, .dead, .dead, .dead, .dead, .dead, .dead, .dead, .dead, .dead, .dead, .dead, .dead, .dead, .dead, .dead, .dead, .dead, .dead, .dead, .dead], [(16000, ⟨.box, 24, 3, [[(.sc (.int .i64 b0_0)), (.sc (.int .i64 b0_1)), (.ro 3 b0_2)]]⟩), (16016, ⟨.box, 26, 2, [[(.sc (.int .i64 b1_0)), (.sc (.int .i64 b1_1))]]⟩), (28848, ⟨.arr, 4, 1, R2⟩)]⟩
noncomputable def X16_1 (radius : Int) (high : Bool) (x34 : Int) (b0_0 : Int) (b0_1 : Int) (b0_2 : List (List AVal)) (b1_0 : Int) (b1_1 : Int) (k : Ex → St → Option CR) (t : List (List AVal)) : Option CR := k (.exit 2) ⟨[.dead, .dead, (.sc (.int .i64 radius)), (.sc (.bool high)), (.ref 16000 1 0 0), (.ref 16016 1 0 0), .dead, .dead, .dead, (.slc 28848 (t).length), .dead, .dead, .dead, .dead, .dead, .dead, .dead, .dead, .dead, .dead, .dead, .dead, .dead, .dead, .dead, .dead, .dead, .dead, .dead, .dead, .dead, .dead, .dead, .dead, (.sc (.int .i64 x34)), .dead, .dead, .dead, .dead, .dead, .dead, .dead, .dead, .dead, .dead, .dead, .dead, .dead, .dead, .dead, .dead, .dead, .dead, .dead, .dead, .dead, .dead, .dead, .dead, .dead, .dead, .dead, .dead, .dead, .dead, .dead, .dead, .dead, .dead, .dead, .dead, .dead, .dead, .dead, .dead, .dead, .dead, .dead, .dead, .dead, .dead, .dead, .dead, .dead, .dead, .dead, .dead, .dead, .dead, .dead, .dead, .dead, .dead, .dead, .dead, .dead, .dead, .dead], [(16000, ⟨.box, 24, 3, [[(.sc (.int .i64 b0_0)), (.sc (.int .i64 b0_1)), (.ro 3 b0_2)]]⟩), (16016, ⟨.box, 26, 2, [[(.sc (.int .i64 b1_0)), (.sc (.int .i64 b1_1))]]⟩), (28848, ⟨.arr, 4, 1, t⟩)]⟩
noncomputable def ks16_1 : List SK := [.f .dead, .f .dead, .f (.int .i64), .f (.bool), .f (.ref 16000 1 0 0), .f (.ref 16016 1 0 0), .f .dead, .f .dead, .f .dead, .f (.slc 28848 2), .f .dead, .f (.clo 54 [[.int .i64], [.int .i64, .int .i64]]), .f .dead, .f .dead, .f .dead, .f .dead, .f .dead, .f .dead, .f .dead, .f .dead, .f .dead, .f .dead, .f .dead, .f .dead, .f .dead, .f .dead, .f .dead, .f .dead, .f .dead, .f .dead, .f .dead, .f .dead, .f .dead, .f .dead, .f (.int .i64), .f .dead, .f .dead, .f .dead, .f .dead, .f .dead, .f .dead, .f (.int .i64), .f (.int .i64), .f .dead, .f .dead, .f .dead, .f .dead, .f .dead, .f .dead, .f .dead, .f .dead, .f .dead, .f .dead, .f .dead, .f .dead, .f .dead, .f .dead, .f .dead, .f .dead, .f .dead, .f .dead, .f .dead, .f .dead, .f .dead, .f .dead, .f .dead, .f .dead, .f .dead, .f .dead, .f .dead, .f .dead, .f .dead, .f .dead, .f .dead, .f .dead, .f .dead, .f .dead, .f .dead, .f .dead, .f .dead, .f .dead, .f .dead, .f .dead, .f .dead, .f .dead, .f .dead, .f .dead, .f .dead, .f .dead, .f .dead, .f .dead, .f .dead, .f .dead, .f .dead, .f .dead, .f .dead, .f .dead, .f .dead]
noncomputable def hs16_1 : List HK := [⟨16000, .box, 24, 3, some [.int .i64, .int .i64, .ro 3]⟩, ⟨16016, .box, 26, 2, some [.int .i64, .int .i64]⟩, ⟨28848, .arr, 4, 1, none⟩]
noncomputable def Lm16_1 (s : St) (k : Ex → St → Option CR) : Option CR := bif chkS ks16_1 hs16_1 s then (G_shadow_Visible_1 (toI (cIa s.tmps 2)) (toB (cIa s.tmps 3)) (toI (cIa (rptrL (cIa (cloL (cIa s.tmps 11)) 0)) 0)) (toI (cIa (rptrL (cIa (cloL (cIa s.tmps 11)) 1)) 0)) (toI (cIa (rptrL (cIa (cloL (cIa s.tmps 11)) 1)) 1)) (toI (cIa s.tmps 41)) (toI (cIa (rows0 (blkAt s.heap 0).2) 0)) (toI (cIa (rows0 (blkAt s.heap 0).2) 1)) (roRows (cIa (rows0 (blkAt s.heap 0).2) 2)) FU (blkAt s.heap 2).2.rows (toI (cIa s.tmps 42))).bind (X16_1 (toI (cIa s.tmps 2)) (toB (cIa s.tmps 3)) (toI (cIa s.tmps 34)) (toI (cIa (rows0 (blkAt s.heap 0).2) 0)) (toI (cIa (rows0 (blkAt s.heap 0).2) 1)) (roRows (cIa (rows0 (blkAt s.heap 0).2) 2)) (toI (cIa (rows0 (blkAt s.heap 1).2) 0)) (toI (cIa (rows0 (blkAt s.heap 1).2) 1)) k) else none
noncomputable def L16_1 (s : St) (k : Ex → St → Option CR) : Option CR := Lm16_1 (maskS (maskOf ks16_1) s) k
noncomputable def G_shadow_Visible_0 (radius : Int) (high : Bool) (b0_0 : Int) (b0_1 : Int) (b0_2 : List (List AVal)) (b1_0 : Int) (b1_1 : Int) : Nat → List (List AVal) → Int → Option (List (List AVal))
  | 0, _, _ => none
  | m + 1, R2, x34 =>
    bif (decide (x34 < (8 : Int))) then
      Option.bind (F_shadow_octant b1_0 b1_1 x34) fun t =>
      Option.bind (G_shadow_Visible_1 radius high t.1 t.2.1 t.2.2 (wr (radius + (1 : Int))) b0_0 b0_1 b0_2 FU R2 (0 : Int)) fun t1 =>
      G_shadow_Visible_0 radius high b0_0 b0_1 b0_2 b1_0 b1_1 m t1 (wr (x34 + (1 : Int)))
    else
    some R2
noncomputable def E16_0 (R2 : List (List AVal)) (radius : Int) (high : Bool) (x34 : Int) (b0_0 : Int) (b0_1 : Int) (b0_2 : List (List AVal)) (b1_0 : Int) (b1_1 : Int) : St := ⟨[.dead, .dead, (.sc (.int .i64 radius)), (.sc (.bool high)), (.ref 16000 1 0 0), (.ref 16016 1 0 0), .dead, .dead, .dead, (.slc 28848 (R2).length), .dead, .dead, .dead, .dead, .dead, .dead, .dead, .dead, .dead, .dead, .dead, .dead, .dead, .dead, .dead, .dead, .dead, .dead, .dead, .dead, .dead, .dead, .dead, .dead, (.sc (.int .i64 x34)), .dead, .dead, .dead, .dead, .dead, .dead, .dead, .dead, .dead, .dead, .dead, .dead, .dead, .dead, .dead, .dead, .dead, .dead, .dead, .dead, .dead, .dead, .dead, .dead, .dead, .dead, .dead, .dead, .dead, .dead, .dead, .dead, .dead, .dead, .dead, .dead, .dead, .dead, .dead, .dead, .dead, .dead, .dead, .dead, .dead, .dead, .dead, .dead, .dead, .dead, .dead, .dead, .dead, .dead, .dead, .dead, .dead, .dead, .dead, .dead, .dead, .dead, .dead], [(16000, ⟨.box, 24, 3, [[(.sc (.int .i64 b0_0)), (.sc (.int .i64 b0_1)), (.ro 3 b0_2)]]⟩), (16016, ⟨.box, 26, 2, [[(.sc (.int .i64 b1_0)), (.sc (.int .i64 b1_1))]]⟩), (28848, ⟨.arr, 4, 1, R2⟩)]⟩
noncomputable def X16_0 (k : Ex → St → Option CR) (t : List (List AVal)) : Option CR := k (.exit 0) ⟨[.dead, .dead, .dead, .dead, .dead, .dead, .dead, .dead, .dead, (.slc 28848 (t).length), .dead, .dead, .dead, .dead, .dead, .dead, .dead, .dead, .dead, .dead, .dead, .dead, .dead, .dead, .dead, .dead, .dead, .dead, .dead, .dead, .dead, .dead, .dead, .dead, .dead, .dead, .dead, .dead, .dead, .dead, .dead, .dead, .dead, .dead, .dead, .dead, .dead, .dead, .dead, .dead, .dead, .dead, .dead, .dead, .dead, .dead, .dead, .dead, .dead, .dead, .dead, .dead, .dead, .dead, .dead, .dead, .dead, .dead, .dead, .dead, .dead, .dead, .dead, .dead, .dead, .dead, .dead, .dead, .dead, .dead, .dead, .dead, .dead, .dead, .dead, .dead, .dead, .dead, .dead, .dead, .dead, .dead, .dead, .dead, .dead, .dead, .dead, .dead], [(28848, ⟨.arr, 4, 1, t⟩)]⟩
noncomputable def ks16_0 : List SK := [.f .dead, .f .dead, .f (.int .i64), .f (.bool), .f (.ref 16000 1 0 0), .f (.ref 16016 1 0 0), .f .dead, .f .dead, .f .dead, .f (.slc 28848 2), .f .dead, .f .dead, .f .dead, .f .dead, .f .dead, .f .dead, .f .dead, .f .dead, .f .dead, .f .dead, .f .dead, .f .dead, .f .dead, .f .dead, .f .dead, .f .dead, .f .dead, .f .dead, .f .dead, .f .dead, .f .dead, .f .dead, .f .dead, .f .dead, .f (.int .i64), .f .dead, .f .dead, .f .dead, .f .dead, .f .dead, .f .dead, .f .dead, .f .dead, .f .dead, .f .dead, .f .dead, .f .dead, .f .dead, .f .dead, .f .dead, .f .dead, .f .dead, .f .dead, .f .dead, .f .dead, .f .dead, .f .dead, .f .dead, .f .dead, .f .dead, .f .dead, .f .dead, .f .dead, .f .dead, .f .dead, .f .dead, .f .dead, .f .dead, .f .dead, .f .dead, .f .dead, .f .dead, .f .dead, .f .dead, .f .dead, .f .dead, .f .dead, .f .dead, .f .dead, .f .dead, .f .dead, .f .dead, .f .dead, .f .dead, .f .dead, .f .dead, .f .dead, .f .dead, .f .dead, .f .dead, .f .dead, .f .dead, .f .dead, .f .dead, .f .dead, .f .dead, .f .dead, .f .dead]
noncomputable def hs16_0 : List HK := [⟨16000, .box, 24, 3, some [.int .i64, .int .i64, .ro 3]⟩, ⟨16016, .box, 26, 2, some [.int .i64, .int .i64]⟩, ⟨28848, .arr, 4, 1, none⟩]
noncomputable def Lm16_0 (s : St) (k : Ex → St → Option CR) : Option CR := bif chkS ks16_0 hs16_0 s then (G_shadow_Visible_0 (toI (cIa s.tmps 2)) (toB (cIa s.tmps 3)) (toI (cIa (rows0 (blkAt s.heap 0).2) 0)) (toI (cIa (rows0 (blkAt s.heap 0).2) 1)) (roRows (cIa (rows0 (blkAt s.heap 0).2) 2)) (toI (cIa (rows0 (blkAt s.heap 1).2) 0)) (toI (cIa (rows0 (blkAt s.heap 1).2) 1)) FU (blkAt s.heap 2).2.rows (toI (cIa s.tmps 34))).bind (X16_0 k) else none
noncomputable def L16_0 (s : St) (k : Ex → St → Option CR) : Option CR := Lm16_0 (maskS (maskOf ks16_0) s) k

noncomputable def L16 : LT' := fun i s k => bif Nat.beq i 0 then L16_0 s k else bif Nat.beq i 2 then L16_1 s k else bif Nat.beq i 4 then L16_2 s k else none

/-- 'skirmish/shadow.Visible' -/
noncomputable def F_shadow_Visible (m_W : Int) (m_H : Int) (m_Cells : List (List AVal)) (from__X : Int) (from__Y : Int) (radius : Int) (high : Bool) : Option (List (List AVal)) :=
  Option.bind (F_terrain_Valid m_W m_H m_Cells) fun t =>
  bif (!t) then
    some []
  else
  Option.bind (F_shadow_inside m_W m_H m_Cells from__X from__Y) fun t1 =>
  bif (!t1) then
    some []
  else
  bif (decide (radius < (0 : Int))) then
    some []
  else
  bif ((((decide ((Int.ofNat m_Cells.length) = (Int.ofNat m_Cells.length))) && (decide ((0 : Int) ≤ (Int.ofNat m_Cells.length)))) && (decide ((Int.ofNat m_Cells.length) ≤ (9223372036854775807 : Int)))) && (decide (((1 : Int) * (Int.ofNat m_Cells.length)) ≤ (140737488355328 : Int)))) then
    Option.bind (G_shadow_Visible_0 (minI radius (32 : Int)) high m_W m_H m_Cells from__X from__Y FU (Blk.rows (Blk.mk BKind.arr 4 1 (List.replicate (Int.ofNat m_Cells.length).toNat [(bo false)]))) (0 : Int)) fun t2 =>
    some t2
  else
  none
noncomputable def enc16 (t : List (List AVal)) : CR := ⟨true, (.slc 0 (t).length), [], [⟨.arr, 4, 1, t⟩]⟩
noncomputable def ks16 : List SK := [.agg [.int .i64, .int .i64, .ro 3], .agg [.int .i64, .int .i64], .f (.int .i64), .f (.bool)]
noncomputable def S16 (us : List AVal) : Call := bif chkA ks16 us then Call.of (F_shadow_Visible (toI (cIa (aggL (cIa us 0)) 0)) (toI (cIa (aggL (cIa us 0)) 1)) (roRows (cIa (aggL (cIa us 0)) 2)) (toI (cIa (aggL (cIa us 1)) 0)) (toI (cIa (aggL (cIa us 1)) 1)) (toI (cIa us 2)) (toB (cIa us 3))) enc16 else Call.none
noncomputable def C16 := AI.ext 16 S16 C36

@[reducible] noncomputable def B16_2 := bodyOf TT TU GL0 C36 ownF L16 (lp Try.f16 2)
@[reducible] noncomputable def K16_2 (k : Ex → St → Option CR) : Ex → St → Option CR := fun e s => k e (maskS (W16_2 e) s)
theorem spec16_2 (k : Ex → St → Option CR) : ∀ (m : Nat) (R2 : List (List AVal)) (radius : Int) (high : Bool) (at__0_0 : Int) (at__1_0 : Int) (at__1_1 : Int) (i : Int) (x34 : Int) (x41 : Int) (x42 : Int) (x46 : Int) (x47 : Int) (b0_0 : Int) (b0_1 : Int) (b0_2 : List (List AVal)) (b1_0 : Int) (b1_1 : Int), loopN B16_2 m (E16_2 R2 radius high at__0_0 at__1_0 at__1_1 i x34 x41 x42 x46 x47 b0_0 b0_1 b0_2 b1_0 b1_1) (K16_2 k) = (G_shadow_Visible_2 radius high at__0_0 at__1_0 at__1_1 i x46 b0_0 b0_1 b0_2 m R2 x47).bind (X16_2 radius high at__0_0 at__1_0 at__1_1 x34 x41 x42 b0_0 b0_1 b0_2 b1_0 b1_1 k)
  | 0, _, _, _, _, _, _, _, _, _, _, _, _, _, _, _, _, _ => rfl
  | m + 1, R2, radius, high, at__0_0, at__1_0, at__1_1, i, x34, x41, x42, x46, x47, b0_0, b0_1, b0_2, b1_0, b1_1 =>
    Eq.trans (b := (bif (decide (x47 < x46)) then (Option.bind (F_shadow_octant_1 i x47 at__0_0 at__1_0 at__1_1) fun t => (bif (decide ((wr ((wr (i * i)) + (wr (x47 * x47)))) > (wr (radius * radius)))) then (loopN B16_2 m ⟨[.dead, .dead, (i64 radius), (bo high), (AVal.ref 16000 1 0 0), (AVal.ref 16016 1 0 0), .dead, .dead, .dead, (AVal.slc 28848 R2.length), .dead, (AVal.clo 54 [(AVal.rptr [(i64 at__0_0)]), (AVal.rptr [(i64 at__1_0), (i64 at__1_1)])]), (i64 i), .dead, .dead, .dead, .dead, .dead, .dead, .dead, .dead, .dead, .dead, .dead, .dead, .dead, .dead, .dead, .dead, .dead, .dead, .dead, .dead, .dead, (i64 x34), .dead, .dead, .dead, .dead, .dead, .dead, (i64 x41), (i64 x42), .dead, .dead, .dead, (i64 x46), (i64 (wr (x47 + (1 : Int)))), .dead, .dead, .dead, .dead, .dead, .dead, .dead, .dead, .dead, .dead, .dead, .dead, .dead, .dead, .dead, .dead, .dead, .dead, .dead, .dead, .dead, .dead, .dead, .dead, .dead, .dead, .dead, .dead, .dead, .dead, .dead, .dead, .dead, .dead, .dead, .dead, .dead, .dead, .dead, .dead, .dead, .dead, .dead, .dead, .dead, .dead, .dead, .dead, .dead, .dead], [(Prod.mk 16000 (Blk.mk BKind.box 24 3 [[(i64 b0_0), (i64 b0_1), (AVal.ro 3 b0_2)]])), (Prod.mk 16016 (Blk.mk BKind.box 26 2 [[(i64 b1_0), (i64 b1_1)]])), (Prod.mk 28848 (Blk.mk BKind.arr 4 1 R2))]⟩ (K16_2 k)) else (Option.bind (F_shadow_inside b0_0 b0_1 b0_2 t.1 t.2) fun t1 => (bif (!t1) then (loopN B16_2 m ⟨[.dead, .dead, (i64 radius), (bo high), (AVal.ref 16000 1 0 0), (AVal.ref 16016 1 0 0), .dead, .dead, .dead, (AVal.slc 28848 R2.length), .dead, (AVal.clo 54 [(AVal.rptr [(i64 at__0_0)]), (AVal.rptr [(i64 at__1_0), (i64 at__1_1)])]), (i64 i), .dead, .dead, .dead, .dead, .dead, .dead, .dead, .dead, .dead, .dead, .dead, .dead, .dead, .dead, .dead, .dead, .dead, .dead, .dead, .dead, .dead, (i64 x34), .dead, .dead, .dead, .dead, .dead, .dead, (i64 x41), (i64 x42), .dead, .dead, .dead, (i64 x46), (i64 (wr (x47 + (1 : Int)))), .dead, .dead, .dead, .dead, .dead, .dead, .dead, .dead, .dead, .dead, .dead, .dead, .dead, .dead, .dead, .dead, .dead, .dead, .dead, .dead, .dead, .dead, .dead, .dead, .dead, .dead, .dead, .dead, .dead, .dead, .dead, .dead, .dead, .dead, .dead, .dead, .dead, .dead, .dead, .dead, .dead, .dead, .dead, .dead, .dead, .dead, .dead, .dead, .dead, .dead], [(Prod.mk 16000 (Blk.mk BKind.box 24 3 [[(i64 b0_0), (i64 b0_1), (AVal.ro 3 b0_2)]])), (Prod.mk 16016 (Blk.mk BKind.box 26 2 [[(i64 b1_0), (i64 b1_1)]])), (Prod.mk 28848 (Blk.mk BKind.arr 4 1 R2))]⟩ (K16_2 k)) else (Option.bind (F_grid_Index b0_0 t.1 t.2) fun t2 => (bif (((verEq R2.length R2.length) && (decide ((0 : Int) ≤ t2))) && (decide (t2 < (Int.ofNat R2.length)))) then (bif (verEq R2.length R2.length) then (Option.bind (R2[t2.toNat]?) fun r => (bif (chk [LT.bool] r) then (bif (cB r 0) then (loopN B16_2 m ⟨[.dead, .dead, (i64 radius), (bo high), (AVal.ref 16000 1 0 0), (AVal.ref 16016 1 0 0), .dead, .dead, .dead, (AVal.slc 28848 R2.length), .dead, (AVal.clo 54 [(AVal.rptr [(i64 at__0_0)]), (AVal.rptr [(i64 at__1_0), (i64 at__1_1)])]), (i64 i), .dead, .dead, .dead, .dead, .dead, .dead, .dead, .dead, .dead, .dead, .dead, .dead, .dead, .dead, .dead, .dead, .dead, .dead, .dead, .dead, .dead, (i64 x34), .dead, .dead, .dead, .dead, .dead, .dead, (i64 x41), (i64 x42), .dead, .dead, .dead, (i64 x46), (i64 (wr (x47 + (1 : Int)))), .dead, .dead, .dead, .dead, .dead, .dead, .dead, .dead, .dead, .dead, .dead, .dead, .dead, .dead, .dead, .dead, .dead, .dead, .dead, .dead, .dead, .dead, .dead, .dead, .dead, .dead, .dead, .dead, .dead, .dead, .dead, .dead, .dead, .dead, .dead, .dead, .dead, .dead, .dead, .dead, .dead, .dead, .dead, .dead, .dead, .dead, .dead, .dead, .dead, .dead], [(Prod.mk 16000 (Blk.mk BKind.box 24 3 [[(i64 b0_0), (i64 b0_1), (AVal.ro 3 b0_2)]])), (Prod.mk 16016 (Blk.mk BKind.box 26 2 [[(i64 b1_0), (i64 b1_1)]])), (Prod.mk 28848 (Blk.mk BKind.arr 4 1 R2))]⟩ (K16_2 k)) else (Option.bind (F_grid_Index b0_0 t.1 t.2) fun t3 => (bif high then (bif (((verEq R2.length R2.length) && (decide ((0 : Int) ≤ t3))) && (decide (t3 < (Int.ofNat R2.length)))) then (bif ((((verEq R2.length R2.length) && true) && true) && true) then (loopN B16_2 m ⟨[.dead, .dead, (i64 radius), (bo high), (AVal.ref 16000 1 0 0), (AVal.ref 16016 1 0 0), .dead, .dead, .dead, (AVal.slc 28848 R2.length), .dead, (AVal.clo 54 [(AVal.rptr [(i64 at__0_0)]), (AVal.rptr [(i64 at__1_0), (i64 at__1_1)])]), (i64 i), .dead, .dead, .dead, .dead, .dead, .dead, .dead, .dead, .dead, .dead, .dead, .dead, .dead, .dead, .dead, .dead, .dead, .dead, .dead, .dead, .dead, (i64 x34), .dead, .dead, .dead, .dead, .dead, .dead, (i64 x41), (i64 x42), .dead, .dead, .dead, (i64 x46), (i64 (wr (x47 + (1 : Int)))), .dead, .dead, .dead, .dead, .dead, .dead, .dead, .dead, .dead, .dead, .dead, .dead, .dead, .dead, .dead, .dead, .dead, .dead, .dead, .dead, .dead, .dead, .dead, .dead, .dead, .dead, .dead, .dead, .dead, .dead, .dead, .dead, .dead, .dead, .dead, .dead, .dead, .dead, .dead, .dead, .dead, .dead, .dead, .dead, .dead, .dead, .dead, .dead, .dead, .dead], [(Prod.mk 16000 (Blk.mk BKind.box 24 3 [[(i64 b0_0), (i64 b0_1), (AVal.ro 3 b0_2)]])), (Prod.mk 16016 (Blk.mk BKind.box 26 2 [[(i64 b1_0), (i64 b1_1)]])), (Prod.mk 28848 (Blk.mk BKind.arr 4 1 (List.set R2 t3.toNat [(bo true)])))]⟩ (K16_2 k)) else none) else none) else (Option.bind (F_shadow_clear b0_0 b0_1 b0_2 at__0_0 at__1_0 at__1_1 i x47) fun t4 => (bif (((verEq R2.length R2.length) && (decide ((0 : Int) ≤ t3))) && (decide (t3 < (Int.ofNat R2.length)))) then (bif ((((verEq R2.length R2.length) && true) && true) && true) then (loopN B16_2 m ⟨[.dead, .dead, (i64 radius), (bo high), (AVal.ref 16000 1 0 0), (AVal.ref 16016 1 0 0), .dead, .dead, .dead, (AVal.slc 28848 R2.length), .dead, (AVal.clo 54 [(AVal.rptr [(i64 at__0_0)]), (AVal.rptr [(i64 at__1_0), (i64 at__1_1)])]), (i64 i), .dead, .dead, .dead, .dead, .dead, .dead, .dead, .dead, .dead, .dead, .dead, .dead, .dead, .dead, .dead, .dead, .dead, .dead, .dead, .dead, .dead, (i64 x34), .dead, .dead, .dead, .dead, .dead, .dead, (i64 x41), (i64 x42), .dead, .dead, .dead, (i64 x46), (i64 (wr (x47 + (1 : Int)))), .dead, .dead, .dead, .dead, .dead, .dead, .dead, .dead, .dead, .dead, .dead, .dead, .dead, .dead, .dead, .dead, .dead, .dead, .dead, .dead, .dead, .dead, .dead, .dead, .dead, .dead, .dead, .dead, .dead, .dead, .dead, .dead, .dead, .dead, .dead, .dead, .dead, .dead, .dead, .dead, .dead, .dead, .dead, .dead, .dead, .dead, .dead, .dead, .dead, .dead], [(Prod.mk 16000 (Blk.mk BKind.box 24 3 [[(i64 b0_0), (i64 b0_1), (AVal.ro 3 b0_2)]])), (Prod.mk 16016 (Blk.mk BKind.box 26 2 [[(i64 b1_0), (i64 b1_1)]])), (Prod.mk 28848 (Blk.mk BKind.arr 4 1 (List.set R2 t3.toNat [(bo t4)])))]⟩ (K16_2 k)) else none) else none))))) else none)) else none) else none)))))) else (k (.exit 4) ⟨[.dead, .dead, (i64 radius), (bo high), (AVal.ref 16000 1 0 0), (AVal.ref 16016 1 0 0), .dead, .dead, .dead, (AVal.slc 28848 R2.length), .dead, (AVal.clo 54 [(AVal.rptr [(i64 at__0_0)]), (AVal.rptr [(i64 at__1_0), (i64 at__1_1)])]), .dead, .dead, .dead, .dead, .dead, .dead, .dead, .dead, .dead, .dead, .dead, .dead, .dead, .dead, .dead, .dead, .dead, .dead, .dead, .dead, .dead, .dead, (i64 x34), .dead, .dead, .dead, .dead, .dead, .dead, (i64 x41), (i64 x42), .dead, .dead, .dead, .dead, .dead, .dead, .dead, .dead, .dead, .dead, .dead, .dead, .dead, .dead, .dead, .dead, .dead, .dead, .dead, .dead, .dead, .dead, .dead, .dead, .dead, .dead, .dead, .dead, .dead, .dead, .dead, .dead, .dead, .dead, .dead, .dead, .dead, .dead, .dead, .dead, .dead, .dead, .dead, .dead, .dead, .dead, .dead, .dead, .dead, .dead, .dead, .dead, .dead, .dead, .dead], [(Prod.mk 16000 (Blk.mk BKind.box 24 3 [[(i64 b0_0), (i64 b0_1), (AVal.ro 3 b0_2)]])), (Prod.mk 16016 (Blk.mk BKind.box 26 2 [[(i64 b1_0), (i64 b1_1)]])), (Prod.mk 28848 (Blk.mk BKind.arr 4 1 R2))]⟩))) (by kernel_rfl)
      (n_condH rfl (fun h0 => (n_bind fun t => (n_condH rfl (fun h1 => (spec16_2 k m R2 radius high at__0_0 at__1_0 at__1_1 i x34 x41 x42 x46 (wr (x47 + (1 : Int))) b0_0 b0_1 b0_2 b1_0 b1_1)) fun h1 => (n_bind fun t1 => (n_condH rfl (fun h2 => (spec16_2 k m R2 radius high at__0_0 at__1_0 at__1_1 i x34 x41 x42 x46 (wr (x47 + (1 : Int))) b0_0 b0_1 b0_2 b1_0 b1_1)) fun h2 => (n_bind fun t2 => (n_condH (n_and (n_andL (verEq_rfl _) rfl) rfl) (fun h3 => (n_true (verEq_rfl _) (n_bind fun r => (n_condH rfl (fun h4 => (n_condH rfl (fun h5 => (spec16_2 k m R2 radius high at__0_0 at__1_0 at__1_1 i x34 x41 x42 x46 (wr (x47 + (1 : Int))) b0_0 b0_1 b0_2 b1_0 b1_1)) fun h5 => (n_bind fun t3 => (n_condH rfl (fun h6 => (n_condH (n_and (n_andL (verEq_rfl _) rfl) rfl) (fun h7 => (n_true (n_andL (n_andL (n_andL (verEq_rfl _) rfl) rfl) rfl) ((congrArg (fun z => loopN B16_2 m z (K16_2 k)) (by simp [E16_2] : _ = E16_2 (List.set R2 t3.toNat [(bo true)]) radius high at__0_0 at__1_0 at__1_1 i x34 x41 x42 x46 (wr (x47 + (1 : Int))) b0_0 b0_1 b0_2 b1_0 b1_1)).trans (spec16_2 k m (List.set R2 t3.toNat [(bo true)]) radius high at__0_0 at__1_0 at__1_1 i x34 x41 x42 x46 (wr (x47 + (1 : Int))) b0_0 b0_1 b0_2 b1_0 b1_1)))) fun h7 => n_none)) fun h6 => (n_bind fun t4 => (n_condH (n_and (n_andL (verEq_rfl _) rfl) rfl) (fun h7 => (n_true (n_andL (n_andL (n_andL (verEq_rfl _) rfl) rfl) rfl) ((congrArg (fun z => loopN B16_2 m z (K16_2 k)) (by simp [E16_2] : _ = E16_2 (List.set R2 t3.toNat [(bo t4)]) radius high at__0_0 at__1_0 at__1_1 i x34 x41 x42 x46 (wr (x47 + (1 : Int))) b0_0 b0_1 b0_2 b1_0 b1_1)).trans (spec16_2 k m (List.set R2 t3.toNat [(bo t4)]) radius high at__0_0 at__1_0 at__1_1 i x34 x41 x42 x46 (wr (x47 + (1 : Int))) b0_0 b0_1 b0_2 b1_0 b1_1)))) fun h7 => n_none)))))) fun h4 => n_none)))) fun h3 => n_none))))))) fun h0 => rfl)
theorem okL16_2 : LoopOk TT TU GL0 C36 ownF L16 (lp Try.f16 2) :=
  loopOk_of ks16_2 hs16_2 W16_2 FU (fun s k => (G_shadow_Visible_2 (toI (cIa s.tmps 2)) (toB (cIa s.tmps 3)) (toI (cIa (rptrL (cIa (cloL (cIa s.tmps 11)) 0)) 0)) (toI (cIa (rptrL (cIa (cloL (cIa s.tmps 11)) 1)) 0)) (toI (cIa (rptrL (cIa (cloL (cIa s.tmps 11)) 1)) 1)) (toI (cIa s.tmps 12)) (toI (cIa s.tmps 46)) (toI (cIa (rows0 (blkAt s.heap 0).2) 0)) (toI (cIa (rows0 (blkAt s.heap 0).2) 1)) (roRows (cIa (rows0 (blkAt s.heap 0).2) 2)) FU (blkAt s.heap 2).2.rows (toI (cIa s.tmps 47))).bind (X16_2 (toI (cIa s.tmps 2)) (toB (cIa s.tmps 3)) (toI (cIa (rptrL (cIa (cloL (cIa s.tmps 11)) 0)) 0)) (toI (cIa (rptrL (cIa (cloL (cIa s.tmps 11)) 1)) 0)) (toI (cIa (rptrL (cIa (cloL (cIa s.tmps 11)) 1)) 1)) (toI (cIa s.tmps 34)) (toI (cIa s.tmps 41)) (toI (cIa s.tmps 42)) (toI (cIa (rows0 (blkAt s.heap 0).2) 0)) (toI (cIa (rows0 (blkAt s.heap 0).2) 1)) (roRows (cIa (rows0 (blkAt s.heap 0).2) 2)) (toI (cIa (rows0 (blkAt s.heap 1).2) 0)) (toI (cIa (rows0 (blkAt s.heap 1).2) 1)) k)) (fun s k => by kernel_rfl) (fun s k => spec16_2 k FU (blkAt s.heap 2).2.rows (toI (cIa s.tmps 2)) (toB (cIa s.tmps 3)) (toI (cIa (rptrL (cIa (cloL (cIa s.tmps 11)) 0)) 0)) (toI (cIa (rptrL (cIa (cloL (cIa s.tmps 11)) 1)) 0)) (toI (cIa (rptrL (cIa (cloL (cIa s.tmps 11)) 1)) 1)) (toI (cIa s.tmps 12)) (toI (cIa s.tmps 34)) (toI (cIa s.tmps 41)) (toI (cIa s.tmps 42)) (toI (cIa s.tmps 46)) (toI (cIa s.tmps 47)) (toI (cIa (rows0 (blkAt s.heap 0).2) 0)) (toI (cIa (rows0 (blkAt s.heap 0).2) 1)) (roRows (cIa (rows0 (blkAt s.heap 0).2) 2)) (toI (cIa (rows0 (blkAt s.heap 1).2) 0)) (toI (cIa (rows0 (blkAt s.heap 1).2) 1)))
@[reducible] noncomputable def B16_1 := bodyOf TT TU GL0 C36 ownF L16 (lp Try.f16 1)
@[reducible] noncomputable def K16_1 (k : Ex → St → Option CR) : Ex → St → Option CR := fun e s => k e (maskS (W16_1 e) s)
theorem spec16_1 (k : Ex → St → Option CR) : ∀ (m : Nat) (R2 : List (List AVal)) (radius : Int) (high : Bool) (at__0_0 : Int) (at__1_0 : Int) (at__1_1 : Int) (x34 : Int) (x41 : Int) (x42 : Int) (b0_0 : Int) (b0_1 : Int) (b0_2 : List (List AVal)) (b1_0 : Int) (b1_1 : Int), loopN B16_1 m (E16_1 R2 radius high at__0_0 at__1_0 at__1_1 x34 x41 x42 b0_0 b0_1 b0_2 b1_0 b1_1) (K16_1 k) = (G_shadow_Visible_1 radius high at__0_0 at__1_0 at__1_1 x41 b0_0 b0_1 b0_2 m R2 x42).bind (X16_1 radius high x34 b0_0 b0_1 b0_2 b1_0 b1_1 k)
  | 0, _, _, _, _, _, _, _, _, _, _, _, _, _, _ => rfl
  | m + 1, R2, radius, high, at__0_0, at__1_0, at__1_1, x34, x41, x42, b0_0, b0_1, b0_2, b1_0, b1_1 =>
    Eq.trans (b := (bif (decide (x42 < x41)) then (bif (((true && (verEq R2.length (blkLen [(Prod.mk 16000 (Blk.mk BKind.box 24 3 [[(i64 b0_0), (i64 b0_1), (AVal.ro 3 b0_2)]])), (Prod.mk 16016 (Blk.mk BKind.box 26 2 [[(i64 b1_0), (i64 b1_1)]])), (Prod.mk 28848 (Blk.mk BKind.arr 4 1 R2))] 2))) && true) && true) then (Option.bind (G_shadow_Visible_2 radius high at__0_0 at__1_0 at__1_1 x42 (wr (x42 + (1 : Int))) b0_0 b0_1 b0_2 FU R2 (0 : Int)) fun t => (loopN B16_1 m ⟨[.dead, .dead, (i64 radius), (bo high), (AVal.ref 16000 1 0 0), (AVal.ref 16016 1 0 0), .dead, .dead, .dead, (AVal.slc 28848 t.length), .dead, (AVal.clo 54 [(AVal.rptr [(i64 at__0_0)]), (AVal.rptr [(i64 at__1_0), (i64 at__1_1)])]), .dead, .dead, .dead, .dead, .dead, .dead, .dead, .dead, .dead, .dead, .dead, .dead, .dead, .dead, .dead, .dead, .dead, .dead, .dead, .dead, .dead, .dead, (i64 x34), .dead, .dead, .dead, .dead, .dead, .dead, (i64 x41), (i64 (wr (x42 + (1 : Int)))), .dead, .dead, .dead, .dead, .dead, .dead, .dead, .dead, .dead, .dead, .dead, .dead, .dead, .dead, .dead, .dead, .dead, .dead, .dead, .dead, .dead, .dead, .dead, .dead, .dead, .dead, .dead, .dead, .dead, .dead, .dead, .dead, .dead, .dead, .dead, .dead, .dead, .dead, .dead, .dead, .dead, .dead, .dead, .dead, .dead, .dead, .dead, .dead, .dead, .dead, .dead, .dead, .dead, .dead, .dead], [(Prod.mk 16000 (Blk.mk BKind.box 24 3 [[(i64 b0_0), (i64 b0_1), (AVal.ro 3 b0_2)]])), (Prod.mk 16016 (Blk.mk BKind.box 26 2 [[(i64 b1_0), (i64 b1_1)]])), (Prod.mk 28848 (Blk.mk BKind.arr 4 1 t))]⟩ (K16_1 k))) else none) else (k (.exit 2) ⟨[.dead, .dead, (i64 radius), (bo high), (AVal.ref 16000 1 0 0), (AVal.ref 16016 1 0 0), .dead, .dead, .dead, (AVal.slc 28848 R2.length), .dead, .dead, .dead, .dead, .dead, .dead, .dead, .dead, .dead, .dead, .dead, .dead, .dead, .dead, .dead, .dead, .dead, .dead, .dead, .dead, .dead, .dead, .dead, .dead, (i64 x34), .dead, .dead, .dead, .dead, .dead, .dead, .dead, .dead, .dead, .dead, .dead, .dead, .dead, .dead, .dead, .dead, .dead, .dead, .dead, .dead, .dead, .dead, .dead, .dead, .dead, .dead, .dead, .dead, .dead, .dead, .dead, .dead, .dead, .dead, .dead, .dead, .dead, .dead, .dead, .dead, .dead, .dead, .dead, .dead, .dead, .dead, .dead, .dead, .dead, .dead, .dead, .dead, .dead, .dead, .dead, .dead, .dead, .dead, .dead, .dead, .dead, .dead, .dead], [(Prod.mk 16000 (Blk.mk BKind.box 24 3 [[(i64 b0_0), (i64 b0_1), (AVal.ro 3 b0_2)]])), (Prod.mk 16016 (Blk.mk BKind.box 26 2 [[(i64 b1_0), (i64 b1_1)]])), (Prod.mk 28848 (Blk.mk BKind.arr 4 1 R2))]⟩))) (by kernel_rfl)
      (n_condH rfl (fun h0 => (n_true (n_andL (n_andL (n_andL rfl (by first | exact verEq_of rfl | simp [verEq, blkLen, blkAt])) rfl) rfl) (n_bind fun t => (spec16_1 k m t radius high at__0_0 at__1_0 at__1_1 x34 x41 (wr (x42 + (1 : Int))) b0_0 b0_1 b0_2 b1_0 b1_1)))) fun h0 => rfl)
theorem okL16_1 : LoopOk TT TU GL0 C36 ownF L16 (lp Try.f16 1) :=
  loopOk_of ks16_1 hs16_1 W16_1 FU (fun s k => (G_shadow_Visible_1 (toI (cIa s.tmps 2)) (toB (cIa s.tmps 3)) (toI (cIa (rptrL (cIa (cloL (cIa s.tmps 11)) 0)) 0)) (toI (cIa (rptrL (cIa (cloL (cIa s.tmps 11)) 1)) 0)) (toI (cIa (rptrL (cIa (cloL (cIa s.tmps 11)) 1)) 1)) (toI (cIa s.tmps 41)) (toI (cIa (rows0 (blkAt s.heap 0).2) 0)) (toI (cIa (rows0 (blkAt s.heap 0).2) 1)) (roRows (cIa (rows0 (blkAt s.heap 0).2) 2)) FU (blkAt s.heap 2).2.rows (toI (cIa s.tmps 42))).bind (X16_1 (toI (cIa s.tmps 2)) (toB (cIa s.tmps 3)) (toI (cIa s.tmps 34)) (toI (cIa (rows0 (blkAt s.heap 0).2) 0)) (toI (cIa (rows0 (blkAt s.heap 0).2) 1)) (roRows (cIa (rows0 (blkAt s.heap 0).2) 2)) (toI (cIa (rows0 (blkAt s.heap 1).2) 0)) (toI (cIa (rows0 (blkAt s.heap 1).2) 1)) k)) (fun s k => by kernel_rfl) (fun s k => spec16_1 k FU (blkAt s.heap 2).2.rows (toI (cIa s.tmps 2)) (toB (cIa s.tmps 3)) (toI (cIa (rptrL (cIa (cloL (cIa s.tmps 11)) 0)) 0)) (toI (cIa (rptrL (cIa (cloL (cIa s.tmps 11)) 1)) 0)) (toI (cIa (rptrL (cIa (cloL (cIa s.tmps 11)) 1)) 1)) (toI (cIa s.tmps 34)) (toI (cIa s.tmps 41)) (toI (cIa s.tmps 42)) (toI (cIa (rows0 (blkAt s.heap 0).2) 0)) (toI (cIa (rows0 (blkAt s.heap 0).2) 1)) (roRows (cIa (rows0 (blkAt s.heap 0).2) 2)) (toI (cIa (rows0 (blkAt s.heap 1).2) 0)) (toI (cIa (rows0 (blkAt s.heap 1).2) 1)))
@[reducible] noncomputable def B16_0 := bodyOf TT TU GL0 C36 ownF L16 (lp Try.f16 0)
@[reducible] noncomputable def K16_0 (k : Ex → St → Option CR) : Ex → St → Option CR := fun e s => k e (maskS (W16_0 e) s)
theorem spec16_0 (k : Ex → St → Option CR) : ∀ (m : Nat) (R2 : List (List AVal)) (radius : Int) (high : Bool) (x34 : Int) (b0_0 : Int) (b0_1 : Int) (b0_2 : List (List AVal)) (b1_0 : Int) (b1_1 : Int), loopN B16_0 m (E16_0 R2 radius high x34 b0_0 b0_1 b0_2 b1_0 b1_1) (K16_0 k) = (G_shadow_Visible_0 radius high b0_0 b0_1 b0_2 b1_0 b1_1 m R2 x34).bind (X16_0 k)
  | 0, _, _, _, _, _, _, _, _, _ => rfl
  | m + 1, R2, radius, high, x34, b0_0, b0_1, b0_2, b1_0, b1_1 =>
    Eq.trans (b := (bif (decide (x34 < (8 : Int))) then (Option.bind (F_shadow_octant b1_0 b1_1 x34) fun t => (bif (((true && (verEq R2.length (blkLen [(Prod.mk 16000 (Blk.mk BKind.box 24 3 [[(i64 b0_0), (i64 b0_1), (AVal.ro 3 b0_2)]])), (Prod.mk 16016 (Blk.mk BKind.box 26 2 [[(i64 b1_0), (i64 b1_1)]])), (Prod.mk 28848 (Blk.mk BKind.arr 4 1 R2))] 2))) && true) && true) then (Option.bind (G_shadow_Visible_1 radius high t.1 t.2.1 t.2.2 (wr (radius + (1 : Int))) b0_0 b0_1 b0_2 FU R2 (0 : Int)) fun t1 => (loopN B16_0 m ⟨[.dead, .dead, (i64 radius), (bo high), (AVal.ref 16000 1 0 0), (AVal.ref 16016 1 0 0), .dead, .dead, .dead, (AVal.slc 28848 t1.length), .dead, .dead, .dead, .dead, .dead, .dead, .dead, .dead, .dead, .dead, .dead, .dead, .dead, .dead, .dead, .dead, .dead, .dead, .dead, .dead, .dead, .dead, .dead, .dead, (i64 (wr (x34 + (1 : Int)))), .dead, .dead, .dead, .dead, .dead, .dead, .dead, .dead, .dead, .dead, .dead, .dead, .dead, .dead, .dead, .dead, .dead, .dead, .dead, .dead, .dead, .dead, .dead, .dead, .dead, .dead, .dead, .dead, .dead, .dead, .dead, .dead, .dead, .dead, .dead, .dead, .dead, .dead, .dead, .dead, .dead, .dead, .dead, .dead, .dead, .dead, .dead, .dead, .dead, .dead, .dead, .dead, .dead, .dead, .dead, .dead, .dead, .dead, .dead, .dead, .dead, .dead, .dead], [(Prod.mk 16000 (Blk.mk BKind.box 24 3 [[(i64 b0_0), (i64 b0_1), (AVal.ro 3 b0_2)]])), (Prod.mk 16016 (Blk.mk BKind.box 26 2 [[(i64 b1_0), (i64 b1_1)]])), (Prod.mk 28848 (Blk.mk BKind.arr 4 1 t1))]⟩ (K16_0 k))) else none)) else (k (.exit 0) ⟨[.dead, .dead, .dead, .dead, .dead, .dead, .dead, .dead, .dead, (AVal.slc 28848 R2.length), .dead, .dead, .dead, .dead, .dead, .dead, .dead, .dead, .dead, .dead, .dead, .dead, .dead, .dead, .dead, .dead, .dead, .dead, .dead, .dead, .dead, .dead, .dead, .dead, .dead, .dead, .dead, .dead, .dead, .dead, .dead, .dead, .dead, .dead, .dead, .dead, .dead, .dead, .dead, .dead, .dead, .dead, .dead, .dead, .dead, .dead, .dead, .dead, .dead, .dead, .dead, .dead, .dead, .dead, .dead, .dead, .dead, .dead, .dead, .dead, .dead, .dead, .dead, .dead, .dead, .dead, .dead, .dead, .dead, .dead, .dead, .dead, .dead, .dead, .dead, .dead, .dead, .dead, .dead, .dead, .dead, .dead, .dead, .dead, .dead, .dead, .dead, .dead], [(Prod.mk 28848 (Blk.mk BKind.arr 4 1 R2))]⟩))) (by kernel_rfl)
      (n_condH rfl (fun h0 => (n_bind fun t => (n_true (n_andL (n_andL (n_andL rfl (by first | exact verEq_of rfl | simp [verEq, blkLen, blkAt])) rfl) rfl) (n_bind fun t1 => (spec16_0 k m t1 radius high (wr (x34 + (1 : Int))) b0_0 b0_1 b0_2 b1_0 b1_1))))) fun h0 => rfl)
theorem okL16_0 : LoopOk TT TU GL0 C36 ownF L16 (lp Try.f16 0) :=
  loopOk_of ks16_0 hs16_0 W16_0 FU (fun s k => (G_shadow_Visible_0 (toI (cIa s.tmps 2)) (toB (cIa s.tmps 3)) (toI (cIa (rows0 (blkAt s.heap 0).2) 0)) (toI (cIa (rows0 (blkAt s.heap 0).2) 1)) (roRows (cIa (rows0 (blkAt s.heap 0).2) 2)) (toI (cIa (rows0 (blkAt s.heap 1).2) 0)) (toI (cIa (rows0 (blkAt s.heap 1).2) 1)) FU (blkAt s.heap 2).2.rows (toI (cIa s.tmps 34))).bind (X16_0 k)) (fun s k => by kernel_rfl) (fun s k => spec16_0 k FU (blkAt s.heap 2).2.rows (toI (cIa s.tmps 2)) (toB (cIa s.tmps 3)) (toI (cIa s.tmps 34)) (toI (cIa (rows0 (blkAt s.heap 0).2) 0)) (toI (cIa (rows0 (blkAt s.heap 0).2) 1)) (roRows (cIa (rows0 (blkAt s.heap 0).2) 2)) (toI (cIa (rows0 (blkAt s.heap 1).2) 0)) (toI (cIa (rows0 (blkAt s.heap 1).2) 1)))
theorem run16 (m_W : Int) (m_H : Int) (m_Cells : List (List AVal)) (from__X : Int) (from__Y : Int) (radius : Int) (high : Bool) : fcall TT TU GL0 C36 ownF true L16 Try.f16 [(.agg [(.sc (.int .i64 m_W)), (.sc (.int .i64 m_H)), (.ro 3 m_Cells)]), (.agg [(.sc (.int .i64 from__X)), (.sc (.int .i64 from__Y))]), (.sc (.int .i64 radius)), (.sc (.bool high))] = (F_shadow_Visible m_W m_H m_Cells from__X from__Y radius high).bind fun t => some (enc16 t) :=
  Eq.trans (b := (Option.bind (F_terrain_Valid m_W m_H m_Cells) fun t => (bif (!t) then (some (CR.mk true (AVal.slc 0 0) [] [(Blk.mk BKind.arr 4 1 [])])) else (Option.bind (F_shadow_inside m_W m_H m_Cells from__X from__Y) fun t1 => (bif (!t1) then (some (CR.mk true (AVal.slc 0 0) [] [(Blk.mk BKind.arr 4 1 [])])) else (bif (decide (radius < (0 : Int))) then (some (CR.mk true (AVal.slc 0 0) [] [(Blk.mk BKind.arr 4 1 [])])) else (bif ((((decide ((Int.ofNat m_Cells.length) = (Int.ofNat m_Cells.length))) && (decide ((0 : Int) ≤ (Int.ofNat m_Cells.length)))) && (decide ((Int.ofNat m_Cells.length) ≤ (9223372036854775807 : Int)))) && (decide (((1 : Int) * (Int.ofNat m_Cells.length)) ≤ (140737488355328 : Int)))) then (bif (((true && (verEq (List.replicate (Int.ofNat m_Cells.length).toNat [(bo false)]).length (blkLen [(Prod.mk 16000 (Blk.mk BKind.box 24 3 [[(i64 m_W), (i64 m_H), (AVal.ro 3 m_Cells)]])), (Prod.mk 16016 (Blk.mk BKind.box 26 2 [[(i64 from__X), (i64 from__Y)]])), (Prod.mk 28848 (Blk.mk BKind.arr 4 1 (List.replicate (Int.ofNat m_Cells.length).toNat [(bo false)])))] 2))) && true) && true) then (Option.bind (G_shadow_Visible_0 (minI radius (32 : Int)) high m_W m_H m_Cells from__X from__Y FU (Blk.rows (Blk.mk BKind.arr 4 1 (List.replicate (Int.ofNat m_Cells.length).toNat [(bo false)]))) (0 : Int)) fun t2 => (bif (verEq t2.length t2.length) then (some (CR.mk true (AVal.slc 0 t2.length) [] [(Blk.mk BKind.arr 4 1 t2)])) else none)) else none) else none))))))) (by kernel_rfl)
    (n_bind fun t => (n_condH rfl (fun h0 => rfl) fun h0 => (n_bind fun t1 => (n_condH rfl (fun h1 => rfl) fun h1 => (n_condH rfl (fun h2 => rfl) fun h2 => (n_condH rfl (fun h3 => (n_true (n_andL (n_andL (n_andL rfl (by first | exact verEq_of rfl | simp [verEq, blkLen, blkAt])) rfl) rfl) (n_bind fun t2 => (n_true (verEq_rfl _) rfl)))) fun h3 => n_none))))))
theorem lib16 : Lib Try.prog GL0 C16 :=
  Lib.fn lib36 mixed TT_ok Try.func16 (by decide +kernel) (by kernel_rfl) true L16 (loops_of 3 (by kernel_rfl) (belowS (belowS (belowS below0 okL16_0) okL16_1) okL16_2)) ks16 (F := fun us => F_shadow_Visible (toI (cIa (aggL (cIa us 0)) 0)) (toI (cIa (aggL (cIa us 0)) 1)) (roRows (cIa (aggL (cIa us 0)) 2)) (toI (cIa (aggL (cIa us 1)) 0)) (toI (cIa (aggL (cIa us 1)) 1)) (toI (cIa us 2)) (toB (cIa us 3))) (fun us => rfl) (fun us => run16 (toI (cIa (aggL (cIa us 0)) 0)) (toI (cIa (aggL (cIa us 0)) 1)) (roRows (cIa (aggL (cIa us 0)) 2)) (toI (cIa (aggL (cIa us 1)) 0)) (toI (cIa (aggL (cIa us 1)) 1)) (toI (cIa us 2)) (toB (cIa us 3))) (fun t => rfl)

/-! ### 32: skirmish/shadow.sees -/



/-- 'skirmish/shadow.sees' -/
noncomputable def F_shadow_sees (m_W : Int) (m_H : Int) (m_Cells : List (List AVal)) (a_X : Int) (a_Y : Int) (b_X : Int) (b_Y : Int) : Option (Bool) :=
  bif (decide ((wr (b_X - a_X)) < (0 : Int))) then
    bif (decide ((wr (b_Y - a_Y)) < (0 : Int))) then
      bif (decide ((wr ((0 : Int) - (wr (b_Y - a_Y)))) > (wr ((0 : Int) - (wr (b_X - a_X)))))) then
        Option.bind (F_shadow_octant a_X a_Y (wr (Int.ofNat (BitVec.toNat (HOr.hOr (BitVec.ofInt 64 (wr (Int.ofNat (BitVec.toNat (HOr.hOr (BitVec.ofInt 64 (wr (Int.ofNat (BitVec.toNat (HOr.hOr (BitVec.ofInt 64 (0 : Int)) (BitVec.ofInt 64 (2 : Int))))))) (BitVec.ofInt 64 (4 : Int))))))) (BitVec.ofInt 64 (1 : Int))))))) fun t =>
        Option.bind (F_shadow_clear m_W m_H m_Cells t.1 t.2.1 t.2.2 (wr ((0 : Int) - (wr (b_Y - a_Y)))) (wr ((0 : Int) - (wr (b_X - a_X))))) fun t1 =>
        some t1
      else
      Option.bind (F_shadow_octant a_X a_Y (wr (Int.ofNat (BitVec.toNat (HOr.hOr (BitVec.ofInt 64 (wr (Int.ofNat (BitVec.toNat (HOr.hOr (BitVec.ofInt 64 (0 : Int)) (BitVec.ofInt 64 (2 : Int))))))) (BitVec.ofInt 64 (4 : Int))))))) fun t2 =>
      Option.bind (F_shadow_clear m_W m_H m_Cells t2.1 t2.2.1 t2.2.2 (wr ((0 : Int) - (wr (b_X - a_X)))) (wr ((0 : Int) - (wr (b_Y - a_Y))))) fun t3 =>
      some t3
    else
    bif (decide ((wr (b_Y - a_Y)) > (wr ((0 : Int) - (wr (b_X - a_X)))))) then
      Option.bind (F_shadow_octant a_X a_Y (wr (Int.ofNat (BitVec.toNat (HOr.hOr (BitVec.ofInt 64 (wr (Int.ofNat (BitVec.toNat (HOr.hOr (BitVec.ofInt 64 (0 : Int)) (BitVec.ofInt 64 (2 : Int))))))) (BitVec.ofInt 64 (1 : Int))))))) fun t4 =>
      Option.bind (F_shadow_clear m_W m_H m_Cells t4.1 t4.2.1 t4.2.2 (wr (b_Y - a_Y)) (wr ((0 : Int) - (wr (b_X - a_X))))) fun t5 =>
      some t5
    else
    Option.bind (F_shadow_octant a_X a_Y (wr (Int.ofNat (BitVec.toNat (HOr.hOr (BitVec.ofInt 64 (0 : Int)) (BitVec.ofInt 64 (2 : Int))))))) fun t6 =>
    Option.bind (F_shadow_clear m_W m_H m_Cells t6.1 t6.2.1 t6.2.2 (wr ((0 : Int) - (wr (b_X - a_X)))) (wr (b_Y - a_Y))) fun t7 =>
    some t7
  else
  bif (decide ((wr (b_Y - a_Y)) < (0 : Int))) then
    bif (decide ((wr ((0 : Int) - (wr (b_Y - a_Y)))) > (wr (b_X - a_X)))) then
      Option.bind (F_shadow_octant a_X a_Y (wr (Int.ofNat (BitVec.toNat (HOr.hOr (BitVec.ofInt 64 (wr (Int.ofNat (BitVec.toNat (HOr.hOr (BitVec.ofInt 64 (0 : Int)) (BitVec.ofInt 64 (4 : Int))))))) (BitVec.ofInt 64 (1 : Int))))))) fun t8 =>
      Option.bind (F_shadow_clear m_W m_H m_Cells t8.1 t8.2.1 t8.2.2 (wr ((0 : Int) - (wr (b_Y - a_Y)))) (wr (b_X - a_X))) fun t9 =>
      some t9
    else
    Option.bind (F_shadow_octant a_X a_Y (wr (Int.ofNat (BitVec.toNat (HOr.hOr (BitVec.ofInt 64 (0 : Int)) (BitVec.ofInt 64 (4 : Int))))))) fun t10 =>
    Option.bind (F_shadow_clear m_W m_H m_Cells t10.1 t10.2.1 t10.2.2 (wr (b_X - a_X)) (wr ((0 : Int) - (wr (b_Y - a_Y))))) fun t11 =>
    some t11
  else
  bif (decide ((wr (b_Y - a_Y)) > (wr (b_X - a_X)))) then
    Option.bind (F_shadow_octant a_X a_Y (wr (Int.ofNat (BitVec.toNat (HOr.hOr (BitVec.ofInt 64 (0 : Int)) (BitVec.ofInt 64 (1 : Int))))))) fun t12 =>
    Option.bind (F_shadow_clear m_W m_H m_Cells t12.1 t12.2.1 t12.2.2 (wr (b_Y - a_Y)) (wr (b_X - a_X))) fun t13 =>
    some t13
  else
  Option.bind (F_shadow_octant a_X a_Y (0 : Int)) fun t14 =>
  Option.bind (F_shadow_clear m_W m_H m_Cells t14.1 t14.2.1 t14.2.2 (wr (b_X - a_X)) (wr (b_Y - a_Y))) fun t15 =>
  some t15
noncomputable def enc32 (t : Bool) : CR := ⟨true, (.sc (.bool t)), [], []⟩
noncomputable def ks32 : List SK := [.agg [.int .i64, .int .i64, .ro 3], .agg [.int .i64, .int .i64], .agg [.int .i64, .int .i64]]
noncomputable def S32 (us : List AVal) : Call := bif chkA ks32 us then Call.of (F_shadow_sees (toI (cIa (aggL (cIa us 0)) 0)) (toI (cIa (aggL (cIa us 0)) 1)) (roRows (cIa (aggL (cIa us 0)) 2)) (toI (cIa (aggL (cIa us 1)) 0)) (toI (cIa (aggL (cIa us 1)) 1)) (toI (cIa (aggL (cIa us 2)) 0)) (toI (cIa (aggL (cIa us 2)) 1))) enc32 else Call.none
noncomputable def C32 := AI.ext 32 S32 C16

theorem run32 (m_W : Int) (m_H : Int) (m_Cells : List (List AVal)) (a_X : Int) (a_Y : Int) (b_X : Int) (b_Y : Int) : fcall TT TU GL0 C16 ownF true noL Try.f32 [(.agg [(.sc (.int .i64 m_W)), (.sc (.int .i64 m_H)), (.ro 3 m_Cells)]), (.agg [(.sc (.int .i64 a_X)), (.sc (.int .i64 a_Y))]), (.agg [(.sc (.int .i64 b_X)), (.sc (.int .i64 b_Y))])] = (F_shadow_sees m_W m_H m_Cells a_X a_Y b_X b_Y).bind fun t => some (enc32 t) :=
  Eq.trans (b := (bif (decide ((wr (b_X - a_X)) < (0 : Int))) then (bif (decide ((wr (b_Y - a_Y)) < (0 : Int))) then (bif (decide ((wr ((0 : Int) - (wr (b_Y - a_Y)))) > (wr ((0 : Int) - (wr (b_X - a_X)))))) then (Option.bind (F_shadow_octant a_X a_Y (wr (Int.ofNat (BitVec.toNat (HOr.hOr (BitVec.ofInt 64 (wr (Int.ofNat (BitVec.toNat (HOr.hOr (BitVec.ofInt 64 (wr (Int.ofNat (BitVec.toNat (HOr.hOr (BitVec.ofInt 64 (0 : Int)) (BitVec.ofInt 64 (2 : Int))))))) (BitVec.ofInt 64 (4 : Int))))))) (BitVec.ofInt 64 (1 : Int))))))) fun t => (Option.bind (F_shadow_clear m_W m_H m_Cells t.1 t.2.1 t.2.2 (wr ((0 : Int) - (wr (b_Y - a_Y)))) (wr ((0 : Int) - (wr (b_X - a_X))))) fun t1 => (some (CR.mk true (bo t1) [] [])))) else (Option.bind (F_shadow_octant a_X a_Y (wr (Int.ofNat (BitVec.toNat (HOr.hOr (BitVec.ofInt 64 (wr (Int.ofNat (BitVec.toNat (HOr.hOr (BitVec.ofInt 64 (0 : Int)) (BitVec.ofInt 64 (2 : Int))))))) (BitVec.ofInt 64 (4 : Int))))))) fun t2 => (Option.bind (F_shadow_clear m_W m_H m_Cells t2.1 t2.2.1 t2.2.2 (wr ((0 : Int) - (wr (b_X - a_X)))) (wr ((0 : Int) - (wr (b_Y - a_Y))))) fun t3 => (some (CR.mk true (bo t3) [] []))))) else (bif (decide ((wr (b_Y - a_Y)) > (wr ((0 : Int) - (wr (b_X - a_X)))))) then (Option.bind (F_shadow_octant a_X a_Y (wr (Int.ofNat (BitVec.toNat (HOr.hOr (BitVec.ofInt 64 (wr (Int.ofNat (BitVec.toNat (HOr.hOr (BitVec.ofInt 64 (0 : Int)) (BitVec.ofInt 64 (2 : Int))))))) (BitVec.ofInt 64 (1 : Int))))))) fun t4 => (Option.bind (F_shadow_clear m_W m_H m_Cells t4.1 t4.2.1 t4.2.2 (wr (b_Y - a_Y)) (wr ((0 : Int) - (wr (b_X - a_X))))) fun t5 => (some (CR.mk true (bo t5) [] [])))) else (Option.bind (F_shadow_octant a_X a_Y (wr (Int.ofNat (BitVec.toNat (HOr.hOr (BitVec.ofInt 64 (0 : Int)) (BitVec.ofInt 64 (2 : Int))))))) fun t6 => (Option.bind (F_shadow_clear m_W m_H m_Cells t6.1 t6.2.1 t6.2.2 (wr ((0 : Int) - (wr (b_X - a_X)))) (wr (b_Y - a_Y))) fun t7 => (some (CR.mk true (bo t7) [] [])))))) else (bif (decide ((wr (b_Y - a_Y)) < (0 : Int))) then (bif (decide ((wr ((0 : Int) - (wr (b_Y - a_Y)))) > (wr (b_X - a_X)))) then (Option.bind (F_shadow_octant a_X a_Y (wr (Int.ofNat (BitVec.toNat (HOr.hOr (BitVec.ofInt 64 (wr (Int.ofNat (BitVec.toNat (HOr.hOr (BitVec.ofInt 64 (0 : Int)) (BitVec.ofInt 64 (4 : Int))))))) (BitVec.ofInt 64 (1 : Int))))))) fun t8 => (Option.bind (F_shadow_clear m_W m_H m_Cells t8.1 t8.2.1 t8.2.2 (wr ((0 : Int) - (wr (b_Y - a_Y)))) (wr (b_X - a_X))) fun t9 => (some (CR.mk true (bo t9) [] [])))) else (Option.bind (F_shadow_octant a_X a_Y (wr (Int.ofNat (BitVec.toNat (HOr.hOr (BitVec.ofInt 64 (0 : Int)) (BitVec.ofInt 64 (4 : Int))))))) fun t10 => (Option.bind (F_shadow_clear m_W m_H m_Cells t10.1 t10.2.1 t10.2.2 (wr (b_X - a_X)) (wr ((0 : Int) - (wr (b_Y - a_Y))))) fun t11 => (some (CR.mk true (bo t11) [] []))))) else (bif (decide ((wr (b_Y - a_Y)) > (wr (b_X - a_X)))) then (Option.bind (F_shadow_octant a_X a_Y (wr (Int.ofNat (BitVec.toNat (HOr.hOr (BitVec.ofInt 64 (0 : Int)) (BitVec.ofInt 64 (1 : Int))))))) fun t12 => (Option.bind (F_shadow_clear m_W m_H m_Cells t12.1 t12.2.1 t12.2.2 (wr (b_Y - a_Y)) (wr (b_X - a_X))) fun t13 => (some (CR.mk true (bo t13) [] [])))) else (Option.bind (F_shadow_octant a_X a_Y (0 : Int)) fun t14 => (Option.bind (F_shadow_clear m_W m_H m_Cells t14.1 t14.2.1 t14.2.2 (wr (b_X - a_X)) (wr (b_Y - a_Y))) fun t15 => (some (CR.mk true (bo t15) [] [])))))))) (by kernel_rfl)
    (n_condH rfl (fun h0 => (n_condH rfl (fun h1 => (n_condH rfl (fun h2 => (n_bind fun t => (n_bind fun t1 => rfl))) fun h2 => (n_bind fun t2 => (n_bind fun t3 => rfl)))) fun h1 => (n_condH rfl (fun h2 => (n_bind fun t4 => (n_bind fun t5 => rfl))) fun h2 => (n_bind fun t6 => (n_bind fun t7 => rfl))))) fun h0 => (n_condH rfl (fun h1 => (n_condH rfl (fun h2 => (n_bind fun t8 => (n_bind fun t9 => rfl))) fun h2 => (n_bind fun t10 => (n_bind fun t11 => rfl)))) fun h1 => (n_condH rfl (fun h2 => (n_bind fun t12 => (n_bind fun t13 => rfl))) fun h2 => (n_bind fun t14 => (n_bind fun t15 => rfl)))))
theorem lib32 : Lib Try.prog GL0 C32 :=
  Lib.fn lib16 mixed TT_ok Try.func32 (by decide +kernel) (by kernel_rfl) true noL (loops_of 0 (by kernel_rfl) below0) ks32 (F := fun us => F_shadow_sees (toI (cIa (aggL (cIa us 0)) 0)) (toI (cIa (aggL (cIa us 0)) 1)) (roRows (cIa (aggL (cIa us 0)) 2)) (toI (cIa (aggL (cIa us 1)) 0)) (toI (cIa (aggL (cIa us 1)) 1)) (toI (cIa (aggL (cIa us 2)) 0)) (toI (cIa (aggL (cIa us 2)) 1))) (fun us => rfl) (fun us => run32 (toI (cIa (aggL (cIa us 0)) 0)) (toI (cIa (aggL (cIa us 0)) 1)) (roRows (cIa (aggL (cIa us 0)) 2)) (toI (cIa (aggL (cIa us 1)) 0)) (toI (cIa (aggL (cIa us 1)) 1)) (toI (cIa (aggL (cIa us 2)) 0)) (toI (cIa (aggL (cIa us 2)) 1))) (fun t => rfl)

/-! ### 13: skirmish/shadow.Sees -/



/-- 'skirmish/shadow.Sees' -/
noncomputable def F_shadow_Sees (m_W : Int) (m_H : Int) (m_Cells : List (List AVal)) (a_X : Int) (a_Y : Int) (b_X : Int) (b_Y : Int) : Option (Bool) :=
  Option.bind (F_terrain_Valid m_W m_H m_Cells) fun t =>
  bif (!t) then
    some false
  else
  Option.bind (F_shadow_inside m_W m_H m_Cells a_X a_Y) fun t1 =>
  bif (!t1) then
    some false
  else
  Option.bind (F_shadow_inside m_W m_H m_Cells b_X b_Y) fun t2 =>
  bif (!t2) then
    some false
  else
  Option.bind (F_shadow_sees m_W m_H m_Cells a_X a_Y b_X b_Y) fun t3 =>
  some t3
noncomputable def enc13 (t : Bool) : CR := ⟨true, (.sc (.bool t)), [], []⟩
noncomputable def ks13 : List SK := [.agg [.int .i64, .int .i64, .ro 3], .agg [.int .i64, .int .i64], .agg [.int .i64, .int .i64]]
noncomputable def S13 (us : List AVal) : Call := bif chkA ks13 us then Call.of (F_shadow_Sees (toI (cIa (aggL (cIa us 0)) 0)) (toI (cIa (aggL (cIa us 0)) 1)) (roRows (cIa (aggL (cIa us 0)) 2)) (toI (cIa (aggL (cIa us 1)) 0)) (toI (cIa (aggL (cIa us 1)) 1)) (toI (cIa (aggL (cIa us 2)) 0)) (toI (cIa (aggL (cIa us 2)) 1))) enc13 else Call.none
noncomputable def C13 := AI.ext 13 S13 C32

theorem run13 (m_W : Int) (m_H : Int) (m_Cells : List (List AVal)) (a_X : Int) (a_Y : Int) (b_X : Int) (b_Y : Int) : fcall TT TU GL0 C32 ownF true noL Try.f13 [(.agg [(.sc (.int .i64 m_W)), (.sc (.int .i64 m_H)), (.ro 3 m_Cells)]), (.agg [(.sc (.int .i64 a_X)), (.sc (.int .i64 a_Y))]), (.agg [(.sc (.int .i64 b_X)), (.sc (.int .i64 b_Y))])] = (F_shadow_Sees m_W m_H m_Cells a_X a_Y b_X b_Y).bind fun t => some (enc13 t) :=
  Eq.trans (b := (Option.bind (F_terrain_Valid m_W m_H m_Cells) fun t => (bif (!t) then (some (CR.mk true (bo false) [] [])) else (Option.bind (F_shadow_inside m_W m_H m_Cells a_X a_Y) fun t1 => (bif (!t1) then (some (CR.mk true (bo false) [] [])) else (Option.bind (F_shadow_inside m_W m_H m_Cells b_X b_Y) fun t2 => (bif (!t2) then (some (CR.mk true (bo false) [] [])) else (Option.bind (F_shadow_sees m_W m_H m_Cells a_X a_Y b_X b_Y) fun t3 => (some (CR.mk true (bo t3) [] [])))))))))) (by kernel_rfl)
    (n_bind fun t => (n_condH rfl (fun h0 => rfl) fun h0 => (n_bind fun t1 => (n_condH rfl (fun h1 => rfl) fun h1 => (n_bind fun t2 => (n_condH rfl (fun h2 => rfl) fun h2 => (n_bind fun t3 => rfl)))))))
theorem lib13 : Lib Try.prog GL0 C13 :=
  Lib.fn lib32 mixed TT_ok Try.func13 (by decide +kernel) (by kernel_rfl) true noL (loops_of 0 (by kernel_rfl) below0) ks13 (F := fun us => F_shadow_Sees (toI (cIa (aggL (cIa us 0)) 0)) (toI (cIa (aggL (cIa us 0)) 1)) (roRows (cIa (aggL (cIa us 0)) 2)) (toI (cIa (aggL (cIa us 1)) 0)) (toI (cIa (aggL (cIa us 1)) 1)) (toI (cIa (aggL (cIa us 2)) 0)) (toI (cIa (aggL (cIa us 2)) 1))) (fun us => rfl) (fun us => run13 (toI (cIa (aggL (cIa us 0)) 0)) (toI (cIa (aggL (cIa us 0)) 1)) (roRows (cIa (aggL (cIa us 0)) 2)) (toI (cIa (aggL (cIa us 1)) 0)) (toI (cIa (aggL (cIa us 1)) 1)) (toI (cIa (aggL (cIa us 2)) 0)) (toI (cIa (aggL (cIa us 2)) 1))) (fun t => rfl)

/-! ### 48: skirmish/shadow.between -/



/-- 'skirmish/shadow.between' -/
noncomputable def F_shadow_between (a_X : Int) (a_Y : Int) (b_X : Int) (b_Y : Int) (c_X : Int) (c_Y : Int) : Option (Bool) :=
  bif (decide (c_X ≥ (minI a_X b_X))) then
    bif (decide (c_X ≤ (maxI a_X b_X))) then
      bif (decide (c_Y ≥ (minI a_Y b_Y))) then
        some (decide (c_Y ≤ (maxI a_Y b_Y)))
      else
      some false
    else
    some false
  else
  some false
noncomputable def enc48 (t : Bool) : CR := ⟨true, (.sc (.bool t)), [], []⟩
noncomputable def ks48 : List SK := [.agg [.int .i64, .int .i64], .agg [.int .i64, .int .i64], .agg [.int .i64, .int .i64]]
noncomputable def S48 (us : List AVal) : Call := bif chkA ks48 us then Call.of (F_shadow_between (toI (cIa (aggL (cIa us 0)) 0)) (toI (cIa (aggL (cIa us 0)) 1)) (toI (cIa (aggL (cIa us 1)) 0)) (toI (cIa (aggL (cIa us 1)) 1)) (toI (cIa (aggL (cIa us 2)) 0)) (toI (cIa (aggL (cIa us 2)) 1))) enc48 else Call.none
noncomputable def C48 := AI.ext 48 S48 C13

theorem run48 (a_X : Int) (a_Y : Int) (b_X : Int) (b_Y : Int) (c_X : Int) (c_Y : Int) : fcall TT TU GL0 C13 ownF true noL Try.f48 [(.agg [(.sc (.int .i64 a_X)), (.sc (.int .i64 a_Y))]), (.agg [(.sc (.int .i64 b_X)), (.sc (.int .i64 b_Y))]), (.agg [(.sc (.int .i64 c_X)), (.sc (.int .i64 c_Y))])] = (F_shadow_between a_X a_Y b_X b_Y c_X c_Y).bind fun t => some (enc48 t) :=
  Eq.trans (b := (bif (decide (c_X ≥ (minI a_X b_X))) then (bif (decide (c_X ≤ (maxI a_X b_X))) then (bif (decide (c_Y ≥ (minI a_Y b_Y))) then (some (CR.mk true (bo (decide (c_Y ≤ (maxI a_Y b_Y)))) [] [])) else (some (CR.mk true (bo false) [] []))) else (some (CR.mk true (bo false) [] []))) else (some (CR.mk true (bo false) [] [])))) (by kernel_rfl)
    (n_condH rfl (fun h0 => (n_condH rfl (fun h1 => (n_condH rfl (fun h2 => rfl) fun h2 => rfl)) fun h1 => rfl)) fun h0 => rfl)
theorem lib48 : Lib Try.prog GL0 C48 :=
  Lib.fn lib13 mixed TT_ok Try.func48 (by decide +kernel) (by kernel_rfl) true noL (loops_of 0 (by kernel_rfl) below0) ks48 (F := fun us => F_shadow_between (toI (cIa (aggL (cIa us 0)) 0)) (toI (cIa (aggL (cIa us 0)) 1)) (toI (cIa (aggL (cIa us 1)) 0)) (toI (cIa (aggL (cIa us 1)) 1)) (toI (cIa (aggL (cIa us 2)) 0)) (toI (cIa (aggL (cIa us 2)) 1))) (fun us => rfl) (fun us => run48 (toI (cIa (aggL (cIa us 0)) 0)) (toI (cIa (aggL (cIa us 0)) 1)) (toI (cIa (aggL (cIa us 1)) 0)) (toI (cIa (aggL (cIa us 1)) 1)) (toI (cIa (aggL (cIa us 2)) 0)) (toI (cIa (aggL (cIa us 2)) 1))) (fun t => rfl)

/-! ### 28: skirmish/shadow.meets -/

noncomputable def W28_0 : Ex → List Bool
  | .ret => [false, false, false, false, false, false, true, false, false, false, false, false, false, false, false, false, false, false, false, false, false, false, false, false, false, false, false, false, false, false, false, false, false, false, false, false, false, false, false, false, false, false, false, false, false, false, false, false, false, false, false, false, false, false, false, false, false, false, false, false, false, false, false, false, false, false, false, false, false, false, false, false, false, false, false, false, false, false, false, false, false, false, false, false, false, false, false, false, false, false, false, false, false, false, false, false, false, false, false]
  | .exit n => bif Nat.beq n 0 then [false, false, false, false, false, false, false, false, false, true, true, false, false, false, false, false, false, false, false, false, false, false, false, false, false, false, false, false, false, false, false, false, false, false, false, false, false, false, false, false, false, false, false, false, false, false, false, false, false, false, false, false, false, false, false, false, false, false, false, false, false, false, false, false, false, false, false, false, false, false, false, false, false, false, false, false, false, false, false, false, false, false, false, false, false, false, false, false, false, false, false, false, false, false, false, false, false, true, false] else []
  | .normal => []
noncomputable def L28_0 (s : St) (k : Ex → St → Option CR) : Option CR := loopN (bodyOf TT TU GL0 C48 ownF noL (lp Try.f28 0)) 5 (maskS [false, false, false, true, false, false, false, true, true, true, true, false, false, false, false, false, false, false, false, false, false, false, false, false, false, false, false, false, false, false, false, false, false, false, false, false, false, false, false, false, false, false, false, false, false, false, false, false, false, false, false, false, false, false, false, false, false, false, false, false, false, true, true, false, false, false, false, false, false, false, false, false, false, false, false, false, false, false, false, false, false, false, false, false, false, false, true, true, false, false, false, true, true, false, false, false, false, true, false] s) (fun e s' => k e (maskS (W28_0 e) s'))

noncomputable def L28 : LT' := fun i s k => bif Nat.beq i 0 then L28_0 s k else none

/-- 'skirmish/shadow.meets' -/
noncomputable def F_shadow_meets (a_X : Int) (a_Y : Int) (b_X : Int) (b_Y : Int) (c_X : Int) (c_Y : Int) : Option (Bool) :=
  Option.bind (F_shadow_between a_X a_Y b_X b_Y c_X c_Y) fun t =>
  bif (!t) then
    some false
  else
  Option.bind ([[(i64 (wr ((2 : Int) * c_X))), (i64 (wr ((2 : Int) * c_Y)))], [(i64 (wr ((wr ((2 : Int) * c_X)) + (2 : Int)))), (i64 (wr ((2 : Int) * c_Y)))], [(i64 (wr ((2 : Int) * c_X))), (i64 (wr ((wr ((2 : Int) * c_Y)) + (2 : Int))))], [(i64 (wr ((wr ((2 : Int) * c_X)) + (2 : Int)))), (i64 (wr ((wr ((2 : Int) * c_Y)) + (2 : Int))))]][(0 : Int).toNat]?) fun r =>
  bif (chk [(LT.int IntKind.i64), (LT.int IntKind.i64)] r) then
    Option.bind ([[(i64 (wr ((2 : Int) * c_X))), (i64 (wr ((2 : Int) * c_Y)))], [(i64 (wr ((wr ((2 : Int) * c_X)) + (2 : Int)))), (i64 (wr ((2 : Int) * c_Y)))], [(i64 (wr ((2 : Int) * c_X))), (i64 (wr ((wr ((2 : Int) * c_Y)) + (2 : Int))))], [(i64 (wr ((wr ((2 : Int) * c_X)) + (2 : Int)))), (i64 (wr ((wr ((2 : Int) * c_Y)) + (2 : Int))))]][(wr ((0 : Int) + (1 : Int))).toNat]?) fun r1 =>
    bif (chk [(LT.int IntKind.i64), (LT.int IntKind.i64)] r1) then
      bif (decide ((wr ((wr ((wr (b_X - a_X)) * (wr ((wr ((cI r 1) - (wr ((2 : Int) * a_Y)))) - (1 : Int))))) - (wr ((wr (b_Y - a_Y)) * (wr ((wr ((cI r 0) - (wr ((2 : Int) * a_X)))) - (1 : Int))))))) < (0 : Int))) then
        bif (decide ((wr ((wr ((wr (b_X - a_X)) * (wr ((wr ((cI r 1) - (wr ((2 : Int) * a_Y)))) - (1 : Int))))) - (wr ((wr (b_Y - a_Y)) * (wr ((wr ((cI r 0) - (wr ((2 : Int) * a_X)))) - (1 : Int))))))) > (0 : Int))) then
          Option.bind ([[(i64 (wr ((2 : Int) * c_X))), (i64 (wr ((2 : Int) * c_Y)))], [(i64 (wr ((wr ((2 : Int) * c_X)) + (2 : Int)))), (i64 (wr ((2 : Int) * c_Y)))], [(i64 (wr ((2 : Int) * c_X))), (i64 (wr ((wr ((2 : Int) * c_Y)) + (2 : Int))))], [(i64 (wr ((wr ((2 : Int) * c_X)) + (2 : Int)))), (i64 (wr ((wr ((2 : Int) * c_Y)) + (2 : Int))))]][(wr ((wr ((0 : Int) + (1 : Int))) + (1 : Int))).toNat]?) fun r2 =>
          bif (chk [(LT.int IntKind.i64), (LT.int IntKind.i64)] r2) then
            Option.bind ([[(i64 (wr ((2 : Int) * c_X))), (i64 (wr ((2 : Int) * c_Y)))], [(i64 (wr ((wr ((2 : Int) * c_X)) + (2 : Int)))), (i64 (wr ((2 : Int) * c_Y)))], [(i64 (wr ((2 : Int) * c_X))), (i64 (wr ((wr ((2 : Int) * c_Y)) + (2 : Int))))], [(i64 (wr ((wr ((2 : Int) * c_X)) + (2 : Int)))), (i64 (wr ((wr ((2 : Int) * c_Y)) + (2 : Int))))]][(wr ((wr ((wr ((0 : Int) + (1 : Int))) + (1 : Int))) + (1 : Int))).toNat]?) fun r3 =>
            bif (chk [(LT.int IntKind.i64), (LT.int IntKind.i64)] r3) then
              some true
            else
            none
          else
          none
        else
        Option.bind ([[(i64 (wr ((2 : Int) * c_X))), (i64 (wr ((2 : Int) * c_Y)))], [(i64 (wr ((wr ((2 : Int) * c_X)) + (2 : Int)))), (i64 (wr ((2 : Int) * c_Y)))], [(i64 (wr ((2 : Int) * c_X))), (i64 (wr ((wr ((2 : Int) * c_Y)) + (2 : Int))))], [(i64 (wr ((wr ((2 : Int) * c_X)) + (2 : Int)))), (i64 (wr ((wr ((2 : Int) * c_Y)) + (2 : Int))))]][(wr ((wr ((0 : Int) + (1 : Int))) + (1 : Int))).toNat]?) fun r4 =>
        bif (chk [(LT.int IntKind.i64), (LT.int IntKind.i64)] r4) then
          bif (decide ((wr ((wr ((wr (b_X - a_X)) * (wr ((wr ((cI r1 1) - (wr ((2 : Int) * a_Y)))) - (1 : Int))))) - (wr ((wr (b_Y - a_Y)) * (wr ((wr ((cI r1 0) - (wr ((2 : Int) * a_X)))) - (1 : Int))))))) > (0 : Int))) then
            Option.bind ([[(i64 (wr ((2 : Int) * c_X))), (i64 (wr ((2 : Int) * c_Y)))], [(i64 (wr ((wr ((2 : Int) * c_X)) + (2 : Int)))), (i64 (wr ((2 : Int) * c_Y)))], [(i64 (wr ((2 : Int) * c_X))), (i64 (wr ((wr ((2 : Int) * c_Y)) + (2 : Int))))], [(i64 (wr ((wr ((2 : Int) * c_X)) + (2 : Int)))), (i64 (wr ((wr ((2 : Int) * c_Y)) + (2 : Int))))]][(wr ((wr ((wr ((0 : Int) + (1 : Int))) + (1 : Int))) + (1 : Int))).toNat]?) fun r5 =>
            bif (chk [(LT.int IntKind.i64), (LT.int IntKind.i64)] r5) then
              some true
            else
            none
          else
          Option.bind ([[(i64 (wr ((2 : Int) * c_X))), (i64 (wr ((2 : Int) * c_Y)))], [(i64 (wr ((wr ((2 : Int) * c_X)) + (2 : Int)))), (i64 (wr ((2 : Int) * c_Y)))], [(i64 (wr ((2 : Int) * c_X))), (i64 (wr ((wr ((2 : Int) * c_Y)) + (2 : Int))))], [(i64 (wr ((wr ((2 : Int) * c_X)) + (2 : Int)))), (i64 (wr ((wr ((2 : Int) * c_Y)) + (2 : Int))))]][(wr ((wr ((wr ((0 : Int) + (1 : Int))) + (1 : Int))) + (1 : Int))).toNat]?) fun r6 =>
          bif (chk [(LT.int IntKind.i64), (LT.int IntKind.i64)] r6) then
            bif (decide ((wr ((wr ((wr (b_X - a_X)) * (wr ((wr ((cI r4 1) - (wr ((2 : Int) * a_Y)))) - (1 : Int))))) - (wr ((wr (b_Y - a_Y)) * (wr ((wr ((cI r4 0) - (wr ((2 : Int) * a_X)))) - (1 : Int))))))) > (0 : Int))) then
              some true
            else
            some (decide ((wr ((wr ((wr (b_X - a_X)) * (wr ((wr ((cI r6 1) - (wr ((2 : Int) * a_Y)))) - (1 : Int))))) - (wr ((wr (b_Y - a_Y)) * (wr ((wr ((cI r6 0) - (wr ((2 : Int) * a_X)))) - (1 : Int))))))) > (0 : Int)))
          else
          none
        else
        none
      else
      bif (decide ((wr ((wr ((wr (b_X - a_X)) * (wr ((wr ((cI r 1) - (wr ((2 : Int) * a_Y)))) - (1 : Int))))) - (wr ((wr (b_Y - a_Y)) * (wr ((wr ((cI r 0) - (wr ((2 : Int) * a_X)))) - (1 : Int))))))) > (0 : Int))) then
        Option.bind ([[(i64 (wr ((2 : Int) * c_X))), (i64 (wr ((2 : Int) * c_Y)))], [(i64 (wr ((wr ((2 : Int) * c_X)) + (2 : Int)))), (i64 (wr ((2 : Int) * c_Y)))], [(i64 (wr ((2 : Int) * c_X))), (i64 (wr ((wr ((2 : Int) * c_Y)) + (2 : Int))))], [(i64 (wr ((wr ((2 : Int) * c_X)) + (2 : Int)))), (i64 (wr ((wr ((2 : Int) * c_Y)) + (2 : Int))))]][(wr ((wr ((0 : Int) + (1 : Int))) + (1 : Int))).toNat]?) fun r7 =>
        bif (chk [(LT.int IntKind.i64), (LT.int IntKind.i64)] r7) then
          bif (decide ((wr ((wr ((wr (b_X - a_X)) * (wr ((wr ((cI r1 1) - (wr ((2 : Int) * a_Y)))) - (1 : Int))))) - (wr ((wr (b_Y - a_Y)) * (wr ((wr ((cI r1 0) - (wr ((2 : Int) * a_X)))) - (1 : Int))))))) < (0 : Int))) then
            Option.bind ([[(i64 (wr ((2 : Int) * c_X))), (i64 (wr ((2 : Int) * c_Y)))], [(i64 (wr ((wr ((2 : Int) * c_X)) + (2 : Int)))), (i64 (wr ((2 : Int) * c_Y)))], [(i64 (wr ((2 : Int) * c_X))), (i64 (wr ((wr ((2 : Int) * c_Y)) + (2 : Int))))], [(i64 (wr ((wr ((2 : Int) * c_X)) + (2 : Int)))), (i64 (wr ((wr ((2 : Int) * c_Y)) + (2 : Int))))]][(wr ((wr ((wr ((0 : Int) + (1 : Int))) + (1 : Int))) + (1 : Int))).toNat]?) fun r8 =>
            bif (chk [(LT.int IntKind.i64), (LT.int IntKind.i64)] r8) then
              some true
            else
            none
          else
          Option.bind ([[(i64 (wr ((2 : Int) * c_X))), (i64 (wr ((2 : Int) * c_Y)))], [(i64 (wr ((wr ((2 : Int) * c_X)) + (2 : Int)))), (i64 (wr ((2 : Int) * c_Y)))], [(i64 (wr ((2 : Int) * c_X))), (i64 (wr ((wr ((2 : Int) * c_Y)) + (2 : Int))))], [(i64 (wr ((wr ((2 : Int) * c_X)) + (2 : Int)))), (i64 (wr ((wr ((2 : Int) * c_Y)) + (2 : Int))))]][(wr ((wr ((wr ((0 : Int) + (1 : Int))) + (1 : Int))) + (1 : Int))).toNat]?) fun r9 =>
          bif (chk [(LT.int IntKind.i64), (LT.int IntKind.i64)] r9) then
            bif (decide ((wr ((wr ((wr (b_X - a_X)) * (wr ((wr ((cI r7 1) - (wr ((2 : Int) * a_Y)))) - (1 : Int))))) - (wr ((wr (b_Y - a_Y)) * (wr ((wr ((cI r7 0) - (wr ((2 : Int) * a_X)))) - (1 : Int))))))) < (0 : Int))) then
              some true
            else
            bif (decide ((wr ((wr ((wr (b_X - a_X)) * (wr ((wr ((cI r9 1) - (wr ((2 : Int) * a_Y)))) - (1 : Int))))) - (wr ((wr (b_Y - a_Y)) * (wr ((wr ((cI r9 0) - (wr ((2 : Int) * a_X)))) - (1 : Int))))))) < (0 : Int))) then
              some true
            else
            some false
          else
          none
        else
        none
      else
      Option.bind ([[(i64 (wr ((2 : Int) * c_X))), (i64 (wr ((2 : Int) * c_Y)))], [(i64 (wr ((wr ((2 : Int) * c_X)) + (2 : Int)))), (i64 (wr ((2 : Int) * c_Y)))], [(i64 (wr ((2 : Int) * c_X))), (i64 (wr ((wr ((2 : Int) * c_Y)) + (2 : Int))))], [(i64 (wr ((wr ((2 : Int) * c_X)) + (2 : Int)))), (i64 (wr ((wr ((2 : Int) * c_Y)) + (2 : Int))))]][(wr ((wr ((0 : Int) + (1 : Int))) + (1 : Int))).toNat]?) fun r10 =>
      bif (chk [(LT.int IntKind.i64), (LT.int IntKind.i64)] r10) then
        bif (decide ((wr ((wr ((wr (b_X - a_X)) * (wr ((wr ((cI r1 1) - (wr ((2 : Int) * a_Y)))) - (1 : Int))))) - (wr ((wr (b_Y - a_Y)) * (wr ((wr ((cI r1 0) - (wr ((2 : Int) * a_X)))) - (1 : Int))))))) < (0 : Int))) then
          bif (decide ((wr ((wr ((wr (b_X - a_X)) * (wr ((wr ((cI r1 1) - (wr ((2 : Int) * a_Y)))) - (1 : Int))))) - (wr ((wr (b_Y - a_Y)) * (wr ((wr ((cI r1 0) - (wr ((2 : Int) * a_X)))) - (1 : Int))))))) > (0 : Int))) then
            Option.bind ([[(i64 (wr ((2 : Int) * c_X))), (i64 (wr ((2 : Int) * c_Y)))], [(i64 (wr ((wr ((2 : Int) * c_X)) + (2 : Int)))), (i64 (wr ((2 : Int) * c_Y)))], [(i64 (wr ((2 : Int) * c_X))), (i64 (wr ((wr ((2 : Int) * c_Y)) + (2 : Int))))], [(i64 (wr ((wr ((2 : Int) * c_X)) + (2 : Int)))), (i64 (wr ((wr ((2 : Int) * c_Y)) + (2 : Int))))]][(wr ((wr ((wr ((0 : Int) + (1 : Int))) + (1 : Int))) + (1 : Int))).toNat]?) fun r11 =>
            bif (chk [(LT.int IntKind.i64), (LT.int IntKind.i64)] r11) then
              some true
            else
            none
          else
          Option.bind ([[(i64 (wr ((2 : Int) * c_X))), (i64 (wr ((2 : Int) * c_Y)))], [(i64 (wr ((wr ((2 : Int) * c_X)) + (2 : Int)))), (i64 (wr ((2 : Int) * c_Y)))], [(i64 (wr ((2 : Int) * c_X))), (i64 (wr ((wr ((2 : Int) * c_Y)) + (2 : Int))))], [(i64 (wr ((wr ((2 : Int) * c_X)) + (2 : Int)))), (i64 (wr ((wr ((2 : Int) * c_Y)) + (2 : Int))))]][(wr ((wr ((wr ((0 : Int) + (1 : Int))) + (1 : Int))) + (1 : Int))).toNat]?) fun r12 =>
          bif (chk [(LT.int IntKind.i64), (LT.int IntKind.i64)] r12) then
            bif (decide ((wr ((wr ((wr (b_X - a_X)) * (wr ((wr ((cI r10 1) - (wr ((2 : Int) * a_Y)))) - (1 : Int))))) - (wr ((wr (b_Y - a_Y)) * (wr ((wr ((cI r10 0) - (wr ((2 : Int) * a_X)))) - (1 : Int))))))) > (0 : Int))) then
              some true
            else
            some (decide ((wr ((wr ((wr (b_X - a_X)) * (wr ((wr ((cI r12 1) - (wr ((2 : Int) * a_Y)))) - (1 : Int))))) - (wr ((wr (b_Y - a_Y)) * (wr ((wr ((cI r12 0) - (wr ((2 : Int) * a_X)))) - (1 : Int))))))) > (0 : Int)))
          else
          none
        else
        bif (decide ((wr ((wr ((wr (b_X - a_X)) * (wr ((wr ((cI r1 1) - (wr ((2 : Int) * a_Y)))) - (1 : Int))))) - (wr ((wr (b_Y - a_Y)) * (wr ((wr ((cI r1 0) - (wr ((2 : Int) * a_X)))) - (1 : Int))))))) > (0 : Int))) then
          Option.bind ([[(i64 (wr ((2 : Int) * c_X))), (i64 (wr ((2 : Int) * c_Y)))], [(i64 (wr ((wr ((2 : Int) * c_X)) + (2 : Int)))), (i64 (wr ((2 : Int) * c_Y)))], [(i64 (wr ((2 : Int) * c_X))), (i64 (wr ((wr ((2 : Int) * c_Y)) + (2 : Int))))], [(i64 (wr ((wr ((2 : Int) * c_X)) + (2 : Int)))), (i64 (wr ((wr ((2 : Int) * c_Y)) + (2 : Int))))]][(wr ((wr ((wr ((0 : Int) + (1 : Int))) + (1 : Int))) + (1 : Int))).toNat]?) fun r13 =>
          bif (chk [(LT.int IntKind.i64), (LT.int IntKind.i64)] r13) then
            bif (decide ((wr ((wr ((wr (b_X - a_X)) * (wr ((wr ((cI r10 1) - (wr ((2 : Int) * a_Y)))) - (1 : Int))))) - (wr ((wr (b_Y - a_Y)) * (wr ((wr ((cI r10 0) - (wr ((2 : Int) * a_X)))) - (1 : Int))))))) < (0 : Int))) then
              some true
            else
            bif (decide ((wr ((wr ((wr (b_X - a_X)) * (wr ((wr ((cI r13 1) - (wr ((2 : Int) * a_Y)))) - (1 : Int))))) - (wr ((wr (b_Y - a_Y)) * (wr ((wr ((cI r13 0) - (wr ((2 : Int) * a_X)))) - (1 : Int))))))) < (0 : Int))) then
              some true
            else
            some false
          else
          none
        else
        Option.bind ([[(i64 (wr ((2 : Int) * c_X))), (i64 (wr ((2 : Int) * c_Y)))], [(i64 (wr ((wr ((2 : Int) * c_X)) + (2 : Int)))), (i64 (wr ((2 : Int) * c_Y)))], [(i64 (wr ((2 : Int) * c_X))), (i64 (wr ((wr ((2 : Int) * c_Y)) + (2 : Int))))], [(i64 (wr ((wr ((2 : Int) * c_X)) + (2 : Int)))), (i64 (wr ((wr ((2 : Int) * c_Y)) + (2 : Int))))]][(wr ((wr ((wr ((0 : Int) + (1 : Int))) + (1 : Int))) + (1 : Int))).toNat]?) fun r14 =>
        bif (chk [(LT.int IntKind.i64), (LT.int IntKind.i64)] r14) then
          bif (decide ((wr ((wr ((wr (b_X - a_X)) * (wr ((wr ((cI r10 1) - (wr ((2 : Int) * a_Y)))) - (1 : Int))))) - (wr ((wr (b_Y - a_Y)) * (wr ((wr ((cI r10 0) - (wr ((2 : Int) * a_X)))) - (1 : Int))))))) < (0 : Int))) then
            bif (decide ((wr ((wr ((wr (b_X - a_X)) * (wr ((wr ((cI r10 1) - (wr ((2 : Int) * a_Y)))) - (1 : Int))))) - (wr ((wr (b_Y - a_Y)) * (wr ((wr ((cI r10 0) - (wr ((2 : Int) * a_X)))) - (1 : Int))))))) > (0 : Int))) then
              some true
            else
            some (decide ((wr ((wr ((wr (b_X - a_X)) * (wr ((wr ((cI r14 1) - (wr ((2 : Int) * a_Y)))) - (1 : Int))))) - (wr ((wr (b_Y - a_Y)) * (wr ((wr ((cI r14 0) - (wr ((2 : Int) * a_X)))) - (1 : Int))))))) > (0 : Int)))
          else
          bif (decide ((wr ((wr ((wr (b_X - a_X)) * (wr ((wr ((cI r10 1) - (wr ((2 : Int) * a_Y)))) - (1 : Int))))) - (wr ((wr (b_Y - a_Y)) * (wr ((wr ((cI r10 0) - (wr ((2 : Int) * a_X)))) - (1 : Int))))))) > (0 : Int))) then
            bif (decide ((wr ((wr ((wr (b_X - a_X)) * (wr ((wr ((cI r14 1) - (wr ((2 : Int) * a_Y)))) - (1 : Int))))) - (wr ((wr (b_Y - a_Y)) * (wr ((wr ((cI r14 0) - (wr ((2 : Int) * a_X)))) - (1 : Int))))))) < (0 : Int))) then
              some true
            else
            some false
          else
          bif (decide ((wr ((wr ((wr (b_X - a_X)) * (wr ((wr ((cI r14 1) - (wr ((2 : Int) * a_Y)))) - (1 : Int))))) - (wr ((wr (b_Y - a_Y)) * (wr ((wr ((cI r14 0) - (wr ((2 : Int) * a_X)))) - (1 : Int))))))) < (0 : Int))) then
            some (decide ((wr ((wr ((wr (b_X - a_X)) * (wr ((wr ((cI r14 1) - (wr ((2 : Int) * a_Y)))) - (1 : Int))))) - (wr ((wr (b_Y - a_Y)) * (wr ((wr ((cI r14 0) - (wr ((2 : Int) * a_X)))) - (1 : Int))))))) > (0 : Int)))
          else
          some false
        else
        none
      else
      none
    else
    none
  else
  none
noncomputable def enc28 (t : Bool) : CR := ⟨true, (.sc (.bool t)), [], []⟩
noncomputable def ks28 : List SK := [.agg [.int .i64, .int .i64], .agg [.int .i64, .int .i64], .agg [.int .i64, .int .i64]]
noncomputable def S28 (us : List AVal) : Call := bif chkA ks28 us then Call.of (F_shadow_meets (toI (cIa (aggL (cIa us 0)) 0)) (toI (cIa (aggL (cIa us 0)) 1)) (toI (cIa (aggL (cIa us 1)) 0)) (toI (cIa (aggL (cIa us 1)) 1)) (toI (cIa (aggL (cIa us 2)) 0)) (toI (cIa (aggL (cIa us 2)) 1))) enc28 else Call.none
noncomputable def C28 := AI.ext 28 S28 C48

theorem okL28_0 : LoopOk TT TU GL0 C48 ownF L28 (lp Try.f28 0) :=
  loopOk_unroll 5 [false, false, false, true, false, false, false, true, true, true, true, false, false, false, false, false, false, false, false, false, false, false, false, false, false, false, false, false, false, false, false, false, false, false, false, false, false, false, false, false, false, false, false, false, false, false, false, false, false, false, false, false, false, false, false, false, false, false, false, false, false, true, true, false, false, false, false, false, false, false, false, false, false, false, false, false, false, false, false, false, false, false, false, false, false, false, true, true, false, false, false, true, true, false, false, false, false, true, false] W28_0 (by kernel_rfl) (fun s k => by kernel_rfl)
theorem run28 (a_X : Int) (a_Y : Int) (b_X : Int) (b_Y : Int) (c_X : Int) (c_Y : Int) : fcall TT TU GL0 C48 ownF true L28 Try.f28 [(.agg [(.sc (.int .i64 a_X)), (.sc (.int .i64 a_Y))]), (.agg [(.sc (.int .i64 b_X)), (.sc (.int .i64 b_Y))]), (.agg [(.sc (.int .i64 c_X)), (.sc (.int .i64 c_Y))])] = (F_shadow_meets a_X a_Y b_X b_Y c_X c_Y).bind fun t => some (enc28 t) :=
  Eq.trans (b := (Option.bind (F_shadow_between a_X a_Y b_X b_Y c_X c_Y) fun t => (bif (!t) then (some (CR.mk true (bo false) [] [])) else (bif (((decide ((0 : Int) ≤ (0 : Int))) && (decide ((0 : Int) < (4 : Int)))) && true) then (Option.bind ([[(i64 (wr ((2 : Int) * c_X))), (i64 (wr ((2 : Int) * c_Y)))], [(i64 (wr ((wr ((2 : Int) * c_X)) + (2 : Int)))), (i64 (wr ((2 : Int) * c_Y)))], [(i64 (wr ((2 : Int) * c_X))), (i64 (wr ((wr ((2 : Int) * c_Y)) + (2 : Int))))], [(i64 (wr ((wr ((2 : Int) * c_X)) + (2 : Int)))), (i64 (wr ((wr ((2 : Int) * c_Y)) + (2 : Int))))]][(0 : Int).toNat]?) fun r => (bif (chk [(LT.int IntKind.i64), (LT.int IntKind.i64)] r) then (bif (((decide ((0 : Int) ≤ (wr ((0 : Int) + (1 : Int))))) && (decide ((wr ((0 : Int) + (1 : Int))) < (4 : Int)))) && true) then (Option.bind ([[(i64 (wr ((2 : Int) * c_X))), (i64 (wr ((2 : Int) * c_Y)))], [(i64 (wr ((wr ((2 : Int) * c_X)) + (2 : Int)))), (i64 (wr ((2 : Int) * c_Y)))], [(i64 (wr ((2 : Int) * c_X))), (i64 (wr ((wr ((2 : Int) * c_Y)) + (2 : Int))))], [(i64 (wr ((wr ((2 : Int) * c_X)) + (2 : Int)))), (i64 (wr ((wr ((2 : Int) * c_Y)) + (2 : Int))))]][(wr ((0 : Int) + (1 : Int))).toNat]?) fun r1 => (bif (chk [(LT.int IntKind.i64), (LT.int IntKind.i64)] r1) then (bif (decide ((wr ((wr ((wr (b_X - a_X)) * (wr ((wr ((cI r 1) - (wr ((2 : Int) * a_Y)))) - (1 : Int))))) - (wr ((wr (b_Y - a_Y)) * (wr ((wr ((cI r 0) - (wr ((2 : Int) * a_X)))) - (1 : Int))))))) < (0 : Int))) then (bif (decide ((wr ((wr ((wr (b_X - a_X)) * (wr ((wr ((cI r 1) - (wr ((2 : Int) * a_Y)))) - (1 : Int))))) - (wr ((wr (b_Y - a_Y)) * (wr ((wr ((cI r 0) - (wr ((2 : Int) * a_X)))) - (1 : Int))))))) > (0 : Int))) then (bif (((decide ((0 : Int) ≤ (wr ((wr ((0 : Int) + (1 : Int))) + (1 : Int))))) && (decide ((wr ((wr ((0 : Int) + (1 : Int))) + (1 : Int))) < (4 : Int)))) && true) then (Option.bind ([[(i64 (wr ((2 : Int) * c_X))), (i64 (wr ((2 : Int) * c_Y)))], [(i64 (wr ((wr ((2 : Int) * c_X)) + (2 : Int)))), (i64 (wr ((2 : Int) * c_Y)))], [(i64 (wr ((2 : Int) * c_X))), (i64 (wr ((wr ((2 : Int) * c_Y)) + (2 : Int))))], [(i64 (wr ((wr ((2 : Int) * c_X)) + (2 : Int)))), (i64 (wr ((wr ((2 : Int) * c_Y)) + (2 : Int))))]][(wr ((wr ((0 : Int) + (1 : Int))) + (1 : Int))).toNat]?) fun r2 => (bif (chk [(LT.int IntKind.i64), (LT.int IntKind.i64)] r2) then (bif (((decide ((0 : Int) ≤ (wr ((wr ((wr ((0 : Int) + (1 : Int))) + (1 : Int))) + (1 : Int))))) && (decide ((wr ((wr ((wr ((0 : Int) + (1 : Int))) + (1 : Int))) + (1 : Int))) < (4 : Int)))) && true) then (Option.bind ([[(i64 (wr ((2 : Int) * c_X))), (i64 (wr ((2 : Int) * c_Y)))], [(i64 (wr ((wr ((2 : Int) * c_X)) + (2 : Int)))), (i64 (wr ((2 : Int) * c_Y)))], [(i64 (wr ((2 : Int) * c_X))), (i64 (wr ((wr ((2 : Int) * c_Y)) + (2 : Int))))], [(i64 (wr ((wr ((2 : Int) * c_X)) + (2 : Int)))), (i64 (wr ((wr ((2 : Int) * c_Y)) + (2 : Int))))]][(wr ((wr ((wr ((0 : Int) + (1 : Int))) + (1 : Int))) + (1 : Int))).toNat]?) fun r3 => (bif (chk [(LT.int IntKind.i64), (LT.int IntKind.i64)] r3) then (some (CR.mk true (bo true) [] [])) else none)) else none) else none)) else none) else (bif (((decide ((0 : Int) ≤ (wr ((wr ((0 : Int) + (1 : Int))) + (1 : Int))))) && (decide ((wr ((wr ((0 : Int) + (1 : Int))) + (1 : Int))) < (4 : Int)))) && true) then (Option.bind ([[(i64 (wr ((2 : Int) * c_X))), (i64 (wr ((2 : Int) * c_Y)))], [(i64 (wr ((wr ((2 : Int) * c_X)) + (2 : Int)))), (i64 (wr ((2 : Int) * c_Y)))], [(i64 (wr ((2 : Int) * c_X))), (i64 (wr ((wr ((2 : Int) * c_Y)) + (2 : Int))))], [(i64 (wr ((wr ((2 : Int) * c_X)) + (2 : Int)))), (i64 (wr ((wr ((2 : Int) * c_Y)) + (2 : Int))))]][(wr ((wr ((0 : Int) + (1 : Int))) + (1 : Int))).toNat]?) fun r4 => (bif (chk [(LT.int IntKind.i64), (LT.int IntKind.i64)] r4) then (bif (decide ((wr ((wr ((wr (b_X - a_X)) * (wr ((wr ((cI r1 1) - (wr ((2 : Int) * a_Y)))) - (1 : Int))))) - (wr ((wr (b_Y - a_Y)) * (wr ((wr ((cI r1 0) - (wr ((2 : Int) * a_X)))) - (1 : Int))))))) > (0 : Int))) then (bif (((decide ((0 : Int) ≤ (wr ((wr ((wr ((0 : Int) + (1 : Int))) + (1 : Int))) + (1 : Int))))) && (decide ((wr ((wr ((wr ((0 : Int) + (1 : Int))) + (1 : Int))) + (1 : Int))) < (4 : Int)))) && true) then (Option.bind ([[(i64 (wr ((2 : Int) * c_X))), (i64 (wr ((2 : Int) * c_Y)))], [(i64 (wr ((wr ((2 : Int) * c_X)) + (2 : Int)))), (i64 (wr ((2 : Int) * c_Y)))], [(i64 (wr ((2 : Int) * c_X))), (i64 (wr ((wr ((2 : Int) * c_Y)) + (2 : Int))))], [(i64 (wr ((wr ((2 : Int) * c_X)) + (2 : Int)))), (i64 (wr ((wr ((2 : Int) * c_Y)) + (2 : Int))))]][(wr ((wr ((wr ((0 : Int) + (1 : Int))) + (1 : Int))) + (1 : Int))).toNat]?) fun r5 => (bif (chk [(LT.int IntKind.i64), (LT.int IntKind.i64)] r5) then (some (CR.mk true (bo true) [] [])) else none)) else none) else (bif (((decide ((0 : Int) ≤ (wr ((wr ((wr ((0 : Int) + (1 : Int))) + (1 : Int))) + (1 : Int))))) && (decide ((wr ((wr ((wr ((0 : Int) + (1 : Int))) + (1 : Int))) + (1 : Int))) < (4 : Int)))) && true) then (Option.bind ([[(i64 (wr ((2 : Int) * c_X))), (i64 (wr ((2 : Int) * c_Y)))], [(i64 (wr ((wr ((2 : Int) * c_X)) + (2 : Int)))), (i64 (wr ((2 : Int) * c_Y)))], [(i64 (wr ((2 : Int) * c_X))), (i64 (wr ((wr ((2 : Int) * c_Y)) + (2 : Int))))], [(i64 (wr ((wr ((2 : Int) * c_X)) + (2 : Int)))), (i64 (wr ((wr ((2 : Int) * c_Y)) + (2 : Int))))]][(wr ((wr ((wr ((0 : Int) + (1 : Int))) + (1 : Int))) + (1 : Int))).toNat]?) fun r6 => (bif (chk [(LT.int IntKind.i64), (LT.int IntKind.i64)] r6) then (bif (decide ((wr ((wr ((wr (b_X - a_X)) * (wr ((wr ((cI r4 1) - (wr ((2 : Int) * a_Y)))) - (1 : Int))))) - (wr ((wr (b_Y - a_Y)) * (wr ((wr ((cI r4 0) - (wr ((2 : Int) * a_X)))) - (1 : Int))))))) > (0 : Int))) then (some (CR.mk true (bo true) [] [])) else (some (CR.mk true (bo (decide ((wr ((wr ((wr (b_X - a_X)) * (wr ((wr ((cI r6 1) - (wr ((2 : Int) * a_Y)))) - (1 : Int))))) - (wr ((wr (b_Y - a_Y)) * (wr ((wr ((cI r6 0) - (wr ((2 : Int) * a_X)))) - (1 : Int))))))) > (0 : Int)))) [] []))) else none)) else none)) else none)) else none)) else (bif (decide ((wr ((wr ((wr (b_X - a_X)) * (wr ((wr ((cI r 1) - (wr ((2 : Int) * a_Y)))) - (1 : Int))))) - (wr ((wr (b_Y - a_Y)) * (wr ((wr ((cI r 0) - (wr ((2 : Int) * a_X)))) - (1 : Int))))))) > (0 : Int))) then (bif (((decide ((0 : Int) ≤ (wr ((wr ((0 : Int) + (1 : Int))) + (1 : Int))))) && (decide ((wr ((wr ((0 : Int) + (1 : Int))) + (1 : Int))) < (4 : Int)))) && true) then (Option.bind ([[(i64 (wr ((2 : Int) * c_X))), (i64 (wr ((2 : Int) * c_Y)))], [(i64 (wr ((wr ((2 : Int) * c_X)) + (2 : Int)))), (i64 (wr ((2 : Int) * c_Y)))], [(i64 (wr ((2 : Int) * c_X))), (i64 (wr ((wr ((2 : Int) * c_Y)) + (2 : Int))))], [(i64 (wr ((wr ((2 : Int) * c_X)) + (2 : Int)))), (i64 (wr ((wr ((2 : Int) * c_Y)) + (2 : Int))))]][(wr ((wr ((0 : Int) + (1 : Int))) + (1 : Int))).toNat]?) fun r7 => (bif (chk [(LT.int IntKind.i64), (LT.int IntKind.i64)] r7) then (bif (decide ((wr ((wr ((wr (b_X - a_X)) * (wr ((wr ((cI r1 1) - (wr ((2 : Int) * a_Y)))) - (1 : Int))))) - (wr ((wr (b_Y - a_Y)) * (wr ((wr ((cI r1 0) - (wr ((2 : Int) * a_X)))) - (1 : Int))))))) < (0 : Int))) then (bif (((decide ((0 : Int) ≤ (wr ((wr ((wr ((0 : Int) + (1 : Int))) + (1 : Int))) + (1 : Int))))) && (decide ((wr ((wr ((wr ((0 : Int) + (1 : Int))) + (1 : Int))) + (1 : Int))) < (4 : Int)))) && true) then (Option.bind ([[(i64 (wr ((2 : Int) * c_X))), (i64 (wr ((2 : Int) * c_Y)))], [(i64 (wr ((wr ((2 : Int) * c_X)) + (2 : Int)))), (i64 (wr ((2 : Int) * c_Y)))], [(i64 (wr ((2 : Int) * c_X))), (i64 (wr ((wr ((2 : Int) * c_Y)) + (2 : Int))))], [(i64 (wr ((wr ((2 : Int) * c_X)) + (2 : Int)))), (i64 (wr ((wr ((2 : Int) * c_Y)) + (2 : Int))))]][(wr ((wr ((wr ((0 : Int) + (1 : Int))) + (1 : Int))) + (1 : Int))).toNat]?) fun r8 => (bif (chk [(LT.int IntKind.i64), (LT.int IntKind.i64)] r8) then (some (CR.mk true (bo true) [] [])) else none)) else none) else (bif (((decide ((0 : Int) ≤ (wr ((wr ((wr ((0 : Int) + (1 : Int))) + (1 : Int))) + (1 : Int))))) && (decide ((wr ((wr ((wr ((0 : Int) + (1 : Int))) + (1 : Int))) + (1 : Int))) < (4 : Int)))) && true) then (Option.bind ([[(i64 (wr ((2 : Int) * c_X))), (i64 (wr ((2 : Int) * c_Y)))], [(i64 (wr ((wr ((2 : Int) * c_X)) + (2 : Int)))), (i64 (wr ((2 : Int) * c_Y)))], [(i64 (wr ((2 : Int) * c_X))), (i64 (wr ((wr ((2 : Int) * c_Y)) + (2 : Int))))], [(i64 (wr ((wr ((2 : Int) * c_X)) + (2 : Int)))), (i64 (wr ((wr ((2 : Int) * c_Y)) + (2 : Int))))]][(wr ((wr ((wr ((0 : Int) + (1 : Int))) + (1 : Int))) + (1 : Int))).toNat]?) fun r9 => (bif (chk [(LT.int IntKind.i64), (LT.int IntKind.i64)] r9) then (bif (decide ((wr ((wr ((wr (b_X - a_X)) * (wr ((wr ((cI r7 1) - (wr ((2 : Int) * a_Y)))) - (1 : Int))))) - (wr ((wr (b_Y - a_Y)) * (wr ((wr ((cI r7 0) - (wr ((2 : Int) * a_X)))) - (1 : Int))))))) < (0 : Int))) then (some (CR.mk true (bo true) [] [])) else (bif (decide ((wr ((wr ((wr (b_X - a_X)) * (wr ((wr ((cI r9 1) - (wr ((2 : Int) * a_Y)))) - (1 : Int))))) - (wr ((wr (b_Y - a_Y)) * (wr ((wr ((cI r9 0) - (wr ((2 : Int) * a_X)))) - (1 : Int))))))) < (0 : Int))) then (some (CR.mk true (bo true) [] [])) else (some (CR.mk true (bo false) [] [])))) else none)) else none)) else none)) else none) else (bif (((decide ((0 : Int) ≤ (wr ((wr ((0 : Int) + (1 : Int))) + (1 : Int))))) && (decide ((wr ((wr ((0 : Int) + (1 : Int))) + (1 : Int))) < (4 : Int)))) && true) then (Option.bind ([[(i64 (wr ((2 : Int) * c_X))), (i64 (wr ((2 : Int) * c_Y)))], [(i64 (wr ((wr ((2 : Int) * c_X)) + (2 : Int)))), (i64 (wr ((2 : Int) * c_Y)))], [(i64 (wr ((2 : Int) * c_X))), (i64 (wr ((wr ((2 : Int) * c_Y)) + (2 : Int))))], [(i64 (wr ((wr ((2 : Int) * c_X)) + (2 : Int)))), (i64 (wr ((wr ((2 : Int) * c_Y)) + (2 : Int))))]][(wr ((wr ((0 : Int) + (1 : Int))) + (1 : Int))).toNat]?) fun r10 => (bif (chk [(LT.int IntKind.i64), (LT.int IntKind.i64)] r10) then (bif (decide ((wr ((wr ((wr (b_X - a_X)) * (wr ((wr ((cI r1 1) - (wr ((2 : Int) * a_Y)))) - (1 : Int))))) - (wr ((wr (b_Y - a_Y)) * (wr ((wr ((cI r1 0) - (wr ((2 : Int) * a_X)))) - (1 : Int))))))) < (0 : Int))) then (bif (decide ((wr ((wr ((wr (b_X - a_X)) * (wr ((wr ((cI r1 1) - (wr ((2 : Int) * a_Y)))) - (1 : Int))))) - (wr ((wr (b_Y - a_Y)) * (wr ((wr ((cI r1 0) - (wr ((2 : Int) * a_X)))) - (1 : Int))))))) > (0 : Int))) then (bif (((decide ((0 : Int) ≤ (wr ((wr ((wr ((0 : Int) + (1 : Int))) + (1 : Int))) + (1 : Int))))) && (decide ((wr ((wr ((wr ((0 : Int) + (1 : Int))) + (1 : Int))) + (1 : Int))) < (4 : Int)))) && true) then (Option.bind ([[(i64 (wr ((2 : Int) * c_X))), (i64 (wr ((2 : Int) * c_Y)))], [(i64 (wr ((wr ((2 : Int) * c_X)) + (2 : Int)))), (i64 (wr ((2 : Int) * c_Y)))], [(i64 (wr ((2 : Int) * c_X))), (i64 (wr ((wr ((2 : Int) * c_Y)) + (2 : Int))))], [(i64 (wr ((wr ((2 : Int) * c_X)) + (2 : Int)))), (i64 (wr ((wr ((2 : Int) * c_Y)) + (2 : Int))))]][(wr ((wr ((wr ((0 : Int) + (1 : Int))) + (1 : Int))) + (1 : Int))).toNat]?) fun r11 => (bif (chk [(LT.int IntKind.i64), (LT.int IntKind.i64)] r11) then (some (CR.mk true (bo true) [] [])) else none)) else none) else (bif (((decide ((0 : Int) ≤ (wr ((wr ((wr ((0 : Int) + (1 : Int))) + (1 : Int))) + (1 : Int))))) && (decide ((wr ((wr ((wr ((0 : Int) + (1 : Int))) + (1 : Int))) + (1 : Int))) < (4 : Int)))) && true) then (Option.bind ([[(i64 (wr ((2 : Int) * c_X))), (i64 (wr ((2 : Int) * c_Y)))], [(i64 (wr ((wr ((2 : Int) * c_X)) + (2 : Int)))), (i64 (wr ((2 : Int) * c_Y)))], [(i64 (wr ((2 : Int) * c_X))), (i64 (wr ((wr ((2 : Int) * c_Y)) + (2 : Int))))], [(i64 (wr ((wr ((2 : Int) * c_X)) + (2 : Int)))), (i64 (wr ((wr ((2 : Int) * c_Y)) + (2 : Int))))]][(wr ((wr ((wr ((0 : Int) + (1 : Int))) + (1 : Int))) + (1 : Int))).toNat]?) fun r12 => (bif (chk [(LT.int IntKind.i64), (LT.int IntKind.i64)] r12) then (bif (decide ((wr ((wr ((wr (b_X - a_X)) * (wr ((wr ((cI r10 1) - (wr ((2 : Int) * a_Y)))) - (1 : Int))))) - (wr ((wr (b_Y - a_Y)) * (wr ((wr ((cI r10 0) - (wr ((2 : Int) * a_X)))) - (1 : Int))))))) > (0 : Int))) then (some (CR.mk true (bo true) [] [])) else (some (CR.mk true (bo (decide ((wr ((wr ((wr (b_X - a_X)) * (wr ((wr ((cI r12 1) - (wr ((2 : Int) * a_Y)))) - (1 : Int))))) - (wr ((wr (b_Y - a_Y)) * (wr ((wr ((cI r12 0) - (wr ((2 : Int) * a_X)))) - (1 : Int))))))) > (0 : Int)))) [] []))) else none)) else none)) else (bif (decide ((wr ((wr ((wr (b_X - a_X)) * (wr ((wr ((cI r1 1) - (wr ((2 : Int) * a_Y)))) - (1 : Int))))) - (wr ((wr (b_Y - a_Y)) * (wr ((wr ((cI r1 0) - (wr ((2 : Int) * a_X)))) - (1 : Int))))))) > (0 : Int))) then (bif (((decide ((0 : Int) ≤ (wr ((wr ((wr ((0 : Int) + (1 : Int))) + (1 : Int))) + (1 : Int))))) && (decide ((wr ((wr ((wr ((0 : Int) + (1 : Int))) + (1 : Int))) + (1 : Int))) < (4 : Int)))) && true) then (Option.bind ([[(i64 (wr ((2 : Int) * c_X))), (i64 (wr ((2 : Int) * c_Y)))], [(i64 (wr ((wr ((2 : Int) * c_X)) + (2 : Int)))), (i64 (wr ((2 : Int) * c_Y)))], [(i64 (wr ((2 : Int) * c_X))), (i64 (wr ((wr ((2 : Int) * c_Y)) + (2 : Int))))], [(i64 (wr ((wr ((2 : Int) * c_X)) + (2 : Int)))), (i64 (wr ((wr ((2 : Int) * c_Y)) + (2 : Int))))]][(wr ((wr ((wr ((0 : Int) + (1 : Int))) + (1 : Int))) + (1 : Int))).toNat]?) fun r13 => (bif (chk [(LT.int IntKind.i64), (LT.int IntKind.i64)] r13) then (bif (decide ((wr ((wr ((wr (b_X - a_X)) * (wr ((wr ((cI r10 1) - (wr ((2 : Int) * a_Y)))) - (1 : Int))))) - (wr ((wr (b_Y - a_Y)) * (wr ((wr ((cI r10 0) - (wr ((2 : Int) * a_X)))) - (1 : Int))))))) < (0 : Int))) then (some (CR.mk true (bo true) [] [])) else (bif (decide ((wr ((wr ((wr (b_X - a_X)) * (wr ((wr ((cI r13 1) - (wr ((2 : Int) * a_Y)))) - (1 : Int))))) - (wr ((wr (b_Y - a_Y)) * (wr ((wr ((cI r13 0) - (wr ((2 : Int) * a_X)))) - (1 : Int))))))) < (0 : Int))) then (some (CR.mk true (bo true) [] [])) else (some (CR.mk true (bo false) [] [])))) else none)) else none) else (bif (((decide ((0 : Int) ≤ (wr ((wr ((wr ((0 : Int) + (1 : Int))) + (1 : Int))) + (1 : Int))))) && (decide ((wr ((wr ((wr ((0 : Int) + (1 : Int))) + (1 : Int))) + (1 : Int))) < (4 : Int)))) && true) then (Option.bind ([[(i64 (wr ((2 : Int) * c_X))), (i64 (wr ((2 : Int) * c_Y)))], [(i64 (wr ((wr ((2 : Int) * c_X)) + (2 : Int)))), (i64 (wr ((2 : Int) * c_Y)))], [(i64 (wr ((2 : Int) * c_X))), (i64 (wr ((wr ((2 : Int) * c_Y)) + (2 : Int))))], [(i64 (wr ((wr ((2 : Int) * c_X)) + (2 : Int)))), (i64 (wr ((wr ((2 : Int) * c_Y)) + (2 : Int))))]][(wr ((wr ((wr ((0 : Int) + (1 : Int))) + (1 : Int))) + (1 : Int))).toNat]?) fun r14 => (bif (chk [(LT.int IntKind.i64), (LT.int IntKind.i64)] r14) then (bif (decide ((wr ((wr ((wr (b_X - a_X)) * (wr ((wr ((cI r10 1) - (wr ((2 : Int) * a_Y)))) - (1 : Int))))) - (wr ((wr (b_Y - a_Y)) * (wr ((wr ((cI r10 0) - (wr ((2 : Int) * a_X)))) - (1 : Int))))))) < (0 : Int))) then (bif (decide ((wr ((wr ((wr (b_X - a_X)) * (wr ((wr ((cI r10 1) - (wr ((2 : Int) * a_Y)))) - (1 : Int))))) - (wr ((wr (b_Y - a_Y)) * (wr ((wr ((cI r10 0) - (wr ((2 : Int) * a_X)))) - (1 : Int))))))) > (0 : Int))) then (some (CR.mk true (bo true) [] [])) else (some (CR.mk true (bo (decide ((wr ((wr ((wr (b_X - a_X)) * (wr ((wr ((cI r14 1) - (wr ((2 : Int) * a_Y)))) - (1 : Int))))) - (wr ((wr (b_Y - a_Y)) * (wr ((wr ((cI r14 0) - (wr ((2 : Int) * a_X)))) - (1 : Int))))))) > (0 : Int)))) [] []))) else (bif (decide ((wr ((wr ((wr (b_X - a_X)) * (wr ((wr ((cI r10 1) - (wr ((2 : Int) * a_Y)))) - (1 : Int))))) - (wr ((wr (b_Y - a_Y)) * (wr ((wr ((cI r10 0) - (wr ((2 : Int) * a_X)))) - (1 : Int))))))) > (0 : Int))) then (bif (decide ((wr ((wr ((wr (b_X - a_X)) * (wr ((wr ((cI r14 1) - (wr ((2 : Int) * a_Y)))) - (1 : Int))))) - (wr ((wr (b_Y - a_Y)) * (wr ((wr ((cI r14 0) - (wr ((2 : Int) * a_X)))) - (1 : Int))))))) < (0 : Int))) then (some (CR.mk true (bo true) [] [])) else (some (CR.mk true (bo false) [] []))) else (bif (decide ((wr ((wr ((wr (b_X - a_X)) * (wr ((wr ((cI r14 1) - (wr ((2 : Int) * a_Y)))) - (1 : Int))))) - (wr ((wr (b_Y - a_Y)) * (wr ((wr ((cI r14 0) - (wr ((2 : Int) * a_X)))) - (1 : Int))))))) < (0 : Int))) then (some (CR.mk true (bo (decide ((wr ((wr ((wr (b_X - a_X)) * (wr ((wr ((cI r14 1) - (wr ((2 : Int) * a_Y)))) - (1 : Int))))) - (wr ((wr (b_Y - a_Y)) * (wr ((wr ((cI r14 0) - (wr ((2 : Int) * a_X)))) - (1 : Int))))))) > (0 : Int)))) [] [])) else (some (CR.mk true (bo false) [] []))))) else none)) else none))) else none)) else none))) else none)) else none) else none)) else none)))) (by kernel_rfl)
    (n_bind fun t => (n_condH rfl (fun h0 => rfl) fun h0 => (n_true (by kernel_rfl) (n_bind fun r => (n_condH rfl (fun h1 => (n_true (by kernel_rfl) (n_bind fun r1 => (n_condH rfl (fun h2 => (n_condH rfl (fun h3 => (n_condH rfl (fun h4 => (n_true (by kernel_rfl) (n_bind fun r2 => (n_condH rfl (fun h5 => (n_true (by kernel_rfl) (n_bind fun r3 => (n_condH rfl (fun h6 => rfl) fun h6 => n_none)))) fun h5 => n_none)))) fun h4 => (n_true (by kernel_rfl) (n_bind fun r4 => (n_condH rfl (fun h5 => (n_condH rfl (fun h6 => (n_true (by kernel_rfl) (n_bind fun r5 => (n_condH rfl (fun h7 => rfl) fun h7 => n_none)))) fun h6 => (n_true (by kernel_rfl) (n_bind fun r6 => (n_condH rfl (fun h7 => (n_condH rfl (fun h8 => rfl) fun h8 => rfl)) fun h7 => n_none))))) fun h5 => n_none))))) fun h3 => (n_condH rfl (fun h4 => (n_true (by kernel_rfl) (n_bind fun r7 => (n_condH rfl (fun h5 => (n_condH rfl (fun h6 => (n_true (by kernel_rfl) (n_bind fun r8 => (n_condH rfl (fun h7 => rfl) fun h7 => n_none)))) fun h6 => (n_true (by kernel_rfl) (n_bind fun r9 => (n_condH rfl (fun h7 => (n_condH rfl (fun h8 => rfl) fun h8 => (n_condH rfl (fun h9 => rfl) fun h9 => rfl))) fun h7 => n_none))))) fun h5 => n_none)))) fun h4 => (n_true (by kernel_rfl) (n_bind fun r10 => (n_condH rfl (fun h5 => (n_condH rfl (fun h6 => (n_condH rfl (fun h7 => (n_true (by kernel_rfl) (n_bind fun r11 => (n_condH rfl (fun h8 => rfl) fun h8 => n_none)))) fun h7 => (n_true (by kernel_rfl) (n_bind fun r12 => (n_condH rfl (fun h8 => (n_condH rfl (fun h9 => rfl) fun h9 => rfl)) fun h8 => n_none))))) fun h6 => (n_condH rfl (fun h7 => (n_true (by kernel_rfl) (n_bind fun r13 => (n_condH rfl (fun h8 => (n_condH rfl (fun h9 => rfl) fun h9 => (n_condH rfl (fun h10 => rfl) fun h10 => rfl))) fun h8 => n_none)))) fun h7 => (n_true (by kernel_rfl) (n_bind fun r14 => (n_condH rfl (fun h8 => (n_condH rfl (fun h9 => (n_condH rfl (fun h10 => rfl) fun h10 => rfl)) fun h9 => (n_condH rfl (fun h10 => (n_condH rfl (fun h11 => rfl) fun h11 => rfl)) fun h10 => (n_condH rfl (fun h11 => rfl) fun h11 => rfl)))) fun h8 => n_none)))))) fun h5 => n_none)))))) fun h2 => n_none)))) fun h1 => n_none)))))
theorem lib28 : Lib Try.prog GL0 C28 :=
  Lib.fn lib48 mixed TT_ok Try.func28 (by decide +kernel) (by kernel_rfl) true L28 (loops_of 1 (by kernel_rfl) (belowS below0 okL28_0)) ks28 (F := fun us => F_shadow_meets (toI (cIa (aggL (cIa us 0)) 0)) (toI (cIa (aggL (cIa us 0)) 1)) (toI (cIa (aggL (cIa us 1)) 0)) (toI (cIa (aggL (cIa us 1)) 1)) (toI (cIa (aggL (cIa us 2)) 0)) (toI (cIa (aggL (cIa us 2)) 1))) (fun us => rfl) (fun us => run28 (toI (cIa (aggL (cIa us 0)) 0)) (toI (cIa (aggL (cIa us 0)) 1)) (toI (cIa (aggL (cIa us 1)) 0)) (toI (cIa (aggL (cIa us 1)) 1)) (toI (cIa (aggL (cIa us 2)) 0)) (toI (cIa (aggL (cIa us 2)) 1))) (fun t => rfl)

/-! ### 11: skirmish/shadow.Blocks -/



/-- 'skirmish/shadow.Blocks' -/
noncomputable def F_shadow_Blocks (m_W : Int) (m_H : Int) (m_Cells : List (List AVal)) (a_X : Int) (a_Y : Int) (b_X : Int) (b_Y : Int) (c_X : Int) (c_Y : Int) : Option (Bool) :=
  Option.bind (F_terrain_Valid m_W m_H m_Cells) fun t =>
  bif (!t) then
    some false
  else
  Option.bind (F_shadow_inside m_W m_H m_Cells a_X a_Y) fun t1 =>
  bif (!t1) then
    some false
  else
  Option.bind (F_shadow_inside m_W m_H m_Cells b_X b_Y) fun t2 =>
  bif (!t2) then
    some false
  else
  Option.bind (F_shadow_inside m_W m_H m_Cells c_X c_Y) fun t3 =>
  bif (!t3) then
    some false
  else
  bif ((c_X == a_X) && (c_Y == a_Y)) then
    some false
  else
  bif ((c_X == b_X) && (c_Y == b_Y)) then
    some false
  else
  Option.bind (F_shadow_meets a_X a_Y b_X b_Y c_X c_Y) fun t4 =>
  bif t4 then
    Option.bind (F_shadow_stops m_W m_H m_Cells a_X a_Y b_X b_Y c_X c_Y) fun t5 =>
    some t5
  else
  some false
noncomputable def enc11 (t : Bool) : CR := ⟨true, (.sc (.bool t)), [], []⟩
noncomputable def ks11 : List SK := [.agg [.int .i64, .int .i64, .ro 3], .agg [.int .i64, .int .i64], .agg [.int .i64, .int .i64], .agg [.int .i64, .int .i64]]
noncomputable def S11 (us : List AVal) : Call := bif chkA ks11 us then Call.of (F_shadow_Blocks (toI (cIa (aggL (cIa us 0)) 0)) (toI (cIa (aggL (cIa us 0)) 1)) (roRows (cIa (aggL (cIa us 0)) 2)) (toI (cIa (aggL (cIa us 1)) 0)) (toI (cIa (aggL (cIa us 1)) 1)) (toI (cIa (aggL (cIa us 2)) 0)) (toI (cIa (aggL (cIa us 2)) 1)) (toI (cIa (aggL (cIa us 3)) 0)) (toI (cIa (aggL (cIa us 3)) 1))) enc11 else Call.none
noncomputable def C11 := AI.ext 11 S11 C28

theorem run11 (m_W : Int) (m_H : Int) (m_Cells : List (List AVal)) (a_X : Int) (a_Y : Int) (b_X : Int) (b_Y : Int) (c_X : Int) (c_Y : Int) : fcall TT TU GL0 C28 ownF true noL Try.f11 [(.agg [(.sc (.int .i64 m_W)), (.sc (.int .i64 m_H)), (.ro 3 m_Cells)]), (.agg [(.sc (.int .i64 a_X)), (.sc (.int .i64 a_Y))]), (.agg [(.sc (.int .i64 b_X)), (.sc (.int .i64 b_Y))]), (.agg [(.sc (.int .i64 c_X)), (.sc (.int .i64 c_Y))])] = (F_shadow_Blocks m_W m_H m_Cells a_X a_Y b_X b_Y c_X c_Y).bind fun t => some (enc11 t) :=
  Eq.trans (b := (Option.bind (F_terrain_Valid m_W m_H m_Cells) fun t => (bif (!t) then (some (CR.mk true (bo false) [] [])) else (Option.bind (F_shadow_inside m_W m_H m_Cells a_X a_Y) fun t1 => (bif (!t1) then (some (CR.mk true (bo false) [] [])) else (Option.bind (F_shadow_inside m_W m_H m_Cells b_X b_Y) fun t2 => (bif (!t2) then (some (CR.mk true (bo false) [] [])) else (Option.bind (F_shadow_inside m_W m_H m_Cells c_X c_Y) fun t3 => (bif (!t3) then (some (CR.mk true (bo false) [] [])) else (bif ((c_X == a_X) && (c_Y == a_Y)) then (some (CR.mk true (bo false) [] [])) else (bif ((c_X == b_X) && (c_Y == b_Y)) then (some (CR.mk true (bo false) [] [])) else (Option.bind (F_shadow_meets a_X a_Y b_X b_Y c_X c_Y) fun t4 => (bif t4 then (Option.bind (F_shadow_stops m_W m_H m_Cells a_X a_Y b_X b_Y c_X c_Y) fun t5 => (some (CR.mk true (bo t5) [] []))) else (some (CR.mk true (bo false) [] []))))))))))))))) (by kernel_rfl)
    (n_bind fun t => (n_condH rfl (fun h0 => rfl) fun h0 => (n_bind fun t1 => (n_condH rfl (fun h1 => rfl) fun h1 => (n_bind fun t2 => (n_condH rfl (fun h2 => rfl) fun h2 => (n_bind fun t3 => (n_condH rfl (fun h3 => rfl) fun h3 => (n_condH rfl (fun h4 => rfl) fun h4 => (n_condH rfl (fun h5 => rfl) fun h5 => (n_bind fun t4 => (n_condH rfl (fun h6 => (n_bind fun t5 => rfl)) fun h6 => rfl))))))))))))
theorem lib11 : Lib Try.prog GL0 C11 :=
  Lib.fn lib28 mixed TT_ok Try.func11 (by decide +kernel) (by kernel_rfl) true noL (loops_of 0 (by kernel_rfl) below0) ks11 (F := fun us => F_shadow_Blocks (toI (cIa (aggL (cIa us 0)) 0)) (toI (cIa (aggL (cIa us 0)) 1)) (roRows (cIa (aggL (cIa us 0)) 2)) (toI (cIa (aggL (cIa us 1)) 0)) (toI (cIa (aggL (cIa us 1)) 1)) (toI (cIa (aggL (cIa us 2)) 0)) (toI (cIa (aggL (cIa us 2)) 1)) (toI (cIa (aggL (cIa us 3)) 0)) (toI (cIa (aggL (cIa us 3)) 1))) (fun us => rfl) (fun us => run11 (toI (cIa (aggL (cIa us 0)) 0)) (toI (cIa (aggL (cIa us 0)) 1)) (roRows (cIa (aggL (cIa us 0)) 2)) (toI (cIa (aggL (cIa us 1)) 0)) (toI (cIa (aggL (cIa us 1)) 1)) (toI (cIa (aggL (cIa us 2)) 0)) (toI (cIa (aggL (cIa us 2)) 1)) (toI (cIa (aggL (cIa us 3)) 0)) (toI (cIa (aggL (cIa us 3)) 1))) (fun t => rfl)

/-! ### 18: skirmish/shadow.Union -/

noncomputable def W18_0 : Ex → List Bool
  | .ret => [false, false, false, false, true, false, false, false, false, false, false, false, false, false, false, false, false, false, false, false, false, false, false, false, false, false, false, false, false, false, false, false, false, false, false, false]
  | .exit n => bif Nat.beq n 0 then [false, false, false, false, false, true, false, false, false, false, false, false, false, false, false, false, false, false, false, false, false, false, false, false, false, false, false, false, false, false, false, false, false, false, false, false] else []
  | .normal => []
noncomputable def G_shadow_Union_0 (x17 : List (List AVal)) (x18 : Int) : Nat → List (List AVal) → Int → Option (List (List AVal))
  | 0, _, _ => none
  | m + 1, R0, x19 =>
    bif (decide (x19 < x18)) then
      bif (decide ((0 : Int) ≤ x19)) then
        Option.bind (x17[x19.toNat]?) fun r =>
        bif (chk [LT.bool] r) then
          bif (decide (x19 < (Int.ofNat R0.length))) then
            Option.bind (R0[x19.toNat]?) fun r1 =>
            bif (chk [LT.bool] r1) then
              bif (cB r1 0) then
                G_shadow_Union_0 x17 x18 m (List.set R0 x19.toNat [(bo true)]) (wr (x19 + (1 : Int)))
              else
              G_shadow_Union_0 x17 x18 m (List.set R0 x19.toNat [(bo (cB r 0))]) (wr (x19 + (1 : Int)))
            else
            none
          else
          none
        else
        none
      else
      none
    else
    some R0
noncomputable def E18_0 (R0 : List (List AVal)) (x17 : List (List AVal)) (x18 : Int) (x19 : Int) : St := ⟨[.dead, .dead, .dead, .dead, .dead, (.slc 19280 (R0).length), .dead, .dead, .dead, .dead, .dead, .dead, .dead, .dead, .dead, .dead, .dead, (.ro 1 x17), (.sc (.int .i64 x18)), (.sc (.int .i64 x19)), .dead, .dead, .dead, .dead, .dead, .dead, .dead, .dead, .dead, .dead, .dead, .dead, .dead, .dead, .dead, .dead], [(19280, ⟨.arr, 4, 1, R0⟩)]⟩
noncomputable def X18_0 (k : Ex → St → Option CR) (t : List (List AVal)) : Option CR := k (.exit 0) ⟨[.dead, .dead, .dead, .dead, .dead, (.slc 19280 (t).length), .dead, .dead, .dead, .dead, .dead, .dead, .dead, .dead, .dead, .dead, .dead, .dead, .dead, .dead, .dead, .dead, .dead, .dead, .dead, .dead, .dead, .dead, .dead, .dead, .dead, .dead, .dead, .dead, .dead, .dead], [(19280, ⟨.arr, 4, 1, t⟩)]⟩
noncomputable def ks18_0 : List SK := [.f .dead, .f .dead, .f .dead, .f .dead, .f .dead, .f (.slc 19280 0), .f .dead, .f .dead, .f .dead, .f .dead, .f .dead, .f .dead, .f .dead, .f .dead, .f .dead, .f .dead, .f .dead, .f (.ro 1), .f (.int .i64), .f (.int .i64), .f .dead, .f .dead, .f .dead, .f .dead, .f .dead, .f .dead, .f .dead, .f .dead, .f .dead, .f .dead, .f .dead, .f .dead, .f .dead, .f .dead, .f .dead, .f .dead]
noncomputable def hs18_0 : List HK := [⟨19280, .arr, 4, 1, none⟩]
noncomputable def Lm18_0 (s : St) (k : Ex → St → Option CR) : Option CR := bif chkS ks18_0 hs18_0 s then (G_shadow_Union_0 (roRows (cIa s.tmps 17)) (toI (cIa s.tmps 18)) FU (blkAt s.heap 0).2.rows (toI (cIa s.tmps 19))).bind (X18_0 k) else none
noncomputable def L18_0 (s : St) (k : Ex → St → Option CR) : Option CR := Lm18_0 (maskS (maskOf ks18_0) s) k

noncomputable def L18 : LT' := fun i s k => bif Nat.beq i 0 then L18_0 s k else none

/-- 'skirmish/shadow.Union' -/
noncomputable def F_shadow_Union (a : List (List AVal)) (b : List (List AVal)) : Option (List (List AVal)) :=
  bif ((((decide ((maxI (Int.ofNat a.length) (Int.ofNat b.length)) = (maxI (Int.ofNat a.length) (Int.ofNat b.length)))) && (decide ((0 : Int) ≤ (maxI (Int.ofNat a.length) (Int.ofNat b.length))))) && (decide ((maxI (Int.ofNat a.length) (Int.ofNat b.length)) ≤ (9223372036854775807 : Int)))) && (decide (((1 : Int) * (maxI (Int.ofNat a.length) (Int.ofNat b.length))) ≤ (140737488355328 : Int)))) then
    Option.bind (G_shadow_Union_0 b (Int.ofNat b.length) FU (copyR (Blk.rows (Blk.mk BKind.arr 4 1 (List.replicate (maxI (Int.ofNat a.length) (Int.ofNat b.length)).toNat [(bo false)]))) a) (0 : Int)) fun t =>
    some t
  else
  none
noncomputable def enc18 (t : List (List AVal)) : CR := ⟨true, (.slc 0 (t).length), [], [⟨.arr, 4, 1, t⟩]⟩
noncomputable def ks18 : List SK := [.f (.ro 1), .f (.ro 1)]
noncomputable def S18 (us : List AVal) : Call := bif chkA ks18 us then Call.of (F_shadow_Union (roRows (cIa us 0)) (roRows (cIa us 1))) enc18 else Call.none
noncomputable def C18 := AI.ext 18 S18 C11

@[reducible] noncomputable def B18_0 := bodyOf TT TU GL0 C11 ownF L18 (lp Try.f18 0)
@[reducible] noncomputable def K18_0 (k : Ex → St → Option CR) : Ex → St → Option CR := fun e s => k e (maskS (W18_0 e) s)
theorem spec18_0 (k : Ex → St → Option CR) : ∀ (m : Nat) (R0 : List (List AVal)) (x17 : List (List AVal)) (x18 : Int) (x19 : Int), loopN B18_0 m (E18_0 R0 x17 x18 x19) (K18_0 k) = (G_shadow_Union_0 x17 x18 m R0 x19).bind (X18_0 k)
  | 0, _, _, _, _ => rfl
  | m + 1, R0, x17, x18, x19 =>
    Eq.trans (b := (bif (decide (x19 < x18)) then (bif (decide ((0 : Int) ≤ x19)) then (Option.bind (x17[x19.toNat]?) fun r => (bif (chk [LT.bool] r) then (bif (((verEq R0.length R0.length) && (decide ((0 : Int) ≤ x19))) && (decide (x19 < (Int.ofNat R0.length)))) then (bif (verEq R0.length R0.length) then (Option.bind (R0[x19.toNat]?) fun r1 => (bif (chk [LT.bool] r1) then (bif (cB r1 0) then (bif (((verEq R0.length R0.length) && (decide ((0 : Int) ≤ x19))) && (decide (x19 < (Int.ofNat R0.length)))) then (bif ((((verEq R0.length R0.length) && true) && true) && true) then (loopN B18_0 m ⟨[.dead, .dead, .dead, .dead, .dead, (AVal.slc 19280 R0.length), .dead, .dead, .dead, .dead, .dead, .dead, .dead, .dead, .dead, .dead, .dead, (AVal.ro 1 x17), (i64 x18), (i64 (wr (x19 + (1 : Int)))), .dead, .dead, .dead, .dead, .dead, .dead, .dead, .dead, .dead, .dead, .dead, .dead, .dead, .dead, .dead, .dead], [(Prod.mk 19280 (Blk.mk BKind.arr 4 1 (List.set R0 x19.toNat [(bo true)])))]⟩ (K18_0 k)) else none) else none) else (bif (((verEq R0.length R0.length) && (decide ((0 : Int) ≤ x19))) && (decide (x19 < (Int.ofNat R0.length)))) then (bif ((((verEq R0.length R0.length) && true) && true) && true) then (loopN B18_0 m ⟨[.dead, .dead, .dead, .dead, .dead, (AVal.slc 19280 R0.length), .dead, .dead, .dead, .dead, .dead, .dead, .dead, .dead, .dead, .dead, .dead, (AVal.ro 1 x17), (i64 x18), (i64 (wr (x19 + (1 : Int)))), .dead, .dead, .dead, .dead, .dead, .dead, .dead, .dead, .dead, .dead, .dead, .dead, .dead, .dead, .dead, .dead], [(Prod.mk 19280 (Blk.mk BKind.arr 4 1 (List.set R0 x19.toNat [(bo (cB r 0))])))]⟩ (K18_0 k)) else none) else none)) else none)) else none) else none) else none)) else none) else (k (.exit 0) ⟨[.dead, .dead, .dead, .dead, .dead, (AVal.slc 19280 R0.length), .dead, .dead, .dead, .dead, .dead, .dead, .dead, .dead, .dead, .dead, .dead, .dead, .dead, .dead, .dead, .dead, .dead, .dead, .dead, .dead, .dead, .dead, .dead, .dead, .dead, .dead, .dead, .dead, .dead, .dead], [(Prod.mk 19280 (Blk.mk BKind.arr 4 1 R0))]⟩))) (by kernel_rfl)
      (n_condH rfl (fun h0 => (n_condH rfl (fun h1 => (n_bind fun r => (n_condH rfl (fun h2 => (n_condH (n_andL (n_andL (verEq_rfl _) h1) rfl) (fun h3 => (n_true (verEq_rfl _) (n_bind fun r1 => (n_condH rfl (fun h4 => (n_condH rfl (fun h5 => (n_true (n_andL (n_andL (verEq_rfl _) h1) h3) (n_true (n_andL (n_andL (n_andL (verEq_rfl _) rfl) rfl) rfl) ((congrArg (fun z => loopN B18_0 m z (K18_0 k)) (by simp [E18_0] : _ = E18_0 (List.set R0 x19.toNat [(bo true)]) x17 x18 (wr (x19 + (1 : Int))))).trans (spec18_0 k m (List.set R0 x19.toNat [(bo true)]) x17 x18 (wr (x19 + (1 : Int)))))))) fun h5 => (n_true (n_andL (n_andL (verEq_rfl _) h1) h3) (n_true (n_andL (n_andL (n_andL (verEq_rfl _) rfl) rfl) rfl) ((congrArg (fun z => loopN B18_0 m z (K18_0 k)) (by simp [E18_0] : _ = E18_0 (List.set R0 x19.toNat [(bo (cB r 0))]) x17 x18 (wr (x19 + (1 : Int))))).trans (spec18_0 k m (List.set R0 x19.toNat [(bo (cB r 0))]) x17 x18 (wr (x19 + (1 : Int))))))))) fun h4 => n_none)))) fun h3 => n_none)) fun h2 => n_none))) fun h1 => n_none)) fun h0 => rfl)
theorem okL18_0 : LoopOk TT TU GL0 C11 ownF L18 (lp Try.f18 0) :=
  loopOk_of ks18_0 hs18_0 W18_0 FU (fun s k => (G_shadow_Union_0 (roRows (cIa s.tmps 17)) (toI (cIa s.tmps 18)) FU (blkAt s.heap 0).2.rows (toI (cIa s.tmps 19))).bind (X18_0 k)) (fun s k => by kernel_rfl) (fun s k => spec18_0 k FU (blkAt s.heap 0).2.rows (roRows (cIa s.tmps 17)) (toI (cIa s.tmps 18)) (toI (cIa s.tmps 19)))
theorem run18 (a : List (List AVal)) (b : List (List AVal)) : fcall TT TU GL0 C11 ownF true L18 Try.f18 [(.ro 1 a), (.ro 1 b)] = (F_shadow_Union a b).bind fun t => some (enc18 t) :=
  Eq.trans (b := (bif ((((decide ((maxI (Int.ofNat a.length) (Int.ofNat b.length)) = (maxI (Int.ofNat a.length) (Int.ofNat b.length)))) && (decide ((0 : Int) ≤ (maxI (Int.ofNat a.length) (Int.ofNat b.length))))) && (decide ((maxI (Int.ofNat a.length) (Int.ofNat b.length)) ≤ (9223372036854775807 : Int)))) && (decide (((1 : Int) * (maxI (Int.ofNat a.length) (Int.ofNat b.length))) ≤ (140737488355328 : Int)))) then (bif ((verEq (Blk.rows (Blk.mk BKind.arr 4 1 (List.replicate (maxI (Int.ofNat a.length) (Int.ofNat b.length)).toNat [(bo false)]))).length (List.replicate (maxI (Int.ofNat a.length) (Int.ofNat b.length)).toNat [(bo false)]).length) && true) then (bif (((true && (verEq (List.replicate (maxI (Int.ofNat a.length) (Int.ofNat b.length)).toNat [(bo false)]).length (blkLen [(Prod.mk 19280 (Blk.mk BKind.arr 4 1 (copyR (Blk.rows (Blk.mk BKind.arr 4 1 (List.replicate (maxI (Int.ofNat a.length) (Int.ofNat b.length)).toNat [(bo false)]))) a)))] 0))) && true) && true) then (Option.bind (G_shadow_Union_0 b (Int.ofNat b.length) FU (copyR (Blk.rows (Blk.mk BKind.arr 4 1 (List.replicate (maxI (Int.ofNat a.length) (Int.ofNat b.length)).toNat [(bo false)]))) a) (0 : Int)) fun t => (bif (verEq t.length t.length) then (some (CR.mk true (AVal.slc 0 t.length) [] [(Blk.mk BKind.arr 4 1 t)])) else none)) else none) else none) else none)) (by kernel_rfl)
    (n_condH rfl (fun h0 => (n_true (n_andL (by first | exact verEq_of rfl | simp [verEq, blkLen, blkAt]) rfl) (n_true (n_andL (n_andL (n_andL rfl (by first | exact verEq_of rfl | simp [verEq, blkLen, blkAt])) rfl) rfl) (n_bind fun t => (n_true (verEq_rfl _) rfl))))) fun h0 => n_none)
theorem lib18 : Lib Try.prog GL0 C18 :=
  Lib.fn lib11 mixed TT_ok Try.func18 (by decide +kernel) (by kernel_rfl) true L18 (loops_of 1 (by kernel_rfl) (belowS below0 okL18_0)) ks18 (F := fun us => F_shadow_Union (roRows (cIa us 0)) (roRows (cIa us 1))) (fun us => rfl) (fun us => run18 (roRows (cIa us 0)) (roRows (cIa us 1))) (fun t => rfl)

/-! ### 10: skirmish/skirmishlaw12.awake -/



/-- 'skirmish/skirmishlaw12.awake' -/
noncomputable def F_skirmishlaw12_awake : Option (Bool) :=
  Option.bind (F_skirmishlaw12_field (3 : Int) (3 : Int) (1 : Int) (0 : Int)) fun t =>
  Option.bind (F_shadow_Visible t.2.1 t.2.2 t.1 (0 : Int) (0 : Int) (2 : Int) false) fun t1 =>
  Option.bind (F_shadow_Sees t.2.1 t.2.2 t.1 (0 : Int) (0 : Int) (2 : Int) (0 : Int)) fun t2 =>
  bif (!t2) then
    Option.bind (F_shadow_Sees t.2.1 t.2.2 t.1 (0 : Int) (0 : Int) (1 : Int) (0 : Int)) fun t3 =>
    bif t3 then
      Option.bind (F_shadow_Sees t.2.1 t.2.2 t.1 (0 : Int) (0 : Int) (2 : Int) (2 : Int)) fun t4 =>
      bif t4 then
        Option.bind (F_shadow_Blocks t.2.1 t.2.2 t.1 (0 : Int) (0 : Int) (1 : Int) (1 : Int) (1 : Int) (0 : Int)) fun t5 =>
        bif (!t5) then
          Option.bind (F_shadow_Blocks t.2.1 t.2.2 t.1 (0 : Int) (0 : Int) (2 : Int) (1 : Int) (1 : Int) (0 : Int)) fun t6 =>
          bif t6 then
            bif ((Int.ofNat t1.length) == (9 : Int)) then
              bif (decide ((0 : Int) < (Int.ofNat t1.length))) then
                Option.bind (t1[(0 : Int).toNat]?) fun r =>
                bif (chk [LT.bool] r) then
                  bif (cB r 0) then
                    bif (decide ((1 : Int) < (Int.ofNat t1.length))) then
                      Option.bind (t1[(1 : Int).toNat]?) fun r1 =>
                      bif (chk [LT.bool] r1) then
                        bif (cB r1 0) then
                          bif (decide ((2 : Int) < (Int.ofNat t1.length))) then
                            Option.bind (t1[(2 : Int).toNat]?) fun r2 =>
                            bif (chk [LT.bool] r2) then
                              bif (!(cB r2 0)) then
                                bif (decide ((6 : Int) < (Int.ofNat t1.length))) then
                                  Option.bind (t1[(6 : Int).toNat]?) fun r3 =>
                                  bif (chk [LT.bool] r3) then
                                    bif (cB r3 0) then
                                      bif (decide ((8 : Int) < (Int.ofNat t1.length))) then
                                        Option.bind (t1[(8 : Int).toNat]?) fun r4 =>
                                        bif (chk [LT.bool] r4) then
                                          bif (!(cB r4 0)) then
                                            Option.bind (F_shadow_Visible t.2.1 t.2.2 t.1 (0 : Int) (0 : Int) (-(1 : Int)) false) fun t7 =>
                                            bif ((Int.ofNat t7.length) == (0 : Int)) then
                                              Option.bind (F_shadow_Union [[(bo true)]] [[(bo false)], [(bo true)]]) fun t8 =>
                                              some ((Int.ofNat t8.length) == (2 : Int))
                                            else
                                            some false
                                          else
                                          some false
                                        else
                                        none
                                      else
                                      none
                                    else
                                    some false
                                  else
                                  none
                                else
                                none
                              else
                              some false
                            else
                            none
                          else
                          none
                        else
                        some false
                      else
                      none
                    else
                    none
                  else
                  some false
                else
                none
              else
              none
            else
            some false
          else
          some false
        else
        some false
      else
      some false
    else
    some false
  else
  some false
noncomputable def enc10 (t : Bool) : CR := ⟨true, (.sc (.bool t)), [], []⟩
noncomputable def ks10 : List SK := []
noncomputable def S10 (us : List AVal) : Call := bif chkA ks10 us then Call.of (F_skirmishlaw12_awake) enc10 else Call.none
noncomputable def C10 := AI.ext 10 S10 C18

theorem run10 : fcall TT TU GL0 C18 ownF true noL Try.f10 [] = (F_skirmishlaw12_awake).bind fun t => some (enc10 t) :=
  Eq.trans (b := (Option.bind (F_skirmishlaw12_field (3 : Int) (3 : Int) (1 : Int) (0 : Int)) fun t => (bif ((((true && (verEq t.1.length t.1.length)) && true) && true) && true) then (bif (verEq t.1.length t.1.length) then (Option.bind (F_shadow_Visible t.2.1 t.2.2 t.1 (0 : Int) (0 : Int) (2 : Int) false) fun t1 => (bif ((((true && (verEq t1.length t1.length)) && true) && true) && true) then (bif (verEq t.1.length t.1.length) then (Option.bind (F_shadow_Sees t.2.1 t.2.2 t.1 (0 : Int) (0 : Int) (2 : Int) (0 : Int)) fun t2 => (bif (!t2) then (bif (verEq t.1.length t.1.length) then (Option.bind (F_shadow_Sees t.2.1 t.2.2 t.1 (0 : Int) (0 : Int) (1 : Int) (0 : Int)) fun t3 => (bif t3 then (bif (verEq t.1.length t.1.length) then (Option.bind (F_shadow_Sees t.2.1 t.2.2 t.1 (0 : Int) (0 : Int) (2 : Int) (2 : Int)) fun t4 => (bif t4 then (bif (verEq t.1.length t.1.length) then (Option.bind (F_shadow_Blocks t.2.1 t.2.2 t.1 (0 : Int) (0 : Int) (1 : Int) (1 : Int) (1 : Int) (0 : Int)) fun t5 => (bif (!t5) then (bif (verEq t.1.length t.1.length) then (Option.bind (F_shadow_Blocks t.2.1 t.2.2 t.1 (0 : Int) (0 : Int) (2 : Int) (1 : Int) (1 : Int) (0 : Int)) fun t6 => (bif t6 then (bif (verEq t1.length t1.length) then (bif ((Int.ofNat t1.length) == (9 : Int)) then (bif (((verEq t1.length t1.length) && (decide ((0 : Int) ≤ (0 : Int)))) && (decide ((0 : Int) < (Int.ofNat t1.length)))) then (bif (verEq t1.length t1.length) then (Option.bind (t1[(0 : Int).toNat]?) fun r => (bif (chk [LT.bool] r) then (bif (cB r 0) then (bif (((verEq t1.length t1.length) && (decide ((0 : Int) ≤ (1 : Int)))) && (decide ((1 : Int) < (Int.ofNat t1.length)))) then (bif (verEq t1.length t1.length) then (Option.bind (t1[(1 : Int).toNat]?) fun r1 => (bif (chk [LT.bool] r1) then (bif (cB r1 0) then (bif (((verEq t1.length t1.length) && (decide ((0 : Int) ≤ (2 : Int)))) && (decide ((2 : Int) < (Int.ofNat t1.length)))) then (bif (verEq t1.length t1.length) then (Option.bind (t1[(2 : Int).toNat]?) fun r2 => (bif (chk [LT.bool] r2) then (bif (!(cB r2 0)) then (bif (((verEq t1.length t1.length) && (decide ((0 : Int) ≤ (6 : Int)))) && (decide ((6 : Int) < (Int.ofNat t1.length)))) then (bif (verEq t1.length t1.length) then (Option.bind (t1[(6 : Int).toNat]?) fun r3 => (bif (chk [LT.bool] r3) then (bif (cB r3 0) then (bif (((verEq t1.length t1.length) && (decide ((0 : Int) ≤ (8 : Int)))) && (decide ((8 : Int) < (Int.ofNat t1.length)))) then (bif (verEq t1.length t1.length) then (Option.bind (t1[(8 : Int).toNat]?) fun r4 => (bif (chk [LT.bool] r4) then (bif (!(cB r4 0)) then (bif (verEq t.1.length t.1.length) then (Option.bind (F_shadow_Visible t.2.1 t.2.2 t.1 (0 : Int) (0 : Int) (-(1 : Int)) false) fun t7 => (bif ((((true && (verEq t7.length t7.length)) && true) && true) && true) then (bif (verEq t7.length t7.length) then (bif ((Int.ofNat t7.length) == (0 : Int)) then (Option.bind (F_shadow_Union [[(bo true)]] [[(bo false)], [(bo true)]]) fun t8 => (bif ((((true && (verEq t8.length t8.length)) && true) && true) && true) then (bif (verEq t8.length t8.length) then (some (CR.mk true (bo ((Int.ofNat t8.length) == (2 : Int))) [] [])) else none) else none)) else (some (CR.mk true (bo false) [] []))) else none) else none)) else none) else (some (CR.mk true (bo false) [] []))) else none)) else none) else none) else (some (CR.mk true (bo false) [] []))) else none)) else none) else none) else (some (CR.mk true (bo false) [] []))) else none)) else none) else none) else (some (CR.mk true (bo false) [] []))) else none)) else none) else none) else (some (CR.mk true (bo false) [] []))) else none)) else none) else none) else (some (CR.mk true (bo false) [] []))) else none) else (some (CR.mk true (bo false) [] [])))) else none) else (some (CR.mk true (bo false) [] [])))) else none) else (some (CR.mk true (bo false) [] [])))) else none) else (some (CR.mk true (bo false) [] [])))) else none) else (some (CR.mk true (bo false) [] [])))) else none) else none)) else none) else none))) (by kernel_rfl)
    (n_bind fun t => (n_true (n_andL (n_andL (n_andL (n_andL rfl (verEq_rfl _)) rfl) rfl) rfl) (n_true (verEq_rfl _) (n_bind fun t1 => (n_true (n_andL (n_andL (n_andL (n_andL rfl (verEq_rfl _)) rfl) rfl) rfl) (n_true (verEq_rfl _) (n_bind fun t2 => (n_condH rfl (fun h0 => (n_true (verEq_rfl _) (n_bind fun t3 => (n_condH rfl (fun h1 => (n_true (verEq_rfl _) (n_bind fun t4 => (n_condH rfl (fun h2 => (n_true (verEq_rfl _) (n_bind fun t5 => (n_condH rfl (fun h3 => (n_true (verEq_rfl _) (n_bind fun t6 => (n_condH rfl (fun h4 => (n_true (verEq_rfl _) (n_condH rfl (fun h5 => (n_condH (n_andL (n_andL (verEq_rfl _) (by kernel_rfl)) rfl) (fun h6 => (n_true (verEq_rfl _) (n_bind fun r => (n_condH rfl (fun h7 => (n_condH rfl (fun h8 => (n_condH (n_andL (n_andL (verEq_rfl _) (by kernel_rfl)) rfl) (fun h9 => (n_true (verEq_rfl _) (n_bind fun r1 => (n_condH rfl (fun h10 => (n_condH rfl (fun h11 => (n_condH (n_andL (n_andL (verEq_rfl _) (by kernel_rfl)) rfl) (fun h12 => (n_true (verEq_rfl _) (n_bind fun r2 => (n_condH rfl (fun h13 => (n_condH rfl (fun h14 => (n_condH (n_andL (n_andL (verEq_rfl _) (by kernel_rfl)) rfl) (fun h15 => (n_true (verEq_rfl _) (n_bind fun r3 => (n_condH rfl (fun h16 => (n_condH rfl (fun h17 => (n_condH (n_andL (n_andL (verEq_rfl _) (by kernel_rfl)) rfl) (fun h18 => (n_true (verEq_rfl _) (n_bind fun r4 => (n_condH rfl (fun h19 => (n_condH rfl (fun h20 => (n_true (verEq_rfl _) (n_bind fun t7 => (n_true (n_andL (n_andL (n_andL (n_andL rfl (verEq_rfl _)) rfl) rfl) rfl) (n_true (verEq_rfl _) (n_condH rfl (fun h21 => (n_bind fun t8 => (n_true (n_andL (n_andL (n_andL (n_andL rfl (verEq_rfl _)) rfl) rfl) rfl) (n_true (verEq_rfl _) rfl)))) fun h21 => rfl)))))) fun h20 => rfl)) fun h19 => n_none)))) fun h18 => n_none)) fun h17 => rfl)) fun h16 => n_none)))) fun h15 => n_none)) fun h14 => rfl)) fun h13 => n_none)))) fun h12 => n_none)) fun h11 => rfl)) fun h10 => n_none)))) fun h9 => n_none)) fun h8 => rfl)) fun h7 => n_none)))) fun h6 => n_none)) fun h5 => rfl))) fun h4 => rfl)))) fun h3 => rfl)))) fun h2 => rfl)))) fun h1 => rfl)))) fun h0 => rfl))))))))
theorem lib10 : Lib Try.prog GL0 C10 :=
  Lib.fn lib18 mixed TT_ok Try.func10 (by decide +kernel) (by kernel_rfl) true noL (loops_of 0 (by kernel_rfl) below0) ks10 (F := fun us => F_skirmishlaw12_awake) (fun us => rfl) (fun us => run10) (fun t => rfl)

/-! ### 57: skirmish/skirmishref06.Valid -/



/-- 'skirmish/skirmishref06.Valid' -/
noncomputable def F_skirmishref06_Valid (w : Int) (h : Int) : Option (Bool) :=
  bif (decide (w ≥ (1 : Int))) then
    bif (decide (w ≤ (32 : Int))) then
      bif (decide (h ≥ (1 : Int))) then
        some (decide (h ≤ (32 : Int)))
      else
      some false
    else
    some false
  else
  some false
noncomputable def enc57 (t : Bool) : CR := ⟨true, (.sc (.bool t)), [], []⟩
noncomputable def ks57 : List SK := [.f (.int .i64), .f (.int .i64)]
noncomputable def S57 (us : List AVal) : Call := bif chkA ks57 us then Call.of (F_skirmishref06_Valid (toI (cIa us 0)) (toI (cIa us 1))) enc57 else Call.none
noncomputable def C57 := AI.ext 57 S57 C10

theorem run57 (w : Int) (h : Int) : fcall TT TU GL0 C10 ownF true noL Try.f57 [(.sc (.int .i64 w)), (.sc (.int .i64 h))] = (F_skirmishref06_Valid w h).bind fun t => some (enc57 t) :=
  Eq.trans (b := (bif (decide (w ≥ (1 : Int))) then (bif (decide (w ≤ (32 : Int))) then (bif (decide (h ≥ (1 : Int))) then (some (CR.mk true (bo (decide (h ≤ (32 : Int)))) [] [])) else (some (CR.mk true (bo false) [] []))) else (some (CR.mk true (bo false) [] []))) else (some (CR.mk true (bo false) [] [])))) (by kernel_rfl)
    (n_condH rfl (fun h0 => (n_condH rfl (fun h1 => (n_condH rfl (fun h2 => rfl) fun h2 => rfl)) fun h1 => rfl)) fun h0 => rfl)
theorem lib57 : Lib Try.prog GL0 C57 :=
  Lib.fn lib10 mixed TT_ok Try.func57 (by decide +kernel) (by kernel_rfl) true noL (loops_of 0 (by kernel_rfl) below0) ks57 (F := fun us => F_skirmishref06_Valid (toI (cIa us 0)) (toI (cIa us 1))) (fun us => rfl) (fun us => run57 (toI (cIa us 0)) (toI (cIa us 1))) (fun t => rfl)

/-! ### 39: skirmish/skirmishref07.Formed -/



/-- 'skirmish/skirmishref07.Formed' -/
noncomputable def F_skirmishref07_Formed (m_W : Int) (m_H : Int) (m_Cells : List (List AVal)) : Option (Bool) :=
  Option.bind (F_skirmishref06_Valid m_W m_H) fun t =>
  bif t then
    some ((Int.ofNat m_Cells.length) == (wr (m_W * m_H)))
  else
  some false
noncomputable def enc39 (t : Bool) : CR := ⟨true, (.sc (.bool t)), [], []⟩
noncomputable def ks39 : List SK := [.agg [.int .i64, .int .i64, .ro 3]]
noncomputable def S39 (us : List AVal) : Call := bif chkA ks39 us then Call.of (F_skirmishref07_Formed (toI (cIa (aggL (cIa us 0)) 0)) (toI (cIa (aggL (cIa us 0)) 1)) (roRows (cIa (aggL (cIa us 0)) 2))) enc39 else Call.none
noncomputable def C39 := AI.ext 39 S39 C57

theorem run39 (m_W : Int) (m_H : Int) (m_Cells : List (List AVal)) : fcall TT TU GL0 C57 ownF true noL Try.f39 [(.agg [(.sc (.int .i64 m_W)), (.sc (.int .i64 m_H)), (.ro 3 m_Cells)])] = (F_skirmishref07_Formed m_W m_H m_Cells).bind fun t => some (enc39 t) :=
  Eq.trans (b := (Option.bind (F_skirmishref06_Valid m_W m_H) fun t => (bif t then (some (CR.mk true (bo ((Int.ofNat m_Cells.length) == (wr (m_W * m_H)))) [] [])) else (some (CR.mk true (bo false) [] []))))) (by kernel_rfl)
    (n_bind fun t => (n_condH rfl (fun h0 => rfl) fun h0 => rfl))
theorem lib39 : Lib Try.prog GL0 C39 :=
  Lib.fn lib57 mixed TT_ok Try.func39 (by decide +kernel) (by kernel_rfl) true noL (loops_of 0 (by kernel_rfl) below0) ks39 (F := fun us => F_skirmishref07_Formed (toI (cIa (aggL (cIa us 0)) 0)) (toI (cIa (aggL (cIa us 0)) 1)) (roRows (cIa (aggL (cIa us 0)) 2))) (fun us => rfl) (fun us => run39 (toI (cIa (aggL (cIa us 0)) 0)) (toI (cIa (aggL (cIa us 0)) 1)) (roRows (cIa (aggL (cIa us 0)) 2))) (fun t => rfl)

/-! ### 40: skirmish/skirmishref07.ValidCell -/



/-- 'skirmish/skirmishref07.ValidCell' -/
noncomputable def F_skirmishref07_ValidCell (c_Kind : Int) (c_Height : Int) (c_Amount : Int) : Option (Bool) :=
  bif (decide (c_Kind < (1 : Int))) then
    some false
  else
  bif (decide (c_Kind > (5 : Int))) then
    some false
  else
  bif (decide (c_Height < (0 : Int))) then
    some false
  else
  bif (decide (c_Height > (3 : Int))) then
    some false
  else
  bif (decide (c_Amount < (0 : Int))) then
    some false
  else
  bif (decide (c_Amount > (1000000 : Int))) then
    some false
  else
  bif (c_Kind == (4 : Int)) then
    some ((decide (c_Amount > (0 : Int))) == true)
  else
  some ((decide (c_Amount > (0 : Int))) == (c_Kind == (5 : Int)))
noncomputable def enc40 (t : Bool) : CR := ⟨true, (.sc (.bool t)), [], []⟩
noncomputable def ks40 : List SK := [.agg [.int .i64, .int .i64, .int .i64]]
noncomputable def S40 (us : List AVal) : Call := bif chkA ks40 us then Call.of (F_skirmishref07_ValidCell (toI (cIa (aggL (cIa us 0)) 0)) (toI (cIa (aggL (cIa us 0)) 1)) (toI (cIa (aggL (cIa us 0)) 2))) enc40 else Call.none
noncomputable def C40 := AI.ext 40 S40 C39

theorem run40 (c_Kind : Int) (c_Height : Int) (c_Amount : Int) : fcall TT TU GL0 C39 ownF true noL Try.f40 [(.agg [(.sc (.int .i64 c_Kind)), (.sc (.int .i64 c_Height)), (.sc (.int .i64 c_Amount))])] = (F_skirmishref07_ValidCell c_Kind c_Height c_Amount).bind fun t => some (enc40 t) :=
  Eq.trans (b := (bif (decide (c_Kind < (1 : Int))) then (some (CR.mk true (bo false) [] [])) else (bif (decide (c_Kind > (5 : Int))) then (some (CR.mk true (bo false) [] [])) else (bif (decide (c_Height < (0 : Int))) then (some (CR.mk true (bo false) [] [])) else (bif (decide (c_Height > (3 : Int))) then (some (CR.mk true (bo false) [] [])) else (bif (decide (c_Amount < (0 : Int))) then (some (CR.mk true (bo false) [] [])) else (bif (decide (c_Amount > (1000000 : Int))) then (some (CR.mk true (bo false) [] [])) else (bif (c_Kind == (4 : Int)) then (some (CR.mk true (bo ((decide (c_Amount > (0 : Int))) == true)) [] [])) else (some (CR.mk true (bo ((decide (c_Amount > (0 : Int))) == (c_Kind == (5 : Int)))) [] [])))))))))) (by kernel_rfl)
    (n_condH rfl (fun h0 => rfl) fun h0 => (n_condH rfl (fun h1 => rfl) fun h1 => (n_condH rfl (fun h2 => rfl) fun h2 => (n_condH rfl (fun h3 => rfl) fun h3 => (n_condH rfl (fun h4 => rfl) fun h4 => (n_condH rfl (fun h5 => rfl) fun h5 => (n_condH rfl (fun h6 => rfl) fun h6 => rfl)))))))
theorem lib40 : Lib Try.prog GL0 C40 :=
  Lib.fn lib39 mixed TT_ok Try.func40 (by decide +kernel) (by kernel_rfl) true noL (loops_of 0 (by kernel_rfl) below0) ks40 (F := fun us => F_skirmishref07_ValidCell (toI (cIa (aggL (cIa us 0)) 0)) (toI (cIa (aggL (cIa us 0)) 1)) (toI (cIa (aggL (cIa us 0)) 2))) (fun us => rfl) (fun us => run40 (toI (cIa (aggL (cIa us 0)) 0)) (toI (cIa (aggL (cIa us 0)) 1)) (toI (cIa (aggL (cIa us 0)) 2))) (fun t => rfl)

/-! ### 21: skirmish/skirmishref07.Valid -/

noncomputable def W21_0 : Ex → List Bool
  | .ret => [false, false, true, false, false, false, false, false, false, false, false, false, false, false, false, false, false, false, false, false, false]
  | .exit n => bif Nat.beq n 0 then [false, false, false, false, false, false, false, false, false, false, false, false, false, false, false, false, false, false, false, false, false] else []
  | .normal => []
noncomputable def G_skirmishref07_Valid_0 (b0_2 : List (List AVal)) : Nat → Int → Option (Bool)
  | 0, _ => none
  | m + 1, i =>
    bif (decide (i < (Int.ofNat b0_2.length))) then
      bif (decide ((0 : Int) ≤ i)) then
        Option.bind (b0_2[i.toNat]?) fun r =>
        bif (chk [(LT.int IntKind.i64), (LT.int IntKind.i64), (LT.int IntKind.i64)] r) then
          Option.bind (F_skirmishref07_ValidCell (cI r 0) (cI r 1) (cI r 2)) fun t =>
          bif (!t) then
            some true
          else
          G_skirmishref07_Valid_0 b0_2 m (wr (i + (1 : Int)))
        else
        none
      else
      none
    else
    some false
noncomputable def E21_0 (i : Int) (b0_0 : Int) (b0_1 : Int) (b0_2 : List (List AVal)) : St := ⟨[.dead, (.ref 16000 1 0 0), .dead, (.sc (.int .i64 i)), .dead, .dead, .dead, .dead, .dead, .dead, .dead, .dead, .dead, .dead, .dead, .dead, .dead, .dead, .dead, .dead, .dead], [(16000, ⟨.box, 24, 3, [[(.sc (.int .i64 b0_0)), (.sc (.int .i64 b0_1)), (.ro 3 b0_2)]]⟩)]⟩
noncomputable def X21_0 (k : Ex → St → Option CR) (t : Bool) : Option CR := bif t then k .ret ⟨[.dead, .dead, (.sc (.bool false)), .dead, .dead, .dead, .dead, .dead, .dead, .dead, .dead, .dead, .dead, .dead, .dead, .dead, .dead, .dead, .dead, .dead, .dead], []⟩ else k (.exit 0) ⟨[.dead, .dead, .dead, .dead, .dead, .dead, .dead, .dead, .dead, .dead, .dead, .dead, .dead, .dead, .dead, .dead, .dead, .dead, .dead, .dead, .dead], []⟩
noncomputable def ks21_0 : List SK := [.f .dead, .f (.ref 16000 1 0 0), .f .dead, .f (.int .i64), .f .dead, .f .dead, .f .dead, .f .dead, .f .dead, .f .dead, .f .dead, .f .dead, .f .dead, .f .dead, .f .dead, .f .dead, .f .dead, .f .dead, .f .dead, .f .dead, .f .dead]
noncomputable def hs21_0 : List HK := [⟨16000, .box, 24, 3, some [.int .i64, .int .i64, .ro 3]⟩]
noncomputable def Lm21_0 (s : St) (k : Ex → St → Option CR) : Option CR := bif chkS ks21_0 hs21_0 s then (G_skirmishref07_Valid_0 (roRows (cIa (rows0 (blkAt s.heap 0).2) 2)) FU (toI (cIa s.tmps 3))).bind (X21_0 k) else none
noncomputable def L21_0 (s : St) (k : Ex → St → Option CR) : Option CR := Lm21_0 (maskS (maskOf ks21_0) s) k

noncomputable def L21 : LT' := fun i s k => bif Nat.beq i 0 then L21_0 s k else none

/-- 'skirmish/skirmishref07.Valid' -/
noncomputable def F_skirmishref07_Valid (m_W : Int) (m_H : Int) (m_Cells : List (List AVal)) : Option (Bool) :=
  Option.bind (F_skirmishref07_Formed m_W m_H m_Cells) fun t =>
  bif (!t) then
    some false
  else
  Option.bind (G_skirmishref07_Valid_0 m_Cells FU (0 : Int)) fun t1 =>
  bif t1 then
    some false
  else
  some true
noncomputable def enc21 (t : Bool) : CR := ⟨true, (.sc (.bool t)), [], []⟩
noncomputable def ks21 : List SK := [.agg [.int .i64, .int .i64, .ro 3]]
noncomputable def S21 (us : List AVal) : Call := bif chkA ks21 us then Call.of (F_skirmishref07_Valid (toI (cIa (aggL (cIa us 0)) 0)) (toI (cIa (aggL (cIa us 0)) 1)) (roRows (cIa (aggL (cIa us 0)) 2))) enc21 else Call.none
noncomputable def C21 := AI.ext 21 S21 C40

@[reducible] noncomputable def B21_0 := bodyOf TT TU GL0 C40 ownF L21 (lp Try.f21 0)
@[reducible] noncomputable def K21_0 (k : Ex → St → Option CR) : Ex → St → Option CR := fun e s => k e (maskS (W21_0 e) s)
theorem spec21_0 (k : Ex → St → Option CR) : ∀ (m : Nat) (i : Int) (b0_0 : Int) (b0_1 : Int) (b0_2 : List (List AVal)), loopN B21_0 m (E21_0 i b0_0 b0_1 b0_2) (K21_0 k) = (G_skirmishref07_Valid_0 b0_2 m i).bind (X21_0 k)
  | 0, _, _, _, _ => rfl
  | m + 1, i, b0_0, b0_1, b0_2 =>
    Eq.trans (b := (bif (decide (i < (Int.ofNat b0_2.length))) then (bif (decide ((0 : Int) ≤ i)) then (Option.bind (b0_2[i.toNat]?) fun r => (bif (chk [(LT.int IntKind.i64), (LT.int IntKind.i64), (LT.int IntKind.i64)] r) then (Option.bind (F_skirmishref07_ValidCell (cI r 0) (cI r 1) (cI r 2)) fun t => (bif (!t) then (k .ret ⟨[.dead, .dead, (bo false), .dead, .dead, .dead, .dead, .dead, .dead, .dead, .dead, .dead, .dead, .dead, .dead, .dead, .dead, .dead, .dead, .dead, .dead], []⟩) else (loopN B21_0 m ⟨[.dead, (AVal.ref 16000 1 0 0), .dead, (i64 (wr (i + (1 : Int)))), .dead, .dead, .dead, .dead, .dead, .dead, .dead, .dead, .dead, .dead, .dead, .dead, .dead, .dead, .dead, .dead, .dead], [(Prod.mk 16000 (Blk.mk BKind.box 24 3 [[(i64 b0_0), (i64 b0_1), (AVal.ro 3 b0_2)]]))]⟩ (K21_0 k)))) else none)) else none) else (k (.exit 0) ⟨[.dead, .dead, .dead, .dead, .dead, .dead, .dead, .dead, .dead, .dead, .dead, .dead, .dead, .dead, .dead, .dead, .dead, .dead, .dead, .dead, .dead], []⟩))) (by kernel_rfl)
      (n_condH rfl (fun h0 => (n_condH rfl (fun h1 => (n_bind fun r => (n_condH rfl (fun h2 => (n_bind fun t => (n_condH rfl (fun h3 => rfl) fun h3 => (spec21_0 k m (wr (i + (1 : Int))) b0_0 b0_1 b0_2)))) fun h2 => n_none))) fun h1 => n_none)) fun h0 => rfl)
theorem okL21_0 : LoopOk TT TU GL0 C40 ownF L21 (lp Try.f21 0) :=
  loopOk_of ks21_0 hs21_0 W21_0 FU (fun s k => (G_skirmishref07_Valid_0 (roRows (cIa (rows0 (blkAt s.heap 0).2) 2)) FU (toI (cIa s.tmps 3))).bind (X21_0 k)) (fun s k => by kernel_rfl) (fun s k => spec21_0 k FU (toI (cIa s.tmps 3)) (toI (cIa (rows0 (blkAt s.heap 0).2) 0)) (toI (cIa (rows0 (blkAt s.heap 0).2) 1)) (roRows (cIa (rows0 (blkAt s.heap 0).2) 2)))
theorem run21 (m_W : Int) (m_H : Int) (m_Cells : List (List AVal)) : fcall TT TU GL0 C40 ownF true L21 Try.f21 [(.agg [(.sc (.int .i64 m_W)), (.sc (.int .i64 m_H)), (.ro 3 m_Cells)])] = (F_skirmishref07_Valid m_W m_H m_Cells).bind fun t => some (enc21 t) :=
  Eq.trans (b := (Option.bind (F_skirmishref07_Formed m_W m_H m_Cells) fun t => (bif (!t) then (some (CR.mk true (bo false) [] [])) else (Option.bind (G_skirmishref07_Valid_0 m_Cells FU (0 : Int)) fun t1 => (bif t1 then (some (CR.mk true (bo false) [] [])) else (some (CR.mk true (bo true) [] []))))))) (by kernel_rfl)
    (n_bind fun t => (n_condH rfl (fun h0 => rfl) fun h0 => (n_bind fun t1 => (n_condH rfl (fun h1 => rfl) fun h1 => rfl))))
theorem lib21 : Lib Try.prog GL0 C21 :=
  Lib.fn lib40 mixed TT_ok Try.func21 (by decide +kernel) (by kernel_rfl) true L21 (loops_of 1 (by kernel_rfl) (belowS below0 okL21_0)) ks21 (F := fun us => F_skirmishref07_Valid (toI (cIa (aggL (cIa us 0)) 0)) (toI (cIa (aggL (cIa us 0)) 1)) (roRows (cIa (aggL (cIa us 0)) 2))) (fun us => rfl) (fun us => run21 (toI (cIa (aggL (cIa us 0)) 0)) (toI (cIa (aggL (cIa us 0)) 1)) (roRows (cIa (aggL (cIa us 0)) 2))) (fun t => rfl)

/-! ### 22: skirmish/skirmishref06.In -/



/-- 'skirmish/skirmishref06.In' -/
noncomputable def F_skirmishref06_In (w : Int) (h : Int) (p_X : Int) (p_Y : Int) : Option (Bool) :=
  bif (decide (p_X ≥ (0 : Int))) then
    bif (decide (p_X < w)) then
      bif (decide (p_Y ≥ (0 : Int))) then
        some (decide (p_Y < h))
      else
      some false
    else
    some false
  else
  some false
noncomputable def enc22 (t : Bool) : CR := ⟨true, (.sc (.bool t)), [], []⟩
noncomputable def ks22 : List SK := [.f (.int .i64), .f (.int .i64), .agg [.int .i64, .int .i64]]
noncomputable def S22 (us : List AVal) : Call := bif chkA ks22 us then Call.of (F_skirmishref06_In (toI (cIa us 0)) (toI (cIa us 1)) (toI (cIa (aggL (cIa us 2)) 0)) (toI (cIa (aggL (cIa us 2)) 1))) enc22 else Call.none
noncomputable def C22 := AI.ext 22 S22 C21

theorem run22 (w : Int) (h : Int) (p_X : Int) (p_Y : Int) : fcall TT TU GL0 C21 ownF true noL Try.f22 [(.sc (.int .i64 w)), (.sc (.int .i64 h)), (.agg [(.sc (.int .i64 p_X)), (.sc (.int .i64 p_Y))])] = (F_skirmishref06_In w h p_X p_Y).bind fun t => some (enc22 t) :=
  Eq.trans (b := (bif (decide (p_X ≥ (0 : Int))) then (bif (decide (p_X < w)) then (bif (decide (p_Y ≥ (0 : Int))) then (some (CR.mk true (bo (decide (p_Y < h))) [] [])) else (some (CR.mk true (bo false) [] []))) else (some (CR.mk true (bo false) [] []))) else (some (CR.mk true (bo false) [] [])))) (by kernel_rfl)
    (n_condH rfl (fun h0 => (n_condH rfl (fun h1 => (n_condH rfl (fun h2 => rfl) fun h2 => rfl)) fun h1 => rfl)) fun h0 => rfl)
theorem lib22 : Lib Try.prog GL0 C22 :=
  Lib.fn lib21 mixed TT_ok Try.func22 (by decide +kernel) (by kernel_rfl) true noL (loops_of 0 (by kernel_rfl) below0) ks22 (F := fun us => F_skirmishref06_In (toI (cIa us 0)) (toI (cIa us 1)) (toI (cIa (aggL (cIa us 2)) 0)) (toI (cIa (aggL (cIa us 2)) 1))) (fun us => rfl) (fun us => run22 (toI (cIa us 0)) (toI (cIa us 1)) (toI (cIa (aggL (cIa us 2)) 0)) (toI (cIa (aggL (cIa us 2)) 1))) (fun t => rfl)

/-! ### 30: skirmish/skirmishref12.inside -/



/-- 'skirmish/skirmishref12.inside' -/
noncomputable def F_skirmishref12_inside (m_W : Int) (m_H : Int) (m_Cells : List (List AVal)) (p_X : Int) (p_Y : Int) : Option (Bool) :=
  Option.bind (F_skirmishref06_In m_W m_H p_X p_Y) fun t =>
  some t
noncomputable def enc30 (t : Bool) : CR := ⟨true, (.sc (.bool t)), [], []⟩
noncomputable def ks30 : List SK := [.agg [.int .i64, .int .i64, .ro 3], .agg [.int .i64, .int .i64]]
noncomputable def S30 (us : List AVal) : Call := bif chkA ks30 us then Call.of (F_skirmishref12_inside (toI (cIa (aggL (cIa us 0)) 0)) (toI (cIa (aggL (cIa us 0)) 1)) (roRows (cIa (aggL (cIa us 0)) 2)) (toI (cIa (aggL (cIa us 1)) 0)) (toI (cIa (aggL (cIa us 1)) 1))) enc30 else Call.none
noncomputable def C30 := AI.ext 30 S30 C22

theorem run30 (m_W : Int) (m_H : Int) (m_Cells : List (List AVal)) (p_X : Int) (p_Y : Int) : fcall TT TU GL0 C22 ownF true noL Try.f30 [(.agg [(.sc (.int .i64 m_W)), (.sc (.int .i64 m_H)), (.ro 3 m_Cells)]), (.agg [(.sc (.int .i64 p_X)), (.sc (.int .i64 p_Y))])] = (F_skirmishref12_inside m_W m_H m_Cells p_X p_Y).bind fun t => some (enc30 t) :=
  Eq.trans (b := (Option.bind (F_skirmishref06_In m_W m_H p_X p_Y) fun t => (some (CR.mk true (bo t) [] [])))) (by kernel_rfl)
    (n_bind fun t => rfl)
theorem lib30 : Lib Try.prog GL0 C30 :=
  Lib.fn lib22 mixed TT_ok Try.func30 (by decide +kernel) (by kernel_rfl) true noL (loops_of 0 (by kernel_rfl) below0) ks30 (F := fun us => F_skirmishref12_inside (toI (cIa (aggL (cIa us 0)) 0)) (toI (cIa (aggL (cIa us 0)) 1)) (roRows (cIa (aggL (cIa us 0)) 2)) (toI (cIa (aggL (cIa us 1)) 0)) (toI (cIa (aggL (cIa us 1)) 1))) (fun us => rfl) (fun us => run30 (toI (cIa (aggL (cIa us 0)) 0)) (toI (cIa (aggL (cIa us 0)) 1)) (roRows (cIa (aggL (cIa us 0)) 2)) (toI (cIa (aggL (cIa us 1)) 0)) (toI (cIa (aggL (cIa us 1)) 1))) (fun t => rfl)

/-! ### 41: skirmish/skirmishref07.Inside -/



/-- 'skirmish/skirmishref07.Inside' -/
noncomputable def F_skirmishref07_Inside (m_W : Int) (m_H : Int) (m_Cells : List (List AVal)) (p_X : Int) (p_Y : Int) : Option (Bool) :=
  Option.bind (F_skirmishref07_Formed m_W m_H m_Cells) fun t =>
  bif t then
    Option.bind (F_skirmishref06_In m_W m_H p_X p_Y) fun t1 =>
    some t1
  else
  some false
noncomputable def enc41 (t : Bool) : CR := ⟨true, (.sc (.bool t)), [], []⟩
noncomputable def ks41 : List SK := [.agg [.int .i64, .int .i64, .ro 3], .agg [.int .i64, .int .i64]]
noncomputable def S41 (us : List AVal) : Call := bif chkA ks41 us then Call.of (F_skirmishref07_Inside (toI (cIa (aggL (cIa us 0)) 0)) (toI (cIa (aggL (cIa us 0)) 1)) (roRows (cIa (aggL (cIa us 0)) 2)) (toI (cIa (aggL (cIa us 1)) 0)) (toI (cIa (aggL (cIa us 1)) 1))) enc41 else Call.none
noncomputable def C41 := AI.ext 41 S41 C30

theorem run41 (m_W : Int) (m_H : Int) (m_Cells : List (List AVal)) (p_X : Int) (p_Y : Int) : fcall TT TU GL0 C30 ownF true noL Try.f41 [(.agg [(.sc (.int .i64 m_W)), (.sc (.int .i64 m_H)), (.ro 3 m_Cells)]), (.agg [(.sc (.int .i64 p_X)), (.sc (.int .i64 p_Y))])] = (F_skirmishref07_Inside m_W m_H m_Cells p_X p_Y).bind fun t => some (enc41 t) :=
  Eq.trans (b := (Option.bind (F_skirmishref07_Formed m_W m_H m_Cells) fun t => (bif t then (Option.bind (F_skirmishref06_In m_W m_H p_X p_Y) fun t1 => (some (CR.mk true (bo t1) [] []))) else (some (CR.mk true (bo false) [] []))))) (by kernel_rfl)
    (n_bind fun t => (n_condH rfl (fun h0 => (n_bind fun t1 => rfl)) fun h0 => rfl))
theorem lib41 : Lib Try.prog GL0 C41 :=
  Lib.fn lib30 mixed TT_ok Try.func41 (by decide +kernel) (by kernel_rfl) true noL (loops_of 0 (by kernel_rfl) below0) ks41 (F := fun us => F_skirmishref07_Inside (toI (cIa (aggL (cIa us 0)) 0)) (toI (cIa (aggL (cIa us 0)) 1)) (roRows (cIa (aggL (cIa us 0)) 2)) (toI (cIa (aggL (cIa us 1)) 0)) (toI (cIa (aggL (cIa us 1)) 1))) (fun us => rfl) (fun us => run41 (toI (cIa (aggL (cIa us 0)) 0)) (toI (cIa (aggL (cIa us 0)) 1)) (roRows (cIa (aggL (cIa us 0)) 2)) (toI (cIa (aggL (cIa us 1)) 0)) (toI (cIa (aggL (cIa us 1)) 1))) (fun t => rfl)

/-! ### 38: skirmish/skirmishref06.near -/



/-- 'skirmish/skirmishref06.near' -/
noncomputable def F_skirmishref06_near (n : Int) : Option (Int) :=
  some (maxI (-(1048576 : Int)) (minI n (1048576 : Int)))
noncomputable def enc38 (t : Int) : CR := ⟨true, (.sc (.int .i64 t)), [], []⟩
noncomputable def ks38 : List SK := [.f (.int .i64)]
noncomputable def S38 (us : List AVal) : Call := bif chkA ks38 us then Call.of (F_skirmishref06_near (toI (cIa us 0))) enc38 else Call.none
noncomputable def C38 := AI.ext 38 S38 C41

theorem run38 (n : Int) : fcall TT TU GL0 C41 ownF true noL Try.f38 [(.sc (.int .i64 n))] = (F_skirmishref06_near n).bind fun t => some (enc38 t) :=
  Eq.trans (b := (some (CR.mk true (i64 (maxI (-(1048576 : Int)) (minI n (1048576 : Int)))) [] []))) (by kernel_rfl)
    rfl
theorem lib38 : Lib Try.prog GL0 C38 :=
  Lib.fn lib41 mixed TT_ok Try.func38 (by decide +kernel) (by kernel_rfl) true noL (loops_of 0 (by kernel_rfl) below0) ks38 (F := fun us => F_skirmishref06_near (toI (cIa us 0))) (fun us => rfl) (fun us => run38 (toI (cIa us 0))) (fun t => rfl)

/-! ### 37: skirmish/skirmishref06.pos -/



/-- 'skirmish/skirmishref06.pos' -/
noncomputable def F_skirmishref06_pos (p_X : Int) (p_Y : Int) : Option (Int × Int) :=
  Option.bind (F_skirmishref06_near p_X) fun t =>
  Option.bind (F_skirmishref06_near p_Y) fun t1 =>
  some (t, t1)
noncomputable def enc37 (t : Int × Int) : CR := ⟨true, (.agg [(.sc (.int .i64 t.1)), (.sc (.int .i64 t.2))]), [], []⟩
noncomputable def ks37 : List SK := [.agg [.int .i64, .int .i64]]
noncomputable def S37 (us : List AVal) : Call := bif chkA ks37 us then Call.of (F_skirmishref06_pos (toI (cIa (aggL (cIa us 0)) 0)) (toI (cIa (aggL (cIa us 0)) 1))) enc37 else Call.none
noncomputable def C37 := AI.ext 37 S37 C38

theorem run37 (p_X : Int) (p_Y : Int) : fcall TT TU GL0 C38 ownF true noL Try.f37 [(.agg [(.sc (.int .i64 p_X)), (.sc (.int .i64 p_Y))])] = (F_skirmishref06_pos p_X p_Y).bind fun t => some (enc37 t) :=
  Eq.trans (b := (Option.bind (F_skirmishref06_near p_X) fun t => (Option.bind (F_skirmishref06_near p_Y) fun t1 => (some (CR.mk true (AVal.agg [(i64 t), (i64 t1)]) [] []))))) (by kernel_rfl)
    (n_bind fun t => (n_bind fun t1 => rfl))
theorem lib37 : Lib Try.prog GL0 C37 :=
  Lib.fn lib38 mixed TT_ok Try.func37 (by decide +kernel) (by kernel_rfl) true noL (loops_of 0 (by kernel_rfl) below0) ks37 (F := fun us => F_skirmishref06_pos (toI (cIa (aggL (cIa us 0)) 0)) (toI (cIa (aggL (cIa us 0)) 1))) (fun us => rfl) (fun us => run37 (toI (cIa (aggL (cIa us 0)) 0)) (toI (cIa (aggL (cIa us 0)) 1))) (fun t => rfl)

/-! ### 20: skirmish/skirmishref06.Index -/



/-- 'skirmish/skirmishref06.Index' -/
noncomputable def F_skirmishref06_Index (w : Int) (p_X : Int) (p_Y : Int) : Option (Int) :=
  Option.bind (F_skirmishref06_pos p_X p_Y) fun t =>
  Option.bind (F_skirmishref06_near w) fun t1 =>
  some (wr ((wr (t.2 * t1)) + t.1))
noncomputable def enc20 (t : Int) : CR := ⟨true, (.sc (.int .i64 t)), [], []⟩
noncomputable def ks20 : List SK := [.f (.int .i64), .agg [.int .i64, .int .i64]]
noncomputable def S20 (us : List AVal) : Call := bif chkA ks20 us then Call.of (F_skirmishref06_Index (toI (cIa us 0)) (toI (cIa (aggL (cIa us 1)) 0)) (toI (cIa (aggL (cIa us 1)) 1))) enc20 else Call.none
noncomputable def C20 := AI.ext 20 S20 C37

theorem run20 (w : Int) (p_X : Int) (p_Y : Int) : fcall TT TU GL0 C37 ownF true noL Try.f20 [(.sc (.int .i64 w)), (.agg [(.sc (.int .i64 p_X)), (.sc (.int .i64 p_Y))])] = (F_skirmishref06_Index w p_X p_Y).bind fun t => some (enc20 t) :=
  Eq.trans (b := (Option.bind (F_skirmishref06_pos p_X p_Y) fun t => (Option.bind (F_skirmishref06_near w) fun t1 => (some (CR.mk true (i64 (wr ((wr (t.2 * t1)) + t.1))) [] []))))) (by kernel_rfl)
    (n_bind fun t => (n_bind fun t1 => rfl))
theorem lib20 : Lib Try.prog GL0 C20 :=
  Lib.fn lib37 mixed TT_ok Try.func20 (by decide +kernel) (by kernel_rfl) true noL (loops_of 0 (by kernel_rfl) below0) ks20 (F := fun us => F_skirmishref06_Index (toI (cIa us 0)) (toI (cIa (aggL (cIa us 1)) 0)) (toI (cIa (aggL (cIa us 1)) 1))) (fun us => rfl) (fun us => run20 (toI (cIa us 0)) (toI (cIa (aggL (cIa us 1)) 0)) (toI (cIa (aggL (cIa us 1)) 1))) (fun t => rfl)

/-! ### 51: skirmish/skirmishref07.Get -/



/-- 'skirmish/skirmishref07.Get' -/
noncomputable def F_skirmishref07_Get (m_W : Int) (m_H : Int) (m_Cells : List (List AVal)) (p_X : Int) (p_Y : Int) : Option (Int × Int × Int × Bool) :=
  Option.bind (F_skirmishref07_Inside m_W m_H m_Cells p_X p_Y) fun t =>
  bif (!t) then
    some ((0 : Int), (0 : Int), (0 : Int), false)
  else
  Option.bind (F_skirmishref06_Index m_W p_X p_Y) fun t1 =>
  bif (decide ((0 : Int) ≤ t1)) then
    Option.bind (m_Cells[t1.toNat]?) fun r =>
    bif (chk [(LT.int IntKind.i64), (LT.int IntKind.i64), (LT.int IntKind.i64)] r) then
      some ((cI r 0), (cI r 1), (cI r 2), true)
    else
    none
  else
  none
noncomputable def enc51 (t : Int × Int × Int × Bool) : CR := ⟨true, (.tup [(.agg [(.sc (.int .i64 t.1)), (.sc (.int .i64 t.2.1)), (.sc (.int .i64 t.2.2.1))]), (.sc (.bool t.2.2.2))]), [], []⟩
noncomputable def ks51 : List SK := [.agg [.int .i64, .int .i64, .ro 3], .agg [.int .i64, .int .i64]]
noncomputable def S51 (us : List AVal) : Call := bif chkA ks51 us then Call.of (F_skirmishref07_Get (toI (cIa (aggL (cIa us 0)) 0)) (toI (cIa (aggL (cIa us 0)) 1)) (roRows (cIa (aggL (cIa us 0)) 2)) (toI (cIa (aggL (cIa us 1)) 0)) (toI (cIa (aggL (cIa us 1)) 1))) enc51 else Call.none
noncomputable def C51 := AI.ext 51 S51 C20

theorem run51 (m_W : Int) (m_H : Int) (m_Cells : List (List AVal)) (p_X : Int) (p_Y : Int) : fcall TT TU GL0 C20 ownF true noL Try.f51 [(.agg [(.sc (.int .i64 m_W)), (.sc (.int .i64 m_H)), (.ro 3 m_Cells)]), (.agg [(.sc (.int .i64 p_X)), (.sc (.int .i64 p_Y))])] = (F_skirmishref07_Get m_W m_H m_Cells p_X p_Y).bind fun t => some (enc51 t) :=
  Eq.trans (b := (Option.bind (F_skirmishref07_Inside m_W m_H m_Cells p_X p_Y) fun t => (bif (!t) then (some (CR.mk true (AVal.tup [(AVal.agg [(i64 (0 : Int)), (i64 (0 : Int)), (i64 (0 : Int))]), (bo false)]) [] [])) else (Option.bind (F_skirmishref06_Index m_W p_X p_Y) fun t1 => (bif (decide ((0 : Int) ≤ t1)) then (Option.bind (m_Cells[t1.toNat]?) fun r => (bif (chk [(LT.int IntKind.i64), (LT.int IntKind.i64), (LT.int IntKind.i64)] r) then (some (CR.mk true (AVal.tup [(AVal.agg [(i64 (cI r 0)), (i64 (cI r 1)), (i64 (cI r 2))]), (bo true)]) [] [])) else none)) else none))))) (by kernel_rfl)
    (n_bind fun t => (n_condH rfl (fun h0 => rfl) fun h0 => (n_bind fun t1 => (n_condH rfl (fun h1 => (n_bind fun r => (n_condH rfl (fun h2 => rfl) fun h2 => n_none))) fun h1 => n_none))))
theorem lib51 : Lib Try.prog GL0 C51 :=
  Lib.fn lib20 mixed TT_ok Try.func51 (by decide +kernel) (by kernel_rfl) true noL (loops_of 0 (by kernel_rfl) below0) ks51 (F := fun us => F_skirmishref07_Get (toI (cIa (aggL (cIa us 0)) 0)) (toI (cIa (aggL (cIa us 0)) 1)) (roRows (cIa (aggL (cIa us 0)) 2)) (toI (cIa (aggL (cIa us 1)) 0)) (toI (cIa (aggL (cIa us 1)) 1))) (fun us => rfl) (fun us => run51 (toI (cIa (aggL (cIa us 0)) 0)) (toI (cIa (aggL (cIa us 0)) 1)) (roRows (cIa (aggL (cIa us 0)) 2)) (toI (cIa (aggL (cIa us 1)) 0)) (toI (cIa (aggL (cIa us 1)) 1))) (fun t => rfl)

end Go.Proofs.Ytonckcjkgdlmkaa.AI
