/- What functions answer: printed by wip/tool2/Ev.lean out of the interpreter's run; each print is checked by Lean. -/
import Derived.Test.YtonckcjkgdlmkaaP1
namespace Go.Proofs.Ytonckcjkgdlmkaa.AI
open Go.RowKit
set_option linter.unusedVariables false
set_option maxRecDepth 100000
/-! ### 52: skirmish/skirmishref07.Opaque -/



/-- 'skirmish/skirmishref07.Opaque' -/
noncomputable def F_skirmishref07_Opaque (m_W : Int) (m_H : Int) (m_Cells : List (List AVal)) (p_X : Int) (p_Y : Int) : Option (Bool) :=
  Option.bind (F_skirmishref07_Get m_W m_H m_Cells p_X p_Y) fun t =>
  bif (!t.2.2.2) then
    some true
  else
  bif (t.1 == (3 : Int)) then
    some true
  else
  some (t.1 == (4 : Int))
noncomputable def enc52 (t : Bool) : CR := ⟨true, (.sc (.bool t)), [], []⟩
noncomputable def ks52 : List SK := [.agg [.int .i64, .int .i64, .ro 3], .agg [.int .i64, .int .i64]]
noncomputable def S52 (us : List AVal) : Call := bif chkA ks52 us then Call.of (F_skirmishref07_Opaque (toI (cIa (aggL (cIa us 0)) 0)) (toI (cIa (aggL (cIa us 0)) 1)) (roRows (cIa (aggL (cIa us 0)) 2)) (toI (cIa (aggL (cIa us 1)) 0)) (toI (cIa (aggL (cIa us 1)) 1))) enc52 else Call.none
noncomputable def C52 := AI.ext 52 S52 C51

theorem run52 (m_W : Int) (m_H : Int) (m_Cells : List (List AVal)) (p_X : Int) (p_Y : Int) : fcall TT TU GL0 C51 ownF true noL Try.f52 [(.agg [(.sc (.int .i64 m_W)), (.sc (.int .i64 m_H)), (.ro 3 m_Cells)]), (.agg [(.sc (.int .i64 p_X)), (.sc (.int .i64 p_Y))])] = (F_skirmishref07_Opaque m_W m_H m_Cells p_X p_Y).bind fun t => some (enc52 t) :=
  Eq.trans (b := (Option.bind (F_skirmishref07_Get m_W m_H m_Cells p_X p_Y) fun t => (bif (!t.2.2.2) then (some (CR.mk true (bo true) [] [])) else (bif (t.1 == (3 : Int)) then (some (CR.mk true (bo true) [] [])) else (some (CR.mk true (bo (t.1 == (4 : Int))) [] [])))))) (by kernel_rfl)
    (n_bind fun t => (n_condH rfl (fun h0 => rfl) fun h0 => (n_condH rfl (fun h1 => rfl) fun h1 => rfl)))
theorem lib52 : Lib Try.prog GL0 C52 :=
  Lib.fn lib51 mixed TT_ok Try.func52 (by decide +kernel) (by kernel_rfl) true noL (loops_of 0 (by kernel_rfl) below0) ks52 (F := fun us => F_skirmishref07_Opaque (toI (cIa (aggL (cIa us 0)) 0)) (toI (cIa (aggL (cIa us 0)) 1)) (roRows (cIa (aggL (cIa us 0)) 2)) (toI (cIa (aggL (cIa us 1)) 0)) (toI (cIa (aggL (cIa us 1)) 1))) (fun us => rfl) (fun us => run52 (toI (cIa (aggL (cIa us 0)) 0)) (toI (cIa (aggL (cIa us 0)) 1)) (roRows (cIa (aggL (cIa us 0)) 2)) (toI (cIa (aggL (cIa us 1)) 0)) (toI (cIa (aggL (cIa us 1)) 1))) (fun t => rfl)

/-! ### 61: skirmish/skirmishref12.side -/



/-- 'skirmish/skirmishref12.side' -/
noncomputable def F_skirmishref12_side (px : Int) (py : Int) (qx : Int) (qy : Int) (x : Int) (y : Int) : Option (Int) :=
  some (wr ((wr ((wr (qx - px)) * (wr (y - py)))) - (wr ((wr (qy - py)) * (wr (x - px))))))
noncomputable def enc61 (t : Int) : CR := ⟨true, (.sc (.int .i64 t)), [], []⟩
noncomputable def ks61 : List SK := [.f (.int .i64), .f (.int .i64), .f (.int .i64), .f (.int .i64), .f (.int .i64), .f (.int .i64)]
noncomputable def S61 (us : List AVal) : Call := bif chkA ks61 us then Call.of (F_skirmishref12_side (toI (cIa us 0)) (toI (cIa us 1)) (toI (cIa us 2)) (toI (cIa us 3)) (toI (cIa us 4)) (toI (cIa us 5))) enc61 else Call.none
noncomputable def C61 := AI.ext 61 S61 C52

theorem run61 (px : Int) (py : Int) (qx : Int) (qy : Int) (x : Int) (y : Int) : fcall TT TU GL0 C52 ownF true noL Try.f61 [(.sc (.int .i64 px)), (.sc (.int .i64 py)), (.sc (.int .i64 qx)), (.sc (.int .i64 qy)), (.sc (.int .i64 x)), (.sc (.int .i64 y))] = (F_skirmishref12_side px py qx qy x y).bind fun t => some (enc61 t) :=
  Eq.trans (b := (some (CR.mk true (i64 (wr ((wr ((wr (qx - px)) * (wr (y - py)))) - (wr ((wr (qy - py)) * (wr (x - px))))))) [] []))) (by kernel_rfl)
    rfl
theorem lib61 : Lib Try.prog GL0 C61 :=
  Lib.fn lib52 mixed TT_ok Try.func61 (by decide +kernel) (by kernel_rfl) true noL (loops_of 0 (by kernel_rfl) below0) ks61 (F := fun us => F_skirmishref12_side (toI (cIa us 0)) (toI (cIa us 1)) (toI (cIa us 2)) (toI (cIa us 3)) (toI (cIa us 4)) (toI (cIa us 5))) (fun us => rfl) (fun us => run61 (toI (cIa us 0)) (toI (cIa us 1)) (toI (cIa us 2)) (toI (cIa us 3)) (toI (cIa us 4)) (toI (cIa us 5))) (fun t => rfl)

/-! ### 53: skirmish/skirmishref12.meets -/

noncomputable def W53_0 : Ex → List Bool
  | .ret => [false, false, false, false, false, false, true, false, false, false, false, false, false, false, false, false, false, false, false, false, false, false, false, false, false, false, false, false, false, false, false, false, false, false, false, false, false, false, false, false, false, false, false, false, false, false, false, false, false, false, false, false, false, false, false, false, false, false, false, false, false, false, false, false, false, false, false, false, false, false, false, false, false, false, false, false, false, false, false, false, false, false, false, false, false, false, false, false, false, false, false, false, false, false, false, false, false, false, false, false, false, false, false, false, false, false, false, false, false, false, false, false, false, false, false, false, false, false, false, false, false, false, false, false, false, false]
  | .exit n => bif Nat.beq n 0 then [false, false, false, false, false, false, false, false, false, false, false, false, false, false, true, true, false, false, false, false, false, false, false, false, false, false, false, false, false, false, false, false, false, false, false, false, false, false, false, false, false, false, false, false, false, false, false, false, false, false, false, false, false, false, false, false, false, false, false, false, false, false, false, false, false, false, false, false, false, false, false, false, false, false, false, false, false, false, false, false, false, false, false, false, false, false, false, false, false, false, false, false, false, false, false, false, false, false, false, false, false, false, false, false, false, false, false, false, false, false, false, false, false, false, false, false, false, false, false, false, false, false, false, false, true, false] else []
  | .normal => []
noncomputable def G_skirmishref12_meets_0 (R0 : List (List AVal)) : Nat → Bool → Bool → Int → Option (Bool × Bool)
  | 0, _, _, _ => none
  | m + 1, left, right, i =>
    bif (decide (i < (Int.ofNat R0.length))) then
      bif left then
        bif right then
          G_skirmishref12_meets_0 R0 m true true (wr (i + (1 : Int)))
        else
        bif ((decide ((0 : Int) ≤ i)) && (decide (i < (Int.ofNat R0.length)))) then
          Option.bind (R0[i.toNat]?) fun r =>
          bif (chk [(LT.int IntKind.i64)] r) then
            G_skirmishref12_meets_0 R0 m true (decide ((cI r 0) > (0 : Int))) (wr (i + (1 : Int)))
          else
          none
        else
        none
      else
      bif ((decide ((0 : Int) ≤ i)) && (decide (i < (Int.ofNat R0.length)))) then
        Option.bind (R0[i.toNat]?) fun r1 =>
        bif (chk [(LT.int IntKind.i64)] r1) then
          bif right then
            G_skirmishref12_meets_0 R0 m (decide ((cI r1 0) < (0 : Int))) true (wr (i + (1 : Int)))
          else
          Option.bind (R0[i.toNat]?) fun r2 =>
          bif (chk [(LT.int IntKind.i64)] r2) then
            G_skirmishref12_meets_0 R0 m (decide ((cI r1 0) < (0 : Int))) (decide ((cI r2 0) > (0 : Int))) (wr (i + (1 : Int)))
          else
          none
        else
        none
      else
      none
    else
    some (left, right)
noncomputable def E53_0 (R0 : List (List AVal)) (left : Bool) (right : Bool) (i : Int) : St := ⟨[.dead, .dead, .dead, .dead, .dead, .dead, .dead, .dead, .dead, .dead, .dead, .dead, .dead, (.slc 32512 (R0).length), (.sc (.bool left)), (.sc (.bool right)), (.sc (.int .i64 i)), .dead, .dead, .dead, .dead, .dead, .dead, .dead, .dead, .dead, .dead, .dead, .dead, .dead, .dead, .dead, .dead, .dead, .dead, .dead, .dead, .dead, .dead, .dead, .dead, .dead, .dead, .dead, .dead, .dead, .dead, .dead, .dead, .dead, .dead, .dead, .dead, .dead, .dead, .dead, .dead, .dead, .dead, .dead, .dead, .dead, .dead, .dead, .dead, .dead, .dead, .dead, .dead, .dead, .dead, .dead, .dead, .dead, .dead, .dead, .dead, .dead, .dead, .dead, .dead, .dead, .dead, .dead, .dead, .dead, .dead, .dead, .dead, .dead, .dead, .dead, .dead, .dead, .dead, .dead, .dead, .dead, .dead, .dead, .dead, .dead, .dead, .dead, .dead, .dead, .dead, .dead, .dead, .dead, .dead, .dead, .dead, .dead, .dead, .dead, .dead, .dead, .dead, .dead, .dead, .dead, .dead, .dead, .dead, .dead], [(32512, ⟨.arr, 3, 1, R0⟩)]⟩
noncomputable def X53_0 (k : Ex → St → Option CR) (t : Bool × Bool) : Option CR := k (.exit 0) ⟨[.dead, .dead, .dead, .dead, .dead, .dead, .dead, .dead, .dead, .dead, .dead, .dead, .dead, .dead, (.sc (.bool t.1)), (.sc (.bool t.2)), .dead, .dead, .dead, .dead, .dead, .dead, .dead, .dead, .dead, .dead, .dead, .dead, .dead, .dead, .dead, .dead, .dead, .dead, .dead, .dead, .dead, .dead, .dead, .dead, .dead, .dead, .dead, .dead, .dead, .dead, .dead, .dead, .dead, .dead, .dead, .dead, .dead, .dead, .dead, .dead, .dead, .dead, .dead, .dead, .dead, .dead, .dead, .dead, .dead, .dead, .dead, .dead, .dead, .dead, .dead, .dead, .dead, .dead, .dead, .dead, .dead, .dead, .dead, .dead, .dead, .dead, .dead, .dead, .dead, .dead, .dead, .dead, .dead, .dead, .dead, .dead, .dead, .dead, .dead, .dead, .dead, .dead, .dead, .dead, .dead, .dead, .dead, .dead, .dead, .dead, .dead, .dead, .dead, .dead, .dead, .dead, .dead, .dead, .dead, .dead, .dead, .dead, .dead, .dead, .dead, .dead, .dead, .dead, .dead, .dead], []⟩
noncomputable def ks53_0 : List SK := [.f .dead, .f .dead, .f .dead, .f .dead, .f .dead, .f .dead, .f .dead, .f .dead, .f .dead, .f .dead, .f .dead, .f .dead, .f .dead, .f (.slc 32512 0), .f (.bool), .f (.bool), .f (.int .i64), .f .dead, .f .dead, .f .dead, .f .dead, .f .dead, .f .dead, .f .dead, .f .dead, .f .dead, .f .dead, .f .dead, .f .dead, .f .dead, .f .dead, .f .dead, .f .dead, .f .dead, .f .dead, .f .dead, .f .dead, .f .dead, .f .dead, .f .dead, .f .dead, .f .dead, .f .dead, .f .dead, .f .dead, .f .dead, .f .dead, .f .dead, .f .dead, .f .dead, .f .dead, .f .dead, .f .dead, .f .dead, .f .dead, .f .dead, .f .dead, .f .dead, .f .dead, .f .dead, .f .dead, .f .dead, .f .dead, .f .dead, .f .dead, .f .dead, .f .dead, .f .dead, .f .dead, .f .dead, .f .dead, .f .dead, .f .dead, .f .dead, .f .dead, .f .dead, .f .dead, .f .dead, .f .dead, .f .dead, .f .dead, .f .dead, .f .dead, .f .dead, .f .dead, .f .dead, .f .dead, .f .dead, .f .dead, .f .dead, .f .dead, .f .dead, .f .dead, .f .dead, .f .dead, .f .dead, .f .dead, .f .dead, .f .dead, .f .dead, .f .dead, .f .dead, .f .dead, .f .dead, .f .dead, .f .dead, .f .dead, .f .dead, .f .dead, .f .dead, .f .dead, .f .dead, .f .dead, .f .dead, .f .dead, .f .dead, .f .dead, .f .dead, .f .dead, .f .dead, .f .dead, .f .dead, .f .dead, .f .dead, .f .dead, .f .dead]
noncomputable def hs53_0 : List HK := [⟨32512, .arr, 3, 1, none⟩]
noncomputable def Lm53_0 (s : St) (k : Ex → St → Option CR) : Option CR := bif chkS ks53_0 hs53_0 s then (G_skirmishref12_meets_0 (blkAt s.heap 0).2.rows FU (toB (cIa s.tmps 14)) (toB (cIa s.tmps 15)) (toI (cIa s.tmps 16))).bind (X53_0 k) else none
noncomputable def L53_0 (s : St) (k : Ex → St → Option CR) : Option CR := Lm53_0 (maskS (maskOf ks53_0) s) k

noncomputable def L53 : LT' := fun i s k => bif Nat.beq i 0 then L53_0 s k else none

/-- 'skirmish/skirmishref12.meets' -/
noncomputable def F_skirmishref12_meets (a_X : Int) (a_Y : Int) (b_X : Int) (b_Y : Int) (c_X : Int) (c_Y : Int) : Option (Bool) :=
  bif (decide ((maxI (wr ((wr ((2 : Int) * a_X)) + (1 : Int))) (wr ((wr ((2 : Int) * b_X)) + (1 : Int)))) ≤ (wr ((2 : Int) * c_X)))) then
    some false
  else
  bif (decide ((minI (wr ((wr ((2 : Int) * a_X)) + (1 : Int))) (wr ((wr ((2 : Int) * b_X)) + (1 : Int)))) ≥ (wr ((wr ((2 : Int) * c_X)) + (2 : Int))))) then
    some false
  else
  bif (decide ((maxI (wr ((wr ((2 : Int) * a_Y)) + (1 : Int))) (wr ((wr ((2 : Int) * b_Y)) + (1 : Int)))) ≤ (wr ((2 : Int) * c_Y)))) then
    some false
  else
  bif (decide ((minI (wr ((wr ((2 : Int) * a_Y)) + (1 : Int))) (wr ((wr ((2 : Int) * b_Y)) + (1 : Int)))) ≥ (wr ((wr ((2 : Int) * c_Y)) + (2 : Int))))) then
    some false
  else
  Option.bind (F_skirmishref12_side (wr ((wr ((2 : Int) * a_X)) + (1 : Int))) (wr ((wr ((2 : Int) * a_Y)) + (1 : Int))) (wr ((wr ((2 : Int) * b_X)) + (1 : Int))) (wr ((wr ((2 : Int) * b_Y)) + (1 : Int))) (wr ((2 : Int) * c_X)) (wr ((2 : Int) * c_Y))) fun t =>
  Option.bind (F_skirmishref12_side (wr ((wr ((2 : Int) * a_X)) + (1 : Int))) (wr ((wr ((2 : Int) * a_Y)) + (1 : Int))) (wr ((wr ((2 : Int) * b_X)) + (1 : Int))) (wr ((wr ((2 : Int) * b_Y)) + (1 : Int))) (wr ((wr ((2 : Int) * c_X)) + (2 : Int))) (wr ((2 : Int) * c_Y))) fun t1 =>
  Option.bind (F_skirmishref12_side (wr ((wr ((2 : Int) * a_X)) + (1 : Int))) (wr ((wr ((2 : Int) * a_Y)) + (1 : Int))) (wr ((wr ((2 : Int) * b_X)) + (1 : Int))) (wr ((wr ((2 : Int) * b_Y)) + (1 : Int))) (wr ((2 : Int) * c_X)) (wr ((wr ((2 : Int) * c_Y)) + (2 : Int)))) fun t2 =>
  Option.bind (F_skirmishref12_side (wr ((wr ((2 : Int) * a_X)) + (1 : Int))) (wr ((wr ((2 : Int) * a_Y)) + (1 : Int))) (wr ((wr ((2 : Int) * b_X)) + (1 : Int))) (wr ((wr ((2 : Int) * b_Y)) + (1 : Int))) (wr ((wr ((2 : Int) * c_X)) + (2 : Int))) (wr ((wr ((2 : Int) * c_Y)) + (2 : Int)))) fun t3 =>
  Option.bind (G_skirmishref12_meets_0 [[(i64 t)], [(i64 t1)], [(i64 t2)], [(i64 t3)]] FU false false (0 : Int)) fun t4 =>
  bif t4.1 then
    some t4.2
  else
  some false
noncomputable def enc53 (t : Bool) : CR := ⟨true, (.sc (.bool t)), [], []⟩
noncomputable def ks53 : List SK := [.agg [.int .i64, .int .i64], .agg [.int .i64, .int .i64], .agg [.int .i64, .int .i64]]
noncomputable def S53 (us : List AVal) : Call := bif chkA ks53 us then Call.of (F_skirmishref12_meets (toI (cIa (aggL (cIa us 0)) 0)) (toI (cIa (aggL (cIa us 0)) 1)) (toI (cIa (aggL (cIa us 1)) 0)) (toI (cIa (aggL (cIa us 1)) 1)) (toI (cIa (aggL (cIa us 2)) 0)) (toI (cIa (aggL (cIa us 2)) 1))) enc53 else Call.none
noncomputable def C53 := AI.ext 53 S53 C61

@[reducible] noncomputable def B53_0 := bodyOf TT TU GL0 C61 ownF L53 (lp Try.f53 0)
@[reducible] noncomputable def K53_0 (k : Ex → St → Option CR) : Ex → St → Option CR := fun e s => k e (maskS (W53_0 e) s)
theorem spec53_0 (k : Ex → St → Option CR) : ∀ (m : Nat) (R0 : List (List AVal)) (left : Bool) (right : Bool) (i : Int), loopN B53_0 m (E53_0 R0 left right i) (K53_0 k) = (G_skirmishref12_meets_0 R0 m left right i).bind (X53_0 k)
  | 0, _, _, _, _ => rfl
  | m + 1, R0, left, right, i =>
    Eq.trans (b := (bif (verEq R0.length R0.length) then (bif (decide (i < (Int.ofNat R0.length))) then (bif left then (bif right then (loopN B53_0 m ⟨[.dead, .dead, .dead, .dead, .dead, .dead, .dead, .dead, .dead, .dead, .dead, .dead, .dead, (AVal.slc 32512 R0.length), (bo true), (bo true), (i64 (wr (i + (1 : Int)))), .dead, .dead, .dead, .dead, .dead, .dead, .dead, .dead, .dead, .dead, .dead, .dead, .dead, .dead, .dead, .dead, .dead, .dead, .dead, .dead, .dead, .dead, .dead, .dead, .dead, .dead, .dead, .dead, .dead, .dead, .dead, .dead, .dead, .dead, .dead, .dead, .dead, .dead, .dead, .dead, .dead, .dead, .dead, .dead, .dead, .dead, .dead, .dead, .dead, .dead, .dead, .dead, .dead, .dead, .dead, .dead, .dead, .dead, .dead, .dead, .dead, .dead, .dead, .dead, .dead, .dead, .dead, .dead, .dead, .dead, .dead, .dead, .dead, .dead, .dead, .dead, .dead, .dead, .dead, .dead, .dead, .dead, .dead, .dead, .dead, .dead, .dead, .dead, .dead, .dead, .dead, .dead, .dead, .dead, .dead, .dead, .dead, .dead, .dead, .dead, .dead, .dead, .dead, .dead, .dead, .dead, .dead, .dead, .dead], [(Prod.mk 32512 (Blk.mk BKind.arr 3 1 R0))]⟩ (K53_0 k)) else (bif (((verEq R0.length R0.length) && (decide ((0 : Int) ≤ i))) && (decide (i < (Int.ofNat R0.length)))) then (bif (verEq R0.length R0.length) then (Option.bind (R0[i.toNat]?) fun r => (bif (chk [(LT.int IntKind.i64)] r) then (loopN B53_0 m ⟨[.dead, .dead, .dead, .dead, .dead, .dead, .dead, .dead, .dead, .dead, .dead, .dead, .dead, (AVal.slc 32512 R0.length), (bo true), (bo (decide ((cI r 0) > (0 : Int)))), (i64 (wr (i + (1 : Int)))), .dead, .dead, .dead, .dead, .dead, .dead, .dead, .dead, .dead, .dead, .dead, .dead, .dead, .dead, .dead, .dead, .dead, .dead, .dead, .dead, .dead, .dead, .dead, .dead, .dead, .dead, .dead, .dead, .dead, .dead, .dead, .dead, .dead, .dead, .dead, .dead, .dead, .dead, .dead, .dead, .dead, .dead, .dead, .dead, .dead, .dead, .dead, .dead, .dead, .dead, .dead, .dead, .dead, .dead, .dead, .dead, .dead, .dead, .dead, .dead, .dead, .dead, .dead, .dead, .dead, .dead, .dead, .dead, .dead, .dead, .dead, .dead, .dead, .dead, .dead, .dead, .dead, .dead, .dead, .dead, .dead, .dead, .dead, .dead, .dead, .dead, .dead, .dead, .dead, .dead, .dead, .dead, .dead, .dead, .dead, .dead, .dead, .dead, .dead, .dead, .dead, .dead, .dead, .dead, .dead, .dead, .dead, .dead, .dead], [(Prod.mk 32512 (Blk.mk BKind.arr 3 1 R0))]⟩ (K53_0 k)) else none)) else none) else none)) else (bif (((verEq R0.length R0.length) && (decide ((0 : Int) ≤ i))) && (decide (i < (Int.ofNat R0.length)))) then (bif (verEq R0.length R0.length) then (Option.bind (R0[i.toNat]?) fun r1 => (bif (chk [(LT.int IntKind.i64)] r1) then (bif right then (loopN B53_0 m ⟨[.dead, .dead, .dead, .dead, .dead, .dead, .dead, .dead, .dead, .dead, .dead, .dead, .dead, (AVal.slc 32512 R0.length), (bo (decide ((cI r1 0) < (0 : Int)))), (bo true), (i64 (wr (i + (1 : Int)))), .dead, .dead, .dead, .dead, .dead, .dead, .dead, .dead, .dead, .dead, .dead, .dead, .dead, .dead, .dead, .dead, .dead, .dead, .dead, .dead, .dead, .dead, .dead, .dead, .dead, .dead, .dead, .dead, .dead, .dead, .dead, .dead, .dead, .dead, .dead, .dead, .dead, .dead, .dead, .dead, .dead, .dead, .dead, .dead, .dead, .dead, .dead, .dead, .dead, .dead, .dead, .dead, .dead, .dead, .dead, .dead, .dead, .dead, .dead, .dead, .dead, .dead, .dead, .dead, .dead, .dead, .dead, .dead, .dead, .dead, .dead, .dead, .dead, .dead, .dead, .dead, .dead, .dead, .dead, .dead, .dead, .dead, .dead, .dead, .dead, .dead, .dead, .dead, .dead, .dead, .dead, .dead, .dead, .dead, .dead, .dead, .dead, .dead, .dead, .dead, .dead, .dead, .dead, .dead, .dead, .dead, .dead, .dead, .dead], [(Prod.mk 32512 (Blk.mk BKind.arr 3 1 R0))]⟩ (K53_0 k)) else (bif (((verEq R0.length R0.length) && (decide ((0 : Int) ≤ i))) && (decide (i < (Int.ofNat R0.length)))) then (bif (verEq R0.length R0.length) then (Option.bind (R0[i.toNat]?) fun r2 => (bif (chk [(LT.int IntKind.i64)] r2) then (loopN B53_0 m ⟨[.dead, .dead, .dead, .dead, .dead, .dead, .dead, .dead, .dead, .dead, .dead, .dead, .dead, (AVal.slc 32512 R0.length), (bo (decide ((cI r1 0) < (0 : Int)))), (bo (decide ((cI r2 0) > (0 : Int)))), (i64 (wr (i + (1 : Int)))), .dead, .dead, .dead, .dead, .dead, .dead, .dead, .dead, .dead, .dead, .dead, .dead, .dead, .dead, .dead, .dead, .dead, .dead, .dead, .dead, .dead, .dead, .dead, .dead, .dead, .dead, .dead, .dead, .dead, .dead, .dead, .dead, .dead, .dead, .dead, .dead, .dead, .dead, .dead, .dead, .dead, .dead, .dead, .dead, .dead, .dead, .dead, .dead, .dead, .dead, .dead, .dead, .dead, .dead, .dead, .dead, .dead, .dead, .dead, .dead, .dead, .dead, .dead, .dead, .dead, .dead, .dead, .dead, .dead, .dead, .dead, .dead, .dead, .dead, .dead, .dead, .dead, .dead, .dead, .dead, .dead, .dead, .dead, .dead, .dead, .dead, .dead, .dead, .dead, .dead, .dead, .dead, .dead, .dead, .dead, .dead, .dead, .dead, .dead, .dead, .dead, .dead, .dead, .dead, .dead, .dead, .dead, .dead, .dead], [(Prod.mk 32512 (Blk.mk BKind.arr 3 1 R0))]⟩ (K53_0 k)) else none)) else none) else none)) else none)) else none) else none)) else (k (.exit 0) ⟨[.dead, .dead, .dead, .dead, .dead, .dead, .dead, .dead, .dead, .dead, .dead, .dead, .dead, .dead, (bo left), (bo right), .dead, .dead, .dead, .dead, .dead, .dead, .dead, .dead, .dead, .dead, .dead, .dead, .dead, .dead, .dead, .dead, .dead, .dead, .dead, .dead, .dead, .dead, .dead, .dead, .dead, .dead, .dead, .dead, .dead, .dead, .dead, .dead, .dead, .dead, .dead, .dead, .dead, .dead, .dead, .dead, .dead, .dead, .dead, .dead, .dead, .dead, .dead, .dead, .dead, .dead, .dead, .dead, .dead, .dead, .dead, .dead, .dead, .dead, .dead, .dead, .dead, .dead, .dead, .dead, .dead, .dead, .dead, .dead, .dead, .dead, .dead, .dead, .dead, .dead, .dead, .dead, .dead, .dead, .dead, .dead, .dead, .dead, .dead, .dead, .dead, .dead, .dead, .dead, .dead, .dead, .dead, .dead, .dead, .dead, .dead, .dead, .dead, .dead, .dead, .dead, .dead, .dead, .dead, .dead, .dead, .dead, .dead, .dead, .dead, .dead], []⟩)) else none)) (by kernel_rfl)
      (n_true (verEq_rfl _) (n_condH rfl (fun h0 => (n_condH rfl (fun h1 => (n_condH rfl (fun h2 => (spec53_0 k m R0 true true (wr (i + (1 : Int))))) fun h2 => (n_condH (n_and (n_andL (verEq_rfl _) rfl) rfl) (fun h3 => (n_true (verEq_rfl _) (n_bind fun r => (n_condH rfl (fun h4 => (spec53_0 k m R0 true (decide ((cI r 0) > (0 : Int))) (wr (i + (1 : Int))))) fun h4 => n_none)))) fun h3 => n_none))) fun h1 => (n_condH (n_and (n_andL (verEq_rfl _) rfl) rfl) (fun h2 => (n_true (verEq_rfl _) (n_bind fun r1 => (n_condH rfl (fun h3 => (n_condH rfl (fun h4 => (spec53_0 k m R0 (decide ((cI r1 0) < (0 : Int))) true (wr (i + (1 : Int))))) fun h4 => (n_true (n_andL (n_andL (verEq_rfl _) (n_al h2)) (n_ar h2)) (n_true (verEq_rfl _) (n_bind fun r2 => (n_condH rfl (fun h5 => (spec53_0 k m R0 (decide ((cI r1 0) < (0 : Int))) (decide ((cI r2 0) > (0 : Int))) (wr (i + (1 : Int))))) fun h5 => n_none)))))) fun h3 => n_none)))) fun h2 => n_none))) fun h0 => rfl))
theorem okL53_0 : LoopOk TT TU GL0 C61 ownF L53 (lp Try.f53 0) :=
  loopOk_of ks53_0 hs53_0 W53_0 FU (fun s k => (G_skirmishref12_meets_0 (blkAt s.heap 0).2.rows FU (toB (cIa s.tmps 14)) (toB (cIa s.tmps 15)) (toI (cIa s.tmps 16))).bind (X53_0 k)) (fun s k => by kernel_rfl) (fun s k => spec53_0 k FU (blkAt s.heap 0).2.rows (toB (cIa s.tmps 14)) (toB (cIa s.tmps 15)) (toI (cIa s.tmps 16)))
theorem run53 (a_X : Int) (a_Y : Int) (b_X : Int) (b_Y : Int) (c_X : Int) (c_Y : Int) : fcall TT TU GL0 C61 ownF true L53 Try.f53 [(.agg [(.sc (.int .i64 a_X)), (.sc (.int .i64 a_Y))]), (.agg [(.sc (.int .i64 b_X)), (.sc (.int .i64 b_Y))]), (.agg [(.sc (.int .i64 c_X)), (.sc (.int .i64 c_Y))])] = (F_skirmishref12_meets a_X a_Y b_X b_Y c_X c_Y).bind fun t => some (enc53 t) :=
  Eq.trans (b := (bif (decide ((maxI (wr ((wr ((2 : Int) * a_X)) + (1 : Int))) (wr ((wr ((2 : Int) * b_X)) + (1 : Int)))) ≤ (wr ((2 : Int) * c_X)))) then (some (CR.mk true (bo false) [] [])) else (bif (decide ((minI (wr ((wr ((2 : Int) * a_X)) + (1 : Int))) (wr ((wr ((2 : Int) * b_X)) + (1 : Int)))) ≥ (wr ((wr ((2 : Int) * c_X)) + (2 : Int))))) then (some (CR.mk true (bo false) [] [])) else (bif (decide ((maxI (wr ((wr ((2 : Int) * a_Y)) + (1 : Int))) (wr ((wr ((2 : Int) * b_Y)) + (1 : Int)))) ≤ (wr ((2 : Int) * c_Y)))) then (some (CR.mk true (bo false) [] [])) else (bif (decide ((minI (wr ((wr ((2 : Int) * a_Y)) + (1 : Int))) (wr ((wr ((2 : Int) * b_Y)) + (1 : Int)))) ≥ (wr ((wr ((2 : Int) * c_Y)) + (2 : Int))))) then (some (CR.mk true (bo false) [] [])) else (Option.bind (F_skirmishref12_side (wr ((wr ((2 : Int) * a_X)) + (1 : Int))) (wr ((wr ((2 : Int) * a_Y)) + (1 : Int))) (wr ((wr ((2 : Int) * b_X)) + (1 : Int))) (wr ((wr ((2 : Int) * b_Y)) + (1 : Int))) (wr ((2 : Int) * c_X)) (wr ((2 : Int) * c_Y))) fun t => (Option.bind (F_skirmishref12_side (wr ((wr ((2 : Int) * a_X)) + (1 : Int))) (wr ((wr ((2 : Int) * a_Y)) + (1 : Int))) (wr ((wr ((2 : Int) * b_X)) + (1 : Int))) (wr ((wr ((2 : Int) * b_Y)) + (1 : Int))) (wr ((wr ((2 : Int) * c_X)) + (2 : Int))) (wr ((2 : Int) * c_Y))) fun t1 => (Option.bind (F_skirmishref12_side (wr ((wr ((2 : Int) * a_X)) + (1 : Int))) (wr ((wr ((2 : Int) * a_Y)) + (1 : Int))) (wr ((wr ((2 : Int) * b_X)) + (1 : Int))) (wr ((wr ((2 : Int) * b_Y)) + (1 : Int))) (wr ((2 : Int) * c_X)) (wr ((wr ((2 : Int) * c_Y)) + (2 : Int)))) fun t2 => (Option.bind (F_skirmishref12_side (wr ((wr ((2 : Int) * a_X)) + (1 : Int))) (wr ((wr ((2 : Int) * a_Y)) + (1 : Int))) (wr ((wr ((2 : Int) * b_X)) + (1 : Int))) (wr ((wr ((2 : Int) * b_Y)) + (1 : Int))) (wr ((wr ((2 : Int) * c_X)) + (2 : Int))) (wr ((wr ((2 : Int) * c_Y)) + (2 : Int)))) fun t3 => (Option.bind (G_skirmishref12_meets_0 [[(i64 t)], [(i64 t1)], [(i64 t2)], [(i64 t3)]] FU false false (0 : Int)) fun t4 => (bif t4.1 then (some (CR.mk true (bo t4.2) [] [])) else (some (CR.mk true (bo false) [] []))))))))))))) (by kernel_rfl)
    (n_condH rfl (fun h0 => rfl) fun h0 => (n_condH rfl (fun h1 => rfl) fun h1 => (n_condH rfl (fun h2 => rfl) fun h2 => (n_condH rfl (fun h3 => rfl) fun h3 => (n_bind fun t => (n_bind fun t1 => (n_bind fun t2 => (n_bind fun t3 => (n_bind fun t4 => (n_condH rfl (fun h4 => rfl) fun h4 => rfl))))))))))
theorem lib53 : Lib Try.prog GL0 C53 :=
  Lib.fn lib61 mixed TT_ok Try.func53 (by decide +kernel) (by kernel_rfl) true L53 (loops_of 1 (by kernel_rfl) (belowS below0 okL53_0)) ks53 (F := fun us => F_skirmishref12_meets (toI (cIa (aggL (cIa us 0)) 0)) (toI (cIa (aggL (cIa us 0)) 1)) (toI (cIa (aggL (cIa us 1)) 0)) (toI (cIa (aggL (cIa us 1)) 1)) (toI (cIa (aggL (cIa us 2)) 0)) (toI (cIa (aggL (cIa us 2)) 1))) (fun us => rfl) (fun us => run53 (toI (cIa (aggL (cIa us 0)) 0)) (toI (cIa (aggL (cIa us 0)) 1)) (toI (cIa (aggL (cIa us 1)) 0)) (toI (cIa (aggL (cIa us 1)) 1)) (toI (cIa (aggL (cIa us 2)) 0)) (toI (cIa (aggL (cIa us 2)) 1))) (fun t => rfl)

/-! ### 31: skirmish/skirmishref12.blocks -/



/-- 'skirmish/skirmishref12.blocks' -/
noncomputable def F_skirmishref12_blocks (m_W : Int) (m_H : Int) (m_Cells : List (List AVal)) (a_X : Int) (a_Y : Int) (b_X : Int) (b_Y : Int) (c_X : Int) (c_Y : Int) : Option (Bool) :=
  bif ((c_X == a_X) && (c_Y == a_Y)) then
    some false
  else
  bif ((c_X == b_X) && (c_Y == b_Y)) then
    some false
  else
  Option.bind (F_skirmishref07_Get m_W m_H m_Cells a_X a_Y) fun t =>
  Option.bind (F_skirmishref07_Get m_W m_H m_Cells b_X b_Y) fun t1 =>
  Option.bind (F_skirmishref07_Get m_W m_H m_Cells c_X c_Y) fun t2 =>
  Option.bind (F_skirmishref07_Opaque m_W m_H m_Cells c_X c_Y) fun t3 =>
  bif (!t3) then
    bif (decide (t2.2.1 ≤ t.2.1)) then
      some false
    else
    bif (decide (t2.2.1 ≤ t1.2.1)) then
      some false
    else
    Option.bind (F_skirmishref12_meets a_X a_Y b_X b_Y c_X c_Y) fun t4 =>
    some t4
  else
  Option.bind (F_skirmishref12_meets a_X a_Y b_X b_Y c_X c_Y) fun t5 =>
  some t5
noncomputable def enc31 (t : Bool) : CR := ⟨true, (.sc (.bool t)), [], []⟩
noncomputable def ks31 : List SK := [.agg [.int .i64, .int .i64, .ro 3], .agg [.int .i64, .int .i64], .agg [.int .i64, .int .i64], .agg [.int .i64, .int .i64]]
noncomputable def S31 (us : List AVal) : Call := bif chkA ks31 us then Call.of (F_skirmishref12_blocks (toI (cIa (aggL (cIa us 0)) 0)) (toI (cIa (aggL (cIa us 0)) 1)) (roRows (cIa (aggL (cIa us 0)) 2)) (toI (cIa (aggL (cIa us 1)) 0)) (toI (cIa (aggL (cIa us 1)) 1)) (toI (cIa (aggL (cIa us 2)) 0)) (toI (cIa (aggL (cIa us 2)) 1)) (toI (cIa (aggL (cIa us 3)) 0)) (toI (cIa (aggL (cIa us 3)) 1))) enc31 else Call.none
noncomputable def C31 := AI.ext 31 S31 C53

theorem run31 (m_W : Int) (m_H : Int) (m_Cells : List (List AVal)) (a_X : Int) (a_Y : Int) (b_X : Int) (b_Y : Int) (c_X : Int) (c_Y : Int) : fcall TT TU GL0 C53 ownF true noL Try.f31 [(.agg [(.sc (.int .i64 m_W)), (.sc (.int .i64 m_H)), (.ro 3 m_Cells)]), (.agg [(.sc (.int .i64 a_X)), (.sc (.int .i64 a_Y))]), (.agg [(.sc (.int .i64 b_X)), (.sc (.int .i64 b_Y))]), (.agg [(.sc (.int .i64 c_X)), (.sc (.int .i64 c_Y))])] = (F_skirmishref12_blocks m_W m_H m_Cells a_X a_Y b_X b_Y c_X c_Y).bind fun t => some (enc31 t) :=
  Eq.trans (b := (bif ((c_X == a_X) && (c_Y == a_Y)) then (some (CR.mk true (bo false) [] [])) else (bif ((c_X == b_X) && (c_Y == b_Y)) then (some (CR.mk true (bo false) [] [])) else (Option.bind (F_skirmishref07_Get m_W m_H m_Cells a_X a_Y) fun t => (Option.bind (F_skirmishref07_Get m_W m_H m_Cells b_X b_Y) fun t1 => (Option.bind (F_skirmishref07_Get m_W m_H m_Cells c_X c_Y) fun t2 => (Option.bind (F_skirmishref07_Opaque m_W m_H m_Cells c_X c_Y) fun t3 => (bif (!t3) then (bif (decide (t2.2.1 ≤ t.2.1)) then (some (CR.mk true (bo false) [] [])) else (bif (decide (t2.2.1 ≤ t1.2.1)) then (some (CR.mk true (bo false) [] [])) else (Option.bind (F_skirmishref12_meets a_X a_Y b_X b_Y c_X c_Y) fun t4 => (some (CR.mk true (bo t4) [] []))))) else (Option.bind (F_skirmishref12_meets a_X a_Y b_X b_Y c_X c_Y) fun t5 => (some (CR.mk true (bo t5) [] []))))))))))) (by kernel_rfl)
    (n_condH rfl (fun h0 => rfl) fun h0 => (n_condH rfl (fun h1 => rfl) fun h1 => (n_bind fun t => (n_bind fun t1 => (n_bind fun t2 => (n_bind fun t3 => (n_condH rfl (fun h2 => (n_condH rfl (fun h3 => rfl) fun h3 => (n_condH rfl (fun h4 => rfl) fun h4 => (n_bind fun t4 => rfl)))) fun h2 => (n_bind fun t5 => rfl))))))))
theorem lib31 : Lib Try.prog GL0 C31 :=
  Lib.fn lib53 mixed TT_ok Try.func31 (by decide +kernel) (by kernel_rfl) true noL (loops_of 0 (by kernel_rfl) below0) ks31 (F := fun us => F_skirmishref12_blocks (toI (cIa (aggL (cIa us 0)) 0)) (toI (cIa (aggL (cIa us 0)) 1)) (roRows (cIa (aggL (cIa us 0)) 2)) (toI (cIa (aggL (cIa us 1)) 0)) (toI (cIa (aggL (cIa us 1)) 1)) (toI (cIa (aggL (cIa us 2)) 0)) (toI (cIa (aggL (cIa us 2)) 1)) (toI (cIa (aggL (cIa us 3)) 0)) (toI (cIa (aggL (cIa us 3)) 1))) (fun us => rfl) (fun us => run31 (toI (cIa (aggL (cIa us 0)) 0)) (toI (cIa (aggL (cIa us 0)) 1)) (roRows (cIa (aggL (cIa us 0)) 2)) (toI (cIa (aggL (cIa us 1)) 0)) (toI (cIa (aggL (cIa us 1)) 1)) (toI (cIa (aggL (cIa us 2)) 0)) (toI (cIa (aggL (cIa us 2)) 1)) (toI (cIa (aggL (cIa us 3)) 0)) (toI (cIa (aggL (cIa us 3)) 1))) (fun t => rfl)

/-! ### 12: skirmish/skirmishref12.Blocks -/



/-- 'skirmish/skirmishref12.Blocks' -/
noncomputable def F_skirmishref12_Blocks (m_W : Int) (m_H : Int) (m_Cells : List (List AVal)) (a_X : Int) (a_Y : Int) (b_X : Int) (b_Y : Int) (c_X : Int) (c_Y : Int) : Option (Bool) :=
  Option.bind (F_skirmishref07_Valid m_W m_H m_Cells) fun t =>
  bif t then
    Option.bind (F_skirmishref12_inside m_W m_H m_Cells a_X a_Y) fun t1 =>
    bif t1 then
      Option.bind (F_skirmishref12_inside m_W m_H m_Cells b_X b_Y) fun t2 =>
      bif t2 then
        Option.bind (F_skirmishref12_inside m_W m_H m_Cells c_X c_Y) fun t3 =>
        bif t3 then
          Option.bind (F_skirmishref12_blocks m_W m_H m_Cells a_X a_Y b_X b_Y c_X c_Y) fun t4 =>
          some t4
        else
        some false
      else
      some false
    else
    some false
  else
  some false
noncomputable def enc12 (t : Bool) : CR := ⟨true, (.sc (.bool t)), [], []⟩
noncomputable def ks12 : List SK := [.agg [.int .i64, .int .i64, .ro 3], .agg [.int .i64, .int .i64], .agg [.int .i64, .int .i64], .agg [.int .i64, .int .i64]]
noncomputable def S12 (us : List AVal) : Call := bif chkA ks12 us then Call.of (F_skirmishref12_Blocks (toI (cIa (aggL (cIa us 0)) 0)) (toI (cIa (aggL (cIa us 0)) 1)) (roRows (cIa (aggL (cIa us 0)) 2)) (toI (cIa (aggL (cIa us 1)) 0)) (toI (cIa (aggL (cIa us 1)) 1)) (toI (cIa (aggL (cIa us 2)) 0)) (toI (cIa (aggL (cIa us 2)) 1)) (toI (cIa (aggL (cIa us 3)) 0)) (toI (cIa (aggL (cIa us 3)) 1))) enc12 else Call.none
noncomputable def C12 := AI.ext 12 S12 C31

theorem run12 (m_W : Int) (m_H : Int) (m_Cells : List (List AVal)) (a_X : Int) (a_Y : Int) (b_X : Int) (b_Y : Int) (c_X : Int) (c_Y : Int) : fcall TT TU GL0 C31 ownF true noL Try.f12 [(.agg [(.sc (.int .i64 m_W)), (.sc (.int .i64 m_H)), (.ro 3 m_Cells)]), (.agg [(.sc (.int .i64 a_X)), (.sc (.int .i64 a_Y))]), (.agg [(.sc (.int .i64 b_X)), (.sc (.int .i64 b_Y))]), (.agg [(.sc (.int .i64 c_X)), (.sc (.int .i64 c_Y))])] = (F_skirmishref12_Blocks m_W m_H m_Cells a_X a_Y b_X b_Y c_X c_Y).bind fun t => some (enc12 t) :=
  Eq.trans (b := (Option.bind (F_skirmishref07_Valid m_W m_H m_Cells) fun t => (bif t then (Option.bind (F_skirmishref12_inside m_W m_H m_Cells a_X a_Y) fun t1 => (bif t1 then (Option.bind (F_skirmishref12_inside m_W m_H m_Cells b_X b_Y) fun t2 => (bif t2 then (Option.bind (F_skirmishref12_inside m_W m_H m_Cells c_X c_Y) fun t3 => (bif t3 then (Option.bind (F_skirmishref12_blocks m_W m_H m_Cells a_X a_Y b_X b_Y c_X c_Y) fun t4 => (some (CR.mk true (bo t4) [] []))) else (some (CR.mk true (bo false) [] [])))) else (some (CR.mk true (bo false) [] [])))) else (some (CR.mk true (bo false) [] [])))) else (some (CR.mk true (bo false) [] []))))) (by kernel_rfl)
    (n_bind fun t => (n_condH rfl (fun h0 => (n_bind fun t1 => (n_condH rfl (fun h1 => (n_bind fun t2 => (n_condH rfl (fun h2 => (n_bind fun t3 => (n_condH rfl (fun h3 => (n_bind fun t4 => rfl)) fun h3 => rfl))) fun h2 => rfl))) fun h1 => rfl))) fun h0 => rfl))
theorem lib12 : Lib Try.prog GL0 C12 :=
  Lib.fn lib31 mixed TT_ok Try.func12 (by decide +kernel) (by kernel_rfl) true noL (loops_of 0 (by kernel_rfl) below0) ks12 (F := fun us => F_skirmishref12_Blocks (toI (cIa (aggL (cIa us 0)) 0)) (toI (cIa (aggL (cIa us 0)) 1)) (roRows (cIa (aggL (cIa us 0)) 2)) (toI (cIa (aggL (cIa us 1)) 0)) (toI (cIa (aggL (cIa us 1)) 1)) (toI (cIa (aggL (cIa us 2)) 0)) (toI (cIa (aggL (cIa us 2)) 1)) (toI (cIa (aggL (cIa us 3)) 0)) (toI (cIa (aggL (cIa us 3)) 1))) (fun us => rfl) (fun us => run12 (toI (cIa (aggL (cIa us 0)) 0)) (toI (cIa (aggL (cIa us 0)) 1)) (roRows (cIa (aggL (cIa us 0)) 2)) (toI (cIa (aggL (cIa us 1)) 0)) (toI (cIa (aggL (cIa us 1)) 1)) (toI (cIa (aggL (cIa us 2)) 0)) (toI (cIa (aggL (cIa us 2)) 1)) (toI (cIa (aggL (cIa us 3)) 0)) (toI (cIa (aggL (cIa us 3)) 1))) (fun t => rfl)

/-! ### 3: skirmish/skirmishlaw12.ShadowBlocks -/



/-- 'skirmish/skirmishlaw12.ShadowBlocks' -/
noncomputable def F_skirmishlaw12_ShadowBlocks (m_W : Int) (m_H : Int) (m_Cells : List (List AVal)) (l_0_X : Int) (l_0_Y : Int) (l_1_X : Int) (l_1_Y : Int) (l_2_X : Int) (l_2_Y : Int) : Option (Bool) :=
  bif (decide ((Int.ofNat m_Cells.length) > (1024 : Int))) then
    Option.bind F_skirmishlaw12_awake fun t =>
    some t
  else
  Option.bind (F_shadow_Blocks m_W m_H m_Cells l_0_X l_0_Y l_1_X l_1_Y l_2_X l_2_Y) fun t1 =>
  Option.bind (F_skirmishref12_Blocks m_W m_H m_Cells l_0_X l_0_Y l_1_X l_1_Y l_2_X l_2_Y) fun t2 =>
  bif (t1 == t2) then
    Option.bind F_skirmishlaw12_awake fun t3 =>
    some t3
  else
  some false
noncomputable def enc3 (t : Bool) : CR := ⟨true, (.sc (.bool t)), [], []⟩
noncomputable def ks3 : List SK := [.agg [.int .i64, .int .i64, .ro 3], .agg [.int .i64, .int .i64, .int .i64, .int .i64, .int .i64, .int .i64]]
noncomputable def S3 (us : List AVal) : Call := bif chkA ks3 us then Call.of (F_skirmishlaw12_ShadowBlocks (toI (cIa (aggL (cIa us 0)) 0)) (toI (cIa (aggL (cIa us 0)) 1)) (roRows (cIa (aggL (cIa us 0)) 2)) (toI (cIa (aggL (cIa us 1)) 0)) (toI (cIa (aggL (cIa us 1)) 1)) (toI (cIa (aggL (cIa us 1)) 2)) (toI (cIa (aggL (cIa us 1)) 3)) (toI (cIa (aggL (cIa us 1)) 4)) (toI (cIa (aggL (cIa us 1)) 5))) enc3 else Call.none
noncomputable def C3 := AI.ext 3 S3 C12

theorem run3 (m_W : Int) (m_H : Int) (m_Cells : List (List AVal)) (l_0_X : Int) (l_0_Y : Int) (l_1_X : Int) (l_1_Y : Int) (l_2_X : Int) (l_2_Y : Int) : fcall TT TU GL0 C12 ownF true noL Try.f3 [(.agg [(.sc (.int .i64 m_W)), (.sc (.int .i64 m_H)), (.ro 3 m_Cells)]), (.agg [(.sc (.int .i64 l_0_X)), (.sc (.int .i64 l_0_Y)), (.sc (.int .i64 l_1_X)), (.sc (.int .i64 l_1_Y)), (.sc (.int .i64 l_2_X)), (.sc (.int .i64 l_2_Y))])] = (F_skirmishlaw12_ShadowBlocks m_W m_H m_Cells l_0_X l_0_Y l_1_X l_1_Y l_2_X l_2_Y).bind fun t => some (enc3 t) :=
  Eq.trans (b := (bif (decide ((Int.ofNat m_Cells.length) > (1024 : Int))) then (Option.bind F_skirmishlaw12_awake fun t => (some (CR.mk true (bo t) [] []))) else (Option.bind (F_shadow_Blocks m_W m_H m_Cells l_0_X l_0_Y l_1_X l_1_Y l_2_X l_2_Y) fun t1 => (Option.bind (F_skirmishref12_Blocks m_W m_H m_Cells l_0_X l_0_Y l_1_X l_1_Y l_2_X l_2_Y) fun t2 => (bif (t1 == t2) then (Option.bind F_skirmishlaw12_awake fun t3 => (some (CR.mk true (bo t3) [] []))) else (some (CR.mk true (bo false) [] []))))))) (by kernel_rfl)
    (n_condH rfl (fun h0 => (n_bind fun t => rfl)) fun h0 => (n_bind fun t1 => (n_bind fun t2 => (n_condH rfl (fun h1 => (n_bind fun t3 => rfl)) fun h1 => rfl))))
theorem lib3 : Lib Try.prog GL0 C3 :=
  Lib.fn lib12 mixed TT_ok Try.func3 (by decide +kernel) (by kernel_rfl) true noL (loops_of 0 (by kernel_rfl) below0) ks3 (F := fun us => F_skirmishlaw12_ShadowBlocks (toI (cIa (aggL (cIa us 0)) 0)) (toI (cIa (aggL (cIa us 0)) 1)) (roRows (cIa (aggL (cIa us 0)) 2)) (toI (cIa (aggL (cIa us 1)) 0)) (toI (cIa (aggL (cIa us 1)) 1)) (toI (cIa (aggL (cIa us 1)) 2)) (toI (cIa (aggL (cIa us 1)) 3)) (toI (cIa (aggL (cIa us 1)) 4)) (toI (cIa (aggL (cIa us 1)) 5))) (fun us => rfl) (fun us => run3 (toI (cIa (aggL (cIa us 0)) 0)) (toI (cIa (aggL (cIa us 0)) 1)) (roRows (cIa (aggL (cIa us 0)) 2)) (toI (cIa (aggL (cIa us 1)) 0)) (toI (cIa (aggL (cIa us 1)) 1)) (toI (cIa (aggL (cIa us 1)) 2)) (toI (cIa (aggL (cIa us 1)) 3)) (toI (cIa (aggL (cIa us 1)) 4)) (toI (cIa (aggL (cIa us 1)) 5))) (fun t => rfl)

/-! ### 33: skirmish/skirmishref12.sees -/

noncomputable def W33_0 : Ex → List Bool
  | .ret => [false, false, false, false, false, false, true, false, false, false, false, false, false, false, false, false, false, false, false, false, false, false, false, false, false, false, false, false, false, false, false, false, false, false, false, false, false, false, false, false, false, false, false, false]
  | .exit n => bif Nat.beq n 0 then [false, false, false, false, false, false, false, false, false, false, false, false, false, false, false, false, false, false, false, false, false, false, false, false, false, false, false, false, false, false, false, false, false, false, false, false, false, false, false, false, false, false, false, false] else []
  | .normal => []
noncomputable def W33_1 : Ex → List Bool
  | .ret => [false, false, false, false, false, false, true, false, false, false, false, false, false, false, false, false, false, false, false, false, false, false, false, false, false, false, false, false, false, false, false, false, false, false, false, false, false, false, false, false, false, false, false, false]
  | .exit n => bif Nat.beq n 2 then [false, false, false, true, true, true, false, true, false, false, false, false, false, false, false, false, false, false, false, false, false, false, false, false, false, false, false, false, false, false, false, false, false, false, false, false, false, false, false, false, false, false, false, false] else bif Nat.beq n 1 then [false, false, false, true, true, true, false, true, false, false, false, false, false, false, false, false, false, false, false, false, false, false, false, false, false, false, false, false, false, false, false, false, false, false, false, false, false, false, false, false, false, false, false, false] else bif Nat.beq n 0 then [false, false, false, false, false, false, false, false, false, false, false, false, false, false, false, false, false, false, false, false, false, false, false, false, false, false, false, false, false, false, false, false, false, false, false, false, false, false, false, false, false, false, false, false] else []
  | .normal => []
noncomputable def G_skirmishref12_sees_1 (y : Int) (b0_0 : Int) (b0_1 : Int) (b0_2 : List (List AVal)) (b1_0 : Int) (b1_1 : Int) (b2_0 : Int) (b2_1 : Int) : Nat → Int → Option (Bool)
  | 0, _ => none
  | m + 1, x =>
    bif (decide (x ≤ (maxI b1_0 b2_0))) then
      Option.bind (F_skirmishref12_blocks b0_0 b0_1 b0_2 b1_0 b1_1 b2_0 b2_1 x y) fun t =>
      bif t then
        some true
      else
      G_skirmishref12_sees_1 y b0_0 b0_1 b0_2 b1_0 b1_1 b2_0 b2_1 m (wr (x + (1 : Int)))
    else
    some false
noncomputable def E33_1 (y : Int) (x : Int) (b0_0 : Int) (b0_1 : Int) (b0_2 : List (List AVal)) (b1_0 : Int) (b1_1 : Int) (b2_0 : Int) (b2_1 : Int) : St := ⟨[.dead, .dead, .dead, (.ref 16000 1 0 0), (.ref 16016 1 0 0), (.ref 16032 1 0 0), .dead, (.sc (.int .i64 y)), (.sc (.int .i64 x)), .dead, .dead, .dead, .dead, .dead, .dead, .dead, .dead, .dead, .dead, .dead, .dead, .dead, .dead, .dead, .dead, .dead, .dead, .dead, .dead, .dead, .dead, .dead, .dead, .dead, .dead, .dead, .dead, .dead, .dead, .dead, .dead, .dead, .dead, .dead], [(16000, ⟨.box, 24, 3, [[(.sc (.int .i64 b0_0)), (.sc (.int .i64 b0_1)), (.ro 3 b0_2)]]⟩), (16016, ⟨.box, 26, 2, [[(.sc (.int .i64 b1_0)), (.sc (.int .i64 b1_1))]]⟩), (16032, ⟨.box, 26, 2, [[(.sc (.int .i64 b2_0)), (.sc (.int .i64 b2_1))]]⟩)]⟩
noncomputable def X33_1 (y : Int) (b0_0 : Int) (b0_1 : Int) (b0_2 : List (List AVal)) (b1_0 : Int) (b1_1 : Int) (b2_0 : Int) (b2_1 : Int) (k : Ex → St → Option CR) (t : Bool) : Option CR := bif t then k .ret ⟨[.dead, .dead, .dead, .dead, .dead, .dead, (.sc (.bool false)), .dead, .dead, .dead, .dead, .dead, .dead, .dead, .dead, .dead, .dead, .dead, .dead, .dead, .dead, .dead, .dead, .dead, .dead, .dead, .dead, .dead, .dead, .dead, .dead, .dead, .dead, .dead, .dead, .dead, .dead, .dead, .dead, .dead, .dead, .dead, .dead, .dead], []⟩ else k (.exit 2) ⟨[.dead, .dead, .dead, (.ref 16000 1 0 0), (.ref 16016 1 0 0), (.ref 16032 1 0 0), .dead, (.sc (.int .i64 y)), .dead, .dead, .dead, .dead, .dead, .dead, .dead, .dead, .dead, .dead, .dead, .dead, .dead, .dead, .dead, .dead, .dead, .dead, .dead, .dead, .dead, .dead, .dead, .dead, .dead, .dead, .dead, .dead, .dead, .dead, .dead, .dead, .dead, .dead, .dead, .dead], [(16000, ⟨.box, 24, 3, [[(.sc (.int .i64 b0_0)), (.sc (.int .i64 b0_1)), (.ro 3 b0_2)]]⟩), (16016, ⟨.box, 26, 2, [[(.sc (.int .i64 b1_0)), (.sc (.int .i64 b1_1))]]⟩), (16032, ⟨.box, 26, 2, [[(.sc (.int .i64 b2_0)), (.sc (.int .i64 b2_1))]]⟩)]⟩
noncomputable def ks33_1 : List SK := [.f .dead, .f .dead, .f .dead, .f (.ref 16000 1 0 0), .f (.ref 16016 1 0 0), .f (.ref 16032 1 0 0), .f .dead, .f (.int .i64), .f (.int .i64), .f .dead, .f .dead, .f .dead, .f .dead, .f .dead, .f .dead, .f .dead, .f .dead, .f .dead, .f .dead, .f .dead, .f .dead, .f .dead, .f .dead, .f .dead, .f .dead, .f .dead, .f .dead, .f .dead, .f .dead, .f .dead, .f .dead, .f .dead, .f .dead, .f .dead, .f .dead, .f .dead, .f .dead, .f .dead, .f .dead, .f .dead, .f .dead, .f .dead, .f .dead, .f .dead]
noncomputable def hs33_1 : List HK := [⟨16000, .box, 24, 3, some [.int .i64, .int .i64, .ro 3]⟩, ⟨16016, .box, 26, 2, some [.int .i64, .int .i64]⟩, ⟨16032, .box, 26, 2, some [.int .i64, .int .i64]⟩]
noncomputable def Lm33_1 (s : St) (k : Ex → St → Option CR) : Option CR := bif chkS ks33_1 hs33_1 s then (G_skirmishref12_sees_1 (toI (cIa s.tmps 7)) (toI (cIa (rows0 (blkAt s.heap 0).2) 0)) (toI (cIa (rows0 (blkAt s.heap 0).2) 1)) (roRows (cIa (rows0 (blkAt s.heap 0).2) 2)) (toI (cIa (rows0 (blkAt s.heap 1).2) 0)) (toI (cIa (rows0 (blkAt s.heap 1).2) 1)) (toI (cIa (rows0 (blkAt s.heap 2).2) 0)) (toI (cIa (rows0 (blkAt s.heap 2).2) 1)) FU (toI (cIa s.tmps 8))).bind (X33_1 (toI (cIa s.tmps 7)) (toI (cIa (rows0 (blkAt s.heap 0).2) 0)) (toI (cIa (rows0 (blkAt s.heap 0).2) 1)) (roRows (cIa (rows0 (blkAt s.heap 0).2) 2)) (toI (cIa (rows0 (blkAt s.heap 1).2) 0)) (toI (cIa (rows0 (blkAt s.heap 1).2) 1)) (toI (cIa (rows0 (blkAt s.heap 2).2) 0)) (toI (cIa (rows0 (blkAt s.heap 2).2) 1)) k) else none
noncomputable def L33_1 (s : St) (k : Ex → St → Option CR) : Option CR := Lm33_1 (maskS (maskOf ks33_1) s) k
noncomputable def G_skirmishref12_sees_0 (b0_0 : Int) (b0_1 : Int) (b0_2 : List (List AVal)) (b1_0 : Int) (b1_1 : Int) (b2_0 : Int) (b2_1 : Int) : Nat → Int → Option (Bool)
  | 0, _ => none
  | m + 1, y =>
    bif (decide (y ≤ (maxI b1_1 b2_1))) then
      Option.bind (G_skirmishref12_sees_1 y b0_0 b0_1 b0_2 b1_0 b1_1 b2_0 b2_1 FU (minI b1_0 b2_0)) fun t =>
      bif t then
        some true
      else
      G_skirmishref12_sees_0 b0_0 b0_1 b0_2 b1_0 b1_1 b2_0 b2_1 m (wr (y + (1 : Int)))
    else
    some false
noncomputable def E33_0 (y : Int) (b0_0 : Int) (b0_1 : Int) (b0_2 : List (List AVal)) (b1_0 : Int) (b1_1 : Int) (b2_0 : Int) (b2_1 : Int) : St := ⟨[.dead, .dead, .dead, (.ref 16000 1 0 0), (.ref 16016 1 0 0), (.ref 16032 1 0 0), .dead, (.sc (.int .i64 y)), .dead, .dead, .dead, .dead, .dead, .dead, .dead, .dead, .dead, .dead, .dead, .dead, .dead, .dead, .dead, .dead, .dead, .dead, .dead, .dead, .dead, .dead, .dead, .dead, .dead, .dead, .dead, .dead, .dead, .dead, .dead, .dead, .dead, .dead, .dead, .dead], [(16000, ⟨.box, 24, 3, [[(.sc (.int .i64 b0_0)), (.sc (.int .i64 b0_1)), (.ro 3 b0_2)]]⟩), (16016, ⟨.box, 26, 2, [[(.sc (.int .i64 b1_0)), (.sc (.int .i64 b1_1))]]⟩), (16032, ⟨.box, 26, 2, [[(.sc (.int .i64 b2_0)), (.sc (.int .i64 b2_1))]]⟩)]⟩
noncomputable def X33_0 (k : Ex → St → Option CR) (t : Bool) : Option CR := bif t then k .ret ⟨[.dead, .dead, .dead, .dead, .dead, .dead, (.sc (.bool false)), .dead, .dead, .dead, .dead, .dead, .dead, .dead, .dead, .dead, .dead, .dead, .dead, .dead, .dead, .dead, .dead, .dead, .dead, .dead, .dead, .dead, .dead, .dead, .dead, .dead, .dead, .dead, .dead, .dead, .dead, .dead, .dead, .dead, .dead, .dead, .dead, .dead], []⟩ else k (.exit 0) ⟨[.dead, .dead, .dead, .dead, .dead, .dead, .dead, .dead, .dead, .dead, .dead, .dead, .dead, .dead, .dead, .dead, .dead, .dead, .dead, .dead, .dead, .dead, .dead, .dead, .dead, .dead, .dead, .dead, .dead, .dead, .dead, .dead, .dead, .dead, .dead, .dead, .dead, .dead, .dead, .dead, .dead, .dead, .dead, .dead], []⟩
noncomputable def ks33_0 : List SK := [.f .dead, .f .dead, .f .dead, .f (.ref 16000 1 0 0), .f (.ref 16016 1 0 0), .f (.ref 16032 1 0 0), .f .dead, .f (.int .i64), .f .dead, .f .dead, .f .dead, .f .dead, .f .dead, .f .dead, .f .dead, .f .dead, .f .dead, .f .dead, .f .dead, .f .dead, .f .dead, .f .dead, .f .dead, .f .dead, .f .dead, .f .dead, .f .dead, .f .dead, .f .dead, .f .dead, .f .dead, .f .dead, .f .dead, .f .dead, .f .dead, .f .dead, .f .dead, .f .dead, .f .dead, .f .dead, .f .dead, .f .dead, .f .dead, .f .dead]
noncomputable def hs33_0 : List HK := [⟨16000, .box, 24, 3, some [.int .i64, .int .i64, .ro 3]⟩, ⟨16016, .box, 26, 2, some [.int .i64, .int .i64]⟩, ⟨16032, .box, 26, 2, some [.int .i64, .int .i64]⟩]
noncomputable def Lm33_0 (s : St) (k : Ex → St → Option CR) : Option CR := bif chkS ks33_0 hs33_0 s then (G_skirmishref12_sees_0 (toI (cIa (rows0 (blkAt s.heap 0).2) 0)) (toI (cIa (rows0 (blkAt s.heap 0).2) 1)) (roRows (cIa (rows0 (blkAt s.heap 0).2) 2)) (toI (cIa (rows0 (blkAt s.heap 1).2) 0)) (toI (cIa (rows0 (blkAt s.heap 1).2) 1)) (toI (cIa (rows0 (blkAt s.heap 2).2) 0)) (toI (cIa (rows0 (blkAt s.heap 2).2) 1)) FU (toI (cIa s.tmps 7))).bind (X33_0 k) else none
noncomputable def L33_0 (s : St) (k : Ex → St → Option CR) : Option CR := Lm33_0 (maskS (maskOf ks33_0) s) k

noncomputable def L33 : LT' := fun i s k => bif Nat.beq i 0 then L33_0 s k else bif Nat.beq i 2 then L33_1 s k else none

/-- 'skirmish/skirmishref12.sees' -/
noncomputable def F_skirmishref12_sees (m_W : Int) (m_H : Int) (m_Cells : List (List AVal)) (a_X : Int) (a_Y : Int) (b_X : Int) (b_Y : Int) : Option (Bool) :=
  Option.bind (G_skirmishref12_sees_0 m_W m_H m_Cells a_X a_Y b_X b_Y FU (minI a_Y b_Y)) fun t =>
  bif t then
    some false
  else
  some true
noncomputable def enc33 (t : Bool) : CR := ⟨true, (.sc (.bool t)), [], []⟩
noncomputable def ks33 : List SK := [.agg [.int .i64, .int .i64, .ro 3], .agg [.int .i64, .int .i64], .agg [.int .i64, .int .i64]]
noncomputable def S33 (us : List AVal) : Call := bif chkA ks33 us then Call.of (F_skirmishref12_sees (toI (cIa (aggL (cIa us 0)) 0)) (toI (cIa (aggL (cIa us 0)) 1)) (roRows (cIa (aggL (cIa us 0)) 2)) (toI (cIa (aggL (cIa us 1)) 0)) (toI (cIa (aggL (cIa us 1)) 1)) (toI (cIa (aggL (cIa us 2)) 0)) (toI (cIa (aggL (cIa us 2)) 1))) enc33 else Call.none
noncomputable def C33 := AI.ext 33 S33 C3

@[reducible] noncomputable def B33_1 := bodyOf TT TU GL0 C3 ownF L33 (lp Try.f33 1)
@[reducible] noncomputable def K33_1 (k : Ex → St → Option CR) : Ex → St → Option CR := fun e s => k e (maskS (W33_1 e) s)
theorem spec33_1 (k : Ex → St → Option CR) : ∀ (m : Nat) (y : Int) (x : Int) (b0_0 : Int) (b0_1 : Int) (b0_2 : List (List AVal)) (b1_0 : Int) (b1_1 : Int) (b2_0 : Int) (b2_1 : Int), loopN B33_1 m (E33_1 y x b0_0 b0_1 b0_2 b1_0 b1_1 b2_0 b2_1) (K33_1 k) = (G_skirmishref12_sees_1 y b0_0 b0_1 b0_2 b1_0 b1_1 b2_0 b2_1 m x).bind (X33_1 y b0_0 b0_1 b0_2 b1_0 b1_1 b2_0 b2_1 k)
  | 0, _, _, _, _, _, _, _, _, _ => rfl
  | m + 1, y, x, b0_0, b0_1, b0_2, b1_0, b1_1, b2_0, b2_1 =>
    Eq.trans (b := (bif (decide (x ≤ (maxI b1_0 b2_0))) then (Option.bind (F_skirmishref12_blocks b0_0 b0_1 b0_2 b1_0 b1_1 b2_0 b2_1 x y) fun t => (bif t then (k .ret ⟨[.dead, .dead, .dead, .dead, .dead, .dead, (bo false), .dead, .dead, .dead, .dead, .dead, .dead, .dead, .dead, .dead, .dead, .dead, .dead, .dead, .dead, .dead, .dead, .dead, .dead, .dead, .dead, .dead, .dead, .dead, .dead, .dead, .dead, .dead, .dead, .dead, .dead, .dead, .dead, .dead, .dead, .dead, .dead, .dead], []⟩) else (loopN B33_1 m ⟨[.dead, .dead, .dead, (AVal.ref 16000 1 0 0), (AVal.ref 16016 1 0 0), (AVal.ref 16032 1 0 0), .dead, (i64 y), (i64 (wr (x + (1 : Int)))), .dead, .dead, .dead, .dead, .dead, .dead, .dead, .dead, .dead, .dead, .dead, .dead, .dead, .dead, .dead, .dead, .dead, .dead, .dead, .dead, .dead, .dead, .dead, .dead, .dead, .dead, .dead, .dead, .dead, .dead, .dead, .dead, .dead, .dead, .dead], [(Prod.mk 16000 (Blk.mk BKind.box 24 3 [[(i64 b0_0), (i64 b0_1), (AVal.ro 3 b0_2)]])), (Prod.mk 16016 (Blk.mk BKind.box 26 2 [[(i64 b1_0), (i64 b1_1)]])), (Prod.mk 16032 (Blk.mk BKind.box 26 2 [[(i64 b2_0), (i64 b2_1)]]))]⟩ (K33_1 k)))) else (k (.exit 2) ⟨[.dead, .dead, .dead, (AVal.ref 16000 1 0 0), (AVal.ref 16016 1 0 0), (AVal.ref 16032 1 0 0), .dead, (i64 y), .dead, .dead, .dead, .dead, .dead, .dead, .dead, .dead, .dead, .dead, .dead, .dead, .dead, .dead, .dead, .dead, .dead, .dead, .dead, .dead, .dead, .dead, .dead, .dead, .dead, .dead, .dead, .dead, .dead, .dead, .dead, .dead, .dead, .dead, .dead, .dead], [(Prod.mk 16000 (Blk.mk BKind.box 24 3 [[(i64 b0_0), (i64 b0_1), (AVal.ro 3 b0_2)]])), (Prod.mk 16016 (Blk.mk BKind.box 26 2 [[(i64 b1_0), (i64 b1_1)]])), (Prod.mk 16032 (Blk.mk BKind.box 26 2 [[(i64 b2_0), (i64 b2_1)]]))]⟩))) (by kernel_rfl)
      (n_condH rfl (fun h0 => (n_bind fun t => (n_condH rfl (fun h1 => rfl) fun h1 => (spec33_1 k m y (wr (x + (1 : Int))) b0_0 b0_1 b0_2 b1_0 b1_1 b2_0 b2_1)))) fun h0 => rfl)
theorem okL33_1 : LoopOk TT TU GL0 C3 ownF L33 (lp Try.f33 1) :=
  loopOk_of ks33_1 hs33_1 W33_1 FU (fun s k => (G_skirmishref12_sees_1 (toI (cIa s.tmps 7)) (toI (cIa (rows0 (blkAt s.heap 0).2) 0)) (toI (cIa (rows0 (blkAt s.heap 0).2) 1)) (roRows (cIa (rows0 (blkAt s.heap 0).2) 2)) (toI (cIa (rows0 (blkAt s.heap 1).2) 0)) (toI (cIa (rows0 (blkAt s.heap 1).2) 1)) (toI (cIa (rows0 (blkAt s.heap 2).2) 0)) (toI (cIa (rows0 (blkAt s.heap 2).2) 1)) FU (toI (cIa s.tmps 8))).bind (X33_1 (toI (cIa s.tmps 7)) (toI (cIa (rows0 (blkAt s.heap 0).2) 0)) (toI (cIa (rows0 (blkAt s.heap 0).2) 1)) (roRows (cIa (rows0 (blkAt s.heap 0).2) 2)) (toI (cIa (rows0 (blkAt s.heap 1).2) 0)) (toI (cIa (rows0 (blkAt s.heap 1).2) 1)) (toI (cIa (rows0 (blkAt s.heap 2).2) 0)) (toI (cIa (rows0 (blkAt s.heap 2).2) 1)) k)) (fun s k => by kernel_rfl) (fun s k => spec33_1 k FU (toI (cIa s.tmps 7)) (toI (cIa s.tmps 8)) (toI (cIa (rows0 (blkAt s.heap 0).2) 0)) (toI (cIa (rows0 (blkAt s.heap 0).2) 1)) (roRows (cIa (rows0 (blkAt s.heap 0).2) 2)) (toI (cIa (rows0 (blkAt s.heap 1).2) 0)) (toI (cIa (rows0 (blkAt s.heap 1).2) 1)) (toI (cIa (rows0 (blkAt s.heap 2).2) 0)) (toI (cIa (rows0 (blkAt s.heap 2).2) 1)))
@[reducible] noncomputable def B33_0 := bodyOf TT TU GL0 C3 ownF L33 (lp Try.f33 0)
@[reducible] noncomputable def K33_0 (k : Ex → St → Option CR) : Ex → St → Option CR := fun e s => k e (maskS (W33_0 e) s)
theorem spec33_0 (k : Ex → St → Option CR) : ∀ (m : Nat) (y : Int) (b0_0 : Int) (b0_1 : Int) (b0_2 : List (List AVal)) (b1_0 : Int) (b1_1 : Int) (b2_0 : Int) (b2_1 : Int), loopN B33_0 m (E33_0 y b0_0 b0_1 b0_2 b1_0 b1_1 b2_0 b2_1) (K33_0 k) = (G_skirmishref12_sees_0 b0_0 b0_1 b0_2 b1_0 b1_1 b2_0 b2_1 m y).bind (X33_0 k)
  | 0, _, _, _, _, _, _, _, _ => rfl
  | m + 1, y, b0_0, b0_1, b0_2, b1_0, b1_1, b2_0, b2_1 =>
    Eq.trans (b := (bif (decide (y ≤ (maxI b1_1 b2_1))) then (Option.bind (G_skirmishref12_sees_1 y b0_0 b0_1 b0_2 b1_0 b1_1 b2_0 b2_1 FU (minI b1_0 b2_0)) fun t => (bif t then (k .ret ⟨[.dead, .dead, .dead, .dead, .dead, .dead, (bo false), .dead, .dead, .dead, .dead, .dead, .dead, .dead, .dead, .dead, .dead, .dead, .dead, .dead, .dead, .dead, .dead, .dead, .dead, .dead, .dead, .dead, .dead, .dead, .dead, .dead, .dead, .dead, .dead, .dead, .dead, .dead, .dead, .dead, .dead, .dead, .dead, .dead], []⟩) else (loopN B33_0 m ⟨[.dead, .dead, .dead, (AVal.ref 16000 1 0 0), (AVal.ref 16016 1 0 0), (AVal.ref 16032 1 0 0), .dead, (i64 (wr (y + (1 : Int)))), .dead, .dead, .dead, .dead, .dead, .dead, .dead, .dead, .dead, .dead, .dead, .dead, .dead, .dead, .dead, .dead, .dead, .dead, .dead, .dead, .dead, .dead, .dead, .dead, .dead, .dead, .dead, .dead, .dead, .dead, .dead, .dead, .dead, .dead, .dead, .dead], [(Prod.mk 16000 (Blk.mk BKind.box 24 3 [[(i64 b0_0), (i64 b0_1), (AVal.ro 3 b0_2)]])), (Prod.mk 16016 (Blk.mk BKind.box 26 2 [[(i64 b1_0), (i64 b1_1)]])), (Prod.mk 16032 (Blk.mk BKind.box 26 2 [[(i64 b2_0), (i64 b2_1)]]))]⟩ (K33_0 k)))) else (k (.exit 0) ⟨[.dead, .dead, .dead, .dead, .dead, .dead, .dead, .dead, .dead, .dead, .dead, .dead, .dead, .dead, .dead, .dead, .dead, .dead, .dead, .dead, .dead, .dead, .dead, .dead, .dead, .dead, .dead, .dead, .dead, .dead, .dead, .dead, .dead, .dead, .dead, .dead, .dead, .dead, .dead, .dead, .dead, .dead, .dead, .dead], []⟩))) (by kernel_rfl)
      (n_condH rfl (fun h0 => (n_bind fun t => (n_condH rfl (fun h1 => rfl) fun h1 => (spec33_0 k m (wr (y + (1 : Int))) b0_0 b0_1 b0_2 b1_0 b1_1 b2_0 b2_1)))) fun h0 => rfl)
theorem okL33_0 : LoopOk TT TU GL0 C3 ownF L33 (lp Try.f33 0) :=
  loopOk_of ks33_0 hs33_0 W33_0 FU (fun s k => (G_skirmishref12_sees_0 (toI (cIa (rows0 (blkAt s.heap 0).2) 0)) (toI (cIa (rows0 (blkAt s.heap 0).2) 1)) (roRows (cIa (rows0 (blkAt s.heap 0).2) 2)) (toI (cIa (rows0 (blkAt s.heap 1).2) 0)) (toI (cIa (rows0 (blkAt s.heap 1).2) 1)) (toI (cIa (rows0 (blkAt s.heap 2).2) 0)) (toI (cIa (rows0 (blkAt s.heap 2).2) 1)) FU (toI (cIa s.tmps 7))).bind (X33_0 k)) (fun s k => by kernel_rfl) (fun s k => spec33_0 k FU (toI (cIa s.tmps 7)) (toI (cIa (rows0 (blkAt s.heap 0).2) 0)) (toI (cIa (rows0 (blkAt s.heap 0).2) 1)) (roRows (cIa (rows0 (blkAt s.heap 0).2) 2)) (toI (cIa (rows0 (blkAt s.heap 1).2) 0)) (toI (cIa (rows0 (blkAt s.heap 1).2) 1)) (toI (cIa (rows0 (blkAt s.heap 2).2) 0)) (toI (cIa (rows0 (blkAt s.heap 2).2) 1)))
theorem run33 (m_W : Int) (m_H : Int) (m_Cells : List (List AVal)) (a_X : Int) (a_Y : Int) (b_X : Int) (b_Y : Int) : fcall TT TU GL0 C3 ownF true L33 Try.f33 [(.agg [(.sc (.int .i64 m_W)), (.sc (.int .i64 m_H)), (.ro 3 m_Cells)]), (.agg [(.sc (.int .i64 a_X)), (.sc (.int .i64 a_Y))]), (.agg [(.sc (.int .i64 b_X)), (.sc (.int .i64 b_Y))])] = (F_skirmishref12_sees m_W m_H m_Cells a_X a_Y b_X b_Y).bind fun t => some (enc33 t) :=
  Eq.trans (b := (Option.bind (G_skirmishref12_sees_0 m_W m_H m_Cells a_X a_Y b_X b_Y FU (minI a_Y b_Y)) fun t => (bif t then (some (CR.mk true (bo false) [] [])) else (some (CR.mk true (bo true) [] []))))) (by kernel_rfl)
    (n_bind fun t => (n_condH rfl (fun h0 => rfl) fun h0 => rfl))
theorem lib33 : Lib Try.prog GL0 C33 :=
  Lib.fn lib3 mixed TT_ok Try.func33 (by decide +kernel) (by kernel_rfl) true L33 (loops_of 2 (by kernel_rfl) (belowS (belowS below0 okL33_0) okL33_1)) ks33 (F := fun us => F_skirmishref12_sees (toI (cIa (aggL (cIa us 0)) 0)) (toI (cIa (aggL (cIa us 0)) 1)) (roRows (cIa (aggL (cIa us 0)) 2)) (toI (cIa (aggL (cIa us 1)) 0)) (toI (cIa (aggL (cIa us 1)) 1)) (toI (cIa (aggL (cIa us 2)) 0)) (toI (cIa (aggL (cIa us 2)) 1))) (fun us => rfl) (fun us => run33 (toI (cIa (aggL (cIa us 0)) 0)) (toI (cIa (aggL (cIa us 0)) 1)) (roRows (cIa (aggL (cIa us 0)) 2)) (toI (cIa (aggL (cIa us 1)) 0)) (toI (cIa (aggL (cIa us 1)) 1)) (toI (cIa (aggL (cIa us 2)) 0)) (toI (cIa (aggL (cIa us 2)) 1))) (fun t => rfl)

/-! ### 14: skirmish/skirmishref12.Sees -/



/-- 'skirmish/skirmishref12.Sees' -/
noncomputable def F_skirmishref12_Sees (m_W : Int) (m_H : Int) (m_Cells : List (List AVal)) (a_X : Int) (a_Y : Int) (b_X : Int) (b_Y : Int) : Option (Bool) :=
  Option.bind (F_skirmishref07_Valid m_W m_H m_Cells) fun t =>
  bif t then
    Option.bind (F_skirmishref12_inside m_W m_H m_Cells a_X a_Y) fun t1 =>
    bif t1 then
      Option.bind (F_skirmishref12_inside m_W m_H m_Cells b_X b_Y) fun t2 =>
      bif t2 then
        Option.bind (F_skirmishref12_sees m_W m_H m_Cells a_X a_Y b_X b_Y) fun t3 =>
        some t3
      else
      some false
    else
    some false
  else
  some false
noncomputable def enc14 (t : Bool) : CR := ⟨true, (.sc (.bool t)), [], []⟩
noncomputable def ks14 : List SK := [.agg [.int .i64, .int .i64, .ro 3], .agg [.int .i64, .int .i64], .agg [.int .i64, .int .i64]]
noncomputable def S14 (us : List AVal) : Call := bif chkA ks14 us then Call.of (F_skirmishref12_Sees (toI (cIa (aggL (cIa us 0)) 0)) (toI (cIa (aggL (cIa us 0)) 1)) (roRows (cIa (aggL (cIa us 0)) 2)) (toI (cIa (aggL (cIa us 1)) 0)) (toI (cIa (aggL (cIa us 1)) 1)) (toI (cIa (aggL (cIa us 2)) 0)) (toI (cIa (aggL (cIa us 2)) 1))) enc14 else Call.none
noncomputable def C14 := AI.ext 14 S14 C33

theorem run14 (m_W : Int) (m_H : Int) (m_Cells : List (List AVal)) (a_X : Int) (a_Y : Int) (b_X : Int) (b_Y : Int) : fcall TT TU GL0 C33 ownF true noL Try.f14 [(.agg [(.sc (.int .i64 m_W)), (.sc (.int .i64 m_H)), (.ro 3 m_Cells)]), (.agg [(.sc (.int .i64 a_X)), (.sc (.int .i64 a_Y))]), (.agg [(.sc (.int .i64 b_X)), (.sc (.int .i64 b_Y))])] = (F_skirmishref12_Sees m_W m_H m_Cells a_X a_Y b_X b_Y).bind fun t => some (enc14 t) :=
  Eq.trans (b := (Option.bind (F_skirmishref07_Valid m_W m_H m_Cells) fun t => (bif t then (Option.bind (F_skirmishref12_inside m_W m_H m_Cells a_X a_Y) fun t1 => (bif t1 then (Option.bind (F_skirmishref12_inside m_W m_H m_Cells b_X b_Y) fun t2 => (bif t2 then (Option.bind (F_skirmishref12_sees m_W m_H m_Cells a_X a_Y b_X b_Y) fun t3 => (some (CR.mk true (bo t3) [] []))) else (some (CR.mk true (bo false) [] [])))) else (some (CR.mk true (bo false) [] [])))) else (some (CR.mk true (bo false) [] []))))) (by kernel_rfl)
    (n_bind fun t => (n_condH rfl (fun h0 => (n_bind fun t1 => (n_condH rfl (fun h1 => (n_bind fun t2 => (n_condH rfl (fun h2 => (n_bind fun t3 => rfl)) fun h2 => rfl))) fun h1 => rfl))) fun h0 => rfl))
theorem lib14 : Lib Try.prog GL0 C14 :=
  Lib.fn lib33 mixed TT_ok Try.func14 (by decide +kernel) (by kernel_rfl) true noL (loops_of 0 (by kernel_rfl) below0) ks14 (F := fun us => F_skirmishref12_Sees (toI (cIa (aggL (cIa us 0)) 0)) (toI (cIa (aggL (cIa us 0)) 1)) (roRows (cIa (aggL (cIa us 0)) 2)) (toI (cIa (aggL (cIa us 1)) 0)) (toI (cIa (aggL (cIa us 1)) 1)) (toI (cIa (aggL (cIa us 2)) 0)) (toI (cIa (aggL (cIa us 2)) 1))) (fun us => rfl) (fun us => run14 (toI (cIa (aggL (cIa us 0)) 0)) (toI (cIa (aggL (cIa us 0)) 1)) (roRows (cIa (aggL (cIa us 0)) 2)) (toI (cIa (aggL (cIa us 1)) 0)) (toI (cIa (aggL (cIa us 1)) 1)) (toI (cIa (aggL (cIa us 2)) 0)) (toI (cIa (aggL (cIa us 2)) 1))) (fun t => rfl)

/-! ### 4: skirmish/skirmishlaw12.ShadowSees -/



/-- 'skirmish/skirmishlaw12.ShadowSees' -/
noncomputable def F_skirmishlaw12_ShadowSees (m_W : Int) (m_H : Int) (m_Cells : List (List AVal)) (a_X : Int) (a_Y : Int) (b_X : Int) (b_Y : Int) : Option (Bool) :=
  bif (decide ((Int.ofNat m_Cells.length) > (1024 : Int))) then
    Option.bind F_skirmishlaw12_awake fun t =>
    some t
  else
  Option.bind (F_shadow_Sees m_W m_H m_Cells a_X a_Y b_X b_Y) fun t1 =>
  Option.bind (F_skirmishref12_Sees m_W m_H m_Cells a_X a_Y b_X b_Y) fun t2 =>
  bif (t1 == t2) then
    Option.bind F_skirmishlaw12_awake fun t3 =>
    some t3
  else
  some false
noncomputable def enc4 (t : Bool) : CR := ⟨true, (.sc (.bool t)), [], []⟩
noncomputable def ks4 : List SK := [.agg [.int .i64, .int .i64, .ro 3], .agg [.int .i64, .int .i64], .agg [.int .i64, .int .i64]]
noncomputable def S4 (us : List AVal) : Call := bif chkA ks4 us then Call.of (F_skirmishlaw12_ShadowSees (toI (cIa (aggL (cIa us 0)) 0)) (toI (cIa (aggL (cIa us 0)) 1)) (roRows (cIa (aggL (cIa us 0)) 2)) (toI (cIa (aggL (cIa us 1)) 0)) (toI (cIa (aggL (cIa us 1)) 1)) (toI (cIa (aggL (cIa us 2)) 0)) (toI (cIa (aggL (cIa us 2)) 1))) enc4 else Call.none
noncomputable def C4 := AI.ext 4 S4 C14

theorem run4 (m_W : Int) (m_H : Int) (m_Cells : List (List AVal)) (a_X : Int) (a_Y : Int) (b_X : Int) (b_Y : Int) : fcall TT TU GL0 C14 ownF true noL Try.f4 [(.agg [(.sc (.int .i64 m_W)), (.sc (.int .i64 m_H)), (.ro 3 m_Cells)]), (.agg [(.sc (.int .i64 a_X)), (.sc (.int .i64 a_Y))]), (.agg [(.sc (.int .i64 b_X)), (.sc (.int .i64 b_Y))])] = (F_skirmishlaw12_ShadowSees m_W m_H m_Cells a_X a_Y b_X b_Y).bind fun t => some (enc4 t) :=
  Eq.trans (b := (bif (decide ((Int.ofNat m_Cells.length) > (1024 : Int))) then (Option.bind F_skirmishlaw12_awake fun t => (some (CR.mk true (bo t) [] []))) else (Option.bind (F_shadow_Sees m_W m_H m_Cells a_X a_Y b_X b_Y) fun t1 => (Option.bind (F_skirmishref12_Sees m_W m_H m_Cells a_X a_Y b_X b_Y) fun t2 => (bif (t1 == t2) then (Option.bind F_skirmishlaw12_awake fun t3 => (some (CR.mk true (bo t3) [] []))) else (some (CR.mk true (bo false) [] []))))))) (by kernel_rfl)
    (n_condH rfl (fun h0 => (n_bind fun t => rfl)) fun h0 => (n_bind fun t1 => (n_bind fun t2 => (n_condH rfl (fun h1 => (n_bind fun t3 => rfl)) fun h1 => rfl))))
theorem lib4 : Lib Try.prog GL0 C4 :=
  Lib.fn lib14 mixed TT_ok Try.func4 (by decide +kernel) (by kernel_rfl) true noL (loops_of 0 (by kernel_rfl) below0) ks4 (F := fun us => F_skirmishlaw12_ShadowSees (toI (cIa (aggL (cIa us 0)) 0)) (toI (cIa (aggL (cIa us 0)) 1)) (roRows (cIa (aggL (cIa us 0)) 2)) (toI (cIa (aggL (cIa us 1)) 0)) (toI (cIa (aggL (cIa us 1)) 1)) (toI (cIa (aggL (cIa us 2)) 0)) (toI (cIa (aggL (cIa us 2)) 1))) (fun us => rfl) (fun us => run4 (toI (cIa (aggL (cIa us 0)) 0)) (toI (cIa (aggL (cIa us 0)) 1)) (roRows (cIa (aggL (cIa us 0)) 2)) (toI (cIa (aggL (cIa us 1)) 0)) (toI (cIa (aggL (cIa us 1)) 1)) (toI (cIa (aggL (cIa us 2)) 0)) (toI (cIa (aggL (cIa us 2)) 1))) (fun t => rfl)

/-! ### 17: skirmish/skirmishref12.Visible -/

noncomputable def W17_0 : Ex → List Bool
  | .ret => [false, false, false, false, false, false, false, false, true, false, false, false, false, false, false, false, false, false, false, false, false, false, false, false, false, false, false, false, false, false, false, false, false, false, false, false, false, false, false, false, false, false, false, false, false, false, false, false, false, false, false, false, false, false, false, false, false, false, false, false, false, false, false, false, false, false, false, false, false, false, false, false, false, false, false, false, false]
  | .exit n => bif Nat.beq n 0 then [false, false, false, false, false, false, false, false, false, false, true, false, false, false, false, false, false, false, false, false, false, false, false, false, false, false, false, false, false, false, false, false, false, false, false, false, false, false, false, false, false, false, false, false, false, false, false, false, false, false, false, false, false, false, false, false, false, false, false, false, false, false, false, false, false, false, false, false, false, false, false, false, false, false, false, false, false] else []
  | .normal => []
noncomputable def G_skirmishref12_Visible_0 (high : Bool) (r1 : Int) (b0_0 : Int) (b0_1 : Int) (b0_2 : List (List AVal)) (b1_0 : Int) (b1_1 : Int) : Nat → List (List AVal) → Int → Option (List (List AVal))
  | 0, _, _ => none
  | m + 1, R2, i =>
    bif (decide (i < (wr (b0_0 * b0_1)))) then
      Option.bind (F_skirmishref06_At b0_0 i) fun t =>
      bif (decide ((wr ((wr ((wr (t.1 - b1_0)) * (wr (t.1 - b1_0)))) + (wr ((wr (t.2 - b1_1)) * (wr (t.2 - b1_1)))))) ≤ (wr (r1 * r1)))) then
        bif high then
          bif (roomOk (R2.length + 1) 1) then
            G_skirmishref12_Visible_0 high r1 b0_0 b0_1 b0_2 b1_0 b1_1 m (R2 ++ [[(bo true)]]) (wr (i + (1 : Int)))
          else
          none
        else
        Option.bind (F_skirmishref12_sees b0_0 b0_1 b0_2 b1_0 b1_1 t.1 t.2) fun t1 =>
        bif (roomOk (R2.length + 1) 1) then
          G_skirmishref12_Visible_0 high r1 b0_0 b0_1 b0_2 b1_0 b1_1 m (R2 ++ [[(bo t1)]]) (wr (i + (1 : Int)))
        else
        none
      else
      bif (roomOk (R2.length + 1) 1) then
        G_skirmishref12_Visible_0 high r1 b0_0 b0_1 b0_2 b1_0 b1_1 m (R2 ++ [[(bo false)]]) (wr (i + (1 : Int)))
      else
      none
    else
    some R2
noncomputable def E17_0 (R2 : List (List AVal)) (high : Bool) (r1 : Int) (i : Int) (b0_0 : Int) (b0_1 : Int) (b0_2 : List (List AVal)) (b1_0 : Int) (b1_1 : Int) : St := ⟨[.dead, .dead, .dead, (.sc (.bool high)), (.ref 16000 1 0 0), (.ref 16016 1 0 0), .dead, .dead, .dead, (.sc (.int .i64 r1)), (.slc 28800 (R2).length), (.sc (.int .i64 i)), .dead, .dead, .dead, .dead, .dead, .dead, .dead, .dead, .dead, .dead, .dead, .dead, .dead, .dead, .dead, .dead, .dead, .dead, .dead, .dead, .dead, .dead, .dead, .dead, .dead, .dead, .dead, .dead, .dead, .dead, .dead, .dead, .dead, .dead, .dead, .dead, .dead, .dead, .dead, .dead, .dead, .dead, .dead, .dead, .dead, .dead, .dead, .dead, .dead, .dead, .dead, .dead, .dead, .dead, .dead, .dead, .dead, .dead, .dead, .dead, .dead, .dead, .dead, .dead, .dead], [(16000, ⟨.box, 24, 3, [[(.sc (.int .i64 b0_0)), (.sc (.int .i64 b0_1)), (.ro 3 b0_2)]]⟩), (16016, ⟨.box, 26, 2, [[(.sc (.int .i64 b1_0)), (.sc (.int .i64 b1_1))]]⟩), (28800, ⟨.arr, 4, 1, R2⟩)]⟩
noncomputable def X17_0 (k : Ex → St → Option CR) (t : List (List AVal)) : Option CR := k (.exit 0) ⟨[.dead, .dead, .dead, .dead, .dead, .dead, .dead, .dead, .dead, .dead, (.slc 28800 (t).length), .dead, .dead, .dead, .dead, .dead, .dead, .dead, .dead, .dead, .dead, .dead, .dead, .dead, .dead, .dead, .dead, .dead, .dead, .dead, .dead, .dead, .dead, .dead, .dead, .dead, .dead, .dead, .dead, .dead, .dead, .dead, .dead, .dead, .dead, .dead, .dead, .dead, .dead, .dead, .dead, .dead, .dead, .dead, .dead, .dead, .dead, .dead, .dead, .dead, .dead, .dead, .dead, .dead, .dead, .dead, .dead, .dead, .dead, .dead, .dead, .dead, .dead, .dead, .dead, .dead, .dead], [(28800, ⟨.arr, 4, 1, t⟩)]⟩
noncomputable def ks17_0 : List SK := [.f .dead, .f .dead, .f .dead, .f (.bool), .f (.ref 16000 1 0 0), .f (.ref 16016 1 0 0), .f .dead, .f .dead, .f .dead, .f (.int .i64), .f (.slc 28800 2), .f (.int .i64), .f .dead, .f .dead, .f .dead, .f .dead, .f .dead, .f .dead, .f .dead, .f .dead, .f .dead, .f .dead, .f .dead, .f .dead, .f .dead, .f .dead, .f .dead, .f .dead, .f .dead, .f .dead, .f .dead, .f .dead, .f .dead, .f .dead, .f .dead, .f .dead, .f .dead, .f .dead, .f .dead, .f .dead, .f .dead, .f .dead, .f .dead, .f .dead, .f .dead, .f .dead, .f .dead, .f .dead, .f .dead, .f .dead, .f .dead, .f .dead, .f .dead, .f .dead, .f .dead, .f .dead, .f .dead, .f .dead, .f .dead, .f .dead, .f .dead, .f .dead, .f .dead, .f .dead, .f .dead, .f .dead, .f .dead, .f .dead, .f .dead, .f .dead, .f .dead, .f .dead, .f .dead, .f .dead, .f .dead, .f .dead, .f .dead]
noncomputable def hs17_0 : List HK := [⟨16000, .box, 24, 3, some [.int .i64, .int .i64, .ro 3]⟩, ⟨16016, .box, 26, 2, some [.int .i64, .int .i64]⟩, ⟨28800, .arr, 4, 1, none⟩]
noncomputable def Lm17_0 (s : St) (k : Ex → St → Option CR) : Option CR := bif chkS ks17_0 hs17_0 s then (G_skirmishref12_Visible_0 (toB (cIa s.tmps 3)) (toI (cIa s.tmps 9)) (toI (cIa (rows0 (blkAt s.heap 0).2) 0)) (toI (cIa (rows0 (blkAt s.heap 0).2) 1)) (roRows (cIa (rows0 (blkAt s.heap 0).2) 2)) (toI (cIa (rows0 (blkAt s.heap 1).2) 0)) (toI (cIa (rows0 (blkAt s.heap 1).2) 1)) FU (blkAt s.heap 2).2.rows (toI (cIa s.tmps 11))).bind (X17_0 k) else none
noncomputable def L17_0 (s : St) (k : Ex → St → Option CR) : Option CR := Lm17_0 (maskS (maskOf ks17_0) s) k

noncomputable def L17 : LT' := fun i s k => bif Nat.beq i 0 then L17_0 s k else none

/-- 'skirmish/skirmishref12.Visible' -/
noncomputable def F_skirmishref12_Visible (m_W : Int) (m_H : Int) (m_Cells : List (List AVal)) (from__X : Int) (from__Y : Int) (radius : Int) (high : Bool) : Option (List (List AVal)) :=
  Option.bind (F_skirmishref07_Valid m_W m_H m_Cells) fun t =>
  bif (!t) then
    some []
  else
  Option.bind (F_skirmishref12_inside m_W m_H m_Cells from__X from__Y) fun t1 =>
  bif (!t1) then
    some []
  else
  bif (decide (radius < (0 : Int))) then
    some []
  else
  Option.bind (G_skirmishref12_Visible_0 high (minI radius (32 : Int)) m_W m_H m_Cells from__X from__Y FU [] (0 : Int)) fun t2 =>
  some t2
noncomputable def enc17 (t : List (List AVal)) : CR := ⟨true, (.slc 0 (t).length), [], [⟨.arr, 4, 1, t⟩]⟩
noncomputable def ks17 : List SK := [.agg [.int .i64, .int .i64, .ro 3], .agg [.int .i64, .int .i64], .f (.int .i64), .f (.bool)]
noncomputable def S17 (us : List AVal) : Call := bif chkA ks17 us then Call.of (F_skirmishref12_Visible (toI (cIa (aggL (cIa us 0)) 0)) (toI (cIa (aggL (cIa us 0)) 1)) (roRows (cIa (aggL (cIa us 0)) 2)) (toI (cIa (aggL (cIa us 1)) 0)) (toI (cIa (aggL (cIa us 1)) 1)) (toI (cIa us 2)) (toB (cIa us 3))) enc17 else Call.none
noncomputable def C17 := AI.ext 17 S17 C4

@[reducible] noncomputable def B17_0 := bodyOf TT TU GL0 C4 ownF L17 (lp Try.f17 0)
@[reducible] noncomputable def K17_0 (k : Ex → St → Option CR) : Ex → St → Option CR := fun e s => k e (maskS (W17_0 e) s)
theorem spec17_0 (k : Ex → St → Option CR) : ∀ (m : Nat) (R2 : List (List AVal)) (high : Bool) (r1 : Int) (i : Int) (b0_0 : Int) (b0_1 : Int) (b0_2 : List (List AVal)) (b1_0 : Int) (b1_1 : Int), loopN B17_0 m (E17_0 R2 high r1 i b0_0 b0_1 b0_2 b1_0 b1_1) (K17_0 k) = (G_skirmishref12_Visible_0 high r1 b0_0 b0_1 b0_2 b1_0 b1_1 m R2 i).bind (X17_0 k)
  | 0, _, _, _, _, _, _, _, _, _ => rfl
  | m + 1, R2, high, r1, i, b0_0, b0_1, b0_2, b1_0, b1_1 =>
    Eq.trans (b := (bif (decide (i < (wr (b0_0 * b0_1)))) then (Option.bind (F_skirmishref06_At b0_0 i) fun t => (bif (decide ((wr ((wr ((wr (t.1 - b1_0)) * (wr (t.1 - b1_0)))) + (wr ((wr (t.2 - b1_1)) * (wr (t.2 - b1_1)))))) ≤ (wr (r1 * r1)))) then (bif high then (bif (((verEq R2.length R2.length) && true) && (roomOk (R2.length + 1) 1)) then (loopN B17_0 m ⟨[.dead, .dead, .dead, (bo high), (AVal.ref 16000 1 0 0), (AVal.ref 16016 1 0 0), .dead, .dead, .dead, (i64 r1), (AVal.slc 28800 (R2 ++ [[(bo true)]]).length), (i64 (wr (i + (1 : Int)))), .dead, .dead, .dead, .dead, .dead, .dead, .dead, .dead, .dead, .dead, .dead, .dead, .dead, .dead, .dead, .dead, .dead, .dead, .dead, .dead, .dead, .dead, .dead, .dead, .dead, .dead, .dead, .dead, .dead, .dead, .dead, .dead, .dead, .dead, .dead, .dead, .dead, .dead, .dead, .dead, .dead, .dead, .dead, .dead, .dead, .dead, .dead, .dead, .dead, .dead, .dead, .dead, .dead, .dead, .dead, .dead, .dead, .dead, .dead, .dead, .dead, .dead, .dead, .dead, .dead], [(Prod.mk 16000 (Blk.mk BKind.box 24 3 [[(i64 b0_0), (i64 b0_1), (AVal.ro 3 b0_2)]])), (Prod.mk 16016 (Blk.mk BKind.box 26 2 [[(i64 b1_0), (i64 b1_1)]])), (Prod.mk 28800 (Blk.mk BKind.arr 4 1 (R2 ++ [[(bo true)]])))]⟩ (K17_0 k)) else none) else (Option.bind (F_skirmishref12_sees b0_0 b0_1 b0_2 b1_0 b1_1 t.1 t.2) fun t1 => (bif (((verEq R2.length R2.length) && true) && (roomOk (R2.length + 1) 1)) then (loopN B17_0 m ⟨[.dead, .dead, .dead, (bo high), (AVal.ref 16000 1 0 0), (AVal.ref 16016 1 0 0), .dead, .dead, .dead, (i64 r1), (AVal.slc 28800 (R2 ++ [[(bo t1)]]).length), (i64 (wr (i + (1 : Int)))), .dead, .dead, .dead, .dead, .dead, .dead, .dead, .dead, .dead, .dead, .dead, .dead, .dead, .dead, .dead, .dead, .dead, .dead, .dead, .dead, .dead, .dead, .dead, .dead, .dead, .dead, .dead, .dead, .dead, .dead, .dead, .dead, .dead, .dead, .dead, .dead, .dead, .dead, .dead, .dead, .dead, .dead, .dead, .dead, .dead, .dead, .dead, .dead, .dead, .dead, .dead, .dead, .dead, .dead, .dead, .dead, .dead, .dead, .dead, .dead, .dead, .dead, .dead, .dead, .dead], [(Prod.mk 16000 (Blk.mk BKind.box 24 3 [[(i64 b0_0), (i64 b0_1), (AVal.ro 3 b0_2)]])), (Prod.mk 16016 (Blk.mk BKind.box 26 2 [[(i64 b1_0), (i64 b1_1)]])), (Prod.mk 28800 (Blk.mk BKind.arr 4 1 (R2 ++ [[(bo t1)]])))]⟩ (K17_0 k)) else none))) else (bif (((verEq R2.length R2.length) && true) && (roomOk (R2.length + 1) 1)) then (loopN B17_0 m ⟨[.dead, .dead, .dead, (bo high), (AVal.ref 16000 1 0 0), (AVal.ref 16016 1 0 0), .dead, .dead, .dead, (i64 r1), (AVal.slc 28800 (R2 ++ [[(bo false)]]).length), (i64 (wr (i + (1 : Int)))), .dead, .dead, .dead, .dead, .dead, .dead, .dead, .dead, .dead, .dead, .dead, .dead, .dead, .dead, .dead, .dead, .dead, .dead, .dead, .dead, .dead, .dead, .dead, .dead, .dead, .dead, .dead, .dead, .dead, .dead, .dead, .dead, .dead, .dead, .dead, .dead, .dead, .dead, .dead, .dead, .dead, .dead, .dead, .dead, .dead, .dead, .dead, .dead, .dead, .dead, .dead, .dead, .dead, .dead, .dead, .dead, .dead, .dead, .dead, .dead, .dead, .dead, .dead, .dead, .dead], [(Prod.mk 16000 (Blk.mk BKind.box 24 3 [[(i64 b0_0), (i64 b0_1), (AVal.ro 3 b0_2)]])), (Prod.mk 16016 (Blk.mk BKind.box 26 2 [[(i64 b1_0), (i64 b1_1)]])), (Prod.mk 28800 (Blk.mk BKind.arr 4 1 (R2 ++ [[(bo false)]])))]⟩ (K17_0 k)) else none))) else (k (.exit 0) ⟨[.dead, .dead, .dead, .dead, .dead, .dead, .dead, .dead, .dead, .dead, (AVal.slc 28800 R2.length), .dead, .dead, .dead, .dead, .dead, .dead, .dead, .dead, .dead, .dead, .dead, .dead, .dead, .dead, .dead, .dead, .dead, .dead, .dead, .dead, .dead, .dead, .dead, .dead, .dead, .dead, .dead, .dead, .dead, .dead, .dead, .dead, .dead, .dead, .dead, .dead, .dead, .dead, .dead, .dead, .dead, .dead, .dead, .dead, .dead, .dead, .dead, .dead, .dead, .dead, .dead, .dead, .dead, .dead, .dead, .dead, .dead, .dead, .dead, .dead, .dead, .dead, .dead, .dead, .dead, .dead], [(Prod.mk 28800 (Blk.mk BKind.arr 4 1 R2))]⟩))) (by kernel_rfl)
      (n_condH rfl (fun h0 => (n_bind fun t => (n_condH rfl (fun h1 => (n_condH rfl (fun h2 => (n_condH (n_andL (n_andL (verEq_rfl _) rfl) rfl) (fun h3 => (spec17_0 k m (R2 ++ [[(bo true)]]) high r1 (wr (i + (1 : Int))) b0_0 b0_1 b0_2 b1_0 b1_1)) fun h3 => n_none)) fun h2 => (n_bind fun t1 => (n_condH (n_andL (n_andL (verEq_rfl _) rfl) rfl) (fun h3 => (spec17_0 k m (R2 ++ [[(bo t1)]]) high r1 (wr (i + (1 : Int))) b0_0 b0_1 b0_2 b1_0 b1_1)) fun h3 => n_none)))) fun h1 => (n_condH (n_andL (n_andL (verEq_rfl _) rfl) rfl) (fun h2 => (spec17_0 k m (R2 ++ [[(bo false)]]) high r1 (wr (i + (1 : Int))) b0_0 b0_1 b0_2 b1_0 b1_1)) fun h2 => n_none)))) fun h0 => rfl)
theorem okL17_0 : LoopOk TT TU GL0 C4 ownF L17 (lp Try.f17 0) :=
  loopOk_of ks17_0 hs17_0 W17_0 FU (fun s k => (G_skirmishref12_Visible_0 (toB (cIa s.tmps 3)) (toI (cIa s.tmps 9)) (toI (cIa (rows0 (blkAt s.heap 0).2) 0)) (toI (cIa (rows0 (blkAt s.heap 0).2) 1)) (roRows (cIa (rows0 (blkAt s.heap 0).2) 2)) (toI (cIa (rows0 (blkAt s.heap 1).2) 0)) (toI (cIa (rows0 (blkAt s.heap 1).2) 1)) FU (blkAt s.heap 2).2.rows (toI (cIa s.tmps 11))).bind (X17_0 k)) (fun s k => by kernel_rfl) (fun s k => spec17_0 k FU (blkAt s.heap 2).2.rows (toB (cIa s.tmps 3)) (toI (cIa s.tmps 9)) (toI (cIa s.tmps 11)) (toI (cIa (rows0 (blkAt s.heap 0).2) 0)) (toI (cIa (rows0 (blkAt s.heap 0).2) 1)) (roRows (cIa (rows0 (blkAt s.heap 0).2) 2)) (toI (cIa (rows0 (blkAt s.heap 1).2) 0)) (toI (cIa (rows0 (blkAt s.heap 1).2) 1)))
theorem run17 (m_W : Int) (m_H : Int) (m_Cells : List (List AVal)) (from__X : Int) (from__Y : Int) (radius : Int) (high : Bool) : fcall TT TU GL0 C4 ownF true L17 Try.f17 [(.agg [(.sc (.int .i64 m_W)), (.sc (.int .i64 m_H)), (.ro 3 m_Cells)]), (.agg [(.sc (.int .i64 from__X)), (.sc (.int .i64 from__Y))]), (.sc (.int .i64 radius)), (.sc (.bool high))] = (F_skirmishref12_Visible m_W m_H m_Cells from__X from__Y radius high).bind fun t => some (enc17 t) :=
  Eq.trans (b := (Option.bind (F_skirmishref07_Valid m_W m_H m_Cells) fun t => (bif (!t) then (some (CR.mk true (AVal.slc 0 0) [] [(Blk.mk BKind.arr 4 1 [])])) else (Option.bind (F_skirmishref12_inside m_W m_H m_Cells from__X from__Y) fun t1 => (bif (!t1) then (some (CR.mk true (AVal.slc 0 0) [] [(Blk.mk BKind.arr 4 1 [])])) else (bif (decide (radius < (0 : Int))) then (some (CR.mk true (AVal.slc 0 0) [] [(Blk.mk BKind.arr 4 1 [])])) else (Option.bind (G_skirmishref12_Visible_0 high (minI radius (32 : Int)) m_W m_H m_Cells from__X from__Y FU [] (0 : Int)) fun t2 => (bif (verEq t2.length t2.length) then (some (CR.mk true (AVal.slc 0 t2.length) [] [(Blk.mk BKind.arr 4 1 t2)])) else none)))))))) (by kernel_rfl)
    (n_bind fun t => (n_condH rfl (fun h0 => rfl) fun h0 => (n_bind fun t1 => (n_condH rfl (fun h1 => rfl) fun h1 => (n_condH rfl (fun h2 => rfl) fun h2 => (n_bind fun t2 => (n_true (verEq_rfl _) rfl)))))))
theorem lib17 : Lib Try.prog GL0 C17 :=
  Lib.fn lib4 mixed TT_ok Try.func17 (by decide +kernel) (by kernel_rfl) true L17 (loops_of 1 (by kernel_rfl) (belowS below0 okL17_0)) ks17 (F := fun us => F_skirmishref12_Visible (toI (cIa (aggL (cIa us 0)) 0)) (toI (cIa (aggL (cIa us 0)) 1)) (roRows (cIa (aggL (cIa us 0)) 2)) (toI (cIa (aggL (cIa us 1)) 0)) (toI (cIa (aggL (cIa us 1)) 1)) (toI (cIa us 2)) (toB (cIa us 3))) (fun us => rfl) (fun us => run17 (toI (cIa (aggL (cIa us 0)) 0)) (toI (cIa (aggL (cIa us 0)) 1)) (roRows (cIa (aggL (cIa us 0)) 2)) (toI (cIa (aggL (cIa us 1)) 0)) (toI (cIa (aggL (cIa us 1)) 1)) (toI (cIa us 2)) (toB (cIa us 3))) (fun t => rfl)

/-! ### 15: skirmish/skirmishref12.Same -/

noncomputable def W15_0 : Ex → List Bool
  | .ret => [false, false, false, false, true, false, false, false, false, false, false, false, false, false, false, false, false, false, false, false, false, false, false, false, false, false]
  | .exit n => bif Nat.beq n 0 then [false, false, false, false, false, false, false, false, false, false, false, false, false, false, false, false, false, false, false, false, false, false, false, false, false, false] else []
  | .normal => []
noncomputable def G_skirmishref12_Same_0 (a : List (List AVal)) (b : List (List AVal)) : Nat → Int → Option (Bool)
  | 0, _ => none
  | m + 1, i =>
    bif (decide (i < (Int.ofNat a.length))) then
      bif (decide ((0 : Int) ≤ i)) then
        Option.bind (a[i.toNat]?) fun r =>
        bif (chk [LT.bool] r) then
          Option.bind (b[i.toNat]?) fun r1 =>
          bif (chk [LT.bool] r1) then
            bif (!((cB r 0) == (cB r1 0))) then
              some true
            else
            G_skirmishref12_Same_0 a b m (wr (i + (1 : Int)))
          else
          none
        else
        none
      else
      none
    else
    some false
noncomputable def E15_0 (a : List (List AVal)) (b : List (List AVal)) (i : Int) : St := ⟨[(.ro 1 a), (.ro 1 b), .dead, .dead, .dead, (.sc (.int .i64 i)), .dead, .dead, .dead, .dead, .dead, .dead, .dead, .dead, .dead, .dead, .dead, .dead, .dead, .dead, .dead, .dead, .dead, .dead, .dead, .dead], []⟩
noncomputable def X15_0 (k : Ex → St → Option CR) (t : Bool) : Option CR := bif t then k .ret ⟨[.dead, .dead, .dead, .dead, (.sc (.bool false)), .dead, .dead, .dead, .dead, .dead, .dead, .dead, .dead, .dead, .dead, .dead, .dead, .dead, .dead, .dead, .dead, .dead, .dead, .dead, .dead, .dead], []⟩ else k (.exit 0) ⟨[.dead, .dead, .dead, .dead, .dead, .dead, .dead, .dead, .dead, .dead, .dead, .dead, .dead, .dead, .dead, .dead, .dead, .dead, .dead, .dead, .dead, .dead, .dead, .dead, .dead, .dead], []⟩
noncomputable def ks15_0 : List SK := [.f (.ro 1), .f (.ro 1), .f .dead, .f .dead, .f .dead, .f (.int .i64), .f .dead, .f .dead, .f .dead, .f .dead, .f .dead, .f .dead, .f .dead, .f .dead, .f .dead, .f .dead, .f .dead, .f .dead, .f .dead, .f .dead, .f .dead, .f .dead, .f .dead, .f .dead, .f .dead, .f .dead]
noncomputable def hs15_0 : List HK := []
noncomputable def Lm15_0 (s : St) (k : Ex → St → Option CR) : Option CR := bif chkS ks15_0 hs15_0 s then (G_skirmishref12_Same_0 (roRows (cIa s.tmps 0)) (roRows (cIa s.tmps 1)) FU (toI (cIa s.tmps 5))).bind (X15_0 k) else none
noncomputable def L15_0 (s : St) (k : Ex → St → Option CR) : Option CR := Lm15_0 (maskS (maskOf ks15_0) s) k

noncomputable def L15 : LT' := fun i s k => bif Nat.beq i 0 then L15_0 s k else none

/-- 'skirmish/skirmishref12.Same' -/
noncomputable def F_skirmishref12_Same (a : List (List AVal)) (b : List (List AVal)) : Option (Bool) :=
  bif ((Int.ofNat a.length) != (Int.ofNat b.length)) then
    some false
  else
  Option.bind (G_skirmishref12_Same_0 a b FU (0 : Int)) fun t =>
  bif t then
    some false
  else
  some true
noncomputable def enc15 (t : Bool) : CR := ⟨true, (.sc (.bool t)), [], []⟩
noncomputable def ks15 : List SK := [.f (.ro 1), .f (.ro 1)]
noncomputable def S15 (us : List AVal) : Call := bif chkA ks15 us then Call.of (F_skirmishref12_Same (roRows (cIa us 0)) (roRows (cIa us 1))) enc15 else Call.none
noncomputable def C15 := AI.ext 15 S15 C17

@[reducible] noncomputable def B15_0 := bodyOf TT TU GL0 C17 ownF L15 (lp Try.f15 0)
@[reducible] noncomputable def K15_0 (k : Ex → St → Option CR) : Ex → St → Option CR := fun e s => k e (maskS (W15_0 e) s)
theorem spec15_0 (k : Ex → St → Option CR) : ∀ (m : Nat) (a : List (List AVal)) (b : List (List AVal)) (i : Int), loopN B15_0 m (E15_0 a b i) (K15_0 k) = (G_skirmishref12_Same_0 a b m i).bind (X15_0 k)
  | 0, _, _, _ => rfl
  | m + 1, a, b, i =>
    Eq.trans (b := (bif (decide (i < (Int.ofNat a.length))) then (bif (decide ((0 : Int) ≤ i)) then (Option.bind (a[i.toNat]?) fun r => (bif (chk [LT.bool] r) then (bif (decide ((0 : Int) ≤ i)) then (Option.bind (b[i.toNat]?) fun r1 => (bif (chk [LT.bool] r1) then (bif (!((cB r 0) == (cB r1 0))) then (k .ret ⟨[.dead, .dead, .dead, .dead, (bo false), .dead, .dead, .dead, .dead, .dead, .dead, .dead, .dead, .dead, .dead, .dead, .dead, .dead, .dead, .dead, .dead, .dead, .dead, .dead, .dead, .dead], []⟩) else (loopN B15_0 m ⟨[(AVal.ro 1 a), (AVal.ro 1 b), .dead, .dead, .dead, (i64 (wr (i + (1 : Int)))), .dead, .dead, .dead, .dead, .dead, .dead, .dead, .dead, .dead, .dead, .dead, .dead, .dead, .dead, .dead, .dead, .dead, .dead, .dead, .dead], []⟩ (K15_0 k))) else none)) else none) else none)) else none) else (k (.exit 0) ⟨[.dead, .dead, .dead, .dead, .dead, .dead, .dead, .dead, .dead, .dead, .dead, .dead, .dead, .dead, .dead, .dead, .dead, .dead, .dead, .dead, .dead, .dead, .dead, .dead, .dead, .dead], []⟩))) (by kernel_rfl)
      (n_condH rfl (fun h0 => (n_condH rfl (fun h1 => (n_bind fun r => (n_condH rfl (fun h2 => (n_true h1 (n_bind fun r1 => (n_condH rfl (fun h3 => (n_condH rfl (fun h4 => rfl) fun h4 => (spec15_0 k m a b (wr (i + (1 : Int)))))) fun h3 => n_none)))) fun h2 => n_none))) fun h1 => n_none)) fun h0 => rfl)
theorem okL15_0 : LoopOk TT TU GL0 C17 ownF L15 (lp Try.f15 0) :=
  loopOk_of ks15_0 hs15_0 W15_0 FU (fun s k => (G_skirmishref12_Same_0 (roRows (cIa s.tmps 0)) (roRows (cIa s.tmps 1)) FU (toI (cIa s.tmps 5))).bind (X15_0 k)) (fun s k => by kernel_rfl) (fun s k => spec15_0 k FU (roRows (cIa s.tmps 0)) (roRows (cIa s.tmps 1)) (toI (cIa s.tmps 5)))
theorem run15 (a : List (List AVal)) (b : List (List AVal)) : fcall TT TU GL0 C17 ownF true L15 Try.f15 [(.ro 1 a), (.ro 1 b)] = (F_skirmishref12_Same a b).bind fun t => some (enc15 t) :=
  Eq.trans (b := (bif ((Int.ofNat a.length) != (Int.ofNat b.length)) then (some (CR.mk true (bo false) [] [])) else (Option.bind (G_skirmishref12_Same_0 a b FU (0 : Int)) fun t => (bif t then (some (CR.mk true (bo false) [] [])) else (some (CR.mk true (bo true) [] [])))))) (by kernel_rfl)
    (n_condH rfl (fun h0 => rfl) fun h0 => (n_bind fun t => (n_condH rfl (fun h1 => rfl) fun h1 => rfl)))
theorem lib15 : Lib Try.prog GL0 C15 :=
  Lib.fn lib17 mixed TT_ok Try.func15 (by decide +kernel) (by kernel_rfl) true L15 (loops_of 1 (by kernel_rfl) (belowS below0 okL15_0)) ks15 (F := fun us => F_skirmishref12_Same (roRows (cIa us 0)) (roRows (cIa us 1))) (fun us => rfl) (fun us => run15 (roRows (cIa us 0)) (roRows (cIa us 1))) (fun t => rfl)

/-! ### 5: skirmish/skirmishlaw12.ShadowVisible -/



/-- 'skirmish/skirmishlaw12.ShadowVisible' -/
noncomputable def F_skirmishlaw12_ShadowVisible (m_W : Int) (m_H : Int) (m_Cells : List (List AVal)) (from__X : Int) (from__Y : Int) (radius : Int) (high : Bool) : Option (Bool) :=
  bif (decide ((Int.ofNat m_Cells.length) > (1024 : Int))) then
    Option.bind F_skirmishlaw12_awake fun t =>
    some t
  else
  Option.bind (F_shadow_Visible m_W m_H m_Cells from__X from__Y radius high) fun t1 =>
  Option.bind (F_skirmishref12_Visible m_W m_H m_Cells from__X from__Y radius high) fun t2 =>
  Option.bind (F_skirmishref12_Same t1 t2) fun t3 =>
  bif t3 then
    Option.bind F_skirmishlaw12_awake fun t4 =>
    some t4
  else
  some false
noncomputable def enc5 (t : Bool) : CR := ⟨true, (.sc (.bool t)), [], []⟩
noncomputable def ks5 : List SK := [.agg [.int .i64, .int .i64, .ro 3], .agg [.int .i64, .int .i64], .f (.int .i64), .f (.bool)]
noncomputable def S5 (us : List AVal) : Call := bif chkA ks5 us then Call.of (F_skirmishlaw12_ShadowVisible (toI (cIa (aggL (cIa us 0)) 0)) (toI (cIa (aggL (cIa us 0)) 1)) (roRows (cIa (aggL (cIa us 0)) 2)) (toI (cIa (aggL (cIa us 1)) 0)) (toI (cIa (aggL (cIa us 1)) 1)) (toI (cIa us 2)) (toB (cIa us 3))) enc5 else Call.none
noncomputable def C5 := AI.ext 5 S5 C15

theorem run5 (m_W : Int) (m_H : Int) (m_Cells : List (List AVal)) (from__X : Int) (from__Y : Int) (radius : Int) (high : Bool) : fcall TT TU GL0 C15 ownF true noL Try.f5 [(.agg [(.sc (.int .i64 m_W)), (.sc (.int .i64 m_H)), (.ro 3 m_Cells)]), (.agg [(.sc (.int .i64 from__X)), (.sc (.int .i64 from__Y))]), (.sc (.int .i64 radius)), (.sc (.bool high))] = (F_skirmishlaw12_ShadowVisible m_W m_H m_Cells from__X from__Y radius high).bind fun t => some (enc5 t) :=
  Eq.trans (b := (bif (decide ((Int.ofNat m_Cells.length) > (1024 : Int))) then (Option.bind F_skirmishlaw12_awake fun t => (some (CR.mk true (bo t) [] []))) else (Option.bind (F_shadow_Visible m_W m_H m_Cells from__X from__Y radius high) fun t1 => (bif ((((true && (verEq t1.length t1.length)) && true) && true) && true) then (Option.bind (F_skirmishref12_Visible m_W m_H m_Cells from__X from__Y radius high) fun t2 => (bif ((((true && (verEq t2.length t2.length)) && true) && true) && true) then (bif (verEq t1.length t1.length) then (bif (verEq t2.length t2.length) then (Option.bind (F_skirmishref12_Same t1 t2) fun t3 => (bif t3 then (Option.bind F_skirmishlaw12_awake fun t4 => (some (CR.mk true (bo t4) [] []))) else (some (CR.mk true (bo false) [] [])))) else none) else none) else none)) else none)))) (by kernel_rfl)
    (n_condH rfl (fun h0 => (n_bind fun t => rfl)) fun h0 => (n_bind fun t1 => (n_true (n_andL (n_andL (n_andL (n_andL rfl (verEq_rfl _)) rfl) rfl) rfl) (n_bind fun t2 => (n_true (n_andL (n_andL (n_andL (n_andL rfl (verEq_rfl _)) rfl) rfl) rfl) (n_true (verEq_rfl _) (n_true (verEq_rfl _) (n_bind fun t3 => (n_condH rfl (fun h1 => (n_bind fun t4 => rfl)) fun h1 => rfl)))))))))
theorem lib5 : Lib Try.prog GL0 C5 :=
  Lib.fn lib15 mixed TT_ok Try.func5 (by decide +kernel) (by kernel_rfl) true noL (loops_of 0 (by kernel_rfl) below0) ks5 (F := fun us => F_skirmishlaw12_ShadowVisible (toI (cIa (aggL (cIa us 0)) 0)) (toI (cIa (aggL (cIa us 0)) 1)) (roRows (cIa (aggL (cIa us 0)) 2)) (toI (cIa (aggL (cIa us 1)) 0)) (toI (cIa (aggL (cIa us 1)) 1)) (toI (cIa us 2)) (toB (cIa us 3))) (fun us => rfl) (fun us => run5 (toI (cIa (aggL (cIa us 0)) 0)) (toI (cIa (aggL (cIa us 0)) 1)) (roRows (cIa (aggL (cIa us 0)) 2)) (toI (cIa (aggL (cIa us 1)) 0)) (toI (cIa (aggL (cIa us 1)) 1)) (toI (cIa us 2)) (toB (cIa us 3))) (fun t => rfl)

/-! ### 19: skirmish/skirmishref12.Union -/

noncomputable def W19_0 : Ex → List Bool
  | .ret => [false, false, false, false, true, false, false, false, false, false, false, false, false, false, false, false, false, false, false, false, false, false, false, false, false, false, false, false, false, false, false, false, false, false, false, false, false, false, false, false, false, false]
  | .exit n => bif Nat.beq n 0 then [false, false, false, false, false, true, false, false, false, false, false, false, false, false, false, false, false, false, false, false, false, false, false, false, false, false, false, false, false, false, false, false, false, false, false, false, false, false, false, false, false, false] else []
  | .normal => []
noncomputable def G_skirmishref12_Union_0 (a : List (List AVal)) (b : List (List AVal)) : Nat → List (List AVal) → Int → Option (List (List AVal))
  | 0, _, _ => none
  | m + 1, R0, i =>
    bif (decide (i < (maxI (Int.ofNat a.length) (Int.ofNat b.length)))) then
      bif (decide (i < (Int.ofNat a.length))) then
        bif (decide ((0 : Int) ≤ i)) then
          Option.bind (a[i.toNat]?) fun r =>
          bif (chk [LT.bool] r) then
            bif (cB r 0) then
              bif (roomOk (R0.length + 1) 1) then
                G_skirmishref12_Union_0 a b m (R0 ++ [[(bo true)]]) (wr (i + (1 : Int)))
              else
              none
            else
            bif (decide (i < (Int.ofNat b.length))) then
              Option.bind (b[i.toNat]?) fun r1 =>
              bif (chk [LT.bool] r1) then
                bif (roomOk (R0.length + 1) 1) then
                  G_skirmishref12_Union_0 a b m (R0 ++ [[(bo (cB r1 0))]]) (wr (i + (1 : Int)))
                else
                none
              else
              none
            else
            bif (roomOk (R0.length + 1) 1) then
              G_skirmishref12_Union_0 a b m (R0 ++ [[(bo false)]]) (wr (i + (1 : Int)))
            else
            none
          else
          none
        else
        none
      else
      bif (decide (i < (Int.ofNat b.length))) then
        bif (decide ((0 : Int) ≤ i)) then
          Option.bind (b[i.toNat]?) fun r2 =>
          bif (chk [LT.bool] r2) then
            bif (roomOk (R0.length + 1) 1) then
              G_skirmishref12_Union_0 a b m (R0 ++ [[(bo (cB r2 0))]]) (wr (i + (1 : Int)))
            else
            none
          else
          none
        else
        none
      else
      bif (roomOk (R0.length + 1) 1) then
        G_skirmishref12_Union_0 a b m (R0 ++ [[(bo false)]]) (wr (i + (1 : Int)))
      else
      none
    else
    some R0
noncomputable def E19_0 (R0 : List (List AVal)) (a : List (List AVal)) (b : List (List AVal)) (i : Int) : St := ⟨[(.ro 1 a), (.ro 1 b), .dead, .dead, .dead, (.slc 19200 (R0).length), (.sc (.int .i64 i)), .dead, .dead, .dead, .dead, .dead, .dead, .dead, .dead, .dead, .dead, .dead, .dead, .dead, .dead, .dead, .dead, .dead, .dead, .dead, .dead, .dead, .dead, .dead, .dead, .dead, .dead, .dead, .dead, .dead, .dead, .dead, .dead, .dead, .dead, .dead], [(19200, ⟨.arr, 4, 1, R0⟩)]⟩
noncomputable def X19_0 (k : Ex → St → Option CR) (t : List (List AVal)) : Option CR := k (.exit 0) ⟨[.dead, .dead, .dead, .dead, .dead, (.slc 19200 (t).length), .dead, .dead, .dead, .dead, .dead, .dead, .dead, .dead, .dead, .dead, .dead, .dead, .dead, .dead, .dead, .dead, .dead, .dead, .dead, .dead, .dead, .dead, .dead, .dead, .dead, .dead, .dead, .dead, .dead, .dead, .dead, .dead, .dead, .dead, .dead, .dead], [(19200, ⟨.arr, 4, 1, t⟩)]⟩
noncomputable def ks19_0 : List SK := [.f (.ro 1), .f (.ro 1), .f .dead, .f .dead, .f .dead, .f (.slc 19200 0), .f (.int .i64), .f .dead, .f .dead, .f .dead, .f .dead, .f .dead, .f .dead, .f .dead, .f .dead, .f .dead, .f .dead, .f .dead, .f .dead, .f .dead, .f .dead, .f .dead, .f .dead, .f .dead, .f .dead, .f .dead, .f .dead, .f .dead, .f .dead, .f .dead, .f .dead, .f .dead, .f .dead, .f .dead, .f .dead, .f .dead, .f .dead, .f .dead, .f .dead, .f .dead, .f .dead, .f .dead]
noncomputable def hs19_0 : List HK := [⟨19200, .arr, 4, 1, none⟩]
noncomputable def Lm19_0 (s : St) (k : Ex → St → Option CR) : Option CR := bif chkS ks19_0 hs19_0 s then (G_skirmishref12_Union_0 (roRows (cIa s.tmps 0)) (roRows (cIa s.tmps 1)) FU (blkAt s.heap 0).2.rows (toI (cIa s.tmps 6))).bind (X19_0 k) else none
noncomputable def L19_0 (s : St) (k : Ex → St → Option CR) : Option CR := Lm19_0 (maskS (maskOf ks19_0) s) k

noncomputable def L19 : LT' := fun i s k => bif Nat.beq i 0 then L19_0 s k else none

/-- 'skirmish/skirmishref12.Union' -/
noncomputable def F_skirmishref12_Union (a : List (List AVal)) (b : List (List AVal)) : Option (List (List AVal)) :=
  Option.bind (G_skirmishref12_Union_0 a b FU [] (0 : Int)) fun t =>
  some t
noncomputable def enc19 (t : List (List AVal)) : CR := ⟨true, (.slc 0 (t).length), [], [⟨.arr, 4, 1, t⟩]⟩
noncomputable def ks19 : List SK := [.f (.ro 1), .f (.ro 1)]
noncomputable def S19 (us : List AVal) : Call := bif chkA ks19 us then Call.of (F_skirmishref12_Union (roRows (cIa us 0)) (roRows (cIa us 1))) enc19 else Call.none
noncomputable def C19 := AI.ext 19 S19 C5

@[reducible] noncomputable def B19_0 := bodyOf TT TU GL0 C5 ownF L19 (lp Try.f19 0)
@[reducible] noncomputable def K19_0 (k : Ex → St → Option CR) : Ex → St → Option CR := fun e s => k e (maskS (W19_0 e) s)
theorem spec19_0 (k : Ex → St → Option CR) : ∀ (m : Nat) (R0 : List (List AVal)) (a : List (List AVal)) (b : List (List AVal)) (i : Int), loopN B19_0 m (E19_0 R0 a b i) (K19_0 k) = (G_skirmishref12_Union_0 a b m R0 i).bind (X19_0 k)
  | 0, _, _, _, _ => rfl
  | m + 1, R0, a, b, i =>
    Eq.trans (b := (bif (decide (i < (maxI (Int.ofNat a.length) (Int.ofNat b.length)))) then (bif (decide (i < (Int.ofNat a.length))) then (bif (decide ((0 : Int) ≤ i)) then (Option.bind (a[i.toNat]?) fun r => (bif (chk [LT.bool] r) then (bif (cB r 0) then (bif (((verEq R0.length R0.length) && true) && (roomOk (R0.length + 1) 1)) then (loopN B19_0 m ⟨[(AVal.ro 1 a), (AVal.ro 1 b), .dead, .dead, .dead, (AVal.slc 19200 (R0 ++ [[(bo true)]]).length), (i64 (wr (i + (1 : Int)))), .dead, .dead, .dead, .dead, .dead, .dead, .dead, .dead, .dead, .dead, .dead, .dead, .dead, .dead, .dead, .dead, .dead, .dead, .dead, .dead, .dead, .dead, .dead, .dead, .dead, .dead, .dead, .dead, .dead, .dead, .dead, .dead, .dead, .dead, .dead], [(Prod.mk 19200 (Blk.mk BKind.arr 4 1 (R0 ++ [[(bo true)]])))]⟩ (K19_0 k)) else none) else (bif (decide (i < (Int.ofNat b.length))) then (bif (decide ((0 : Int) ≤ i)) then (Option.bind (b[i.toNat]?) fun r1 => (bif (chk [LT.bool] r1) then (bif (((verEq R0.length R0.length) && true) && (roomOk (R0.length + 1) 1)) then (loopN B19_0 m ⟨[(AVal.ro 1 a), (AVal.ro 1 b), .dead, .dead, .dead, (AVal.slc 19200 (R0 ++ [[(bo (cB r1 0))]]).length), (i64 (wr (i + (1 : Int)))), .dead, .dead, .dead, .dead, .dead, .dead, .dead, .dead, .dead, .dead, .dead, .dead, .dead, .dead, .dead, .dead, .dead, .dead, .dead, .dead, .dead, .dead, .dead, .dead, .dead, .dead, .dead, .dead, .dead, .dead, .dead, .dead, .dead, .dead, .dead], [(Prod.mk 19200 (Blk.mk BKind.arr 4 1 (R0 ++ [[(bo (cB r1 0))]])))]⟩ (K19_0 k)) else none) else none)) else none) else (bif (((verEq R0.length R0.length) && true) && (roomOk (R0.length + 1) 1)) then (loopN B19_0 m ⟨[(AVal.ro 1 a), (AVal.ro 1 b), .dead, .dead, .dead, (AVal.slc 19200 (R0 ++ [[(bo false)]]).length), (i64 (wr (i + (1 : Int)))), .dead, .dead, .dead, .dead, .dead, .dead, .dead, .dead, .dead, .dead, .dead, .dead, .dead, .dead, .dead, .dead, .dead, .dead, .dead, .dead, .dead, .dead, .dead, .dead, .dead, .dead, .dead, .dead, .dead, .dead, .dead, .dead, .dead, .dead, .dead], [(Prod.mk 19200 (Blk.mk BKind.arr 4 1 (R0 ++ [[(bo false)]])))]⟩ (K19_0 k)) else none))) else none)) else none) else (bif (decide (i < (Int.ofNat b.length))) then (bif (decide ((0 : Int) ≤ i)) then (Option.bind (b[i.toNat]?) fun r2 => (bif (chk [LT.bool] r2) then (bif (((verEq R0.length R0.length) && true) && (roomOk (R0.length + 1) 1)) then (loopN B19_0 m ⟨[(AVal.ro 1 a), (AVal.ro 1 b), .dead, .dead, .dead, (AVal.slc 19200 (R0 ++ [[(bo (cB r2 0))]]).length), (i64 (wr (i + (1 : Int)))), .dead, .dead, .dead, .dead, .dead, .dead, .dead, .dead, .dead, .dead, .dead, .dead, .dead, .dead, .dead, .dead, .dead, .dead, .dead, .dead, .dead, .dead, .dead, .dead, .dead, .dead, .dead, .dead, .dead, .dead, .dead, .dead, .dead, .dead, .dead], [(Prod.mk 19200 (Blk.mk BKind.arr 4 1 (R0 ++ [[(bo (cB r2 0))]])))]⟩ (K19_0 k)) else none) else none)) else none) else (bif (((verEq R0.length R0.length) && true) && (roomOk (R0.length + 1) 1)) then (loopN B19_0 m ⟨[(AVal.ro 1 a), (AVal.ro 1 b), .dead, .dead, .dead, (AVal.slc 19200 (R0 ++ [[(bo false)]]).length), (i64 (wr (i + (1 : Int)))), .dead, .dead, .dead, .dead, .dead, .dead, .dead, .dead, .dead, .dead, .dead, .dead, .dead, .dead, .dead, .dead, .dead, .dead, .dead, .dead, .dead, .dead, .dead, .dead, .dead, .dead, .dead, .dead, .dead, .dead, .dead, .dead, .dead, .dead, .dead], [(Prod.mk 19200 (Blk.mk BKind.arr 4 1 (R0 ++ [[(bo false)]])))]⟩ (K19_0 k)) else none))) else (k (.exit 0) ⟨[.dead, .dead, .dead, .dead, .dead, (AVal.slc 19200 R0.length), .dead, .dead, .dead, .dead, .dead, .dead, .dead, .dead, .dead, .dead, .dead, .dead, .dead, .dead, .dead, .dead, .dead, .dead, .dead, .dead, .dead, .dead, .dead, .dead, .dead, .dead, .dead, .dead, .dead, .dead, .dead, .dead, .dead, .dead, .dead, .dead], [(Prod.mk 19200 (Blk.mk BKind.arr 4 1 R0))]⟩))) (by kernel_rfl)
      (n_condH rfl (fun h0 => (n_condH rfl (fun h1 => (n_condH rfl (fun h2 => (n_bind fun r => (n_condH rfl (fun h3 => (n_condH rfl (fun h4 => (n_condH (n_andL (n_andL (verEq_rfl _) rfl) rfl) (fun h5 => (spec19_0 k m (R0 ++ [[(bo true)]]) a b (wr (i + (1 : Int))))) fun h5 => n_none)) fun h4 => (n_condH rfl (fun h5 => (n_true h2 (n_bind fun r1 => (n_condH rfl (fun h6 => (n_condH (n_andL (n_andL (verEq_rfl _) rfl) rfl) (fun h7 => (spec19_0 k m (R0 ++ [[(bo (cB r1 0))]]) a b (wr (i + (1 : Int))))) fun h7 => n_none)) fun h6 => n_none)))) fun h5 => (n_condH (n_andL (n_andL (verEq_rfl _) rfl) rfl) (fun h6 => (spec19_0 k m (R0 ++ [[(bo false)]]) a b (wr (i + (1 : Int))))) fun h6 => n_none)))) fun h3 => n_none))) fun h2 => n_none)) fun h1 => (n_condH rfl (fun h2 => (n_condH rfl (fun h3 => (n_bind fun r2 => (n_condH rfl (fun h4 => (n_condH (n_andL (n_andL (verEq_rfl _) rfl) rfl) (fun h5 => (spec19_0 k m (R0 ++ [[(bo (cB r2 0))]]) a b (wr (i + (1 : Int))))) fun h5 => n_none)) fun h4 => n_none))) fun h3 => n_none)) fun h2 => (n_condH (n_andL (n_andL (verEq_rfl _) rfl) rfl) (fun h3 => (spec19_0 k m (R0 ++ [[(bo false)]]) a b (wr (i + (1 : Int))))) fun h3 => n_none)))) fun h0 => rfl)
theorem okL19_0 : LoopOk TT TU GL0 C5 ownF L19 (lp Try.f19 0) :=
  loopOk_of ks19_0 hs19_0 W19_0 FU (fun s k => (G_skirmishref12_Union_0 (roRows (cIa s.tmps 0)) (roRows (cIa s.tmps 1)) FU (blkAt s.heap 0).2.rows (toI (cIa s.tmps 6))).bind (X19_0 k)) (fun s k => by kernel_rfl) (fun s k => spec19_0 k FU (blkAt s.heap 0).2.rows (roRows (cIa s.tmps 0)) (roRows (cIa s.tmps 1)) (toI (cIa s.tmps 6)))
theorem run19 (a : List (List AVal)) (b : List (List AVal)) : fcall TT TU GL0 C5 ownF true L19 Try.f19 [(.ro 1 a), (.ro 1 b)] = (F_skirmishref12_Union a b).bind fun t => some (enc19 t) :=
  Eq.trans (b := (Option.bind (G_skirmishref12_Union_0 a b FU [] (0 : Int)) fun t => (bif (verEq t.length t.length) then (some (CR.mk true (AVal.slc 0 t.length) [] [(Blk.mk BKind.arr 4 1 t)])) else none))) (by kernel_rfl)
    (n_bind fun t => (n_true (verEq_rfl _) rfl))
theorem lib19 : Lib Try.prog GL0 C19 :=
  Lib.fn lib5 mixed TT_ok Try.func19 (by decide +kernel) (by kernel_rfl) true L19 (loops_of 1 (by kernel_rfl) (belowS below0 okL19_0)) ks19 (F := fun us => F_skirmishref12_Union (roRows (cIa us 0)) (roRows (cIa us 1))) (fun us => rfl) (fun us => run19 (roRows (cIa us 0)) (roRows (cIa us 1))) (fun t => rfl)

/-! ### 6: skirmish/skirmishlaw12.ShadowUnion -/



/-- 'skirmish/skirmishlaw12.ShadowUnion' -/
noncomputable def F_skirmishlaw12_ShadowUnion (a : List (List AVal)) (b : List (List AVal)) : Option (Bool) :=
  bif (decide ((Int.ofNat a.length) > (5000 : Int))) then
    Option.bind F_skirmishlaw12_awake fun t =>
    some t
  else
  bif (decide ((Int.ofNat b.length) > (5000 : Int))) then
    Option.bind F_skirmishlaw12_awake fun t1 =>
    some t1
  else
  Option.bind (F_shadow_Union a b) fun t2 =>
  Option.bind (F_skirmishref12_Union a b) fun t3 =>
  Option.bind (F_skirmishref12_Same t2 t3) fun t4 =>
  bif t4 then
    Option.bind (F_shadow_Union b a) fun t5 =>
    Option.bind (F_skirmishref12_Same t2 t5) fun t6 =>
    bif t6 then
      Option.bind (F_shadow_Union t2 a) fun t7 =>
      Option.bind (F_skirmishref12_Same t7 t2) fun t8 =>
      bif t8 then
        Option.bind F_skirmishlaw12_awake fun t9 =>
        some t9
      else
      some false
    else
    some false
  else
  some false
noncomputable def enc6 (t : Bool) : CR := ⟨true, (.sc (.bool t)), [], []⟩
noncomputable def ks6 : List SK := [.f (.ro 1), .f (.ro 1)]
noncomputable def S6 (us : List AVal) : Call := bif chkA ks6 us then Call.of (F_skirmishlaw12_ShadowUnion (roRows (cIa us 0)) (roRows (cIa us 1))) enc6 else Call.none
noncomputable def C6 := AI.ext 6 S6 C19

theorem run6 (a : List (List AVal)) (b : List (List AVal)) : fcall TT TU GL0 C19 ownF true noL Try.f6 [(.ro 1 a), (.ro 1 b)] = (F_skirmishlaw12_ShadowUnion a b).bind fun t => some (enc6 t) :=
  Eq.trans (b := (bif (decide ((Int.ofNat a.length) > (5000 : Int))) then (Option.bind F_skirmishlaw12_awake fun t => (some (CR.mk true (bo t) [] []))) else (bif (decide ((Int.ofNat b.length) > (5000 : Int))) then (Option.bind F_skirmishlaw12_awake fun t1 => (some (CR.mk true (bo t1) [] []))) else (Option.bind (F_shadow_Union a b) fun t2 => (bif ((((true && (verEq t2.length t2.length)) && true) && true) && true) then (Option.bind (F_skirmishref12_Union a b) fun t3 => (bif ((((true && (verEq t3.length t3.length)) && true) && true) && true) then (bif (verEq t2.length t2.length) then (bif (verEq t3.length t3.length) then (Option.bind (F_skirmishref12_Same t2 t3) fun t4 => (bif t4 then (Option.bind (F_shadow_Union b a) fun t5 => (bif ((((true && (verEq t5.length t5.length)) && true) && true) && true) then (bif (verEq t2.length t2.length) then (bif (verEq t5.length t5.length) then (Option.bind (F_skirmishref12_Same t2 t5) fun t6 => (bif t6 then (bif (verEq t2.length t2.length) then (Option.bind (F_shadow_Union t2 a) fun t7 => (bif ((((true && (verEq t7.length t7.length)) && true) && true) && true) then (bif (verEq t7.length t7.length) then (bif (verEq t2.length t2.length) then (Option.bind (F_skirmishref12_Same t7 t2) fun t8 => (bif t8 then (Option.bind F_skirmishlaw12_awake fun t9 => (some (CR.mk true (bo t9) [] []))) else (some (CR.mk true (bo false) [] [])))) else none) else none) else none)) else none) else (some (CR.mk true (bo false) [] [])))) else none) else none) else none)) else (some (CR.mk true (bo false) [] [])))) else none) else none) else none)) else none))))) (by kernel_rfl)
    (n_condH rfl (fun h0 => (n_bind fun t => rfl)) fun h0 => (n_condH rfl (fun h1 => (n_bind fun t1 => rfl)) fun h1 => (n_bind fun t2 => (n_true (n_andL (n_andL (n_andL (n_andL rfl (verEq_rfl _)) rfl) rfl) rfl) (n_bind fun t3 => (n_true (n_andL (n_andL (n_andL (n_andL rfl (verEq_rfl _)) rfl) rfl) rfl) (n_true (verEq_rfl _) (n_true (verEq_rfl _) (n_bind fun t4 => (n_condH rfl (fun h2 => (n_bind fun t5 => (n_true (n_andL (n_andL (n_andL (n_andL rfl (verEq_rfl _)) rfl) rfl) rfl) (n_true (verEq_rfl _) (n_true (verEq_rfl _) (n_bind fun t6 => (n_condH rfl (fun h3 => (n_true (verEq_rfl _) (n_bind fun t7 => (n_true (n_andL (n_andL (n_andL (n_andL rfl (verEq_rfl _)) rfl) rfl) rfl) (n_true (verEq_rfl _) (n_true (verEq_rfl _) (n_bind fun t8 => (n_condH rfl (fun h4 => (n_bind fun t9 => rfl)) fun h4 => rfl)))))))) fun h3 => rfl))))))) fun h2 => rfl))))))))))
theorem lib6 : Lib Try.prog GL0 C6 :=
  Lib.fn lib19 mixed TT_ok Try.func6 (by decide +kernel) (by kernel_rfl) true noL (loops_of 0 (by kernel_rfl) below0) ks6 (F := fun us => F_skirmishlaw12_ShadowUnion (roRows (cIa us 0)) (roRows (cIa us 1))) (fun us => rfl) (fun us => run6 (roRows (cIa us 0)) (roRows (cIa us 1))) (fun t => rfl)

/-! ### 7: skirmish/skirmishlaw12.ShadowSymmetric -/



/-- 'skirmish/skirmishlaw12.ShadowSymmetric' -/
noncomputable def F_skirmishlaw12_ShadowSymmetric (m_W : Int) (m_H : Int) (m_Cells : List (List AVal)) (l_0_X : Int) (l_0_Y : Int) (l_1_X : Int) (l_1_Y : Int) (l_2_X : Int) (l_2_Y : Int) : Option (Bool) :=
  bif (decide ((Int.ofNat m_Cells.length) > (1024 : Int))) then
    Option.bind F_skirmishlaw12_awake fun t =>
    some t
  else
  Option.bind (F_shadow_Sees m_W m_H m_Cells l_0_X l_0_Y l_1_X l_1_Y) fun t1 =>
  Option.bind (F_shadow_Sees m_W m_H m_Cells l_1_X l_1_Y l_0_X l_0_Y) fun t2 =>
  bif (!(t1 == t2)) then
    some false
  else
  Option.bind (F_shadow_Blocks m_W m_H m_Cells l_0_X l_0_Y l_1_X l_1_Y l_2_X l_2_Y) fun t3 =>
  Option.bind (F_shadow_Blocks m_W m_H m_Cells l_1_X l_1_Y l_0_X l_0_Y l_2_X l_2_Y) fun t4 =>
  bif (!(t3 == t4)) then
    some false
  else
  Option.bind (F_shadow_Blocks m_W m_H m_Cells l_0_X l_0_Y l_1_X l_1_Y l_2_X l_2_Y) fun t5 =>
  bif t5 then
    Option.bind (F_shadow_Sees m_W m_H m_Cells l_0_X l_0_Y l_1_X l_1_Y) fun t6 =>
    bif t6 then
      some false
    else
    Option.bind (F_shadow_Visible m_W m_H m_Cells l_0_X l_0_Y (32 : Int) false) fun t7 =>
    Option.bind (F_shadow_Visible m_W m_H m_Cells l_1_X l_1_Y (32 : Int) false) fun t8 =>
    bif ((Int.ofNat t7.length) == (0 : Int)) then
      Option.bind F_skirmishlaw12_awake fun t9 =>
      some t9
    else
    bif ((Int.ofNat t8.length) == (0 : Int)) then
      Option.bind F_skirmishlaw12_awake fun t10 =>
      some t10
    else
    bif (decide ((wr ((wr ((wr (l_0_X - l_1_X)) * (wr (l_0_X - l_1_X)))) + (wr ((wr (l_0_Y - l_1_Y)) * (wr (l_0_Y - l_1_Y)))))) > (1024 : Int))) then
      Option.bind F_skirmishlaw12_awake fun t11 =>
      some t11
    else
    Option.bind (F_skirmishref06_Index m_W l_1_X l_1_Y) fun t12 =>
    Option.bind (F_skirmishref06_Index m_W l_0_X l_0_Y) fun t13 =>
    bif (decide (t12 < (0 : Int))) then
      some false
    else
    bif (decide (t13 < (0 : Int))) then
      some false
    else
    bif (decide (t12 ≥ (Int.ofNat t7.length))) then
      some false
    else
    bif (decide (t13 ≥ (Int.ofNat t8.length))) then
      some false
    else
    bif ((decide ((0 : Int) ≤ t12)) && (decide (t12 < (Int.ofNat t7.length)))) then
      Option.bind (t7[t12.toNat]?) fun r =>
      bif (chk [LT.bool] r) then
        bif ((decide ((0 : Int) ≤ t13)) && (decide (t13 < (Int.ofNat t8.length)))) then
          Option.bind (t8[t13.toNat]?) fun r1 =>
          bif (chk [LT.bool] r1) then
            bif ((cB r 0) == (cB r1 0)) then
              Option.bind (t7[t12.toNat]?) fun r2 =>
              bif (chk [LT.bool] r2) then
                Option.bind (F_shadow_Sees m_W m_H m_Cells l_0_X l_0_Y l_1_X l_1_Y) fun t14 =>
                bif ((cB r2 0) == t14) then
                  Option.bind F_skirmishlaw12_awake fun t15 =>
                  some t15
                else
                some false
              else
              none
            else
            some false
          else
          none
        else
        none
      else
      none
    else
    none
  else
  Option.bind (F_shadow_Visible m_W m_H m_Cells l_0_X l_0_Y (32 : Int) false) fun t16 =>
  Option.bind (F_shadow_Visible m_W m_H m_Cells l_1_X l_1_Y (32 : Int) false) fun t17 =>
  bif ((Int.ofNat t16.length) == (0 : Int)) then
    Option.bind F_skirmishlaw12_awake fun t18 =>
    some t18
  else
  bif ((Int.ofNat t17.length) == (0 : Int)) then
    Option.bind F_skirmishlaw12_awake fun t19 =>
    some t19
  else
  bif (decide ((wr ((wr ((wr (l_0_X - l_1_X)) * (wr (l_0_X - l_1_X)))) + (wr ((wr (l_0_Y - l_1_Y)) * (wr (l_0_Y - l_1_Y)))))) > (1024 : Int))) then
    Option.bind F_skirmishlaw12_awake fun t20 =>
    some t20
  else
  Option.bind (F_skirmishref06_Index m_W l_1_X l_1_Y) fun t21 =>
  Option.bind (F_skirmishref06_Index m_W l_0_X l_0_Y) fun t22 =>
  bif (decide (t21 < (0 : Int))) then
    some false
  else
  bif (decide (t22 < (0 : Int))) then
    some false
  else
  bif (decide (t21 ≥ (Int.ofNat t16.length))) then
    some false
  else
  bif (decide (t22 ≥ (Int.ofNat t17.length))) then
    some false
  else
  bif ((decide ((0 : Int) ≤ t21)) && (decide (t21 < (Int.ofNat t16.length)))) then
    Option.bind (t16[t21.toNat]?) fun r3 =>
    bif (chk [LT.bool] r3) then
      bif ((decide ((0 : Int) ≤ t22)) && (decide (t22 < (Int.ofNat t17.length)))) then
        Option.bind (t17[t22.toNat]?) fun r4 =>
        bif (chk [LT.bool] r4) then
          bif ((cB r3 0) == (cB r4 0)) then
            Option.bind (t16[t21.toNat]?) fun r5 =>
            bif (chk [LT.bool] r5) then
              Option.bind (F_shadow_Sees m_W m_H m_Cells l_0_X l_0_Y l_1_X l_1_Y) fun t23 =>
              bif ((cB r5 0) == t23) then
                Option.bind F_skirmishlaw12_awake fun t24 =>
                some t24
              else
              some false
            else
            none
          else
          some false
        else
        none
      else
      none
    else
    none
  else
  none
noncomputable def enc7 (t : Bool) : CR := ⟨true, (.sc (.bool t)), [], []⟩
noncomputable def ks7 : List SK := [.agg [.int .i64, .int .i64, .ro 3], .agg [.int .i64, .int .i64, .int .i64, .int .i64, .int .i64, .int .i64]]
noncomputable def S7 (us : List AVal) : Call := bif chkA ks7 us then Call.of (F_skirmishlaw12_ShadowSymmetric (toI (cIa (aggL (cIa us 0)) 0)) (toI (cIa (aggL (cIa us 0)) 1)) (roRows (cIa (aggL (cIa us 0)) 2)) (toI (cIa (aggL (cIa us 1)) 0)) (toI (cIa (aggL (cIa us 1)) 1)) (toI (cIa (aggL (cIa us 1)) 2)) (toI (cIa (aggL (cIa us 1)) 3)) (toI (cIa (aggL (cIa us 1)) 4)) (toI (cIa (aggL (cIa us 1)) 5))) enc7 else Call.none
noncomputable def C7 := AI.ext 7 S7 C6

theorem run7 (m_W : Int) (m_H : Int) (m_Cells : List (List AVal)) (l_0_X : Int) (l_0_Y : Int) (l_1_X : Int) (l_1_Y : Int) (l_2_X : Int) (l_2_Y : Int) : fcall TT TU GL0 C6 ownF true noL Try.f7 [(.agg [(.sc (.int .i64 m_W)), (.sc (.int .i64 m_H)), (.ro 3 m_Cells)]), (.agg [(.sc (.int .i64 l_0_X)), (.sc (.int .i64 l_0_Y)), (.sc (.int .i64 l_1_X)), (.sc (.int .i64 l_1_Y)), (.sc (.int .i64 l_2_X)), (.sc (.int .i64 l_2_Y))])] = (F_skirmishlaw12_ShadowSymmetric m_W m_H m_Cells l_0_X l_0_Y l_1_X l_1_Y l_2_X l_2_Y).bind fun t => some (enc7 t) :=
  Eq.trans (b := (bif (decide ((Int.ofNat m_Cells.length) > (1024 : Int))) then (Option.bind F_skirmishlaw12_awake fun t => (some (CR.mk true (bo t) [] []))) else (Option.bind (F_shadow_Sees m_W m_H m_Cells l_0_X l_0_Y l_1_X l_1_Y) fun t1 => (Option.bind (F_shadow_Sees m_W m_H m_Cells l_1_X l_1_Y l_0_X l_0_Y) fun t2 => (bif (!(t1 == t2)) then (some (CR.mk true (bo false) [] [])) else (Option.bind (F_shadow_Blocks m_W m_H m_Cells l_0_X l_0_Y l_1_X l_1_Y l_2_X l_2_Y) fun t3 => (Option.bind (F_shadow_Blocks m_W m_H m_Cells l_1_X l_1_Y l_0_X l_0_Y l_2_X l_2_Y) fun t4 => (bif (!(t3 == t4)) then (some (CR.mk true (bo false) [] [])) else (Option.bind (F_shadow_Blocks m_W m_H m_Cells l_0_X l_0_Y l_1_X l_1_Y l_2_X l_2_Y) fun t5 => (bif t5 then (Option.bind (F_shadow_Sees m_W m_H m_Cells l_0_X l_0_Y l_1_X l_1_Y) fun t6 => (bif t6 then (some (CR.mk true (bo false) [] [])) else (Option.bind (F_shadow_Visible m_W m_H m_Cells l_0_X l_0_Y (32 : Int) false) fun t7 => (bif ((((true && (verEq t7.length t7.length)) && true) && true) && true) then (Option.bind (F_shadow_Visible m_W m_H m_Cells l_1_X l_1_Y (32 : Int) false) fun t8 => (bif ((((true && (verEq t8.length t8.length)) && true) && true) && true) then (bif (verEq t7.length t7.length) then (bif ((Int.ofNat t7.length) == (0 : Int)) then (Option.bind F_skirmishlaw12_awake fun t9 => (some (CR.mk true (bo t9) [] []))) else (bif (verEq t8.length t8.length) then (bif ((Int.ofNat t8.length) == (0 : Int)) then (Option.bind F_skirmishlaw12_awake fun t10 => (some (CR.mk true (bo t10) [] []))) else (bif (decide ((wr ((wr ((wr (l_0_X - l_1_X)) * (wr (l_0_X - l_1_X)))) + (wr ((wr (l_0_Y - l_1_Y)) * (wr (l_0_Y - l_1_Y)))))) > (1024 : Int))) then (Option.bind F_skirmishlaw12_awake fun t11 => (some (CR.mk true (bo t11) [] []))) else (Option.bind (F_skirmishref06_Index m_W l_1_X l_1_Y) fun t12 => (Option.bind (F_skirmishref06_Index m_W l_0_X l_0_Y) fun t13 => (bif (decide (t12 < (0 : Int))) then (some (CR.mk true (bo false) [] [])) else (bif (decide (t13 < (0 : Int))) then (some (CR.mk true (bo false) [] [])) else (bif (verEq t7.length t7.length) then (bif (decide (t12 ≥ (Int.ofNat t7.length))) then (some (CR.mk true (bo false) [] [])) else (bif (verEq t8.length t8.length) then (bif (decide (t13 ≥ (Int.ofNat t8.length))) then (some (CR.mk true (bo false) [] [])) else (bif (((verEq t7.length t7.length) && (decide ((0 : Int) ≤ t12))) && (decide (t12 < (Int.ofNat t7.length)))) then (bif (verEq t7.length t7.length) then (Option.bind (t7[t12.toNat]?) fun r => (bif (chk [LT.bool] r) then (bif (((verEq t8.length t8.length) && (decide ((0 : Int) ≤ t13))) && (decide (t13 < (Int.ofNat t8.length)))) then (bif (verEq t8.length t8.length) then (Option.bind (t8[t13.toNat]?) fun r1 => (bif (chk [LT.bool] r1) then (bif ((cB r 0) == (cB r1 0)) then (bif (((verEq t7.length t7.length) && (decide ((0 : Int) ≤ t12))) && (decide (t12 < (Int.ofNat t7.length)))) then (bif (verEq t7.length t7.length) then (Option.bind (t7[t12.toNat]?) fun r2 => (bif (chk [LT.bool] r2) then (Option.bind (F_shadow_Sees m_W m_H m_Cells l_0_X l_0_Y l_1_X l_1_Y) fun t14 => (bif ((cB r2 0) == t14) then (Option.bind F_skirmishlaw12_awake fun t15 => (some (CR.mk true (bo t15) [] []))) else (some (CR.mk true (bo false) [] [])))) else none)) else none) else none) else (some (CR.mk true (bo false) [] []))) else none)) else none) else none) else none)) else none) else none)) else none)) else none))))))) else none)) else none) else none)) else none)))) else (Option.bind (F_shadow_Visible m_W m_H m_Cells l_0_X l_0_Y (32 : Int) false) fun t16 => (bif ((((true && (verEq t16.length t16.length)) && true) && true) && true) then (Option.bind (F_shadow_Visible m_W m_H m_Cells l_1_X l_1_Y (32 : Int) false) fun t17 => (bif ((((true && (verEq t17.length t17.length)) && true) && true) && true) then (bif (verEq t16.length t16.length) then (bif ((Int.ofNat t16.length) == (0 : Int)) then (Option.bind F_skirmishlaw12_awake fun t18 => (some (CR.mk true (bo t18) [] []))) else (bif (verEq t17.length t17.length) then (bif ((Int.ofNat t17.length) == (0 : Int)) then (Option.bind F_skirmishlaw12_awake fun t19 => (some (CR.mk true (bo t19) [] []))) else (bif (decide ((wr ((wr ((wr (l_0_X - l_1_X)) * (wr (l_0_X - l_1_X)))) + (wr ((wr (l_0_Y - l_1_Y)) * (wr (l_0_Y - l_1_Y)))))) > (1024 : Int))) then (Option.bind F_skirmishlaw12_awake fun t20 => (some (CR.mk true (bo t20) [] []))) else (Option.bind (F_skirmishref06_Index m_W l_1_X l_1_Y) fun t21 => (Option.bind (F_skirmishref06_Index m_W l_0_X l_0_Y) fun t22 => (bif (decide (t21 < (0 : Int))) then (some (CR.mk true (bo false) [] [])) else (bif (decide (t22 < (0 : Int))) then (some (CR.mk true (bo false) [] [])) else (bif (verEq t16.length t16.length) then (bif (decide (t21 ≥ (Int.ofNat t16.length))) then (some (CR.mk true (bo false) [] [])) else (bif (verEq t17.length t17.length) then (bif (decide (t22 ≥ (Int.ofNat t17.length))) then (some (CR.mk true (bo false) [] [])) else (bif (((verEq t16.length t16.length) && (decide ((0 : Int) ≤ t21))) && (decide (t21 < (Int.ofNat t16.length)))) then (bif (verEq t16.length t16.length) then (Option.bind (t16[t21.toNat]?) fun r3 => (bif (chk [LT.bool] r3) then (bif (((verEq t17.length t17.length) && (decide ((0 : Int) ≤ t22))) && (decide (t22 < (Int.ofNat t17.length)))) then (bif (verEq t17.length t17.length) then (Option.bind (t17[t22.toNat]?) fun r4 => (bif (chk [LT.bool] r4) then (bif ((cB r3 0) == (cB r4 0)) then (bif (((verEq t16.length t16.length) && (decide ((0 : Int) ≤ t21))) && (decide (t21 < (Int.ofNat t16.length)))) then (bif (verEq t16.length t16.length) then (Option.bind (t16[t21.toNat]?) fun r5 => (bif (chk [LT.bool] r5) then (Option.bind (F_shadow_Sees m_W m_H m_Cells l_0_X l_0_Y l_1_X l_1_Y) fun t23 => (bif ((cB r5 0) == t23) then (Option.bind F_skirmishlaw12_awake fun t24 => (some (CR.mk true (bo t24) [] []))) else (some (CR.mk true (bo false) [] [])))) else none)) else none) else none) else (some (CR.mk true (bo false) [] []))) else none)) else none) else none) else none)) else none) else none)) else none)) else none))))))) else none)) else none) else none)) else none)))))))))))) (by kernel_rfl)
    (n_condH rfl (fun h0 => (n_bind fun t => rfl)) fun h0 => (n_bind fun t1 => (n_bind fun t2 => (n_condH rfl (fun h1 => rfl) fun h1 => (n_bind fun t3 => (n_bind fun t4 => (n_condH rfl (fun h2 => rfl) fun h2 => (n_bind fun t5 => (n_condH rfl (fun h3 => (n_bind fun t6 => (n_condH rfl (fun h4 => rfl) fun h4 => (n_bind fun t7 => (n_true (n_andL (n_andL (n_andL (n_andL rfl (verEq_rfl _)) rfl) rfl) rfl) (n_bind fun t8 => (n_true (n_andL (n_andL (n_andL (n_andL rfl (verEq_rfl _)) rfl) rfl) rfl) (n_true (verEq_rfl _) (n_condH rfl (fun h5 => (n_bind fun t9 => rfl)) fun h5 => (n_true (verEq_rfl _) (n_condH rfl (fun h6 => (n_bind fun t10 => rfl)) fun h6 => (n_condH rfl (fun h7 => (n_bind fun t11 => rfl)) fun h7 => (n_bind fun t12 => (n_bind fun t13 => (n_condH rfl (fun h8 => rfl) fun h8 => (n_condH rfl (fun h9 => rfl) fun h9 => (n_true (verEq_rfl _) (n_condH rfl (fun h10 => rfl) fun h10 => (n_true (verEq_rfl _) (n_condH rfl (fun h11 => rfl) fun h11 => (n_condH (n_and (n_andL (verEq_rfl _) rfl) rfl) (fun h12 => (n_true (verEq_rfl _) (n_bind fun r => (n_condH rfl (fun h13 => (n_condH (n_and (n_andL (verEq_rfl _) rfl) rfl) (fun h14 => (n_true (verEq_rfl _) (n_bind fun r1 => (n_condH rfl (fun h15 => (n_condH rfl (fun h16 => (n_true (n_andL (n_andL (verEq_rfl _) (n_al h12)) (n_ar h12)) (n_true (verEq_rfl _) (n_bind fun r2 => (n_condH rfl (fun h17 => (n_bind fun t14 => (n_condH rfl (fun h18 => (n_bind fun t15 => rfl)) fun h18 => rfl))) fun h17 => n_none))))) fun h16 => rfl)) fun h15 => n_none)))) fun h14 => n_none)) fun h13 => n_none)))) fun h12 => n_none))))))))))))))))))))) fun h3 => (n_bind fun t16 => (n_true (n_andL (n_andL (n_andL (n_andL rfl (verEq_rfl _)) rfl) rfl) rfl) (n_bind fun t17 => (n_true (n_andL (n_andL (n_andL (n_andL rfl (verEq_rfl _)) rfl) rfl) rfl) (n_true (verEq_rfl _) (n_condH rfl (fun h4 => (n_bind fun t18 => rfl)) fun h4 => (n_true (verEq_rfl _) (n_condH rfl (fun h5 => (n_bind fun t19 => rfl)) fun h5 => (n_condH rfl (fun h6 => (n_bind fun t20 => rfl)) fun h6 => (n_bind fun t21 => (n_bind fun t22 => (n_condH rfl (fun h7 => rfl) fun h7 => (n_condH rfl (fun h8 => rfl) fun h8 => (n_true (verEq_rfl _) (n_condH rfl (fun h9 => rfl) fun h9 => (n_true (verEq_rfl _) (n_condH rfl (fun h10 => rfl) fun h10 => (n_condH (n_and (n_andL (verEq_rfl _) rfl) rfl) (fun h11 => (n_true (verEq_rfl _) (n_bind fun r3 => (n_condH rfl (fun h12 => (n_condH (n_and (n_andL (verEq_rfl _) rfl) rfl) (fun h13 => (n_true (verEq_rfl _) (n_bind fun r4 => (n_condH rfl (fun h14 => (n_condH rfl (fun h15 => (n_true (n_andL (n_andL (verEq_rfl _) (n_al h11)) (n_ar h11)) (n_true (verEq_rfl _) (n_bind fun r5 => (n_condH rfl (fun h16 => (n_bind fun t23 => (n_condH rfl (fun h17 => (n_bind fun t24 => rfl)) fun h17 => rfl))) fun h16 => n_none))))) fun h15 => rfl)) fun h14 => n_none)))) fun h13 => n_none)) fun h12 => n_none)))) fun h11 => n_none)))))))))))))))))))))))))))
theorem lib7 : Lib Try.prog GL0 C7 :=
  Lib.fn lib6 mixed TT_ok Try.func7 (by decide +kernel) (by kernel_rfl) true noL (loops_of 0 (by kernel_rfl) below0) ks7 (F := fun us => F_skirmishlaw12_ShadowSymmetric (toI (cIa (aggL (cIa us 0)) 0)) (toI (cIa (aggL (cIa us 0)) 1)) (roRows (cIa (aggL (cIa us 0)) 2)) (toI (cIa (aggL (cIa us 1)) 0)) (toI (cIa (aggL (cIa us 1)) 1)) (toI (cIa (aggL (cIa us 1)) 2)) (toI (cIa (aggL (cIa us 1)) 3)) (toI (cIa (aggL (cIa us 1)) 4)) (toI (cIa (aggL (cIa us 1)) 5))) (fun us => rfl) (fun us => run7 (toI (cIa (aggL (cIa us 0)) 0)) (toI (cIa (aggL (cIa us 0)) 1)) (roRows (cIa (aggL (cIa us 0)) 2)) (toI (cIa (aggL (cIa us 1)) 0)) (toI (cIa (aggL (cIa us 1)) 1)) (toI (cIa (aggL (cIa us 1)) 2)) (toI (cIa (aggL (cIa us 1)) 3)) (toI (cIa (aggL (cIa us 1)) 4)) (toI (cIa (aggL (cIa us 1)) 5))) (fun t => rfl)

/-! ### 8: skirmish/skirmishlaw12.ShadowGrows -/

noncomputable def W8_0 : Ex → List Bool
  | .ret => [false, false, false, false, false, false, false, false, true, false, false, false, false, false, false, false, false, false, false, false, false, false, false, false, false, false, false, false, false, false, false, false, false, false, false, false, false, false, false, false, false, false, false, false, false, false, false, false, false, false, false, false, false, false, false, false, false, false, false, false, false, false, false, false, false, false, false, false, false, false, false, false, false, false, false, false, false, false, false, false, false, false, false, false, false, false, false, false, false, false, false, false, false, false, false, false, false, false, false, false, false, false, false, false, false, false, false, false, false, false, false, false, false, false, false, false, false, false, false, false, false, false, false, false, false, false, false, false, false, false, false, false, false, false, false, false, false, false, false, false, false, false, false, false, false, false, false, false, false, false, false, false, false, false, false, false, false, false, false, false, false, false, false, false, false, false]
  | .exit n => bif Nat.beq n 0 then [false, false, false, false, false, false, false, false, false, false, false, false, false, false, false, false, false, false, false, false, false, false, false, false, false, false, false, false, false, false, false, false, false, false, false, false, false, false, false, false, false, false, false, false, false, false, false, false, false, false, false, false, false, false, false, false, false, false, false, false, false, false, false, false, false, false, false, false, false, false, false, false, false, false, false, false, false, false, false, false, false, false, false, false, false, false, false, false, false, false, false, false, false, false, false, false, false, false, false, false, false, false, false, false, false, false, false, false, false, false, false, false, false, false, false, false, false, false, false, false, false, false, false, false, false, false, false, false, false, false, false, false, false, false, false, false, false, false, false, false, false, false, false, false, false, false, false, false, false, false, false, false, false, false, false, false, false, false, false, false, false, false, false, false, false, false] else []
  | .normal => []
noncomputable def G_skirmishlaw12_ShadowGrows_0 (R2 : List (List AVal)) (R3 : List (List AVal)) (R4 : List (List AVal)) (most : Int) (b0_0 : Int) (b1_0 : Int) (b1_1 : Int) : Nat → Int → Option (Bool)
  | 0, _ => none
  | m + 1, i =>
    bif (decide (i < (Int.ofNat R2.length))) then
      Option.bind (F_skirmishref06_At b0_0 i) fun t =>
      bif ((decide ((0 : Int) ≤ i)) && (decide (i < (Int.ofNat R2.length)))) then
        Option.bind (R2[i.toNat]?) fun r =>
        bif (chk [LT.bool] r) then
          bif (cB r 0) then
            bif (decide (i < (Int.ofNat R3.length))) then
              Option.bind (R3[i.toNat]?) fun r1 =>
              bif (chk [LT.bool] r1) then
                bif (!(cB r1 0)) then
                  some true
                else
                bif (decide (i < (Int.ofNat R4.length))) then
                  Option.bind (R4[i.toNat]?) fun r2 =>
                  bif (chk [LT.bool] r2) then
                    bif (!(cB r2 0)) then
                      some true
                    else
                    Option.bind (R4[i.toNat]?) fun r3 =>
                    bif (chk [LT.bool] r3) then
                      bif (!((cB r3 0) == (decide ((wr ((wr ((wr (t.1 - b1_0)) * (wr (t.1 - b1_0)))) + (wr ((wr (t.2 - b1_1)) * (wr (t.2 - b1_1)))))) ≤ (wr (most * most)))))) then
                        some true
                      else
                      Option.bind (R2[i.toNat]?) fun r4 =>
                      bif (chk [LT.bool] r4) then
                        Option.bind (R3[i.toNat]?) fun r5 =>
                        bif (chk [LT.bool] r5) then
                          bif (cB r5 0) then
                            Option.bind (R4[i.toNat]?) fun r6 =>
                            bif (chk [LT.bool] r6) then
                              bif (!((cB r4 0) == (cB r6 0))) then
                                some true
                              else
                              G_skirmishlaw12_ShadowGrows_0 R2 R3 R4 most b0_0 b1_0 b1_1 m (wr (i + (1 : Int)))
                            else
                            none
                          else
                          bif (!((cB r4 0) == false)) then
                            some true
                          else
                          G_skirmishlaw12_ShadowGrows_0 R2 R3 R4 most b0_0 b1_0 b1_1 m (wr (i + (1 : Int)))
                        else
                        none
                      else
                      none
                    else
                    none
                  else
                  none
                else
                none
              else
              none
            else
            none
          else
          bif (decide (i < (Int.ofNat R4.length))) then
            Option.bind (R4[i.toNat]?) fun r7 =>
            bif (chk [LT.bool] r7) then
              bif (!((cB r7 0) == (decide ((wr ((wr ((wr (t.1 - b1_0)) * (wr (t.1 - b1_0)))) + (wr ((wr (t.2 - b1_1)) * (wr (t.2 - b1_1)))))) ≤ (wr (most * most)))))) then
                some true
              else
              Option.bind (R2[i.toNat]?) fun r8 =>
              bif (chk [LT.bool] r8) then
                bif (decide (i < (Int.ofNat R3.length))) then
                  Option.bind (R3[i.toNat]?) fun r9 =>
                  bif (chk [LT.bool] r9) then
                    bif (cB r9 0) then
                      Option.bind (R4[i.toNat]?) fun r10 =>
                      bif (chk [LT.bool] r10) then
                        bif (!((cB r8 0) == (cB r10 0))) then
                          some true
                        else
                        G_skirmishlaw12_ShadowGrows_0 R2 R3 R4 most b0_0 b1_0 b1_1 m (wr (i + (1 : Int)))
                      else
                      none
                    else
                    bif (!((cB r8 0) == false)) then
                      some true
                    else
                    G_skirmishlaw12_ShadowGrows_0 R2 R3 R4 most b0_0 b1_0 b1_1 m (wr (i + (1 : Int)))
                  else
                  none
                else
                none
              else
              none
            else
            none
          else
          none
        else
        none
      else
      none
    else
    some false
noncomputable def E8_0 (R2 : List (List AVal)) (R3 : List (List AVal)) (R4 : List (List AVal)) (most : Int) (i : Int) (b0_0 : Int) (b0_1 : Int) (b0_2 : List (List AVal)) (b1_0 : Int) (b1_1 : Int) : St := ⟨[.dead, .dead, .dead, .dead, (.ref 16000 1 0 0), (.ref 16016 1 0 0), .dead, .dead, .dead, (.slc 25696 (R2).length), (.slc 25808 (R3).length), (.slc 25920 (R4).length), (.sc (.int .i64 most)), (.sc (.int .i64 i)), .dead, .dead, .dead, .dead, .dead, .dead, .dead, .dead, .dead, .dead, .dead, .dead, .dead, .dead, .dead, .dead, .dead, .dead, .dead, .dead, .dead, .dead, .dead, .dead, .dead, .dead, .dead, .dead, .dead, .dead, .dead, .dead, .dead, .dead, .dead, .dead, .dead, .dead, .dead, .dead, .dead, .dead, .dead, .dead, .dead, .dead, .dead, .dead, .dead, .dead, .dead, .dead, .dead, .dead, .dead, .dead, .dead, .dead, .dead, .dead, .dead, .dead, .dead, .dead, .dead, .dead, .dead, .dead, .dead, .dead, .dead, .dead, .dead, .dead, .dead, .dead, .dead, .dead, .dead, .dead, .dead, .dead, .dead, .dead, .dead, .dead, .dead, .dead, .dead, .dead, .dead, .dead, .dead, .dead, .dead, .dead, .dead, .dead, .dead, .dead, .dead, .dead, .dead, .dead, .dead, .dead, .dead, .dead, .dead, .dead, .dead, .dead, .dead, .dead, .dead, .dead, .dead, .dead, .dead, .dead, .dead, .dead, .dead, .dead, .dead, .dead, .dead, .dead, .dead, .dead, .dead, .dead, .dead, .dead, .dead, .dead, .dead, .dead, .dead, .dead, .dead, .dead, .dead, .dead, .dead, .dead, .dead, .dead, .dead, .dead, .dead, .dead], [(16000, ⟨.box, 24, 3, [[(.sc (.int .i64 b0_0)), (.sc (.int .i64 b0_1)), (.ro 3 b0_2)]]⟩), (16016, ⟨.box, 26, 2, [[(.sc (.int .i64 b1_0)), (.sc (.int .i64 b1_1))]]⟩), (25696, ⟨.arr, 4, 1, R2⟩), (25808, ⟨.arr, 4, 1, R3⟩), (25920, ⟨.arr, 4, 1, R4⟩)]⟩
noncomputable def X8_0 (k : Ex → St → Option CR) (t : Bool) : Option CR := bif t then k .ret ⟨[.dead, .dead, .dead, .dead, .dead, .dead, .dead, .dead, (.sc (.bool false)), .dead, .dead, .dead, .dead, .dead, .dead, .dead, .dead, .dead, .dead, .dead, .dead, .dead, .dead, .dead, .dead, .dead, .dead, .dead, .dead, .dead, .dead, .dead, .dead, .dead, .dead, .dead, .dead, .dead, .dead, .dead, .dead, .dead, .dead, .dead, .dead, .dead, .dead, .dead, .dead, .dead, .dead, .dead, .dead, .dead, .dead, .dead, .dead, .dead, .dead, .dead, .dead, .dead, .dead, .dead, .dead, .dead, .dead, .dead, .dead, .dead, .dead, .dead, .dead, .dead, .dead, .dead, .dead, .dead, .dead, .dead, .dead, .dead, .dead, .dead, .dead, .dead, .dead, .dead, .dead, .dead, .dead, .dead, .dead, .dead, .dead, .dead, .dead, .dead, .dead, .dead, .dead, .dead, .dead, .dead, .dead, .dead, .dead, .dead, .dead, .dead, .dead, .dead, .dead, .dead, .dead, .dead, .dead, .dead, .dead, .dead, .dead, .dead, .dead, .dead, .dead, .dead, .dead, .dead, .dead, .dead, .dead, .dead, .dead, .dead, .dead, .dead, .dead, .dead, .dead, .dead, .dead, .dead, .dead, .dead, .dead, .dead, .dead, .dead, .dead, .dead, .dead, .dead, .dead, .dead, .dead, .dead, .dead, .dead, .dead, .dead, .dead, .dead, .dead, .dead, .dead, .dead], []⟩ else k (.exit 0) ⟨[.dead, .dead, .dead, .dead, .dead, .dead, .dead, .dead, .dead, .dead, .dead, .dead, .dead, .dead, .dead, .dead, .dead, .dead, .dead, .dead, .dead, .dead, .dead, .dead, .dead, .dead, .dead, .dead, .dead, .dead, .dead, .dead, .dead, .dead, .dead, .dead, .dead, .dead, .dead, .dead, .dead, .dead, .dead, .dead, .dead, .dead, .dead, .dead, .dead, .dead, .dead, .dead, .dead, .dead, .dead, .dead, .dead, .dead, .dead, .dead, .dead, .dead, .dead, .dead, .dead, .dead, .dead, .dead, .dead, .dead, .dead, .dead, .dead, .dead, .dead, .dead, .dead, .dead, .dead, .dead, .dead, .dead, .dead, .dead, .dead, .dead, .dead, .dead, .dead, .dead, .dead, .dead, .dead, .dead, .dead, .dead, .dead, .dead, .dead, .dead, .dead, .dead, .dead, .dead, .dead, .dead, .dead, .dead, .dead, .dead, .dead, .dead, .dead, .dead, .dead, .dead, .dead, .dead, .dead, .dead, .dead, .dead, .dead, .dead, .dead, .dead, .dead, .dead, .dead, .dead, .dead, .dead, .dead, .dead, .dead, .dead, .dead, .dead, .dead, .dead, .dead, .dead, .dead, .dead, .dead, .dead, .dead, .dead, .dead, .dead, .dead, .dead, .dead, .dead, .dead, .dead, .dead, .dead, .dead, .dead, .dead, .dead, .dead, .dead, .dead, .dead], []⟩
noncomputable def ks8_0 : List SK := [.f .dead, .f .dead, .f .dead, .f .dead, .f (.ref 16000 1 0 0), .f (.ref 16016 1 0 0), .f .dead, .f .dead, .f .dead, .f (.slc 25696 2), .f (.slc 25808 3), .f (.slc 25920 4), .f (.int .i64), .f (.int .i64), .f .dead, .f .dead, .f .dead, .f .dead, .f .dead, .f .dead, .f .dead, .f .dead, .f .dead, .f .dead, .f .dead, .f .dead, .f .dead, .f .dead, .f .dead, .f .dead, .f .dead, .f .dead, .f .dead, .f .dead, .f .dead, .f .dead, .f .dead, .f .dead, .f .dead, .f .dead, .f .dead, .f .dead, .f .dead, .f .dead, .f .dead, .f .dead, .f .dead, .f .dead, .f .dead, .f .dead, .f .dead, .f .dead, .f .dead, .f .dead, .f .dead, .f .dead, .f .dead, .f .dead, .f .dead, .f .dead, .f .dead, .f .dead, .f .dead, .f .dead, .f .dead, .f .dead, .f .dead, .f .dead, .f .dead, .f .dead, .f .dead, .f .dead, .f .dead, .f .dead, .f .dead, .f .dead, .f .dead, .f .dead, .f .dead, .f .dead, .f .dead, .f .dead, .f .dead, .f .dead, .f .dead, .f .dead, .f .dead, .f .dead, .f .dead, .f .dead, .f .dead, .f .dead, .f .dead, .f .dead, .f .dead, .f .dead, .f .dead, .f .dead, .f .dead, .f .dead, .f .dead, .f .dead, .f .dead, .f .dead, .f .dead, .f .dead, .f .dead, .f .dead, .f .dead, .f .dead, .f .dead, .f .dead, .f .dead, .f .dead, .f .dead, .f .dead, .f .dead, .f .dead, .f .dead, .f .dead, .f .dead, .f .dead, .f .dead, .f .dead, .f .dead, .f .dead, .f .dead, .f .dead, .f .dead, .f .dead, .f .dead, .f .dead, .f .dead, .f .dead, .f .dead, .f .dead, .f .dead, .f .dead, .f .dead, .f .dead, .f .dead, .f .dead, .f .dead, .f .dead, .f .dead, .f .dead, .f .dead, .f .dead, .f .dead, .f .dead, .f .dead, .f .dead, .f .dead, .f .dead, .f .dead, .f .dead, .f .dead, .f .dead, .f .dead, .f .dead, .f .dead, .f .dead, .f .dead, .f .dead, .f .dead, .f .dead]
noncomputable def hs8_0 : List HK := [⟨16000, .box, 24, 3, some [.int .i64, .int .i64, .ro 3]⟩, ⟨16016, .box, 26, 2, some [.int .i64, .int .i64]⟩, ⟨25696, .arr, 4, 1, none⟩, ⟨25808, .arr, 4, 1, none⟩, ⟨25920, .arr, 4, 1, none⟩]
noncomputable def Lm8_0 (s : St) (k : Ex → St → Option CR) : Option CR := bif chkS ks8_0 hs8_0 s then (G_skirmishlaw12_ShadowGrows_0 (blkAt s.heap 2).2.rows (blkAt s.heap 3).2.rows (blkAt s.heap 4).2.rows (toI (cIa s.tmps 12)) (toI (cIa (rows0 (blkAt s.heap 0).2) 0)) (toI (cIa (rows0 (blkAt s.heap 1).2) 0)) (toI (cIa (rows0 (blkAt s.heap 1).2) 1)) FU (toI (cIa s.tmps 13))).bind (X8_0 k) else none
noncomputable def L8_0 (s : St) (k : Ex → St → Option CR) : Option CR := Lm8_0 (maskS (maskOf ks8_0) s) k

noncomputable def L8 : LT' := fun i s k => bif Nat.beq i 0 then L8_0 s k else none

/-- 'skirmish/skirmishlaw12.ShadowGrows' -/
noncomputable def F_skirmishlaw12_ShadowGrows (m_W : Int) (m_H : Int) (m_Cells : List (List AVal)) (from__X : Int) (from__Y : Int) (r1 : Int) (s1 : Int) : Option (Bool) :=
  bif (decide ((Int.ofNat m_Cells.length) > (1024 : Int))) then
    Option.bind F_skirmishlaw12_awake fun t =>
    some t
  else
  Option.bind (F_skirmishref07_Valid m_W m_H m_Cells) fun t1 =>
  bif (!t1) then
    Option.bind F_skirmishlaw12_awake fun t2 =>
    some t2
  else
  Option.bind (F_skirmishref06_In m_W m_H from__X from__Y) fun t3 =>
  bif (!t3) then
    Option.bind F_skirmishlaw12_awake fun t4 =>
    some t4
  else
  Option.bind (F_shadow_Visible m_W m_H m_Cells from__X from__Y (wr (minI r1 s1)) false) fun t5 =>
  Option.bind (F_shadow_Visible m_W m_H m_Cells from__X from__Y (wr (maxI r1 s1)) false) fun t6 =>
  Option.bind (F_shadow_Visible m_W m_H m_Cells from__X from__Y (wr (minI r1 s1)) true) fun t7 =>
  bif ((Int.ofNat t5.length) != (Int.ofNat m_Cells.length)) then
    some false
  else
  bif ((Int.ofNat t6.length) != (Int.ofNat t5.length)) then
    some false
  else
  bif ((Int.ofNat t7.length) != (Int.ofNat t5.length)) then
    some false
  else
  Option.bind (F_skirmishref06_Index m_W from__X from__Y) fun t8 =>
  bif ((decide ((0 : Int) ≤ t8)) && (decide (t8 < (Int.ofNat t5.length)))) then
    Option.bind (t5[t8.toNat]?) fun r =>
    bif (chk [LT.bool] r) then
      bif (!(cB r 0)) then
        some false
      else
      Option.bind (G_skirmishlaw12_ShadowGrows_0 t5 t6 t7 (minI (wr (minI r1 s1)) (32 : Int)) m_W from__X from__Y FU (0 : Int)) fun t9 =>
      bif t9 then
        some false
      else
      Option.bind F_skirmishlaw12_awake fun t10 =>
      some t10
    else
    none
  else
  none
noncomputable def enc8 (t : Bool) : CR := ⟨true, (.sc (.bool t)), [], []⟩
noncomputable def ks8 : List SK := [.agg [.int .i64, .int .i64, .ro 3], .agg [.int .i64, .int .i64], .f (.int .u8), .f (.int .u8)]
noncomputable def S8 (us : List AVal) : Call := bif chkA ks8 us then Call.of (F_skirmishlaw12_ShadowGrows (toI (cIa (aggL (cIa us 0)) 0)) (toI (cIa (aggL (cIa us 0)) 1)) (roRows (cIa (aggL (cIa us 0)) 2)) (toI (cIa (aggL (cIa us 1)) 0)) (toI (cIa (aggL (cIa us 1)) 1)) (toI (cIa us 2)) (toI (cIa us 3))) enc8 else Call.none
noncomputable def C8 := AI.ext 8 S8 C7

@[reducible] noncomputable def B8_0 := bodyOf TT TU GL0 C7 ownF L8 (lp Try.f8 0)
@[reducible] noncomputable def K8_0 (k : Ex → St → Option CR) : Ex → St → Option CR := fun e s => k e (maskS (W8_0 e) s)
theorem spec8_0 (k : Ex → St → Option CR) : ∀ (m : Nat) (R2 : List (List AVal)) (R3 : List (List AVal)) (R4 : List (List AVal)) (most : Int) (i : Int) (b0_0 : Int) (b0_1 : Int) (b0_2 : List (List AVal)) (b1_0 : Int) (b1_1 : Int), loopN B8_0 m (E8_0 R2 R3 R4 most i b0_0 b0_1 b0_2 b1_0 b1_1) (K8_0 k) = (G_skirmishlaw12_ShadowGrows_0 R2 R3 R4 most b0_0 b1_0 b1_1 m i).bind (X8_0 k)
  | 0, _, _, _, _, _, _, _, _, _, _ => rfl
  | m + 1, R2, R3, R4, most, i, b0_0, b0_1, b0_2, b1_0, b1_1 =>
    Eq.trans (b := (bif (verEq R2.length R2.length) then (bif (decide (i < (Int.ofNat R2.length))) then (Option.bind (F_skirmishref06_At b0_0 i) fun t => (bif (((verEq R2.length R2.length) && (decide ((0 : Int) ≤ i))) && (decide (i < (Int.ofNat R2.length)))) then (bif (verEq R2.length R2.length) then (Option.bind (R2[i.toNat]?) fun r => (bif (chk [LT.bool] r) then (bif (cB r 0) then (bif (((verEq R3.length R3.length) && (decide ((0 : Int) ≤ i))) && (decide (i < (Int.ofNat R3.length)))) then (bif (verEq R3.length R3.length) then (Option.bind (R3[i.toNat]?) fun r1 => (bif (chk [LT.bool] r1) then (bif (!(cB r1 0)) then (k .ret ⟨[.dead, .dead, .dead, .dead, .dead, .dead, .dead, .dead, (bo false), .dead, .dead, .dead, .dead, .dead, .dead, .dead, .dead, .dead, .dead, .dead, .dead, .dead, .dead, .dead, .dead, .dead, .dead, .dead, .dead, .dead, .dead, .dead, .dead, .dead, .dead, .dead, .dead, .dead, .dead, .dead, .dead, .dead, .dead, .dead, .dead, .dead, .dead, .dead, .dead, .dead, .dead, .dead, .dead, .dead, .dead, .dead, .dead, .dead, .dead, .dead, .dead, .dead, .dead, .dead, .dead, .dead, .dead, .dead, .dead, .dead, .dead, .dead, .dead, .dead, .dead, .dead, .dead, .dead, .dead, .dead, .dead, .dead, .dead, .dead, .dead, .dead, .dead, .dead, .dead, .dead, .dead, .dead, .dead, .dead, .dead, .dead, .dead, .dead, .dead, .dead, .dead, .dead, .dead, .dead, .dead, .dead, .dead, .dead, .dead, .dead, .dead, .dead, .dead, .dead, .dead, .dead, .dead, .dead, .dead, .dead, .dead, .dead, .dead, .dead, .dead, .dead, .dead, .dead, .dead, .dead, .dead, .dead, .dead, .dead, .dead, .dead, .dead, .dead, .dead, .dead, .dead, .dead, .dead, .dead, .dead, .dead, .dead, .dead, .dead, .dead, .dead, .dead, .dead, .dead, .dead, .dead, .dead, .dead, .dead, .dead, .dead, .dead, .dead, .dead, .dead, .dead], []⟩) else (bif (((verEq R4.length R4.length) && (decide ((0 : Int) ≤ i))) && (decide (i < (Int.ofNat R4.length)))) then (bif (verEq R4.length R4.length) then (Option.bind (R4[i.toNat]?) fun r2 => (bif (chk [LT.bool] r2) then (bif (!(cB r2 0)) then (k .ret ⟨[.dead, .dead, .dead, .dead, .dead, .dead, .dead, .dead, (bo false), .dead, .dead, .dead, .dead, .dead, .dead, .dead, .dead, .dead, .dead, .dead, .dead, .dead, .dead, .dead, .dead, .dead, .dead, .dead, .dead, .dead, .dead, .dead, .dead, .dead, .dead, .dead, .dead, .dead, .dead, .dead, .dead, .dead, .dead, .dead, .dead, .dead, .dead, .dead, .dead, .dead, .dead, .dead, .dead, .dead, .dead, .dead, .dead, .dead, .dead, .dead, .dead, .dead, .dead, .dead, .dead, .dead, .dead, .dead, .dead, .dead, .dead, .dead, .dead, .dead, .dead, .dead, .dead, .dead, .dead, .dead, .dead, .dead, .dead, .dead, .dead, .dead, .dead, .dead, .dead, .dead, .dead, .dead, .dead, .dead, .dead, .dead, .dead, .dead, .dead, .dead, .dead, .dead, .dead, .dead, .dead, .dead, .dead, .dead, .dead, .dead, .dead, .dead, .dead, .dead, .dead, .dead, .dead, .dead, .dead, .dead, .dead, .dead, .dead, .dead, .dead, .dead, .dead, .dead, .dead, .dead, .dead, .dead, .dead, .dead, .dead, .dead, .dead, .dead, .dead, .dead, .dead, .dead, .dead, .dead, .dead, .dead, .dead, .dead, .dead, .dead, .dead, .dead, .dead, .dead, .dead, .dead, .dead, .dead, .dead, .dead, .dead, .dead, .dead, .dead, .dead, .dead], []⟩) else (bif (((verEq R4.length R4.length) && (decide ((0 : Int) ≤ i))) && (decide (i < (Int.ofNat R4.length)))) then (bif (verEq R4.length R4.length) then (Option.bind (R4[i.toNat]?) fun r3 => (bif (chk [LT.bool] r3) then (bif (!((cB r3 0) == (decide ((wr ((wr ((wr (t.1 - b1_0)) * (wr (t.1 - b1_0)))) + (wr ((wr (t.2 - b1_1)) * (wr (t.2 - b1_1)))))) ≤ (wr (most * most)))))) then (k .ret ⟨[.dead, .dead, .dead, .dead, .dead, .dead, .dead, .dead, (bo false), .dead, .dead, .dead, .dead, .dead, .dead, .dead, .dead, .dead, .dead, .dead, .dead, .dead, .dead, .dead, .dead, .dead, .dead, .dead, .dead, .dead, .dead, .dead, .dead, .dead, .dead, .dead, .dead, .dead, .dead, .dead, .dead, .dead, .dead, .dead, .dead, .dead, .dead, .dead, .dead, .dead, .dead, .dead, .dead, .dead, .dead, .dead, .dead, .dead, .dead, .dead, .dead, .dead, .dead, .dead, .dead, .dead, .dead, .dead, .dead, .dead, .dead, .dead, .dead, .dead, .dead, .dead, .dead, .dead, .dead, .dead, .dead, .dead, .dead, .dead, .dead, .dead, .dead, .dead, .dead, .dead, .dead, .dead, .dead, .dead, .dead, .dead, .dead, .dead, .dead, .dead, .dead, .dead, .dead, .dead, .dead, .dead, .dead, .dead, .dead, .dead, .dead, .dead, .dead, .dead, .dead, .dead, .dead, .dead, .dead, .dead, .dead, .dead, .dead, .dead, .dead, .dead, .dead, .dead, .dead, .dead, .dead, .dead, .dead, .dead, .dead, .dead, .dead, .dead, .dead, .dead, .dead, .dead, .dead, .dead, .dead, .dead, .dead, .dead, .dead, .dead, .dead, .dead, .dead, .dead, .dead, .dead, .dead, .dead, .dead, .dead, .dead, .dead, .dead, .dead, .dead, .dead], []⟩) else (bif (((verEq R2.length R2.length) && (decide ((0 : Int) ≤ i))) && (decide (i < (Int.ofNat R2.length)))) then (bif (verEq R2.length R2.length) then (Option.bind (R2[i.toNat]?) fun r4 => (bif (chk [LT.bool] r4) then (bif (((verEq R3.length R3.length) && (decide ((0 : Int) ≤ i))) && (decide (i < (Int.ofNat R3.length)))) then (bif (verEq R3.length R3.length) then (Option.bind (R3[i.toNat]?) fun r5 => (bif (chk [LT.bool] r5) then (bif (cB r5 0) then (bif (((verEq R4.length R4.length) && (decide ((0 : Int) ≤ i))) && (decide (i < (Int.ofNat R4.length)))) then (bif (verEq R4.length R4.length) then (Option.bind (R4[i.toNat]?) fun r6 => (bif (chk [LT.bool] r6) then (bif (!((cB r4 0) == (cB r6 0))) then (k .ret ⟨[.dead, .dead, .dead, .dead, .dead, .dead, .dead, .dead, (bo false), .dead, .dead, .dead, .dead, .dead, .dead, .dead, .dead, .dead, .dead, .dead, .dead, .dead, .dead, .dead, .dead, .dead, .dead, .dead, .dead, .dead, .dead, .dead, .dead, .dead, .dead, .dead, .dead, .dead, .dead, .dead, .dead, .dead, .dead, .dead, .dead, .dead, .dead, .dead, .dead, .dead, .dead, .dead, .dead, .dead, .dead, .dead, .dead, .dead, .dead, .dead, .dead, .dead, .dead, .dead, .dead, .dead, .dead, .dead, .dead, .dead, .dead, .dead, .dead, .dead, .dead, .dead, .dead, .dead, .dead, .dead, .dead, .dead, .dead, .dead, .dead, .dead, .dead, .dead, .dead, .dead, .dead, .dead, .dead, .dead, .dead, .dead, .dead, .dead, .dead, .dead, .dead, .dead, .dead, .dead, .dead, .dead, .dead, .dead, .dead, .dead, .dead, .dead, .dead, .dead, .dead, .dead, .dead, .dead, .dead, .dead, .dead, .dead, .dead, .dead, .dead, .dead, .dead, .dead, .dead, .dead, .dead, .dead, .dead, .dead, .dead, .dead, .dead, .dead, .dead, .dead, .dead, .dead, .dead, .dead, .dead, .dead, .dead, .dead, .dead, .dead, .dead, .dead, .dead, .dead, .dead, .dead, .dead, .dead, .dead, .dead, .dead, .dead, .dead, .dead, .dead, .dead], []⟩) else (loopN B8_0 m ⟨[.dead, .dead, .dead, .dead, (AVal.ref 16000 1 0 0), (AVal.ref 16016 1 0 0), .dead, .dead, .dead, (AVal.slc 25696 R2.length), (AVal.slc 25808 R3.length), (AVal.slc 25920 R4.length), (i64 most), (i64 (wr (i + (1 : Int)))), .dead, .dead, .dead, .dead, .dead, .dead, .dead, .dead, .dead, .dead, .dead, .dead, .dead, .dead, .dead, .dead, .dead, .dead, .dead, .dead, .dead, .dead, .dead, .dead, .dead, .dead, .dead, .dead, .dead, .dead, .dead, .dead, .dead, .dead, .dead, .dead, .dead, .dead, .dead, .dead, .dead, .dead, .dead, .dead, .dead, .dead, .dead, .dead, .dead, .dead, .dead, .dead, .dead, .dead, .dead, .dead, .dead, .dead, .dead, .dead, .dead, .dead, .dead, .dead, .dead, .dead, .dead, .dead, .dead, .dead, .dead, .dead, .dead, .dead, .dead, .dead, .dead, .dead, .dead, .dead, .dead, .dead, .dead, .dead, .dead, .dead, .dead, .dead, .dead, .dead, .dead, .dead, .dead, .dead, .dead, .dead, .dead, .dead, .dead, .dead, .dead, .dead, .dead, .dead, .dead, .dead, .dead, .dead, .dead, .dead, .dead, .dead, .dead, .dead, .dead, .dead, .dead, .dead, .dead, .dead, .dead, .dead, .dead, .dead, .dead, .dead, .dead, .dead, .dead, .dead, .dead, .dead, .dead, .dead, .dead, .dead, .dead, .dead, .dead, .dead, .dead, .dead, .dead, .dead, .dead, .dead, .dead, .dead, .dead, .dead, .dead, .dead], [(Prod.mk 16000 (Blk.mk BKind.box 24 3 [[(i64 b0_0), (i64 b0_1), (AVal.ro 3 b0_2)]])), (Prod.mk 16016 (Blk.mk BKind.box 26 2 [[(i64 b1_0), (i64 b1_1)]])), (Prod.mk 25696 (Blk.mk BKind.arr 4 1 R2)), (Prod.mk 25808 (Blk.mk BKind.arr 4 1 R3)), (Prod.mk 25920 (Blk.mk BKind.arr 4 1 R4))]⟩ (K8_0 k))) else none)) else none) else none) else (bif (!((cB r4 0) == false)) then (k .ret ⟨[.dead, .dead, .dead, .dead, .dead, .dead, .dead, .dead, (bo false), .dead, .dead, .dead, .dead, .dead, .dead, .dead, .dead, .dead, .dead, .dead, .dead, .dead, .dead, .dead, .dead, .dead, .dead, .dead, .dead, .dead, .dead, .dead, .dead, .dead, .dead, .dead, .dead, .dead, .dead, .dead, .dead, .dead, .dead, .dead, .dead, .dead, .dead, .dead, .dead, .dead, .dead, .dead, .dead, .dead, .dead, .dead, .dead, .dead, .dead, .dead, .dead, .dead, .dead, .dead, .dead, .dead, .dead, .dead, .dead, .dead, .dead, .dead, .dead, .dead, .dead, .dead, .dead, .dead, .dead, .dead, .dead, .dead, .dead, .dead, .dead, .dead, .dead, .dead, .dead, .dead, .dead, .dead, .dead, .dead, .dead, .dead, .dead, .dead, .dead, .dead, .dead, .dead, .dead, .dead, .dead, .dead, .dead, .dead, .dead, .dead, .dead, .dead, .dead, .dead, .dead, .dead, .dead, .dead, .dead, .dead, .dead, .dead, .dead, .dead, .dead, .dead, .dead, .dead, .dead, .dead, .dead, .dead, .dead, .dead, .dead, .dead, .dead, .dead, .dead, .dead, .dead, .dead, .dead, .dead, .dead, .dead, .dead, .dead, .dead, .dead, .dead, .dead, .dead, .dead, .dead, .dead, .dead, .dead, .dead, .dead, .dead, .dead, .dead, .dead, .dead, .dead], []⟩) else (loopN B8_0 m ⟨[.dead, .dead, .dead, .dead, (AVal.ref 16000 1 0 0), (AVal.ref 16016 1 0 0), .dead, .dead, .dead, (AVal.slc 25696 R2.length), (AVal.slc 25808 R3.length), (AVal.slc 25920 R4.length), (i64 most), (i64 (wr (i + (1 : Int)))), .dead, .dead, .dead, .dead, .dead, .dead, .dead, .dead, .dead, .dead, .dead, .dead, .dead, .dead, .dead, .dead, .dead, .dead, .dead, .dead, .dead, .dead, .dead, .dead, .dead, .dead, .dead, .dead, .dead, .dead, .dead, .dead, .dead, .dead, .dead, .dead, .dead, .dead, .dead, .dead, .dead, .dead, .dead, .dead, .dead, .dead, .dead, .dead, .dead, .dead, .dead, .dead, .dead, .dead, .dead, .dead, .dead, .dead, .dead, .dead, .dead, .dead, .dead, .dead, .dead, .dead, .dead, .dead, .dead, .dead, .dead, .dead, .dead, .dead, .dead, .dead, .dead, .dead, .dead, .dead, .dead, .dead, .dead, .dead, .dead, .dead, .dead, .dead, .dead, .dead, .dead, .dead, .dead, .dead, .dead, .dead, .dead, .dead, .dead, .dead, .dead, .dead, .dead, .dead, .dead, .dead, .dead, .dead, .dead, .dead, .dead, .dead, .dead, .dead, .dead, .dead, .dead, .dead, .dead, .dead, .dead, .dead, .dead, .dead, .dead, .dead, .dead, .dead, .dead, .dead, .dead, .dead, .dead, .dead, .dead, .dead, .dead, .dead, .dead, .dead, .dead, .dead, .dead, .dead, .dead, .dead, .dead, .dead, .dead, .dead, .dead, .dead], [(Prod.mk 16000 (Blk.mk BKind.box 24 3 [[(i64 b0_0), (i64 b0_1), (AVal.ro 3 b0_2)]])), (Prod.mk 16016 (Blk.mk BKind.box 26 2 [[(i64 b1_0), (i64 b1_1)]])), (Prod.mk 25696 (Blk.mk BKind.arr 4 1 R2)), (Prod.mk 25808 (Blk.mk BKind.arr 4 1 R3)), (Prod.mk 25920 (Blk.mk BKind.arr 4 1 R4))]⟩ (K8_0 k)))) else none)) else none) else none) else none)) else none) else none)) else none)) else none) else none)) else none)) else none) else none)) else none)) else none) else none) else (bif (((verEq R4.length R4.length) && (decide ((0 : Int) ≤ i))) && (decide (i < (Int.ofNat R4.length)))) then (bif (verEq R4.length R4.length) then (Option.bind (R4[i.toNat]?) fun r7 => (bif (chk [LT.bool] r7) then (bif (!((cB r7 0) == (decide ((wr ((wr ((wr (t.1 - b1_0)) * (wr (t.1 - b1_0)))) + (wr ((wr (t.2 - b1_1)) * (wr (t.2 - b1_1)))))) ≤ (wr (most * most)))))) then (k .ret ⟨[.dead, .dead, .dead, .dead, .dead, .dead, .dead, .dead, (bo false), .dead, .dead, .dead, .dead, .dead, .dead, .dead, .dead, .dead, .dead, .dead, .dead, .dead, .dead, .dead, .dead, .dead, .dead, .dead, .dead, .dead, .dead, .dead, .dead, .dead, .dead, .dead, .dead, .dead, .dead, .dead, .dead, .dead, .dead, .dead, .dead, .dead, .dead, .dead, .dead, .dead, .dead, .dead, .dead, .dead, .dead, .dead, .dead, .dead, .dead, .dead, .dead, .dead, .dead, .dead, .dead, .dead, .dead, .dead, .dead, .dead, .dead, .dead, .dead, .dead, .dead, .dead, .dead, .dead, .dead, .dead, .dead, .dead, .dead, .dead, .dead, .dead, .dead, .dead, .dead, .dead, .dead, .dead, .dead, .dead, .dead, .dead, .dead, .dead, .dead, .dead, .dead, .dead, .dead, .dead, .dead, .dead, .dead, .dead, .dead, .dead, .dead, .dead, .dead, .dead, .dead, .dead, .dead, .dead, .dead, .dead, .dead, .dead, .dead, .dead, .dead, .dead, .dead, .dead, .dead, .dead, .dead, .dead, .dead, .dead, .dead, .dead, .dead, .dead, .dead, .dead, .dead, .dead, .dead, .dead, .dead, .dead, .dead, .dead, .dead, .dead, .dead, .dead, .dead, .dead, .dead, .dead, .dead, .dead, .dead, .dead, .dead, .dead, .dead, .dead, .dead, .dead], []⟩) else (bif (((verEq R2.length R2.length) && (decide ((0 : Int) ≤ i))) && (decide (i < (Int.ofNat R2.length)))) then (bif (verEq R2.length R2.length) then (Option.bind (R2[i.toNat]?) fun r8 => (bif (chk [LT.bool] r8) then (bif (((verEq R3.length R3.length) && (decide ((0 : Int) ≤ i))) && (decide (i < (Int.ofNat R3.length)))) then (bif (verEq R3.length R3.length) then (Option.bind (R3[i.toNat]?) fun r9 => (bif (chk [LT.bool] r9) then (bif (cB r9 0) then (bif (((verEq R4.length R4.length) && (decide ((0 : Int) ≤ i))) && (decide (i < (Int.ofNat R4.length)))) then (bif (verEq R4.length R4.length) then (Option.bind (R4[i.toNat]?) fun r10 => (bif (chk [LT.bool] r10) then (bif (!((cB r8 0) == (cB r10 0))) then (k .ret ⟨[.dead, .dead, .dead, .dead, .dead, .dead, .dead, .dead, (bo false), .dead, .dead, .dead, .dead, .dead, .dead, .dead, .dead, .dead, .dead, .dead, .dead, .dead, .dead, .dead, .dead, .dead, .dead, .dead, .dead, .dead, .dead, .dead, .dead, .dead, .dead, .dead, .dead, .dead, .dead, .dead, .dead, .dead, .dead, .dead, .dead, .dead, .dead, .dead, .dead, .dead, .dead, .dead, .dead, .dead, .dead, .dead, .dead, .dead, .dead, .dead, .dead, .dead, .dead, .dead, .dead, .dead, .dead, .dead, .dead, .dead, .dead, .dead, .dead, .dead, .dead, .dead, .dead, .dead, .dead, .dead, .dead, .dead, .dead, .dead, .dead, .dead, .dead, .dead, .dead, .dead, .dead, .dead, .dead, .dead, .dead, .dead, .dead, .dead, .dead, .dead, .dead, .dead, .dead, .dead, .dead, .dead, .dead, .dead, .dead, .dead, .dead, .dead, .dead, .dead, .dead, .dead, .dead, .dead, .dead, .dead, .dead, .dead, .dead, .dead, .dead, .dead, .dead, .dead, .dead, .dead, .dead, .dead, .dead, .dead, .dead, .dead, .dead, .dead, .dead, .dead, .dead, .dead, .dead, .dead, .dead, .dead, .dead, .dead, .dead, .dead, .dead, .dead, .dead, .dead, .dead, .dead, .dead, .dead, .dead, .dead, .dead, .dead, .dead, .dead, .dead, .dead], []⟩) else (loopN B8_0 m ⟨[.dead, .dead, .dead, .dead, (AVal.ref 16000 1 0 0), (AVal.ref 16016 1 0 0), .dead, .dead, .dead, (AVal.slc 25696 R2.length), (AVal.slc 25808 R3.length), (AVal.slc 25920 R4.length), (i64 most), (i64 (wr (i + (1 : Int)))), .dead, .dead, .dead, .dead, .dead, .dead, .dead, .dead, .dead, .dead, .dead, .dead, .dead, .dead, .dead, .dead, .dead, .dead, .dead, .dead, .dead, .dead, .dead, .dead, .dead, .dead, .dead, .dead, .dead, .dead, .dead, .dead, .dead, .dead, .dead, .dead, .dead, .dead, .dead, .dead, .dead, .dead, .dead, .dead, .dead, .dead, .dead, .dead, .dead, .dead, .dead, .dead, .dead, .dead, .dead, .dead, .dead, .dead, .dead, .dead, .dead, .dead, .dead, .dead, .dead, .dead, .dead, .dead, .dead, .dead, .dead, .dead, .dead, .dead, .dead, .dead, .dead, .dead, .dead, .dead, .dead, .dead, .dead, .dead, .dead, .dead, .dead, .dead, .dead, .dead, .dead, .dead, .dead, .dead, .dead, .dead, .dead, .dead, .dead, .dead, .dead, .dead, .dead, .dead, .dead, .dead, .dead, .dead, .dead, .dead, .dead, .dead, .dead, .dead, .dead, .dead, .dead, .dead, .dead, .dead, .dead, .dead, .dead, .dead, .dead, .dead, .dead, .dead, .dead, .dead, .dead, .dead, .dead, .dead, .dead, .dead, .dead, .dead, .dead, .dead, .dead, .dead, .dead, .dead, .dead, .dead, .dead, .dead, .dead, .dead, .dead, .dead], [(Prod.mk 16000 (Blk.mk BKind.box 24 3 [[(i64 b0_0), (i64 b0_1), (AVal.ro 3 b0_2)]])), (Prod.mk 16016 (Blk.mk BKind.box 26 2 [[(i64 b1_0), (i64 b1_1)]])), (Prod.mk 25696 (Blk.mk BKind.arr 4 1 R2)), (Prod.mk 25808 (Blk.mk BKind.arr 4 1 R3)), (Prod.mk 25920 (Blk.mk BKind.arr 4 1 R4))]⟩ (K8_0 k))) else none)) else none) else none) else (bif (!((cB r8 0) == false)) then (k .ret ⟨[.dead, .dead, .dead, .dead, .dead, .dead, .dead, .dead, (bo false), .dead, .dead, .dead, .dead, .dead, .dead, .dead, .dead, .dead, .dead, .dead, .dead, .dead, .dead, .dead, .dead, .dead, .dead, .dead, .dead, .dead, .dead, .dead, .dead, .dead, .dead, .dead, .dead, .dead, .dead, .dead, .dead, .dead, .dead, .dead, .dead, .dead, .dead, .dead, .dead, .dead, .dead, .dead, .dead, .dead, .dead, .dead, .dead, .dead, .dead, .dead, .dead, .dead, .dead, .dead, .dead, .dead, .dead, .dead, .dead, .dead, .dead, .dead, .dead, .dead, .dead, .dead, .dead, .dead, .dead, .dead, .dead, .dead, .dead, .dead, .dead, .dead, .dead, .dead, .dead, .dead, .dead, .dead, .dead, .dead, .dead, .dead, .dead, .dead, .dead, .dead, .dead, .dead, .dead, .dead, .dead, .dead, .dead, .dead, .dead, .dead, .dead, .dead, .dead, .dead, .dead, .dead, .dead, .dead, .dead, .dead, .dead, .dead, .dead, .dead, .dead, .dead, .dead, .dead, .dead, .dead, .dead, .dead, .dead, .dead, .dead, .dead, .dead, .dead, .dead, .dead, .dead, .dead, .dead, .dead, .dead, .dead, .dead, .dead, .dead, .dead, .dead, .dead, .dead, .dead, .dead, .dead, .dead, .dead, .dead, .dead, .dead, .dead, .dead, .dead, .dead, .dead], []⟩) else (loopN B8_0 m ⟨[.dead, .dead, .dead, .dead, (AVal.ref 16000 1 0 0), (AVal.ref 16016 1 0 0), .dead, .dead, .dead, (AVal.slc 25696 R2.length), (AVal.slc 25808 R3.length), (AVal.slc 25920 R4.length), (i64 most), (i64 (wr (i + (1 : Int)))), .dead, .dead, .dead, .dead, .dead, .dead, .dead, .dead, .dead, .dead, .dead, .dead, .dead, .dead, .dead, .dead, .dead, .dead, .dead, .dead, .dead, .dead, .dead, .dead, .dead, .dead, .dead, .dead, .dead, .dead, .dead, .dead, .dead, .dead, .dead, .dead, .dead, .dead, .dead, .dead, .dead, .dead, .dead, .dead, .dead, .dead, .dead, .dead, .dead, .dead, .dead, .dead, .dead, .dead, .dead, .dead, .dead, .dead, .dead, .dead, .dead, .dead, .dead, .dead, .dead, .dead, .dead, .dead, .dead, .dead, .dead, .dead, .dead, .dead, .dead, .dead, .dead, .dead, .dead, .dead, .dead, .dead, .dead, .dead, .dead, .dead, .dead, .dead, .dead, .dead, .dead, .dead, .dead, .dead, .dead, .dead, .dead, .dead, .dead, .dead, .dead, .dead, .dead, .dead, .dead, .dead, .dead, .dead, .dead, .dead, .dead, .dead, .dead, .dead, .dead, .dead, .dead, .dead, .dead, .dead, .dead, .dead, .dead, .dead, .dead, .dead, .dead, .dead, .dead, .dead, .dead, .dead, .dead, .dead, .dead, .dead, .dead, .dead, .dead, .dead, .dead, .dead, .dead, .dead, .dead, .dead, .dead, .dead, .dead, .dead, .dead, .dead], [(Prod.mk 16000 (Blk.mk BKind.box 24 3 [[(i64 b0_0), (i64 b0_1), (AVal.ro 3 b0_2)]])), (Prod.mk 16016 (Blk.mk BKind.box 26 2 [[(i64 b1_0), (i64 b1_1)]])), (Prod.mk 25696 (Blk.mk BKind.arr 4 1 R2)), (Prod.mk 25808 (Blk.mk BKind.arr 4 1 R3)), (Prod.mk 25920 (Blk.mk BKind.arr 4 1 R4))]⟩ (K8_0 k)))) else none)) else none) else none) else none)) else none) else none)) else none)) else none) else none)) else none)) else none) else none)) else (k (.exit 0) ⟨[.dead, .dead, .dead, .dead, .dead, .dead, .dead, .dead, .dead, .dead, .dead, .dead, .dead, .dead, .dead, .dead, .dead, .dead, .dead, .dead, .dead, .dead, .dead, .dead, .dead, .dead, .dead, .dead, .dead, .dead, .dead, .dead, .dead, .dead, .dead, .dead, .dead, .dead, .dead, .dead, .dead, .dead, .dead, .dead, .dead, .dead, .dead, .dead, .dead, .dead, .dead, .dead, .dead, .dead, .dead, .dead, .dead, .dead, .dead, .dead, .dead, .dead, .dead, .dead, .dead, .dead, .dead, .dead, .dead, .dead, .dead, .dead, .dead, .dead, .dead, .dead, .dead, .dead, .dead, .dead, .dead, .dead, .dead, .dead, .dead, .dead, .dead, .dead, .dead, .dead, .dead, .dead, .dead, .dead, .dead, .dead, .dead, .dead, .dead, .dead, .dead, .dead, .dead, .dead, .dead, .dead, .dead, .dead, .dead, .dead, .dead, .dead, .dead, .dead, .dead, .dead, .dead, .dead, .dead, .dead, .dead, .dead, .dead, .dead, .dead, .dead, .dead, .dead, .dead, .dead, .dead, .dead, .dead, .dead, .dead, .dead, .dead, .dead, .dead, .dead, .dead, .dead, .dead, .dead, .dead, .dead, .dead, .dead, .dead, .dead, .dead, .dead, .dead, .dead, .dead, .dead, .dead, .dead, .dead, .dead, .dead, .dead, .dead, .dead, .dead, .dead], []⟩)) else none)) (by kernel_rfl)
      (n_true (verEq_rfl _) (n_condH rfl (fun h0 => (n_bind fun t => (n_condH (n_and (n_andL (verEq_rfl _) rfl) rfl) (fun h1 => (n_true (verEq_rfl _) (n_bind fun r => (n_condH rfl (fun h2 => (n_condH rfl (fun h3 => (n_condH (n_andL (n_andL (verEq_rfl _) (n_al h1)) rfl) (fun h4 => (n_true (verEq_rfl _) (n_bind fun r1 => (n_condH rfl (fun h5 => (n_condH rfl (fun h6 => rfl) fun h6 => (n_condH (n_andL (n_andL (verEq_rfl _) (n_al h1)) rfl) (fun h7 => (n_true (verEq_rfl _) (n_bind fun r2 => (n_condH rfl (fun h8 => (n_condH rfl (fun h9 => rfl) fun h9 => (n_true (n_andL (n_andL (verEq_rfl _) (n_al h1)) h7) (n_true (verEq_rfl _) (n_bind fun r3 => (n_condH rfl (fun h10 => (n_condH rfl (fun h11 => rfl) fun h11 => (n_true (n_andL (n_andL (verEq_rfl _) (n_al h1)) (n_ar h1)) (n_true (verEq_rfl _) (n_bind fun r4 => (n_condH rfl (fun h12 => (n_true (n_andL (n_andL (verEq_rfl _) (n_al h1)) h4) (n_true (verEq_rfl _) (n_bind fun r5 => (n_condH rfl (fun h13 => (n_condH rfl (fun h14 => (n_true (n_andL (n_andL (verEq_rfl _) (n_al h1)) h7) (n_true (verEq_rfl _) (n_bind fun r6 => (n_condH rfl (fun h15 => (n_condH rfl (fun h16 => rfl) fun h16 => (spec8_0 k m R2 R3 R4 most (wr (i + (1 : Int))) b0_0 b0_1 b0_2 b1_0 b1_1))) fun h15 => n_none))))) fun h14 => (n_condH rfl (fun h15 => rfl) fun h15 => (spec8_0 k m R2 R3 R4 most (wr (i + (1 : Int))) b0_0 b0_1 b0_2 b1_0 b1_1)))) fun h13 => n_none))))) fun h12 => n_none)))))) fun h10 => n_none)))))) fun h8 => n_none)))) fun h7 => n_none))) fun h5 => n_none)))) fun h4 => n_none)) fun h3 => (n_condH (n_andL (n_andL (verEq_rfl _) (n_al h1)) rfl) (fun h4 => (n_true (verEq_rfl _) (n_bind fun r7 => (n_condH rfl (fun h5 => (n_condH rfl (fun h6 => rfl) fun h6 => (n_true (n_andL (n_andL (verEq_rfl _) (n_al h1)) (n_ar h1)) (n_true (verEq_rfl _) (n_bind fun r8 => (n_condH rfl (fun h7 => (n_condH (n_andL (n_andL (verEq_rfl _) (n_al h1)) rfl) (fun h8 => (n_true (verEq_rfl _) (n_bind fun r9 => (n_condH rfl (fun h9 => (n_condH rfl (fun h10 => (n_true (n_andL (n_andL (verEq_rfl _) (n_al h1)) h4) (n_true (verEq_rfl _) (n_bind fun r10 => (n_condH rfl (fun h11 => (n_condH rfl (fun h12 => rfl) fun h12 => (spec8_0 k m R2 R3 R4 most (wr (i + (1 : Int))) b0_0 b0_1 b0_2 b1_0 b1_1))) fun h11 => n_none))))) fun h10 => (n_condH rfl (fun h11 => rfl) fun h11 => (spec8_0 k m R2 R3 R4 most (wr (i + (1 : Int))) b0_0 b0_1 b0_2 b1_0 b1_1)))) fun h9 => n_none)))) fun h8 => n_none)) fun h7 => n_none)))))) fun h5 => n_none)))) fun h4 => n_none))) fun h2 => n_none)))) fun h1 => n_none))) fun h0 => rfl))
theorem okL8_0 : LoopOk TT TU GL0 C7 ownF L8 (lp Try.f8 0) :=
  loopOk_of ks8_0 hs8_0 W8_0 FU (fun s k => (G_skirmishlaw12_ShadowGrows_0 (blkAt s.heap 2).2.rows (blkAt s.heap 3).2.rows (blkAt s.heap 4).2.rows (toI (cIa s.tmps 12)) (toI (cIa (rows0 (blkAt s.heap 0).2) 0)) (toI (cIa (rows0 (blkAt s.heap 1).2) 0)) (toI (cIa (rows0 (blkAt s.heap 1).2) 1)) FU (toI (cIa s.tmps 13))).bind (X8_0 k)) (fun s k => by kernel_rfl) (fun s k => spec8_0 k FU (blkAt s.heap 2).2.rows (blkAt s.heap 3).2.rows (blkAt s.heap 4).2.rows (toI (cIa s.tmps 12)) (toI (cIa s.tmps 13)) (toI (cIa (rows0 (blkAt s.heap 0).2) 0)) (toI (cIa (rows0 (blkAt s.heap 0).2) 1)) (roRows (cIa (rows0 (blkAt s.heap 0).2) 2)) (toI (cIa (rows0 (blkAt s.heap 1).2) 0)) (toI (cIa (rows0 (blkAt s.heap 1).2) 1)))
theorem run8 (m_W : Int) (m_H : Int) (m_Cells : List (List AVal)) (from__X : Int) (from__Y : Int) (r1 : Int) (s1 : Int) : fcall TT TU GL0 C7 ownF true L8 Try.f8 [(.agg [(.sc (.int .i64 m_W)), (.sc (.int .i64 m_H)), (.ro 3 m_Cells)]), (.agg [(.sc (.int .i64 from__X)), (.sc (.int .i64 from__Y))]), (.sc (.int .u8 r1)), (.sc (.int .u8 s1))] = (F_skirmishlaw12_ShadowGrows m_W m_H m_Cells from__X from__Y r1 s1).bind fun t => some (enc8 t) :=
  Eq.trans (b := (bif (decide ((Int.ofNat m_Cells.length) > (1024 : Int))) then (Option.bind F_skirmishlaw12_awake fun t => (some (CR.mk true (bo t) [] []))) else (Option.bind (F_skirmishref07_Valid m_W m_H m_Cells) fun t1 => (bif (!t1) then (Option.bind F_skirmishlaw12_awake fun t2 => (some (CR.mk true (bo t2) [] []))) else (Option.bind (F_skirmishref06_In m_W m_H from__X from__Y) fun t3 => (bif (!t3) then (Option.bind F_skirmishlaw12_awake fun t4 => (some (CR.mk true (bo t4) [] []))) else (Option.bind (F_shadow_Visible m_W m_H m_Cells from__X from__Y (wr (minI r1 s1)) false) fun t5 => (bif ((((true && (verEq t5.length t5.length)) && true) && true) && true) then (Option.bind (F_shadow_Visible m_W m_H m_Cells from__X from__Y (wr (maxI r1 s1)) false) fun t6 => (bif ((((true && (verEq t6.length t6.length)) && true) && true) && true) then (Option.bind (F_shadow_Visible m_W m_H m_Cells from__X from__Y (wr (minI r1 s1)) true) fun t7 => (bif ((((true && (verEq t7.length t7.length)) && true) && true) && true) then (bif (verEq t5.length t5.length) then (bif ((Int.ofNat t5.length) != (Int.ofNat m_Cells.length)) then (some (CR.mk true (bo false) [] [])) else (bif (verEq t6.length t6.length) then (bif (verEq t5.length t5.length) then (bif ((Int.ofNat t6.length) != (Int.ofNat t5.length)) then (some (CR.mk true (bo false) [] [])) else (bif (verEq t7.length t7.length) then (bif (verEq t5.length t5.length) then (bif ((Int.ofNat t7.length) != (Int.ofNat t5.length)) then (some (CR.mk true (bo false) [] [])) else (Option.bind (F_skirmishref06_Index m_W from__X from__Y) fun t8 => (bif (((verEq t5.length t5.length) && (decide ((0 : Int) ≤ t8))) && (decide (t8 < (Int.ofNat t5.length)))) then (bif (verEq t5.length t5.length) then (Option.bind (t5[t8.toNat]?) fun r => (bif (chk [LT.bool] r) then (bif (!(cB r 0)) then (some (CR.mk true (bo false) [] [])) else (bif (((true && (verEq t5.length (blkLen [(Prod.mk 16000 (Blk.mk BKind.box 24 3 [[(i64 m_W), (i64 m_H), (AVal.ro 3 m_Cells)]])), (Prod.mk 16016 (Blk.mk BKind.box 26 2 [[(i64 from__X), (i64 from__Y)]])), (Prod.mk 25696 (Blk.mk BKind.arr 4 1 t5)), (Prod.mk 25808 (Blk.mk BKind.arr 4 1 t6)), (Prod.mk 25920 (Blk.mk BKind.arr 4 1 t7))] 2))) && ((true && (verEq t6.length (blkLen [(Prod.mk 16000 (Blk.mk BKind.box 24 3 [[(i64 m_W), (i64 m_H), (AVal.ro 3 m_Cells)]])), (Prod.mk 16016 (Blk.mk BKind.box 26 2 [[(i64 from__X), (i64 from__Y)]])), (Prod.mk 25696 (Blk.mk BKind.arr 4 1 t5)), (Prod.mk 25808 (Blk.mk BKind.arr 4 1 t6)), (Prod.mk 25920 (Blk.mk BKind.arr 4 1 t7))] 3))) && ((true && (verEq t7.length (blkLen [(Prod.mk 16000 (Blk.mk BKind.box 24 3 [[(i64 m_W), (i64 m_H), (AVal.ro 3 m_Cells)]])), (Prod.mk 16016 (Blk.mk BKind.box 26 2 [[(i64 from__X), (i64 from__Y)]])), (Prod.mk 25696 (Blk.mk BKind.arr 4 1 t5)), (Prod.mk 25808 (Blk.mk BKind.arr 4 1 t6)), (Prod.mk 25920 (Blk.mk BKind.arr 4 1 t7))] 4))) && true))) && true) then (Option.bind (G_skirmishlaw12_ShadowGrows_0 t5 t6 t7 (minI (wr (minI r1 s1)) (32 : Int)) m_W from__X from__Y FU (0 : Int)) fun t9 => (bif t9 then (some (CR.mk true (bo false) [] [])) else (Option.bind F_skirmishlaw12_awake fun t10 => (some (CR.mk true (bo t10) [] []))))) else none)) else none)) else none) else none))) else none) else none)) else none) else none)) else none) else none)) else none)) else none)))))))) (by kernel_rfl)
    (n_condH rfl (fun h0 => (n_bind fun t => rfl)) fun h0 => (n_bind fun t1 => (n_condH rfl (fun h1 => (n_bind fun t2 => rfl)) fun h1 => (n_bind fun t3 => (n_condH rfl (fun h2 => (n_bind fun t4 => rfl)) fun h2 => (n_bind fun t5 => (n_true (n_andL (n_andL (n_andL (n_andL rfl (verEq_rfl _)) rfl) rfl) rfl) (n_bind fun t6 => (n_true (n_andL (n_andL (n_andL (n_andL rfl (verEq_rfl _)) rfl) rfl) rfl) (n_bind fun t7 => (n_true (n_andL (n_andL (n_andL (n_andL rfl (verEq_rfl _)) rfl) rfl) rfl) (n_true (verEq_rfl _) (n_condH rfl (fun h3 => rfl) fun h3 => (n_true (verEq_rfl _) (n_true (verEq_rfl _) (n_condH rfl (fun h4 => rfl) fun h4 => (n_true (verEq_rfl _) (n_true (verEq_rfl _) (n_condH rfl (fun h5 => rfl) fun h5 => (n_bind fun t8 => (n_condH (n_and (n_andL (verEq_rfl _) rfl) rfl) (fun h6 => (n_true (verEq_rfl _) (n_bind fun r => (n_condH rfl (fun h7 => (n_condH rfl (fun h8 => rfl) fun h8 => (n_true (n_andL (n_andL (n_andL rfl (by first | exact verEq_of rfl | simp [verEq, blkLen, blkAt])) (n_andL (n_andL rfl (by first | exact verEq_of rfl | simp [verEq, blkLen, blkAt])) (n_andL (n_andL rfl (by first | exact verEq_of rfl | simp [verEq, blkLen, blkAt])) rfl))) rfl) (n_bind fun t9 => (n_condH rfl (fun h9 => rfl) fun h9 => (n_bind fun t10 => rfl)))))) fun h7 => n_none)))) fun h6 => n_none)))))))))))))))))))))
theorem lib8 : Lib Try.prog GL0 C8 :=
  Lib.fn lib7 mixed TT_ok Try.func8 (by decide +kernel) (by kernel_rfl) true L8 (loops_of 1 (by kernel_rfl) (belowS below0 okL8_0)) ks8 (F := fun us => F_skirmishlaw12_ShadowGrows (toI (cIa (aggL (cIa us 0)) 0)) (toI (cIa (aggL (cIa us 0)) 1)) (roRows (cIa (aggL (cIa us 0)) 2)) (toI (cIa (aggL (cIa us 1)) 0)) (toI (cIa (aggL (cIa us 1)) 1)) (toI (cIa us 2)) (toI (cIa us 3))) (fun us => rfl) (fun us => run8 (toI (cIa (aggL (cIa us 0)) 0)) (toI (cIa (aggL (cIa us 0)) 1)) (roRows (cIa (aggL (cIa us 0)) 2)) (toI (cIa (aggL (cIa us 1)) 0)) (toI (cIa (aggL (cIa us 1)) 1)) (toI (cIa us 2)) (toI (cIa us 3))) (fun t => rfl)

/-! ### 42: skirmish/skirmishref07.with -/



/-- 'skirmish/skirmishref07.with' -/
noncomputable def F_skirmishref07_with (m_W : Int) (m_H : Int) (m_Cells : List (List AVal)) (p_X : Int) (p_Y : Int) (c_Kind : Int) (c_Height : Int) (c_Amount : Int) : Option (List (List AVal) × Int × Int) :=
  bif (roomOk (0 + m_Cells.length) 24) then
    Option.bind (F_skirmishref06_Index m_W p_X p_Y) fun t =>
    bif ((decide ((0 : Int) ≤ t)) && (decide (t < (Int.ofNat m_Cells.length)))) then
      some ((List.set m_Cells t.toNat [(i64 c_Kind), (i64 c_Height), (i64 c_Amount)]), m_W, m_H)
    else
    none
  else
  none
noncomputable def enc42 (t : List (List AVal) × Int × Int) : CR := ⟨true, (.agg [(.sc (.int .i64 t.2.1)), (.sc (.int .i64 t.2.2)), (.slc 0 (t.1).length)]), [], [⟨.arr, 46, 3, t.1⟩]⟩
noncomputable def ks42 : List SK := [.agg [.int .i64, .int .i64, .ro 3], .agg [.int .i64, .int .i64], .agg [.int .i64, .int .i64, .int .i64]]
noncomputable def S42 (us : List AVal) : Call := bif chkA ks42 us then Call.of (F_skirmishref07_with (toI (cIa (aggL (cIa us 0)) 0)) (toI (cIa (aggL (cIa us 0)) 1)) (roRows (cIa (aggL (cIa us 0)) 2)) (toI (cIa (aggL (cIa us 1)) 0)) (toI (cIa (aggL (cIa us 1)) 1)) (toI (cIa (aggL (cIa us 2)) 0)) (toI (cIa (aggL (cIa us 2)) 1)) (toI (cIa (aggL (cIa us 2)) 2))) enc42 else Call.none
noncomputable def C42 := AI.ext 42 S42 C8

theorem run42 (m_W : Int) (m_H : Int) (m_Cells : List (List AVal)) (p_X : Int) (p_Y : Int) (c_Kind : Int) (c_Height : Int) (c_Amount : Int) : fcall TT TU GL0 C8 ownF true noL Try.f42 [(.agg [(.sc (.int .i64 m_W)), (.sc (.int .i64 m_H)), (.ro 3 m_Cells)]), (.agg [(.sc (.int .i64 p_X)), (.sc (.int .i64 p_Y))]), (.agg [(.sc (.int .i64 c_Kind)), (.sc (.int .i64 c_Height)), (.sc (.int .i64 c_Amount))])] = (F_skirmishref07_with m_W m_H m_Cells p_X p_Y c_Kind c_Height c_Amount).bind fun t => some (enc42 t) :=
  Eq.trans (b := (bif (roomOk (0 + m_Cells.length) 24) then (Option.bind (F_skirmishref06_Index m_W p_X p_Y) fun t => (bif (((verEq m_Cells.length m_Cells.length) && (decide ((0 : Int) ≤ t))) && (decide (t < (Int.ofNat m_Cells.length)))) then (bif ((((verEq m_Cells.length m_Cells.length) && true) && true) && true) then (bif (verEq (Blk.rows (Blk.mk BKind.arr 46 3 (List.set m_Cells t.toNat [(i64 c_Kind), (i64 c_Height), (i64 c_Amount)]))).length m_Cells.length) then (some (CR.mk true (AVal.agg [(i64 m_W), (i64 m_H), (AVal.slc 0 (Blk.rows (Blk.mk BKind.arr 46 3 (List.set m_Cells t.toNat [(i64 c_Kind), (i64 c_Height), (i64 c_Amount)]))).length)]) [] [(Blk.mk BKind.arr 46 3 (List.set m_Cells t.toNat [(i64 c_Kind), (i64 c_Height), (i64 c_Amount)]))])) else none) else none) else none)) else none)) (by kernel_rfl)
    (n_condH rfl (fun h0 => (n_bind fun t => (n_condH (n_and (n_andL (verEq_rfl _) rfl) rfl) (fun h1 => (n_true (n_andL (n_andL (n_andL (verEq_rfl _) rfl) rfl) rfl) (n_true (by first | exact verEq_of rfl | simp [verEq, blkLen, blkAt]) rfl))) fun h1 => n_none))) fun h0 => n_none)
theorem lib42 : Lib Try.prog GL0 C42 :=
  Lib.fn lib8 mixed TT_ok Try.func42 (by decide +kernel) (by kernel_rfl) true noL (loops_of 0 (by kernel_rfl) below0) ks42 (F := fun us => F_skirmishref07_with (toI (cIa (aggL (cIa us 0)) 0)) (toI (cIa (aggL (cIa us 0)) 1)) (roRows (cIa (aggL (cIa us 0)) 2)) (toI (cIa (aggL (cIa us 1)) 0)) (toI (cIa (aggL (cIa us 1)) 1)) (toI (cIa (aggL (cIa us 2)) 0)) (toI (cIa (aggL (cIa us 2)) 1)) (toI (cIa (aggL (cIa us 2)) 2))) (fun us => rfl) (fun us => run42 (toI (cIa (aggL (cIa us 0)) 0)) (toI (cIa (aggL (cIa us 0)) 1)) (roRows (cIa (aggL (cIa us 0)) 2)) (toI (cIa (aggL (cIa us 1)) 0)) (toI (cIa (aggL (cIa us 1)) 1)) (toI (cIa (aggL (cIa us 2)) 0)) (toI (cIa (aggL (cIa us 2)) 1)) (toI (cIa (aggL (cIa us 2)) 2))) (fun t => rfl)

/-! ### 24: skirmish/skirmishref07.Set -/



/-- 'skirmish/skirmishref07.Set' -/
noncomputable def F_skirmishref07_Set (m_W : Int) (m_H : Int) (m_Cells : List (List AVal)) (p_X : Int) (p_Y : Int) (c_Kind : Int) (c_Height : Int) (c_Amount : Int) : Option (List (List AVal) × Int × Int × Int) :=
  Option.bind (F_skirmishref07_Valid m_W m_H m_Cells) fun t =>
  bif (!t) then
    some ([], (0 : Int), (0 : Int), (1 : Int))
  else
  Option.bind (F_skirmishref07_ValidCell c_Kind c_Height c_Amount) fun t1 =>
  bif (!t1) then
    some ([], (0 : Int), (0 : Int), (1 : Int))
  else
  Option.bind (F_skirmishref07_Inside m_W m_H m_Cells p_X p_Y) fun t2 =>
  bif (!t2) then
    some ([], (0 : Int), (0 : Int), (8 : Int))
  else
  Option.bind (F_skirmishref07_with m_W m_H m_Cells p_X p_Y c_Kind c_Height c_Amount) fun t3 =>
  some (t3.1, t3.2.1, t3.2.2, (0 : Int))
noncomputable def enc24 (t : List (List AVal) × Int × Int × Int) : CR := ⟨true, (.tup [(.agg [(.sc (.int .i64 t.2.1)), (.sc (.int .i64 t.2.2.1)), (.slc 0 (t.1).length)]), (.sc (.int .i64 t.2.2.2))]), [], [⟨.arr, 46, 3, t.1⟩]⟩
noncomputable def ks24 : List SK := [.agg [.int .i64, .int .i64, .ro 3], .agg [.int .i64, .int .i64], .agg [.int .i64, .int .i64, .int .i64]]
noncomputable def S24 (us : List AVal) : Call := bif chkA ks24 us then Call.of (F_skirmishref07_Set (toI (cIa (aggL (cIa us 0)) 0)) (toI (cIa (aggL (cIa us 0)) 1)) (roRows (cIa (aggL (cIa us 0)) 2)) (toI (cIa (aggL (cIa us 1)) 0)) (toI (cIa (aggL (cIa us 1)) 1)) (toI (cIa (aggL (cIa us 2)) 0)) (toI (cIa (aggL (cIa us 2)) 1)) (toI (cIa (aggL (cIa us 2)) 2))) enc24 else Call.none
noncomputable def C24 := AI.ext 24 S24 C42

theorem run24 (m_W : Int) (m_H : Int) (m_Cells : List (List AVal)) (p_X : Int) (p_Y : Int) (c_Kind : Int) (c_Height : Int) (c_Amount : Int) : fcall TT TU GL0 C42 ownF true noL Try.f24 [(.agg [(.sc (.int .i64 m_W)), (.sc (.int .i64 m_H)), (.ro 3 m_Cells)]), (.agg [(.sc (.int .i64 p_X)), (.sc (.int .i64 p_Y))]), (.agg [(.sc (.int .i64 c_Kind)), (.sc (.int .i64 c_Height)), (.sc (.int .i64 c_Amount))])] = (F_skirmishref07_Set m_W m_H m_Cells p_X p_Y c_Kind c_Height c_Amount).bind fun t => some (enc24 t) :=
  Eq.trans (b := (Option.bind (F_skirmishref07_Valid m_W m_H m_Cells) fun t => (bif (!t) then (some (CR.mk true (AVal.tup [(AVal.agg [(i64 (0 : Int)), (i64 (0 : Int)), (AVal.slc 0 0)]), (i64 (1 : Int))]) [] [(Blk.mk BKind.arr 46 3 [])])) else (Option.bind (F_skirmishref07_ValidCell c_Kind c_Height c_Amount) fun t1 => (bif (!t1) then (some (CR.mk true (AVal.tup [(AVal.agg [(i64 (0 : Int)), (i64 (0 : Int)), (AVal.slc 0 0)]), (i64 (1 : Int))]) [] [(Blk.mk BKind.arr 46 3 [])])) else (Option.bind (F_skirmishref07_Inside m_W m_H m_Cells p_X p_Y) fun t2 => (bif (!t2) then (some (CR.mk true (AVal.tup [(AVal.agg [(i64 (0 : Int)), (i64 (0 : Int)), (AVal.slc 0 0)]), (i64 (8 : Int))]) [] [(Blk.mk BKind.arr 46 3 [])])) else (Option.bind (F_skirmishref07_with m_W m_H m_Cells p_X p_Y c_Kind c_Height c_Amount) fun t3 => (bif ((((true && (verEq t3.1.length t3.1.length)) && true) && true) && true) then (bif (verEq t3.1.length t3.1.length) then (some (CR.mk true (AVal.tup [(AVal.agg [(i64 t3.2.1), (i64 t3.2.2), (AVal.slc 0 t3.1.length)]), (i64 (0 : Int))]) [] [(Blk.mk BKind.arr 46 3 t3.1)])) else none) else none))))))))) (by kernel_rfl)
    (n_bind fun t => (n_condH rfl (fun h0 => rfl) fun h0 => (n_bind fun t1 => (n_condH rfl (fun h1 => rfl) fun h1 => (n_bind fun t2 => (n_condH rfl (fun h2 => rfl) fun h2 => (n_bind fun t3 => (n_true (n_andL (n_andL (n_andL (n_andL rfl (verEq_rfl _)) rfl) rfl) rfl) (n_true (verEq_rfl _) rfl)))))))))
theorem lib24 : Lib Try.prog GL0 C24 :=
  Lib.fn lib42 mixed TT_ok Try.func24 (by decide +kernel) (by kernel_rfl) true noL (loops_of 0 (by kernel_rfl) below0) ks24 (F := fun us => F_skirmishref07_Set (toI (cIa (aggL (cIa us 0)) 0)) (toI (cIa (aggL (cIa us 0)) 1)) (roRows (cIa (aggL (cIa us 0)) 2)) (toI (cIa (aggL (cIa us 1)) 0)) (toI (cIa (aggL (cIa us 1)) 1)) (toI (cIa (aggL (cIa us 2)) 0)) (toI (cIa (aggL (cIa us 2)) 1)) (toI (cIa (aggL (cIa us 2)) 2))) (fun us => rfl) (fun us => run24 (toI (cIa (aggL (cIa us 0)) 0)) (toI (cIa (aggL (cIa us 0)) 1)) (roRows (cIa (aggL (cIa us 0)) 2)) (toI (cIa (aggL (cIa us 1)) 0)) (toI (cIa (aggL (cIa us 1)) 1)) (toI (cIa (aggL (cIa us 2)) 0)) (toI (cIa (aggL (cIa us 2)) 1)) (toI (cIa (aggL (cIa us 2)) 2))) (fun t => rfl)

/-! ### 9: skirmish/skirmishlaw12.ShadowLowers -/



/-- 'skirmish/skirmishlaw12.ShadowLowers' -/
noncomputable def F_skirmishlaw12_ShadowLowers (m_W : Int) (m_H : Int) (m_Cells : List (List AVal)) (a_X : Int) (a_Y : Int) (b_X : Int) (b_Y : Int) (c_X : Int) (c_Y : Int) : Option (Bool) :=
  bif (decide ((Int.ofNat m_Cells.length) > (1024 : Int))) then
    Option.bind F_skirmishlaw12_awake fun t =>
    some t
  else
  Option.bind (F_skirmishref07_Valid m_W m_H m_Cells) fun t1 =>
  bif (!t1) then
    Option.bind F_skirmishlaw12_awake fun t2 =>
    some t2
  else
  Option.bind (F_skirmishref06_In m_W m_H c_X c_Y) fun t3 =>
  bif (!t3) then
    Option.bind F_skirmishlaw12_awake fun t4 =>
    some t4
  else
  bif ((a_X == c_X) && (a_Y == c_Y)) then
    Option.bind F_skirmishlaw12_awake fun t5 =>
    some t5
  else
  bif ((b_X == c_X) && (b_Y == c_Y)) then
    Option.bind F_skirmishlaw12_awake fun t6 =>
    some t6
  else
  Option.bind (F_shadow_Sees m_W m_H m_Cells a_X a_Y b_X b_Y) fun t7 =>
  bif (!t7) then
    Option.bind F_skirmishlaw12_awake fun t8 =>
    some t8
  else
  Option.bind (F_skirmishref07_Set m_W m_H m_Cells c_X c_Y (1 : Int) (0 : Int) (0 : Int)) fun t9 =>
  bif (t9.2.2.2 == (0 : Int)) then
    Option.bind (F_shadow_Sees t9.2.1 t9.2.2.1 t9.1 a_X a_Y b_X b_Y) fun t10 =>
    bif t10 then
      Option.bind F_skirmishlaw12_awake fun t11 =>
      some t11
    else
    some false
  else
  some false
noncomputable def enc9 (t : Bool) : CR := ⟨true, (.sc (.bool t)), [], []⟩
noncomputable def ks9 : List SK := [.agg [.int .i64, .int .i64, .ro 3], .agg [.int .i64, .int .i64], .agg [.int .i64, .int .i64], .agg [.int .i64, .int .i64]]
noncomputable def S9 (us : List AVal) : Call := bif chkA ks9 us then Call.of (F_skirmishlaw12_ShadowLowers (toI (cIa (aggL (cIa us 0)) 0)) (toI (cIa (aggL (cIa us 0)) 1)) (roRows (cIa (aggL (cIa us 0)) 2)) (toI (cIa (aggL (cIa us 1)) 0)) (toI (cIa (aggL (cIa us 1)) 1)) (toI (cIa (aggL (cIa us 2)) 0)) (toI (cIa (aggL (cIa us 2)) 1)) (toI (cIa (aggL (cIa us 3)) 0)) (toI (cIa (aggL (cIa us 3)) 1))) enc9 else Call.none
noncomputable def C9 := AI.ext 9 S9 C24

theorem run9 (m_W : Int) (m_H : Int) (m_Cells : List (List AVal)) (a_X : Int) (a_Y : Int) (b_X : Int) (b_Y : Int) (c_X : Int) (c_Y : Int) : fcall TT TU GL0 C24 ownF true noL Try.f9 [(.agg [(.sc (.int .i64 m_W)), (.sc (.int .i64 m_H)), (.ro 3 m_Cells)]), (.agg [(.sc (.int .i64 a_X)), (.sc (.int .i64 a_Y))]), (.agg [(.sc (.int .i64 b_X)), (.sc (.int .i64 b_Y))]), (.agg [(.sc (.int .i64 c_X)), (.sc (.int .i64 c_Y))])] = (F_skirmishlaw12_ShadowLowers m_W m_H m_Cells a_X a_Y b_X b_Y c_X c_Y).bind fun t => some (enc9 t) :=
  Eq.trans (b := (bif (decide ((Int.ofNat m_Cells.length) > (1024 : Int))) then (Option.bind F_skirmishlaw12_awake fun t => (some (CR.mk true (bo t) [] []))) else (Option.bind (F_skirmishref07_Valid m_W m_H m_Cells) fun t1 => (bif (!t1) then (Option.bind F_skirmishlaw12_awake fun t2 => (some (CR.mk true (bo t2) [] []))) else (Option.bind (F_skirmishref06_In m_W m_H c_X c_Y) fun t3 => (bif (!t3) then (Option.bind F_skirmishlaw12_awake fun t4 => (some (CR.mk true (bo t4) [] []))) else (bif ((a_X == c_X) && (a_Y == c_Y)) then (Option.bind F_skirmishlaw12_awake fun t5 => (some (CR.mk true (bo t5) [] []))) else (bif ((b_X == c_X) && (b_Y == c_Y)) then (Option.bind F_skirmishlaw12_awake fun t6 => (some (CR.mk true (bo t6) [] []))) else (Option.bind (F_shadow_Sees m_W m_H m_Cells a_X a_Y b_X b_Y) fun t7 => (bif (!t7) then (Option.bind F_skirmishlaw12_awake fun t8 => (some (CR.mk true (bo t8) [] []))) else (Option.bind (F_skirmishref07_Set m_W m_H m_Cells c_X c_Y (1 : Int) (0 : Int) (0 : Int)) fun t9 => (bif ((((true && (verEq t9.1.length t9.1.length)) && true) && true) && true) then (bif (t9.2.2.2 == (0 : Int)) then (bif (verEq t9.1.length t9.1.length) then (Option.bind (F_shadow_Sees t9.2.1 t9.2.2.1 t9.1 a_X a_Y b_X b_Y) fun t10 => (bif t10 then (Option.bind F_skirmishlaw12_awake fun t11 => (some (CR.mk true (bo t11) [] []))) else (some (CR.mk true (bo false) [] [])))) else none) else (some (CR.mk true (bo false) [] []))) else none)))))))))))) (by kernel_rfl)
    (n_condH rfl (fun h0 => (n_bind fun t => rfl)) fun h0 => (n_bind fun t1 => (n_condH rfl (fun h1 => (n_bind fun t2 => rfl)) fun h1 => (n_bind fun t3 => (n_condH rfl (fun h2 => (n_bind fun t4 => rfl)) fun h2 => (n_condH rfl (fun h3 => (n_bind fun t5 => rfl)) fun h3 => (n_condH rfl (fun h4 => (n_bind fun t6 => rfl)) fun h4 => (n_bind fun t7 => (n_condH rfl (fun h5 => (n_bind fun t8 => rfl)) fun h5 => (n_bind fun t9 => (n_true (n_andL (n_andL (n_andL (n_andL rfl (verEq_rfl _)) rfl) rfl) rfl) (n_condH rfl (fun h6 => (n_true (verEq_rfl _) (n_bind fun t10 => (n_condH rfl (fun h7 => (n_bind fun t11 => rfl)) fun h7 => rfl)))) fun h6 => rfl))))))))))))
theorem lib9 : Lib Try.prog GL0 C9 :=
  Lib.fn lib24 mixed TT_ok Try.func9 (by decide +kernel) (by kernel_rfl) true noL (loops_of 0 (by kernel_rfl) below0) ks9 (F := fun us => F_skirmishlaw12_ShadowLowers (toI (cIa (aggL (cIa us 0)) 0)) (toI (cIa (aggL (cIa us 0)) 1)) (roRows (cIa (aggL (cIa us 0)) 2)) (toI (cIa (aggL (cIa us 1)) 0)) (toI (cIa (aggL (cIa us 1)) 1)) (toI (cIa (aggL (cIa us 2)) 0)) (toI (cIa (aggL (cIa us 2)) 1)) (toI (cIa (aggL (cIa us 3)) 0)) (toI (cIa (aggL (cIa us 3)) 1))) (fun us => rfl) (fun us => run9 (toI (cIa (aggL (cIa us 0)) 0)) (toI (cIa (aggL (cIa us 0)) 1)) (roRows (cIa (aggL (cIa us 0)) 2)) (toI (cIa (aggL (cIa us 1)) 0)) (toI (cIa (aggL (cIa us 1)) 1)) (toI (cIa (aggL (cIa us 2)) 0)) (toI (cIa (aggL (cIa us 2)) 1)) (toI (cIa (aggL (cIa us 3)) 0)) (toI (cIa (aggL (cIa us 3)) 1))) (fun t => rfl)

end Go.Proofs.Ytonckcjkgdlmkaa.AI
