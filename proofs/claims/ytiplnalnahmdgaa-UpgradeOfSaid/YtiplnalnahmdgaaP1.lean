/- What functions answer: printed by wip/tool2/Ev.lean out of the interpreter's run; each print is checked by Lean. -/
import Derived.Test.YtiplnalnahmdgaaTab
namespace Go.Proofs.Ytiplnalnahmdgaa.AI
open Go.RowKit
set_option linter.unusedVariables false
set_option maxRecDepth 100000
/-! ### 26: skirmish/skirmishlaw10.names -/

noncomputable def W26_0 : Ex → List Bool
  | .ret => [false, false, true, false, false, false, false, false, false, false, false, false, false, false, false, false, false, false, false, false, false, false]
  | .exit n => bif Nat.beq n 0 then [false, false, false, true, false, false, false, false, false, false, false, false, false, false, false, false, false, false, false, false, false, false] else []
  | .normal => []
noncomputable def G_skirmishlaw10_names_0 (l : List (List AVal)) : Nat → Int → Int → Option (Int)
  | 0, _, _ => none
  | m + 1, n, i =>
    bif (decide (i < (Int.ofNat l.length))) then
      bif (decide ((0 : Int) ≤ i)) then
        Option.bind (l[i.toNat]?) fun r =>
        bif (chk [LT.str] r) then
          G_skirmishlaw10_names_0 l m (wr (n + (minI (Int.ofNat (ByteArray.size (cS r 0))) (100000 : Int)))) (wr (i + (1 : Int)))
        else
        none
      else
      none
    else
    some n
noncomputable def E26_0 (l : List (List AVal)) (n : Int) (i : Int) : St := ⟨[(.ro 1 l), .dead, .dead, (.sc (.int .i64 n)), (.sc (.int .i64 i)), .dead, .dead, .dead, .dead, .dead, .dead, .dead, .dead, .dead, .dead, .dead, .dead, .dead, .dead, .dead, .dead, .dead], []⟩
noncomputable def X26_0 (k : Ex → St → Option CR) (t : Int) : Option CR := k (.exit 0) ⟨[.dead, .dead, .dead, (.sc (.int .i64 t)), .dead, .dead, .dead, .dead, .dead, .dead, .dead, .dead, .dead, .dead, .dead, .dead, .dead, .dead, .dead, .dead, .dead, .dead], []⟩
noncomputable def ks26_0 : List SK := [.f (.ro 1), .f .dead, .f .dead, .f (.int .i64), .f (.int .i64), .f .dead, .f .dead, .f .dead, .f .dead, .f .dead, .f .dead, .f .dead, .f .dead, .f .dead, .f .dead, .f .dead, .f .dead, .f .dead, .f .dead, .f .dead, .f .dead, .f .dead]
noncomputable def hs26_0 : List HK := []
noncomputable def Lm26_0 (s : St) (k : Ex → St → Option CR) : Option CR := bif chkS ks26_0 hs26_0 s then (G_skirmishlaw10_names_0 (roRows (cIa s.tmps 0)) FU (toI (cIa s.tmps 3)) (toI (cIa s.tmps 4))).bind (X26_0 k) else none
noncomputable def L26_0 (s : St) (k : Ex → St → Option CR) : Option CR := Lm26_0 (maskS (maskOf ks26_0) s) k

noncomputable def L26 : LT' := fun i s k => bif Nat.beq i 0 then L26_0 s k else none

/-- 'skirmish/skirmishlaw10.names' -/
noncomputable def F_skirmishlaw10_names (l : List (List AVal)) : Option (Int) :=
  Option.bind (G_skirmishlaw10_names_0 l FU (Int.ofNat l.length) (0 : Int)) fun t =>
  some t
noncomputable def enc26 (t : Int) : CR := ⟨true, (.sc (.int .i64 t)), [], []⟩
noncomputable def ks26 : List SK := [.f (.ro 1)]
noncomputable def S26 (us : List AVal) : Call := bif chkA ks26 us then Call.of (F_skirmishlaw10_names (roRows (cIa us 0))) enc26 else Call.none
noncomputable def C26 := AI.ext 26 S26 Cnone

@[reducible] noncomputable def B26_0 := bodyOf TT TU GL0 Cnone ownF L26 (lp Try.f26 0)
@[reducible] noncomputable def K26_0 (k : Ex → St → Option CR) : Ex → St → Option CR := fun e s => k e (maskS (W26_0 e) s)
theorem spec26_0 (k : Ex → St → Option CR) : ∀ (m : Nat) (l : List (List AVal)) (n : Int) (i : Int), loopN B26_0 m (E26_0 l n i) (K26_0 k) = (G_skirmishlaw10_names_0 l m n i).bind (X26_0 k)
  | 0, _, _, _ => rfl
  | m + 1, l, n, i =>
    Eq.trans (b := (bif (decide (i < (Int.ofNat l.length))) then (bif (decide ((0 : Int) ≤ i)) then (Option.bind (l[i.toNat]?) fun r => (bif (chk [LT.str] r) then (loopN B26_0 m ⟨[(AVal.ro 1 l), .dead, .dead, (i64 (wr (n + (minI (Int.ofNat (ByteArray.size (cS r 0))) (100000 : Int))))), (i64 (wr (i + (1 : Int)))), .dead, .dead, .dead, .dead, .dead, .dead, .dead, .dead, .dead, .dead, .dead, .dead, .dead, .dead, .dead, .dead, .dead], []⟩ (K26_0 k)) else none)) else none) else (k (.exit 0) ⟨[.dead, .dead, .dead, (i64 n), .dead, .dead, .dead, .dead, .dead, .dead, .dead, .dead, .dead, .dead, .dead, .dead, .dead, .dead, .dead, .dead, .dead, .dead], []⟩))) (by kernel_rfl)
      (n_condH rfl (fun h0 => (n_condH rfl (fun h1 => (n_bind fun r => (n_condH rfl (fun h2 => (spec26_0 k m l (wr (n + (minI (Int.ofNat (ByteArray.size (cS r 0))) (100000 : Int)))) (wr (i + (1 : Int))))) fun h2 => n_none))) fun h1 => n_none)) fun h0 => rfl)
theorem okL26_0 : LoopOk TT TU GL0 Cnone ownF L26 (lp Try.f26 0) :=
  loopOk_of ks26_0 hs26_0 W26_0 FU (fun s k => (G_skirmishlaw10_names_0 (roRows (cIa s.tmps 0)) FU (toI (cIa s.tmps 3)) (toI (cIa s.tmps 4))).bind (X26_0 k)) (fun s k => by kernel_rfl) (fun s k => spec26_0 k FU (roRows (cIa s.tmps 0)) (toI (cIa s.tmps 3)) (toI (cIa s.tmps 4)))
theorem run26 (l : List (List AVal)) : fcall TT TU GL0 Cnone ownF true L26 Try.f26 [(.ro 1 l)] = (F_skirmishlaw10_names l).bind fun t => some (enc26 t) :=
  Eq.trans (b := (Option.bind (G_skirmishlaw10_names_0 l FU (Int.ofNat l.length) (0 : Int)) fun t => (some (CR.mk true (i64 t) [] [])))) (by kernel_rfl)
    (n_bind fun t => rfl)
theorem lib26 : Lib Try.prog GL0 C26 :=
  Lib.fn libnone mixed TT_ok Try.func26 (by decide +kernel) (by kernel_rfl) true L26 (loops_of 1 (by kernel_rfl) (belowS below0 okL26_0)) ks26 (F := fun us => F_skirmishlaw10_names (roRows (cIa us 0))) (fun us => rfl) (fun us => run26 (roRows (cIa us 0))) (fun t => rfl)

/-! ### 9: skirmish/skirmishlaw10.Huge -/

noncomputable def W9_0 : Ex → List Bool
  | .ret => [false, false, true, false, false, false, false, false, false, false, false, false, false, false, false, false, false, false, false, false, false, false, false, false, false, false, false, false, false, false, false, false, false, false, false, false, false, false, false, false, false, false, false, false, false, false, false, false, false, false, false, false, false, false, false, false, false, false, false, false, false, false, false, false, false, false, false, false, false, false, false, false, false, false, false, false, false, false, false, false, false, false, false, false, false, false, false, false, false, false, false, false, false, false, false, false, false, false, false, false, false, false, false, false, false, false]
  | .exit n => bif Nat.beq n 0 then [false, true, false, true, false, false, false, false, false, false, false, false, false, false, false, false, false, false, false, false, false, false, false, false, false, false, false, false, false, false, false, false, false, false, false, false, false, false, false, false, false, false, false, false, false, false, false, false, false, false, false, false, false, false, false, false, false, false, false, false, false, false, false, false, false, false, false, false, false, false, false, false, false, false, false, false, false, false, false, false, false, false, false, false, false, false, false, false, false, false, false, false, false, false, false, false, false, false, false, false, false, false, false, false, false, false] else []
  | .normal => []
noncomputable def G_skirmishlaw10_Huge_0 (b0_0 : List (List AVal)) : Nat → Int → Int → Option (Int)
  | 0, _, _ => none
  | m + 1, n, i =>
    bif (decide (i < (Int.ofNat b0_0.length))) then
      bif (decide ((0 : Int) ≤ i)) then
        Option.bind (b0_0[i.toNat]?) fun r =>
        bif (chk [LT.str, LT.bool, LT.bool, (LT.int IntKind.i64), (LT.int IntKind.i64), (LT.int IntKind.i64), (LT.int IntKind.i64), (LT.int IntKind.i64), (LT.int IntKind.i64), (LT.int IntKind.i64), (LT.int IntKind.i64), (LT.int IntKind.i64), LT.str, (LT.int IntKind.i64), (LT.int IntKind.i64), (LT.int IntKind.i64), (LT.sl 9 1), (LT.sl 9 1), (LT.sl 9 1)] r) then
          Option.bind (F_skirmishlaw10_names [[(AVal.sc (Value.string (cS r 0)))], [(AVal.sc (Value.string (cS r 12)))]]) fun t =>
          Option.bind (F_skirmishlaw10_names (roRows (AVal.ro 1 (cR r 16)))) fun t1 =>
          Option.bind (F_skirmishlaw10_names (roRows (AVal.ro 1 (cR r 17)))) fun t2 =>
          Option.bind (F_skirmishlaw10_names (roRows (AVal.ro 1 (cR r 18)))) fun t3 =>
          G_skirmishlaw10_Huge_0 b0_0 m (wr (n + (wr ((wr ((wr (t + t1)) + t2)) + t3)))) (wr (i + (1 : Int)))
        else
        none
      else
      none
    else
    some n
noncomputable def E9_0 (n : Int) (i : Int) (b0_0 : List (List AVal)) (b0_1 : List (List AVal)) (b0_2 : List (List AVal)) : St := ⟨[.dead, (.ref 16000 1 0 0), .dead, (.sc (.int .i64 n)), (.sc (.int .i64 i)), .dead, .dead, .dead, .dead, .dead, .dead, .dead, .dead, .dead, .dead, .dead, .dead, .dead, .dead, .dead, .dead, .dead, .dead, .dead, .dead, .dead, .dead, .dead, .dead, .dead, .dead, .dead, .dead, .dead, .dead, .dead, .dead, .dead, .dead, .dead, .dead, .dead, .dead, .dead, .dead, .dead, .dead, .dead, .dead, .dead, .dead, .dead, .dead, .dead, .dead, .dead, .dead, .dead, .dead, .dead, .dead, .dead, .dead, .dead, .dead, .dead, .dead, .dead, .dead, .dead, .dead, .dead, .dead, .dead, .dead, .dead, .dead, .dead, .dead, .dead, .dead, .dead, .dead, .dead, .dead, .dead, .dead, .dead, .dead, .dead, .dead, .dead, .dead, .dead, .dead, .dead, .dead, .dead, .dead, .dead, .dead, .dead, .dead, .dead, .dead, .dead], [(16000, ⟨.box, 26, 3, [[(.ro 19 b0_0), (.ro 6 b0_1), (.ro 8 b0_2)]]⟩)]⟩
noncomputable def X9_0 (b0_0 : List (List AVal)) (b0_1 : List (List AVal)) (b0_2 : List (List AVal)) (k : Ex → St → Option CR) (t : Int) : Option CR := k (.exit 0) ⟨[.dead, (.ref 16000 1 0 0), .dead, (.sc (.int .i64 t)), .dead, .dead, .dead, .dead, .dead, .dead, .dead, .dead, .dead, .dead, .dead, .dead, .dead, .dead, .dead, .dead, .dead, .dead, .dead, .dead, .dead, .dead, .dead, .dead, .dead, .dead, .dead, .dead, .dead, .dead, .dead, .dead, .dead, .dead, .dead, .dead, .dead, .dead, .dead, .dead, .dead, .dead, .dead, .dead, .dead, .dead, .dead, .dead, .dead, .dead, .dead, .dead, .dead, .dead, .dead, .dead, .dead, .dead, .dead, .dead, .dead, .dead, .dead, .dead, .dead, .dead, .dead, .dead, .dead, .dead, .dead, .dead, .dead, .dead, .dead, .dead, .dead, .dead, .dead, .dead, .dead, .dead, .dead, .dead, .dead, .dead, .dead, .dead, .dead, .dead, .dead, .dead, .dead, .dead, .dead, .dead, .dead, .dead, .dead, .dead, .dead, .dead], [(16000, ⟨.box, 26, 3, [[(.ro 19 b0_0), (.ro 6 b0_1), (.ro 8 b0_2)]]⟩)]⟩
noncomputable def ks9_0 : List SK := [.f .dead, .f (.ref 16000 1 0 0), .f .dead, .f (.int .i64), .f (.int .i64), .f .dead, .f .dead, .f .dead, .f .dead, .f .dead, .f .dead, .f .dead, .f .dead, .f .dead, .f .dead, .f .dead, .f .dead, .f .dead, .f .dead, .f .dead, .f .dead, .f .dead, .f .dead, .f .dead, .f .dead, .f .dead, .f .dead, .f .dead, .f .dead, .f .dead, .f .dead, .f .dead, .f .dead, .f .dead, .f .dead, .f .dead, .f .dead, .f .dead, .f .dead, .f .dead, .f .dead, .f .dead, .f .dead, .f .dead, .f .dead, .f .dead, .f .dead, .f .dead, .f .dead, .f .dead, .f .dead, .f .dead, .f .dead, .f .dead, .f .dead, .f .dead, .f .dead, .f .dead, .f .dead, .f .dead, .f .dead, .f .dead, .f .dead, .f .dead, .f .dead, .f .dead, .f .dead, .f .dead, .f .dead, .f .dead, .f .dead, .f .dead, .f .dead, .f .dead, .f .dead, .f .dead, .f .dead, .f .dead, .f .dead, .f .dead, .f .dead, .f .dead, .f .dead, .f .dead, .f .dead, .f .dead, .f .dead, .f .dead, .f .dead, .f .dead, .f .dead, .f .dead, .f .dead, .f .dead, .f .dead, .f .dead, .f .dead, .f .dead, .f .dead, .f .dead, .f .dead, .f .dead, .f .dead, .f .dead, .f .dead, .f .dead]
noncomputable def hs9_0 : List HK := [⟨16000, .box, 26, 3, some [.ro 19, .ro 6, .ro 8]⟩]
noncomputable def Lm9_0 (s : St) (k : Ex → St → Option CR) : Option CR := bif chkS ks9_0 hs9_0 s then (G_skirmishlaw10_Huge_0 (roRows (cIa (rows0 (blkAt s.heap 0).2) 0)) FU (toI (cIa s.tmps 3)) (toI (cIa s.tmps 4))).bind (X9_0 (roRows (cIa (rows0 (blkAt s.heap 0).2) 0)) (roRows (cIa (rows0 (blkAt s.heap 0).2) 1)) (roRows (cIa (rows0 (blkAt s.heap 0).2) 2)) k) else none
noncomputable def L9_0 (s : St) (k : Ex → St → Option CR) : Option CR := Lm9_0 (maskS (maskOf ks9_0) s) k
noncomputable def W9_1 : Ex → List Bool
  | .ret => [false, false, true, false, false, false, false, false, false, false, false, false, false, false, false, false, false, false, false, false, false, false, false, false, false, false, false, false, false, false, false, false, false, false, false, false, false, false, false, false, false, false, false, false, false, false, false, false, false, false, false, false, false, false, false, false, false, false, false, false, false, false, false, false, false, false, false, false, false, false, false, false, false, false, false, false, false, false, false, false, false, false, false, false, false, false, false, false, false, false, false, false, false, false, false, false, false, false, false, false, false, false, false, false, false, false]
  | .exit n => bif Nat.beq n 2 then [false, true, false, true, false, false, false, false, false, false, false, false, false, false, false, false, false, false, false, false, false, false, false, false, false, false, false, false, false, false, false, false, false, false, false, false, false, false, false, false, false, false, false, false, false, false, false, false, false, false, false, false, false, false, false, false, false, false, false, false, false, false, false, false, false, false, false, false, false, false, false, false, false, false, false, false, false, false, false, false, false, false, false, false, false, false, false, false, false, false, false, false, false, false, false, false, false, false, false, false, false, false, false, false, false, false] else []
  | .normal => []
noncomputable def G_skirmishlaw10_Huge_1 (b0_1 : List (List AVal)) : Nat → Int → Int → Option (Int)
  | 0, _, _ => none
  | m + 1, n, i =>
    bif (decide (i < (Int.ofNat b0_1.length))) then
      bif (decide ((0 : Int) ≤ i)) then
        Option.bind (b0_1[i.toNat]?) fun r =>
        bif (chk [LT.str, (LT.int IntKind.i64), (LT.int IntKind.i64), (LT.int IntKind.i64), (LT.int IntKind.i64), (LT.int IntKind.i64)] r) then
          Option.bind (F_skirmishlaw10_names [[(AVal.sc (Value.string (cS r 0)))]]) fun t =>
          G_skirmishlaw10_Huge_1 b0_1 m (wr (n + t)) (wr (i + (1 : Int)))
        else
        none
      else
      none
    else
    some n
noncomputable def E9_1 (n : Int) (i : Int) (b0_0 : List (List AVal)) (b0_1 : List (List AVal)) (b0_2 : List (List AVal)) : St := ⟨[.dead, (.ref 16000 1 0 0), .dead, (.sc (.int .i64 n)), .dead, .dead, (.sc (.int .i64 i)), .dead, .dead, .dead, .dead, .dead, .dead, .dead, .dead, .dead, .dead, .dead, .dead, .dead, .dead, .dead, .dead, .dead, .dead, .dead, .dead, .dead, .dead, .dead, .dead, .dead, .dead, .dead, .dead, .dead, .dead, .dead, .dead, .dead, .dead, .dead, .dead, .dead, .dead, .dead, .dead, .dead, .dead, .dead, .dead, .dead, .dead, .dead, .dead, .dead, .dead, .dead, .dead, .dead, .dead, .dead, .dead, .dead, .dead, .dead, .dead, .dead, .dead, .dead, .dead, .dead, .dead, .dead, .dead, .dead, .dead, .dead, .dead, .dead, .dead, .dead, .dead, .dead, .dead, .dead, .dead, .dead, .dead, .dead, .dead, .dead, .dead, .dead, .dead, .dead, .dead, .dead, .dead, .dead, .dead, .dead, .dead, .dead, .dead, .dead], [(16000, ⟨.box, 26, 3, [[(.ro 19 b0_0), (.ro 6 b0_1), (.ro 8 b0_2)]]⟩)]⟩
noncomputable def X9_1 (b0_0 : List (List AVal)) (b0_1 : List (List AVal)) (b0_2 : List (List AVal)) (k : Ex → St → Option CR) (t : Int) : Option CR := k (.exit 2) ⟨[.dead, (.ref 16000 1 0 0), .dead, (.sc (.int .i64 t)), .dead, .dead, .dead, .dead, .dead, .dead, .dead, .dead, .dead, .dead, .dead, .dead, .dead, .dead, .dead, .dead, .dead, .dead, .dead, .dead, .dead, .dead, .dead, .dead, .dead, .dead, .dead, .dead, .dead, .dead, .dead, .dead, .dead, .dead, .dead, .dead, .dead, .dead, .dead, .dead, .dead, .dead, .dead, .dead, .dead, .dead, .dead, .dead, .dead, .dead, .dead, .dead, .dead, .dead, .dead, .dead, .dead, .dead, .dead, .dead, .dead, .dead, .dead, .dead, .dead, .dead, .dead, .dead, .dead, .dead, .dead, .dead, .dead, .dead, .dead, .dead, .dead, .dead, .dead, .dead, .dead, .dead, .dead, .dead, .dead, .dead, .dead, .dead, .dead, .dead, .dead, .dead, .dead, .dead, .dead, .dead, .dead, .dead, .dead, .dead, .dead, .dead], [(16000, ⟨.box, 26, 3, [[(.ro 19 b0_0), (.ro 6 b0_1), (.ro 8 b0_2)]]⟩)]⟩
noncomputable def ks9_1 : List SK := [.f .dead, .f (.ref 16000 1 0 0), .f .dead, .f (.int .i64), .f .dead, .f .dead, .f (.int .i64), .f .dead, .f .dead, .f .dead, .f .dead, .f .dead, .f .dead, .f .dead, .f .dead, .f .dead, .f .dead, .f .dead, .f .dead, .f .dead, .f .dead, .f .dead, .f .dead, .f .dead, .f .dead, .f .dead, .f .dead, .f .dead, .f .dead, .f .dead, .f .dead, .f .dead, .f .dead, .f .dead, .f .dead, .f .dead, .f .dead, .f .dead, .f .dead, .f .dead, .f .dead, .f .dead, .f .dead, .f .dead, .f .dead, .f .dead, .f .dead, .f .dead, .f .dead, .f .dead, .f .dead, .f .dead, .f .dead, .f .dead, .f .dead, .f .dead, .f .dead, .f .dead, .f .dead, .f .dead, .f .dead, .f .dead, .f .dead, .f .dead, .f .dead, .f .dead, .f .dead, .f .dead, .f .dead, .f .dead, .f .dead, .f .dead, .f .dead, .f .dead, .f .dead, .f .dead, .f .dead, .f .dead, .f .dead, .f .dead, .f .dead, .f .dead, .f .dead, .f .dead, .f .dead, .f .dead, .f .dead, .f .dead, .f .dead, .f .dead, .f .dead, .f .dead, .f .dead, .f .dead, .f .dead, .f .dead, .f .dead, .f .dead, .f .dead, .f .dead, .f .dead, .f .dead, .f .dead, .f .dead, .f .dead, .f .dead]
noncomputable def hs9_1 : List HK := [⟨16000, .box, 26, 3, some [.ro 19, .ro 6, .ro 8]⟩]
noncomputable def Lm9_1 (s : St) (k : Ex → St → Option CR) : Option CR := bif chkS ks9_1 hs9_1 s then (G_skirmishlaw10_Huge_1 (roRows (cIa (rows0 (blkAt s.heap 0).2) 1)) FU (toI (cIa s.tmps 3)) (toI (cIa s.tmps 6))).bind (X9_1 (roRows (cIa (rows0 (blkAt s.heap 0).2) 0)) (roRows (cIa (rows0 (blkAt s.heap 0).2) 1)) (roRows (cIa (rows0 (blkAt s.heap 0).2) 2)) k) else none
noncomputable def L9_1 (s : St) (k : Ex → St → Option CR) : Option CR := Lm9_1 (maskS (maskOf ks9_1) s) k
noncomputable def W9_2 : Ex → List Bool
  | .ret => [false, false, true, false, false, false, false, false, false, false, false, false, false, false, false, false, false, false, false, false, false, false, false, false, false, false, false, false, false, false, false, false, false, false, false, false, false, false, false, false, false, false, false, false, false, false, false, false, false, false, false, false, false, false, false, false, false, false, false, false, false, false, false, false, false, false, false, false, false, false, false, false, false, false, false, false, false, false, false, false, false, false, false, false, false, false, false, false, false, false, false, false, false, false, false, false, false, false, false, false, false, false, false, false, false, false]
  | .exit n => bif Nat.beq n 4 then [false, false, false, true, false, false, false, false, false, false, false, false, false, false, false, false, false, false, false, false, false, false, false, false, false, false, false, false, false, false, false, false, false, false, false, false, false, false, false, false, false, false, false, false, false, false, false, false, false, false, false, false, false, false, false, false, false, false, false, false, false, false, false, false, false, false, false, false, false, false, false, false, false, false, false, false, false, false, false, false, false, false, false, false, false, false, false, false, false, false, false, false, false, false, false, false, false, false, false, false, false, false, false, false, false, false] else []
  | .normal => []
noncomputable def G_skirmishlaw10_Huge_2 (b0_2 : List (List AVal)) : Nat → Int → Int → Option (Int)
  | 0, _, _ => none
  | m + 1, n, i =>
    bif (decide (i < (Int.ofNat b0_2.length))) then
      bif (decide ((0 : Int) ≤ i)) then
        Option.bind (b0_2[i.toNat]?) fun r =>
        bif (chk [LT.str, (LT.sl 9 1), (LT.int IntKind.i64), (LT.int IntKind.i64), (LT.int IntKind.i64), LT.str, (LT.int IntKind.i64), (LT.int IntKind.i64)] r) then
          Option.bind (b0_2[i.toNat]?) fun r1 =>
          bif (chk [LT.str, (LT.sl 9 1), (LT.int IntKind.i64), (LT.int IntKind.i64), (LT.int IntKind.i64), LT.str, (LT.int IntKind.i64), (LT.int IntKind.i64)] r1) then
            Option.bind (F_skirmishlaw10_names [[(AVal.sc (Value.string (cS r 0)))], [(AVal.sc (Value.string (cS r1 5)))]]) fun t =>
            Option.bind (b0_2[i.toNat]?) fun r2 =>
            bif (chk [LT.str, (LT.sl 9 1), (LT.int IntKind.i64), (LT.int IntKind.i64), (LT.int IntKind.i64), LT.str, (LT.int IntKind.i64), (LT.int IntKind.i64)] r2) then
              Option.bind (F_skirmishlaw10_names (roRows (AVal.ro 1 (cR r2 1)))) fun t1 =>
              G_skirmishlaw10_Huge_2 b0_2 m (wr (n + (wr (t + t1)))) (wr (i + (1 : Int)))
            else
            none
          else
          none
        else
        none
      else
      none
    else
    some n
noncomputable def E9_2 (n : Int) (i : Int) (b0_0 : List (List AVal)) (b0_1 : List (List AVal)) (b0_2 : List (List AVal)) : St := ⟨[.dead, (.ref 16000 1 0 0), .dead, (.sc (.int .i64 n)), .dead, .dead, .dead, (.sc (.int .i64 i)), .dead, .dead, .dead, .dead, .dead, .dead, .dead, .dead, .dead, .dead, .dead, .dead, .dead, .dead, .dead, .dead, .dead, .dead, .dead, .dead, .dead, .dead, .dead, .dead, .dead, .dead, .dead, .dead, .dead, .dead, .dead, .dead, .dead, .dead, .dead, .dead, .dead, .dead, .dead, .dead, .dead, .dead, .dead, .dead, .dead, .dead, .dead, .dead, .dead, .dead, .dead, .dead, .dead, .dead, .dead, .dead, .dead, .dead, .dead, .dead, .dead, .dead, .dead, .dead, .dead, .dead, .dead, .dead, .dead, .dead, .dead, .dead, .dead, .dead, .dead, .dead, .dead, .dead, .dead, .dead, .dead, .dead, .dead, .dead, .dead, .dead, .dead, .dead, .dead, .dead, .dead, .dead, .dead, .dead, .dead, .dead, .dead, .dead], [(16000, ⟨.box, 26, 3, [[(.ro 19 b0_0), (.ro 6 b0_1), (.ro 8 b0_2)]]⟩)]⟩
noncomputable def X9_2 (k : Ex → St → Option CR) (t : Int) : Option CR := k (.exit 4) ⟨[.dead, .dead, .dead, (.sc (.int .i64 t)), .dead, .dead, .dead, .dead, .dead, .dead, .dead, .dead, .dead, .dead, .dead, .dead, .dead, .dead, .dead, .dead, .dead, .dead, .dead, .dead, .dead, .dead, .dead, .dead, .dead, .dead, .dead, .dead, .dead, .dead, .dead, .dead, .dead, .dead, .dead, .dead, .dead, .dead, .dead, .dead, .dead, .dead, .dead, .dead, .dead, .dead, .dead, .dead, .dead, .dead, .dead, .dead, .dead, .dead, .dead, .dead, .dead, .dead, .dead, .dead, .dead, .dead, .dead, .dead, .dead, .dead, .dead, .dead, .dead, .dead, .dead, .dead, .dead, .dead, .dead, .dead, .dead, .dead, .dead, .dead, .dead, .dead, .dead, .dead, .dead, .dead, .dead, .dead, .dead, .dead, .dead, .dead, .dead, .dead, .dead, .dead, .dead, .dead, .dead, .dead, .dead, .dead], []⟩
noncomputable def ks9_2 : List SK := [.f .dead, .f (.ref 16000 1 0 0), .f .dead, .f (.int .i64), .f .dead, .f .dead, .f .dead, .f (.int .i64), .f .dead, .f .dead, .f .dead, .f .dead, .f .dead, .f .dead, .f .dead, .f .dead, .f .dead, .f .dead, .f .dead, .f .dead, .f .dead, .f .dead, .f .dead, .f .dead, .f .dead, .f .dead, .f .dead, .f .dead, .f .dead, .f .dead, .f .dead, .f .dead, .f .dead, .f .dead, .f .dead, .f .dead, .f .dead, .f .dead, .f .dead, .f .dead, .f .dead, .f .dead, .f .dead, .f .dead, .f .dead, .f .dead, .f .dead, .f .dead, .f .dead, .f .dead, .f .dead, .f .dead, .f .dead, .f .dead, .f .dead, .f .dead, .f .dead, .f .dead, .f .dead, .f .dead, .f .dead, .f .dead, .f .dead, .f .dead, .f .dead, .f .dead, .f .dead, .f .dead, .f .dead, .f .dead, .f .dead, .f .dead, .f .dead, .f .dead, .f .dead, .f .dead, .f .dead, .f .dead, .f .dead, .f .dead, .f .dead, .f .dead, .f .dead, .f .dead, .f .dead, .f .dead, .f .dead, .f .dead, .f .dead, .f .dead, .f .dead, .f .dead, .f .dead, .f .dead, .f .dead, .f .dead, .f .dead, .f .dead, .f .dead, .f .dead, .f .dead, .f .dead, .f .dead, .f .dead, .f .dead, .f .dead]
noncomputable def hs9_2 : List HK := [⟨16000, .box, 26, 3, some [.ro 19, .ro 6, .ro 8]⟩]
noncomputable def Lm9_2 (s : St) (k : Ex → St → Option CR) : Option CR := bif chkS ks9_2 hs9_2 s then (G_skirmishlaw10_Huge_2 (roRows (cIa (rows0 (blkAt s.heap 0).2) 2)) FU (toI (cIa s.tmps 3)) (toI (cIa s.tmps 7))).bind (X9_2 k) else none
noncomputable def L9_2 (s : St) (k : Ex → St → Option CR) : Option CR := Lm9_2 (maskS (maskOf ks9_2) s) k

noncomputable def L9 : LT' := fun i s k => bif Nat.beq i 0 then L9_0 s k else bif Nat.beq i 2 then L9_1 s k else bif Nat.beq i 4 then L9_2 s k else none

/-- 'skirmish/skirmishlaw10.Huge' -/
noncomputable def F_skirmishlaw10_Huge (r_Units : List (List AVal)) (r_Weapons : List (List AVal)) (r_Techs : List (List AVal)) : Option (Bool) :=
  bif (decide ((Int.ofNat r_Units.length) > (100 : Int))) then
    some true
  else
  bif (decide ((Int.ofNat r_Weapons.length) > (100 : Int))) then
    some true
  else
  bif (decide ((Int.ofNat r_Techs.length) > (100 : Int))) then
    some true
  else
  Option.bind (G_skirmishlaw10_Huge_0 r_Units FU (0 : Int) (0 : Int)) fun t =>
  Option.bind (G_skirmishlaw10_Huge_1 r_Weapons FU t (0 : Int)) fun t1 =>
  Option.bind (G_skirmishlaw10_Huge_2 r_Techs FU t1 (0 : Int)) fun t2 =>
  some (decide (t2 > (20000 : Int)))
noncomputable def enc9 (t : Bool) : CR := ⟨true, (.sc (.bool t)), [], []⟩
noncomputable def ks9 : List SK := [.agg [.ro 19, .ro 6, .ro 8]]
noncomputable def S9 (us : List AVal) : Call := bif chkA ks9 us then Call.of (F_skirmishlaw10_Huge (roRows (cIa (aggL (cIa us 0)) 0)) (roRows (cIa (aggL (cIa us 0)) 1)) (roRows (cIa (aggL (cIa us 0)) 2))) enc9 else Call.none
noncomputable def C9 := AI.ext 9 S9 C26

@[reducible] noncomputable def B9_0 := bodyOf TT TU GL0 C26 ownF L9 (lp Try.f9 0)
@[reducible] noncomputable def K9_0 (k : Ex → St → Option CR) : Ex → St → Option CR := fun e s => k e (maskS (W9_0 e) s)
theorem spec9_0 (k : Ex → St → Option CR) : ∀ (m : Nat) (n : Int) (i : Int) (b0_0 : List (List AVal)) (b0_1 : List (List AVal)) (b0_2 : List (List AVal)), loopN B9_0 m (E9_0 n i b0_0 b0_1 b0_2) (K9_0 k) = (G_skirmishlaw10_Huge_0 b0_0 m n i).bind (X9_0 b0_0 b0_1 b0_2 k)
  | 0, _, _, _, _, _ => rfl
  | m + 1, n, i, b0_0, b0_1, b0_2 =>
    Eq.trans (b := (bif (decide (i < (Int.ofNat b0_0.length))) then (bif (decide ((0 : Int) ≤ i)) then (Option.bind (b0_0[i.toNat]?) fun r => (bif (chk [LT.str, LT.bool, LT.bool, (LT.int IntKind.i64), (LT.int IntKind.i64), (LT.int IntKind.i64), (LT.int IntKind.i64), (LT.int IntKind.i64), (LT.int IntKind.i64), (LT.int IntKind.i64), (LT.int IntKind.i64), (LT.int IntKind.i64), LT.str, (LT.int IntKind.i64), (LT.int IntKind.i64), (LT.int IntKind.i64), (LT.sl 9 1), (LT.sl 9 1), (LT.sl 9 1)] r) then (Option.bind (F_skirmishlaw10_names [[(AVal.sc (Value.string (cS r 0)))], [(AVal.sc (Value.string (cS r 12)))]]) fun t => (Option.bind (F_skirmishlaw10_names (roRows (AVal.ro 1 (cR r 16)))) fun t1 => (Option.bind (F_skirmishlaw10_names (roRows (AVal.ro 1 (cR r 17)))) fun t2 => (Option.bind (F_skirmishlaw10_names (roRows (AVal.ro 1 (cR r 18)))) fun t3 => (loopN B9_0 m ⟨[.dead, (AVal.ref 16000 1 0 0), .dead, (i64 (wr (n + (wr ((wr ((wr (t + t1)) + t2)) + t3))))), (i64 (wr (i + (1 : Int)))), .dead, .dead, .dead, .dead, .dead, .dead, .dead, .dead, .dead, .dead, .dead, .dead, .dead, .dead, .dead, .dead, .dead, .dead, .dead, .dead, .dead, .dead, .dead, .dead, .dead, .dead, .dead, .dead, .dead, .dead, .dead, .dead, .dead, .dead, .dead, .dead, .dead, .dead, .dead, .dead, .dead, .dead, .dead, .dead, .dead, .dead, .dead, .dead, .dead, .dead, .dead, .dead, .dead, .dead, .dead, .dead, .dead, .dead, .dead, .dead, .dead, .dead, .dead, .dead, .dead, .dead, .dead, .dead, .dead, .dead, .dead, .dead, .dead, .dead, .dead, .dead, .dead, .dead, .dead, .dead, .dead, .dead, .dead, .dead, .dead, .dead, .dead, .dead, .dead, .dead, .dead, .dead, .dead, .dead, .dead, .dead, .dead, .dead, .dead, .dead, .dead], [(Prod.mk 16000 (Blk.mk BKind.box 26 3 [[(AVal.ro 19 b0_0), (AVal.ro 6 b0_1), (AVal.ro 8 b0_2)]]))]⟩ (K9_0 k)))))) else none)) else none) else (k (.exit 0) ⟨[.dead, (AVal.ref 16000 1 0 0), .dead, (i64 n), .dead, .dead, .dead, .dead, .dead, .dead, .dead, .dead, .dead, .dead, .dead, .dead, .dead, .dead, .dead, .dead, .dead, .dead, .dead, .dead, .dead, .dead, .dead, .dead, .dead, .dead, .dead, .dead, .dead, .dead, .dead, .dead, .dead, .dead, .dead, .dead, .dead, .dead, .dead, .dead, .dead, .dead, .dead, .dead, .dead, .dead, .dead, .dead, .dead, .dead, .dead, .dead, .dead, .dead, .dead, .dead, .dead, .dead, .dead, .dead, .dead, .dead, .dead, .dead, .dead, .dead, .dead, .dead, .dead, .dead, .dead, .dead, .dead, .dead, .dead, .dead, .dead, .dead, .dead, .dead, .dead, .dead, .dead, .dead, .dead, .dead, .dead, .dead, .dead, .dead, .dead, .dead, .dead, .dead, .dead, .dead, .dead, .dead, .dead, .dead, .dead, .dead], [(Prod.mk 16000 (Blk.mk BKind.box 26 3 [[(AVal.ro 19 b0_0), (AVal.ro 6 b0_1), (AVal.ro 8 b0_2)]]))]⟩))) (by kernel_rfl)
      (n_condH rfl (fun h0 => (n_condH rfl (fun h1 => (n_bind fun r => (n_condH rfl (fun h2 => (n_bind fun t => (n_bind fun t1 => (n_bind fun t2 => (n_bind fun t3 => (spec9_0 k m (wr (n + (wr ((wr ((wr (t + t1)) + t2)) + t3)))) (wr (i + (1 : Int))) b0_0 b0_1 b0_2)))))) fun h2 => n_none))) fun h1 => n_none)) fun h0 => rfl)
theorem okL9_0 : LoopOk TT TU GL0 C26 ownF L9 (lp Try.f9 0) :=
  loopOk_of ks9_0 hs9_0 W9_0 FU (fun s k => (G_skirmishlaw10_Huge_0 (roRows (cIa (rows0 (blkAt s.heap 0).2) 0)) FU (toI (cIa s.tmps 3)) (toI (cIa s.tmps 4))).bind (X9_0 (roRows (cIa (rows0 (blkAt s.heap 0).2) 0)) (roRows (cIa (rows0 (blkAt s.heap 0).2) 1)) (roRows (cIa (rows0 (blkAt s.heap 0).2) 2)) k)) (fun s k => by kernel_rfl) (fun s k => spec9_0 k FU (toI (cIa s.tmps 3)) (toI (cIa s.tmps 4)) (roRows (cIa (rows0 (blkAt s.heap 0).2) 0)) (roRows (cIa (rows0 (blkAt s.heap 0).2) 1)) (roRows (cIa (rows0 (blkAt s.heap 0).2) 2)))
@[reducible] noncomputable def B9_1 := bodyOf TT TU GL0 C26 ownF L9 (lp Try.f9 1)
@[reducible] noncomputable def K9_1 (k : Ex → St → Option CR) : Ex → St → Option CR := fun e s => k e (maskS (W9_1 e) s)
theorem spec9_1 (k : Ex → St → Option CR) : ∀ (m : Nat) (n : Int) (i : Int) (b0_0 : List (List AVal)) (b0_1 : List (List AVal)) (b0_2 : List (List AVal)), loopN B9_1 m (E9_1 n i b0_0 b0_1 b0_2) (K9_1 k) = (G_skirmishlaw10_Huge_1 b0_1 m n i).bind (X9_1 b0_0 b0_1 b0_2 k)
  | 0, _, _, _, _, _ => rfl
  | m + 1, n, i, b0_0, b0_1, b0_2 =>
    Eq.trans (b := (bif (decide (i < (Int.ofNat b0_1.length))) then (bif (decide ((0 : Int) ≤ i)) then (Option.bind (b0_1[i.toNat]?) fun r => (bif (chk [LT.str, (LT.int IntKind.i64), (LT.int IntKind.i64), (LT.int IntKind.i64), (LT.int IntKind.i64), (LT.int IntKind.i64)] r) then (Option.bind (F_skirmishlaw10_names [[(AVal.sc (Value.string (cS r 0)))]]) fun t => (loopN B9_1 m ⟨[.dead, (AVal.ref 16000 1 0 0), .dead, (i64 (wr (n + t))), .dead, .dead, (i64 (wr (i + (1 : Int)))), .dead, .dead, .dead, .dead, .dead, .dead, .dead, .dead, .dead, .dead, .dead, .dead, .dead, .dead, .dead, .dead, .dead, .dead, .dead, .dead, .dead, .dead, .dead, .dead, .dead, .dead, .dead, .dead, .dead, .dead, .dead, .dead, .dead, .dead, .dead, .dead, .dead, .dead, .dead, .dead, .dead, .dead, .dead, .dead, .dead, .dead, .dead, .dead, .dead, .dead, .dead, .dead, .dead, .dead, .dead, .dead, .dead, .dead, .dead, .dead, .dead, .dead, .dead, .dead, .dead, .dead, .dead, .dead, .dead, .dead, .dead, .dead, .dead, .dead, .dead, .dead, .dead, .dead, .dead, .dead, .dead, .dead, .dead, .dead, .dead, .dead, .dead, .dead, .dead, .dead, .dead, .dead, .dead, .dead, .dead, .dead, .dead, .dead, .dead], [(Prod.mk 16000 (Blk.mk BKind.box 26 3 [[(AVal.ro 19 b0_0), (AVal.ro 6 b0_1), (AVal.ro 8 b0_2)]]))]⟩ (K9_1 k))) else none)) else none) else (k (.exit 2) ⟨[.dead, (AVal.ref 16000 1 0 0), .dead, (i64 n), .dead, .dead, .dead, .dead, .dead, .dead, .dead, .dead, .dead, .dead, .dead, .dead, .dead, .dead, .dead, .dead, .dead, .dead, .dead, .dead, .dead, .dead, .dead, .dead, .dead, .dead, .dead, .dead, .dead, .dead, .dead, .dead, .dead, .dead, .dead, .dead, .dead, .dead, .dead, .dead, .dead, .dead, .dead, .dead, .dead, .dead, .dead, .dead, .dead, .dead, .dead, .dead, .dead, .dead, .dead, .dead, .dead, .dead, .dead, .dead, .dead, .dead, .dead, .dead, .dead, .dead, .dead, .dead, .dead, .dead, .dead, .dead, .dead, .dead, .dead, .dead, .dead, .dead, .dead, .dead, .dead, .dead, .dead, .dead, .dead, .dead, .dead, .dead, .dead, .dead, .dead, .dead, .dead, .dead, .dead, .dead, .dead, .dead, .dead, .dead, .dead, .dead], [(Prod.mk 16000 (Blk.mk BKind.box 26 3 [[(AVal.ro 19 b0_0), (AVal.ro 6 b0_1), (AVal.ro 8 b0_2)]]))]⟩))) (by kernel_rfl)
      (n_condH rfl (fun h0 => (n_condH rfl (fun h1 => (n_bind fun r => (n_condH rfl (fun h2 => (n_bind fun t => (spec9_1 k m (wr (n + t)) (wr (i + (1 : Int))) b0_0 b0_1 b0_2))) fun h2 => n_none))) fun h1 => n_none)) fun h0 => rfl)
theorem okL9_1 : LoopOk TT TU GL0 C26 ownF L9 (lp Try.f9 1) :=
  loopOk_of ks9_1 hs9_1 W9_1 FU (fun s k => (G_skirmishlaw10_Huge_1 (roRows (cIa (rows0 (blkAt s.heap 0).2) 1)) FU (toI (cIa s.tmps 3)) (toI (cIa s.tmps 6))).bind (X9_1 (roRows (cIa (rows0 (blkAt s.heap 0).2) 0)) (roRows (cIa (rows0 (blkAt s.heap 0).2) 1)) (roRows (cIa (rows0 (blkAt s.heap 0).2) 2)) k)) (fun s k => by kernel_rfl) (fun s k => spec9_1 k FU (toI (cIa s.tmps 3)) (toI (cIa s.tmps 6)) (roRows (cIa (rows0 (blkAt s.heap 0).2) 0)) (roRows (cIa (rows0 (blkAt s.heap 0).2) 1)) (roRows (cIa (rows0 (blkAt s.heap 0).2) 2)))
@[reducible] noncomputable def B9_2 := bodyOf TT TU GL0 C26 ownF L9 (lp Try.f9 2)
@[reducible] noncomputable def K9_2 (k : Ex → St → Option CR) : Ex → St → Option CR := fun e s => k e (maskS (W9_2 e) s)
theorem spec9_2 (k : Ex → St → Option CR) : ∀ (m : Nat) (n : Int) (i : Int) (b0_0 : List (List AVal)) (b0_1 : List (List AVal)) (b0_2 : List (List AVal)), loopN B9_2 m (E9_2 n i b0_0 b0_1 b0_2) (K9_2 k) = (G_skirmishlaw10_Huge_2 b0_2 m n i).bind (X9_2 k)
  | 0, _, _, _, _, _ => rfl
  | m + 1, n, i, b0_0, b0_1, b0_2 =>
    Eq.trans (b := (bif (decide (i < (Int.ofNat b0_2.length))) then (bif (decide ((0 : Int) ≤ i)) then (Option.bind (b0_2[i.toNat]?) fun r => (bif (chk [LT.str, (LT.sl 9 1), (LT.int IntKind.i64), (LT.int IntKind.i64), (LT.int IntKind.i64), LT.str, (LT.int IntKind.i64), (LT.int IntKind.i64)] r) then (bif (decide ((0 : Int) ≤ i)) then (Option.bind (b0_2[i.toNat]?) fun r1 => (bif (chk [LT.str, (LT.sl 9 1), (LT.int IntKind.i64), (LT.int IntKind.i64), (LT.int IntKind.i64), LT.str, (LT.int IntKind.i64), (LT.int IntKind.i64)] r1) then (Option.bind (F_skirmishlaw10_names [[(AVal.sc (Value.string (cS r 0)))], [(AVal.sc (Value.string (cS r1 5)))]]) fun t => (bif (decide ((0 : Int) ≤ i)) then (Option.bind (b0_2[i.toNat]?) fun r2 => (bif (chk [LT.str, (LT.sl 9 1), (LT.int IntKind.i64), (LT.int IntKind.i64), (LT.int IntKind.i64), LT.str, (LT.int IntKind.i64), (LT.int IntKind.i64)] r2) then (Option.bind (F_skirmishlaw10_names (roRows (AVal.ro 1 (cR r2 1)))) fun t1 => (loopN B9_2 m ⟨[.dead, (AVal.ref 16000 1 0 0), .dead, (i64 (wr (n + (wr (t + t1))))), .dead, .dead, .dead, (i64 (wr (i + (1 : Int)))), .dead, .dead, .dead, .dead, .dead, .dead, .dead, .dead, .dead, .dead, .dead, .dead, .dead, .dead, .dead, .dead, .dead, .dead, .dead, .dead, .dead, .dead, .dead, .dead, .dead, .dead, .dead, .dead, .dead, .dead, .dead, .dead, .dead, .dead, .dead, .dead, .dead, .dead, .dead, .dead, .dead, .dead, .dead, .dead, .dead, .dead, .dead, .dead, .dead, .dead, .dead, .dead, .dead, .dead, .dead, .dead, .dead, .dead, .dead, .dead, .dead, .dead, .dead, .dead, .dead, .dead, .dead, .dead, .dead, .dead, .dead, .dead, .dead, .dead, .dead, .dead, .dead, .dead, .dead, .dead, .dead, .dead, .dead, .dead, .dead, .dead, .dead, .dead, .dead, .dead, .dead, .dead, .dead, .dead, .dead, .dead, .dead, .dead], [(Prod.mk 16000 (Blk.mk BKind.box 26 3 [[(AVal.ro 19 b0_0), (AVal.ro 6 b0_1), (AVal.ro 8 b0_2)]]))]⟩ (K9_2 k))) else none)) else none)) else none)) else none) else none)) else none) else (k (.exit 4) ⟨[.dead, .dead, .dead, (i64 n), .dead, .dead, .dead, .dead, .dead, .dead, .dead, .dead, .dead, .dead, .dead, .dead, .dead, .dead, .dead, .dead, .dead, .dead, .dead, .dead, .dead, .dead, .dead, .dead, .dead, .dead, .dead, .dead, .dead, .dead, .dead, .dead, .dead, .dead, .dead, .dead, .dead, .dead, .dead, .dead, .dead, .dead, .dead, .dead, .dead, .dead, .dead, .dead, .dead, .dead, .dead, .dead, .dead, .dead, .dead, .dead, .dead, .dead, .dead, .dead, .dead, .dead, .dead, .dead, .dead, .dead, .dead, .dead, .dead, .dead, .dead, .dead, .dead, .dead, .dead, .dead, .dead, .dead, .dead, .dead, .dead, .dead, .dead, .dead, .dead, .dead, .dead, .dead, .dead, .dead, .dead, .dead, .dead, .dead, .dead, .dead, .dead, .dead, .dead, .dead, .dead, .dead], []⟩))) (by kernel_rfl)
      (n_condH rfl (fun h0 => (n_condH rfl (fun h1 => (n_bind fun r => (n_condH rfl (fun h2 => (n_true h1 (n_bind fun r1 => (n_condH rfl (fun h3 => (n_bind fun t => (n_true h1 (n_bind fun r2 => (n_condH rfl (fun h4 => (n_bind fun t1 => (spec9_2 k m (wr (n + (wr (t + t1)))) (wr (i + (1 : Int))) b0_0 b0_1 b0_2))) fun h4 => n_none))))) fun h3 => n_none)))) fun h2 => n_none))) fun h1 => n_none)) fun h0 => rfl)
theorem okL9_2 : LoopOk TT TU GL0 C26 ownF L9 (lp Try.f9 2) :=
  loopOk_of ks9_2 hs9_2 W9_2 FU (fun s k => (G_skirmishlaw10_Huge_2 (roRows (cIa (rows0 (blkAt s.heap 0).2) 2)) FU (toI (cIa s.tmps 3)) (toI (cIa s.tmps 7))).bind (X9_2 k)) (fun s k => by kernel_rfl) (fun s k => spec9_2 k FU (toI (cIa s.tmps 3)) (toI (cIa s.tmps 7)) (roRows (cIa (rows0 (blkAt s.heap 0).2) 0)) (roRows (cIa (rows0 (blkAt s.heap 0).2) 1)) (roRows (cIa (rows0 (blkAt s.heap 0).2) 2)))
theorem run9 (r_Units : List (List AVal)) (r_Weapons : List (List AVal)) (r_Techs : List (List AVal)) : fcall TT TU GL0 C26 ownF true L9 Try.f9 [(.agg [(.ro 19 r_Units), (.ro 6 r_Weapons), (.ro 8 r_Techs)])] = (F_skirmishlaw10_Huge r_Units r_Weapons r_Techs).bind fun t => some (enc9 t) :=
  Eq.trans (b := (bif (decide ((Int.ofNat r_Units.length) > (100 : Int))) then (some (CR.mk true (bo true) [] [])) else (bif (decide ((Int.ofNat r_Weapons.length) > (100 : Int))) then (some (CR.mk true (bo true) [] [])) else (bif (decide ((Int.ofNat r_Techs.length) > (100 : Int))) then (some (CR.mk true (bo true) [] [])) else (Option.bind (G_skirmishlaw10_Huge_0 r_Units FU (0 : Int) (0 : Int)) fun t => (Option.bind (G_skirmishlaw10_Huge_1 r_Weapons FU t (0 : Int)) fun t1 => (Option.bind (G_skirmishlaw10_Huge_2 r_Techs FU t1 (0 : Int)) fun t2 => (some (CR.mk true (bo (decide (t2 > (20000 : Int)))) [] []))))))))) (by kernel_rfl)
    (n_condH rfl (fun h0 => rfl) fun h0 => (n_condH rfl (fun h1 => rfl) fun h1 => (n_condH rfl (fun h2 => rfl) fun h2 => (n_bind fun t => (n_bind fun t1 => (n_bind fun t2 => rfl))))))
theorem lib9 : Lib Try.prog GL0 C9 :=
  Lib.fn lib26 mixed TT_ok Try.func9 (by decide +kernel) (by kernel_rfl) true L9 (loops_of 3 (by kernel_rfl) (belowS (belowS (belowS below0 okL9_0) okL9_1) okL9_2)) ks9 (F := fun us => F_skirmishlaw10_Huge (roRows (cIa (aggL (cIa us 0)) 0)) (roRows (cIa (aggL (cIa us 0)) 1)) (roRows (cIa (aggL (cIa us 0)) 2))) (fun us => rfl) (fun us => run9 (roRows (cIa (aggL (cIa us 0)) 0)) (roRows (cIa (aggL (cIa us 0)) 1)) (roRows (cIa (aggL (cIa us 0)) 2))) (fun t => rfl)

/-! ### 10: skirmish/skirmishlaw22.huge -/

noncomputable def W10_0 : Ex → List Bool
  | .ret => [false, false, true, false, false, false, false, false, false, false, false, false, false, false, false, false, false, false, false, false, false, false, false, false, false]
  | .exit n => bif Nat.beq n 0 then [false, false, false, false, false, false, false, false, false, false, false, false, false, false, false, false, false, false, false, false, false, false, false, false, false] else []
  | .normal => []
noncomputable def G_skirmishlaw22_huge_0 (l : List (List AVal)) : Nat → Int → Int → Option (Bool)
  | 0, _, _ => none
  | m + 1, n, i =>
    bif (decide (i < (Int.ofNat l.length))) then
      bif (decide ((0 : Int) ≤ i)) then
        Option.bind (l[i.toNat]?) fun r =>
        bif (chk [LT.str] r) then
          bif (decide (i > (100 : Int))) then
            some true
          else
          bif (decide ((wr (n + (minI (Int.ofNat (ByteArray.size (cS r 0))) (100000 : Int)))) > (20000 : Int))) then
            some true
          else
          G_skirmishlaw22_huge_0 l m (wr (n + (minI (Int.ofNat (ByteArray.size (cS r 0))) (100000 : Int)))) (wr (i + (1 : Int)))
        else
        none
      else
      none
    else
    some false
noncomputable def E10_0 (l : List (List AVal)) (n : Int) (i : Int) : St := ⟨[(.ro 1 l), .dead, .dead, (.sc (.int .i64 n)), (.sc (.int .i64 i)), .dead, .dead, .dead, .dead, .dead, .dead, .dead, .dead, .dead, .dead, .dead, .dead, .dead, .dead, .dead, .dead, .dead, .dead, .dead, .dead], []⟩
noncomputable def X10_0 (k : Ex → St → Option CR) (t : Bool) : Option CR := bif t then k .ret ⟨[.dead, .dead, (.sc (.bool true)), .dead, .dead, .dead, .dead, .dead, .dead, .dead, .dead, .dead, .dead, .dead, .dead, .dead, .dead, .dead, .dead, .dead, .dead, .dead, .dead, .dead, .dead], []⟩ else k (.exit 0) ⟨[.dead, .dead, .dead, .dead, .dead, .dead, .dead, .dead, .dead, .dead, .dead, .dead, .dead, .dead, .dead, .dead, .dead, .dead, .dead, .dead, .dead, .dead, .dead, .dead, .dead], []⟩
noncomputable def ks10_0 : List SK := [.f (.ro 1), .f .dead, .f .dead, .f (.int .i64), .f (.int .i64), .f .dead, .f .dead, .f .dead, .f .dead, .f .dead, .f .dead, .f .dead, .f .dead, .f .dead, .f .dead, .f .dead, .f .dead, .f .dead, .f .dead, .f .dead, .f .dead, .f .dead, .f .dead, .f .dead, .f .dead]
noncomputable def hs10_0 : List HK := []
noncomputable def Lm10_0 (s : St) (k : Ex → St → Option CR) : Option CR := bif chkS ks10_0 hs10_0 s then (G_skirmishlaw22_huge_0 (roRows (cIa s.tmps 0)) FU (toI (cIa s.tmps 3)) (toI (cIa s.tmps 4))).bind (X10_0 k) else none
noncomputable def L10_0 (s : St) (k : Ex → St → Option CR) : Option CR := Lm10_0 (maskS (maskOf ks10_0) s) k

noncomputable def L10 : LT' := fun i s k => bif Nat.beq i 0 then L10_0 s k else none

/-- 'skirmish/skirmishlaw22.huge' -/
noncomputable def F_skirmishlaw22_huge (l : List (List AVal)) : Option (Bool) :=
  Option.bind (G_skirmishlaw22_huge_0 l FU (0 : Int) (0 : Int)) fun t =>
  bif t then
    some true
  else
  some false
noncomputable def enc10 (t : Bool) : CR := ⟨true, (.sc (.bool t)), [], []⟩
noncomputable def ks10 : List SK := [.f (.ro 1)]
noncomputable def S10 (us : List AVal) : Call := bif chkA ks10 us then Call.of (F_skirmishlaw22_huge (roRows (cIa us 0))) enc10 else Call.none
noncomputable def C10 := AI.ext 10 S10 C9

@[reducible] noncomputable def B10_0 := bodyOf TT TU GL0 C9 ownF L10 (lp Try.f10 0)
@[reducible] noncomputable def K10_0 (k : Ex → St → Option CR) : Ex → St → Option CR := fun e s => k e (maskS (W10_0 e) s)
theorem spec10_0 (k : Ex → St → Option CR) : ∀ (m : Nat) (l : List (List AVal)) (n : Int) (i : Int), loopN B10_0 m (E10_0 l n i) (K10_0 k) = (G_skirmishlaw22_huge_0 l m n i).bind (X10_0 k)
  | 0, _, _, _ => rfl
  | m + 1, l, n, i =>
    Eq.trans (b := (bif (decide (i < (Int.ofNat l.length))) then (bif (decide ((0 : Int) ≤ i)) then (Option.bind (l[i.toNat]?) fun r => (bif (chk [LT.str] r) then (bif (decide (i > (100 : Int))) then (k .ret ⟨[.dead, .dead, (bo true), .dead, .dead, .dead, .dead, .dead, .dead, .dead, .dead, .dead, .dead, .dead, .dead, .dead, .dead, .dead, .dead, .dead, .dead, .dead, .dead, .dead, .dead], []⟩) else (bif (decide ((wr (n + (minI (Int.ofNat (ByteArray.size (cS r 0))) (100000 : Int)))) > (20000 : Int))) then (k .ret ⟨[.dead, .dead, (bo true), .dead, .dead, .dead, .dead, .dead, .dead, .dead, .dead, .dead, .dead, .dead, .dead, .dead, .dead, .dead, .dead, .dead, .dead, .dead, .dead, .dead, .dead], []⟩) else (loopN B10_0 m ⟨[(AVal.ro 1 l), .dead, .dead, (i64 (wr (n + (minI (Int.ofNat (ByteArray.size (cS r 0))) (100000 : Int))))), (i64 (wr (i + (1 : Int)))), .dead, .dead, .dead, .dead, .dead, .dead, .dead, .dead, .dead, .dead, .dead, .dead, .dead, .dead, .dead, .dead, .dead, .dead, .dead, .dead], []⟩ (K10_0 k)))) else none)) else none) else (k (.exit 0) ⟨[.dead, .dead, .dead, .dead, .dead, .dead, .dead, .dead, .dead, .dead, .dead, .dead, .dead, .dead, .dead, .dead, .dead, .dead, .dead, .dead, .dead, .dead, .dead, .dead, .dead], []⟩))) (by kernel_rfl)
      (n_condH rfl (fun h0 => (n_condH rfl (fun h1 => (n_bind fun r => (n_condH rfl (fun h2 => (n_condH rfl (fun h3 => rfl) fun h3 => (n_condH rfl (fun h4 => rfl) fun h4 => (spec10_0 k m l (wr (n + (minI (Int.ofNat (ByteArray.size (cS r 0))) (100000 : Int)))) (wr (i + (1 : Int))))))) fun h2 => n_none))) fun h1 => n_none)) fun h0 => rfl)
theorem okL10_0 : LoopOk TT TU GL0 C9 ownF L10 (lp Try.f10 0) :=
  loopOk_of ks10_0 hs10_0 W10_0 FU (fun s k => (G_skirmishlaw22_huge_0 (roRows (cIa s.tmps 0)) FU (toI (cIa s.tmps 3)) (toI (cIa s.tmps 4))).bind (X10_0 k)) (fun s k => by kernel_rfl) (fun s k => spec10_0 k FU (roRows (cIa s.tmps 0)) (toI (cIa s.tmps 3)) (toI (cIa s.tmps 4)))
theorem run10 (l : List (List AVal)) : fcall TT TU GL0 C9 ownF true L10 Try.f10 [(.ro 1 l)] = (F_skirmishlaw22_huge l).bind fun t => some (enc10 t) :=
  Eq.trans (b := (Option.bind (G_skirmishlaw22_huge_0 l FU (0 : Int) (0 : Int)) fun t => (bif t then (some (CR.mk true (bo true) [] [])) else (some (CR.mk true (bo false) [] []))))) (by kernel_rfl)
    (n_bind fun t => (n_condH rfl (fun h0 => rfl) fun h0 => rfl))
theorem lib10 : Lib Try.prog GL0 C10 :=
  Lib.fn lib9 mixed TT_ok Try.func10 (by decide +kernel) (by kernel_rfl) true L10 (loops_of 1 (by kernel_rfl) (belowS below0 okL10_0)) ks10 (F := fun us => F_skirmishlaw22_huge (roRows (cIa us 0))) (fun us => rfl) (fun us => run10 (roRows (cIa us 0))) (fun t => rfl)

/-! ### 27: skirmish/skirmishlaw22.some -/



/-- 'skirmish/skirmishlaw22.some' -/
noncomputable def F_skirmishlaw22_some : Option (List (List AVal) × List (List AVal) × List (List AVal)) :=
  some ([[(AVal.sc (Value.string (ByteArray.mk (Array.mk [97, 114, 99, 104, 101, 114])))), (bo false), (bo false), (i64 (1 : Int)), (i64 (0 : Int)), (i64 (0 : Int)), (i64 (40 : Int)), (i64 (90 : Int)), (i64 (7 : Int)), (i64 (40 : Int)), (i64 (0 : Int)), (i64 (0 : Int)), (AVal.sc (Value.string (ByteArray.mk (Array.mk [98, 111, 119])))), (i64 (0 : Int)), (i64 (0 : Int)), (i64 (0 : Int)), (AVal.ro 0 []), (AVal.ro 0 []), (AVal.ro 0 [])]], [[(AVal.sc (Value.string (ByteArray.mk (Array.mk [98, 111, 119])))), (i64 (768 : Int)), (i64 (6 : Int)), (i64 (8 : Int)), (i64 (64 : Int)), (i64 (0 : Int))]], [[(AVal.sc (Value.string (ByteArray.mk (Array.mk [101, 121, 101, 115])))), (AVal.ro 0 []), (i64 (0 : Int)), (i64 (0 : Int)), (i64 (0 : Int)), (AVal.sc (Value.string (ByteArray.mk (Array.mk [97, 114, 99, 104, 101, 114])))), (i64 (4 : Int)), (i64 (2 : Int))], [(AVal.sc (Value.string (ByteArray.mk (Array.mk [102, 97, 114])))), (AVal.ro 0 []), (i64 (0 : Int)), (i64 (0 : Int)), (i64 (0 : Int)), (AVal.sc (Value.string (ByteArray.mk (Array.mk [97, 114, 99, 104, 101, 114])))), (i64 (4 : Int)), (i64 (12 : Int))], [(AVal.sc (Value.string (ByteArray.mk (Array.mk [108, 111, 110, 103, 98, 111, 119])))), (AVal.ro 0 []), (i64 (0 : Int)), (i64 (0 : Int)), (i64 (0 : Int)), (AVal.sc (Value.string (ByteArray.mk (Array.mk [97, 114, 99, 104, 101, 114])))), (i64 (6 : Int)), (i64 (256 : Int))], [(AVal.sc (Value.string (ByteArray.mk (Array.mk [109, 97, 105, 108])))), (AVal.ro 0 []), (i64 (0 : Int)), (i64 (0 : Int)), (i64 (0 : Int)), (AVal.sc (Value.string (ByteArray.mk (Array.mk [107, 110, 105, 103, 104, 116])))), (i64 (2 : Int)), (i64 (3 : Int))]])
noncomputable def enc27 (t : List (List AVal) × List (List AVal) × List (List AVal)) : CR := ⟨true, (.agg [(.slc 0 (t.1).length), (.slc 1 (t.2.1).length), (.slc 2 (t.2.2).length)]), [], [⟨.arr, 43, 19, t.1⟩, ⟨.arr, 52, 6, t.2.1⟩, ⟨.arr, 39, 8, t.2.2⟩]⟩
noncomputable def ks27 : List SK := []
noncomputable def S27 (us : List AVal) : Call := bif chkA ks27 us then Call.of (F_skirmishlaw22_some) enc27 else Call.none
noncomputable def C27 := AI.ext 27 S27 C10

theorem run27 : fcall TT TU GL0 C10 ownF true noL Try.f27 [] = (F_skirmishlaw22_some).bind fun t => some (enc27 t) :=
  Eq.trans (b := (some (CR.mk true (AVal.agg [(AVal.slc 0 1), (AVal.slc 1 1), (AVal.slc 2 4)]) [] [(Blk.mk BKind.arr 43 19 [[(AVal.sc (Value.string (ByteArray.mk (Array.mk [97, 114, 99, 104, 101, 114])))), (bo false), (bo false), (i64 (1 : Int)), (i64 (0 : Int)), (i64 (0 : Int)), (i64 (40 : Int)), (i64 (90 : Int)), (i64 (7 : Int)), (i64 (40 : Int)), (i64 (0 : Int)), (i64 (0 : Int)), (AVal.sc (Value.string (ByteArray.mk (Array.mk [98, 111, 119])))), (i64 (0 : Int)), (i64 (0 : Int)), (i64 (0 : Int)), (AVal.ro 0 []), (AVal.ro 0 []), (AVal.ro 0 [])]]), (Blk.mk BKind.arr 52 6 [[(AVal.sc (Value.string (ByteArray.mk (Array.mk [98, 111, 119])))), (i64 (768 : Int)), (i64 (6 : Int)), (i64 (8 : Int)), (i64 (64 : Int)), (i64 (0 : Int))]]), (Blk.mk BKind.arr 39 8 [[(AVal.sc (Value.string (ByteArray.mk (Array.mk [101, 121, 101, 115])))), (AVal.ro 0 []), (i64 (0 : Int)), (i64 (0 : Int)), (i64 (0 : Int)), (AVal.sc (Value.string (ByteArray.mk (Array.mk [97, 114, 99, 104, 101, 114])))), (i64 (4 : Int)), (i64 (2 : Int))], [(AVal.sc (Value.string (ByteArray.mk (Array.mk [102, 97, 114])))), (AVal.ro 0 []), (i64 (0 : Int)), (i64 (0 : Int)), (i64 (0 : Int)), (AVal.sc (Value.string (ByteArray.mk (Array.mk [97, 114, 99, 104, 101, 114])))), (i64 (4 : Int)), (i64 (12 : Int))], [(AVal.sc (Value.string (ByteArray.mk (Array.mk [108, 111, 110, 103, 98, 111, 119])))), (AVal.ro 0 []), (i64 (0 : Int)), (i64 (0 : Int)), (i64 (0 : Int)), (AVal.sc (Value.string (ByteArray.mk (Array.mk [97, 114, 99, 104, 101, 114])))), (i64 (6 : Int)), (i64 (256 : Int))], [(AVal.sc (Value.string (ByteArray.mk (Array.mk [109, 97, 105, 108])))), (AVal.ro 0 []), (i64 (0 : Int)), (i64 (0 : Int)), (i64 (0 : Int)), (AVal.sc (Value.string (ByteArray.mk (Array.mk [107, 110, 105, 103, 104, 116])))), (i64 (2 : Int)), (i64 (3 : Int))]])]))) (by kernel_rfl)
    rfl
theorem lib27 : Lib Try.prog GL0 C27 :=
  Lib.fn lib10 mixed TT_ok Try.func27 (by decide +kernel) (by kernel_rfl) true noL (loops_of 0 (by kernel_rfl) below0) ks27 (F := fun us => F_skirmishlaw22_some) (fun us => rfl) (fun us => run27) (fun t => rfl)

/-! ### 52: skirmish/rules.unitName -/



/-- 'skirmish/rules.unitName' -/
noncomputable def F_rules_unitName (u_Name : ByteArray) (u_Building : Bool) (u_Depot : Bool) (u_Class : Int) (u_W : Int) (u_H : Int) (u_Radius : Int) (u_Speed : Int) (u_Sight : Int) (u_Hp : Int) (u_Armor : Int) (u_Load : Int) (u_Weapon : ByteArray) (u_Ore : Int) (u_Wood : Int) (u_Time : Int) (u_Needs : List (List AVal)) (u_Trains : List (List AVal)) (u_Researches : List (List AVal)) : Option (ByteArray) :=
  some u_Name
noncomputable def enc52 (t : ByteArray) : CR := ⟨true, (.sc (.string t)), [], []⟩
noncomputable def ks52 : List SK := [.agg [.str, .bool, .bool, .int .i64, .int .i64, .int .i64, .int .i64, .int .i64, .int .i64, .int .i64, .int .i64, .int .i64, .str, .int .i64, .int .i64, .int .i64, .ro 1, .ro 1, .ro 1]]
noncomputable def S52 (us : List AVal) : Call := bif chkA ks52 us then Call.of (F_rules_unitName (toS (cIa (aggL (cIa us 0)) 0)) (toB (cIa (aggL (cIa us 0)) 1)) (toB (cIa (aggL (cIa us 0)) 2)) (toI (cIa (aggL (cIa us 0)) 3)) (toI (cIa (aggL (cIa us 0)) 4)) (toI (cIa (aggL (cIa us 0)) 5)) (toI (cIa (aggL (cIa us 0)) 6)) (toI (cIa (aggL (cIa us 0)) 7)) (toI (cIa (aggL (cIa us 0)) 8)) (toI (cIa (aggL (cIa us 0)) 9)) (toI (cIa (aggL (cIa us 0)) 10)) (toI (cIa (aggL (cIa us 0)) 11)) (toS (cIa (aggL (cIa us 0)) 12)) (toI (cIa (aggL (cIa us 0)) 13)) (toI (cIa (aggL (cIa us 0)) 14)) (toI (cIa (aggL (cIa us 0)) 15)) (roRows (cIa (aggL (cIa us 0)) 16)) (roRows (cIa (aggL (cIa us 0)) 17)) (roRows (cIa (aggL (cIa us 0)) 18))) enc52 else Call.none
noncomputable def C52 := AI.ext 52 S52 C27

theorem run52 (u_Name : ByteArray) (u_Building : Bool) (u_Depot : Bool) (u_Class : Int) (u_W : Int) (u_H : Int) (u_Radius : Int) (u_Speed : Int) (u_Sight : Int) (u_Hp : Int) (u_Armor : Int) (u_Load : Int) (u_Weapon : ByteArray) (u_Ore : Int) (u_Wood : Int) (u_Time : Int) (u_Needs : List (List AVal)) (u_Trains : List (List AVal)) (u_Researches : List (List AVal)) : fcall TT TU GL0 C27 ownF true noL Try.f52 [(.agg [(.sc (.string u_Name)), (.sc (.bool u_Building)), (.sc (.bool u_Depot)), (.sc (.int .i64 u_Class)), (.sc (.int .i64 u_W)), (.sc (.int .i64 u_H)), (.sc (.int .i64 u_Radius)), (.sc (.int .i64 u_Speed)), (.sc (.int .i64 u_Sight)), (.sc (.int .i64 u_Hp)), (.sc (.int .i64 u_Armor)), (.sc (.int .i64 u_Load)), (.sc (.string u_Weapon)), (.sc (.int .i64 u_Ore)), (.sc (.int .i64 u_Wood)), (.sc (.int .i64 u_Time)), (.ro 1 u_Needs), (.ro 1 u_Trains), (.ro 1 u_Researches)])] = (F_rules_unitName u_Name u_Building u_Depot u_Class u_W u_H u_Radius u_Speed u_Sight u_Hp u_Armor u_Load u_Weapon u_Ore u_Wood u_Time u_Needs u_Trains u_Researches).bind fun t => some (enc52 t) :=
  Eq.trans (b := (some (CR.mk true (AVal.sc (Value.string u_Name)) [] []))) (by kernel_rfl)
    rfl
theorem lib52 : Lib Try.prog GL0 C52 :=
  Lib.fn lib27 mixed TT_ok Try.func52 (by decide +kernel) (by kernel_rfl) true noL (loops_of 0 (by kernel_rfl) below0) ks52 (F := fun us => F_rules_unitName (toS (cIa (aggL (cIa us 0)) 0)) (toB (cIa (aggL (cIa us 0)) 1)) (toB (cIa (aggL (cIa us 0)) 2)) (toI (cIa (aggL (cIa us 0)) 3)) (toI (cIa (aggL (cIa us 0)) 4)) (toI (cIa (aggL (cIa us 0)) 5)) (toI (cIa (aggL (cIa us 0)) 6)) (toI (cIa (aggL (cIa us 0)) 7)) (toI (cIa (aggL (cIa us 0)) 8)) (toI (cIa (aggL (cIa us 0)) 9)) (toI (cIa (aggL (cIa us 0)) 10)) (toI (cIa (aggL (cIa us 0)) 11)) (toS (cIa (aggL (cIa us 0)) 12)) (toI (cIa (aggL (cIa us 0)) 13)) (toI (cIa (aggL (cIa us 0)) 14)) (toI (cIa (aggL (cIa us 0)) 15)) (roRows (cIa (aggL (cIa us 0)) 16)) (roRows (cIa (aggL (cIa us 0)) 17)) (roRows (cIa (aggL (cIa us 0)) 18))) (fun us => rfl) (fun us => run52 (toS (cIa (aggL (cIa us 0)) 0)) (toB (cIa (aggL (cIa us 0)) 1)) (toB (cIa (aggL (cIa us 0)) 2)) (toI (cIa (aggL (cIa us 0)) 3)) (toI (cIa (aggL (cIa us 0)) 4)) (toI (cIa (aggL (cIa us 0)) 5)) (toI (cIa (aggL (cIa us 0)) 6)) (toI (cIa (aggL (cIa us 0)) 7)) (toI (cIa (aggL (cIa us 0)) 8)) (toI (cIa (aggL (cIa us 0)) 9)) (toI (cIa (aggL (cIa us 0)) 10)) (toI (cIa (aggL (cIa us 0)) 11)) (toS (cIa (aggL (cIa us 0)) 12)) (toI (cIa (aggL (cIa us 0)) 13)) (toI (cIa (aggL (cIa us 0)) 14)) (toI (cIa (aggL (cIa us 0)) 15)) (roRows (cIa (aggL (cIa us 0)) 16)) (roRows (cIa (aggL (cIa us 0)) 17)) (roRows (cIa (aggL (cIa us 0)) 18))) (fun t => rfl)

/-! ### 51: skirmish/rules.find[skirmish/api.UnitType] -/

noncomputable def W51_0 : Ex → List Bool
  | .ret => [false, false, false, false, false, false, true, true, false, false, false, false, false, false, false, false, false, false, false, false, false, false, false, false, false]
  | .exit n => bif Nat.beq n 0 then [false, false, false, false, false, false, true, false, false, false, false, false, false, false, false, false, false, false, false, false, false, false, false, false, false] else []
  | .normal => []
noncomputable def G_rules_find_UnitType_0 (want : ByteArray) (x11 : List (List AVal)) (x12 : Int) : Nat → Int → Option (Bool × ByteArray × Bool × Bool × Int × Int × Int × Int × Int × Int × Int × Int × Int × ByteArray × Int × Int × Int × List (List AVal) × List (List AVal) × List (List AVal))
  | 0, _ => none
  | m + 1, x13 =>
    bif (decide (x13 < x12)) then
      bif (decide ((0 : Int) ≤ x13)) then
        Option.bind (x11[x13.toNat]?) fun r =>
        bif (chk [LT.str, LT.bool, LT.bool, (LT.int IntKind.i64), (LT.int IntKind.i64), (LT.int IntKind.i64), (LT.int IntKind.i64), (LT.int IntKind.i64), (LT.int IntKind.i64), (LT.int IntKind.i64), (LT.int IntKind.i64), (LT.int IntKind.i64), LT.str, (LT.int IntKind.i64), (LT.int IntKind.i64), (LT.int IntKind.i64), (LT.sl 9 1), (LT.sl 9 1), (LT.sl 9 1)] r) then
          Option.bind (F_rules_unitName (cS r 0) (cB r 1) (cB r 2) (cI r 3) (cI r 4) (cI r 5) (cI r 6) (cI r 7) (cI r 8) (cI r 9) (cI r 10) (cI r 11) (cS r 12) (cI r 13) (cI r 14) (cI r 15) (roRows (AVal.ro 1 (cR r 16))) (roRows (AVal.ro 1 (cR r 17))) (roRows (AVal.ro 1 (cR r 18)))) fun t =>
          bif (List.beq (ByteArray.toList t) (ByteArray.toList want)) then
            some (true, (cS r 0), (cB r 1), (cB r 2), (cI r 3), (cI r 4), (cI r 5), (cI r 6), (cI r 7), (cI r 8), (cI r 9), (cI r 10), (cI r 11), (cS r 12), (cI r 13), (cI r 14), (cI r 15), (cR r 16), (cR r 17), (cR r 18))
          else
          G_rules_find_UnitType_0 want x11 x12 m (wr (x13 + (1 : Int)))
        else
        none
      else
      none
    else
    some (false, ⟨#[]⟩, false, false, 0, 0, 0, 0, 0, 0, 0, 0, 0, ⟨#[]⟩, 0, 0, 0, [], [], [])
noncomputable def E51_0 (want : ByteArray) (x11 : List (List AVal)) (x12 : Int) (x13 : Int) (b0_0 : ByteArray) (b0_1 : Bool) (b0_2 : Bool) (b0_3 : Int) (b0_4 : Int) (b0_5 : Int) (b0_6 : Int) (b0_7 : Int) (b0_8 : Int) (b0_9 : Int) (b0_10 : Int) (b0_11 : Int) (b0_12 : ByteArray) (b0_13 : Int) (b0_14 : Int) (b0_15 : Int) : St := ⟨[.dead, (.clo 52 []), (.sc (.string want)), .dead, .dead, .dead, (.ref 16000 1 0 0), .dead, .dead, .dead, .dead, (.ro 19 x11), (.sc (.int .i64 x12)), (.sc (.int .i64 x13)), .dead, .dead, .dead, .dead, .dead, .dead, .dead, .dead, .dead, .dead, .dead], [(16000, ⟨.box, 43, 19, [[(.sc (.string b0_0)), (.sc (.bool b0_1)), (.sc (.bool b0_2)), (.sc (.int .i64 b0_3)), (.sc (.int .i64 b0_4)), (.sc (.int .i64 b0_5)), (.sc (.int .i64 b0_6)), (.sc (.int .i64 b0_7)), (.sc (.int .i64 b0_8)), (.sc (.int .i64 b0_9)), (.sc (.int .i64 b0_10)), (.sc (.int .i64 b0_11)), (.sc (.string b0_12)), (.sc (.int .i64 b0_13)), (.sc (.int .i64 b0_14)), (.sc (.int .i64 b0_15)), .emp, .emp, .emp]]⟩)]⟩
noncomputable def X51_0 (b0_0 : ByteArray) (b0_1 : Bool) (b0_2 : Bool) (b0_3 : Int) (b0_4 : Int) (b0_5 : Int) (b0_6 : Int) (b0_7 : Int) (b0_8 : Int) (b0_9 : Int) (b0_10 : Int) (b0_11 : Int) (b0_12 : ByteArray) (b0_13 : Int) (b0_14 : Int) (b0_15 : Int) (k : Ex → St → Option CR) (t : Bool × ByteArray × Bool × Bool × Int × Int × Int × Int × Int × Int × Int × Int × Int × ByteArray × Int × Int × Int × List (List AVal) × List (List AVal) × List (List AVal)) : Option CR := bif t.1 then k .ret ⟨[.dead, .dead, .dead, .dead, .dead, .dead, (.ref 16000 1 0 0), (.sc (.bool true)), .dead, .dead, .dead, .dead, .dead, .dead, .dead, .dead, .dead, .dead, .dead, .dead, .dead, .dead, .dead, .dead, .dead], [(16000, ⟨.box, 43, 19, [[(.sc (.string t.2.1)), (.sc (.bool t.2.2.1)), (.sc (.bool t.2.2.2.1)), (.sc (.int .i64 t.2.2.2.2.1)), (.sc (.int .i64 t.2.2.2.2.2.1)), (.sc (.int .i64 t.2.2.2.2.2.2.1)), (.sc (.int .i64 t.2.2.2.2.2.2.2.1)), (.sc (.int .i64 t.2.2.2.2.2.2.2.2.1)), (.sc (.int .i64 t.2.2.2.2.2.2.2.2.2.1)), (.sc (.int .i64 t.2.2.2.2.2.2.2.2.2.2.1)), (.sc (.int .i64 t.2.2.2.2.2.2.2.2.2.2.2.1)), (.sc (.int .i64 t.2.2.2.2.2.2.2.2.2.2.2.2.1)), (.sc (.string t.2.2.2.2.2.2.2.2.2.2.2.2.2.1)), (.sc (.int .i64 t.2.2.2.2.2.2.2.2.2.2.2.2.2.2.1)), (.sc (.int .i64 t.2.2.2.2.2.2.2.2.2.2.2.2.2.2.2.1)), (.sc (.int .i64 t.2.2.2.2.2.2.2.2.2.2.2.2.2.2.2.2.1)), (.ro 1 t.2.2.2.2.2.2.2.2.2.2.2.2.2.2.2.2.2.1), (.ro 1 t.2.2.2.2.2.2.2.2.2.2.2.2.2.2.2.2.2.2.1), (.ro 1 t.2.2.2.2.2.2.2.2.2.2.2.2.2.2.2.2.2.2.2)]]⟩)]⟩ else k (.exit 0) ⟨[.dead, .dead, .dead, .dead, .dead, .dead, (.ref 16000 1 0 0), .dead, .dead, .dead, .dead, .dead, .dead, .dead, .dead, .dead, .dead, .dead, .dead, .dead, .dead, .dead, .dead, .dead, .dead], [(16000, ⟨.box, 43, 19, [[(.sc (.string b0_0)), (.sc (.bool b0_1)), (.sc (.bool b0_2)), (.sc (.int .i64 b0_3)), (.sc (.int .i64 b0_4)), (.sc (.int .i64 b0_5)), (.sc (.int .i64 b0_6)), (.sc (.int .i64 b0_7)), (.sc (.int .i64 b0_8)), (.sc (.int .i64 b0_9)), (.sc (.int .i64 b0_10)), (.sc (.int .i64 b0_11)), (.sc (.string b0_12)), (.sc (.int .i64 b0_13)), (.sc (.int .i64 b0_14)), (.sc (.int .i64 b0_15)), .emp, .emp, .emp]]⟩)]⟩
noncomputable def ks51_0 : List SK := [.f .dead, .f (.clo 52 []), .f (.str), .f .dead, .f .dead, .f .dead, .f (.ref 16000 1 0 0), .f .dead, .f .dead, .f .dead, .f .dead, .f (.ro 19), .f (.int .i64), .f (.int .i64), .f .dead, .f .dead, .f .dead, .f .dead, .f .dead, .f .dead, .f .dead, .f .dead, .f .dead, .f .dead, .f .dead]
noncomputable def hs51_0 : List HK := [⟨16000, .box, 43, 19, some [.str, .bool, .bool, .int .i64, .int .i64, .int .i64, .int .i64, .int .i64, .int .i64, .int .i64, .int .i64, .int .i64, .str, .int .i64, .int .i64, .int .i64, .emp, .emp, .emp]⟩]
noncomputable def Lm51_0 (s : St) (k : Ex → St → Option CR) : Option CR := bif chkS ks51_0 hs51_0 s then (G_rules_find_UnitType_0 (toS (cIa s.tmps 2)) (roRows (cIa s.tmps 11)) (toI (cIa s.tmps 12)) FU (toI (cIa s.tmps 13))).bind (X51_0 (toS (cIa (rows0 (blkAt s.heap 0).2) 0)) (toB (cIa (rows0 (blkAt s.heap 0).2) 1)) (toB (cIa (rows0 (blkAt s.heap 0).2) 2)) (toI (cIa (rows0 (blkAt s.heap 0).2) 3)) (toI (cIa (rows0 (blkAt s.heap 0).2) 4)) (toI (cIa (rows0 (blkAt s.heap 0).2) 5)) (toI (cIa (rows0 (blkAt s.heap 0).2) 6)) (toI (cIa (rows0 (blkAt s.heap 0).2) 7)) (toI (cIa (rows0 (blkAt s.heap 0).2) 8)) (toI (cIa (rows0 (blkAt s.heap 0).2) 9)) (toI (cIa (rows0 (blkAt s.heap 0).2) 10)) (toI (cIa (rows0 (blkAt s.heap 0).2) 11)) (toS (cIa (rows0 (blkAt s.heap 0).2) 12)) (toI (cIa (rows0 (blkAt s.heap 0).2) 13)) (toI (cIa (rows0 (blkAt s.heap 0).2) 14)) (toI (cIa (rows0 (blkAt s.heap 0).2) 15)) k) else none
noncomputable def L51_0 (s : St) (k : Ex → St → Option CR) : Option CR := Lm51_0 (maskS (maskOf ks51_0) s) k

noncomputable def L51 : LT' := fun i s k => bif Nat.beq i 0 then L51_0 s k else none

/-- 'skirmish/rules.find[skirmish/api.UnitType]' -/
noncomputable def F_rules_find_UnitType (l : List (List AVal)) (want : ByteArray) : Option (ByteArray × Bool × Bool × Int × Int × Int × Int × Int × Int × Int × Int × Int × ByteArray × Int × Int × Int × List (List AVal) × List (List AVal) × List (List AVal) × Bool) :=
  Option.bind (G_rules_find_UnitType_0 want l (Int.ofNat l.length) FU (0 : Int)) fun t =>
  bif t.1 then
    some (t.2.1, t.2.2.1, t.2.2.2.1, t.2.2.2.2.1, t.2.2.2.2.2.1, t.2.2.2.2.2.2.1, t.2.2.2.2.2.2.2.1, t.2.2.2.2.2.2.2.2.1, t.2.2.2.2.2.2.2.2.2.1, t.2.2.2.2.2.2.2.2.2.2.1, t.2.2.2.2.2.2.2.2.2.2.2.1, t.2.2.2.2.2.2.2.2.2.2.2.2.1, t.2.2.2.2.2.2.2.2.2.2.2.2.2.1, t.2.2.2.2.2.2.2.2.2.2.2.2.2.2.1, t.2.2.2.2.2.2.2.2.2.2.2.2.2.2.2.1, t.2.2.2.2.2.2.2.2.2.2.2.2.2.2.2.2.1, t.2.2.2.2.2.2.2.2.2.2.2.2.2.2.2.2.2.1, t.2.2.2.2.2.2.2.2.2.2.2.2.2.2.2.2.2.2.1, t.2.2.2.2.2.2.2.2.2.2.2.2.2.2.2.2.2.2.2, true)
  else
  some ((ByteArray.mk (Array.mk [])), false, false, (0 : Int), (0 : Int), (0 : Int), (0 : Int), (0 : Int), (0 : Int), (0 : Int), (0 : Int), (0 : Int), (ByteArray.mk (Array.mk [])), (0 : Int), (0 : Int), (0 : Int), [], [], [], false)
noncomputable def enc51 (t : ByteArray × Bool × Bool × Int × Int × Int × Int × Int × Int × Int × Int × Int × ByteArray × Int × Int × Int × List (List AVal) × List (List AVal) × List (List AVal) × Bool) : CR := ⟨true, (.tup [(.agg [(.sc (.string t.1)), (.sc (.bool t.2.1)), (.sc (.bool t.2.2.1)), (.sc (.int .i64 t.2.2.2.1)), (.sc (.int .i64 t.2.2.2.2.1)), (.sc (.int .i64 t.2.2.2.2.2.1)), (.sc (.int .i64 t.2.2.2.2.2.2.1)), (.sc (.int .i64 t.2.2.2.2.2.2.2.1)), (.sc (.int .i64 t.2.2.2.2.2.2.2.2.1)), (.sc (.int .i64 t.2.2.2.2.2.2.2.2.2.1)), (.sc (.int .i64 t.2.2.2.2.2.2.2.2.2.2.1)), (.sc (.int .i64 t.2.2.2.2.2.2.2.2.2.2.2.1)), (.sc (.string t.2.2.2.2.2.2.2.2.2.2.2.2.1)), (.sc (.int .i64 t.2.2.2.2.2.2.2.2.2.2.2.2.2.1)), (.sc (.int .i64 t.2.2.2.2.2.2.2.2.2.2.2.2.2.2.1)), (.sc (.int .i64 t.2.2.2.2.2.2.2.2.2.2.2.2.2.2.2.1)), (.ro 1 t.2.2.2.2.2.2.2.2.2.2.2.2.2.2.2.2.1), (.ro 1 t.2.2.2.2.2.2.2.2.2.2.2.2.2.2.2.2.2.1), (.ro 1 t.2.2.2.2.2.2.2.2.2.2.2.2.2.2.2.2.2.2.1)]), (.sc (.bool t.2.2.2.2.2.2.2.2.2.2.2.2.2.2.2.2.2.2.2))]), [], []⟩
noncomputable def ks51 : List SK := [.f (.ro 19), .f (.clo 52 []), .f (.str)]
noncomputable def S51 (us : List AVal) : Call := bif chkA ks51 us then Call.of (F_rules_find_UnitType (roRows (cIa us 0)) (toS (cIa us 2))) enc51 else Call.none
noncomputable def C51 := AI.ext 51 S51 C52

@[reducible] noncomputable def B51_0 := bodyOf TT TU GL0 C52 ownF L51 (lp Try.f51 0)
@[reducible] noncomputable def K51_0 (k : Ex → St → Option CR) : Ex → St → Option CR := fun e s => k e (maskS (W51_0 e) s)
theorem spec51_0 (k : Ex → St → Option CR) : ∀ (m : Nat) (want : ByteArray) (x11 : List (List AVal)) (x12 : Int) (x13 : Int) (b0_0 : ByteArray) (b0_1 : Bool) (b0_2 : Bool) (b0_3 : Int) (b0_4 : Int) (b0_5 : Int) (b0_6 : Int) (b0_7 : Int) (b0_8 : Int) (b0_9 : Int) (b0_10 : Int) (b0_11 : Int) (b0_12 : ByteArray) (b0_13 : Int) (b0_14 : Int) (b0_15 : Int), loopN B51_0 m (E51_0 want x11 x12 x13 b0_0 b0_1 b0_2 b0_3 b0_4 b0_5 b0_6 b0_7 b0_8 b0_9 b0_10 b0_11 b0_12 b0_13 b0_14 b0_15) (K51_0 k) = (G_rules_find_UnitType_0 want x11 x12 m x13).bind (X51_0 b0_0 b0_1 b0_2 b0_3 b0_4 b0_5 b0_6 b0_7 b0_8 b0_9 b0_10 b0_11 b0_12 b0_13 b0_14 b0_15 k)
  | 0, _, _, _, _, _, _, _, _, _, _, _, _, _, _, _, _, _, _, _, _ => rfl
  | m + 1, want, x11, x12, x13, b0_0, b0_1, b0_2, b0_3, b0_4, b0_5, b0_6, b0_7, b0_8, b0_9, b0_10, b0_11, b0_12, b0_13, b0_14, b0_15 =>
    Eq.trans (b := (bif (decide (x13 < x12)) then (bif (decide ((0 : Int) ≤ x13)) then (Option.bind (x11[x13.toNat]?) fun r => (bif (chk [LT.str, LT.bool, LT.bool, (LT.int IntKind.i64), (LT.int IntKind.i64), (LT.int IntKind.i64), (LT.int IntKind.i64), (LT.int IntKind.i64), (LT.int IntKind.i64), (LT.int IntKind.i64), (LT.int IntKind.i64), (LT.int IntKind.i64), LT.str, (LT.int IntKind.i64), (LT.int IntKind.i64), (LT.int IntKind.i64), (LT.sl 9 1), (LT.sl 9 1), (LT.sl 9 1)] r) then (Option.bind (F_rules_unitName (cS r 0) (cB r 1) (cB r 2) (cI r 3) (cI r 4) (cI r 5) (cI r 6) (cI r 7) (cI r 8) (cI r 9) (cI r 10) (cI r 11) (cS r 12) (cI r 13) (cI r 14) (cI r 15) (roRows (AVal.ro 1 (cR r 16))) (roRows (AVal.ro 1 (cR r 17))) (roRows (AVal.ro 1 (cR r 18)))) fun t => (bif (List.beq (ByteArray.toList t) (ByteArray.toList want)) then (k .ret ⟨[.dead, .dead, .dead, .dead, .dead, .dead, (AVal.ref 16000 1 0 0), (bo true), .dead, .dead, .dead, .dead, .dead, .dead, .dead, .dead, .dead, .dead, .dead, .dead, .dead, .dead, .dead, .dead, .dead], [(Prod.mk 16000 (Blk.mk BKind.box 43 19 [[(AVal.sc (Value.string (cS r 0))), (bo (cB r 1)), (bo (cB r 2)), (i64 (cI r 3)), (i64 (cI r 4)), (i64 (cI r 5)), (i64 (cI r 6)), (i64 (cI r 7)), (i64 (cI r 8)), (i64 (cI r 9)), (i64 (cI r 10)), (i64 (cI r 11)), (AVal.sc (Value.string (cS r 12))), (i64 (cI r 13)), (i64 (cI r 14)), (i64 (cI r 15)), (AVal.ro 1 (cR r 16)), (AVal.ro 1 (cR r 17)), (AVal.ro 1 (cR r 18))]]))]⟩) else (loopN B51_0 m ⟨[.dead, (AVal.clo 52 []), (AVal.sc (Value.string want)), .dead, .dead, .dead, (AVal.ref 16000 1 0 0), .dead, .dead, .dead, .dead, (AVal.ro 19 x11), (i64 x12), (i64 (wr (x13 + (1 : Int)))), .dead, .dead, .dead, .dead, .dead, .dead, .dead, .dead, .dead, .dead, .dead], [(Prod.mk 16000 (Blk.mk BKind.box 43 19 [[(AVal.sc (Value.string b0_0)), (bo b0_1), (bo b0_2), (i64 b0_3), (i64 b0_4), (i64 b0_5), (i64 b0_6), (i64 b0_7), (i64 b0_8), (i64 b0_9), (i64 b0_10), (i64 b0_11), (AVal.sc (Value.string b0_12)), (i64 b0_13), (i64 b0_14), (i64 b0_15), AVal.emp, AVal.emp, AVal.emp]]))]⟩ (K51_0 k)))) else none)) else none) else (k (.exit 0) ⟨[.dead, .dead, .dead, .dead, .dead, .dead, (AVal.ref 16000 1 0 0), .dead, .dead, .dead, .dead, .dead, .dead, .dead, .dead, .dead, .dead, .dead, .dead, .dead, .dead, .dead, .dead, .dead, .dead], [(Prod.mk 16000 (Blk.mk BKind.box 43 19 [[(AVal.sc (Value.string b0_0)), (bo b0_1), (bo b0_2), (i64 b0_3), (i64 b0_4), (i64 b0_5), (i64 b0_6), (i64 b0_7), (i64 b0_8), (i64 b0_9), (i64 b0_10), (i64 b0_11), (AVal.sc (Value.string b0_12)), (i64 b0_13), (i64 b0_14), (i64 b0_15), AVal.emp, AVal.emp, AVal.emp]]))]⟩))) (by kernel_rfl)
      (n_condH rfl (fun h0 => (n_condH rfl (fun h1 => (n_bind fun r => (n_condH rfl (fun h2 => (n_bind fun t => (n_condH rfl (fun h3 => rfl) fun h3 => (spec51_0 k m want x11 x12 (wr (x13 + (1 : Int))) b0_0 b0_1 b0_2 b0_3 b0_4 b0_5 b0_6 b0_7 b0_8 b0_9 b0_10 b0_11 b0_12 b0_13 b0_14 b0_15)))) fun h2 => n_none))) fun h1 => n_none)) fun h0 => rfl)
theorem okL51_0 : LoopOk TT TU GL0 C52 ownF L51 (lp Try.f51 0) :=
  loopOk_of ks51_0 hs51_0 W51_0 FU (fun s k => (G_rules_find_UnitType_0 (toS (cIa s.tmps 2)) (roRows (cIa s.tmps 11)) (toI (cIa s.tmps 12)) FU (toI (cIa s.tmps 13))).bind (X51_0 (toS (cIa (rows0 (blkAt s.heap 0).2) 0)) (toB (cIa (rows0 (blkAt s.heap 0).2) 1)) (toB (cIa (rows0 (blkAt s.heap 0).2) 2)) (toI (cIa (rows0 (blkAt s.heap 0).2) 3)) (toI (cIa (rows0 (blkAt s.heap 0).2) 4)) (toI (cIa (rows0 (blkAt s.heap 0).2) 5)) (toI (cIa (rows0 (blkAt s.heap 0).2) 6)) (toI (cIa (rows0 (blkAt s.heap 0).2) 7)) (toI (cIa (rows0 (blkAt s.heap 0).2) 8)) (toI (cIa (rows0 (blkAt s.heap 0).2) 9)) (toI (cIa (rows0 (blkAt s.heap 0).2) 10)) (toI (cIa (rows0 (blkAt s.heap 0).2) 11)) (toS (cIa (rows0 (blkAt s.heap 0).2) 12)) (toI (cIa (rows0 (blkAt s.heap 0).2) 13)) (toI (cIa (rows0 (blkAt s.heap 0).2) 14)) (toI (cIa (rows0 (blkAt s.heap 0).2) 15)) k)) (fun s k => by kernel_rfl) (fun s k => spec51_0 k FU (toS (cIa s.tmps 2)) (roRows (cIa s.tmps 11)) (toI (cIa s.tmps 12)) (toI (cIa s.tmps 13)) (toS (cIa (rows0 (blkAt s.heap 0).2) 0)) (toB (cIa (rows0 (blkAt s.heap 0).2) 1)) (toB (cIa (rows0 (blkAt s.heap 0).2) 2)) (toI (cIa (rows0 (blkAt s.heap 0).2) 3)) (toI (cIa (rows0 (blkAt s.heap 0).2) 4)) (toI (cIa (rows0 (blkAt s.heap 0).2) 5)) (toI (cIa (rows0 (blkAt s.heap 0).2) 6)) (toI (cIa (rows0 (blkAt s.heap 0).2) 7)) (toI (cIa (rows0 (blkAt s.heap 0).2) 8)) (toI (cIa (rows0 (blkAt s.heap 0).2) 9)) (toI (cIa (rows0 (blkAt s.heap 0).2) 10)) (toI (cIa (rows0 (blkAt s.heap 0).2) 11)) (toS (cIa (rows0 (blkAt s.heap 0).2) 12)) (toI (cIa (rows0 (blkAt s.heap 0).2) 13)) (toI (cIa (rows0 (blkAt s.heap 0).2) 14)) (toI (cIa (rows0 (blkAt s.heap 0).2) 15)))
theorem run51 (l : List (List AVal)) (want : ByteArray) : fcall TT TU GL0 C52 ownF false L51 Try.f51 [(.ro 19 l), (.clo 52 []), (.sc (.string want))] = (F_rules_find_UnitType l want).bind fun t => some (enc51 t) :=
  Eq.trans (b := (Option.bind (G_rules_find_UnitType_0 want l (Int.ofNat l.length) FU (0 : Int)) fun t => (bif t.1 then (some (CR.mk true (AVal.tup [(AVal.agg [(AVal.sc (Value.string t.2.1)), (bo t.2.2.1), (bo t.2.2.2.1), (i64 t.2.2.2.2.1), (i64 t.2.2.2.2.2.1), (i64 t.2.2.2.2.2.2.1), (i64 t.2.2.2.2.2.2.2.1), (i64 t.2.2.2.2.2.2.2.2.1), (i64 t.2.2.2.2.2.2.2.2.2.1), (i64 t.2.2.2.2.2.2.2.2.2.2.1), (i64 t.2.2.2.2.2.2.2.2.2.2.2.1), (i64 t.2.2.2.2.2.2.2.2.2.2.2.2.1), (AVal.sc (Value.string t.2.2.2.2.2.2.2.2.2.2.2.2.2.1)), (i64 t.2.2.2.2.2.2.2.2.2.2.2.2.2.2.1), (i64 t.2.2.2.2.2.2.2.2.2.2.2.2.2.2.2.1), (i64 t.2.2.2.2.2.2.2.2.2.2.2.2.2.2.2.2.1), (AVal.ro 1 t.2.2.2.2.2.2.2.2.2.2.2.2.2.2.2.2.2.1), (AVal.ro 1 t.2.2.2.2.2.2.2.2.2.2.2.2.2.2.2.2.2.2.1), (AVal.ro 1 t.2.2.2.2.2.2.2.2.2.2.2.2.2.2.2.2.2.2.2)]), (bo true)]) [] [])) else (some (CR.mk true (AVal.tup [(AVal.agg [(AVal.sc (Value.string (ByteArray.mk (Array.mk [])))), (bo false), (bo false), (i64 (0 : Int)), (i64 (0 : Int)), (i64 (0 : Int)), (i64 (0 : Int)), (i64 (0 : Int)), (i64 (0 : Int)), (i64 (0 : Int)), (i64 (0 : Int)), (i64 (0 : Int)), (AVal.sc (Value.string (ByteArray.mk (Array.mk [])))), (i64 (0 : Int)), (i64 (0 : Int)), (i64 (0 : Int)), (AVal.ro 1 []), (AVal.ro 1 []), (AVal.ro 1 [])]), (bo false)]) [] []))))) (by kernel_rfl)
    (n_bind fun t => (n_condH rfl (fun h0 => rfl) fun h0 => rfl))
theorem lib51 : Lib Try.prog GL0 C51 :=
  Lib.fn lib52 mixed TT_ok Try.func51 (by decide +kernel) (by kernel_rfl) false L51 (loops_of 1 (by kernel_rfl) (belowS below0 okL51_0)) ks51 (F := fun us => F_rules_find_UnitType (roRows (cIa us 0)) (toS (cIa us 2))) (fun us => rfl) (fun us => run51 (roRows (cIa us 0)) (toS (cIa us 2))) (fun t => rfl)

/-! ### 70: slices.Clone[[]string,string] -/



/-- 'slices.Clone[[]string,string]' -/
noncomputable def F_slices_Clone_string_ne (s1 : List (List AVal)) : Option (List (List AVal)) :=
  bif (List.isEmpty s1) then
    none
  else
  bif (roomOk (0 + s1.length) 16) then
    some s1
  else
  none
noncomputable def F_slices_Clone_string (s1 : List (List AVal)) : Option (List (List AVal)) := bif s1.isEmpty then some [] else F_slices_Clone_string_ne s1
noncomputable def enc70 (t : List (List AVal)) : CR := ⟨true, (.slc 0 (t).length), [], [⟨.arr, 9, 1, t⟩]⟩
noncomputable def S70 (us : List AVal) : Call := bif chkA [.f (.ro 1)] us then Call.of (F_slices_Clone_string (roRows (cIa us 0))) enc70 else Call.none
noncomputable def C70 := AI.ext 70 S70 C51

theorem run70 (s1 : List (List AVal)) : fcall TT TU GL0 C51 ownF true noL Try.f70 [(.ro 1 s1)] = (F_slices_Clone_string_ne s1).bind fun t => some (enc70 t) :=
  Eq.trans (b := (bif (List.isEmpty s1) then none else (bif (roomOk (0 + s1.length) 16) then (bif (verEq s1.length s1.length) then (some (CR.mk true (AVal.slc 0 s1.length) [] [(Blk.mk BKind.arr 9 1 s1)])) else none) else none))) (by kernel_rfl)
    (n_condH rfl (fun h0 => n_none) fun h0 => (n_condH rfl (fun h1 => (n_true (verEq_rfl _) rfl)) fun h1 => n_none))
theorem lib70 : Lib Try.prog GL0 C70 :=
  Lib.clone lib51 mixed TT_ok Try.func70 (by decide +kernel) (by kernel_rfl) true noL (loops_of 0 (by kernel_rfl) below0)  1 (fun us => rfl) run70 (fun a cap => by cases a <;> kernel_rfl) (fun t => rfl)

/-! ### 53: skirmish/rules.cloneUnit -/



/-- 'skirmish/rules.cloneUnit' -/
noncomputable def F_rules_cloneUnit (u_Name : ByteArray) (u_Building : Bool) (u_Depot : Bool) (u_Class : Int) (u_W : Int) (u_H : Int) (u_Radius : Int) (u_Speed : Int) (u_Sight : Int) (u_Hp : Int) (u_Armor : Int) (u_Load : Int) (u_Weapon : ByteArray) (u_Ore : Int) (u_Wood : Int) (u_Time : Int) (u_Needs : List (List AVal)) (u_Trains : List (List AVal)) (u_Researches : List (List AVal)) : Option (List (List AVal) × List (List AVal) × List (List AVal) × ByteArray × Bool × Bool × Int × Int × Int × Int × Int × Int × Int × Int × Int × ByteArray × Int × Int × Int) :=
  Option.bind (F_slices_Clone_string u_Needs) fun t =>
  Option.bind (F_slices_Clone_string u_Trains) fun t1 =>
  Option.bind (F_slices_Clone_string u_Researches) fun t2 =>
  some (t, t1, t2, u_Name, u_Building, u_Depot, u_Class, u_W, u_H, u_Radius, u_Speed, u_Sight, u_Hp, u_Armor, u_Load, u_Weapon, u_Ore, u_Wood, u_Time)
noncomputable def enc53 (t : List (List AVal) × List (List AVal) × List (List AVal) × ByteArray × Bool × Bool × Int × Int × Int × Int × Int × Int × Int × Int × Int × ByteArray × Int × Int × Int) : CR := ⟨true, (.agg [(.sc (.string t.2.2.2.1)), (.sc (.bool t.2.2.2.2.1)), (.sc (.bool t.2.2.2.2.2.1)), (.sc (.int .i64 t.2.2.2.2.2.2.1)), (.sc (.int .i64 t.2.2.2.2.2.2.2.1)), (.sc (.int .i64 t.2.2.2.2.2.2.2.2.1)), (.sc (.int .i64 t.2.2.2.2.2.2.2.2.2.1)), (.sc (.int .i64 t.2.2.2.2.2.2.2.2.2.2.1)), (.sc (.int .i64 t.2.2.2.2.2.2.2.2.2.2.2.1)), (.sc (.int .i64 t.2.2.2.2.2.2.2.2.2.2.2.2.1)), (.sc (.int .i64 t.2.2.2.2.2.2.2.2.2.2.2.2.2.1)), (.sc (.int .i64 t.2.2.2.2.2.2.2.2.2.2.2.2.2.2.1)), (.sc (.string t.2.2.2.2.2.2.2.2.2.2.2.2.2.2.2.1)), (.sc (.int .i64 t.2.2.2.2.2.2.2.2.2.2.2.2.2.2.2.2.1)), (.sc (.int .i64 t.2.2.2.2.2.2.2.2.2.2.2.2.2.2.2.2.2.1)), (.sc (.int .i64 t.2.2.2.2.2.2.2.2.2.2.2.2.2.2.2.2.2.2)), (.slc 0 (t.1).length), (.slc 1 (t.2.1).length), (.slc 2 (t.2.2.1).length)]), [], [⟨.arr, 9, 1, t.1⟩, ⟨.arr, 9, 1, t.2.1⟩, ⟨.arr, 9, 1, t.2.2.1⟩]⟩
noncomputable def ks53 : List SK := [.agg [.str, .bool, .bool, .int .i64, .int .i64, .int .i64, .int .i64, .int .i64, .int .i64, .int .i64, .int .i64, .int .i64, .str, .int .i64, .int .i64, .int .i64, .ro 1, .ro 1, .ro 1]]
noncomputable def S53 (us : List AVal) : Call := bif chkA ks53 us then Call.of (F_rules_cloneUnit (toS (cIa (aggL (cIa us 0)) 0)) (toB (cIa (aggL (cIa us 0)) 1)) (toB (cIa (aggL (cIa us 0)) 2)) (toI (cIa (aggL (cIa us 0)) 3)) (toI (cIa (aggL (cIa us 0)) 4)) (toI (cIa (aggL (cIa us 0)) 5)) (toI (cIa (aggL (cIa us 0)) 6)) (toI (cIa (aggL (cIa us 0)) 7)) (toI (cIa (aggL (cIa us 0)) 8)) (toI (cIa (aggL (cIa us 0)) 9)) (toI (cIa (aggL (cIa us 0)) 10)) (toI (cIa (aggL (cIa us 0)) 11)) (toS (cIa (aggL (cIa us 0)) 12)) (toI (cIa (aggL (cIa us 0)) 13)) (toI (cIa (aggL (cIa us 0)) 14)) (toI (cIa (aggL (cIa us 0)) 15)) (roRows (cIa (aggL (cIa us 0)) 16)) (roRows (cIa (aggL (cIa us 0)) 17)) (roRows (cIa (aggL (cIa us 0)) 18))) enc53 else Call.none
noncomputable def C53 := AI.ext 53 S53 C70

theorem run53 (u_Name : ByteArray) (u_Building : Bool) (u_Depot : Bool) (u_Class : Int) (u_W : Int) (u_H : Int) (u_Radius : Int) (u_Speed : Int) (u_Sight : Int) (u_Hp : Int) (u_Armor : Int) (u_Load : Int) (u_Weapon : ByteArray) (u_Ore : Int) (u_Wood : Int) (u_Time : Int) (u_Needs : List (List AVal)) (u_Trains : List (List AVal)) (u_Researches : List (List AVal)) : fcall TT TU GL0 C70 ownF true noL Try.f53 [(.agg [(.sc (.string u_Name)), (.sc (.bool u_Building)), (.sc (.bool u_Depot)), (.sc (.int .i64 u_Class)), (.sc (.int .i64 u_W)), (.sc (.int .i64 u_H)), (.sc (.int .i64 u_Radius)), (.sc (.int .i64 u_Speed)), (.sc (.int .i64 u_Sight)), (.sc (.int .i64 u_Hp)), (.sc (.int .i64 u_Armor)), (.sc (.int .i64 u_Load)), (.sc (.string u_Weapon)), (.sc (.int .i64 u_Ore)), (.sc (.int .i64 u_Wood)), (.sc (.int .i64 u_Time)), (.ro 1 u_Needs), (.ro 1 u_Trains), (.ro 1 u_Researches)])] = (F_rules_cloneUnit u_Name u_Building u_Depot u_Class u_W u_H u_Radius u_Speed u_Sight u_Hp u_Armor u_Load u_Weapon u_Ore u_Wood u_Time u_Needs u_Trains u_Researches).bind fun t => some (enc53 t) :=
  Eq.trans (b := (Option.bind (F_slices_Clone_string u_Needs) fun t => (bif ((((true && (verEq t.length t.length)) && true) && true) && true) then (Option.bind (F_slices_Clone_string u_Trains) fun t1 => (bif ((((true && (verEq t1.length t1.length)) && true) && true) && true) then (Option.bind (F_slices_Clone_string u_Researches) fun t2 => (bif ((((true && (verEq t2.length t2.length)) && true) && true) && true) then (bif (verEq t.length t.length) then (bif (verEq t1.length t1.length) then (bif (verEq t2.length t2.length) then (some (CR.mk true (AVal.agg [(AVal.sc (Value.string u_Name)), (bo u_Building), (bo u_Depot), (i64 u_Class), (i64 u_W), (i64 u_H), (i64 u_Radius), (i64 u_Speed), (i64 u_Sight), (i64 u_Hp), (i64 u_Armor), (i64 u_Load), (AVal.sc (Value.string u_Weapon)), (i64 u_Ore), (i64 u_Wood), (i64 u_Time), (AVal.slc 0 t.length), (AVal.slc 1 t1.length), (AVal.slc 2 t2.length)]) [] [(Blk.mk BKind.arr 9 1 t), (Blk.mk BKind.arr 9 1 t1), (Blk.mk BKind.arr 9 1 t2)])) else none) else none) else none) else none)) else none)) else none))) (by kernel_rfl)
    (n_bind fun t => (n_true (n_andL (n_andL (n_andL (n_andL rfl (verEq_rfl _)) rfl) rfl) rfl) (n_bind fun t1 => (n_true (n_andL (n_andL (n_andL (n_andL rfl (verEq_rfl _)) rfl) rfl) rfl) (n_bind fun t2 => (n_true (n_andL (n_andL (n_andL (n_andL rfl (verEq_rfl _)) rfl) rfl) rfl) (n_true (verEq_rfl _) (n_true (verEq_rfl _) (n_true (verEq_rfl _) rfl)))))))))
theorem lib53 : Lib Try.prog GL0 C53 :=
  Lib.fn lib70 mixed TT_ok Try.func53 (by decide +kernel) (by kernel_rfl) true noL (loops_of 0 (by kernel_rfl) below0) ks53 (F := fun us => F_rules_cloneUnit (toS (cIa (aggL (cIa us 0)) 0)) (toB (cIa (aggL (cIa us 0)) 1)) (toB (cIa (aggL (cIa us 0)) 2)) (toI (cIa (aggL (cIa us 0)) 3)) (toI (cIa (aggL (cIa us 0)) 4)) (toI (cIa (aggL (cIa us 0)) 5)) (toI (cIa (aggL (cIa us 0)) 6)) (toI (cIa (aggL (cIa us 0)) 7)) (toI (cIa (aggL (cIa us 0)) 8)) (toI (cIa (aggL (cIa us 0)) 9)) (toI (cIa (aggL (cIa us 0)) 10)) (toI (cIa (aggL (cIa us 0)) 11)) (toS (cIa (aggL (cIa us 0)) 12)) (toI (cIa (aggL (cIa us 0)) 13)) (toI (cIa (aggL (cIa us 0)) 14)) (toI (cIa (aggL (cIa us 0)) 15)) (roRows (cIa (aggL (cIa us 0)) 16)) (roRows (cIa (aggL (cIa us 0)) 17)) (roRows (cIa (aggL (cIa us 0)) 18))) (fun us => rfl) (fun us => run53 (toS (cIa (aggL (cIa us 0)) 0)) (toB (cIa (aggL (cIa us 0)) 1)) (toB (cIa (aggL (cIa us 0)) 2)) (toI (cIa (aggL (cIa us 0)) 3)) (toI (cIa (aggL (cIa us 0)) 4)) (toI (cIa (aggL (cIa us 0)) 5)) (toI (cIa (aggL (cIa us 0)) 6)) (toI (cIa (aggL (cIa us 0)) 7)) (toI (cIa (aggL (cIa us 0)) 8)) (toI (cIa (aggL (cIa us 0)) 9)) (toI (cIa (aggL (cIa us 0)) 10)) (toI (cIa (aggL (cIa us 0)) 11)) (toS (cIa (aggL (cIa us 0)) 12)) (toI (cIa (aggL (cIa us 0)) 13)) (toI (cIa (aggL (cIa us 0)) 14)) (toI (cIa (aggL (cIa us 0)) 15)) (roRows (cIa (aggL (cIa us 0)) 16)) (roRows (cIa (aggL (cIa us 0)) 17)) (roRows (cIa (aggL (cIa us 0)) 18))) (fun t => rfl)

/-! ### 31: skirmish/rules.Unit -/



/-- 'skirmish/rules.Unit' -/
noncomputable def F_rules_Unit (r_Units : List (List AVal)) (r_Weapons : List (List AVal)) (r_Techs : List (List AVal)) (name : ByteArray) : Option (List (List AVal) × List (List AVal) × List (List AVal) × ByteArray × Bool × Bool × Int × Int × Int × Int × Int × Int × Int × Int × Int × ByteArray × Int × Int × Int × Bool) :=
  Option.bind (F_rules_find_UnitType r_Units name) fun t =>
  Option.bind (F_rules_cloneUnit t.1 t.2.1 t.2.2.1 t.2.2.2.1 t.2.2.2.2.1 t.2.2.2.2.2.1 t.2.2.2.2.2.2.1 t.2.2.2.2.2.2.2.1 t.2.2.2.2.2.2.2.2.1 t.2.2.2.2.2.2.2.2.2.1 t.2.2.2.2.2.2.2.2.2.2.1 t.2.2.2.2.2.2.2.2.2.2.2.1 t.2.2.2.2.2.2.2.2.2.2.2.2.1 t.2.2.2.2.2.2.2.2.2.2.2.2.2.1 t.2.2.2.2.2.2.2.2.2.2.2.2.2.2.1 t.2.2.2.2.2.2.2.2.2.2.2.2.2.2.2.1 t.2.2.2.2.2.2.2.2.2.2.2.2.2.2.2.2.1 t.2.2.2.2.2.2.2.2.2.2.2.2.2.2.2.2.2.1 t.2.2.2.2.2.2.2.2.2.2.2.2.2.2.2.2.2.2.1) fun t1 =>
  some (t1.1, t1.2.1, t1.2.2.1, t1.2.2.2.1, t1.2.2.2.2.1, t1.2.2.2.2.2.1, t1.2.2.2.2.2.2.1, t1.2.2.2.2.2.2.2.1, t1.2.2.2.2.2.2.2.2.1, t1.2.2.2.2.2.2.2.2.2.1, t1.2.2.2.2.2.2.2.2.2.2.1, t1.2.2.2.2.2.2.2.2.2.2.2.1, t1.2.2.2.2.2.2.2.2.2.2.2.2.1, t1.2.2.2.2.2.2.2.2.2.2.2.2.2.1, t1.2.2.2.2.2.2.2.2.2.2.2.2.2.2.1, t1.2.2.2.2.2.2.2.2.2.2.2.2.2.2.2.1, t1.2.2.2.2.2.2.2.2.2.2.2.2.2.2.2.2.1, t1.2.2.2.2.2.2.2.2.2.2.2.2.2.2.2.2.2.1, t1.2.2.2.2.2.2.2.2.2.2.2.2.2.2.2.2.2.2, t.2.2.2.2.2.2.2.2.2.2.2.2.2.2.2.2.2.2.2)
noncomputable def enc31 (t : List (List AVal) × List (List AVal) × List (List AVal) × ByteArray × Bool × Bool × Int × Int × Int × Int × Int × Int × Int × Int × Int × ByteArray × Int × Int × Int × Bool) : CR := ⟨true, (.tup [(.agg [(.sc (.string t.2.2.2.1)), (.sc (.bool t.2.2.2.2.1)), (.sc (.bool t.2.2.2.2.2.1)), (.sc (.int .i64 t.2.2.2.2.2.2.1)), (.sc (.int .i64 t.2.2.2.2.2.2.2.1)), (.sc (.int .i64 t.2.2.2.2.2.2.2.2.1)), (.sc (.int .i64 t.2.2.2.2.2.2.2.2.2.1)), (.sc (.int .i64 t.2.2.2.2.2.2.2.2.2.2.1)), (.sc (.int .i64 t.2.2.2.2.2.2.2.2.2.2.2.1)), (.sc (.int .i64 t.2.2.2.2.2.2.2.2.2.2.2.2.1)), (.sc (.int .i64 t.2.2.2.2.2.2.2.2.2.2.2.2.2.1)), (.sc (.int .i64 t.2.2.2.2.2.2.2.2.2.2.2.2.2.2.1)), (.sc (.string t.2.2.2.2.2.2.2.2.2.2.2.2.2.2.2.1)), (.sc (.int .i64 t.2.2.2.2.2.2.2.2.2.2.2.2.2.2.2.2.1)), (.sc (.int .i64 t.2.2.2.2.2.2.2.2.2.2.2.2.2.2.2.2.2.1)), (.sc (.int .i64 t.2.2.2.2.2.2.2.2.2.2.2.2.2.2.2.2.2.2.1)), (.slc 0 (t.1).length), (.slc 1 (t.2.1).length), (.slc 2 (t.2.2.1).length)]), (.sc (.bool t.2.2.2.2.2.2.2.2.2.2.2.2.2.2.2.2.2.2.2))]), [], [⟨.arr, 9, 1, t.1⟩, ⟨.arr, 9, 1, t.2.1⟩, ⟨.arr, 9, 1, t.2.2.1⟩]⟩
noncomputable def ks31 : List SK := [.agg [.ro 19, .ro 6, .ro 8], .f (.str)]
noncomputable def S31 (us : List AVal) : Call := bif chkA ks31 us then Call.of (F_rules_Unit (roRows (cIa (aggL (cIa us 0)) 0)) (roRows (cIa (aggL (cIa us 0)) 1)) (roRows (cIa (aggL (cIa us 0)) 2)) (toS (cIa us 1))) enc31 else Call.none
noncomputable def C31 := AI.ext 31 S31 C53

theorem run31 (r_Units : List (List AVal)) (r_Weapons : List (List AVal)) (r_Techs : List (List AVal)) (name : ByteArray) : fcall TT TU GL0 C53 ownF true noL Try.f31 [(.agg [(.ro 19 r_Units), (.ro 6 r_Weapons), (.ro 8 r_Techs)]), (.sc (.string name))] = (F_rules_Unit r_Units r_Weapons r_Techs name).bind fun t => some (enc31 t) :=
  Eq.trans (b := (Option.bind (F_rules_find_UnitType r_Units name) fun t => (Option.bind (F_rules_cloneUnit t.1 t.2.1 t.2.2.1 t.2.2.2.1 t.2.2.2.2.1 t.2.2.2.2.2.1 t.2.2.2.2.2.2.1 t.2.2.2.2.2.2.2.1 t.2.2.2.2.2.2.2.2.1 t.2.2.2.2.2.2.2.2.2.1 t.2.2.2.2.2.2.2.2.2.2.1 t.2.2.2.2.2.2.2.2.2.2.2.1 t.2.2.2.2.2.2.2.2.2.2.2.2.1 t.2.2.2.2.2.2.2.2.2.2.2.2.2.1 t.2.2.2.2.2.2.2.2.2.2.2.2.2.2.1 t.2.2.2.2.2.2.2.2.2.2.2.2.2.2.2.1 t.2.2.2.2.2.2.2.2.2.2.2.2.2.2.2.2.1 t.2.2.2.2.2.2.2.2.2.2.2.2.2.2.2.2.2.1 t.2.2.2.2.2.2.2.2.2.2.2.2.2.2.2.2.2.2.1) fun t1 => (bif ((((true && (verEq t1.1.length t1.1.length)) && true) && true) && true) then (bif ((((true && (verEq t1.2.1.length t1.2.1.length)) && true) && true) && true) then (bif ((((true && (verEq t1.2.2.1.length t1.2.2.1.length)) && true) && true) && true) then (bif (verEq t1.1.length t1.1.length) then (bif (verEq t1.2.1.length t1.2.1.length) then (bif (verEq t1.2.2.1.length t1.2.2.1.length) then (some (CR.mk true (AVal.tup [(AVal.agg [(AVal.sc (Value.string t1.2.2.2.1)), (bo t1.2.2.2.2.1), (bo t1.2.2.2.2.2.1), (i64 t1.2.2.2.2.2.2.1), (i64 t1.2.2.2.2.2.2.2.1), (i64 t1.2.2.2.2.2.2.2.2.1), (i64 t1.2.2.2.2.2.2.2.2.2.1), (i64 t1.2.2.2.2.2.2.2.2.2.2.1), (i64 t1.2.2.2.2.2.2.2.2.2.2.2.1), (i64 t1.2.2.2.2.2.2.2.2.2.2.2.2.1), (i64 t1.2.2.2.2.2.2.2.2.2.2.2.2.2.1), (i64 t1.2.2.2.2.2.2.2.2.2.2.2.2.2.2.1), (AVal.sc (Value.string t1.2.2.2.2.2.2.2.2.2.2.2.2.2.2.2.1)), (i64 t1.2.2.2.2.2.2.2.2.2.2.2.2.2.2.2.2.1), (i64 t1.2.2.2.2.2.2.2.2.2.2.2.2.2.2.2.2.2.1), (i64 t1.2.2.2.2.2.2.2.2.2.2.2.2.2.2.2.2.2.2), (AVal.slc 0 t1.1.length), (AVal.slc 1 t1.2.1.length), (AVal.slc 2 t1.2.2.1.length)]), (bo t.2.2.2.2.2.2.2.2.2.2.2.2.2.2.2.2.2.2.2)]) [] [(Blk.mk BKind.arr 9 1 t1.1), (Blk.mk BKind.arr 9 1 t1.2.1), (Blk.mk BKind.arr 9 1 t1.2.2.1)])) else none) else none) else none) else none) else none) else none)))) (by kernel_rfl)
    (n_bind fun t => (n_bind fun t1 => (n_true (n_andL (n_andL (n_andL (n_andL rfl (verEq_rfl _)) rfl) rfl) rfl) (n_true (n_andL (n_andL (n_andL (n_andL rfl (verEq_rfl _)) rfl) rfl) rfl) (n_true (n_andL (n_andL (n_andL (n_andL rfl (verEq_rfl _)) rfl) rfl) rfl) (n_true (verEq_rfl _) (n_true (verEq_rfl _) (n_true (verEq_rfl _) rfl))))))))
theorem lib31 : Lib Try.prog GL0 C31 :=
  Lib.fn lib53 mixed TT_ok Try.func31 (by decide +kernel) (by kernel_rfl) true noL (loops_of 0 (by kernel_rfl) below0) ks31 (F := fun us => F_rules_Unit (roRows (cIa (aggL (cIa us 0)) 0)) (roRows (cIa (aggL (cIa us 0)) 1)) (roRows (cIa (aggL (cIa us 0)) 2)) (toS (cIa us 1))) (fun us => rfl) (fun us => run31 (roRows (cIa (aggL (cIa us 0)) 0)) (roRows (cIa (aggL (cIa us 0)) 1)) (roRows (cIa (aggL (cIa us 0)) 2)) (toS (cIa us 1))) (fun t => rfl)

/-! ### 50: slices.Index[[]string,string] -/

noncomputable def W50_0 : Ex → List Bool
  | .ret => [false, false, false, false, true, false, false, false, false, false, false, false, false, false, false, false, false, false, false]
  | .exit n => bif Nat.beq n 0 then [false, false, false, false, false, false, false, false, false, false, false, false, false, false, false, false, false, false, false] else []
  | .normal => []
noncomputable def G_slices_Index_string_0 (s1 : List (List AVal)) (v : ByteArray) (x7 : Int) : Nat → Int → Option (Bool × Int)
  | 0, _ => none
  | m + 1, x8 =>
    bif (decide (x8 < x7)) then
      bif (decide ((0 : Int) ≤ x8)) then
        Option.bind (s1[x8.toNat]?) fun r =>
        bif (chk [LT.str] r) then
          bif (List.beq (ByteArray.toList v) (ByteArray.toList (cS r 0))) then
            some (true, x8)
          else
          G_slices_Index_string_0 s1 v x7 m (wr (x8 + (1 : Int)))
        else
        none
      else
      none
    else
    some (false, 0)
noncomputable def E50_0 (s1 : List (List AVal)) (v : ByteArray) (x7 : Int) (x8 : Int) : St := ⟨[(.ro 1 s1), (.sc (.string v)), .dead, .dead, .dead, .dead, .dead, (.sc (.int .i64 x7)), (.sc (.int .i64 x8)), .dead, .dead, .dead, .dead, .dead, .dead, .dead, .dead, .dead, .dead], []⟩
noncomputable def X50_0 (k : Ex → St → Option CR) (t : Bool × Int) : Option CR := bif t.1 then k .ret ⟨[.dead, .dead, .dead, .dead, (.sc (.int .i64 t.2)), .dead, .dead, .dead, .dead, .dead, .dead, .dead, .dead, .dead, .dead, .dead, .dead, .dead, .dead], []⟩ else k (.exit 0) ⟨[.dead, .dead, .dead, .dead, .dead, .dead, .dead, .dead, .dead, .dead, .dead, .dead, .dead, .dead, .dead, .dead, .dead, .dead, .dead], []⟩
noncomputable def ks50_0 : List SK := [.f (.ro 1), .f (.str), .f .dead, .f .dead, .f .dead, .f .dead, .f .dead, .f (.int .i64), .f (.int .i64), .f .dead, .f .dead, .f .dead, .f .dead, .f .dead, .f .dead, .f .dead, .f .dead, .f .dead, .f .dead]
noncomputable def hs50_0 : List HK := []
noncomputable def Lm50_0 (s : St) (k : Ex → St → Option CR) : Option CR := bif chkS ks50_0 hs50_0 s then (G_slices_Index_string_0 (roRows (cIa s.tmps 0)) (toS (cIa s.tmps 1)) (toI (cIa s.tmps 7)) FU (toI (cIa s.tmps 8))).bind (X50_0 k) else none
noncomputable def L50_0 (s : St) (k : Ex → St → Option CR) : Option CR := Lm50_0 (maskS (maskOf ks50_0) s) k

noncomputable def L50 : LT' := fun i s k => bif Nat.beq i 0 then L50_0 s k else none

/-- 'slices.Index[[]string,string]' -/
noncomputable def F_slices_Index_string (s1 : List (List AVal)) (v : ByteArray) : Option (Int) :=
  Option.bind (G_slices_Index_string_0 s1 v (Int.ofNat s1.length) FU (0 : Int)) fun t =>
  bif t.1 then
    some t.2
  else
  some (-(1 : Int))
noncomputable def enc50 (t : Int) : CR := ⟨true, (.sc (.int .i64 t)), [], []⟩
noncomputable def ks50 : List SK := [.f (.ro 1), .f (.str)]
noncomputable def S50 (us : List AVal) : Call := bif chkA ks50 us then Call.of (F_slices_Index_string (roRows (cIa us 0)) (toS (cIa us 1))) enc50 else Call.none
noncomputable def C50 := AI.ext 50 S50 C31

@[reducible] noncomputable def B50_0 := bodyOf TT TU GL0 C31 ownF L50 (lp Try.f50 0)
@[reducible] noncomputable def K50_0 (k : Ex → St → Option CR) : Ex → St → Option CR := fun e s => k e (maskS (W50_0 e) s)
theorem spec50_0 (k : Ex → St → Option CR) : ∀ (m : Nat) (s1 : List (List AVal)) (v : ByteArray) (x7 : Int) (x8 : Int), loopN B50_0 m (E50_0 s1 v x7 x8) (K50_0 k) = (G_slices_Index_string_0 s1 v x7 m x8).bind (X50_0 k)
  | 0, _, _, _, _ => rfl
  | m + 1, s1, v, x7, x8 =>
    Eq.trans (b := (bif (decide (x8 < x7)) then (bif (decide ((0 : Int) ≤ x8)) then (Option.bind (s1[x8.toNat]?) fun r => (bif (chk [LT.str] r) then (bif (List.beq (ByteArray.toList v) (ByteArray.toList (cS r 0))) then (k .ret ⟨[.dead, .dead, .dead, .dead, (i64 x8), .dead, .dead, .dead, .dead, .dead, .dead, .dead, .dead, .dead, .dead, .dead, .dead, .dead, .dead], []⟩) else (loopN B50_0 m ⟨[(AVal.ro 1 s1), (AVal.sc (Value.string v)), .dead, .dead, .dead, .dead, .dead, (i64 x7), (i64 (wr (x8 + (1 : Int)))), .dead, .dead, .dead, .dead, .dead, .dead, .dead, .dead, .dead, .dead], []⟩ (K50_0 k))) else none)) else none) else (k (.exit 0) ⟨[.dead, .dead, .dead, .dead, .dead, .dead, .dead, .dead, .dead, .dead, .dead, .dead, .dead, .dead, .dead, .dead, .dead, .dead, .dead], []⟩))) (by kernel_rfl)
      (n_condH rfl (fun h0 => (n_condH rfl (fun h1 => (n_bind fun r => (n_condH rfl (fun h2 => (n_condH rfl (fun h3 => rfl) fun h3 => (spec50_0 k m s1 v x7 (wr (x8 + (1 : Int)))))) fun h2 => n_none))) fun h1 => n_none)) fun h0 => rfl)
theorem okL50_0 : LoopOk TT TU GL0 C31 ownF L50 (lp Try.f50 0) :=
  loopOk_of ks50_0 hs50_0 W50_0 FU (fun s k => (G_slices_Index_string_0 (roRows (cIa s.tmps 0)) (toS (cIa s.tmps 1)) (toI (cIa s.tmps 7)) FU (toI (cIa s.tmps 8))).bind (X50_0 k)) (fun s k => by kernel_rfl) (fun s k => spec50_0 k FU (roRows (cIa s.tmps 0)) (toS (cIa s.tmps 1)) (toI (cIa s.tmps 7)) (toI (cIa s.tmps 8)))
theorem run50 (s1 : List (List AVal)) (v : ByteArray) : fcall TT TU GL0 C31 ownF true L50 Try.f50 [(.ro 1 s1), (.sc (.string v))] = (F_slices_Index_string s1 v).bind fun t => some (enc50 t) :=
  Eq.trans (b := (Option.bind (G_slices_Index_string_0 s1 v (Int.ofNat s1.length) FU (0 : Int)) fun t => (bif t.1 then (some (CR.mk true (i64 t.2) [] [])) else (some (CR.mk true (i64 (-(1 : Int))) [] []))))) (by kernel_rfl)
    (n_bind fun t => (n_condH rfl (fun h0 => rfl) fun h0 => rfl))
theorem lib50 : Lib Try.prog GL0 C50 :=
  Lib.fn lib31 mixed TT_ok Try.func50 (by decide +kernel) (by kernel_rfl) true L50 (loops_of 1 (by kernel_rfl) (belowS below0 okL50_0)) ks50 (F := fun us => F_slices_Index_string (roRows (cIa us 0)) (toS (cIa us 1))) (fun us => rfl) (fun us => run50 (roRows (cIa us 0)) (toS (cIa us 1))) (fun t => rfl)

/-! ### 28: slices.Contains[[]string,string] -/



/-- 'slices.Contains[[]string,string]' -/
noncomputable def F_slices_Contains_string (s1 : List (List AVal)) (v : ByteArray) : Option (Bool) :=
  Option.bind (F_slices_Index_string s1 v) fun t =>
  some (decide (t ≥ (0 : Int)))
noncomputable def enc28 (t : Bool) : CR := ⟨true, (.sc (.bool t)), [], []⟩
noncomputable def ks28 : List SK := [.f (.ro 1), .f (.str)]
noncomputable def S28 (us : List AVal) : Call := bif chkA ks28 us then Call.of (F_slices_Contains_string (roRows (cIa us 0)) (toS (cIa us 1))) enc28 else Call.none
noncomputable def C28 := AI.ext 28 S28 C50

theorem run28 (s1 : List (List AVal)) (v : ByteArray) : fcall TT TU GL0 C50 ownF true noL Try.f28 [(.ro 1 s1), (.sc (.string v))] = (F_slices_Contains_string s1 v).bind fun t => some (enc28 t) :=
  Eq.trans (b := (Option.bind (F_slices_Index_string s1 v) fun t => (some (CR.mk true (bo (decide (t ≥ (0 : Int)))) [] [])))) (by kernel_rfl)
    (n_bind fun t => rfl)
theorem lib28 : Lib Try.prog GL0 C28 :=
  Lib.fn lib50 mixed TT_ok Try.func28 (by decide +kernel) (by kernel_rfl) true noL (loops_of 0 (by kernel_rfl) below0) ks28 (F := fun us => F_slices_Contains_string (roRows (cIa us 0)) (toS (cIa us 1))) (fun us => rfl) (fun us => run28 (roRows (cIa us 0)) (toS (cIa us 1))) (fun t => rfl)

/-! ### 29: skirmish/num.Clamp -/



/-- 'skirmish/num.Clamp' -/
noncomputable def F_num_Clamp (n : Int) (lo : Int) (hi : Int) : Option (Int) :=
  some (maxI lo (minI n hi))
noncomputable def enc29 (t : Int) : CR := ⟨true, (.sc (.int .i64 t)), [], []⟩
noncomputable def ks29 : List SK := [.f (.int .i64), .f (.int .i64), .f (.int .i64)]
noncomputable def S29 (us : List AVal) : Call := bif chkA ks29 us then Call.of (F_num_Clamp (toI (cIa us 0)) (toI (cIa us 1)) (toI (cIa us 2))) enc29 else Call.none
noncomputable def C29 := AI.ext 29 S29 C28

theorem run29 (n : Int) (lo : Int) (hi : Int) : fcall TT TU GL0 C28 ownF true noL Try.f29 [(.sc (.int .i64 n)), (.sc (.int .i64 lo)), (.sc (.int .i64 hi))] = (F_num_Clamp n lo hi).bind fun t => some (enc29 t) :=
  Eq.trans (b := (some (CR.mk true (i64 (maxI lo (minI n hi))) [] []))) (by kernel_rfl)
    rfl
theorem lib29 : Lib Try.prog GL0 C29 :=
  Lib.fn lib28 mixed TT_ok Try.func29 (by decide +kernel) (by kernel_rfl) true noL (loops_of 0 (by kernel_rfl) below0) ks29 (F := fun us => F_num_Clamp (toI (cIa us 0)) (toI (cIa us 1)) (toI (cIa us 2))) (fun us => rfl) (fun us => run29 (toI (cIa us 0)) (toI (cIa us 1)) (toI (cIa us 2))) (fun t => rfl)

/-! ### 12: skirmish/upgrade.Stat -/

noncomputable def W12_0 : Ex → List Bool
  | .ret => [false, false, false, false, false, false, false, false, true, false, false, false, false, false, false, false, false, false, false, false, false, false, false, false, false, false, false, false, false, false, false, false, false, false, false, false, false, false, false, false, false, false]
  | .exit n => bif Nat.beq n 0 then [false, false, false, false, false, false, false, false, false, true, false, false, false, false, false, false, false, false, false, false, false, false, false, false, false, false, false, false, false, false, false, false, false, false, false, false, false, false, false, false, false, false] else []
  | .normal => []
noncomputable def G_upgrade_Stat_0 (techs : List (List AVal)) (unit : ByteArray) (number : Int) (x13 : List (List AVal)) (x14 : Int) : Nat → Int → Int → Option (Int)
  | 0, _, _ => none
  | m + 1, sum, x15 =>
    bif (decide (x15 < x14)) then
      bif (decide ((0 : Int) ≤ x15)) then
        Option.bind (x13[x15.toNat]?) fun r =>
        bif (chk [LT.str, (LT.sl 9 1), (LT.int IntKind.i64), (LT.int IntKind.i64), (LT.int IntKind.i64), LT.str, (LT.int IntKind.i64), (LT.int IntKind.i64)] r) then
          bif (List.beq (ByteArray.toList (cS r 5)) (ByteArray.toList unit)) then
            bif ((cI r 6) == number) then
              Option.bind (F_slices_Contains_string techs (cS r 0)) fun t =>
              bif t then
                Option.bind (F_num_Clamp (cI r 7) (-(100000 : Int)) (100000 : Int)) fun t1 =>
                G_upgrade_Stat_0 techs unit number x13 x14 m (wr (sum + t1)) (wr (x15 + (1 : Int)))
              else
              G_upgrade_Stat_0 techs unit number x13 x14 m sum (wr (x15 + (1 : Int)))
            else
            G_upgrade_Stat_0 techs unit number x13 x14 m sum (wr (x15 + (1 : Int)))
          else
          G_upgrade_Stat_0 techs unit number x13 x14 m sum (wr (x15 + (1 : Int)))
        else
        none
      else
      none
    else
    some sum
noncomputable def E12_0 (techs : List (List AVal)) (unit : ByteArray) (number : Int) (sum : Int) (x13 : List (List AVal)) (x14 : Int) (x15 : Int) : St := ⟨[.dead, (.ro 1 techs), (.sc (.string unit)), (.sc (.int .i64 number)), .dead, .dead, .dead, .dead, .dead, (.sc (.int .i64 sum)), .dead, .dead, .dead, (.ro 8 x13), (.sc (.int .i64 x14)), (.sc (.int .i64 x15)), .dead, .dead, .dead, .dead, .dead, .dead, .dead, .dead, .dead, .dead, .dead, .dead, .dead, .dead, .dead, .dead, .dead, .dead, .dead, .dead, .dead, .dead, .dead, .dead, .dead, .dead], []⟩
noncomputable def X12_0 (k : Ex → St → Option CR) (t : Int) : Option CR := k (.exit 0) ⟨[.dead, .dead, .dead, .dead, .dead, .dead, .dead, .dead, .dead, (.sc (.int .i64 t)), .dead, .dead, .dead, .dead, .dead, .dead, .dead, .dead, .dead, .dead, .dead, .dead, .dead, .dead, .dead, .dead, .dead, .dead, .dead, .dead, .dead, .dead, .dead, .dead, .dead, .dead, .dead, .dead, .dead, .dead, .dead, .dead], []⟩
noncomputable def ks12_0 : List SK := [.f .dead, .f (.ro 1), .f (.str), .f (.int .i64), .f .dead, .f .dead, .f .dead, .f .dead, .f .dead, .f (.int .i64), .f .dead, .f .dead, .f .dead, .f (.ro 8), .f (.int .i64), .f (.int .i64), .f .dead, .f .dead, .f .dead, .f .dead, .f .dead, .f .dead, .f .dead, .f .dead, .f .dead, .f .dead, .f .dead, .f .dead, .f .dead, .f .dead, .f .dead, .f .dead, .f .dead, .f .dead, .f .dead, .f .dead, .f .dead, .f .dead, .f .dead, .f .dead, .f .dead, .f .dead]
noncomputable def hs12_0 : List HK := []
noncomputable def Lm12_0 (s : St) (k : Ex → St → Option CR) : Option CR := bif chkS ks12_0 hs12_0 s then (G_upgrade_Stat_0 (roRows (cIa s.tmps 1)) (toS (cIa s.tmps 2)) (toI (cIa s.tmps 3)) (roRows (cIa s.tmps 13)) (toI (cIa s.tmps 14)) FU (toI (cIa s.tmps 9)) (toI (cIa s.tmps 15))).bind (X12_0 k) else none
noncomputable def L12_0 (s : St) (k : Ex → St → Option CR) : Option CR := Lm12_0 (maskS (maskOf ks12_0) s) k

noncomputable def L12 : LT' := fun i s k => bif Nat.beq i 0 then L12_0 s k else none

/-- 'skirmish/upgrade.Stat' -/
noncomputable def F_upgrade_Stat (r_Units : List (List AVal)) (r_Weapons : List (List AVal)) (r_Techs : List (List AVal)) (techs : List (List AVal)) (unit : ByteArray) (number : Int) : Option (Int) :=
  Option.bind (G_upgrade_Stat_0 techs unit number r_Techs (Int.ofNat r_Techs.length) FU (0 : Int) (0 : Int)) fun t =>
  some t
noncomputable def enc12 (t : Int) : CR := ⟨true, (.sc (.int .i64 t)), [], []⟩
noncomputable def ks12 : List SK := [.agg [.ro 19, .ro 6, .ro 8], .f (.ro 1), .f (.str), .f (.int .i64)]
noncomputable def S12 (us : List AVal) : Call := bif chkA ks12 us then Call.of (F_upgrade_Stat (roRows (cIa (aggL (cIa us 0)) 0)) (roRows (cIa (aggL (cIa us 0)) 1)) (roRows (cIa (aggL (cIa us 0)) 2)) (roRows (cIa us 1)) (toS (cIa us 2)) (toI (cIa us 3))) enc12 else Call.none
noncomputable def C12 := AI.ext 12 S12 C29

@[reducible] noncomputable def B12_0 := bodyOf TT TU GL0 C29 ownF L12 (lp Try.f12 0)
@[reducible] noncomputable def K12_0 (k : Ex → St → Option CR) : Ex → St → Option CR := fun e s => k e (maskS (W12_0 e) s)
theorem spec12_0 (k : Ex → St → Option CR) : ∀ (m : Nat) (techs : List (List AVal)) (unit : ByteArray) (number : Int) (sum : Int) (x13 : List (List AVal)) (x14 : Int) (x15 : Int), loopN B12_0 m (E12_0 techs unit number sum x13 x14 x15) (K12_0 k) = (G_upgrade_Stat_0 techs unit number x13 x14 m sum x15).bind (X12_0 k)
  | 0, _, _, _, _, _, _, _ => rfl
  | m + 1, techs, unit, number, sum, x13, x14, x15 =>
    Eq.trans (b := (bif (decide (x15 < x14)) then (bif (decide ((0 : Int) ≤ x15)) then (Option.bind (x13[x15.toNat]?) fun r => (bif (chk [LT.str, (LT.sl 9 1), (LT.int IntKind.i64), (LT.int IntKind.i64), (LT.int IntKind.i64), LT.str, (LT.int IntKind.i64), (LT.int IntKind.i64)] r) then (bif (List.beq (ByteArray.toList (cS r 5)) (ByteArray.toList unit)) then (bif ((cI r 6) == number) then (Option.bind (F_slices_Contains_string techs (cS r 0)) fun t => (bif t then (Option.bind (F_num_Clamp (cI r 7) (-(100000 : Int)) (100000 : Int)) fun t1 => (loopN B12_0 m ⟨[.dead, (AVal.ro 1 techs), (AVal.sc (Value.string unit)), (i64 number), .dead, .dead, .dead, .dead, .dead, (i64 (wr (sum + t1))), .dead, .dead, .dead, (AVal.ro 8 x13), (i64 x14), (i64 (wr (x15 + (1 : Int)))), .dead, .dead, .dead, .dead, .dead, .dead, .dead, .dead, .dead, .dead, .dead, .dead, .dead, .dead, .dead, .dead, .dead, .dead, .dead, .dead, .dead, .dead, .dead, .dead, .dead, .dead], []⟩ (K12_0 k))) else (loopN B12_0 m ⟨[.dead, (AVal.ro 1 techs), (AVal.sc (Value.string unit)), (i64 number), .dead, .dead, .dead, .dead, .dead, (i64 sum), .dead, .dead, .dead, (AVal.ro 8 x13), (i64 x14), (i64 (wr (x15 + (1 : Int)))), .dead, .dead, .dead, .dead, .dead, .dead, .dead, .dead, .dead, .dead, .dead, .dead, .dead, .dead, .dead, .dead, .dead, .dead, .dead, .dead, .dead, .dead, .dead, .dead, .dead, .dead], []⟩ (K12_0 k)))) else (loopN B12_0 m ⟨[.dead, (AVal.ro 1 techs), (AVal.sc (Value.string unit)), (i64 number), .dead, .dead, .dead, .dead, .dead, (i64 sum), .dead, .dead, .dead, (AVal.ro 8 x13), (i64 x14), (i64 (wr (x15 + (1 : Int)))), .dead, .dead, .dead, .dead, .dead, .dead, .dead, .dead, .dead, .dead, .dead, .dead, .dead, .dead, .dead, .dead, .dead, .dead, .dead, .dead, .dead, .dead, .dead, .dead, .dead, .dead], []⟩ (K12_0 k))) else (loopN B12_0 m ⟨[.dead, (AVal.ro 1 techs), (AVal.sc (Value.string unit)), (i64 number), .dead, .dead, .dead, .dead, .dead, (i64 sum), .dead, .dead, .dead, (AVal.ro 8 x13), (i64 x14), (i64 (wr (x15 + (1 : Int)))), .dead, .dead, .dead, .dead, .dead, .dead, .dead, .dead, .dead, .dead, .dead, .dead, .dead, .dead, .dead, .dead, .dead, .dead, .dead, .dead, .dead, .dead, .dead, .dead, .dead, .dead], []⟩ (K12_0 k))) else none)) else none) else (k (.exit 0) ⟨[.dead, .dead, .dead, .dead, .dead, .dead, .dead, .dead, .dead, (i64 sum), .dead, .dead, .dead, .dead, .dead, .dead, .dead, .dead, .dead, .dead, .dead, .dead, .dead, .dead, .dead, .dead, .dead, .dead, .dead, .dead, .dead, .dead, .dead, .dead, .dead, .dead, .dead, .dead, .dead, .dead, .dead, .dead], []⟩))) (by kernel_rfl)
      (n_condH rfl (fun h0 => (n_condH rfl (fun h1 => (n_bind fun r => (n_condH rfl (fun h2 => (n_condH rfl (fun h3 => (n_condH rfl (fun h4 => (n_bind fun t => (n_condH rfl (fun h5 => (n_bind fun t1 => (spec12_0 k m techs unit number (wr (sum + t1)) x13 x14 (wr (x15 + (1 : Int)))))) fun h5 => (spec12_0 k m techs unit number sum x13 x14 (wr (x15 + (1 : Int))))))) fun h4 => (spec12_0 k m techs unit number sum x13 x14 (wr (x15 + (1 : Int)))))) fun h3 => (spec12_0 k m techs unit number sum x13 x14 (wr (x15 + (1 : Int)))))) fun h2 => n_none))) fun h1 => n_none)) fun h0 => rfl)
theorem okL12_0 : LoopOk TT TU GL0 C29 ownF L12 (lp Try.f12 0) :=
  loopOk_of ks12_0 hs12_0 W12_0 FU (fun s k => (G_upgrade_Stat_0 (roRows (cIa s.tmps 1)) (toS (cIa s.tmps 2)) (toI (cIa s.tmps 3)) (roRows (cIa s.tmps 13)) (toI (cIa s.tmps 14)) FU (toI (cIa s.tmps 9)) (toI (cIa s.tmps 15))).bind (X12_0 k)) (fun s k => by kernel_rfl) (fun s k => spec12_0 k FU (roRows (cIa s.tmps 1)) (toS (cIa s.tmps 2)) (toI (cIa s.tmps 3)) (toI (cIa s.tmps 9)) (roRows (cIa s.tmps 13)) (toI (cIa s.tmps 14)) (toI (cIa s.tmps 15)))
theorem run12 (r_Units : List (List AVal)) (r_Weapons : List (List AVal)) (r_Techs : List (List AVal)) (techs : List (List AVal)) (unit : ByteArray) (number : Int) : fcall TT TU GL0 C29 ownF true L12 Try.f12 [(.agg [(.ro 19 r_Units), (.ro 6 r_Weapons), (.ro 8 r_Techs)]), (.ro 1 techs), (.sc (.string unit)), (.sc (.int .i64 number))] = (F_upgrade_Stat r_Units r_Weapons r_Techs techs unit number).bind fun t => some (enc12 t) :=
  Eq.trans (b := (Option.bind (G_upgrade_Stat_0 techs unit number r_Techs (Int.ofNat r_Techs.length) FU (0 : Int) (0 : Int)) fun t => (some (CR.mk true (i64 t) [] [])))) (by kernel_rfl)
    (n_bind fun t => rfl)
theorem lib12 : Lib Try.prog GL0 C12 :=
  Lib.fn lib29 mixed TT_ok Try.func12 (by decide +kernel) (by kernel_rfl) true L12 (loops_of 1 (by kernel_rfl) (belowS below0 okL12_0)) ks12 (F := fun us => F_upgrade_Stat (roRows (cIa (aggL (cIa us 0)) 0)) (roRows (cIa (aggL (cIa us 0)) 1)) (roRows (cIa (aggL (cIa us 0)) 2)) (roRows (cIa us 1)) (toS (cIa us 2)) (toI (cIa us 3))) (fun us => rfl) (fun us => run12 (roRows (cIa (aggL (cIa us 0)) 0)) (roRows (cIa (aggL (cIa us 0)) 1)) (roRows (cIa (aggL (cIa us 0)) 2)) (roRows (cIa us 1)) (toS (cIa us 2)) (toI (cIa us 3))) (fun t => rfl)

/-! ### 54: skirmish/upgrade.newRaiser$1 -/



/-- 'skirmish/upgrade.newRaiser$1' -/
noncomputable def F_upgrade_newRaiser_1 (number : Int) (a1_Units : List (List AVal)) (a1_Weapons : List (List AVal)) (a1_Techs : List (List AVal)) (a2 : List (List AVal)) (a3 : ByteArray) : Option (Int) :=
  Option.bind (F_upgrade_Stat a1_Units a1_Weapons a1_Techs a2 a3 number) fun t =>
  some t
noncomputable def enc54 (t : Int) : CR := ⟨true, (.sc (.int .i64 t)), [], []⟩
noncomputable def ks54 : List SK := [.f (.int .i64), .rptr [.ro 19, .ro 6, .ro 8], .rptr [.ro 1], .rptr [.str]]
noncomputable def S54 (us : List AVal) : Call := bif chkA ks54 us then Call.of (F_upgrade_newRaiser_1 (toI (cIa us 0)) (roRows (cIa (rptrL (cIa us 1)) 0)) (roRows (cIa (rptrL (cIa us 1)) 1)) (roRows (cIa (rptrL (cIa us 1)) 2)) (roRows (cIa (rptrL (cIa us 2)) 0)) (toS (cIa (rptrL (cIa us 3)) 0))) enc54 else Call.none
noncomputable def C54 := AI.ext 54 S54 C12

theorem run54 (number : Int) (a1_Units : List (List AVal)) (a1_Weapons : List (List AVal)) (a1_Techs : List (List AVal)) (a2 : List (List AVal)) (a3 : ByteArray) : fcall TT TU GL0 C12 ownF true noL Try.f54 [(.sc (.int .i64 number)), (.rptr [(.ro 19 a1_Units), (.ro 6 a1_Weapons), (.ro 8 a1_Techs)]), (.rptr [(.ro 1 a2)]), (.rptr [(.sc (.string a3))])] = (F_upgrade_newRaiser_1 number a1_Units a1_Weapons a1_Techs a2 a3).bind fun t => some (enc54 t) :=
  Eq.trans (b := (Option.bind (F_upgrade_Stat a1_Units a1_Weapons a1_Techs a2 a3 number) fun t => (some (CR.mk true (i64 t) [] [])))) (by kernel_rfl)
    (n_bind fun t => rfl)
theorem lib54 : Lib Try.prog GL0 C54 :=
  Lib.fn lib12 mixed TT_ok Try.func54 (by decide +kernel) (by kernel_rfl) true noL (loops_of 0 (by kernel_rfl) below0) ks54 (F := fun us => F_upgrade_newRaiser_1 (toI (cIa us 0)) (roRows (cIa (rptrL (cIa us 1)) 0)) (roRows (cIa (rptrL (cIa us 1)) 1)) (roRows (cIa (rptrL (cIa us 1)) 2)) (roRows (cIa (rptrL (cIa us 2)) 0)) (toS (cIa (rptrL (cIa us 3)) 0))) (fun us => rfl) (fun us => run54 (toI (cIa us 0)) (roRows (cIa (rptrL (cIa us 1)) 0)) (roRows (cIa (rptrL (cIa us 1)) 1)) (roRows (cIa (rptrL (cIa us 1)) 2)) (roRows (cIa (rptrL (cIa us 2)) 0)) (toS (cIa (rptrL (cIa us 3)) 0))) (fun t => rfl)

/-! ### 32: skirmish/upgrade.newRaiser -/



/-- 'skirmish/upgrade.newRaiser' -/
noncomputable def F_upgrade_newRaiser (r_Units : List (List AVal)) (r_Weapons : List (List AVal)) (r_Techs : List (List AVal)) (techs : List (List AVal)) (unit : ByteArray) : Option (List (List AVal) × List (List AVal) × List (List AVal) × List (List AVal) × ByteArray) :=
  some (r_Units, r_Weapons, r_Techs, techs, unit)
noncomputable def enc32 (t : List (List AVal) × List (List AVal) × List (List AVal) × List (List AVal) × ByteArray) : CR := ⟨true, (.agg [(.clo 54 [(.rptr [(.ro 19 t.1), (.ro 6 t.2.1), (.ro 8 t.2.2.1)]), (.rptr [(.ro 1 t.2.2.2.1)]), (.rptr [(.sc (.string t.2.2.2.2))])])]), [], []⟩
noncomputable def ks32 : List SK := [.agg [.ro 19, .ro 6, .ro 8], .f (.ro 1), .f (.str)]
noncomputable def S32 (us : List AVal) : Call := bif chkA ks32 us then Call.of (F_upgrade_newRaiser (roRows (cIa (aggL (cIa us 0)) 0)) (roRows (cIa (aggL (cIa us 0)) 1)) (roRows (cIa (aggL (cIa us 0)) 2)) (roRows (cIa us 1)) (toS (cIa us 2))) enc32 else Call.none
noncomputable def C32 := AI.ext 32 S32 C54

theorem run32 (r_Units : List (List AVal)) (r_Weapons : List (List AVal)) (r_Techs : List (List AVal)) (techs : List (List AVal)) (unit : ByteArray) : fcall TT TU GL0 C54 ownRo false noL Try.f32 [(.agg [(.ro 19 r_Units), (.ro 6 r_Weapons), (.ro 8 r_Techs)]), (.ro 1 techs), (.sc (.string unit))] = (F_upgrade_newRaiser r_Units r_Weapons r_Techs techs unit).bind fun t => some (enc32 t) :=
  Eq.trans (b := (some (CR.mk true (AVal.agg [(AVal.clo 54 [(AVal.rptr [(AVal.ro 19 r_Units), (AVal.ro 6 r_Weapons), (AVal.ro 8 r_Techs)]), (AVal.rptr [(AVal.ro 1 techs)]), (AVal.rptr [(AVal.sc (Value.string unit))])])]) [] []))) (by kernel_rfl)
    rfl
theorem lib32 : Lib Try.prog GL0 C32 :=
  Lib.fn lib54 mixed TT_ok Try.func32 (by decide +kernel) (by kernel_rfl) false noL (loops_of 0 (by kernel_rfl) below0) ks32 (F := fun us => F_upgrade_newRaiser (roRows (cIa (aggL (cIa us 0)) 0)) (roRows (cIa (aggL (cIa us 0)) 1)) (roRows (cIa (aggL (cIa us 0)) 2)) (roRows (cIa us 1)) (toS (cIa us 2))) (fun us => rfl) (fun us => run32 (roRows (cIa (aggL (cIa us 0)) 0)) (roRows (cIa (aggL (cIa us 0)) 1)) (roRows (cIa (aggL (cIa us 0)) 2)) (roRows (cIa us 1)) (toS (cIa us 2))) (fun t => rfl)

/-! ### 33: (skirmish/upgrade.raiser).stat -/



/-- '(skirmish/upgrade.raiser).stat' -/
noncomputable def F_upgrade_raiser__stat (x_bonus_0_Units : List (List AVal)) (x_bonus_0_Weapons : List (List AVal)) (x_bonus_0_Techs : List (List AVal)) (x_bonus_1 : List (List AVal)) (x_bonus_2 : ByteArray) (base : Int) (number : Int) (lo : Int) (hi : Int) : Option (Int) :=
  Option.bind (F_num_Clamp base (-(1152921504606846976 : Int)) (1152921504606846976 : Int)) fun t =>
  Option.bind (F_upgrade_newRaiser_1 number x_bonus_0_Units x_bonus_0_Weapons x_bonus_0_Techs x_bonus_1 x_bonus_2) fun t1 =>
  Option.bind (F_num_Clamp (wr (t + t1)) lo hi) fun t2 =>
  some t2
noncomputable def enc33 (t : Int) : CR := ⟨true, (.sc (.int .i64 t)), [], []⟩
noncomputable def ks33 : List SK := [.agg [.clo 54 [[.sl 43 19, .sl 52 6, .sl 39 8], [.sl 9 1], [.str]]], .f (.int .i64), .f (.int .i64), .f (.int .i64), .f (.int .i64)]
noncomputable def S33 (us : List AVal) : Call := bif chkA ks33 us then Call.of (F_upgrade_raiser__stat (roRows (cIa (rptrL (cIa (cloL (cIa (aggL (cIa us 0)) 0)) 0)) 0)) (roRows (cIa (rptrL (cIa (cloL (cIa (aggL (cIa us 0)) 0)) 0)) 1)) (roRows (cIa (rptrL (cIa (cloL (cIa (aggL (cIa us 0)) 0)) 0)) 2)) (roRows (cIa (rptrL (cIa (cloL (cIa (aggL (cIa us 0)) 0)) 1)) 0)) (toS (cIa (rptrL (cIa (cloL (cIa (aggL (cIa us 0)) 0)) 2)) 0)) (toI (cIa us 1)) (toI (cIa us 2)) (toI (cIa us 3)) (toI (cIa us 4))) enc33 else Call.none
noncomputable def C33 := AI.ext 33 S33 C32

theorem run33 (x_bonus_0_Units : List (List AVal)) (x_bonus_0_Weapons : List (List AVal)) (x_bonus_0_Techs : List (List AVal)) (x_bonus_1 : List (List AVal)) (x_bonus_2 : ByteArray) (base : Int) (number : Int) (lo : Int) (hi : Int) : fcall TT TU GL0 C32 ownF true noL Try.f33 [(.agg [(.clo 54 [(.rptr [(.ro 19 x_bonus_0_Units), (.ro 6 x_bonus_0_Weapons), (.ro 8 x_bonus_0_Techs)]), (.rptr [(.ro 1 x_bonus_1)]), (.rptr [(.sc (.string x_bonus_2))])])]), (.sc (.int .i64 base)), (.sc (.int .i64 number)), (.sc (.int .i64 lo)), (.sc (.int .i64 hi))] = (F_upgrade_raiser__stat x_bonus_0_Units x_bonus_0_Weapons x_bonus_0_Techs x_bonus_1 x_bonus_2 base number lo hi).bind fun t => some (enc33 t) :=
  Eq.trans (b := (Option.bind (F_num_Clamp base (-(1152921504606846976 : Int)) (1152921504606846976 : Int)) fun t => (Option.bind (F_upgrade_newRaiser_1 number x_bonus_0_Units x_bonus_0_Weapons x_bonus_0_Techs x_bonus_1 x_bonus_2) fun t1 => (Option.bind (F_num_Clamp (wr (t + t1)) lo hi) fun t2 => (some (CR.mk true (i64 t2) [] [])))))) (by kernel_rfl)
    (n_bind fun t => (n_bind fun t1 => (n_bind fun t2 => rfl)))
theorem lib33 : Lib Try.prog GL0 C33 :=
  Lib.fn lib32 mixed TT_ok Try.func33 (by decide +kernel) (by kernel_rfl) true noL (loops_of 0 (by kernel_rfl) below0) ks33 (F := fun us => F_upgrade_raiser__stat (roRows (cIa (rptrL (cIa (cloL (cIa (aggL (cIa us 0)) 0)) 0)) 0)) (roRows (cIa (rptrL (cIa (cloL (cIa (aggL (cIa us 0)) 0)) 0)) 1)) (roRows (cIa (rptrL (cIa (cloL (cIa (aggL (cIa us 0)) 0)) 0)) 2)) (roRows (cIa (rptrL (cIa (cloL (cIa (aggL (cIa us 0)) 0)) 1)) 0)) (toS (cIa (rptrL (cIa (cloL (cIa (aggL (cIa us 0)) 0)) 2)) 0)) (toI (cIa us 1)) (toI (cIa us 2)) (toI (cIa us 3)) (toI (cIa us 4))) (fun us => rfl) (fun us => run33 (roRows (cIa (rptrL (cIa (cloL (cIa (aggL (cIa us 0)) 0)) 0)) 0)) (roRows (cIa (rptrL (cIa (cloL (cIa (aggL (cIa us 0)) 0)) 0)) 1)) (roRows (cIa (rptrL (cIa (cloL (cIa (aggL (cIa us 0)) 0)) 0)) 2)) (roRows (cIa (rptrL (cIa (cloL (cIa (aggL (cIa us 0)) 0)) 1)) 0)) (toS (cIa (rptrL (cIa (cloL (cIa (aggL (cIa us 0)) 0)) 2)) 0)) (toI (cIa us 1)) (toI (cIa us 2)) (toI (cIa us 3)) (toI (cIa us 4))) (fun t => rfl)

/-! ### 16: skirmish/upgrade.Type -/



/-- 'skirmish/upgrade.Type' -/
noncomputable def F_upgrade_Type (r_Units : List (List AVal)) (r_Weapons : List (List AVal)) (r_Techs : List (List AVal)) (techs : List (List AVal)) (unit : ByteArray) : Option (List (List AVal) × List (List AVal) × List (List AVal) × ByteArray × Bool × Bool × Int × Int × Int × Int × Int × Int × Int × Int × Int × ByteArray × Int × Int × Int × Bool) :=
  Option.bind (F_rules_Unit r_Units r_Weapons r_Techs unit) fun t =>
  bif (!t.2.2.2.2.2.2.2.2.2.2.2.2.2.2.2.2.2.2.2) then
    some ([], [], [], (ByteArray.mk (Array.mk [])), false, false, (0 : Int), (0 : Int), (0 : Int), (0 : Int), (0 : Int), (0 : Int), (0 : Int), (0 : Int), (0 : Int), (ByteArray.mk (Array.mk [])), (0 : Int), (0 : Int), (0 : Int), false)
  else
  Option.bind (F_upgrade_newRaiser r_Units r_Weapons r_Techs techs unit) fun t1 =>
  Option.bind (F_upgrade_raiser__stat t1.1 t1.2.1 t1.2.2.1 t1.2.2.2.1 t1.2.2.2.2 t.2.2.2.2.2.2.2.2.2.2.2.2.1 (1 : Int) (1 : Int) (100000 : Int)) fun t2 =>
  Option.bind (F_upgrade_raiser__stat t1.1 t1.2.1 t1.2.2.1 t1.2.2.2.1 t1.2.2.2.2 t.2.2.2.2.2.2.2.2.2.2.2.2.2.1 (2 : Int) (0 : Int) (100000 : Int)) fun t3 =>
  Option.bind (F_upgrade_raiser__stat t1.1 t1.2.1 t1.2.2.1 t1.2.2.2.1 t1.2.2.2.2 t.2.2.2.2.2.2.2.2.2.2.1 (3 : Int) (0 : Int) (256 : Int)) fun t4 =>
  Option.bind (F_upgrade_raiser__stat t1.1 t1.2.1 t1.2.2.1 t1.2.2.2.1 t1.2.2.2.2 t.2.2.2.2.2.2.2.2.2.2.2.1 (4 : Int) (0 : Int) (16 : Int)) fun t5 =>
  some (t.1, t.2.1, t.2.2.1, t.2.2.2.1, t.2.2.2.2.1, t.2.2.2.2.2.1, t.2.2.2.2.2.2.1, t.2.2.2.2.2.2.2.1, t.2.2.2.2.2.2.2.2.1, t.2.2.2.2.2.2.2.2.2.1, t4, t5, t2, t3, t.2.2.2.2.2.2.2.2.2.2.2.2.2.2.1, t.2.2.2.2.2.2.2.2.2.2.2.2.2.2.2.1, t.2.2.2.2.2.2.2.2.2.2.2.2.2.2.2.2.1, t.2.2.2.2.2.2.2.2.2.2.2.2.2.2.2.2.2.1, t.2.2.2.2.2.2.2.2.2.2.2.2.2.2.2.2.2.2.1, true)
noncomputable def enc16 (t : List (List AVal) × List (List AVal) × List (List AVal) × ByteArray × Bool × Bool × Int × Int × Int × Int × Int × Int × Int × Int × Int × ByteArray × Int × Int × Int × Bool) : CR := ⟨true, (.tup [(.agg [(.sc (.string t.2.2.2.1)), (.sc (.bool t.2.2.2.2.1)), (.sc (.bool t.2.2.2.2.2.1)), (.sc (.int .i64 t.2.2.2.2.2.2.1)), (.sc (.int .i64 t.2.2.2.2.2.2.2.1)), (.sc (.int .i64 t.2.2.2.2.2.2.2.2.1)), (.sc (.int .i64 t.2.2.2.2.2.2.2.2.2.1)), (.sc (.int .i64 t.2.2.2.2.2.2.2.2.2.2.1)), (.sc (.int .i64 t.2.2.2.2.2.2.2.2.2.2.2.1)), (.sc (.int .i64 t.2.2.2.2.2.2.2.2.2.2.2.2.1)), (.sc (.int .i64 t.2.2.2.2.2.2.2.2.2.2.2.2.2.1)), (.sc (.int .i64 t.2.2.2.2.2.2.2.2.2.2.2.2.2.2.1)), (.sc (.string t.2.2.2.2.2.2.2.2.2.2.2.2.2.2.2.1)), (.sc (.int .i64 t.2.2.2.2.2.2.2.2.2.2.2.2.2.2.2.2.1)), (.sc (.int .i64 t.2.2.2.2.2.2.2.2.2.2.2.2.2.2.2.2.2.1)), (.sc (.int .i64 t.2.2.2.2.2.2.2.2.2.2.2.2.2.2.2.2.2.2.1)), (.slc 0 (t.1).length), (.slc 1 (t.2.1).length), (.slc 2 (t.2.2.1).length)]), (.sc (.bool t.2.2.2.2.2.2.2.2.2.2.2.2.2.2.2.2.2.2.2))]), [], [⟨.arr, 9, 1, t.1⟩, ⟨.arr, 9, 1, t.2.1⟩, ⟨.arr, 9, 1, t.2.2.1⟩]⟩
noncomputable def ks16 : List SK := [.agg [.ro 19, .ro 6, .ro 8], .f (.ro 1), .f (.str)]
noncomputable def S16 (us : List AVal) : Call := bif chkA ks16 us then Call.of (F_upgrade_Type (roRows (cIa (aggL (cIa us 0)) 0)) (roRows (cIa (aggL (cIa us 0)) 1)) (roRows (cIa (aggL (cIa us 0)) 2)) (roRows (cIa us 1)) (toS (cIa us 2))) enc16 else Call.none
noncomputable def C16 := AI.ext 16 S16 C33

theorem run16 (r_Units : List (List AVal)) (r_Weapons : List (List AVal)) (r_Techs : List (List AVal)) (techs : List (List AVal)) (unit : ByteArray) : fcall TT TU GL0 C33 ownF true noL Try.f16 [(.agg [(.ro 19 r_Units), (.ro 6 r_Weapons), (.ro 8 r_Techs)]), (.ro 1 techs), (.sc (.string unit))] = (F_upgrade_Type r_Units r_Weapons r_Techs techs unit).bind fun t => some (enc16 t) :=
  Eq.trans (b := (Option.bind (F_rules_Unit r_Units r_Weapons r_Techs unit) fun t => (bif ((((true && (verEq t.1.length t.1.length)) && true) && true) && true) then (bif ((((true && (verEq t.2.1.length t.2.1.length)) && true) && true) && true) then (bif ((((true && (verEq t.2.2.1.length t.2.2.1.length)) && true) && true) && true) then (bif (!t.2.2.2.2.2.2.2.2.2.2.2.2.2.2.2.2.2.2.2) then (some (CR.mk true (AVal.tup [(AVal.agg [(AVal.sc (Value.string (ByteArray.mk (Array.mk [])))), (bo false), (bo false), (i64 (0 : Int)), (i64 (0 : Int)), (i64 (0 : Int)), (i64 (0 : Int)), (i64 (0 : Int)), (i64 (0 : Int)), (i64 (0 : Int)), (i64 (0 : Int)), (i64 (0 : Int)), (AVal.sc (Value.string (ByteArray.mk (Array.mk [])))), (i64 (0 : Int)), (i64 (0 : Int)), (i64 (0 : Int)), (AVal.slc 0 0), (AVal.slc 1 0), (AVal.slc 2 0)]), (bo false)]) [] [(Blk.mk BKind.arr 9 1 []), (Blk.mk BKind.arr 9 1 []), (Blk.mk BKind.arr 9 1 [])])) else (Option.bind (F_upgrade_newRaiser r_Units r_Weapons r_Techs techs unit) fun t1 => (Option.bind (F_upgrade_raiser__stat t1.1 t1.2.1 t1.2.2.1 t1.2.2.2.1 t1.2.2.2.2 t.2.2.2.2.2.2.2.2.2.2.2.2.1 (1 : Int) (1 : Int) (100000 : Int)) fun t2 => (Option.bind (F_upgrade_raiser__stat t1.1 t1.2.1 t1.2.2.1 t1.2.2.2.1 t1.2.2.2.2 t.2.2.2.2.2.2.2.2.2.2.2.2.2.1 (2 : Int) (0 : Int) (100000 : Int)) fun t3 => (Option.bind (F_upgrade_raiser__stat t1.1 t1.2.1 t1.2.2.1 t1.2.2.2.1 t1.2.2.2.2 t.2.2.2.2.2.2.2.2.2.2.1 (3 : Int) (0 : Int) (256 : Int)) fun t4 => (Option.bind (F_upgrade_raiser__stat t1.1 t1.2.1 t1.2.2.1 t1.2.2.2.1 t1.2.2.2.2 t.2.2.2.2.2.2.2.2.2.2.2.1 (4 : Int) (0 : Int) (16 : Int)) fun t5 => (bif (verEq t.1.length t.1.length) then (bif (verEq t.2.1.length t.2.1.length) then (bif (verEq t.2.2.1.length t.2.2.1.length) then (some (CR.mk true (AVal.tup [(AVal.agg [(AVal.sc (Value.string t.2.2.2.1)), (bo t.2.2.2.2.1), (bo t.2.2.2.2.2.1), (i64 t.2.2.2.2.2.2.1), (i64 t.2.2.2.2.2.2.2.1), (i64 t.2.2.2.2.2.2.2.2.1), (i64 t.2.2.2.2.2.2.2.2.2.1), (i64 t4), (i64 t5), (i64 t2), (i64 t3), (i64 t.2.2.2.2.2.2.2.2.2.2.2.2.2.2.1), (AVal.sc (Value.string t.2.2.2.2.2.2.2.2.2.2.2.2.2.2.2.1)), (i64 t.2.2.2.2.2.2.2.2.2.2.2.2.2.2.2.2.1), (i64 t.2.2.2.2.2.2.2.2.2.2.2.2.2.2.2.2.2.1), (i64 t.2.2.2.2.2.2.2.2.2.2.2.2.2.2.2.2.2.2.1), (AVal.slc 0 t.1.length), (AVal.slc 1 t.2.1.length), (AVal.slc 2 t.2.2.1.length)]), (bo true)]) [] [(Blk.mk BKind.arr 9 1 t.1), (Blk.mk BKind.arr 9 1 t.2.1), (Blk.mk BKind.arr 9 1 t.2.2.1)])) else none) else none) else none))))))) else none) else none) else none))) (by kernel_rfl)
    (n_bind fun t => (n_true (n_andL (n_andL (n_andL (n_andL rfl (verEq_rfl _)) rfl) rfl) rfl) (n_true (n_andL (n_andL (n_andL (n_andL rfl (verEq_rfl _)) rfl) rfl) rfl) (n_true (n_andL (n_andL (n_andL (n_andL rfl (verEq_rfl _)) rfl) rfl) rfl) (n_condH rfl (fun h0 => rfl) fun h0 => (n_bind fun t1 => (n_bind fun t2 => (n_bind fun t3 => (n_bind fun t4 => (n_bind fun t5 => (n_true (verEq_rfl _) (n_true (verEq_rfl _) (n_true (verEq_rfl _) rfl)))))))))))))
theorem lib16 : Lib Try.prog GL0 C16 :=
  Lib.fn lib33 mixed TT_ok Try.func16 (by decide +kernel) (by kernel_rfl) true noL (loops_of 0 (by kernel_rfl) below0) ks16 (F := fun us => F_upgrade_Type (roRows (cIa (aggL (cIa us 0)) 0)) (roRows (cIa (aggL (cIa us 0)) 1)) (roRows (cIa (aggL (cIa us 0)) 2)) (roRows (cIa us 1)) (toS (cIa us 2))) (fun us => rfl) (fun us => run16 (roRows (cIa (aggL (cIa us 0)) 0)) (roRows (cIa (aggL (cIa us 0)) 1)) (roRows (cIa (aggL (cIa us 0)) 2)) (roRows (cIa us 1)) (toS (cIa us 2))) (fun t => rfl)

/-! ### 66: skirmish/rules.weaponName -/



/-- 'skirmish/rules.weaponName' -/
noncomputable def F_rules_weaponName (w_Name : ByteArray) (w_Range : Int) (w_Damage : Int) (w_Cool : Int) (w_Speed : Int) (w_Splash : Int) : Option (ByteArray) :=
  some w_Name
noncomputable def enc66 (t : ByteArray) : CR := ⟨true, (.sc (.string t)), [], []⟩
noncomputable def ks66 : List SK := [.agg [.str, .int .i64, .int .i64, .int .i64, .int .i64, .int .i64]]
noncomputable def S66 (us : List AVal) : Call := bif chkA ks66 us then Call.of (F_rules_weaponName (toS (cIa (aggL (cIa us 0)) 0)) (toI (cIa (aggL (cIa us 0)) 1)) (toI (cIa (aggL (cIa us 0)) 2)) (toI (cIa (aggL (cIa us 0)) 3)) (toI (cIa (aggL (cIa us 0)) 4)) (toI (cIa (aggL (cIa us 0)) 5))) enc66 else Call.none
noncomputable def C66 := AI.ext 66 S66 C16

theorem run66 (w_Name : ByteArray) (w_Range : Int) (w_Damage : Int) (w_Cool : Int) (w_Speed : Int) (w_Splash : Int) : fcall TT TU GL0 C16 ownF true noL Try.f66 [(.agg [(.sc (.string w_Name)), (.sc (.int .i64 w_Range)), (.sc (.int .i64 w_Damage)), (.sc (.int .i64 w_Cool)), (.sc (.int .i64 w_Speed)), (.sc (.int .i64 w_Splash))])] = (F_rules_weaponName w_Name w_Range w_Damage w_Cool w_Speed w_Splash).bind fun t => some (enc66 t) :=
  Eq.trans (b := (some (CR.mk true (AVal.sc (Value.string w_Name)) [] []))) (by kernel_rfl)
    rfl
theorem lib66 : Lib Try.prog GL0 C66 :=
  Lib.fn lib16 mixed TT_ok Try.func66 (by decide +kernel) (by kernel_rfl) true noL (loops_of 0 (by kernel_rfl) below0) ks66 (F := fun us => F_rules_weaponName (toS (cIa (aggL (cIa us 0)) 0)) (toI (cIa (aggL (cIa us 0)) 1)) (toI (cIa (aggL (cIa us 0)) 2)) (toI (cIa (aggL (cIa us 0)) 3)) (toI (cIa (aggL (cIa us 0)) 4)) (toI (cIa (aggL (cIa us 0)) 5))) (fun us => rfl) (fun us => run66 (toS (cIa (aggL (cIa us 0)) 0)) (toI (cIa (aggL (cIa us 0)) 1)) (toI (cIa (aggL (cIa us 0)) 2)) (toI (cIa (aggL (cIa us 0)) 3)) (toI (cIa (aggL (cIa us 0)) 4)) (toI (cIa (aggL (cIa us 0)) 5))) (fun t => rfl)

/-! ### 65: skirmish/rules.find[skirmish/api.Weapon] -/

noncomputable def W65_0 : Ex → List Bool
  | .ret => [false, false, false, false, false, false, true, true, false, false, false, false, false, false, false, false, false, false, false, false, false, false, false, false, false]
  | .exit n => bif Nat.beq n 0 then [false, false, false, false, false, false, true, false, false, false, false, false, false, false, false, false, false, false, false, false, false, false, false, false, false] else []
  | .normal => []
noncomputable def G_rules_find_Weapon_0 (want : ByteArray) (x11 : List (List AVal)) (x12 : Int) : Nat → Int → Option (Bool × ByteArray × Int × Int × Int × Int × Int)
  | 0, _ => none
  | m + 1, x13 =>
    bif (decide (x13 < x12)) then
      bif (decide ((0 : Int) ≤ x13)) then
        Option.bind (x11[x13.toNat]?) fun r =>
        bif (chk [LT.str, (LT.int IntKind.i64), (LT.int IntKind.i64), (LT.int IntKind.i64), (LT.int IntKind.i64), (LT.int IntKind.i64)] r) then
          Option.bind (F_rules_weaponName (cS r 0) (cI r 1) (cI r 2) (cI r 3) (cI r 4) (cI r 5)) fun t =>
          bif (List.beq (ByteArray.toList t) (ByteArray.toList want)) then
            some (true, (cS r 0), (cI r 1), (cI r 2), (cI r 3), (cI r 4), (cI r 5))
          else
          G_rules_find_Weapon_0 want x11 x12 m (wr (x13 + (1 : Int)))
        else
        none
      else
      none
    else
    some (false, ⟨#[]⟩, 0, 0, 0, 0, 0)
noncomputable def E65_0 (want : ByteArray) (x11 : List (List AVal)) (x12 : Int) (x13 : Int) (b0_0 : ByteArray) (b0_1 : Int) (b0_2 : Int) (b0_3 : Int) (b0_4 : Int) (b0_5 : Int) : St := ⟨[.dead, (.clo 66 []), (.sc (.string want)), .dead, .dead, .dead, (.ref 16000 1 0 0), .dead, .dead, .dead, .dead, (.ro 6 x11), (.sc (.int .i64 x12)), (.sc (.int .i64 x13)), .dead, .dead, .dead, .dead, .dead, .dead, .dead, .dead, .dead, .dead, .dead], [(16000, ⟨.box, 52, 6, [[(.sc (.string b0_0)), (.sc (.int .i64 b0_1)), (.sc (.int .i64 b0_2)), (.sc (.int .i64 b0_3)), (.sc (.int .i64 b0_4)), (.sc (.int .i64 b0_5))]]⟩)]⟩
noncomputable def X65_0 (b0_0 : ByteArray) (b0_1 : Int) (b0_2 : Int) (b0_3 : Int) (b0_4 : Int) (b0_5 : Int) (k : Ex → St → Option CR) (t : Bool × ByteArray × Int × Int × Int × Int × Int) : Option CR := bif t.1 then k .ret ⟨[.dead, .dead, .dead, .dead, .dead, .dead, (.ref 16000 1 0 0), (.sc (.bool true)), .dead, .dead, .dead, .dead, .dead, .dead, .dead, .dead, .dead, .dead, .dead, .dead, .dead, .dead, .dead, .dead, .dead], [(16000, ⟨.box, 52, 6, [[(.sc (.string t.2.1)), (.sc (.int .i64 t.2.2.1)), (.sc (.int .i64 t.2.2.2.1)), (.sc (.int .i64 t.2.2.2.2.1)), (.sc (.int .i64 t.2.2.2.2.2.1)), (.sc (.int .i64 t.2.2.2.2.2.2))]]⟩)]⟩ else k (.exit 0) ⟨[.dead, .dead, .dead, .dead, .dead, .dead, (.ref 16000 1 0 0), .dead, .dead, .dead, .dead, .dead, .dead, .dead, .dead, .dead, .dead, .dead, .dead, .dead, .dead, .dead, .dead, .dead, .dead], [(16000, ⟨.box, 52, 6, [[(.sc (.string b0_0)), (.sc (.int .i64 b0_1)), (.sc (.int .i64 b0_2)), (.sc (.int .i64 b0_3)), (.sc (.int .i64 b0_4)), (.sc (.int .i64 b0_5))]]⟩)]⟩
noncomputable def ks65_0 : List SK := [.f .dead, .f (.clo 66 []), .f (.str), .f .dead, .f .dead, .f .dead, .f (.ref 16000 1 0 0), .f .dead, .f .dead, .f .dead, .f .dead, .f (.ro 6), .f (.int .i64), .f (.int .i64), .f .dead, .f .dead, .f .dead, .f .dead, .f .dead, .f .dead, .f .dead, .f .dead, .f .dead, .f .dead, .f .dead]
noncomputable def hs65_0 : List HK := [⟨16000, .box, 52, 6, some [.str, .int .i64, .int .i64, .int .i64, .int .i64, .int .i64]⟩]
noncomputable def Lm65_0 (s : St) (k : Ex → St → Option CR) : Option CR := bif chkS ks65_0 hs65_0 s then (G_rules_find_Weapon_0 (toS (cIa s.tmps 2)) (roRows (cIa s.tmps 11)) (toI (cIa s.tmps 12)) FU (toI (cIa s.tmps 13))).bind (X65_0 (toS (cIa (rows0 (blkAt s.heap 0).2) 0)) (toI (cIa (rows0 (blkAt s.heap 0).2) 1)) (toI (cIa (rows0 (blkAt s.heap 0).2) 2)) (toI (cIa (rows0 (blkAt s.heap 0).2) 3)) (toI (cIa (rows0 (blkAt s.heap 0).2) 4)) (toI (cIa (rows0 (blkAt s.heap 0).2) 5)) k) else none
noncomputable def L65_0 (s : St) (k : Ex → St → Option CR) : Option CR := Lm65_0 (maskS (maskOf ks65_0) s) k

noncomputable def L65 : LT' := fun i s k => bif Nat.beq i 0 then L65_0 s k else none

/-- 'skirmish/rules.find[skirmish/api.Weapon]' -/
noncomputable def F_rules_find_Weapon (l : List (List AVal)) (want : ByteArray) : Option (ByteArray × Int × Int × Int × Int × Int × Bool) :=
  Option.bind (G_rules_find_Weapon_0 want l (Int.ofNat l.length) FU (0 : Int)) fun t =>
  bif t.1 then
    some (t.2.1, t.2.2.1, t.2.2.2.1, t.2.2.2.2.1, t.2.2.2.2.2.1, t.2.2.2.2.2.2, true)
  else
  some ((ByteArray.mk (Array.mk [])), (0 : Int), (0 : Int), (0 : Int), (0 : Int), (0 : Int), false)
noncomputable def enc65 (t : ByteArray × Int × Int × Int × Int × Int × Bool) : CR := ⟨true, (.tup [(.agg [(.sc (.string t.1)), (.sc (.int .i64 t.2.1)), (.sc (.int .i64 t.2.2.1)), (.sc (.int .i64 t.2.2.2.1)), (.sc (.int .i64 t.2.2.2.2.1)), (.sc (.int .i64 t.2.2.2.2.2.1))]), (.sc (.bool t.2.2.2.2.2.2))]), [], []⟩
noncomputable def ks65 : List SK := [.f (.ro 6), .f (.clo 66 []), .f (.str)]
noncomputable def S65 (us : List AVal) : Call := bif chkA ks65 us then Call.of (F_rules_find_Weapon (roRows (cIa us 0)) (toS (cIa us 2))) enc65 else Call.none
noncomputable def C65 := AI.ext 65 S65 C66

@[reducible] noncomputable def B65_0 := bodyOf TT TU GL0 C66 ownF L65 (lp Try.f65 0)
@[reducible] noncomputable def K65_0 (k : Ex → St → Option CR) : Ex → St → Option CR := fun e s => k e (maskS (W65_0 e) s)
theorem spec65_0 (k : Ex → St → Option CR) : ∀ (m : Nat) (want : ByteArray) (x11 : List (List AVal)) (x12 : Int) (x13 : Int) (b0_0 : ByteArray) (b0_1 : Int) (b0_2 : Int) (b0_3 : Int) (b0_4 : Int) (b0_5 : Int), loopN B65_0 m (E65_0 want x11 x12 x13 b0_0 b0_1 b0_2 b0_3 b0_4 b0_5) (K65_0 k) = (G_rules_find_Weapon_0 want x11 x12 m x13).bind (X65_0 b0_0 b0_1 b0_2 b0_3 b0_4 b0_5 k)
  | 0, _, _, _, _, _, _, _, _, _, _ => rfl
  | m + 1, want, x11, x12, x13, b0_0, b0_1, b0_2, b0_3, b0_4, b0_5 =>
    Eq.trans (b := (bif (decide (x13 < x12)) then (bif (decide ((0 : Int) ≤ x13)) then (Option.bind (x11[x13.toNat]?) fun r => (bif (chk [LT.str, (LT.int IntKind.i64), (LT.int IntKind.i64), (LT.int IntKind.i64), (LT.int IntKind.i64), (LT.int IntKind.i64)] r) then (Option.bind (F_rules_weaponName (cS r 0) (cI r 1) (cI r 2) (cI r 3) (cI r 4) (cI r 5)) fun t => (bif (List.beq (ByteArray.toList t) (ByteArray.toList want)) then (k .ret ⟨[.dead, .dead, .dead, .dead, .dead, .dead, (AVal.ref 16000 1 0 0), (bo true), .dead, .dead, .dead, .dead, .dead, .dead, .dead, .dead, .dead, .dead, .dead, .dead, .dead, .dead, .dead, .dead, .dead], [(Prod.mk 16000 (Blk.mk BKind.box 52 6 [[(AVal.sc (Value.string (cS r 0))), (i64 (cI r 1)), (i64 (cI r 2)), (i64 (cI r 3)), (i64 (cI r 4)), (i64 (cI r 5))]]))]⟩) else (loopN B65_0 m ⟨[.dead, (AVal.clo 66 []), (AVal.sc (Value.string want)), .dead, .dead, .dead, (AVal.ref 16000 1 0 0), .dead, .dead, .dead, .dead, (AVal.ro 6 x11), (i64 x12), (i64 (wr (x13 + (1 : Int)))), .dead, .dead, .dead, .dead, .dead, .dead, .dead, .dead, .dead, .dead, .dead], [(Prod.mk 16000 (Blk.mk BKind.box 52 6 [[(AVal.sc (Value.string b0_0)), (i64 b0_1), (i64 b0_2), (i64 b0_3), (i64 b0_4), (i64 b0_5)]]))]⟩ (K65_0 k)))) else none)) else none) else (k (.exit 0) ⟨[.dead, .dead, .dead, .dead, .dead, .dead, (AVal.ref 16000 1 0 0), .dead, .dead, .dead, .dead, .dead, .dead, .dead, .dead, .dead, .dead, .dead, .dead, .dead, .dead, .dead, .dead, .dead, .dead], [(Prod.mk 16000 (Blk.mk BKind.box 52 6 [[(AVal.sc (Value.string b0_0)), (i64 b0_1), (i64 b0_2), (i64 b0_3), (i64 b0_4), (i64 b0_5)]]))]⟩))) (by kernel_rfl)
      (n_condH rfl (fun h0 => (n_condH rfl (fun h1 => (n_bind fun r => (n_condH rfl (fun h2 => (n_bind fun t => (n_condH rfl (fun h3 => rfl) fun h3 => (spec65_0 k m want x11 x12 (wr (x13 + (1 : Int))) b0_0 b0_1 b0_2 b0_3 b0_4 b0_5)))) fun h2 => n_none))) fun h1 => n_none)) fun h0 => rfl)
theorem okL65_0 : LoopOk TT TU GL0 C66 ownF L65 (lp Try.f65 0) :=
  loopOk_of ks65_0 hs65_0 W65_0 FU (fun s k => (G_rules_find_Weapon_0 (toS (cIa s.tmps 2)) (roRows (cIa s.tmps 11)) (toI (cIa s.tmps 12)) FU (toI (cIa s.tmps 13))).bind (X65_0 (toS (cIa (rows0 (blkAt s.heap 0).2) 0)) (toI (cIa (rows0 (blkAt s.heap 0).2) 1)) (toI (cIa (rows0 (blkAt s.heap 0).2) 2)) (toI (cIa (rows0 (blkAt s.heap 0).2) 3)) (toI (cIa (rows0 (blkAt s.heap 0).2) 4)) (toI (cIa (rows0 (blkAt s.heap 0).2) 5)) k)) (fun s k => by kernel_rfl) (fun s k => spec65_0 k FU (toS (cIa s.tmps 2)) (roRows (cIa s.tmps 11)) (toI (cIa s.tmps 12)) (toI (cIa s.tmps 13)) (toS (cIa (rows0 (blkAt s.heap 0).2) 0)) (toI (cIa (rows0 (blkAt s.heap 0).2) 1)) (toI (cIa (rows0 (blkAt s.heap 0).2) 2)) (toI (cIa (rows0 (blkAt s.heap 0).2) 3)) (toI (cIa (rows0 (blkAt s.heap 0).2) 4)) (toI (cIa (rows0 (blkAt s.heap 0).2) 5)))
theorem run65 (l : List (List AVal)) (want : ByteArray) : fcall TT TU GL0 C66 ownF false L65 Try.f65 [(.ro 6 l), (.clo 66 []), (.sc (.string want))] = (F_rules_find_Weapon l want).bind fun t => some (enc65 t) :=
  Eq.trans (b := (Option.bind (G_rules_find_Weapon_0 want l (Int.ofNat l.length) FU (0 : Int)) fun t => (bif t.1 then (some (CR.mk true (AVal.tup [(AVal.agg [(AVal.sc (Value.string t.2.1)), (i64 t.2.2.1), (i64 t.2.2.2.1), (i64 t.2.2.2.2.1), (i64 t.2.2.2.2.2.1), (i64 t.2.2.2.2.2.2)]), (bo true)]) [] [])) else (some (CR.mk true (AVal.tup [(AVal.agg [(AVal.sc (Value.string (ByteArray.mk (Array.mk [])))), (i64 (0 : Int)), (i64 (0 : Int)), (i64 (0 : Int)), (i64 (0 : Int)), (i64 (0 : Int))]), (bo false)]) [] []))))) (by kernel_rfl)
    (n_bind fun t => (n_condH rfl (fun h0 => rfl) fun h0 => rfl))
theorem lib65 : Lib Try.prog GL0 C65 :=
  Lib.fn lib66 mixed TT_ok Try.func65 (by decide +kernel) (by kernel_rfl) false L65 (loops_of 1 (by kernel_rfl) (belowS below0 okL65_0)) ks65 (F := fun us => F_rules_find_Weapon (roRows (cIa us 0)) (toS (cIa us 2))) (fun us => rfl) (fun us => run65 (roRows (cIa us 0)) (toS (cIa us 2))) (fun t => rfl)

/-! ### 44: skirmish/rules.Weapon -/



/-- 'skirmish/rules.Weapon' -/
noncomputable def F_rules_Weapon (r_Units : List (List AVal)) (r_Weapons : List (List AVal)) (r_Techs : List (List AVal)) (name : ByteArray) : Option (ByteArray × Int × Int × Int × Int × Int × Bool) :=
  Option.bind (F_rules_find_Weapon r_Weapons name) fun t =>
  some (t.1, t.2.1, t.2.2.1, t.2.2.2.1, t.2.2.2.2.1, t.2.2.2.2.2.1, t.2.2.2.2.2.2)
noncomputable def enc44 (t : ByteArray × Int × Int × Int × Int × Int × Bool) : CR := ⟨true, (.tup [(.agg [(.sc (.string t.1)), (.sc (.int .i64 t.2.1)), (.sc (.int .i64 t.2.2.1)), (.sc (.int .i64 t.2.2.2.1)), (.sc (.int .i64 t.2.2.2.2.1)), (.sc (.int .i64 t.2.2.2.2.2.1))]), (.sc (.bool t.2.2.2.2.2.2))]), [], []⟩
noncomputable def ks44 : List SK := [.agg [.ro 19, .ro 6, .ro 8], .f (.str)]
noncomputable def S44 (us : List AVal) : Call := bif chkA ks44 us then Call.of (F_rules_Weapon (roRows (cIa (aggL (cIa us 0)) 0)) (roRows (cIa (aggL (cIa us 0)) 1)) (roRows (cIa (aggL (cIa us 0)) 2)) (toS (cIa us 1))) enc44 else Call.none
noncomputable def C44 := AI.ext 44 S44 C65

theorem run44 (r_Units : List (List AVal)) (r_Weapons : List (List AVal)) (r_Techs : List (List AVal)) (name : ByteArray) : fcall TT TU GL0 C65 ownF true noL Try.f44 [(.agg [(.ro 19 r_Units), (.ro 6 r_Weapons), (.ro 8 r_Techs)]), (.sc (.string name))] = (F_rules_Weapon r_Units r_Weapons r_Techs name).bind fun t => some (enc44 t) :=
  Eq.trans (b := (Option.bind (F_rules_find_Weapon r_Weapons name) fun t => (some (CR.mk true (AVal.tup [(AVal.agg [(AVal.sc (Value.string t.1)), (i64 t.2.1), (i64 t.2.2.1), (i64 t.2.2.2.1), (i64 t.2.2.2.2.1), (i64 t.2.2.2.2.2.1)]), (bo t.2.2.2.2.2.2)]) [] [])))) (by kernel_rfl)
    (n_bind fun t => rfl)
theorem lib44 : Lib Try.prog GL0 C44 :=
  Lib.fn lib65 mixed TT_ok Try.func44 (by decide +kernel) (by kernel_rfl) true noL (loops_of 0 (by kernel_rfl) below0) ks44 (F := fun us => F_rules_Weapon (roRows (cIa (aggL (cIa us 0)) 0)) (roRows (cIa (aggL (cIa us 0)) 1)) (roRows (cIa (aggL (cIa us 0)) 2)) (toS (cIa us 1))) (fun us => rfl) (fun us => run44 (roRows (cIa (aggL (cIa us 0)) 0)) (roRows (cIa (aggL (cIa us 0)) 1)) (roRows (cIa (aggL (cIa us 0)) 2)) (toS (cIa us 1))) (fun t => rfl)

/-! ### 21: skirmish/upgrade.Weapon -/



/-- 'skirmish/upgrade.Weapon' -/
noncomputable def F_upgrade_Weapon (r_Units : List (List AVal)) (r_Weapons : List (List AVal)) (r_Techs : List (List AVal)) (techs : List (List AVal)) (unit : ByteArray) : Option (ByteArray × Int × Int × Int × Int × Int × Bool) :=
  Option.bind (F_rules_Unit r_Units r_Weapons r_Techs unit) fun t =>
  bif (!t.2.2.2.2.2.2.2.2.2.2.2.2.2.2.2.2.2.2.2) then
    some ((ByteArray.mk (Array.mk [])), (0 : Int), (0 : Int), (0 : Int), (0 : Int), (0 : Int), false)
  else
  Option.bind (F_rules_Weapon r_Units r_Weapons r_Techs t.2.2.2.2.2.2.2.2.2.2.2.2.2.2.2.1) fun t1 =>
  bif (!t1.2.2.2.2.2.2) then
    some ((ByteArray.mk (Array.mk [])), (0 : Int), (0 : Int), (0 : Int), (0 : Int), (0 : Int), false)
  else
  Option.bind (F_upgrade_newRaiser r_Units r_Weapons r_Techs techs unit) fun t2 =>
  Option.bind (F_upgrade_raiser__stat t2.1 t2.2.1 t2.2.2.1 t2.2.2.2.1 t2.2.2.2.2 t1.2.2.1 (5 : Int) (0 : Int) (100000 : Int)) fun t3 =>
  Option.bind (F_upgrade_raiser__stat t2.1 t2.2.1 t2.2.2.1 t2.2.2.2.1 t2.2.2.2.2 t1.2.1 (6 : Int) (0 : Int) (8192 : Int)) fun t4 =>
  some (t1.1, t4, t3, t1.2.2.2.1, t1.2.2.2.2.1, t1.2.2.2.2.2.1, true)
noncomputable def enc21 (t : ByteArray × Int × Int × Int × Int × Int × Bool) : CR := ⟨true, (.tup [(.agg [(.sc (.string t.1)), (.sc (.int .i64 t.2.1)), (.sc (.int .i64 t.2.2.1)), (.sc (.int .i64 t.2.2.2.1)), (.sc (.int .i64 t.2.2.2.2.1)), (.sc (.int .i64 t.2.2.2.2.2.1))]), (.sc (.bool t.2.2.2.2.2.2))]), [], []⟩
noncomputable def ks21 : List SK := [.agg [.ro 19, .ro 6, .ro 8], .f (.ro 1), .f (.str)]
noncomputable def S21 (us : List AVal) : Call := bif chkA ks21 us then Call.of (F_upgrade_Weapon (roRows (cIa (aggL (cIa us 0)) 0)) (roRows (cIa (aggL (cIa us 0)) 1)) (roRows (cIa (aggL (cIa us 0)) 2)) (roRows (cIa us 1)) (toS (cIa us 2))) enc21 else Call.none
noncomputable def C21 := AI.ext 21 S21 C44

theorem run21 (r_Units : List (List AVal)) (r_Weapons : List (List AVal)) (r_Techs : List (List AVal)) (techs : List (List AVal)) (unit : ByteArray) : fcall TT TU GL0 C44 ownF true noL Try.f21 [(.agg [(.ro 19 r_Units), (.ro 6 r_Weapons), (.ro 8 r_Techs)]), (.ro 1 techs), (.sc (.string unit))] = (F_upgrade_Weapon r_Units r_Weapons r_Techs techs unit).bind fun t => some (enc21 t) :=
  Eq.trans (b := (Option.bind (F_rules_Unit r_Units r_Weapons r_Techs unit) fun t => (bif ((((true && (verEq t.1.length t.1.length)) && true) && true) && true) then (bif ((((true && (verEq t.2.1.length t.2.1.length)) && true) && true) && true) then (bif ((((true && (verEq t.2.2.1.length t.2.2.1.length)) && true) && true) && true) then (bif (!t.2.2.2.2.2.2.2.2.2.2.2.2.2.2.2.2.2.2.2) then (some (CR.mk true (AVal.tup [(AVal.agg [(AVal.sc (Value.string (ByteArray.mk (Array.mk [])))), (i64 (0 : Int)), (i64 (0 : Int)), (i64 (0 : Int)), (i64 (0 : Int)), (i64 (0 : Int))]), (bo false)]) [] [])) else (Option.bind (F_rules_Weapon r_Units r_Weapons r_Techs t.2.2.2.2.2.2.2.2.2.2.2.2.2.2.2.1) fun t1 => (bif (!t1.2.2.2.2.2.2) then (some (CR.mk true (AVal.tup [(AVal.agg [(AVal.sc (Value.string (ByteArray.mk (Array.mk [])))), (i64 (0 : Int)), (i64 (0 : Int)), (i64 (0 : Int)), (i64 (0 : Int)), (i64 (0 : Int))]), (bo false)]) [] [])) else (Option.bind (F_upgrade_newRaiser r_Units r_Weapons r_Techs techs unit) fun t2 => (Option.bind (F_upgrade_raiser__stat t2.1 t2.2.1 t2.2.2.1 t2.2.2.2.1 t2.2.2.2.2 t1.2.2.1 (5 : Int) (0 : Int) (100000 : Int)) fun t3 => (Option.bind (F_upgrade_raiser__stat t2.1 t2.2.1 t2.2.2.1 t2.2.2.2.1 t2.2.2.2.2 t1.2.1 (6 : Int) (0 : Int) (8192 : Int)) fun t4 => (some (CR.mk true (AVal.tup [(AVal.agg [(AVal.sc (Value.string t1.1)), (i64 t4), (i64 t3), (i64 t1.2.2.2.1), (i64 t1.2.2.2.2.1), (i64 t1.2.2.2.2.2.1)]), (bo true)]) [] [])))))))) else none) else none) else none))) (by kernel_rfl)
    (n_bind fun t => (n_true (n_andL (n_andL (n_andL (n_andL rfl (verEq_rfl _)) rfl) rfl) rfl) (n_true (n_andL (n_andL (n_andL (n_andL rfl (verEq_rfl _)) rfl) rfl) rfl) (n_true (n_andL (n_andL (n_andL (n_andL rfl (verEq_rfl _)) rfl) rfl) rfl) (n_condH rfl (fun h0 => rfl) fun h0 => (n_bind fun t1 => (n_condH rfl (fun h1 => rfl) fun h1 => (n_bind fun t2 => (n_bind fun t3 => (n_bind fun t4 => rfl))))))))))
theorem lib21 : Lib Try.prog GL0 C21 :=
  Lib.fn lib44 mixed TT_ok Try.func21 (by decide +kernel) (by kernel_rfl) true noL (loops_of 0 (by kernel_rfl) below0) ks21 (F := fun us => F_upgrade_Weapon (roRows (cIa (aggL (cIa us 0)) 0)) (roRows (cIa (aggL (cIa us 0)) 1)) (roRows (cIa (aggL (cIa us 0)) 2)) (roRows (cIa us 1)) (toS (cIa us 2))) (fun us => rfl) (fun us => run21 (roRows (cIa (aggL (cIa us 0)) 0)) (roRows (cIa (aggL (cIa us 0)) 1)) (roRows (cIa (aggL (cIa us 0)) 2)) (roRows (cIa us 1)) (toS (cIa us 2))) (fun t => rfl)

/-! ### 47: skirmish/upgrade.Of$1 -/



/-- 'skirmish/upgrade.Of$1' -/
noncomputable def F_upgrade_Of_1 (p_Id : Int) (p_Team : Int) (p_Ore : Int) (p_Wood : Int) (p_Techs : List (List AVal)) (p_Out : Bool) (a1_Id : Int) (a1_Owner : Int) (a1_Type : ByteArray) (a1_At_X : Int) (a1_At_Y : Int) (a1_Hp : Int) (a1_Cool : Int) (a1_Left : Int) (a1_Ore : Int) (a1_Wood : Int) (a1_Orders : List (List AVal)) (a1_Jobs : List (List AVal)) : Option (Bool) :=
  some (p_Id == a1_Owner)
noncomputable def enc47 (t : Bool) : CR := ⟨true, (.sc (.bool t)), [], []⟩
noncomputable def ks47 : List SK := [.agg [.int .i64, .int .i64, .int .i64, .int .i64, .ro 1, .bool], .rptr [.int .i64, .int .i64, .str, .int .i64, .int .i64, .int .i64, .int .i64, .int .i64, .int .i64, .int .i64, .ro 5, .ro 3]]
noncomputable def S47 (us : List AVal) : Call := bif chkA ks47 us then Call.of (F_upgrade_Of_1 (toI (cIa (aggL (cIa us 0)) 0)) (toI (cIa (aggL (cIa us 0)) 1)) (toI (cIa (aggL (cIa us 0)) 2)) (toI (cIa (aggL (cIa us 0)) 3)) (roRows (cIa (aggL (cIa us 0)) 4)) (toB (cIa (aggL (cIa us 0)) 5)) (toI (cIa (rptrL (cIa us 1)) 0)) (toI (cIa (rptrL (cIa us 1)) 1)) (toS (cIa (rptrL (cIa us 1)) 2)) (toI (cIa (rptrL (cIa us 1)) 3)) (toI (cIa (rptrL (cIa us 1)) 4)) (toI (cIa (rptrL (cIa us 1)) 5)) (toI (cIa (rptrL (cIa us 1)) 6)) (toI (cIa (rptrL (cIa us 1)) 7)) (toI (cIa (rptrL (cIa us 1)) 8)) (toI (cIa (rptrL (cIa us 1)) 9)) (roRows (cIa (rptrL (cIa us 1)) 10)) (roRows (cIa (rptrL (cIa us 1)) 11))) enc47 else Call.none
noncomputable def C47 := AI.ext 47 S47 C21

theorem run47 (p_Id : Int) (p_Team : Int) (p_Ore : Int) (p_Wood : Int) (p_Techs : List (List AVal)) (p_Out : Bool) (a1_Id : Int) (a1_Owner : Int) (a1_Type : ByteArray) (a1_At_X : Int) (a1_At_Y : Int) (a1_Hp : Int) (a1_Cool : Int) (a1_Left : Int) (a1_Ore : Int) (a1_Wood : Int) (a1_Orders : List (List AVal)) (a1_Jobs : List (List AVal)) : fcall TT TU GL0 C21 ownF true noL Try.f47 [(.agg [(.sc (.int .i64 p_Id)), (.sc (.int .i64 p_Team)), (.sc (.int .i64 p_Ore)), (.sc (.int .i64 p_Wood)), (.ro 1 p_Techs), (.sc (.bool p_Out))]), (.rptr [(.sc (.int .i64 a1_Id)), (.sc (.int .i64 a1_Owner)), (.sc (.string a1_Type)), (.sc (.int .i64 a1_At_X)), (.sc (.int .i64 a1_At_Y)), (.sc (.int .i64 a1_Hp)), (.sc (.int .i64 a1_Cool)), (.sc (.int .i64 a1_Left)), (.sc (.int .i64 a1_Ore)), (.sc (.int .i64 a1_Wood)), (.ro 5 a1_Orders), (.ro 3 a1_Jobs)])] = (F_upgrade_Of_1 p_Id p_Team p_Ore p_Wood p_Techs p_Out a1_Id a1_Owner a1_Type a1_At_X a1_At_Y a1_Hp a1_Cool a1_Left a1_Ore a1_Wood a1_Orders a1_Jobs).bind fun t => some (enc47 t) :=
  Eq.trans (b := (some (CR.mk true (bo (p_Id == a1_Owner)) [] []))) (by kernel_rfl)
    rfl
theorem lib47 : Lib Try.prog GL0 C47 :=
  Lib.fn lib21 mixed TT_ok Try.func47 (by decide +kernel) (by kernel_rfl) true noL (loops_of 0 (by kernel_rfl) below0) ks47 (F := fun us => F_upgrade_Of_1 (toI (cIa (aggL (cIa us 0)) 0)) (toI (cIa (aggL (cIa us 0)) 1)) (toI (cIa (aggL (cIa us 0)) 2)) (toI (cIa (aggL (cIa us 0)) 3)) (roRows (cIa (aggL (cIa us 0)) 4)) (toB (cIa (aggL (cIa us 0)) 5)) (toI (cIa (rptrL (cIa us 1)) 0)) (toI (cIa (rptrL (cIa us 1)) 1)) (toS (cIa (rptrL (cIa us 1)) 2)) (toI (cIa (rptrL (cIa us 1)) 3)) (toI (cIa (rptrL (cIa us 1)) 4)) (toI (cIa (rptrL (cIa us 1)) 5)) (toI (cIa (rptrL (cIa us 1)) 6)) (toI (cIa (rptrL (cIa us 1)) 7)) (toI (cIa (rptrL (cIa us 1)) 8)) (toI (cIa (rptrL (cIa us 1)) 9)) (roRows (cIa (rptrL (cIa us 1)) 10)) (roRows (cIa (rptrL (cIa us 1)) 11))) (fun us => rfl) (fun us => run47 (toI (cIa (aggL (cIa us 0)) 0)) (toI (cIa (aggL (cIa us 0)) 1)) (toI (cIa (aggL (cIa us 0)) 2)) (toI (cIa (aggL (cIa us 0)) 3)) (roRows (cIa (aggL (cIa us 0)) 4)) (toB (cIa (aggL (cIa us 0)) 5)) (toI (cIa (rptrL (cIa us 1)) 0)) (toI (cIa (rptrL (cIa us 1)) 1)) (toS (cIa (rptrL (cIa us 1)) 2)) (toI (cIa (rptrL (cIa us 1)) 3)) (toI (cIa (rptrL (cIa us 1)) 4)) (toI (cIa (rptrL (cIa us 1)) 5)) (toI (cIa (rptrL (cIa us 1)) 6)) (toI (cIa (rptrL (cIa us 1)) 7)) (toI (cIa (rptrL (cIa us 1)) 8)) (toI (cIa (rptrL (cIa us 1)) 9)) (roRows (cIa (rptrL (cIa us 1)) 10)) (roRows (cIa (rptrL (cIa us 1)) 11))) (fun t => rfl)

/-! ### 73: skirmish/entity.find$1 -/



/-- 'skirmish/entity.find$1' -/
noncomputable def F_entity_find_1 (e_Id : Int) (e_Owner : Int) (e_Type : ByteArray) (e_At_X : Int) (e_At_Y : Int) (e_Hp : Int) (e_Cool : Int) (e_Left : Int) (e_Ore : Int) (e_Wood : Int) (e_Orders : List (List AVal)) (e_Jobs : List (List AVal)) (a1 : Int) : Option (Bool) :=
  some (e_Id == a1)
noncomputable def enc73 (t : Bool) : CR := ⟨true, (.sc (.bool t)), [], []⟩
noncomputable def ks73 : List SK := [.agg [.int .i64, .int .i64, .str, .int .i64, .int .i64, .int .i64, .int .i64, .int .i64, .int .i64, .int .i64, .ro 5, .ro 3], .rptr [.int .i64]]
noncomputable def S73 (us : List AVal) : Call := bif chkA ks73 us then Call.of (F_entity_find_1 (toI (cIa (aggL (cIa us 0)) 0)) (toI (cIa (aggL (cIa us 0)) 1)) (toS (cIa (aggL (cIa us 0)) 2)) (toI (cIa (aggL (cIa us 0)) 3)) (toI (cIa (aggL (cIa us 0)) 4)) (toI (cIa (aggL (cIa us 0)) 5)) (toI (cIa (aggL (cIa us 0)) 6)) (toI (cIa (aggL (cIa us 0)) 7)) (toI (cIa (aggL (cIa us 0)) 8)) (toI (cIa (aggL (cIa us 0)) 9)) (roRows (cIa (aggL (cIa us 0)) 10)) (roRows (cIa (aggL (cIa us 0)) 11)) (toI (cIa (rptrL (cIa us 1)) 0))) enc73 else Call.none
noncomputable def C73 := AI.ext 73 S73 C47

theorem run73 (e_Id : Int) (e_Owner : Int) (e_Type : ByteArray) (e_At_X : Int) (e_At_Y : Int) (e_Hp : Int) (e_Cool : Int) (e_Left : Int) (e_Ore : Int) (e_Wood : Int) (e_Orders : List (List AVal)) (e_Jobs : List (List AVal)) (a1 : Int) : fcall TT TU GL0 C47 ownF true noL Try.f73 [(.agg [(.sc (.int .i64 e_Id)), (.sc (.int .i64 e_Owner)), (.sc (.string e_Type)), (.sc (.int .i64 e_At_X)), (.sc (.int .i64 e_At_Y)), (.sc (.int .i64 e_Hp)), (.sc (.int .i64 e_Cool)), (.sc (.int .i64 e_Left)), (.sc (.int .i64 e_Ore)), (.sc (.int .i64 e_Wood)), (.ro 5 e_Orders), (.ro 3 e_Jobs)]), (.rptr [(.sc (.int .i64 a1))])] = (F_entity_find_1 e_Id e_Owner e_Type e_At_X e_At_Y e_Hp e_Cool e_Left e_Ore e_Wood e_Orders e_Jobs a1).bind fun t => some (enc73 t) :=
  Eq.trans (b := (some (CR.mk true (bo (e_Id == a1)) [] []))) (by kernel_rfl)
    rfl
theorem lib73 : Lib Try.prog GL0 C73 :=
  Lib.fn lib47 mixed TT_ok Try.func73 (by decide +kernel) (by kernel_rfl) true noL (loops_of 0 (by kernel_rfl) below0) ks73 (F := fun us => F_entity_find_1 (toI (cIa (aggL (cIa us 0)) 0)) (toI (cIa (aggL (cIa us 0)) 1)) (toS (cIa (aggL (cIa us 0)) 2)) (toI (cIa (aggL (cIa us 0)) 3)) (toI (cIa (aggL (cIa us 0)) 4)) (toI (cIa (aggL (cIa us 0)) 5)) (toI (cIa (aggL (cIa us 0)) 6)) (toI (cIa (aggL (cIa us 0)) 7)) (toI (cIa (aggL (cIa us 0)) 8)) (toI (cIa (aggL (cIa us 0)) 9)) (roRows (cIa (aggL (cIa us 0)) 10)) (roRows (cIa (aggL (cIa us 0)) 11)) (toI (cIa (rptrL (cIa us 1)) 0))) (fun us => rfl) (fun us => run73 (toI (cIa (aggL (cIa us 0)) 0)) (toI (cIa (aggL (cIa us 0)) 1)) (toS (cIa (aggL (cIa us 0)) 2)) (toI (cIa (aggL (cIa us 0)) 3)) (toI (cIa (aggL (cIa us 0)) 4)) (toI (cIa (aggL (cIa us 0)) 5)) (toI (cIa (aggL (cIa us 0)) 6)) (toI (cIa (aggL (cIa us 0)) 7)) (toI (cIa (aggL (cIa us 0)) 8)) (toI (cIa (aggL (cIa us 0)) 9)) (roRows (cIa (aggL (cIa us 0)) 10)) (roRows (cIa (aggL (cIa us 0)) 11)) (toI (cIa (rptrL (cIa us 1)) 0))) (fun t => rfl)

/-! ### 72: slices.IndexFunc[[]skirmish/api.Entity,skirmish/api.Entity] -/

noncomputable def W72_0 : Ex → List Bool
  | .ret => [false, false, false, false, true, false, false, false, false, false, false, false, false, false, false, false, false, false, false]
  | .exit n => bif Nat.beq n 0 then [false, false, false, false, false, false, false, false, false, false, false, false, false, false, false, false, false, false, false] else []
  | .normal => []
noncomputable def G_slices_IndexFunc_Entity_0 (s1 : List (List AVal)) (f_0_0 : Int) (x7 : Int) : Nat → Int → Option (Bool × Int)
  | 0, _ => none
  | m + 1, x8 =>
    bif (decide (x8 < x7)) then
      bif (decide ((0 : Int) ≤ x8)) then
        Option.bind (s1[x8.toNat]?) fun r =>
        bif (chk [(LT.int IntKind.i64), (LT.int IntKind.i64), LT.str, (LT.int IntKind.i64), (LT.int IntKind.i64), (LT.int IntKind.i64), (LT.int IntKind.i64), (LT.int IntKind.i64), (LT.int IntKind.i64), (LT.int IntKind.i64), (LT.sl 114 5), (LT.sl 117 3)] r) then
          Option.bind (F_entity_find_1 (cI r 0) (cI r 1) (cS r 2) (cI r 3) (cI r 4) (cI r 5) (cI r 6) (cI r 7) (cI r 8) (cI r 9) (roRows (AVal.ro 5 (cR r 10))) (roRows (AVal.ro 3 (cR r 11))) f_0_0) fun t =>
          bif t then
            some (true, x8)
          else
          G_slices_IndexFunc_Entity_0 s1 f_0_0 x7 m (wr (x8 + (1 : Int)))
        else
        none
      else
      none
    else
    some (false, 0)
noncomputable def E72_0 (s1 : List (List AVal)) (f_0_0 : Int) (x7 : Int) (x8 : Int) : St := ⟨[(.ro 12 s1), (.clo 73 [(.rptr [(.sc (.int .i64 f_0_0))])]), .dead, .dead, .dead, .dead, .dead, (.sc (.int .i64 x7)), (.sc (.int .i64 x8)), .dead, .dead, .dead, .dead, .dead, .dead, .dead, .dead, .dead, .dead], []⟩
noncomputable def X72_0 (k : Ex → St → Option CR) (t : Bool × Int) : Option CR := bif t.1 then k .ret ⟨[.dead, .dead, .dead, .dead, (.sc (.int .i64 t.2)), .dead, .dead, .dead, .dead, .dead, .dead, .dead, .dead, .dead, .dead, .dead, .dead, .dead, .dead], []⟩ else k (.exit 0) ⟨[.dead, .dead, .dead, .dead, .dead, .dead, .dead, .dead, .dead, .dead, .dead, .dead, .dead, .dead, .dead, .dead, .dead, .dead, .dead], []⟩
noncomputable def ks72_0 : List SK := [.f (.ro 12), .f (.clo 73 [[.int .i64]]), .f .dead, .f .dead, .f .dead, .f .dead, .f .dead, .f (.int .i64), .f (.int .i64), .f .dead, .f .dead, .f .dead, .f .dead, .f .dead, .f .dead, .f .dead, .f .dead, .f .dead, .f .dead]
noncomputable def hs72_0 : List HK := []
noncomputable def Lm72_0 (s : St) (k : Ex → St → Option CR) : Option CR := bif chkS ks72_0 hs72_0 s then (G_slices_IndexFunc_Entity_0 (roRows (cIa s.tmps 0)) (toI (cIa (rptrL (cIa (cloL (cIa s.tmps 1)) 0)) 0)) (toI (cIa s.tmps 7)) FU (toI (cIa s.tmps 8))).bind (X72_0 k) else none
noncomputable def L72_0 (s : St) (k : Ex → St → Option CR) : Option CR := Lm72_0 (maskS (maskOf ks72_0) s) k

noncomputable def L72 : LT' := fun i s k => bif Nat.beq i 0 then L72_0 s k else none

/-- 'slices.IndexFunc[[]skirmish/api.Entity,skirmish/api.Entity]' -/
noncomputable def F_slices_IndexFunc_Entity (s1 : List (List AVal)) (f_0 : Int) : Option (Int) :=
  Option.bind (G_slices_IndexFunc_Entity_0 s1 f_0 (Int.ofNat s1.length) FU (0 : Int)) fun t =>
  bif t.1 then
    some t.2
  else
  some (-(1 : Int))
noncomputable def enc72 (t : Int) : CR := ⟨true, (.sc (.int .i64 t)), [], []⟩
noncomputable def ks72 : List SK := [.f (.ro 12), .f (.clo 73 [[.int .i64]])]
noncomputable def S72 (us : List AVal) : Call := bif chkA ks72 us then Call.of (F_slices_IndexFunc_Entity (roRows (cIa us 0)) (toI (cIa (rptrL (cIa (cloL (cIa us 1)) 0)) 0))) enc72 else Call.none
noncomputable def C72 := AI.ext 72 S72 C73

@[reducible] noncomputable def B72_0 := bodyOf TT TU GL0 C73 ownF L72 (lp Try.f72 0)
@[reducible] noncomputable def K72_0 (k : Ex → St → Option CR) : Ex → St → Option CR := fun e s => k e (maskS (W72_0 e) s)
theorem spec72_0 (k : Ex → St → Option CR) : ∀ (m : Nat) (s1 : List (List AVal)) (f_0_0 : Int) (x7 : Int) (x8 : Int), loopN B72_0 m (E72_0 s1 f_0_0 x7 x8) (K72_0 k) = (G_slices_IndexFunc_Entity_0 s1 f_0_0 x7 m x8).bind (X72_0 k)
  | 0, _, _, _, _ => rfl
  | m + 1, s1, f_0_0, x7, x8 =>
    Eq.trans (b := (bif (decide (x8 < x7)) then (bif (decide ((0 : Int) ≤ x8)) then (Option.bind (s1[x8.toNat]?) fun r => (bif (chk [(LT.int IntKind.i64), (LT.int IntKind.i64), LT.str, (LT.int IntKind.i64), (LT.int IntKind.i64), (LT.int IntKind.i64), (LT.int IntKind.i64), (LT.int IntKind.i64), (LT.int IntKind.i64), (LT.int IntKind.i64), (LT.sl 114 5), (LT.sl 117 3)] r) then (Option.bind (F_entity_find_1 (cI r 0) (cI r 1) (cS r 2) (cI r 3) (cI r 4) (cI r 5) (cI r 6) (cI r 7) (cI r 8) (cI r 9) (roRows (AVal.ro 5 (cR r 10))) (roRows (AVal.ro 3 (cR r 11))) f_0_0) fun t => (bif t then (k .ret ⟨[.dead, .dead, .dead, .dead, (i64 x8), .dead, .dead, .dead, .dead, .dead, .dead, .dead, .dead, .dead, .dead, .dead, .dead, .dead, .dead], []⟩) else (loopN B72_0 m ⟨[(AVal.ro 12 s1), (AVal.clo 73 [(AVal.rptr [(i64 f_0_0)])]), .dead, .dead, .dead, .dead, .dead, (i64 x7), (i64 (wr (x8 + (1 : Int)))), .dead, .dead, .dead, .dead, .dead, .dead, .dead, .dead, .dead, .dead], []⟩ (K72_0 k)))) else none)) else none) else (k (.exit 0) ⟨[.dead, .dead, .dead, .dead, .dead, .dead, .dead, .dead, .dead, .dead, .dead, .dead, .dead, .dead, .dead, .dead, .dead, .dead, .dead], []⟩))) (by kernel_rfl)
      (n_condH rfl (fun h0 => (n_condH rfl (fun h1 => (n_bind fun r => (n_condH rfl (fun h2 => (n_bind fun t => (n_condH rfl (fun h3 => rfl) fun h3 => (spec72_0 k m s1 f_0_0 x7 (wr (x8 + (1 : Int))))))) fun h2 => n_none))) fun h1 => n_none)) fun h0 => rfl)
theorem okL72_0 : LoopOk TT TU GL0 C73 ownF L72 (lp Try.f72 0) :=
  loopOk_of ks72_0 hs72_0 W72_0 FU (fun s k => (G_slices_IndexFunc_Entity_0 (roRows (cIa s.tmps 0)) (toI (cIa (rptrL (cIa (cloL (cIa s.tmps 1)) 0)) 0)) (toI (cIa s.tmps 7)) FU (toI (cIa s.tmps 8))).bind (X72_0 k)) (fun s k => by kernel_rfl) (fun s k => spec72_0 k FU (roRows (cIa s.tmps 0)) (toI (cIa (rptrL (cIa (cloL (cIa s.tmps 1)) 0)) 0)) (toI (cIa s.tmps 7)) (toI (cIa s.tmps 8)))
theorem run72 (s1 : List (List AVal)) (f_0 : Int) : fcall TT TU GL0 C73 ownF true L72 Try.f72 [(.ro 12 s1), (.clo 73 [(.rptr [(.sc (.int .i64 f_0))])])] = (F_slices_IndexFunc_Entity s1 f_0).bind fun t => some (enc72 t) :=
  Eq.trans (b := (Option.bind (G_slices_IndexFunc_Entity_0 s1 f_0 (Int.ofNat s1.length) FU (0 : Int)) fun t => (bif t.1 then (some (CR.mk true (i64 t.2) [] [])) else (some (CR.mk true (i64 (-(1 : Int))) [] []))))) (by kernel_rfl)
    (n_bind fun t => (n_condH rfl (fun h0 => rfl) fun h0 => rfl))
theorem lib72 : Lib Try.prog GL0 C72 :=
  Lib.fn lib73 mixed TT_ok Try.func72 (by decide +kernel) (by kernel_rfl) true L72 (loops_of 1 (by kernel_rfl) (belowS below0 okL72_0)) ks72 (F := fun us => F_slices_IndexFunc_Entity (roRows (cIa us 0)) (toI (cIa (rptrL (cIa (cloL (cIa us 1)) 0)) 0))) (fun us => rfl) (fun us => run72 (roRows (cIa us 0)) (toI (cIa (rptrL (cIa (cloL (cIa us 1)) 0)) 0))) (fun t => rfl)

/-! ### 67: skirmish/entity.find -/



/-- 'skirmish/entity.find' -/
noncomputable def F_entity_find (l : List (List AVal)) (id : Int) : Option (Int) :=
  Option.bind (F_slices_IndexFunc_Entity l id) fun t =>
  some t
noncomputable def enc67 (t : Int) : CR := ⟨true, (.sc (.int .i64 t)), [], []⟩
noncomputable def ks67 : List SK := [.f (.ro 12), .f (.int .i64)]
noncomputable def S67 (us : List AVal) : Call := bif chkA ks67 us then Call.of (F_entity_find (roRows (cIa us 0)) (toI (cIa us 1))) enc67 else Call.none
noncomputable def C67 := AI.ext 67 S67 C72

theorem run67 (l : List (List AVal)) (id : Int) : fcall TT TU GL0 C72 ownRo true noL Try.f67 [(.ro 12 l), (.sc (.int .i64 id))] = (F_entity_find l id).bind fun t => some (enc67 t) :=
  Eq.trans (b := (Option.bind (F_slices_IndexFunc_Entity l id) fun t => (some (CR.mk true (i64 t) [] [])))) (by kernel_rfl)
    (n_bind fun t => rfl)
theorem lib67 : Lib Try.prog GL0 C67 :=
  Lib.fn lib72 mixed TT_ok Try.func67 (by decide +kernel) (by kernel_rfl) true noL (loops_of 0 (by kernel_rfl) below0) ks67 (F := fun us => F_entity_find (roRows (cIa us 0)) (toI (cIa us 1))) (fun us => rfl) (fun us => run67 (roRows (cIa us 0)) (toI (cIa us 1))) (fun t => rfl)

/-! ### 74: slices.Clone[[]skirmish/api.Order,skirmish/api.Order] -/



/-- 'slices.Clone[[]skirmish/api.Order,skirmish/api.Order]' -/
noncomputable def F_slices_Clone_Order_ne (s1 : List (List AVal)) : Option (List (List AVal)) :=
  bif (List.isEmpty s1) then
    none
  else
  bif (roomOk (0 + s1.length) 48) then
    some s1
  else
  none
noncomputable def F_slices_Clone_Order (s1 : List (List AVal)) : Option (List (List AVal)) := bif s1.isEmpty then some [] else F_slices_Clone_Order_ne s1
noncomputable def enc74 (t : List (List AVal)) : CR := ⟨true, (.slc 0 (t).length), [], [⟨.arr, 114, 5, t⟩]⟩
noncomputable def S74 (us : List AVal) : Call := bif chkA [.f (.ro 5)] us then Call.of (F_slices_Clone_Order (roRows (cIa us 0))) enc74 else Call.none
noncomputable def C74 := AI.ext 74 S74 C67

theorem run74 (s1 : List (List AVal)) : fcall TT TU GL0 C67 ownF true noL Try.f74 [(.ro 5 s1)] = (F_slices_Clone_Order_ne s1).bind fun t => some (enc74 t) :=
  Eq.trans (b := (bif (List.isEmpty s1) then none else (bif (roomOk (0 + s1.length) 48) then (bif (verEq s1.length s1.length) then (some (CR.mk true (AVal.slc 0 s1.length) [] [(Blk.mk BKind.arr 114 5 s1)])) else none) else none))) (by kernel_rfl)
    (n_condH rfl (fun h0 => n_none) fun h0 => (n_condH rfl (fun h1 => (n_true (verEq_rfl _) rfl)) fun h1 => n_none))
theorem lib74 : Lib Try.prog GL0 C74 :=
  Lib.clone lib67 mixed TT_ok Try.func74 (by decide +kernel) (by kernel_rfl) true noL (loops_of 0 (by kernel_rfl) below0)  5 (fun us => rfl) run74 (fun a cap => by cases a <;> kernel_rfl) (fun t => rfl)

/-! ### 75: slices.Clone[[]skirmish/api.Job,skirmish/api.Job] -/



/-- 'slices.Clone[[]skirmish/api.Job,skirmish/api.Job]' -/
noncomputable def F_slices_Clone_Job_ne (s1 : List (List AVal)) : Option (List (List AVal)) :=
  bif (List.isEmpty s1) then
    none
  else
  bif (roomOk (0 + s1.length) 32) then
    some s1
  else
  none
noncomputable def F_slices_Clone_Job (s1 : List (List AVal)) : Option (List (List AVal)) := bif s1.isEmpty then some [] else F_slices_Clone_Job_ne s1
noncomputable def enc75 (t : List (List AVal)) : CR := ⟨true, (.slc 0 (t).length), [], [⟨.arr, 117, 3, t⟩]⟩
noncomputable def S75 (us : List AVal) : Call := bif chkA [.f (.ro 3)] us then Call.of (F_slices_Clone_Job (roRows (cIa us 0))) enc75 else Call.none
noncomputable def C75 := AI.ext 75 S75 C74

theorem run75 (s1 : List (List AVal)) : fcall TT TU GL0 C74 ownF true noL Try.f75 [(.ro 3 s1)] = (F_slices_Clone_Job_ne s1).bind fun t => some (enc75 t) :=
  Eq.trans (b := (bif (List.isEmpty s1) then none else (bif (roomOk (0 + s1.length) 32) then (bif (verEq s1.length s1.length) then (some (CR.mk true (AVal.slc 0 s1.length) [] [(Blk.mk BKind.arr 117 3 s1)])) else none) else none))) (by kernel_rfl)
    (n_condH rfl (fun h0 => n_none) fun h0 => (n_condH rfl (fun h1 => (n_true (verEq_rfl _) rfl)) fun h1 => n_none))
theorem lib75 : Lib Try.prog GL0 C75 :=
  Lib.clone lib74 mixed TT_ok Try.func75 (by decide +kernel) (by kernel_rfl) true noL (loops_of 0 (by kernel_rfl) below0)  3 (fun us => rfl) run75 (fun a cap => by cases a <;> kernel_rfl) (fun t => rfl)

/-! ### 68: skirmish/entity.clone -/



/-- 'skirmish/entity.clone' -/
noncomputable def F_entity_clone (e_Id : Int) (e_Owner : Int) (e_Type : ByteArray) (e_At_X : Int) (e_At_Y : Int) (e_Hp : Int) (e_Cool : Int) (e_Left : Int) (e_Ore : Int) (e_Wood : Int) (e_Orders : List (List AVal)) (e_Jobs : List (List AVal)) : Option (List (List AVal) × List (List AVal) × Int × Int × ByteArray × Int × Int × Int × Int × Int × Int × Int) :=
  Option.bind (F_slices_Clone_Order e_Orders) fun t =>
  Option.bind (F_slices_Clone_Job e_Jobs) fun t1 =>
  some (t, t1, e_Id, e_Owner, e_Type, e_At_X, e_At_Y, e_Hp, e_Cool, e_Left, e_Ore, e_Wood)
noncomputable def enc68 (t : List (List AVal) × List (List AVal) × Int × Int × ByteArray × Int × Int × Int × Int × Int × Int × Int) : CR := ⟨true, (.agg [(.sc (.int .i64 t.2.2.1)), (.sc (.int .i64 t.2.2.2.1)), (.sc (.string t.2.2.2.2.1)), (.sc (.int .i64 t.2.2.2.2.2.1)), (.sc (.int .i64 t.2.2.2.2.2.2.1)), (.sc (.int .i64 t.2.2.2.2.2.2.2.1)), (.sc (.int .i64 t.2.2.2.2.2.2.2.2.1)), (.sc (.int .i64 t.2.2.2.2.2.2.2.2.2.1)), (.sc (.int .i64 t.2.2.2.2.2.2.2.2.2.2.1)), (.sc (.int .i64 t.2.2.2.2.2.2.2.2.2.2.2)), (.slc 0 (t.1).length), (.slc 1 (t.2.1).length)]), [], [⟨.arr, 114, 5, t.1⟩, ⟨.arr, 117, 3, t.2.1⟩]⟩
noncomputable def ks68 : List SK := [.agg [.int .i64, .int .i64, .str, .int .i64, .int .i64, .int .i64, .int .i64, .int .i64, .int .i64, .int .i64, .ro 5, .ro 3]]
noncomputable def S68 (us : List AVal) : Call := bif chkA ks68 us then Call.of (F_entity_clone (toI (cIa (aggL (cIa us 0)) 0)) (toI (cIa (aggL (cIa us 0)) 1)) (toS (cIa (aggL (cIa us 0)) 2)) (toI (cIa (aggL (cIa us 0)) 3)) (toI (cIa (aggL (cIa us 0)) 4)) (toI (cIa (aggL (cIa us 0)) 5)) (toI (cIa (aggL (cIa us 0)) 6)) (toI (cIa (aggL (cIa us 0)) 7)) (toI (cIa (aggL (cIa us 0)) 8)) (toI (cIa (aggL (cIa us 0)) 9)) (roRows (cIa (aggL (cIa us 0)) 10)) (roRows (cIa (aggL (cIa us 0)) 11))) enc68 else Call.none
noncomputable def C68 := AI.ext 68 S68 C75

theorem run68 (e_Id : Int) (e_Owner : Int) (e_Type : ByteArray) (e_At_X : Int) (e_At_Y : Int) (e_Hp : Int) (e_Cool : Int) (e_Left : Int) (e_Ore : Int) (e_Wood : Int) (e_Orders : List (List AVal)) (e_Jobs : List (List AVal)) : fcall TT TU GL0 C75 ownF true noL Try.f68 [(.agg [(.sc (.int .i64 e_Id)), (.sc (.int .i64 e_Owner)), (.sc (.string e_Type)), (.sc (.int .i64 e_At_X)), (.sc (.int .i64 e_At_Y)), (.sc (.int .i64 e_Hp)), (.sc (.int .i64 e_Cool)), (.sc (.int .i64 e_Left)), (.sc (.int .i64 e_Ore)), (.sc (.int .i64 e_Wood)), (.ro 5 e_Orders), (.ro 3 e_Jobs)])] = (F_entity_clone e_Id e_Owner e_Type e_At_X e_At_Y e_Hp e_Cool e_Left e_Ore e_Wood e_Orders e_Jobs).bind fun t => some (enc68 t) :=
  Eq.trans (b := (Option.bind (F_slices_Clone_Order e_Orders) fun t => (bif ((((true && (verEq t.length t.length)) && true) && true) && true) then (Option.bind (F_slices_Clone_Job e_Jobs) fun t1 => (bif ((((true && (verEq t1.length t1.length)) && true) && true) && true) then (bif (verEq t.length t.length) then (bif (verEq t1.length t1.length) then (some (CR.mk true (AVal.agg [(i64 e_Id), (i64 e_Owner), (AVal.sc (Value.string e_Type)), (i64 e_At_X), (i64 e_At_Y), (i64 e_Hp), (i64 e_Cool), (i64 e_Left), (i64 e_Ore), (i64 e_Wood), (AVal.slc 0 t.length), (AVal.slc 1 t1.length)]) [] [(Blk.mk BKind.arr 114 5 t), (Blk.mk BKind.arr 117 3 t1)])) else none) else none) else none)) else none))) (by kernel_rfl)
    (n_bind fun t => (n_true (n_andL (n_andL (n_andL (n_andL rfl (verEq_rfl _)) rfl) rfl) rfl) (n_bind fun t1 => (n_true (n_andL (n_andL (n_andL (n_andL rfl (verEq_rfl _)) rfl) rfl) rfl) (n_true (verEq_rfl _) (n_true (verEq_rfl _) rfl))))))
theorem lib68 : Lib Try.prog GL0 C68 :=
  Lib.fn lib75 mixed TT_ok Try.func68 (by decide +kernel) (by kernel_rfl) true noL (loops_of 0 (by kernel_rfl) below0) ks68 (F := fun us => F_entity_clone (toI (cIa (aggL (cIa us 0)) 0)) (toI (cIa (aggL (cIa us 0)) 1)) (toS (cIa (aggL (cIa us 0)) 2)) (toI (cIa (aggL (cIa us 0)) 3)) (toI (cIa (aggL (cIa us 0)) 4)) (toI (cIa (aggL (cIa us 0)) 5)) (toI (cIa (aggL (cIa us 0)) 6)) (toI (cIa (aggL (cIa us 0)) 7)) (toI (cIa (aggL (cIa us 0)) 8)) (toI (cIa (aggL (cIa us 0)) 9)) (roRows (cIa (aggL (cIa us 0)) 10)) (roRows (cIa (aggL (cIa us 0)) 11))) (fun us => rfl) (fun us => run68 (toI (cIa (aggL (cIa us 0)) 0)) (toI (cIa (aggL (cIa us 0)) 1)) (toS (cIa (aggL (cIa us 0)) 2)) (toI (cIa (aggL (cIa us 0)) 3)) (toI (cIa (aggL (cIa us 0)) 4)) (toI (cIa (aggL (cIa us 0)) 5)) (toI (cIa (aggL (cIa us 0)) 6)) (toI (cIa (aggL (cIa us 0)) 7)) (toI (cIa (aggL (cIa us 0)) 8)) (toI (cIa (aggL (cIa us 0)) 9)) (roRows (cIa (aggL (cIa us 0)) 10)) (roRows (cIa (aggL (cIa us 0)) 11))) (fun t => rfl)

/-! ### 45: skirmish/entity.Find -/



/-- 'skirmish/entity.Find' -/
noncomputable def F_entity_Find (l : List (List AVal)) (id : Int) : Option (Int × Int × ByteArray × Int × Int × Int × Int × Int × Int × Int × List (List AVal) × List (List AVal) × Bool) :=
  Option.bind (F_entity_find l id) fun t =>
  bif (decide (t < (0 : Int))) then
    some ((0 : Int), (0 : Int), (ByteArray.mk (Array.mk [])), (0 : Int), (0 : Int), (0 : Int), (0 : Int), (0 : Int), (0 : Int), (0 : Int), [], [], false)
  else
  bif (decide ((0 : Int) ≤ t)) then
    Option.bind (l[t.toNat]?) fun r =>
    bif (chk [(LT.int IntKind.i64), (LT.int IntKind.i64), LT.str, (LT.int IntKind.i64), (LT.int IntKind.i64), (LT.int IntKind.i64), (LT.int IntKind.i64), (LT.int IntKind.i64), (LT.int IntKind.i64), (LT.int IntKind.i64), (LT.sl 114 5), (LT.sl 117 3)] r) then
      Option.bind (F_entity_clone (cI r 0) (cI r 1) (cS r 2) (cI r 3) (cI r 4) (cI r 5) (cI r 6) (cI r 7) (cI r 8) (cI r 9) (roRows (AVal.ro 5 (cR r 10))) (roRows (AVal.ro 3 (cR r 11)))) fun t1 =>
      some (t1.2.2.1, t1.2.2.2.1, t1.2.2.2.2.1, t1.2.2.2.2.2.1, t1.2.2.2.2.2.2.1, t1.2.2.2.2.2.2.2.1, t1.2.2.2.2.2.2.2.2.1, t1.2.2.2.2.2.2.2.2.2.1, t1.2.2.2.2.2.2.2.2.2.2.1, t1.2.2.2.2.2.2.2.2.2.2.2, t1.1, t1.2.1, true)
    else
    none
  else
  none
noncomputable def enc45 (t : Int × Int × ByteArray × Int × Int × Int × Int × Int × Int × Int × List (List AVal) × List (List AVal) × Bool) : CR := ⟨true, (.tup [(.agg [(.sc (.int .i64 t.1)), (.sc (.int .i64 t.2.1)), (.sc (.string t.2.2.1)), (.sc (.int .i64 t.2.2.2.1)), (.sc (.int .i64 t.2.2.2.2.1)), (.sc (.int .i64 t.2.2.2.2.2.1)), (.sc (.int .i64 t.2.2.2.2.2.2.1)), (.sc (.int .i64 t.2.2.2.2.2.2.2.1)), (.sc (.int .i64 t.2.2.2.2.2.2.2.2.1)), (.sc (.int .i64 t.2.2.2.2.2.2.2.2.2.1)), (.ro 5 t.2.2.2.2.2.2.2.2.2.2.1), (.ro 3 t.2.2.2.2.2.2.2.2.2.2.2.1)]), (.sc (.bool t.2.2.2.2.2.2.2.2.2.2.2.2))]), [], []⟩
noncomputable def ks45 : List SK := [.f (.ro 12), .f (.int .i64)]
noncomputable def S45 (us : List AVal) : Call := bif chkA ks45 us then Call.of (F_entity_Find (roRows (cIa us 0)) (toI (cIa us 1))) enc45 else Call.none
noncomputable def C45 := AI.ext 45 S45 C68

theorem run45 (l : List (List AVal)) (id : Int) : fcall TT TU GL0 C68 ownF false noL Try.f45 [(.ro 12 l), (.sc (.int .i64 id))] = (F_entity_Find l id).bind fun t => some (enc45 t) :=
  Eq.trans (b := (Option.bind (F_entity_find l id) fun t => (bif (decide (t < (0 : Int))) then (some (CR.mk true (AVal.tup [(AVal.agg [(i64 (0 : Int)), (i64 (0 : Int)), (AVal.sc (Value.string (ByteArray.mk (Array.mk [])))), (i64 (0 : Int)), (i64 (0 : Int)), (i64 (0 : Int)), (i64 (0 : Int)), (i64 (0 : Int)), (i64 (0 : Int)), (i64 (0 : Int)), (AVal.ro 5 []), (AVal.ro 3 [])]), (bo false)]) [] [])) else (bif (decide ((0 : Int) ≤ t)) then (Option.bind (l[t.toNat]?) fun r => (bif (chk [(LT.int IntKind.i64), (LT.int IntKind.i64), LT.str, (LT.int IntKind.i64), (LT.int IntKind.i64), (LT.int IntKind.i64), (LT.int IntKind.i64), (LT.int IntKind.i64), (LT.int IntKind.i64), (LT.int IntKind.i64), (LT.sl 114 5), (LT.sl 117 3)] r) then (Option.bind (F_entity_clone (cI r 0) (cI r 1) (cS r 2) (cI r 3) (cI r 4) (cI r 5) (cI r 6) (cI r 7) (cI r 8) (cI r 9) (roRows (AVal.ro 5 (cR r 10))) (roRows (AVal.ro 3 (cR r 11)))) fun t1 => (bif ((((true && (verEq t1.1.length t1.1.length)) && true) && true) && true) then (bif ((((true && (verEq t1.2.1.length t1.2.1.length)) && true) && true) && true) then (bif (verEq t1.1.length t1.1.length) then (bif (verEq t1.2.1.length t1.2.1.length) then (some (CR.mk true (AVal.tup [(AVal.agg [(i64 t1.2.2.1), (i64 t1.2.2.2.1), (AVal.sc (Value.string t1.2.2.2.2.1)), (i64 t1.2.2.2.2.2.1), (i64 t1.2.2.2.2.2.2.1), (i64 t1.2.2.2.2.2.2.2.1), (i64 t1.2.2.2.2.2.2.2.2.1), (i64 t1.2.2.2.2.2.2.2.2.2.1), (i64 t1.2.2.2.2.2.2.2.2.2.2.1), (i64 t1.2.2.2.2.2.2.2.2.2.2.2), (AVal.ro 5 t1.1), (AVal.ro 3 t1.2.1)]), (bo true)]) [] [])) else none) else none) else none) else none)) else none)) else none)))) (by kernel_rfl)
    (n_bind fun t => (n_condH rfl (fun h0 => rfl) fun h0 => (n_condH rfl (fun h1 => (n_bind fun r => (n_condH rfl (fun h2 => (n_bind fun t1 => (n_true (n_andL (n_andL (n_andL (n_andL rfl (verEq_rfl _)) rfl) rfl) rfl) (n_true (n_andL (n_andL (n_andL (n_andL rfl (verEq_rfl _)) rfl) rfl) rfl) (n_true (verEq_rfl _) (n_true (verEq_rfl _) rfl)))))) fun h2 => n_none))) fun h1 => n_none)))
theorem lib45 : Lib Try.prog GL0 C45 :=
  Lib.fn lib68 mixed TT_ok Try.func45 (by decide +kernel) (by kernel_rfl) false noL (loops_of 0 (by kernel_rfl) below0) ks45 (F := fun us => F_entity_Find (roRows (cIa us 0)) (toI (cIa us 1))) (fun us => rfl) (fun us => run45 (roRows (cIa us 0)) (toI (cIa us 1))) (fun t => rfl)

/-! ### 46: slices.IndexFunc[[]skirmish/api.Player,skirmish/api.Player] -/

noncomputable def W46_0 : Ex → List Bool
  | .ret => [false, false, false, false, true, false, false, false, false, false, false, false, false, false, false, false, false, false, false]
  | .exit n => bif Nat.beq n 0 then [false, false, false, false, false, false, false, false, false, false, false, false, false, false, false, false, false, false, false] else []
  | .normal => []
noncomputable def G_slices_IndexFunc_Player_0 (s1 : List (List AVal)) (f_0_0 : Int) (f_0_1 : Int) (f_0_2 : ByteArray) (f_0_3 : Int) (f_0_4 : Int) (f_0_5 : Int) (f_0_6 : Int) (f_0_7 : Int) (f_0_8 : Int) (f_0_9 : Int) (f_0_10 : List (List AVal)) (f_0_11 : List (List AVal)) (x7 : Int) : Nat → Int → Option (Bool × Int)
  | 0, _ => none
  | m + 1, x8 =>
    bif (decide (x8 < x7)) then
      bif (decide ((0 : Int) ≤ x8)) then
        Option.bind (s1[x8.toNat]?) fun r =>
        bif (chk [(LT.int IntKind.i64), (LT.int IntKind.i64), (LT.int IntKind.i64), (LT.int IntKind.i64), (LT.sl 9 1), LT.bool] r) then
          Option.bind (F_upgrade_Of_1 (cI r 0) (cI r 1) (cI r 2) (cI r 3) (roRows (AVal.ro 1 (cR r 4))) (cB r 5) f_0_0 f_0_1 f_0_2 f_0_3 f_0_4 f_0_5 f_0_6 f_0_7 f_0_8 f_0_9 f_0_10 f_0_11) fun t =>
          bif t then
            some (true, x8)
          else
          G_slices_IndexFunc_Player_0 s1 f_0_0 f_0_1 f_0_2 f_0_3 f_0_4 f_0_5 f_0_6 f_0_7 f_0_8 f_0_9 f_0_10 f_0_11 x7 m (wr (x8 + (1 : Int)))
        else
        none
      else
      none
    else
    some (false, 0)
noncomputable def E46_0 (s1 : List (List AVal)) (f_0_0 : Int) (f_0_1 : Int) (f_0_2 : ByteArray) (f_0_3 : Int) (f_0_4 : Int) (f_0_5 : Int) (f_0_6 : Int) (f_0_7 : Int) (f_0_8 : Int) (f_0_9 : Int) (f_0_10 : List (List AVal)) (f_0_11 : List (List AVal)) (x7 : Int) (x8 : Int) : St := ⟨[(.ro 6 s1), (.clo 47 [(.rptr [(.sc (.int .i64 f_0_0)), (.sc (.int .i64 f_0_1)), (.sc (.string f_0_2)), (.sc (.int .i64 f_0_3)), (.sc (.int .i64 f_0_4)), (.sc (.int .i64 f_0_5)), (.sc (.int .i64 f_0_6)), (.sc (.int .i64 f_0_7)), (.sc (.int .i64 f_0_8)), (.sc (.int .i64 f_0_9)), (.ro 5 f_0_10), (.ro 3 f_0_11)])]), .dead, .dead, .dead, .dead, .dead, (.sc (.int .i64 x7)), (.sc (.int .i64 x8)), .dead, .dead, .dead, .dead, .dead, .dead, .dead, .dead, .dead, .dead], []⟩
noncomputable def X46_0 (k : Ex → St → Option CR) (t : Bool × Int) : Option CR := bif t.1 then k .ret ⟨[.dead, .dead, .dead, .dead, (.sc (.int .i64 t.2)), .dead, .dead, .dead, .dead, .dead, .dead, .dead, .dead, .dead, .dead, .dead, .dead, .dead, .dead], []⟩ else k (.exit 0) ⟨[.dead, .dead, .dead, .dead, .dead, .dead, .dead, .dead, .dead, .dead, .dead, .dead, .dead, .dead, .dead, .dead, .dead, .dead, .dead], []⟩
noncomputable def ks46_0 : List SK := [.f (.ro 6), .f (.clo 47 [[.int .i64, .int .i64, .str, .int .i64, .int .i64, .int .i64, .int .i64, .int .i64, .int .i64, .int .i64, .sl 0 5, .sl 0 3]]), .f .dead, .f .dead, .f .dead, .f .dead, .f .dead, .f (.int .i64), .f (.int .i64), .f .dead, .f .dead, .f .dead, .f .dead, .f .dead, .f .dead, .f .dead, .f .dead, .f .dead, .f .dead]
noncomputable def hs46_0 : List HK := []
noncomputable def Lm46_0 (s : St) (k : Ex → St → Option CR) : Option CR := bif chkS ks46_0 hs46_0 s then (G_slices_IndexFunc_Player_0 (roRows (cIa s.tmps 0)) (toI (cIa (rptrL (cIa (cloL (cIa s.tmps 1)) 0)) 0)) (toI (cIa (rptrL (cIa (cloL (cIa s.tmps 1)) 0)) 1)) (toS (cIa (rptrL (cIa (cloL (cIa s.tmps 1)) 0)) 2)) (toI (cIa (rptrL (cIa (cloL (cIa s.tmps 1)) 0)) 3)) (toI (cIa (rptrL (cIa (cloL (cIa s.tmps 1)) 0)) 4)) (toI (cIa (rptrL (cIa (cloL (cIa s.tmps 1)) 0)) 5)) (toI (cIa (rptrL (cIa (cloL (cIa s.tmps 1)) 0)) 6)) (toI (cIa (rptrL (cIa (cloL (cIa s.tmps 1)) 0)) 7)) (toI (cIa (rptrL (cIa (cloL (cIa s.tmps 1)) 0)) 8)) (toI (cIa (rptrL (cIa (cloL (cIa s.tmps 1)) 0)) 9)) (roRows (cIa (rptrL (cIa (cloL (cIa s.tmps 1)) 0)) 10)) (roRows (cIa (rptrL (cIa (cloL (cIa s.tmps 1)) 0)) 11)) (toI (cIa s.tmps 7)) FU (toI (cIa s.tmps 8))).bind (X46_0 k) else none
noncomputable def L46_0 (s : St) (k : Ex → St → Option CR) : Option CR := Lm46_0 (maskS (maskOf ks46_0) s) k

noncomputable def L46 : LT' := fun i s k => bif Nat.beq i 0 then L46_0 s k else none

/-- 'slices.IndexFunc[[]skirmish/api.Player,skirmish/api.Player]' -/
noncomputable def F_slices_IndexFunc_Player (s1 : List (List AVal)) (f_0_Id : Int) (f_0_Owner : Int) (f_0_Type : ByteArray) (f_0_At_X : Int) (f_0_At_Y : Int) (f_0_Hp : Int) (f_0_Cool : Int) (f_0_Left : Int) (f_0_Ore : Int) (f_0_Wood : Int) (f_0_Orders : List (List AVal)) (f_0_Jobs : List (List AVal)) : Option (Int) :=
  Option.bind (G_slices_IndexFunc_Player_0 s1 f_0_Id f_0_Owner f_0_Type f_0_At_X f_0_At_Y f_0_Hp f_0_Cool f_0_Left f_0_Ore f_0_Wood f_0_Orders f_0_Jobs (Int.ofNat s1.length) FU (0 : Int)) fun t =>
  bif t.1 then
    some t.2
  else
  some (-(1 : Int))
noncomputable def enc46 (t : Int) : CR := ⟨true, (.sc (.int .i64 t)), [], []⟩
noncomputable def ks46 : List SK := [.f (.ro 6), .f (.clo 47 [[.int .i64, .int .i64, .str, .int .i64, .int .i64, .int .i64, .int .i64, .int .i64, .int .i64, .int .i64, .sl 114 5, .sl 117 3]])]
noncomputable def S46 (us : List AVal) : Call := bif chkA ks46 us then Call.of (F_slices_IndexFunc_Player (roRows (cIa us 0)) (toI (cIa (rptrL (cIa (cloL (cIa us 1)) 0)) 0)) (toI (cIa (rptrL (cIa (cloL (cIa us 1)) 0)) 1)) (toS (cIa (rptrL (cIa (cloL (cIa us 1)) 0)) 2)) (toI (cIa (rptrL (cIa (cloL (cIa us 1)) 0)) 3)) (toI (cIa (rptrL (cIa (cloL (cIa us 1)) 0)) 4)) (toI (cIa (rptrL (cIa (cloL (cIa us 1)) 0)) 5)) (toI (cIa (rptrL (cIa (cloL (cIa us 1)) 0)) 6)) (toI (cIa (rptrL (cIa (cloL (cIa us 1)) 0)) 7)) (toI (cIa (rptrL (cIa (cloL (cIa us 1)) 0)) 8)) (toI (cIa (rptrL (cIa (cloL (cIa us 1)) 0)) 9)) (roRows (cIa (rptrL (cIa (cloL (cIa us 1)) 0)) 10)) (roRows (cIa (rptrL (cIa (cloL (cIa us 1)) 0)) 11))) enc46 else Call.none
noncomputable def C46 := AI.ext 46 S46 C45

@[reducible] noncomputable def B46_0 := bodyOf TT TU GL0 C45 ownF L46 (lp Try.f46 0)
@[reducible] noncomputable def K46_0 (k : Ex → St → Option CR) : Ex → St → Option CR := fun e s => k e (maskS (W46_0 e) s)
theorem spec46_0 (k : Ex → St → Option CR) : ∀ (m : Nat) (s1 : List (List AVal)) (f_0_0 : Int) (f_0_1 : Int) (f_0_2 : ByteArray) (f_0_3 : Int) (f_0_4 : Int) (f_0_5 : Int) (f_0_6 : Int) (f_0_7 : Int) (f_0_8 : Int) (f_0_9 : Int) (f_0_10 : List (List AVal)) (f_0_11 : List (List AVal)) (x7 : Int) (x8 : Int), loopN B46_0 m (E46_0 s1 f_0_0 f_0_1 f_0_2 f_0_3 f_0_4 f_0_5 f_0_6 f_0_7 f_0_8 f_0_9 f_0_10 f_0_11 x7 x8) (K46_0 k) = (G_slices_IndexFunc_Player_0 s1 f_0_0 f_0_1 f_0_2 f_0_3 f_0_4 f_0_5 f_0_6 f_0_7 f_0_8 f_0_9 f_0_10 f_0_11 x7 m x8).bind (X46_0 k)
  | 0, _, _, _, _, _, _, _, _, _, _, _, _, _, _, _ => rfl
  | m + 1, s1, f_0_0, f_0_1, f_0_2, f_0_3, f_0_4, f_0_5, f_0_6, f_0_7, f_0_8, f_0_9, f_0_10, f_0_11, x7, x8 =>
    Eq.trans (b := (bif (decide (x8 < x7)) then (bif (decide ((0 : Int) ≤ x8)) then (Option.bind (s1[x8.toNat]?) fun r => (bif (chk [(LT.int IntKind.i64), (LT.int IntKind.i64), (LT.int IntKind.i64), (LT.int IntKind.i64), (LT.sl 9 1), LT.bool] r) then (Option.bind (F_upgrade_Of_1 (cI r 0) (cI r 1) (cI r 2) (cI r 3) (roRows (AVal.ro 1 (cR r 4))) (cB r 5) f_0_0 f_0_1 f_0_2 f_0_3 f_0_4 f_0_5 f_0_6 f_0_7 f_0_8 f_0_9 f_0_10 f_0_11) fun t => (bif t then (k .ret ⟨[.dead, .dead, .dead, .dead, (i64 x8), .dead, .dead, .dead, .dead, .dead, .dead, .dead, .dead, .dead, .dead, .dead, .dead, .dead, .dead], []⟩) else (loopN B46_0 m ⟨[(AVal.ro 6 s1), (AVal.clo 47 [(AVal.rptr [(i64 f_0_0), (i64 f_0_1), (AVal.sc (Value.string f_0_2)), (i64 f_0_3), (i64 f_0_4), (i64 f_0_5), (i64 f_0_6), (i64 f_0_7), (i64 f_0_8), (i64 f_0_9), (AVal.ro 5 f_0_10), (AVal.ro 3 f_0_11)])]), .dead, .dead, .dead, .dead, .dead, (i64 x7), (i64 (wr (x8 + (1 : Int)))), .dead, .dead, .dead, .dead, .dead, .dead, .dead, .dead, .dead, .dead], []⟩ (K46_0 k)))) else none)) else none) else (k (.exit 0) ⟨[.dead, .dead, .dead, .dead, .dead, .dead, .dead, .dead, .dead, .dead, .dead, .dead, .dead, .dead, .dead, .dead, .dead, .dead, .dead], []⟩))) (by kernel_rfl)
      (n_condH rfl (fun h0 => (n_condH rfl (fun h1 => (n_bind fun r => (n_condH rfl (fun h2 => (n_bind fun t => (n_condH rfl (fun h3 => rfl) fun h3 => (spec46_0 k m s1 f_0_0 f_0_1 f_0_2 f_0_3 f_0_4 f_0_5 f_0_6 f_0_7 f_0_8 f_0_9 f_0_10 f_0_11 x7 (wr (x8 + (1 : Int))))))) fun h2 => n_none))) fun h1 => n_none)) fun h0 => rfl)
theorem okL46_0 : LoopOk TT TU GL0 C45 ownF L46 (lp Try.f46 0) :=
  loopOk_of ks46_0 hs46_0 W46_0 FU (fun s k => (G_slices_IndexFunc_Player_0 (roRows (cIa s.tmps 0)) (toI (cIa (rptrL (cIa (cloL (cIa s.tmps 1)) 0)) 0)) (toI (cIa (rptrL (cIa (cloL (cIa s.tmps 1)) 0)) 1)) (toS (cIa (rptrL (cIa (cloL (cIa s.tmps 1)) 0)) 2)) (toI (cIa (rptrL (cIa (cloL (cIa s.tmps 1)) 0)) 3)) (toI (cIa (rptrL (cIa (cloL (cIa s.tmps 1)) 0)) 4)) (toI (cIa (rptrL (cIa (cloL (cIa s.tmps 1)) 0)) 5)) (toI (cIa (rptrL (cIa (cloL (cIa s.tmps 1)) 0)) 6)) (toI (cIa (rptrL (cIa (cloL (cIa s.tmps 1)) 0)) 7)) (toI (cIa (rptrL (cIa (cloL (cIa s.tmps 1)) 0)) 8)) (toI (cIa (rptrL (cIa (cloL (cIa s.tmps 1)) 0)) 9)) (roRows (cIa (rptrL (cIa (cloL (cIa s.tmps 1)) 0)) 10)) (roRows (cIa (rptrL (cIa (cloL (cIa s.tmps 1)) 0)) 11)) (toI (cIa s.tmps 7)) FU (toI (cIa s.tmps 8))).bind (X46_0 k)) (fun s k => by kernel_rfl) (fun s k => spec46_0 k FU (roRows (cIa s.tmps 0)) (toI (cIa (rptrL (cIa (cloL (cIa s.tmps 1)) 0)) 0)) (toI (cIa (rptrL (cIa (cloL (cIa s.tmps 1)) 0)) 1)) (toS (cIa (rptrL (cIa (cloL (cIa s.tmps 1)) 0)) 2)) (toI (cIa (rptrL (cIa (cloL (cIa s.tmps 1)) 0)) 3)) (toI (cIa (rptrL (cIa (cloL (cIa s.tmps 1)) 0)) 4)) (toI (cIa (rptrL (cIa (cloL (cIa s.tmps 1)) 0)) 5)) (toI (cIa (rptrL (cIa (cloL (cIa s.tmps 1)) 0)) 6)) (toI (cIa (rptrL (cIa (cloL (cIa s.tmps 1)) 0)) 7)) (toI (cIa (rptrL (cIa (cloL (cIa s.tmps 1)) 0)) 8)) (toI (cIa (rptrL (cIa (cloL (cIa s.tmps 1)) 0)) 9)) (roRows (cIa (rptrL (cIa (cloL (cIa s.tmps 1)) 0)) 10)) (roRows (cIa (rptrL (cIa (cloL (cIa s.tmps 1)) 0)) 11)) (toI (cIa s.tmps 7)) (toI (cIa s.tmps 8)))
theorem run46 (s1 : List (List AVal)) (f_0_Id : Int) (f_0_Owner : Int) (f_0_Type : ByteArray) (f_0_At_X : Int) (f_0_At_Y : Int) (f_0_Hp : Int) (f_0_Cool : Int) (f_0_Left : Int) (f_0_Ore : Int) (f_0_Wood : Int) (f_0_Orders : List (List AVal)) (f_0_Jobs : List (List AVal)) : fcall TT TU GL0 C45 ownF true L46 Try.f46 [(.ro 6 s1), (.clo 47 [(.rptr [(.sc (.int .i64 f_0_Id)), (.sc (.int .i64 f_0_Owner)), (.sc (.string f_0_Type)), (.sc (.int .i64 f_0_At_X)), (.sc (.int .i64 f_0_At_Y)), (.sc (.int .i64 f_0_Hp)), (.sc (.int .i64 f_0_Cool)), (.sc (.int .i64 f_0_Left)), (.sc (.int .i64 f_0_Ore)), (.sc (.int .i64 f_0_Wood)), (.ro 5 f_0_Orders), (.ro 3 f_0_Jobs)])])] = (F_slices_IndexFunc_Player s1 f_0_Id f_0_Owner f_0_Type f_0_At_X f_0_At_Y f_0_Hp f_0_Cool f_0_Left f_0_Ore f_0_Wood f_0_Orders f_0_Jobs).bind fun t => some (enc46 t) :=
  Eq.trans (b := (Option.bind (G_slices_IndexFunc_Player_0 s1 f_0_Id f_0_Owner f_0_Type f_0_At_X f_0_At_Y f_0_Hp f_0_Cool f_0_Left f_0_Ore f_0_Wood f_0_Orders f_0_Jobs (Int.ofNat s1.length) FU (0 : Int)) fun t => (bif t.1 then (some (CR.mk true (i64 t.2) [] [])) else (some (CR.mk true (i64 (-(1 : Int))) [] []))))) (by kernel_rfl)
    (n_bind fun t => (n_condH rfl (fun h0 => rfl) fun h0 => rfl))
theorem lib46 : Lib Try.prog GL0 C46 :=
  Lib.fn lib45 mixed TT_ok Try.func46 (by decide +kernel) (by kernel_rfl) true L46 (loops_of 1 (by kernel_rfl) (belowS below0 okL46_0)) ks46 (F := fun us => F_slices_IndexFunc_Player (roRows (cIa us 0)) (toI (cIa (rptrL (cIa (cloL (cIa us 1)) 0)) 0)) (toI (cIa (rptrL (cIa (cloL (cIa us 1)) 0)) 1)) (toS (cIa (rptrL (cIa (cloL (cIa us 1)) 0)) 2)) (toI (cIa (rptrL (cIa (cloL (cIa us 1)) 0)) 3)) (toI (cIa (rptrL (cIa (cloL (cIa us 1)) 0)) 4)) (toI (cIa (rptrL (cIa (cloL (cIa us 1)) 0)) 5)) (toI (cIa (rptrL (cIa (cloL (cIa us 1)) 0)) 6)) (toI (cIa (rptrL (cIa (cloL (cIa us 1)) 0)) 7)) (toI (cIa (rptrL (cIa (cloL (cIa us 1)) 0)) 8)) (toI (cIa (rptrL (cIa (cloL (cIa us 1)) 0)) 9)) (roRows (cIa (rptrL (cIa (cloL (cIa us 1)) 0)) 10)) (roRows (cIa (rptrL (cIa (cloL (cIa us 1)) 0)) 11))) (fun us => rfl) (fun us => run46 (roRows (cIa us 0)) (toI (cIa (rptrL (cIa (cloL (cIa us 1)) 0)) 0)) (toI (cIa (rptrL (cIa (cloL (cIa us 1)) 0)) 1)) (toS (cIa (rptrL (cIa (cloL (cIa us 1)) 0)) 2)) (toI (cIa (rptrL (cIa (cloL (cIa us 1)) 0)) 3)) (toI (cIa (rptrL (cIa (cloL (cIa us 1)) 0)) 4)) (toI (cIa (rptrL (cIa (cloL (cIa us 1)) 0)) 5)) (toI (cIa (rptrL (cIa (cloL (cIa us 1)) 0)) 6)) (toI (cIa (rptrL (cIa (cloL (cIa us 1)) 0)) 7)) (toI (cIa (rptrL (cIa (cloL (cIa us 1)) 0)) 8)) (toI (cIa (rptrL (cIa (cloL (cIa us 1)) 0)) 9)) (roRows (cIa (rptrL (cIa (cloL (cIa us 1)) 0)) 10)) (roRows (cIa (rptrL (cIa (cloL (cIa us 1)) 0)) 11))) (fun t => rfl)

/-! ### 24: skirmish/upgrade.Of -/



/-- 'skirmish/upgrade.Of' -/
noncomputable def F_upgrade_Of (g_Turn : Int) (g_NextId : Int) (g_Winner : Int) (g_Paused : Bool) (g_Rng : Int) (g_Rules_Units : List (List AVal)) (g_Rules_Weapons : List (List AVal)) (g_Rules_Techs : List (List AVal)) (g_Map_W : Int) (g_Map_H : Int) (g_Map_Cells : List (List AVal)) (g_Players : List (List AVal)) (g_Units : List (List AVal)) (g_Shots : List (List AVal)) (g_Memories : List (List AVal)) (g_Scripts : List (List AVal)) (id : Int) : Option (List (List AVal) × List (List AVal) × List (List AVal) × ByteArray × Bool × Bool × Int × Int × Int × Int × Int × Int × Int × Int × Int × ByteArray × Int × Int × Int × Bool) :=
  Option.bind (F_entity_Find g_Units id) fun t =>
  bif (!t.2.2.2.2.2.2.2.2.2.2.2.2) then
    some ([], [], [], (ByteArray.mk (Array.mk [])), false, false, (0 : Int), (0 : Int), (0 : Int), (0 : Int), (0 : Int), (0 : Int), (0 : Int), (0 : Int), (0 : Int), (ByteArray.mk (Array.mk [])), (0 : Int), (0 : Int), (0 : Int), false)
  else
  Option.bind (F_slices_IndexFunc_Player g_Players t.1 t.2.1 t.2.2.1 t.2.2.2.1 t.2.2.2.2.1 t.2.2.2.2.2.1 t.2.2.2.2.2.2.1 t.2.2.2.2.2.2.2.1 t.2.2.2.2.2.2.2.2.1 t.2.2.2.2.2.2.2.2.2.1 t.2.2.2.2.2.2.2.2.2.2.1 t.2.2.2.2.2.2.2.2.2.2.2.1) fun t1 =>
  bif (decide (t1 ≥ (0 : Int))) then
    bif (decide ((0 : Int) ≤ t1)) then
      Option.bind (g_Players[t1.toNat]?) fun r =>
      bif (chk [(LT.int IntKind.i64), (LT.int IntKind.i64), (LT.int IntKind.i64), (LT.int IntKind.i64), (LT.sl 9 1), LT.bool] r) then
        Option.bind (F_upgrade_Type g_Rules_Units g_Rules_Weapons g_Rules_Techs (roRows (AVal.ro 1 (cR r 4))) t.2.2.1) fun t2 =>
        some (t2.1, t2.2.1, t2.2.2.1, t2.2.2.2.1, t2.2.2.2.2.1, t2.2.2.2.2.2.1, t2.2.2.2.2.2.2.1, t2.2.2.2.2.2.2.2.1, t2.2.2.2.2.2.2.2.2.1, t2.2.2.2.2.2.2.2.2.2.1, t2.2.2.2.2.2.2.2.2.2.2.1, t2.2.2.2.2.2.2.2.2.2.2.2.1, t2.2.2.2.2.2.2.2.2.2.2.2.2.1, t2.2.2.2.2.2.2.2.2.2.2.2.2.2.1, t2.2.2.2.2.2.2.2.2.2.2.2.2.2.2.1, t2.2.2.2.2.2.2.2.2.2.2.2.2.2.2.2.1, t2.2.2.2.2.2.2.2.2.2.2.2.2.2.2.2.2.1, t2.2.2.2.2.2.2.2.2.2.2.2.2.2.2.2.2.2.1, t2.2.2.2.2.2.2.2.2.2.2.2.2.2.2.2.2.2.2.1, t2.2.2.2.2.2.2.2.2.2.2.2.2.2.2.2.2.2.2.2)
      else
      none
    else
    none
  else
  Option.bind (F_upgrade_Type g_Rules_Units g_Rules_Weapons g_Rules_Techs [] t.2.2.1) fun t3 =>
  some (t3.1, t3.2.1, t3.2.2.1, t3.2.2.2.1, t3.2.2.2.2.1, t3.2.2.2.2.2.1, t3.2.2.2.2.2.2.1, t3.2.2.2.2.2.2.2.1, t3.2.2.2.2.2.2.2.2.1, t3.2.2.2.2.2.2.2.2.2.1, t3.2.2.2.2.2.2.2.2.2.2.1, t3.2.2.2.2.2.2.2.2.2.2.2.1, t3.2.2.2.2.2.2.2.2.2.2.2.2.1, t3.2.2.2.2.2.2.2.2.2.2.2.2.2.1, t3.2.2.2.2.2.2.2.2.2.2.2.2.2.2.1, t3.2.2.2.2.2.2.2.2.2.2.2.2.2.2.2.1, t3.2.2.2.2.2.2.2.2.2.2.2.2.2.2.2.2.1, t3.2.2.2.2.2.2.2.2.2.2.2.2.2.2.2.2.2.1, t3.2.2.2.2.2.2.2.2.2.2.2.2.2.2.2.2.2.2.1, t3.2.2.2.2.2.2.2.2.2.2.2.2.2.2.2.2.2.2.2)
noncomputable def enc24 (t : List (List AVal) × List (List AVal) × List (List AVal) × ByteArray × Bool × Bool × Int × Int × Int × Int × Int × Int × Int × Int × Int × ByteArray × Int × Int × Int × Bool) : CR := ⟨true, (.tup [(.agg [(.sc (.string t.2.2.2.1)), (.sc (.bool t.2.2.2.2.1)), (.sc (.bool t.2.2.2.2.2.1)), (.sc (.int .i64 t.2.2.2.2.2.2.1)), (.sc (.int .i64 t.2.2.2.2.2.2.2.1)), (.sc (.int .i64 t.2.2.2.2.2.2.2.2.1)), (.sc (.int .i64 t.2.2.2.2.2.2.2.2.2.1)), (.sc (.int .i64 t.2.2.2.2.2.2.2.2.2.2.1)), (.sc (.int .i64 t.2.2.2.2.2.2.2.2.2.2.2.1)), (.sc (.int .i64 t.2.2.2.2.2.2.2.2.2.2.2.2.1)), (.sc (.int .i64 t.2.2.2.2.2.2.2.2.2.2.2.2.2.1)), (.sc (.int .i64 t.2.2.2.2.2.2.2.2.2.2.2.2.2.2.1)), (.sc (.string t.2.2.2.2.2.2.2.2.2.2.2.2.2.2.2.1)), (.sc (.int .i64 t.2.2.2.2.2.2.2.2.2.2.2.2.2.2.2.2.1)), (.sc (.int .i64 t.2.2.2.2.2.2.2.2.2.2.2.2.2.2.2.2.2.1)), (.sc (.int .i64 t.2.2.2.2.2.2.2.2.2.2.2.2.2.2.2.2.2.2.1)), (.slc 0 (t.1).length), (.slc 1 (t.2.1).length), (.slc 2 (t.2.2.1).length)]), (.sc (.bool t.2.2.2.2.2.2.2.2.2.2.2.2.2.2.2.2.2.2.2))]), [], [⟨.arr, 9, 1, t.1⟩, ⟨.arr, 9, 1, t.2.1⟩, ⟨.arr, 9, 1, t.2.2.1⟩]⟩
noncomputable def ks24 : List SK := [.agg [.int .i64, .int .i64, .int .i64, .bool, .int .u64, .ro 19, .ro 6, .ro 8, .int .i64, .int .i64, .ro 3, .ro 6, .ro 12, .ro 9, .ro 3, .ro 4], .f (.int .i64)]
noncomputable def S24 (us : List AVal) : Call := bif chkA ks24 us then Call.of (F_upgrade_Of (toI (cIa (aggL (cIa us 0)) 0)) (toI (cIa (aggL (cIa us 0)) 1)) (toI (cIa (aggL (cIa us 0)) 2)) (toB (cIa (aggL (cIa us 0)) 3)) (toI (cIa (aggL (cIa us 0)) 4)) (roRows (cIa (aggL (cIa us 0)) 5)) (roRows (cIa (aggL (cIa us 0)) 6)) (roRows (cIa (aggL (cIa us 0)) 7)) (toI (cIa (aggL (cIa us 0)) 8)) (toI (cIa (aggL (cIa us 0)) 9)) (roRows (cIa (aggL (cIa us 0)) 10)) (roRows (cIa (aggL (cIa us 0)) 11)) (roRows (cIa (aggL (cIa us 0)) 12)) (roRows (cIa (aggL (cIa us 0)) 13)) (roRows (cIa (aggL (cIa us 0)) 14)) (roRows (cIa (aggL (cIa us 0)) 15)) (toI (cIa us 1))) enc24 else Call.none
noncomputable def C24 := AI.ext 24 S24 C46

theorem run24 (g_Turn : Int) (g_NextId : Int) (g_Winner : Int) (g_Paused : Bool) (g_Rng : Int) (g_Rules_Units : List (List AVal)) (g_Rules_Weapons : List (List AVal)) (g_Rules_Techs : List (List AVal)) (g_Map_W : Int) (g_Map_H : Int) (g_Map_Cells : List (List AVal)) (g_Players : List (List AVal)) (g_Units : List (List AVal)) (g_Shots : List (List AVal)) (g_Memories : List (List AVal)) (g_Scripts : List (List AVal)) (id : Int) : fcall TT TU GL0 C46 ownRo true noL Try.f24 [(.agg [(.sc (.int .i64 g_Turn)), (.sc (.int .i64 g_NextId)), (.sc (.int .i64 g_Winner)), (.sc (.bool g_Paused)), (.sc (.int .u64 g_Rng)), (.ro 19 g_Rules_Units), (.ro 6 g_Rules_Weapons), (.ro 8 g_Rules_Techs), (.sc (.int .i64 g_Map_W)), (.sc (.int .i64 g_Map_H)), (.ro 3 g_Map_Cells), (.ro 6 g_Players), (.ro 12 g_Units), (.ro 9 g_Shots), (.ro 3 g_Memories), (.ro 4 g_Scripts)]), (.sc (.int .i64 id))] = (F_upgrade_Of g_Turn g_NextId g_Winner g_Paused g_Rng g_Rules_Units g_Rules_Weapons g_Rules_Techs g_Map_W g_Map_H g_Map_Cells g_Players g_Units g_Shots g_Memories g_Scripts id).bind fun t => some (enc24 t) :=
  Eq.trans (b := (Option.bind (F_entity_Find g_Units id) fun t => (bif (!t.2.2.2.2.2.2.2.2.2.2.2.2) then (some (CR.mk true (AVal.tup [(AVal.agg [(AVal.sc (Value.string (ByteArray.mk (Array.mk [])))), (bo false), (bo false), (i64 (0 : Int)), (i64 (0 : Int)), (i64 (0 : Int)), (i64 (0 : Int)), (i64 (0 : Int)), (i64 (0 : Int)), (i64 (0 : Int)), (i64 (0 : Int)), (i64 (0 : Int)), (AVal.sc (Value.string (ByteArray.mk (Array.mk [])))), (i64 (0 : Int)), (i64 (0 : Int)), (i64 (0 : Int)), (AVal.slc 0 0), (AVal.slc 1 0), (AVal.slc 2 0)]), (bo false)]) [] [(Blk.mk BKind.arr 9 1 []), (Blk.mk BKind.arr 9 1 []), (Blk.mk BKind.arr 9 1 [])])) else (Option.bind (F_slices_IndexFunc_Player g_Players t.1 t.2.1 t.2.2.1 t.2.2.2.1 t.2.2.2.2.1 t.2.2.2.2.2.1 t.2.2.2.2.2.2.1 t.2.2.2.2.2.2.2.1 t.2.2.2.2.2.2.2.2.1 t.2.2.2.2.2.2.2.2.2.1 t.2.2.2.2.2.2.2.2.2.2.1 t.2.2.2.2.2.2.2.2.2.2.2.1) fun t1 => (bif (decide (t1 ≥ (0 : Int))) then (bif (decide ((0 : Int) ≤ t1)) then (Option.bind (g_Players[t1.toNat]?) fun r => (bif (chk [(LT.int IntKind.i64), (LT.int IntKind.i64), (LT.int IntKind.i64), (LT.int IntKind.i64), (LT.sl 9 1), LT.bool] r) then (Option.bind (F_upgrade_Type g_Rules_Units g_Rules_Weapons g_Rules_Techs (roRows (AVal.ro 1 (cR r 4))) t.2.2.1) fun t2 => (bif ((((true && (verEq t2.1.length t2.1.length)) && true) && true) && true) then (bif ((((true && (verEq t2.2.1.length t2.2.1.length)) && true) && true) && true) then (bif ((((true && (verEq t2.2.2.1.length t2.2.2.1.length)) && true) && true) && true) then (bif (verEq t2.1.length t2.1.length) then (bif (verEq t2.2.1.length t2.2.1.length) then (bif (verEq t2.2.2.1.length t2.2.2.1.length) then (some (CR.mk true (AVal.tup [(AVal.agg [(AVal.sc (Value.string t2.2.2.2.1)), (bo t2.2.2.2.2.1), (bo t2.2.2.2.2.2.1), (i64 t2.2.2.2.2.2.2.1), (i64 t2.2.2.2.2.2.2.2.1), (i64 t2.2.2.2.2.2.2.2.2.1), (i64 t2.2.2.2.2.2.2.2.2.2.1), (i64 t2.2.2.2.2.2.2.2.2.2.2.1), (i64 t2.2.2.2.2.2.2.2.2.2.2.2.1), (i64 t2.2.2.2.2.2.2.2.2.2.2.2.2.1), (i64 t2.2.2.2.2.2.2.2.2.2.2.2.2.2.1), (i64 t2.2.2.2.2.2.2.2.2.2.2.2.2.2.2.1), (AVal.sc (Value.string t2.2.2.2.2.2.2.2.2.2.2.2.2.2.2.2.1)), (i64 t2.2.2.2.2.2.2.2.2.2.2.2.2.2.2.2.2.1), (i64 t2.2.2.2.2.2.2.2.2.2.2.2.2.2.2.2.2.2.1), (i64 t2.2.2.2.2.2.2.2.2.2.2.2.2.2.2.2.2.2.2.1), (AVal.slc 0 t2.1.length), (AVal.slc 1 t2.2.1.length), (AVal.slc 2 t2.2.2.1.length)]), (bo t2.2.2.2.2.2.2.2.2.2.2.2.2.2.2.2.2.2.2.2)]) [] [(Blk.mk BKind.arr 9 1 t2.1), (Blk.mk BKind.arr 9 1 t2.2.1), (Blk.mk BKind.arr 9 1 t2.2.2.1)])) else none) else none) else none) else none) else none) else none)) else none)) else none) else (Option.bind (F_upgrade_Type g_Rules_Units g_Rules_Weapons g_Rules_Techs [] t.2.2.1) fun t3 => (bif ((((true && (verEq t3.1.length t3.1.length)) && true) && true) && true) then (bif ((((true && (verEq t3.2.1.length t3.2.1.length)) && true) && true) && true) then (bif ((((true && (verEq t3.2.2.1.length t3.2.2.1.length)) && true) && true) && true) then (bif (verEq t3.1.length t3.1.length) then (bif (verEq t3.2.1.length t3.2.1.length) then (bif (verEq t3.2.2.1.length t3.2.2.1.length) then (some (CR.mk true (AVal.tup [(AVal.agg [(AVal.sc (Value.string t3.2.2.2.1)), (bo t3.2.2.2.2.1), (bo t3.2.2.2.2.2.1), (i64 t3.2.2.2.2.2.2.1), (i64 t3.2.2.2.2.2.2.2.1), (i64 t3.2.2.2.2.2.2.2.2.1), (i64 t3.2.2.2.2.2.2.2.2.2.1), (i64 t3.2.2.2.2.2.2.2.2.2.2.1), (i64 t3.2.2.2.2.2.2.2.2.2.2.2.1), (i64 t3.2.2.2.2.2.2.2.2.2.2.2.2.1), (i64 t3.2.2.2.2.2.2.2.2.2.2.2.2.2.1), (i64 t3.2.2.2.2.2.2.2.2.2.2.2.2.2.2.1), (AVal.sc (Value.string t3.2.2.2.2.2.2.2.2.2.2.2.2.2.2.2.1)), (i64 t3.2.2.2.2.2.2.2.2.2.2.2.2.2.2.2.2.1), (i64 t3.2.2.2.2.2.2.2.2.2.2.2.2.2.2.2.2.2.1), (i64 t3.2.2.2.2.2.2.2.2.2.2.2.2.2.2.2.2.2.2.1), (AVal.slc 0 t3.1.length), (AVal.slc 1 t3.2.1.length), (AVal.slc 2 t3.2.2.1.length)]), (bo t3.2.2.2.2.2.2.2.2.2.2.2.2.2.2.2.2.2.2.2)]) [] [(Blk.mk BKind.arr 9 1 t3.1), (Blk.mk BKind.arr 9 1 t3.2.1), (Blk.mk BKind.arr 9 1 t3.2.2.1)])) else none) else none) else none) else none) else none) else none))))))) (by kernel_rfl)
    (n_bind fun t => (n_condH rfl (fun h0 => rfl) fun h0 => (n_bind fun t1 => (n_condH rfl (fun h1 => (n_condH rfl (fun h2 => (n_bind fun r => (n_condH rfl (fun h3 => (n_bind fun t2 => (n_true (n_andL (n_andL (n_andL (n_andL rfl (verEq_rfl _)) rfl) rfl) rfl) (n_true (n_andL (n_andL (n_andL (n_andL rfl (verEq_rfl _)) rfl) rfl) rfl) (n_true (n_andL (n_andL (n_andL (n_andL rfl (verEq_rfl _)) rfl) rfl) rfl) (n_true (verEq_rfl _) (n_true (verEq_rfl _) (n_true (verEq_rfl _) rfl)))))))) fun h3 => n_none))) fun h2 => n_none)) fun h1 => (n_bind fun t3 => (n_true (n_andL (n_andL (n_andL (n_andL rfl (verEq_rfl _)) rfl) rfl) rfl) (n_true (n_andL (n_andL (n_andL (n_andL rfl (verEq_rfl _)) rfl) rfl) rfl) (n_true (n_andL (n_andL (n_andL (n_andL rfl (verEq_rfl _)) rfl) rfl) rfl) (n_true (verEq_rfl _) (n_true (verEq_rfl _) (n_true (verEq_rfl _) rfl)))))))))))
theorem lib24 : Lib Try.prog GL0 C24 :=
  Lib.fn lib46 mixed TT_ok Try.func24 (by decide +kernel) (by kernel_rfl) true noL (loops_of 0 (by kernel_rfl) below0) ks24 (F := fun us => F_upgrade_Of (toI (cIa (aggL (cIa us 0)) 0)) (toI (cIa (aggL (cIa us 0)) 1)) (toI (cIa (aggL (cIa us 0)) 2)) (toB (cIa (aggL (cIa us 0)) 3)) (toI (cIa (aggL (cIa us 0)) 4)) (roRows (cIa (aggL (cIa us 0)) 5)) (roRows (cIa (aggL (cIa us 0)) 6)) (roRows (cIa (aggL (cIa us 0)) 7)) (toI (cIa (aggL (cIa us 0)) 8)) (toI (cIa (aggL (cIa us 0)) 9)) (roRows (cIa (aggL (cIa us 0)) 10)) (roRows (cIa (aggL (cIa us 0)) 11)) (roRows (cIa (aggL (cIa us 0)) 12)) (roRows (cIa (aggL (cIa us 0)) 13)) (roRows (cIa (aggL (cIa us 0)) 14)) (roRows (cIa (aggL (cIa us 0)) 15)) (toI (cIa us 1))) (fun us => rfl) (fun us => run24 (toI (cIa (aggL (cIa us 0)) 0)) (toI (cIa (aggL (cIa us 0)) 1)) (toI (cIa (aggL (cIa us 0)) 2)) (toB (cIa (aggL (cIa us 0)) 3)) (toI (cIa (aggL (cIa us 0)) 4)) (roRows (cIa (aggL (cIa us 0)) 5)) (roRows (cIa (aggL (cIa us 0)) 6)) (roRows (cIa (aggL (cIa us 0)) 7)) (toI (cIa (aggL (cIa us 0)) 8)) (toI (cIa (aggL (cIa us 0)) 9)) (roRows (cIa (aggL (cIa us 0)) 10)) (roRows (cIa (aggL (cIa us 0)) 11)) (roRows (cIa (aggL (cIa us 0)) 12)) (roRows (cIa (aggL (cIa us 0)) 13)) (roRows (cIa (aggL (cIa us 0)) 14)) (roRows (cIa (aggL (cIa us 0)) 15)) (toI (cIa us 1))) (fun t => rfl)

/-! ### 11: skirmish/skirmishlaw22.awake -/



/-- 'skirmish/skirmishlaw22.awake' -/
noncomputable def F_skirmishlaw22_awake : Option (Bool) :=
  Option.bind F_skirmishlaw22_some fun t =>
  Option.bind (F_upgrade_Type t.1 t.2.1 t.2.2 [[(AVal.sc (Value.string (ByteArray.mk (Array.mk [101, 121, 101, 115]))))]] (ByteArray.mk (Array.mk [97, 114, 99, 104, 101, 114]))) fun t1 =>
  Option.bind (F_upgrade_Type t.1 t.2.1 t.2.2 [[(AVal.sc (Value.string (ByteArray.mk (Array.mk [102, 97, 114]))))]] (ByteArray.mk (Array.mk [97, 114, 99, 104, 101, 114]))) fun t2 =>
  Option.bind (F_upgrade_Weapon t.1 t.2.1 t.2.2 [[(AVal.sc (Value.string (ByteArray.mk (Array.mk [108, 111, 110, 103, 98, 111, 119]))))]] (ByteArray.mk (Array.mk [97, 114, 99, 104, 101, 114]))) fun t3 =>
  Option.bind (F_upgrade_Type t.1 t.2.1 t.2.2 [] (ByteArray.mk (Array.mk [107, 110, 105, 103, 104, 116]))) fun t4 =>
  Option.bind (F_upgrade_Of (0 : Int) (0 : Int) (0 : Int) false (0 : Int) t.1 t.2.1 t.2.2 (0 : Int) (0 : Int) [] [[(i64 (2 : Int)), (i64 (0 : Int)), (i64 (0 : Int)), (i64 (0 : Int)), (AVal.ro 1 [[(AVal.sc (Value.string (ByteArray.mk (Array.mk [101, 121, 101, 115]))))]]), (bo false)]] [[(i64 (5 : Int)), (i64 (2 : Int)), (AVal.sc (Value.string (ByteArray.mk (Array.mk [97, 114, 99, 104, 101, 114])))), (i64 (0 : Int)), (i64 (0 : Int)), (i64 (0 : Int)), (i64 (0 : Int)), (i64 (0 : Int)), (i64 (0 : Int)), (i64 (0 : Int)), (AVal.ro 0 []), (AVal.ro 0 [])]] [] [] [] (5 : Int)) fun t5 =>
  Option.bind (F_upgrade_Stat t.1 t.2.1 t.2.2 [[(AVal.sc (Value.string (ByteArray.mk (Array.mk [101, 121, 101, 115]))))], [(AVal.sc (Value.string (ByteArray.mk (Array.mk [109, 97, 105, 108]))))]] (ByteArray.mk (Array.mk [97, 114, 99, 104, 101, 114])) (4 : Int)) fun t6 =>
  bif (t6 == (2 : Int)) then
    Option.bind (F_upgrade_Stat t.1 t.2.1 t.2.2 [[(AVal.sc (Value.string (ByteArray.mk (Array.mk [101, 121, 101, 115]))))], [(AVal.sc (Value.string (ByteArray.mk (Array.mk [109, 97, 105, 108]))))]] (ByteArray.mk (Array.mk [97, 114, 99, 104, 101, 114])) (2 : Int)) fun t7 =>
    bif (t7 == (0 : Int)) then
      bif (t1.2.2.2.2.2.2.2.2.2.2.2.1 == (9 : Int)) then
        bif (t1.2.2.2.2.2.2.2.2.2.2.2.2.1 == (40 : Int)) then
          bif t1.2.2.2.2.2.2.2.2.2.2.2.2.2.2.2.2.2.2.2 then
            bif (t2.2.2.2.2.2.2.2.2.2.2.2.1 == (16 : Int)) then
              bif t2.2.2.2.2.2.2.2.2.2.2.2.2.2.2.2.2.2.2.2 then
                bif (t3.2.1 == (1024 : Int)) then
                  bif (t3.2.2.1 == (6 : Int)) then
                    bif t3.2.2.2.2.2.2 then
                      bif (!t4.2.2.2.2.2.2.2.2.2.2.2.2.2.2.2.2.2.2.2) then
                        bif (t5.2.2.2.2.2.2.2.2.2.2.2.1 == (9 : Int)) then
                          some t5.2.2.2.2.2.2.2.2.2.2.2.2.2.2.2.2.2.2.2
                        else
                        some false
                      else
                      some false
                    else
                    some false
                  else
                  some false
                else
                some false
              else
              some false
            else
            some false
          else
          some false
        else
        some false
      else
      some false
    else
    some false
  else
  some false
noncomputable def enc11 (t : Bool) : CR := ⟨true, (.sc (.bool t)), [], []⟩
noncomputable def ks11 : List SK := []
noncomputable def S11 (us : List AVal) : Call := bif chkA ks11 us then Call.of (F_skirmishlaw22_awake) enc11 else Call.none
noncomputable def C11 := AI.ext 11 S11 C24

theorem run11 : fcall TT TU GL0 C24 ownF true noL Try.f11 [] = (F_skirmishlaw22_awake).bind fun t => some (enc11 t) :=
  Eq.trans (b := (Option.bind F_skirmishlaw22_some fun t => (bif ((((true && (verEq t.1.length t.1.length)) && true) && true) && true) then (bif ((((true && (verEq t.2.1.length t.2.1.length)) && true) && true) && true) then (bif ((((true && (verEq t.2.2.length t.2.2.length)) && true) && true) && true) then (bif (verEq t.1.length t.1.length) then (bif (verEq t.2.1.length t.2.1.length) then (bif (verEq t.2.2.length t.2.2.length) then (Option.bind (F_upgrade_Type t.1 t.2.1 t.2.2 [[(AVal.sc (Value.string (ByteArray.mk (Array.mk [101, 121, 101, 115]))))]] (ByteArray.mk (Array.mk [97, 114, 99, 104, 101, 114]))) fun t1 => (bif ((((true && (verEq t1.1.length t1.1.length)) && true) && true) && true) then (bif ((((true && (verEq t1.2.1.length t1.2.1.length)) && true) && true) && true) then (bif ((((true && (verEq t1.2.2.1.length t1.2.2.1.length)) && true) && true) && true) then (bif (verEq t.1.length t.1.length) then (bif (verEq t.2.1.length t.2.1.length) then (bif (verEq t.2.2.length t.2.2.length) then (Option.bind (F_upgrade_Type t.1 t.2.1 t.2.2 [[(AVal.sc (Value.string (ByteArray.mk (Array.mk [102, 97, 114]))))]] (ByteArray.mk (Array.mk [97, 114, 99, 104, 101, 114]))) fun t2 => (bif ((((true && (verEq t2.1.length t2.1.length)) && true) && true) && true) then (bif ((((true && (verEq t2.2.1.length t2.2.1.length)) && true) && true) && true) then (bif ((((true && (verEq t2.2.2.1.length t2.2.2.1.length)) && true) && true) && true) then (bif (verEq t.1.length t.1.length) then (bif (verEq t.2.1.length t.2.1.length) then (bif (verEq t.2.2.length t.2.2.length) then (Option.bind (F_upgrade_Weapon t.1 t.2.1 t.2.2 [[(AVal.sc (Value.string (ByteArray.mk (Array.mk [108, 111, 110, 103, 98, 111, 119]))))]] (ByteArray.mk (Array.mk [97, 114, 99, 104, 101, 114]))) fun t3 => (bif (verEq t.1.length t.1.length) then (bif (verEq t.2.1.length t.2.1.length) then (bif (verEq t.2.2.length t.2.2.length) then (Option.bind (F_upgrade_Type t.1 t.2.1 t.2.2 [] (ByteArray.mk (Array.mk [107, 110, 105, 103, 104, 116]))) fun t4 => (bif ((((true && (verEq t4.1.length t4.1.length)) && true) && true) && true) then (bif ((((true && (verEq t4.2.1.length t4.2.1.length)) && true) && true) && true) then (bif ((((true && (verEq t4.2.2.1.length t4.2.2.1.length)) && true) && true) && true) then (bif (verEq t.1.length t.1.length) then (bif (verEq t.2.1.length t.2.1.length) then (bif (verEq t.2.2.length t.2.2.length) then (Option.bind (F_upgrade_Of (0 : Int) (0 : Int) (0 : Int) false (0 : Int) t.1 t.2.1 t.2.2 (0 : Int) (0 : Int) [] [[(i64 (2 : Int)), (i64 (0 : Int)), (i64 (0 : Int)), (i64 (0 : Int)), (AVal.ro 1 [[(AVal.sc (Value.string (ByteArray.mk (Array.mk [101, 121, 101, 115]))))]]), (bo false)]] [[(i64 (5 : Int)), (i64 (2 : Int)), (AVal.sc (Value.string (ByteArray.mk (Array.mk [97, 114, 99, 104, 101, 114])))), (i64 (0 : Int)), (i64 (0 : Int)), (i64 (0 : Int)), (i64 (0 : Int)), (i64 (0 : Int)), (i64 (0 : Int)), (i64 (0 : Int)), (AVal.ro 0 []), (AVal.ro 0 [])]] [] [] [] (5 : Int)) fun t5 => (bif ((((true && (verEq t5.1.length t5.1.length)) && true) && true) && true) then (bif ((((true && (verEq t5.2.1.length t5.2.1.length)) && true) && true) && true) then (bif ((((true && (verEq t5.2.2.1.length t5.2.2.1.length)) && true) && true) && true) then (bif (verEq t.1.length t.1.length) then (bif (verEq t.2.1.length t.2.1.length) then (bif (verEq t.2.2.length t.2.2.length) then (Option.bind (F_upgrade_Stat t.1 t.2.1 t.2.2 [[(AVal.sc (Value.string (ByteArray.mk (Array.mk [101, 121, 101, 115]))))], [(AVal.sc (Value.string (ByteArray.mk (Array.mk [109, 97, 105, 108]))))]] (ByteArray.mk (Array.mk [97, 114, 99, 104, 101, 114])) (4 : Int)) fun t6 => (bif (t6 == (2 : Int)) then (bif (verEq t.1.length t.1.length) then (bif (verEq t.2.1.length t.2.1.length) then (bif (verEq t.2.2.length t.2.2.length) then (Option.bind (F_upgrade_Stat t.1 t.2.1 t.2.2 [[(AVal.sc (Value.string (ByteArray.mk (Array.mk [101, 121, 101, 115]))))], [(AVal.sc (Value.string (ByteArray.mk (Array.mk [109, 97, 105, 108]))))]] (ByteArray.mk (Array.mk [97, 114, 99, 104, 101, 114])) (2 : Int)) fun t7 => (bif (t7 == (0 : Int)) then (bif (t1.2.2.2.2.2.2.2.2.2.2.2.1 == (9 : Int)) then (bif (t1.2.2.2.2.2.2.2.2.2.2.2.2.1 == (40 : Int)) then (bif t1.2.2.2.2.2.2.2.2.2.2.2.2.2.2.2.2.2.2.2 then (bif (t2.2.2.2.2.2.2.2.2.2.2.2.1 == (16 : Int)) then (bif t2.2.2.2.2.2.2.2.2.2.2.2.2.2.2.2.2.2.2.2 then (bif (t3.2.1 == (1024 : Int)) then (bif (t3.2.2.1 == (6 : Int)) then (bif t3.2.2.2.2.2.2 then (bif (!t4.2.2.2.2.2.2.2.2.2.2.2.2.2.2.2.2.2.2.2) then (bif (t5.2.2.2.2.2.2.2.2.2.2.2.1 == (9 : Int)) then (some (CR.mk true (bo t5.2.2.2.2.2.2.2.2.2.2.2.2.2.2.2.2.2.2.2) [] [])) else (some (CR.mk true (bo false) [] []))) else (some (CR.mk true (bo false) [] []))) else (some (CR.mk true (bo false) [] []))) else (some (CR.mk true (bo false) [] []))) else (some (CR.mk true (bo false) [] []))) else (some (CR.mk true (bo false) [] []))) else (some (CR.mk true (bo false) [] []))) else (some (CR.mk true (bo false) [] []))) else (some (CR.mk true (bo false) [] []))) else (some (CR.mk true (bo false) [] []))) else (some (CR.mk true (bo false) [] [])))) else none) else none) else none) else (some (CR.mk true (bo false) [] [])))) else none) else none) else none) else none) else none) else none)) else none) else none) else none) else none) else none) else none)) else none) else none) else none)) else none) else none) else none) else none) else none) else none)) else none) else none) else none) else none) else none) else none)) else none) else none) else none) else none) else none) else none))) (by kernel_rfl)
    (n_bind fun t => (n_true (n_andL (n_andL (n_andL (n_andL rfl (verEq_rfl _)) rfl) rfl) rfl) (n_true (n_andL (n_andL (n_andL (n_andL rfl (verEq_rfl _)) rfl) rfl) rfl) (n_true (n_andL (n_andL (n_andL (n_andL rfl (verEq_rfl _)) rfl) rfl) rfl) (n_true (verEq_rfl _) (n_true (verEq_rfl _) (n_true (verEq_rfl _) (n_bind fun t1 => (n_true (n_andL (n_andL (n_andL (n_andL rfl (verEq_rfl _)) rfl) rfl) rfl) (n_true (n_andL (n_andL (n_andL (n_andL rfl (verEq_rfl _)) rfl) rfl) rfl) (n_true (n_andL (n_andL (n_andL (n_andL rfl (verEq_rfl _)) rfl) rfl) rfl) (n_true (verEq_rfl _) (n_true (verEq_rfl _) (n_true (verEq_rfl _) (n_bind fun t2 => (n_true (n_andL (n_andL (n_andL (n_andL rfl (verEq_rfl _)) rfl) rfl) rfl) (n_true (n_andL (n_andL (n_andL (n_andL rfl (verEq_rfl _)) rfl) rfl) rfl) (n_true (n_andL (n_andL (n_andL (n_andL rfl (verEq_rfl _)) rfl) rfl) rfl) (n_true (verEq_rfl _) (n_true (verEq_rfl _) (n_true (verEq_rfl _) (n_bind fun t3 => (n_true (verEq_rfl _) (n_true (verEq_rfl _) (n_true (verEq_rfl _) (n_bind fun t4 => (n_true (n_andL (n_andL (n_andL (n_andL rfl (verEq_rfl _)) rfl) rfl) rfl) (n_true (n_andL (n_andL (n_andL (n_andL rfl (verEq_rfl _)) rfl) rfl) rfl) (n_true (n_andL (n_andL (n_andL (n_andL rfl (verEq_rfl _)) rfl) rfl) rfl) (n_true (verEq_rfl _) (n_true (verEq_rfl _) (n_true (verEq_rfl _) (n_bind fun t5 => (n_true (n_andL (n_andL (n_andL (n_andL rfl (verEq_rfl _)) rfl) rfl) rfl) (n_true (n_andL (n_andL (n_andL (n_andL rfl (verEq_rfl _)) rfl) rfl) rfl) (n_true (n_andL (n_andL (n_andL (n_andL rfl (verEq_rfl _)) rfl) rfl) rfl) (n_true (verEq_rfl _) (n_true (verEq_rfl _) (n_true (verEq_rfl _) (n_bind fun t6 => (n_condH rfl (fun h0 => (n_true (verEq_rfl _) (n_true (verEq_rfl _) (n_true (verEq_rfl _) (n_bind fun t7 => (n_condH rfl (fun h1 => (n_condH rfl (fun h2 => (n_condH rfl (fun h3 => (n_condH rfl (fun h4 => (n_condH rfl (fun h5 => (n_condH rfl (fun h6 => (n_condH rfl (fun h7 => (n_condH rfl (fun h8 => (n_condH rfl (fun h9 => (n_condH rfl (fun h10 => (n_condH rfl (fun h11 => rfl) fun h11 => rfl)) fun h10 => rfl)) fun h9 => rfl)) fun h8 => rfl)) fun h7 => rfl)) fun h6 => rfl)) fun h5 => rfl)) fun h4 => rfl)) fun h3 => rfl)) fun h2 => rfl)) fun h1 => rfl)))))) fun h0 => rfl)))))))))))))))))))))))))))))))))))))))))
theorem lib11 : Lib Try.prog GL0 C11 :=
  Lib.fn lib24 mixed TT_ok Try.func11 (by decide +kernel) (by kernel_rfl) true noL (loops_of 0 (by kernel_rfl) below0) ks11 (F := fun us => F_skirmishlaw22_awake) (fun us => rfl) (fun us => run11) (fun t => rfl)

/-! ### 30: skirmish/skirmishref22.has -/

noncomputable def W30_0 : Ex → List Bool
  | .ret => [false, false, false, false, true, false, false, false, false, false, false, false, false, false, false, false, false, false]
  | .exit n => bif Nat.beq n 0 then [false, false, false, false, false, false, false, false, false, false, false, false, false, false, false, false, false, false] else []
  | .normal => []
noncomputable def G_skirmishref22_has_0 (l : List (List AVal)) (s1 : ByteArray) : Nat → Int → Option (Bool)
  | 0, _ => none
  | m + 1, i =>
    bif (decide (i < (Int.ofNat l.length))) then
      bif (decide ((0 : Int) ≤ i)) then
        Option.bind (l[i.toNat]?) fun r =>
        bif (chk [LT.str] r) then
          bif (List.beq (ByteArray.toList (cS r 0)) (ByteArray.toList s1)) then
            some true
          else
          G_skirmishref22_has_0 l s1 m (wr (i + (1 : Int)))
        else
        none
      else
      none
    else
    some false
noncomputable def E30_0 (l : List (List AVal)) (s1 : ByteArray) (i : Int) : St := ⟨[(.ro 1 l), (.sc (.string s1)), .dead, .dead, .dead, (.sc (.int .i64 i)), .dead, .dead, .dead, .dead, .dead, .dead, .dead, .dead, .dead, .dead, .dead, .dead], []⟩
noncomputable def X30_0 (k : Ex → St → Option CR) (t : Bool) : Option CR := bif t then k .ret ⟨[.dead, .dead, .dead, .dead, (.sc (.bool true)), .dead, .dead, .dead, .dead, .dead, .dead, .dead, .dead, .dead, .dead, .dead, .dead, .dead], []⟩ else k (.exit 0) ⟨[.dead, .dead, .dead, .dead, .dead, .dead, .dead, .dead, .dead, .dead, .dead, .dead, .dead, .dead, .dead, .dead, .dead, .dead], []⟩
noncomputable def ks30_0 : List SK := [.f (.ro 1), .f (.str), .f .dead, .f .dead, .f .dead, .f (.int .i64), .f .dead, .f .dead, .f .dead, .f .dead, .f .dead, .f .dead, .f .dead, .f .dead, .f .dead, .f .dead, .f .dead, .f .dead]
noncomputable def hs30_0 : List HK := []
noncomputable def Lm30_0 (s : St) (k : Ex → St → Option CR) : Option CR := bif chkS ks30_0 hs30_0 s then (G_skirmishref22_has_0 (roRows (cIa s.tmps 0)) (toS (cIa s.tmps 1)) FU (toI (cIa s.tmps 5))).bind (X30_0 k) else none
noncomputable def L30_0 (s : St) (k : Ex → St → Option CR) : Option CR := Lm30_0 (maskS (maskOf ks30_0) s) k

noncomputable def L30 : LT' := fun i s k => bif Nat.beq i 0 then L30_0 s k else none

/-- 'skirmish/skirmishref22.has' -/
noncomputable def F_skirmishref22_has (l : List (List AVal)) (s1 : ByteArray) : Option (Bool) :=
  Option.bind (G_skirmishref22_has_0 l s1 FU (0 : Int)) fun t =>
  bif t then
    some true
  else
  some false
noncomputable def enc30 (t : Bool) : CR := ⟨true, (.sc (.bool t)), [], []⟩
noncomputable def ks30 : List SK := [.f (.ro 1), .f (.str)]
noncomputable def S30 (us : List AVal) : Call := bif chkA ks30 us then Call.of (F_skirmishref22_has (roRows (cIa us 0)) (toS (cIa us 1))) enc30 else Call.none
noncomputable def C30 := AI.ext 30 S30 C11

@[reducible] noncomputable def B30_0 := bodyOf TT TU GL0 C11 ownF L30 (lp Try.f30 0)
@[reducible] noncomputable def K30_0 (k : Ex → St → Option CR) : Ex → St → Option CR := fun e s => k e (maskS (W30_0 e) s)
theorem spec30_0 (k : Ex → St → Option CR) : ∀ (m : Nat) (l : List (List AVal)) (s1 : ByteArray) (i : Int), loopN B30_0 m (E30_0 l s1 i) (K30_0 k) = (G_skirmishref22_has_0 l s1 m i).bind (X30_0 k)
  | 0, _, _, _ => rfl
  | m + 1, l, s1, i =>
    Eq.trans (b := (bif (decide (i < (Int.ofNat l.length))) then (bif (decide ((0 : Int) ≤ i)) then (Option.bind (l[i.toNat]?) fun r => (bif (chk [LT.str] r) then (bif (List.beq (ByteArray.toList (cS r 0)) (ByteArray.toList s1)) then (k .ret ⟨[.dead, .dead, .dead, .dead, (bo true), .dead, .dead, .dead, .dead, .dead, .dead, .dead, .dead, .dead, .dead, .dead, .dead, .dead], []⟩) else (loopN B30_0 m ⟨[(AVal.ro 1 l), (AVal.sc (Value.string s1)), .dead, .dead, .dead, (i64 (wr (i + (1 : Int)))), .dead, .dead, .dead, .dead, .dead, .dead, .dead, .dead, .dead, .dead, .dead, .dead], []⟩ (K30_0 k))) else none)) else none) else (k (.exit 0) ⟨[.dead, .dead, .dead, .dead, .dead, .dead, .dead, .dead, .dead, .dead, .dead, .dead, .dead, .dead, .dead, .dead, .dead, .dead], []⟩))) (by kernel_rfl)
      (n_condH rfl (fun h0 => (n_condH rfl (fun h1 => (n_bind fun r => (n_condH rfl (fun h2 => (n_condH rfl (fun h3 => rfl) fun h3 => (spec30_0 k m l s1 (wr (i + (1 : Int)))))) fun h2 => n_none))) fun h1 => n_none)) fun h0 => rfl)
theorem okL30_0 : LoopOk TT TU GL0 C11 ownF L30 (lp Try.f30 0) :=
  loopOk_of ks30_0 hs30_0 W30_0 FU (fun s k => (G_skirmishref22_has_0 (roRows (cIa s.tmps 0)) (toS (cIa s.tmps 1)) FU (toI (cIa s.tmps 5))).bind (X30_0 k)) (fun s k => by kernel_rfl) (fun s k => spec30_0 k FU (roRows (cIa s.tmps 0)) (toS (cIa s.tmps 1)) (toI (cIa s.tmps 5)))
theorem run30 (l : List (List AVal)) (s1 : ByteArray) : fcall TT TU GL0 C11 ownF true L30 Try.f30 [(.ro 1 l), (.sc (.string s1))] = (F_skirmishref22_has l s1).bind fun t => some (enc30 t) :=
  Eq.trans (b := (Option.bind (G_skirmishref22_has_0 l s1 FU (0 : Int)) fun t => (bif t then (some (CR.mk true (bo true) [] [])) else (some (CR.mk true (bo false) [] []))))) (by kernel_rfl)
    (n_bind fun t => (n_condH rfl (fun h0 => rfl) fun h0 => rfl))
theorem lib30 : Lib Try.prog GL0 C30 :=
  Lib.fn lib11 mixed TT_ok Try.func30 (by decide +kernel) (by kernel_rfl) true L30 (loops_of 1 (by kernel_rfl) (belowS below0 okL30_0)) ks30 (F := fun us => F_skirmishref22_has (roRows (cIa us 0)) (toS (cIa us 1))) (fun us => rfl) (fun us => run30 (roRows (cIa us 0)) (toS (cIa us 1))) (fun t => rfl)

/-! ### 15: skirmish/skirmishref01.Clamp -/



/-- 'skirmish/skirmishref01.Clamp' -/
noncomputable def F_skirmishref01_Clamp (n : Int) (lo : Int) (hi : Int) : Option (Int) :=
  some (maxI lo (minI n hi))
noncomputable def enc15 (t : Int) : CR := ⟨true, (.sc (.int .i64 t)), [], []⟩
noncomputable def ks15 : List SK := [.f (.int .i64), .f (.int .i64), .f (.int .i64)]
noncomputable def S15 (us : List AVal) : Call := bif chkA ks15 us then Call.of (F_skirmishref01_Clamp (toI (cIa us 0)) (toI (cIa us 1)) (toI (cIa us 2))) enc15 else Call.none
noncomputable def C15 := AI.ext 15 S15 C30

theorem run15 (n : Int) (lo : Int) (hi : Int) : fcall TT TU GL0 C30 ownF true noL Try.f15 [(.sc (.int .i64 n)), (.sc (.int .i64 lo)), (.sc (.int .i64 hi))] = (F_skirmishref01_Clamp n lo hi).bind fun t => some (enc15 t) :=
  Eq.trans (b := (some (CR.mk true (i64 (maxI lo (minI n hi))) [] []))) (by kernel_rfl)
    rfl
theorem lib15 : Lib Try.prog GL0 C15 :=
  Lib.fn lib30 mixed TT_ok Try.func15 (by decide +kernel) (by kernel_rfl) true noL (loops_of 0 (by kernel_rfl) below0) ks15 (F := fun us => F_skirmishref01_Clamp (toI (cIa us 0)) (toI (cIa us 1)) (toI (cIa us 2))) (fun us => rfl) (fun us => run15 (toI (cIa us 0)) (toI (cIa us 1)) (toI (cIa us 2))) (fun t => rfl)

/-! ### 13: skirmish/skirmishref22.Stat -/

noncomputable def W13_0 : Ex → List Bool
  | .ret => [false, false, false, false, false, false, false, false, true, false, false, false, false, false, false, false, false, false, false, false, false, false, false, false, false, false, false, false, false, false, false, false, false, false, false, false, false, false, false, false, false, false, false, false, false, false]
  | .exit n => bif Nat.beq n 0 then [false, false, false, false, false, false, false, false, false, true, false, false, false, false, false, false, false, false, false, false, false, false, false, false, false, false, false, false, false, false, false, false, false, false, false, false, false, false, false, false, false, false, false, false, false, false] else []
  | .normal => []
noncomputable def G_skirmishref22_Stat_0 (techs : List (List AVal)) (unit : ByteArray) (stat : Int) (b0_2 : List (List AVal)) : Nat → Int → Int → Option (Int)
  | 0, _, _ => none
  | m + 1, sum, i =>
    bif (decide (i < (Int.ofNat b0_2.length))) then
      bif (decide ((0 : Int) ≤ i)) then
        Option.bind (b0_2[i.toNat]?) fun r =>
        bif (chk [LT.str, (LT.sl 9 1), (LT.int IntKind.i64), (LT.int IntKind.i64), (LT.int IntKind.i64), LT.str, (LT.int IntKind.i64), (LT.int IntKind.i64)] r) then
          Option.bind (F_skirmishref22_has techs (cS r 0)) fun t =>
          bif t then
            bif (List.beq (ByteArray.toList (cS r 5)) (ByteArray.toList unit)) then
              bif ((cI r 6) == stat) then
                Option.bind (F_skirmishref01_Clamp (cI r 7) (-(100000 : Int)) (100000 : Int)) fun t1 =>
                G_skirmishref22_Stat_0 techs unit stat b0_2 m (wr (sum + t1)) (wr (i + (1 : Int)))
              else
              G_skirmishref22_Stat_0 techs unit stat b0_2 m sum (wr (i + (1 : Int)))
            else
            G_skirmishref22_Stat_0 techs unit stat b0_2 m sum (wr (i + (1 : Int)))
          else
          G_skirmishref22_Stat_0 techs unit stat b0_2 m sum (wr (i + (1 : Int)))
        else
        none
      else
      none
    else
    some sum
noncomputable def E13_0 (techs : List (List AVal)) (unit : ByteArray) (stat : Int) (sum : Int) (i : Int) (b0_0 : List (List AVal)) (b0_1 : List (List AVal)) (b0_2 : List (List AVal)) : St := ⟨[.dead, (.ro 1 techs), (.sc (.string unit)), (.sc (.int .i64 stat)), (.ref 16000 1 0 0), .dead, .dead, .dead, .dead, (.sc (.int .i64 sum)), (.sc (.int .i64 i)), .dead, .dead, .dead, .dead, .dead, .dead, .dead, .dead, .dead, .dead, .dead, .dead, .dead, .dead, .dead, .dead, .dead, .dead, .dead, .dead, .dead, .dead, .dead, .dead, .dead, .dead, .dead, .dead, .dead, .dead, .dead, .dead, .dead, .dead, .dead], [(16000, ⟨.box, 26, 3, [[(.ro 19 b0_0), (.ro 6 b0_1), (.ro 8 b0_2)]]⟩)]⟩
noncomputable def X13_0 (k : Ex → St → Option CR) (t : Int) : Option CR := k (.exit 0) ⟨[.dead, .dead, .dead, .dead, .dead, .dead, .dead, .dead, .dead, (.sc (.int .i64 t)), .dead, .dead, .dead, .dead, .dead, .dead, .dead, .dead, .dead, .dead, .dead, .dead, .dead, .dead, .dead, .dead, .dead, .dead, .dead, .dead, .dead, .dead, .dead, .dead, .dead, .dead, .dead, .dead, .dead, .dead, .dead, .dead, .dead, .dead, .dead, .dead], []⟩
noncomputable def ks13_0 : List SK := [.f .dead, .f (.ro 1), .f (.str), .f (.int .i64), .f (.ref 16000 1 0 0), .f .dead, .f .dead, .f .dead, .f .dead, .f (.int .i64), .f (.int .i64), .f .dead, .f .dead, .f .dead, .f .dead, .f .dead, .f .dead, .f .dead, .f .dead, .f .dead, .f .dead, .f .dead, .f .dead, .f .dead, .f .dead, .f .dead, .f .dead, .f .dead, .f .dead, .f .dead, .f .dead, .f .dead, .f .dead, .f .dead, .f .dead, .f .dead, .f .dead, .f .dead, .f .dead, .f .dead, .f .dead, .f .dead, .f .dead, .f .dead, .f .dead, .f .dead]
noncomputable def hs13_0 : List HK := [⟨16000, .box, 26, 3, some [.ro 19, .ro 6, .ro 8]⟩]
noncomputable def Lm13_0 (s : St) (k : Ex → St → Option CR) : Option CR := bif chkS ks13_0 hs13_0 s then (G_skirmishref22_Stat_0 (roRows (cIa s.tmps 1)) (toS (cIa s.tmps 2)) (toI (cIa s.tmps 3)) (roRows (cIa (rows0 (blkAt s.heap 0).2) 2)) FU (toI (cIa s.tmps 9)) (toI (cIa s.tmps 10))).bind (X13_0 k) else none
noncomputable def L13_0 (s : St) (k : Ex → St → Option CR) : Option CR := Lm13_0 (maskS (maskOf ks13_0) s) k

noncomputable def L13 : LT' := fun i s k => bif Nat.beq i 0 then L13_0 s k else none

/-- 'skirmish/skirmishref22.Stat' -/
noncomputable def F_skirmishref22_Stat (r_Units : List (List AVal)) (r_Weapons : List (List AVal)) (r_Techs : List (List AVal)) (techs : List (List AVal)) (unit : ByteArray) (stat : Int) : Option (Int) :=
  Option.bind (G_skirmishref22_Stat_0 techs unit stat r_Techs FU (0 : Int) (0 : Int)) fun t =>
  some t
noncomputable def enc13 (t : Int) : CR := ⟨true, (.sc (.int .i64 t)), [], []⟩
noncomputable def ks13 : List SK := [.agg [.ro 19, .ro 6, .ro 8], .f (.ro 1), .f (.str), .f (.int .i64)]
noncomputable def S13 (us : List AVal) : Call := bif chkA ks13 us then Call.of (F_skirmishref22_Stat (roRows (cIa (aggL (cIa us 0)) 0)) (roRows (cIa (aggL (cIa us 0)) 1)) (roRows (cIa (aggL (cIa us 0)) 2)) (roRows (cIa us 1)) (toS (cIa us 2)) (toI (cIa us 3))) enc13 else Call.none
noncomputable def C13 := AI.ext 13 S13 C15

@[reducible] noncomputable def B13_0 := bodyOf TT TU GL0 C15 ownF L13 (lp Try.f13 0)
@[reducible] noncomputable def K13_0 (k : Ex → St → Option CR) : Ex → St → Option CR := fun e s => k e (maskS (W13_0 e) s)
theorem spec13_0 (k : Ex → St → Option CR) : ∀ (m : Nat) (techs : List (List AVal)) (unit : ByteArray) (stat : Int) (sum : Int) (i : Int) (b0_0 : List (List AVal)) (b0_1 : List (List AVal)) (b0_2 : List (List AVal)), loopN B13_0 m (E13_0 techs unit stat sum i b0_0 b0_1 b0_2) (K13_0 k) = (G_skirmishref22_Stat_0 techs unit stat b0_2 m sum i).bind (X13_0 k)
  | 0, _, _, _, _, _, _, _, _ => rfl
  | m + 1, techs, unit, stat, sum, i, b0_0, b0_1, b0_2 =>
    Eq.trans (b := (bif (decide (i < (Int.ofNat b0_2.length))) then (bif (decide ((0 : Int) ≤ i)) then (Option.bind (b0_2[i.toNat]?) fun r => (bif (chk [LT.str, (LT.sl 9 1), (LT.int IntKind.i64), (LT.int IntKind.i64), (LT.int IntKind.i64), LT.str, (LT.int IntKind.i64), (LT.int IntKind.i64)] r) then (Option.bind (F_skirmishref22_has techs (cS r 0)) fun t => (bif t then (bif (List.beq (ByteArray.toList (cS r 5)) (ByteArray.toList unit)) then (bif ((cI r 6) == stat) then (Option.bind (F_skirmishref01_Clamp (cI r 7) (-(100000 : Int)) (100000 : Int)) fun t1 => (loopN B13_0 m ⟨[.dead, (AVal.ro 1 techs), (AVal.sc (Value.string unit)), (i64 stat), (AVal.ref 16000 1 0 0), .dead, .dead, .dead, .dead, (i64 (wr (sum + t1))), (i64 (wr (i + (1 : Int)))), .dead, .dead, .dead, .dead, .dead, .dead, .dead, .dead, .dead, .dead, .dead, .dead, .dead, .dead, .dead, .dead, .dead, .dead, .dead, .dead, .dead, .dead, .dead, .dead, .dead, .dead, .dead, .dead, .dead, .dead, .dead, .dead, .dead, .dead, .dead], [(Prod.mk 16000 (Blk.mk BKind.box 26 3 [[(AVal.ro 19 b0_0), (AVal.ro 6 b0_1), (AVal.ro 8 b0_2)]]))]⟩ (K13_0 k))) else (loopN B13_0 m ⟨[.dead, (AVal.ro 1 techs), (AVal.sc (Value.string unit)), (i64 stat), (AVal.ref 16000 1 0 0), .dead, .dead, .dead, .dead, (i64 sum), (i64 (wr (i + (1 : Int)))), .dead, .dead, .dead, .dead, .dead, .dead, .dead, .dead, .dead, .dead, .dead, .dead, .dead, .dead, .dead, .dead, .dead, .dead, .dead, .dead, .dead, .dead, .dead, .dead, .dead, .dead, .dead, .dead, .dead, .dead, .dead, .dead, .dead, .dead, .dead], [(Prod.mk 16000 (Blk.mk BKind.box 26 3 [[(AVal.ro 19 b0_0), (AVal.ro 6 b0_1), (AVal.ro 8 b0_2)]]))]⟩ (K13_0 k))) else (loopN B13_0 m ⟨[.dead, (AVal.ro 1 techs), (AVal.sc (Value.string unit)), (i64 stat), (AVal.ref 16000 1 0 0), .dead, .dead, .dead, .dead, (i64 sum), (i64 (wr (i + (1 : Int)))), .dead, .dead, .dead, .dead, .dead, .dead, .dead, .dead, .dead, .dead, .dead, .dead, .dead, .dead, .dead, .dead, .dead, .dead, .dead, .dead, .dead, .dead, .dead, .dead, .dead, .dead, .dead, .dead, .dead, .dead, .dead, .dead, .dead, .dead, .dead], [(Prod.mk 16000 (Blk.mk BKind.box 26 3 [[(AVal.ro 19 b0_0), (AVal.ro 6 b0_1), (AVal.ro 8 b0_2)]]))]⟩ (K13_0 k))) else (loopN B13_0 m ⟨[.dead, (AVal.ro 1 techs), (AVal.sc (Value.string unit)), (i64 stat), (AVal.ref 16000 1 0 0), .dead, .dead, .dead, .dead, (i64 sum), (i64 (wr (i + (1 : Int)))), .dead, .dead, .dead, .dead, .dead, .dead, .dead, .dead, .dead, .dead, .dead, .dead, .dead, .dead, .dead, .dead, .dead, .dead, .dead, .dead, .dead, .dead, .dead, .dead, .dead, .dead, .dead, .dead, .dead, .dead, .dead, .dead, .dead, .dead, .dead], [(Prod.mk 16000 (Blk.mk BKind.box 26 3 [[(AVal.ro 19 b0_0), (AVal.ro 6 b0_1), (AVal.ro 8 b0_2)]]))]⟩ (K13_0 k)))) else none)) else none) else (k (.exit 0) ⟨[.dead, .dead, .dead, .dead, .dead, .dead, .dead, .dead, .dead, (i64 sum), .dead, .dead, .dead, .dead, .dead, .dead, .dead, .dead, .dead, .dead, .dead, .dead, .dead, .dead, .dead, .dead, .dead, .dead, .dead, .dead, .dead, .dead, .dead, .dead, .dead, .dead, .dead, .dead, .dead, .dead, .dead, .dead, .dead, .dead, .dead, .dead], []⟩))) (by kernel_rfl)
      (n_condH rfl (fun h0 => (n_condH rfl (fun h1 => (n_bind fun r => (n_condH rfl (fun h2 => (n_bind fun t => (n_condH rfl (fun h3 => (n_condH rfl (fun h4 => (n_condH rfl (fun h5 => (n_bind fun t1 => (spec13_0 k m techs unit stat (wr (sum + t1)) (wr (i + (1 : Int))) b0_0 b0_1 b0_2))) fun h5 => (spec13_0 k m techs unit stat sum (wr (i + (1 : Int))) b0_0 b0_1 b0_2))) fun h4 => (spec13_0 k m techs unit stat sum (wr (i + (1 : Int))) b0_0 b0_1 b0_2))) fun h3 => (spec13_0 k m techs unit stat sum (wr (i + (1 : Int))) b0_0 b0_1 b0_2)))) fun h2 => n_none))) fun h1 => n_none)) fun h0 => rfl)
theorem okL13_0 : LoopOk TT TU GL0 C15 ownF L13 (lp Try.f13 0) :=
  loopOk_of ks13_0 hs13_0 W13_0 FU (fun s k => (G_skirmishref22_Stat_0 (roRows (cIa s.tmps 1)) (toS (cIa s.tmps 2)) (toI (cIa s.tmps 3)) (roRows (cIa (rows0 (blkAt s.heap 0).2) 2)) FU (toI (cIa s.tmps 9)) (toI (cIa s.tmps 10))).bind (X13_0 k)) (fun s k => by kernel_rfl) (fun s k => spec13_0 k FU (roRows (cIa s.tmps 1)) (toS (cIa s.tmps 2)) (toI (cIa s.tmps 3)) (toI (cIa s.tmps 9)) (toI (cIa s.tmps 10)) (roRows (cIa (rows0 (blkAt s.heap 0).2) 0)) (roRows (cIa (rows0 (blkAt s.heap 0).2) 1)) (roRows (cIa (rows0 (blkAt s.heap 0).2) 2)))
theorem run13 (r_Units : List (List AVal)) (r_Weapons : List (List AVal)) (r_Techs : List (List AVal)) (techs : List (List AVal)) (unit : ByteArray) (stat : Int) : fcall TT TU GL0 C15 ownF true L13 Try.f13 [(.agg [(.ro 19 r_Units), (.ro 6 r_Weapons), (.ro 8 r_Techs)]), (.ro 1 techs), (.sc (.string unit)), (.sc (.int .i64 stat))] = (F_skirmishref22_Stat r_Units r_Weapons r_Techs techs unit stat).bind fun t => some (enc13 t) :=
  Eq.trans (b := (Option.bind (G_skirmishref22_Stat_0 techs unit stat r_Techs FU (0 : Int) (0 : Int)) fun t => (some (CR.mk true (i64 t) [] [])))) (by kernel_rfl)
    (n_bind fun t => rfl)
theorem lib13 : Lib Try.prog GL0 C13 :=
  Lib.fn lib15 mixed TT_ok Try.func13 (by decide +kernel) (by kernel_rfl) true L13 (loops_of 1 (by kernel_rfl) (belowS below0 okL13_0)) ks13 (F := fun us => F_skirmishref22_Stat (roRows (cIa (aggL (cIa us 0)) 0)) (roRows (cIa (aggL (cIa us 0)) 1)) (roRows (cIa (aggL (cIa us 0)) 2)) (roRows (cIa us 1)) (toS (cIa us 2)) (toI (cIa us 3))) (fun us => rfl) (fun us => run13 (roRows (cIa (aggL (cIa us 0)) 0)) (roRows (cIa (aggL (cIa us 0)) 1)) (roRows (cIa (aggL (cIa us 0)) 2)) (roRows (cIa us 1)) (toS (cIa us 2)) (toI (cIa us 3))) (fun t => rfl)

/-! ### 3: skirmish/skirmishlaw22.UpgradeStats -/



/-- 'skirmish/skirmishlaw22.UpgradeStats' -/
noncomputable def F_skirmishlaw22_UpgradeStats (r_Units : List (List AVal)) (r_Weapons : List (List AVal)) (r_Techs : List (List AVal)) (techs : List (List AVal)) (a_Unit : ByteArray) (a_Stat : Int) : Option (Bool) :=
  Option.bind (F_skirmishlaw10_Huge r_Units r_Weapons r_Techs) fun t =>
  bif t then
    Option.bind F_skirmishlaw22_awake fun t1 =>
    some t1
  else
  Option.bind (F_skirmishlaw22_huge techs) fun t2 =>
  bif t2 then
    Option.bind F_skirmishlaw22_awake fun t3 =>
    some t3
  else
  Option.bind (F_upgrade_Stat r_Units r_Weapons r_Techs techs a_Unit a_Stat) fun t4 =>
  Option.bind (F_skirmishref22_Stat r_Units r_Weapons r_Techs techs a_Unit a_Stat) fun t5 =>
  bif (t4 == t5) then
    Option.bind F_skirmishlaw22_awake fun t6 =>
    some t6
  else
  some false
noncomputable def enc3 (t : Bool) : CR := ⟨true, (.sc (.bool t)), [], []⟩
noncomputable def ks3 : List SK := [.agg [.ro 19, .ro 6, .ro 8], .f (.ro 1), .agg [.str, .int .i64]]
noncomputable def S3 (us : List AVal) : Call := bif chkA ks3 us then Call.of (F_skirmishlaw22_UpgradeStats (roRows (cIa (aggL (cIa us 0)) 0)) (roRows (cIa (aggL (cIa us 0)) 1)) (roRows (cIa (aggL (cIa us 0)) 2)) (roRows (cIa us 1)) (toS (cIa (aggL (cIa us 2)) 0)) (toI (cIa (aggL (cIa us 2)) 1))) enc3 else Call.none
noncomputable def C3 := AI.ext 3 S3 C13

theorem run3 (r_Units : List (List AVal)) (r_Weapons : List (List AVal)) (r_Techs : List (List AVal)) (techs : List (List AVal)) (a_Unit : ByteArray) (a_Stat : Int) : fcall TT TU GL0 C13 ownF true noL Try.f3 [(.agg [(.ro 19 r_Units), (.ro 6 r_Weapons), (.ro 8 r_Techs)]), (.ro 1 techs), (.agg [(.sc (.string a_Unit)), (.sc (.int .i64 a_Stat))])] = (F_skirmishlaw22_UpgradeStats r_Units r_Weapons r_Techs techs a_Unit a_Stat).bind fun t => some (enc3 t) :=
  Eq.trans (b := (Option.bind (F_skirmishlaw10_Huge r_Units r_Weapons r_Techs) fun t => (bif t then (Option.bind F_skirmishlaw22_awake fun t1 => (some (CR.mk true (bo t1) [] []))) else (Option.bind (F_skirmishlaw22_huge techs) fun t2 => (bif t2 then (Option.bind F_skirmishlaw22_awake fun t3 => (some (CR.mk true (bo t3) [] []))) else (Option.bind (F_upgrade_Stat r_Units r_Weapons r_Techs techs a_Unit a_Stat) fun t4 => (Option.bind (F_skirmishref22_Stat r_Units r_Weapons r_Techs techs a_Unit a_Stat) fun t5 => (bif (t4 == t5) then (Option.bind F_skirmishlaw22_awake fun t6 => (some (CR.mk true (bo t6) [] []))) else (some (CR.mk true (bo false) [] [])))))))))) (by kernel_rfl)
    (n_bind fun t => (n_condH rfl (fun h0 => (n_bind fun t1 => rfl)) fun h0 => (n_bind fun t2 => (n_condH rfl (fun h1 => (n_bind fun t3 => rfl)) fun h1 => (n_bind fun t4 => (n_bind fun t5 => (n_condH rfl (fun h2 => (n_bind fun t6 => rfl)) fun h2 => rfl)))))))
theorem lib3 : Lib Try.prog GL0 C3 :=
  Lib.fn lib13 mixed TT_ok Try.func3 (by decide +kernel) (by kernel_rfl) true noL (loops_of 0 (by kernel_rfl) below0) ks3 (F := fun us => F_skirmishlaw22_UpgradeStats (roRows (cIa (aggL (cIa us 0)) 0)) (roRows (cIa (aggL (cIa us 0)) 1)) (roRows (cIa (aggL (cIa us 0)) 2)) (roRows (cIa us 1)) (toS (cIa (aggL (cIa us 2)) 0)) (toI (cIa (aggL (cIa us 2)) 1))) (fun us => rfl) (fun us => run3 (roRows (cIa (aggL (cIa us 0)) 0)) (roRows (cIa (aggL (cIa us 0)) 1)) (roRows (cIa (aggL (cIa us 0)) 2)) (roRows (cIa us 1)) (toS (cIa (aggL (cIa us 2)) 0)) (toI (cIa (aggL (cIa us 2)) 1))) (fun t => rfl)

/-! ### 14: skirmish/skirmishref09.Has -/

noncomputable def W14_0 : Ex → List Bool
  | .ret => [false, false, false, false, true, false, false, false, false, false, false, false, false, false, false, false, false, false]
  | .exit n => bif Nat.beq n 0 then [false, false, false, false, false, false, false, false, false, false, false, false, false, false, false, false, false, false] else []
  | .normal => []
noncomputable def G_skirmishref09_Has_0 (l : List (List AVal)) (s1 : ByteArray) : Nat → Int → Option (Bool)
  | 0, _ => none
  | m + 1, i =>
    bif (decide (i < (Int.ofNat l.length))) then
      bif (decide ((0 : Int) ≤ i)) then
        Option.bind (l[i.toNat]?) fun r =>
        bif (chk [LT.str] r) then
          bif (List.beq (ByteArray.toList (cS r 0)) (ByteArray.toList s1)) then
            some true
          else
          G_skirmishref09_Has_0 l s1 m (wr (i + (1 : Int)))
        else
        none
      else
      none
    else
    some false
noncomputable def E14_0 (l : List (List AVal)) (s1 : ByteArray) (i : Int) : St := ⟨[(.ro 1 l), (.sc (.string s1)), .dead, .dead, .dead, (.sc (.int .i64 i)), .dead, .dead, .dead, .dead, .dead, .dead, .dead, .dead, .dead, .dead, .dead, .dead], []⟩
noncomputable def X14_0 (k : Ex → St → Option CR) (t : Bool) : Option CR := bif t then k .ret ⟨[.dead, .dead, .dead, .dead, (.sc (.bool true)), .dead, .dead, .dead, .dead, .dead, .dead, .dead, .dead, .dead, .dead, .dead, .dead, .dead], []⟩ else k (.exit 0) ⟨[.dead, .dead, .dead, .dead, .dead, .dead, .dead, .dead, .dead, .dead, .dead, .dead, .dead, .dead, .dead, .dead, .dead, .dead], []⟩
noncomputable def ks14_0 : List SK := [.f (.ro 1), .f (.str), .f .dead, .f .dead, .f .dead, .f (.int .i64), .f .dead, .f .dead, .f .dead, .f .dead, .f .dead, .f .dead, .f .dead, .f .dead, .f .dead, .f .dead, .f .dead, .f .dead]
noncomputable def hs14_0 : List HK := []
noncomputable def Lm14_0 (s : St) (k : Ex → St → Option CR) : Option CR := bif chkS ks14_0 hs14_0 s then (G_skirmishref09_Has_0 (roRows (cIa s.tmps 0)) (toS (cIa s.tmps 1)) FU (toI (cIa s.tmps 5))).bind (X14_0 k) else none
noncomputable def L14_0 (s : St) (k : Ex → St → Option CR) : Option CR := Lm14_0 (maskS (maskOf ks14_0) s) k

noncomputable def L14 : LT' := fun i s k => bif Nat.beq i 0 then L14_0 s k else none

/-- 'skirmish/skirmishref09.Has' -/
noncomputable def F_skirmishref09_Has (l : List (List AVal)) (s1 : ByteArray) : Option (Bool) :=
  Option.bind (G_skirmishref09_Has_0 l s1 FU (0 : Int)) fun t =>
  bif t then
    some true
  else
  some false
noncomputable def enc14 (t : Bool) : CR := ⟨true, (.sc (.bool t)), [], []⟩
noncomputable def ks14 : List SK := [.f (.ro 1), .f (.str)]
noncomputable def S14 (us : List AVal) : Call := bif chkA ks14 us then Call.of (F_skirmishref09_Has (roRows (cIa us 0)) (toS (cIa us 1))) enc14 else Call.none
noncomputable def C14 := AI.ext 14 S14 C3

@[reducible] noncomputable def B14_0 := bodyOf TT TU GL0 C3 ownF L14 (lp Try.f14 0)
@[reducible] noncomputable def K14_0 (k : Ex → St → Option CR) : Ex → St → Option CR := fun e s => k e (maskS (W14_0 e) s)
theorem spec14_0 (k : Ex → St → Option CR) : ∀ (m : Nat) (l : List (List AVal)) (s1 : ByteArray) (i : Int), loopN B14_0 m (E14_0 l s1 i) (K14_0 k) = (G_skirmishref09_Has_0 l s1 m i).bind (X14_0 k)
  | 0, _, _, _ => rfl
  | m + 1, l, s1, i =>
    Eq.trans (b := (bif (decide (i < (Int.ofNat l.length))) then (bif (decide ((0 : Int) ≤ i)) then (Option.bind (l[i.toNat]?) fun r => (bif (chk [LT.str] r) then (bif (List.beq (ByteArray.toList (cS r 0)) (ByteArray.toList s1)) then (k .ret ⟨[.dead, .dead, .dead, .dead, (bo true), .dead, .dead, .dead, .dead, .dead, .dead, .dead, .dead, .dead, .dead, .dead, .dead, .dead], []⟩) else (loopN B14_0 m ⟨[(AVal.ro 1 l), (AVal.sc (Value.string s1)), .dead, .dead, .dead, (i64 (wr (i + (1 : Int)))), .dead, .dead, .dead, .dead, .dead, .dead, .dead, .dead, .dead, .dead, .dead, .dead], []⟩ (K14_0 k))) else none)) else none) else (k (.exit 0) ⟨[.dead, .dead, .dead, .dead, .dead, .dead, .dead, .dead, .dead, .dead, .dead, .dead, .dead, .dead, .dead, .dead, .dead, .dead], []⟩))) (by kernel_rfl)
      (n_condH rfl (fun h0 => (n_condH rfl (fun h1 => (n_bind fun r => (n_condH rfl (fun h2 => (n_condH rfl (fun h3 => rfl) fun h3 => (spec14_0 k m l s1 (wr (i + (1 : Int)))))) fun h2 => n_none))) fun h1 => n_none)) fun h0 => rfl)
theorem okL14_0 : LoopOk TT TU GL0 C3 ownF L14 (lp Try.f14 0) :=
  loopOk_of ks14_0 hs14_0 W14_0 FU (fun s k => (G_skirmishref09_Has_0 (roRows (cIa s.tmps 0)) (toS (cIa s.tmps 1)) FU (toI (cIa s.tmps 5))).bind (X14_0 k)) (fun s k => by kernel_rfl) (fun s k => spec14_0 k FU (roRows (cIa s.tmps 0)) (toS (cIa s.tmps 1)) (toI (cIa s.tmps 5)))
theorem run14 (l : List (List AVal)) (s1 : ByteArray) : fcall TT TU GL0 C3 ownF true L14 Try.f14 [(.ro 1 l), (.sc (.string s1))] = (F_skirmishref09_Has l s1).bind fun t => some (enc14 t) :=
  Eq.trans (b := (Option.bind (G_skirmishref09_Has_0 l s1 FU (0 : Int)) fun t => (bif t then (some (CR.mk true (bo true) [] [])) else (some (CR.mk true (bo false) [] []))))) (by kernel_rfl)
    (n_bind fun t => (n_condH rfl (fun h0 => rfl) fun h0 => rfl))
theorem lib14 : Lib Try.prog GL0 C14 :=
  Lib.fn lib3 mixed TT_ok Try.func14 (by decide +kernel) (by kernel_rfl) true L14 (loops_of 1 (by kernel_rfl) (belowS below0 okL14_0)) ks14 (F := fun us => F_skirmishref09_Has (roRows (cIa us 0)) (toS (cIa us 1))) (fun us => rfl) (fun us => run14 (roRows (cIa us 0)) (toS (cIa us 1))) (fun t => rfl)

end Go.Proofs.Ytiplnalnahmdgaa.AI
