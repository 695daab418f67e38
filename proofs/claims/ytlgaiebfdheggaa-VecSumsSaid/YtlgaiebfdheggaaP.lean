/- What functions answer: printed by wip/tool2/Ev.lean out of the interpreter's run; each print is checked by Lean. -/
import Derived.Test.YtlgaiebfdheggaaTab
namespace Go.Proofs.Ytlgaiebfdheggaa.AI
open Go.RowKit
set_option linter.unusedVariables false
set_option maxRecDepth 100000
/-! ### 41: skirmish/num.Clamp -/



/-- 'skirmish/num.Clamp' -/
noncomputable def F_num_Clamp (n : Int) (lo : Int) (hi : Int) : Option (Int) :=
  some (maxI lo (minI n hi))
noncomputable def enc41 (t : Int) : CR := ⟨true, (.sc (.int .i64 t)), [], []⟩
noncomputable def ks41 : List SK := [.f (.int .i64), .f (.int .i64), .f (.int .i64)]
noncomputable def S41 (us : List AVal) : Call := bif chkA ks41 us then Call.of (F_num_Clamp (toI (cIa us 0)) (toI (cIa us 1)) (toI (cIa us 2))) enc41 else Call.none
noncomputable def C41 := AI.ext 41 S41 Cnone

theorem run41 (n : Int) (lo : Int) (hi : Int) : fcall TT TU noG Cnone ownF true noL Try.f41 [(.sc (.int .i64 n)), (.sc (.int .i64 lo)), (.sc (.int .i64 hi))] = (F_num_Clamp n lo hi).bind fun t => some (enc41 t) :=
  Eq.trans (b := (some (CR.mk true (i64 (maxI lo (minI n hi))) [] []))) (by kernel_rfl)
    rfl
theorem lib41 : Lib Try.prog noG C41 :=
  Lib.fn libnone mixed TT_ok Try.func41 (by decide +kernel) (by kernel_rfl) true noL (loops_of 0 (by kernel_rfl) below0) ks41 (F := fun us => F_num_Clamp (toI (cIa us 0)) (toI (cIa us 1)) (toI (cIa us 2))) (fun us => rfl) (fun us => run41 (toI (cIa us 0)) (toI (cIa us 1)) (toI (cIa us 2))) (fun t => rfl)

/-! ### 34: skirmish/vec.near -/



/-- 'skirmish/vec.near' -/
noncomputable def F_vec_near (n : Int) : Option (Int) :=
  Option.bind (F_num_Clamp n (-(1048576 : Int)) (1048576 : Int)) fun t =>
  some t
noncomputable def enc34 (t : Int) : CR := ⟨true, (.sc (.int .i64 t)), [], []⟩
noncomputable def ks34 : List SK := [.f (.int .i64)]
noncomputable def S34 (us : List AVal) : Call := bif chkA ks34 us then Call.of (F_vec_near (toI (cIa us 0))) enc34 else Call.none
noncomputable def C34 := AI.ext 34 S34 C41

theorem run34 (n : Int) : fcall TT TU noG C41 ownF true noL Try.f34 [(.sc (.int .i64 n))] = (F_vec_near n).bind fun t => some (enc34 t) :=
  Eq.trans (b := (Option.bind (F_num_Clamp n (-(1048576 : Int)) (1048576 : Int)) fun t => (some (CR.mk true (i64 t) [] [])))) (by kernel_rfl)
    (n_bind fun t => rfl)
theorem lib34 : Lib Try.prog noG C34 :=
  Lib.fn lib41 mixed TT_ok Try.func34 (by decide +kernel) (by kernel_rfl) true noL (loops_of 0 (by kernel_rfl) below0) ks34 (F := fun us => F_vec_near (toI (cIa us 0))) (fun us => rfl) (fun us => run34 (toI (cIa us 0))) (fun t => rfl)

/-! ### 33: skirmish/vec.nearest -/



/-- 'skirmish/vec.nearest' -/
noncomputable def F_vec_nearest (a_X : Int) (a_Y : Int) : Option (Int × Int) :=
  Option.bind (F_vec_near a_X) fun t =>
  Option.bind (F_vec_near a_Y) fun t1 =>
  some (t, t1)
noncomputable def enc33 (t : Int × Int) : CR := ⟨true, (.agg [(.sc (.int .i64 t.1)), (.sc (.int .i64 t.2))]), [], []⟩
noncomputable def ks33 : List SK := [.agg [.int .i64, .int .i64]]
noncomputable def S33 (us : List AVal) : Call := bif chkA ks33 us then Call.of (F_vec_nearest (toI (cIa (aggL (cIa us 0)) 0)) (toI (cIa (aggL (cIa us 0)) 1))) enc33 else Call.none
noncomputable def C33 := AI.ext 33 S33 C34

theorem run33 (a_X : Int) (a_Y : Int) : fcall TT TU noG C34 ownF true noL Try.f33 [(.agg [(.sc (.int .i64 a_X)), (.sc (.int .i64 a_Y))])] = (F_vec_nearest a_X a_Y).bind fun t => some (enc33 t) :=
  Eq.trans (b := (Option.bind (F_vec_near a_X) fun t => (Option.bind (F_vec_near a_Y) fun t1 => (some (CR.mk true (AVal.agg [(i64 t), (i64 t1)]) [] []))))) (by kernel_rfl)
    (n_bind fun t => (n_bind fun t1 => rfl))
theorem lib33 : Lib Try.prog noG C33 :=
  Lib.fn lib34 mixed TT_ok Try.func33 (by decide +kernel) (by kernel_rfl) true noL (loops_of 0 (by kernel_rfl) below0) ks33 (F := fun us => F_vec_nearest (toI (cIa (aggL (cIa us 0)) 0)) (toI (cIa (aggL (cIa us 0)) 1))) (fun us => rfl) (fun us => run33 (toI (cIa (aggL (cIa us 0)) 0)) (toI (cIa (aggL (cIa us 0)) 1))) (fun t => rfl)

/-! ### 38: skirmish/vec.dot -/



/-- 'skirmish/vec.dot' -/
noncomputable def F_vec_dot (a_X : Int) (a_Y : Int) (b_X : Int) (b_Y : Int) : Option (Int) :=
  some (wr ((wr (a_X * b_X)) + (wr (a_Y * b_Y))))
noncomputable def enc38 (t : Int) : CR := ⟨true, (.sc (.int .i64 t)), [], []⟩
noncomputable def ks38 : List SK := [.agg [.int .i64, .int .i64], .agg [.int .i64, .int .i64]]
noncomputable def S38 (us : List AVal) : Call := bif chkA ks38 us then Call.of (F_vec_dot (toI (cIa (aggL (cIa us 0)) 0)) (toI (cIa (aggL (cIa us 0)) 1)) (toI (cIa (aggL (cIa us 1)) 0)) (toI (cIa (aggL (cIa us 1)) 1))) enc38 else Call.none
noncomputable def C38 := AI.ext 38 S38 C33

theorem run38 (a_X : Int) (a_Y : Int) (b_X : Int) (b_Y : Int) : fcall TT TU noG C33 ownF true noL Try.f38 [(.agg [(.sc (.int .i64 a_X)), (.sc (.int .i64 a_Y))]), (.agg [(.sc (.int .i64 b_X)), (.sc (.int .i64 b_Y))])] = (F_vec_dot a_X a_Y b_X b_Y).bind fun t => some (enc38 t) :=
  Eq.trans (b := (some (CR.mk true (i64 (wr ((wr (a_X * b_X)) + (wr (a_Y * b_Y))))) [] []))) (by kernel_rfl)
    rfl
theorem lib38 : Lib Try.prog noG C38 :=
  Lib.fn lib33 mixed TT_ok Try.func38 (by decide +kernel) (by kernel_rfl) true noL (loops_of 0 (by kernel_rfl) below0) ks38 (F := fun us => F_vec_dot (toI (cIa (aggL (cIa us 0)) 0)) (toI (cIa (aggL (cIa us 0)) 1)) (toI (cIa (aggL (cIa us 1)) 0)) (toI (cIa (aggL (cIa us 1)) 1))) (fun us => rfl) (fun us => run38 (toI (cIa (aggL (cIa us 0)) 0)) (toI (cIa (aggL (cIa us 0)) 1)) (toI (cIa (aggL (cIa us 1)) 0)) (toI (cIa (aggL (cIa us 1)) 1))) (fun t => rfl)

/-! ### 35: skirmish/vec.apart -/



/-- 'skirmish/vec.apart' -/
noncomputable def F_vec_apart (a_X : Int) (a_Y : Int) (b_X : Int) (b_Y : Int) : Option (Int × Int × Int) :=
  Option.bind (F_vec_dot (wr (b_X - a_X)) (wr (b_Y - a_Y)) (wr (b_X - a_X)) (wr (b_Y - a_Y))) fun t =>
  some ((wr (b_X - a_X)), (wr (b_Y - a_Y)), t)
noncomputable def enc35 (t : Int × Int × Int) : CR := ⟨true, (.tup [(.agg [(.sc (.int .i64 t.1)), (.sc (.int .i64 t.2.1))]), (.sc (.int .i64 t.2.2))]), [], []⟩
noncomputable def ks35 : List SK := [.agg [.int .i64, .int .i64], .agg [.int .i64, .int .i64]]
noncomputable def S35 (us : List AVal) : Call := bif chkA ks35 us then Call.of (F_vec_apart (toI (cIa (aggL (cIa us 0)) 0)) (toI (cIa (aggL (cIa us 0)) 1)) (toI (cIa (aggL (cIa us 1)) 0)) (toI (cIa (aggL (cIa us 1)) 1))) enc35 else Call.none
noncomputable def C35 := AI.ext 35 S35 C38

theorem run35 (a_X : Int) (a_Y : Int) (b_X : Int) (b_Y : Int) : fcall TT TU noG C38 ownF true noL Try.f35 [(.agg [(.sc (.int .i64 a_X)), (.sc (.int .i64 a_Y))]), (.agg [(.sc (.int .i64 b_X)), (.sc (.int .i64 b_Y))])] = (F_vec_apart a_X a_Y b_X b_Y).bind fun t => some (enc35 t) :=
  Eq.trans (b := (Option.bind (F_vec_dot (wr (b_X - a_X)) (wr (b_Y - a_Y)) (wr (b_X - a_X)) (wr (b_Y - a_Y))) fun t => (some (CR.mk true (AVal.tup [(AVal.agg [(i64 (wr (b_X - a_X))), (i64 (wr (b_Y - a_Y)))]), (i64 t)]) [] [])))) (by kernel_rfl)
    (n_bind fun t => rfl)
theorem lib35 : Lib Try.prog noG C35 :=
  Lib.fn lib38 mixed TT_ok Try.func35 (by decide +kernel) (by kernel_rfl) true noL (loops_of 0 (by kernel_rfl) below0) ks35 (F := fun us => F_vec_apart (toI (cIa (aggL (cIa us 0)) 0)) (toI (cIa (aggL (cIa us 0)) 1)) (toI (cIa (aggL (cIa us 1)) 0)) (toI (cIa (aggL (cIa us 1)) 1))) (fun us => rfl) (fun us => run35 (toI (cIa (aggL (cIa us 0)) 0)) (toI (cIa (aggL (cIa us 0)) 1)) (toI (cIa (aggL (cIa us 1)) 0)) (toI (cIa (aggL (cIa us 1)) 1))) (fun t => rfl)

/-! ### 36: skirmish/num.Isqrt -/

noncomputable def W36_0 : Ex → List Bool
  | .ret => [false, false, true, false, false, false, false, false, false, false, false, false, false, false, false, false, false, false, false, false, false, false]
  | .exit n => bif Nat.beq n 0 then [false, false, false, true, false, false, false, false, false, false, false, false, false, false, false, false, false, false, false, false, false, false] else []
  | .normal => []
noncomputable def G_num_Isqrt_0 (n : Int) : Nat → Int → Int → Option (Int)
  | 0, _, _ => none
  | m + 1, r1, bit =>
    bif (decide (bit > (0 : Int))) then
      bif ((wr (Int.ofNat (BitVec.toNat (HOr.hOr (BitVec.ofInt 64 r1) (BitVec.ofInt 64 bit))))) == (0 : Int)) then
        none
      else
      bif (decide ((wr (Int.ofNat (BitVec.toNat (HOr.hOr (BitVec.ofInt 64 r1) (BitVec.ofInt 64 bit))))) ≤ (wr (Int.tdiv n (wr (Int.ofNat (BitVec.toNat (HOr.hOr (BitVec.ofInt 64 r1) (BitVec.ofInt 64 bit))))))))) then
        G_num_Isqrt_0 n m (wr (Int.ofNat (BitVec.toNat (HOr.hOr (BitVec.ofInt 64 r1) (BitVec.ofInt 64 bit))))) (Int.fdiv bit ((2 : Int) ^ (Min.min (1 : Int).toNat 64)))
      else
      G_num_Isqrt_0 n m r1 (Int.fdiv bit ((2 : Int) ^ (Min.min (1 : Int).toNat 64)))
    else
    some r1
noncomputable def E36_0 (n : Int) (r1 : Int) (bit : Int) : St := ⟨[(.sc (.int .i64 n)), .dead, .dead, (.sc (.int .i64 r1)), (.sc (.int .i64 bit)), .dead, .dead, .dead, .dead, .dead, .dead, .dead, .dead, .dead, .dead, .dead, .dead, .dead, .dead, .dead, .dead, .dead], []⟩
noncomputable def X36_0 (k : Ex → St → Option CR) (t : Int) : Option CR := k (.exit 0) ⟨[.dead, .dead, .dead, (.sc (.int .i64 t)), .dead, .dead, .dead, .dead, .dead, .dead, .dead, .dead, .dead, .dead, .dead, .dead, .dead, .dead, .dead, .dead, .dead, .dead], []⟩
noncomputable def ks36_0 : List SK := [.f (.int .i64), .f .dead, .f .dead, .f (.int .i64), .f (.int .i64), .f .dead, .f .dead, .f .dead, .f .dead, .f .dead, .f .dead, .f .dead, .f .dead, .f .dead, .f .dead, .f .dead, .f .dead, .f .dead, .f .dead, .f .dead, .f .dead, .f .dead]
noncomputable def hs36_0 : List HK := []
noncomputable def L36_0 (s : St) (k : Ex → St → Option CR) : Option CR := bif chkS ks36_0 hs36_0 s then (G_num_Isqrt_0 (toI (cIa s.tmps 0)) FU (toI (cIa s.tmps 3)) (toI (cIa s.tmps 4))).bind (X36_0 k) else none

noncomputable def L36 : LT' := fun i s k => bif Nat.beq i 0 then L36_0 s k else none

/-- 'skirmish/num.Isqrt' -/
noncomputable def F_num_Isqrt (n : Int) : Option (Int) :=
  bif (decide (n ≤ (0 : Int))) then
    some (0 : Int)
  else
  Option.bind (G_num_Isqrt_0 n FU (0 : Int) (2147483648 : Int)) fun t =>
  some t
noncomputable def enc36 (t : Int) : CR := ⟨true, (.sc (.int .i64 t)), [], []⟩
noncomputable def ks36 : List SK := [.f (.int .i64)]
noncomputable def S36 (us : List AVal) : Call := bif chkA ks36 us then Call.of (F_num_Isqrt (toI (cIa us 0))) enc36 else Call.none
noncomputable def C36 := AI.ext 36 S36 C35

@[reducible] noncomputable def B36_0 := bodyOf TT TU noG C35 ownF L36 (lp Try.f36 0)
@[reducible] noncomputable def K36_0 (k : Ex → St → Option CR) : Ex → St → Option CR := fun e s => k e (maskS (W36_0 e) s)
theorem spec36_0 (k : Ex → St → Option CR) : ∀ (m : Nat) (n : Int) (r1 : Int) (bit : Int), loopN B36_0 m (E36_0 n r1 bit) (K36_0 k) = (G_num_Isqrt_0 n m r1 bit).bind (X36_0 k)
  | 0, _, _, _ => rfl
  | m + 1, n, r1, bit =>
    Eq.trans (b := (bif (decide (bit > (0 : Int))) then (bif ((wr (Int.ofNat (BitVec.toNat (HOr.hOr (BitVec.ofInt 64 r1) (BitVec.ofInt 64 bit))))) == (0 : Int)) then none else (bif (decide ((wr (Int.ofNat (BitVec.toNat (HOr.hOr (BitVec.ofInt 64 r1) (BitVec.ofInt 64 bit))))) ≤ (wr (Int.tdiv n (wr (Int.ofNat (BitVec.toNat (HOr.hOr (BitVec.ofInt 64 r1) (BitVec.ofInt 64 bit))))))))) then (loopN B36_0 m ⟨[(i64 n), .dead, .dead, (i64 (wr (Int.ofNat (BitVec.toNat (HOr.hOr (BitVec.ofInt 64 r1) (BitVec.ofInt 64 bit)))))), (i64 (Int.fdiv bit ((2 : Int) ^ (Min.min (1 : Int).toNat 64)))), .dead, .dead, .dead, .dead, .dead, .dead, .dead, .dead, .dead, .dead, .dead, .dead, .dead, .dead, .dead, .dead, .dead], []⟩ (K36_0 k)) else (loopN B36_0 m ⟨[(i64 n), .dead, .dead, (i64 r1), (i64 (Int.fdiv bit ((2 : Int) ^ (Min.min (1 : Int).toNat 64)))), .dead, .dead, .dead, .dead, .dead, .dead, .dead, .dead, .dead, .dead, .dead, .dead, .dead, .dead, .dead, .dead, .dead], []⟩ (K36_0 k)))) else (k (.exit 0) ⟨[.dead, .dead, .dead, (i64 r1), .dead, .dead, .dead, .dead, .dead, .dead, .dead, .dead, .dead, .dead, .dead, .dead, .dead, .dead, .dead, .dead, .dead, .dead], []⟩))) (by kernel_rfl)
      (n_condH rfl (fun h0 => (n_condH rfl (fun h1 => n_none) fun h1 => (n_condH rfl (fun h2 => (spec36_0 k m n (wr (Int.ofNat (BitVec.toNat (HOr.hOr (BitVec.ofInt 64 r1) (BitVec.ofInt 64 bit))))) (Int.fdiv bit ((2 : Int) ^ (Min.min (1 : Int).toNat 64))))) fun h2 => (spec36_0 k m n r1 (Int.fdiv bit ((2 : Int) ^ (Min.min (1 : Int).toNat 64))))))) fun h0 => rfl)
theorem okL36_0 : LoopOk TT TU noG C35 ownF L36 (lp Try.f36 0) :=
  loopOk_of ks36_0 hs36_0 W36_0 FU (fun s k => (G_num_Isqrt_0 (toI (cIa s.tmps 0)) FU (toI (cIa s.tmps 3)) (toI (cIa s.tmps 4))).bind (X36_0 k)) (fun s k => by kernel_rfl) (fun s k => spec36_0 k FU (toI (cIa s.tmps 0)) (toI (cIa s.tmps 3)) (toI (cIa s.tmps 4)))
theorem run36 (n : Int) : fcall TT TU noG C35 ownF true L36 Try.f36 [(.sc (.int .i64 n))] = (F_num_Isqrt n).bind fun t => some (enc36 t) :=
  Eq.trans (b := (bif (decide (n ≤ (0 : Int))) then (some (CR.mk true (i64 (0 : Int)) [] [])) else (Option.bind (G_num_Isqrt_0 n FU (0 : Int) (2147483648 : Int)) fun t => (some (CR.mk true (i64 t) [] []))))) (by kernel_rfl)
    (n_condH rfl (fun h0 => rfl) fun h0 => (n_bind fun t => rfl))
theorem lib36 : Lib Try.prog noG C36 :=
  Lib.fn lib35 mixed TT_ok Try.func36 (by decide +kernel) (by kernel_rfl) true L36 (loops_of 1 (by kernel_rfl) (belowS below0 okL36_0)) ks36 (F := fun us => F_num_Isqrt (toI (cIa us 0))) (fun us => rfl) (fun us => run36 (toI (cIa us 0))) (fun t => rfl)

/-! ### 9: skirmish/vec.Toward -/



/-- 'skirmish/vec.Toward' -/
noncomputable def F_vec_Toward (a_X : Int) (a_Y : Int) (b_X : Int) (b_Y : Int) (speed : Int) : Option (Int × Int) :=
  Option.bind (F_vec_nearest a_X a_Y) fun t =>
  Option.bind (F_vec_nearest b_X b_Y) fun t1 =>
  Option.bind (F_vec_near speed) fun t2 =>
  bif (decide (t2 ≤ (0 : Int))) then
    some (t.1, t.2)
  else
  Option.bind (F_vec_apart t.1 t.2 t1.1 t1.2) fun t3 =>
  bif (decide (t3.2.2 ≤ (wr (t2 * t2)))) then
    some (t1.1, t1.2)
  else
  Option.bind (F_num_Isqrt t3.2.2) fun t4 =>
  bif (decide ((wr (t4 * t4)) < t3.2.2)) then
    bif ((wr (t4 + (1 : Int))) == (0 : Int)) then
      none
    else
    some ((wr (t.1 + (wr (Int.tdiv (wr (t3.1 * t2)) (wr (t4 + (1 : Int))))))), (wr (t.2 + (wr (Int.tdiv (wr (t3.2.1 * t2)) (wr (t4 + (1 : Int))))))))
  else
  bif (t4 == (0 : Int)) then
    none
  else
  some ((wr (t.1 + (wr (Int.tdiv (wr (t3.1 * t2)) t4)))), (wr (t.2 + (wr (Int.tdiv (wr (t3.2.1 * t2)) t4)))))
noncomputable def enc9 (t : Int × Int) : CR := ⟨true, (.agg [(.sc (.int .i64 t.1)), (.sc (.int .i64 t.2))]), [], []⟩
noncomputable def ks9 : List SK := [.agg [.int .i64, .int .i64], .agg [.int .i64, .int .i64], .f (.int .i64)]
noncomputable def S9 (us : List AVal) : Call := bif chkA ks9 us then Call.of (F_vec_Toward (toI (cIa (aggL (cIa us 0)) 0)) (toI (cIa (aggL (cIa us 0)) 1)) (toI (cIa (aggL (cIa us 1)) 0)) (toI (cIa (aggL (cIa us 1)) 1)) (toI (cIa us 2))) enc9 else Call.none
noncomputable def C9 := AI.ext 9 S9 C36

theorem run9 (a_X : Int) (a_Y : Int) (b_X : Int) (b_Y : Int) (speed : Int) : fcall TT TU noG C36 ownF true noL Try.f9 [(.agg [(.sc (.int .i64 a_X)), (.sc (.int .i64 a_Y))]), (.agg [(.sc (.int .i64 b_X)), (.sc (.int .i64 b_Y))]), (.sc (.int .i64 speed))] = (F_vec_Toward a_X a_Y b_X b_Y speed).bind fun t => some (enc9 t) :=
  Eq.trans (b := (Option.bind (F_vec_nearest a_X a_Y) fun t => (Option.bind (F_vec_nearest b_X b_Y) fun t1 => (Option.bind (F_vec_near speed) fun t2 => (bif (decide (t2 ≤ (0 : Int))) then (some (CR.mk true (AVal.agg [(i64 t.1), (i64 t.2)]) [] [])) else (Option.bind (F_vec_apart t.1 t.2 t1.1 t1.2) fun t3 => (bif (decide (t3.2.2 ≤ (wr (t2 * t2)))) then (some (CR.mk true (AVal.agg [(i64 t1.1), (i64 t1.2)]) [] [])) else (Option.bind (F_num_Isqrt t3.2.2) fun t4 => (bif (decide ((wr (t4 * t4)) < t3.2.2)) then (bif ((wr (t4 + (1 : Int))) == (0 : Int)) then none else (bif ((wr (t4 + (1 : Int))) == (0 : Int)) then none else (some (CR.mk true (AVal.agg [(i64 (wr (t.1 + (wr (Int.tdiv (wr (t3.1 * t2)) (wr (t4 + (1 : Int)))))))), (i64 (wr (t.2 + (wr (Int.tdiv (wr (t3.2.1 * t2)) (wr (t4 + (1 : Int))))))))]) [] [])))) else (bif (t4 == (0 : Int)) then none else (bif (t4 == (0 : Int)) then none else (some (CR.mk true (AVal.agg [(i64 (wr (t.1 + (wr (Int.tdiv (wr (t3.1 * t2)) t4))))), (i64 (wr (t.2 + (wr (Int.tdiv (wr (t3.2.1 * t2)) t4)))))]) [] []))))))))))))) (by kernel_rfl)
    (n_bind fun t => (n_bind fun t1 => (n_bind fun t2 => (n_condH rfl (fun h0 => rfl) fun h0 => (n_bind fun t3 => (n_condH rfl (fun h1 => rfl) fun h1 => (n_bind fun t4 => (n_condH rfl (fun h2 => (n_condH rfl (fun h3 => n_none) fun h3 => (n_false h3 rfl))) fun h2 => (n_condH rfl (fun h3 => n_none) fun h3 => (n_false h3 rfl))))))))))
theorem lib9 : Lib Try.prog noG C9 :=
  Lib.fn lib36 mixed TT_ok Try.func9 (by decide +kernel) (by kernel_rfl) true noL (loops_of 0 (by kernel_rfl) below0) ks9 (F := fun us => F_vec_Toward (toI (cIa (aggL (cIa us 0)) 0)) (toI (cIa (aggL (cIa us 0)) 1)) (toI (cIa (aggL (cIa us 1)) 0)) (toI (cIa (aggL (cIa us 1)) 1)) (toI (cIa us 2))) (fun us => rfl) (fun us => run9 (toI (cIa (aggL (cIa us 0)) 0)) (toI (cIa (aggL (cIa us 0)) 1)) (toI (cIa (aggL (cIa us 1)) 0)) (toI (cIa (aggL (cIa us 1)) 1)) (toI (cIa us 2))) (fun t => rfl)

/-! ### 19: skirmish/skirmishref02.Near -/



/-- 'skirmish/skirmishref02.Near' -/
noncomputable def F_skirmishref02_Near (n : Int) : Option (Int) :=
  some (minI (maxI n (-(1048576 : Int))) (1048576 : Int))
noncomputable def enc19 (t : Int) : CR := ⟨true, (.sc (.int .i64 t)), [], []⟩
noncomputable def ks19 : List SK := [.f (.int .i64)]
noncomputable def S19 (us : List AVal) : Call := bif chkA ks19 us then Call.of (F_skirmishref02_Near (toI (cIa us 0))) enc19 else Call.none
noncomputable def C19 := AI.ext 19 S19 C9

theorem run19 (n : Int) : fcall TT TU noG C9 ownF true noL Try.f19 [(.sc (.int .i64 n))] = (F_skirmishref02_Near n).bind fun t => some (enc19 t) :=
  Eq.trans (b := (some (CR.mk true (i64 (minI (maxI n (-(1048576 : Int))) (1048576 : Int))) [] []))) (by kernel_rfl)
    rfl
theorem lib19 : Lib Try.prog noG C19 :=
  Lib.fn lib9 mixed TT_ok Try.func19 (by decide +kernel) (by kernel_rfl) true noL (loops_of 0 (by kernel_rfl) below0) ks19 (F := fun us => F_skirmishref02_Near (toI (cIa us 0))) (fun us => rfl) (fun us => run19 (toI (cIa us 0))) (fun t => rfl)

/-! ### 14: skirmish/skirmishref02.NearVec -/



/-- 'skirmish/skirmishref02.NearVec' -/
noncomputable def F_skirmishref02_NearVec (a_X : Int) (a_Y : Int) : Option (Int × Int) :=
  Option.bind (F_skirmishref02_Near a_X) fun t =>
  Option.bind (F_skirmishref02_Near a_Y) fun t1 =>
  some (t, t1)
noncomputable def enc14 (t : Int × Int) : CR := ⟨true, (.agg [(.sc (.int .i64 t.1)), (.sc (.int .i64 t.2))]), [], []⟩
noncomputable def ks14 : List SK := [.agg [.int .i64, .int .i64]]
noncomputable def S14 (us : List AVal) : Call := bif chkA ks14 us then Call.of (F_skirmishref02_NearVec (toI (cIa (aggL (cIa us 0)) 0)) (toI (cIa (aggL (cIa us 0)) 1))) enc14 else Call.none
noncomputable def C14 := AI.ext 14 S14 C19

theorem run14 (a_X : Int) (a_Y : Int) : fcall TT TU noG C19 ownF true noL Try.f14 [(.agg [(.sc (.int .i64 a_X)), (.sc (.int .i64 a_Y))])] = (F_skirmishref02_NearVec a_X a_Y).bind fun t => some (enc14 t) :=
  Eq.trans (b := (Option.bind (F_skirmishref02_Near a_X) fun t => (Option.bind (F_skirmishref02_Near a_Y) fun t1 => (some (CR.mk true (AVal.agg [(i64 t), (i64 t1)]) [] []))))) (by kernel_rfl)
    (n_bind fun t => (n_bind fun t1 => rfl))
theorem lib14 : Lib Try.prog noG C14 :=
  Lib.fn lib19 mixed TT_ok Try.func14 (by decide +kernel) (by kernel_rfl) true noL (loops_of 0 (by kernel_rfl) below0) ks14 (F := fun us => F_skirmishref02_NearVec (toI (cIa (aggL (cIa us 0)) 0)) (toI (cIa (aggL (cIa us 0)) 1))) (fun us => rfl) (fun us => run14 (toI (cIa (aggL (cIa us 0)) 0)) (toI (cIa (aggL (cIa us 0)) 1))) (fun t => rfl)

/-! ### 15: skirmish/skirmishref02.Far -/



/-- 'skirmish/skirmishref02.Far' -/
noncomputable def F_skirmishref02_Far (a_X : Int) (a_Y : Int) (b_X : Int) (b_Y : Int) : Option (Int) :=
  Option.bind (F_skirmishref02_NearVec a_X a_Y) fun t =>
  Option.bind (F_skirmishref02_NearVec b_X b_Y) fun t1 =>
  some (wr ((wr ((wr (t1.1 - t.1)) * (wr (t1.1 - t.1)))) + (wr ((wr (t1.2 - t.2)) * (wr (t1.2 - t.2))))))
noncomputable def enc15 (t : Int) : CR := ⟨true, (.sc (.int .i64 t)), [], []⟩
noncomputable def ks15 : List SK := [.agg [.int .i64, .int .i64], .agg [.int .i64, .int .i64]]
noncomputable def S15 (us : List AVal) : Call := bif chkA ks15 us then Call.of (F_skirmishref02_Far (toI (cIa (aggL (cIa us 0)) 0)) (toI (cIa (aggL (cIa us 0)) 1)) (toI (cIa (aggL (cIa us 1)) 0)) (toI (cIa (aggL (cIa us 1)) 1))) enc15 else Call.none
noncomputable def C15 := AI.ext 15 S15 C14

theorem run15 (a_X : Int) (a_Y : Int) (b_X : Int) (b_Y : Int) : fcall TT TU noG C14 ownF true noL Try.f15 [(.agg [(.sc (.int .i64 a_X)), (.sc (.int .i64 a_Y))]), (.agg [(.sc (.int .i64 b_X)), (.sc (.int .i64 b_Y))])] = (F_skirmishref02_Far a_X a_Y b_X b_Y).bind fun t => some (enc15 t) :=
  Eq.trans (b := (Option.bind (F_skirmishref02_NearVec a_X a_Y) fun t => (Option.bind (F_skirmishref02_NearVec b_X b_Y) fun t1 => (some (CR.mk true (i64 (wr ((wr ((wr (t1.1 - t.1)) * (wr (t1.1 - t.1)))) + (wr ((wr (t1.2 - t.2)) * (wr (t1.2 - t.2))))))) [] []))))) (by kernel_rfl)
    (n_bind fun t => (n_bind fun t1 => rfl))
theorem lib15 : Lib Try.prog noG C15 :=
  Lib.fn lib14 mixed TT_ok Try.func15 (by decide +kernel) (by kernel_rfl) true noL (loops_of 0 (by kernel_rfl) below0) ks15 (F := fun us => F_skirmishref02_Far (toI (cIa (aggL (cIa us 0)) 0)) (toI (cIa (aggL (cIa us 0)) 1)) (toI (cIa (aggL (cIa us 1)) 0)) (toI (cIa (aggL (cIa us 1)) 1))) (fun us => rfl) (fun us => run15 (toI (cIa (aggL (cIa us 0)) 0)) (toI (cIa (aggL (cIa us 0)) 1)) (toI (cIa (aggL (cIa us 1)) 0)) (toI (cIa (aggL (cIa us 1)) 1))) (fun t => rfl)

/-! ### 37: skirmish/skirmishref01.Isqrt -/

noncomputable def W37_0 : Ex → List Bool
  | .ret => [false, false, true, false, false, false, false, false, false, false, false, false, false, false, false, false, false, false, false, false, false, false, false, false, false, false]
  | .exit n => bif Nat.beq n 0 then [false, false, false, true, false, false, false, false, false, false, false, false, false, false, false, false, false, false, false, false, false, false, false, false, false, false] else []
  | .normal => []
noncomputable def G_skirmishref01_Isqrt_0 (n : Int) : Nat → Int → Int → Option (Int)
  | 0, _, _ => none
  | m + 1, r1, bit =>
    bif (decide (bit > (0 : Int))) then
      bif (decide (n > (0 : Int))) then
        bif ((wr (r1 + bit)) == (0 : Int)) then
          none
        else
        bif (decide ((wr (r1 + bit)) ≤ (wr (Int.tdiv n (wr (r1 + bit)))))) then
          G_skirmishref01_Isqrt_0 n m (wr (r1 + bit)) (Int.fdiv bit ((2 : Int) ^ (Min.min (1 : Int).toNat 64)))
        else
        G_skirmishref01_Isqrt_0 n m r1 (Int.fdiv bit ((2 : Int) ^ (Min.min (1 : Int).toNat 64)))
      else
      G_skirmishref01_Isqrt_0 n m r1 (Int.fdiv bit ((2 : Int) ^ (Min.min (1 : Int).toNat 64)))
    else
    some r1
noncomputable def E37_0 (n : Int) (r1 : Int) (bit : Int) : St := ⟨[(.sc (.int .i64 n)), .dead, .dead, (.sc (.int .i64 r1)), (.sc (.int .i64 bit)), .dead, .dead, .dead, .dead, .dead, .dead, .dead, .dead, .dead, .dead, .dead, .dead, .dead, .dead, .dead, .dead, .dead, .dead, .dead, .dead, .dead], []⟩
noncomputable def X37_0 (k : Ex → St → Option CR) (t : Int) : Option CR := k (.exit 0) ⟨[.dead, .dead, .dead, (.sc (.int .i64 t)), .dead, .dead, .dead, .dead, .dead, .dead, .dead, .dead, .dead, .dead, .dead, .dead, .dead, .dead, .dead, .dead, .dead, .dead, .dead, .dead, .dead, .dead], []⟩
noncomputable def ks37_0 : List SK := [.f (.int .i64), .f .dead, .f .dead, .f (.int .i64), .f (.int .i64), .f .dead, .f .dead, .f .dead, .f .dead, .f .dead, .f .dead, .f .dead, .f .dead, .f .dead, .f .dead, .f .dead, .f .dead, .f .dead, .f .dead, .f .dead, .f .dead, .f .dead, .f .dead, .f .dead, .f .dead, .f .dead]
noncomputable def hs37_0 : List HK := []
noncomputable def L37_0 (s : St) (k : Ex → St → Option CR) : Option CR := bif chkS ks37_0 hs37_0 s then (G_skirmishref01_Isqrt_0 (toI (cIa s.tmps 0)) FU (toI (cIa s.tmps 3)) (toI (cIa s.tmps 4))).bind (X37_0 k) else none

noncomputable def L37 : LT' := fun i s k => bif Nat.beq i 0 then L37_0 s k else none

/-- 'skirmish/skirmishref01.Isqrt' -/
noncomputable def F_skirmishref01_Isqrt (n : Int) : Option (Int) :=
  Option.bind (G_skirmishref01_Isqrt_0 n FU (0 : Int) (2147483648 : Int)) fun t =>
  some t
noncomputable def enc37 (t : Int) : CR := ⟨true, (.sc (.int .i64 t)), [], []⟩
noncomputable def ks37 : List SK := [.f (.int .i64)]
noncomputable def S37 (us : List AVal) : Call := bif chkA ks37 us then Call.of (F_skirmishref01_Isqrt (toI (cIa us 0))) enc37 else Call.none
noncomputable def C37 := AI.ext 37 S37 C15

@[reducible] noncomputable def B37_0 := bodyOf TT TU noG C15 ownF L37 (lp Try.f37 0)
@[reducible] noncomputable def K37_0 (k : Ex → St → Option CR) : Ex → St → Option CR := fun e s => k e (maskS (W37_0 e) s)
theorem spec37_0 (k : Ex → St → Option CR) : ∀ (m : Nat) (n : Int) (r1 : Int) (bit : Int), loopN B37_0 m (E37_0 n r1 bit) (K37_0 k) = (G_skirmishref01_Isqrt_0 n m r1 bit).bind (X37_0 k)
  | 0, _, _, _ => rfl
  | m + 1, n, r1, bit =>
    Eq.trans (b := (bif (decide (bit > (0 : Int))) then (bif (decide (n > (0 : Int))) then (bif ((wr (r1 + bit)) == (0 : Int)) then none else (bif (decide ((wr (r1 + bit)) ≤ (wr (Int.tdiv n (wr (r1 + bit)))))) then (loopN B37_0 m ⟨[(i64 n), .dead, .dead, (i64 (wr (r1 + bit))), (i64 (Int.fdiv bit ((2 : Int) ^ (Min.min (1 : Int).toNat 64)))), .dead, .dead, .dead, .dead, .dead, .dead, .dead, .dead, .dead, .dead, .dead, .dead, .dead, .dead, .dead, .dead, .dead, .dead, .dead, .dead, .dead], []⟩ (K37_0 k)) else (loopN B37_0 m ⟨[(i64 n), .dead, .dead, (i64 r1), (i64 (Int.fdiv bit ((2 : Int) ^ (Min.min (1 : Int).toNat 64)))), .dead, .dead, .dead, .dead, .dead, .dead, .dead, .dead, .dead, .dead, .dead, .dead, .dead, .dead, .dead, .dead, .dead, .dead, .dead, .dead, .dead], []⟩ (K37_0 k)))) else (loopN B37_0 m ⟨[(i64 n), .dead, .dead, (i64 r1), (i64 (Int.fdiv bit ((2 : Int) ^ (Min.min (1 : Int).toNat 64)))), .dead, .dead, .dead, .dead, .dead, .dead, .dead, .dead, .dead, .dead, .dead, .dead, .dead, .dead, .dead, .dead, .dead, .dead, .dead, .dead, .dead], []⟩ (K37_0 k))) else (k (.exit 0) ⟨[.dead, .dead, .dead, (i64 r1), .dead, .dead, .dead, .dead, .dead, .dead, .dead, .dead, .dead, .dead, .dead, .dead, .dead, .dead, .dead, .dead, .dead, .dead, .dead, .dead, .dead, .dead], []⟩))) (by kernel_rfl)
      (n_condH rfl (fun h0 => (n_condH rfl (fun h1 => (n_condH rfl (fun h2 => n_none) fun h2 => (n_condH rfl (fun h3 => (spec37_0 k m n (wr (r1 + bit)) (Int.fdiv bit ((2 : Int) ^ (Min.min (1 : Int).toNat 64))))) fun h3 => (spec37_0 k m n r1 (Int.fdiv bit ((2 : Int) ^ (Min.min (1 : Int).toNat 64))))))) fun h1 => (spec37_0 k m n r1 (Int.fdiv bit ((2 : Int) ^ (Min.min (1 : Int).toNat 64)))))) fun h0 => rfl)
theorem okL37_0 : LoopOk TT TU noG C15 ownF L37 (lp Try.f37 0) :=
  loopOk_of ks37_0 hs37_0 W37_0 FU (fun s k => (G_skirmishref01_Isqrt_0 (toI (cIa s.tmps 0)) FU (toI (cIa s.tmps 3)) (toI (cIa s.tmps 4))).bind (X37_0 k)) (fun s k => by kernel_rfl) (fun s k => spec37_0 k FU (toI (cIa s.tmps 0)) (toI (cIa s.tmps 3)) (toI (cIa s.tmps 4)))
theorem run37 (n : Int) : fcall TT TU noG C15 ownF true L37 Try.f37 [(.sc (.int .i64 n))] = (F_skirmishref01_Isqrt n).bind fun t => some (enc37 t) :=
  Eq.trans (b := (Option.bind (G_skirmishref01_Isqrt_0 n FU (0 : Int) (2147483648 : Int)) fun t => (some (CR.mk true (i64 t) [] [])))) (by kernel_rfl)
    (n_bind fun t => rfl)
theorem lib37 : Lib Try.prog noG C37 :=
  Lib.fn lib15 mixed TT_ok Try.func37 (by decide +kernel) (by kernel_rfl) true L37 (loops_of 1 (by kernel_rfl) (belowS below0 okL37_0)) ks37 (F := fun us => F_skirmishref01_Isqrt (toI (cIa us 0))) (fun us => rfl) (fun us => run37 (toI (cIa us 0))) (fun t => rfl)

/-! ### 10: skirmish/skirmishref02.Toward -/



/-- 'skirmish/skirmishref02.Toward' -/
noncomputable def F_skirmishref02_Toward (a_X : Int) (a_Y : Int) (b_X : Int) (b_Y : Int) (speed : Int) : Option (Int × Int) :=
  Option.bind (F_skirmishref02_NearVec a_X a_Y) fun t =>
  Option.bind (F_skirmishref02_NearVec b_X b_Y) fun t1 =>
  Option.bind (F_skirmishref02_Near speed) fun t2 =>
  bif (decide (t2 ≤ (0 : Int))) then
    some (t.1, t.2)
  else
  Option.bind (F_skirmishref02_Far t.1 t.2 t1.1 t1.2) fun t3 =>
  bif (decide (t3 ≤ (wr (t2 * t2)))) then
    some (t1.1, t1.2)
  else
  Option.bind (F_skirmishref01_Isqrt t3) fun t4 =>
  bif (decide ((wr (t4 * t4)) < t3)) then
    bif ((wr (t4 + (1 : Int))) == (0 : Int)) then
      none
    else
    some ((wr (t.1 + (wr (Int.tdiv (wr ((wr (t1.1 - t.1)) * t2)) (wr (t4 + (1 : Int))))))), (wr (t.2 + (wr (Int.tdiv (wr ((wr (t1.2 - t.2)) * t2)) (wr (t4 + (1 : Int))))))))
  else
  bif (t4 == (0 : Int)) then
    none
  else
  some ((wr (t.1 + (wr (Int.tdiv (wr ((wr (t1.1 - t.1)) * t2)) t4)))), (wr (t.2 + (wr (Int.tdiv (wr ((wr (t1.2 - t.2)) * t2)) t4)))))
noncomputable def enc10 (t : Int × Int) : CR := ⟨true, (.agg [(.sc (.int .i64 t.1)), (.sc (.int .i64 t.2))]), [], []⟩
noncomputable def ks10 : List SK := [.agg [.int .i64, .int .i64], .agg [.int .i64, .int .i64], .f (.int .i64)]
noncomputable def S10 (us : List AVal) : Call := bif chkA ks10 us then Call.of (F_skirmishref02_Toward (toI (cIa (aggL (cIa us 0)) 0)) (toI (cIa (aggL (cIa us 0)) 1)) (toI (cIa (aggL (cIa us 1)) 0)) (toI (cIa (aggL (cIa us 1)) 1)) (toI (cIa us 2))) enc10 else Call.none
noncomputable def C10 := AI.ext 10 S10 C37

theorem run10 (a_X : Int) (a_Y : Int) (b_X : Int) (b_Y : Int) (speed : Int) : fcall TT TU noG C37 ownF true noL Try.f10 [(.agg [(.sc (.int .i64 a_X)), (.sc (.int .i64 a_Y))]), (.agg [(.sc (.int .i64 b_X)), (.sc (.int .i64 b_Y))]), (.sc (.int .i64 speed))] = (F_skirmishref02_Toward a_X a_Y b_X b_Y speed).bind fun t => some (enc10 t) :=
  Eq.trans (b := (Option.bind (F_skirmishref02_NearVec a_X a_Y) fun t => (Option.bind (F_skirmishref02_NearVec b_X b_Y) fun t1 => (Option.bind (F_skirmishref02_Near speed) fun t2 => (bif (decide (t2 ≤ (0 : Int))) then (some (CR.mk true (AVal.agg [(i64 t.1), (i64 t.2)]) [] [])) else (Option.bind (F_skirmishref02_Far t.1 t.2 t1.1 t1.2) fun t3 => (bif (decide (t3 ≤ (wr (t2 * t2)))) then (some (CR.mk true (AVal.agg [(i64 t1.1), (i64 t1.2)]) [] [])) else (Option.bind (F_skirmishref01_Isqrt t3) fun t4 => (bif (decide ((wr (t4 * t4)) < t3)) then (bif ((wr (t4 + (1 : Int))) == (0 : Int)) then none else (bif ((wr (t4 + (1 : Int))) == (0 : Int)) then none else (some (CR.mk true (AVal.agg [(i64 (wr (t.1 + (wr (Int.tdiv (wr ((wr (t1.1 - t.1)) * t2)) (wr (t4 + (1 : Int)))))))), (i64 (wr (t.2 + (wr (Int.tdiv (wr ((wr (t1.2 - t.2)) * t2)) (wr (t4 + (1 : Int))))))))]) [] [])))) else (bif (t4 == (0 : Int)) then none else (bif (t4 == (0 : Int)) then none else (some (CR.mk true (AVal.agg [(i64 (wr (t.1 + (wr (Int.tdiv (wr ((wr (t1.1 - t.1)) * t2)) t4))))), (i64 (wr (t.2 + (wr (Int.tdiv (wr ((wr (t1.2 - t.2)) * t2)) t4)))))]) [] []))))))))))))) (by kernel_rfl)
    (n_bind fun t => (n_bind fun t1 => (n_bind fun t2 => (n_condH rfl (fun h0 => rfl) fun h0 => (n_bind fun t3 => (n_condH rfl (fun h1 => rfl) fun h1 => (n_bind fun t4 => (n_condH rfl (fun h2 => (n_condH rfl (fun h3 => n_none) fun h3 => (n_false h3 rfl))) fun h2 => (n_condH rfl (fun h3 => n_none) fun h3 => (n_false h3 rfl))))))))))
theorem lib10 : Lib Try.prog noG C10 :=
  Lib.fn lib37 mixed TT_ok Try.func10 (by decide +kernel) (by kernel_rfl) true noL (loops_of 0 (by kernel_rfl) below0) ks10 (F := fun us => F_skirmishref02_Toward (toI (cIa (aggL (cIa us 0)) 0)) (toI (cIa (aggL (cIa us 0)) 1)) (toI (cIa (aggL (cIa us 1)) 0)) (toI (cIa (aggL (cIa us 1)) 1)) (toI (cIa us 2))) (fun us => rfl) (fun us => run10 (toI (cIa (aggL (cIa us 0)) 0)) (toI (cIa (aggL (cIa us 0)) 1)) (toI (cIa (aggL (cIa us 1)) 0)) (toI (cIa (aggL (cIa us 1)) 1)) (toI (cIa us 2))) (fun t => rfl)

/-! ### 11: skirmish/vec.Within -/



/-- 'skirmish/vec.Within' -/
noncomputable def F_vec_Within (a_X : Int) (a_Y : Int) (b_X : Int) (b_Y : Int) (r1 : Int) : Option (Bool) :=
  Option.bind (F_vec_near r1) fun t =>
  Option.bind (F_vec_nearest a_X a_Y) fun t1 =>
  Option.bind (F_vec_nearest b_X b_Y) fun t2 =>
  Option.bind (F_vec_apart t1.1 t1.2 t2.1 t2.2) fun t3 =>
  bif (decide (t ≥ (0 : Int))) then
    some (decide (t3.2.2 ≤ (wr (t * t))))
  else
  some false
noncomputable def enc11 (t : Bool) : CR := ⟨true, (.sc (.bool t)), [], []⟩
noncomputable def ks11 : List SK := [.agg [.int .i64, .int .i64], .agg [.int .i64, .int .i64], .f (.int .i64)]
noncomputable def S11 (us : List AVal) : Call := bif chkA ks11 us then Call.of (F_vec_Within (toI (cIa (aggL (cIa us 0)) 0)) (toI (cIa (aggL (cIa us 0)) 1)) (toI (cIa (aggL (cIa us 1)) 0)) (toI (cIa (aggL (cIa us 1)) 1)) (toI (cIa us 2))) enc11 else Call.none
noncomputable def C11 := AI.ext 11 S11 C10

theorem run11 (a_X : Int) (a_Y : Int) (b_X : Int) (b_Y : Int) (r1 : Int) : fcall TT TU noG C10 ownF true noL Try.f11 [(.agg [(.sc (.int .i64 a_X)), (.sc (.int .i64 a_Y))]), (.agg [(.sc (.int .i64 b_X)), (.sc (.int .i64 b_Y))]), (.sc (.int .i64 r1))] = (F_vec_Within a_X a_Y b_X b_Y r1).bind fun t => some (enc11 t) :=
  Eq.trans (b := (Option.bind (F_vec_near r1) fun t => (Option.bind (F_vec_nearest a_X a_Y) fun t1 => (Option.bind (F_vec_nearest b_X b_Y) fun t2 => (Option.bind (F_vec_apart t1.1 t1.2 t2.1 t2.2) fun t3 => (bif (decide (t ≥ (0 : Int))) then (some (CR.mk true (bo (decide (t3.2.2 ≤ (wr (t * t))))) [] [])) else (some (CR.mk true (bo false) [] [])))))))) (by kernel_rfl)
    (n_bind fun t => (n_bind fun t1 => (n_bind fun t2 => (n_bind fun t3 => (n_condH rfl (fun h0 => rfl) fun h0 => rfl)))))
theorem lib11 : Lib Try.prog noG C11 :=
  Lib.fn lib10 mixed TT_ok Try.func11 (by decide +kernel) (by kernel_rfl) true noL (loops_of 0 (by kernel_rfl) below0) ks11 (F := fun us => F_vec_Within (toI (cIa (aggL (cIa us 0)) 0)) (toI (cIa (aggL (cIa us 0)) 1)) (toI (cIa (aggL (cIa us 1)) 0)) (toI (cIa (aggL (cIa us 1)) 1)) (toI (cIa us 2))) (fun us => rfl) (fun us => run11 (toI (cIa (aggL (cIa us 0)) 0)) (toI (cIa (aggL (cIa us 0)) 1)) (toI (cIa (aggL (cIa us 1)) 0)) (toI (cIa (aggL (cIa us 1)) 1)) (toI (cIa us 2))) (fun t => rfl)

/-! ### 12: skirmish/skirmishref02.Within -/



/-- 'skirmish/skirmishref02.Within' -/
noncomputable def F_skirmishref02_Within (a_X : Int) (a_Y : Int) (b_X : Int) (b_Y : Int) (r1 : Int) : Option (Bool) :=
  Option.bind (F_skirmishref02_Near r1) fun t =>
  bif (decide (t ≥ (0 : Int))) then
    Option.bind (F_skirmishref02_Far a_X a_Y b_X b_Y) fun t1 =>
    some (decide (t1 ≤ (wr (t * t))))
  else
  some false
noncomputable def enc12 (t : Bool) : CR := ⟨true, (.sc (.bool t)), [], []⟩
noncomputable def ks12 : List SK := [.agg [.int .i64, .int .i64], .agg [.int .i64, .int .i64], .f (.int .i64)]
noncomputable def S12 (us : List AVal) : Call := bif chkA ks12 us then Call.of (F_skirmishref02_Within (toI (cIa (aggL (cIa us 0)) 0)) (toI (cIa (aggL (cIa us 0)) 1)) (toI (cIa (aggL (cIa us 1)) 0)) (toI (cIa (aggL (cIa us 1)) 1)) (toI (cIa us 2))) enc12 else Call.none
noncomputable def C12 := AI.ext 12 S12 C11

theorem run12 (a_X : Int) (a_Y : Int) (b_X : Int) (b_Y : Int) (r1 : Int) : fcall TT TU noG C11 ownF true noL Try.f12 [(.agg [(.sc (.int .i64 a_X)), (.sc (.int .i64 a_Y))]), (.agg [(.sc (.int .i64 b_X)), (.sc (.int .i64 b_Y))]), (.sc (.int .i64 r1))] = (F_skirmishref02_Within a_X a_Y b_X b_Y r1).bind fun t => some (enc12 t) :=
  Eq.trans (b := (Option.bind (F_skirmishref02_Near r1) fun t => (bif (decide (t ≥ (0 : Int))) then (Option.bind (F_skirmishref02_Far a_X a_Y b_X b_Y) fun t1 => (some (CR.mk true (bo (decide (t1 ≤ (wr (t * t))))) [] []))) else (some (CR.mk true (bo false) [] []))))) (by kernel_rfl)
    (n_bind fun t => (n_condH rfl (fun h0 => (n_bind fun t1 => rfl)) fun h0 => rfl))
theorem lib12 : Lib Try.prog noG C12 :=
  Lib.fn lib11 mixed TT_ok Try.func12 (by decide +kernel) (by kernel_rfl) true noL (loops_of 0 (by kernel_rfl) below0) ks12 (F := fun us => F_skirmishref02_Within (toI (cIa (aggL (cIa us 0)) 0)) (toI (cIa (aggL (cIa us 0)) 1)) (toI (cIa (aggL (cIa us 1)) 0)) (toI (cIa (aggL (cIa us 1)) 1)) (toI (cIa us 2))) (fun us => rfl) (fun us => run12 (toI (cIa (aggL (cIa us 0)) 0)) (toI (cIa (aggL (cIa us 0)) 1)) (toI (cIa (aggL (cIa us 1)) 0)) (toI (cIa (aggL (cIa us 1)) 1)) (toI (cIa us 2))) (fun t => rfl)

/-! ### 20: skirmish/vec.Dot -/



/-- 'skirmish/vec.Dot' -/
noncomputable def F_vec_Dot (a_X : Int) (a_Y : Int) (b_X : Int) (b_Y : Int) : Option (Int) :=
  Option.bind (F_vec_nearest a_X a_Y) fun t =>
  Option.bind (F_vec_nearest b_X b_Y) fun t1 =>
  Option.bind (F_vec_dot t.1 t.2 t1.1 t1.2) fun t2 =>
  some t2
noncomputable def enc20 (t : Int) : CR := ⟨true, (.sc (.int .i64 t)), [], []⟩
noncomputable def ks20 : List SK := [.agg [.int .i64, .int .i64], .agg [.int .i64, .int .i64]]
noncomputable def S20 (us : List AVal) : Call := bif chkA ks20 us then Call.of (F_vec_Dot (toI (cIa (aggL (cIa us 0)) 0)) (toI (cIa (aggL (cIa us 0)) 1)) (toI (cIa (aggL (cIa us 1)) 0)) (toI (cIa (aggL (cIa us 1)) 1))) enc20 else Call.none
noncomputable def C20 := AI.ext 20 S20 C12

theorem run20 (a_X : Int) (a_Y : Int) (b_X : Int) (b_Y : Int) : fcall TT TU noG C12 ownF true noL Try.f20 [(.agg [(.sc (.int .i64 a_X)), (.sc (.int .i64 a_Y))]), (.agg [(.sc (.int .i64 b_X)), (.sc (.int .i64 b_Y))])] = (F_vec_Dot a_X a_Y b_X b_Y).bind fun t => some (enc20 t) :=
  Eq.trans (b := (Option.bind (F_vec_nearest a_X a_Y) fun t => (Option.bind (F_vec_nearest b_X b_Y) fun t1 => (Option.bind (F_vec_dot t.1 t.2 t1.1 t1.2) fun t2 => (some (CR.mk true (i64 t2) [] [])))))) (by kernel_rfl)
    (n_bind fun t => (n_bind fun t1 => (n_bind fun t2 => rfl)))
theorem lib20 : Lib Try.prog noG C20 :=
  Lib.fn lib12 mixed TT_ok Try.func20 (by decide +kernel) (by kernel_rfl) true noL (loops_of 0 (by kernel_rfl) below0) ks20 (F := fun us => F_vec_Dot (toI (cIa (aggL (cIa us 0)) 0)) (toI (cIa (aggL (cIa us 0)) 1)) (toI (cIa (aggL (cIa us 1)) 0)) (toI (cIa (aggL (cIa us 1)) 1))) (fun us => rfl) (fun us => run20 (toI (cIa (aggL (cIa us 0)) 0)) (toI (cIa (aggL (cIa us 0)) 1)) (toI (cIa (aggL (cIa us 1)) 0)) (toI (cIa (aggL (cIa us 1)) 1))) (fun t => rfl)

/-! ### 22: skirmish/vec.Len2 -/



/-- 'skirmish/vec.Len2' -/
noncomputable def F_vec_Len2 (a_X : Int) (a_Y : Int) : Option (Int) :=
  Option.bind (F_vec_Dot a_X a_Y a_X a_Y) fun t =>
  some t
noncomputable def enc22 (t : Int) : CR := ⟨true, (.sc (.int .i64 t)), [], []⟩
noncomputable def ks22 : List SK := [.agg [.int .i64, .int .i64]]
noncomputable def S22 (us : List AVal) : Call := bif chkA ks22 us then Call.of (F_vec_Len2 (toI (cIa (aggL (cIa us 0)) 0)) (toI (cIa (aggL (cIa us 0)) 1))) enc22 else Call.none
noncomputable def C22 := AI.ext 22 S22 C20

theorem run22 (a_X : Int) (a_Y : Int) : fcall TT TU noG C20 ownF true noL Try.f22 [(.agg [(.sc (.int .i64 a_X)), (.sc (.int .i64 a_Y))])] = (F_vec_Len2 a_X a_Y).bind fun t => some (enc22 t) :=
  Eq.trans (b := (Option.bind (F_vec_Dot a_X a_Y a_X a_Y) fun t => (some (CR.mk true (i64 t) [] [])))) (by kernel_rfl)
    (n_bind fun t => rfl)
theorem lib22 : Lib Try.prog noG C22 :=
  Lib.fn lib20 mixed TT_ok Try.func22 (by decide +kernel) (by kernel_rfl) true noL (loops_of 0 (by kernel_rfl) below0) ks22 (F := fun us => F_vec_Len2 (toI (cIa (aggL (cIa us 0)) 0)) (toI (cIa (aggL (cIa us 0)) 1))) (fun us => rfl) (fun us => run22 (toI (cIa (aggL (cIa us 0)) 0)) (toI (cIa (aggL (cIa us 0)) 1))) (fun t => rfl)

/-! ### 24: skirmish/vec.Len -/



/-- 'skirmish/vec.Len' -/
noncomputable def F_vec_Len (a_X : Int) (a_Y : Int) : Option (Int) :=
  Option.bind (F_vec_Len2 a_X a_Y) fun t =>
  Option.bind (F_num_Isqrt t) fun t1 =>
  some t1
noncomputable def enc24 (t : Int) : CR := ⟨true, (.sc (.int .i64 t)), [], []⟩
noncomputable def ks24 : List SK := [.agg [.int .i64, .int .i64]]
noncomputable def S24 (us : List AVal) : Call := bif chkA ks24 us then Call.of (F_vec_Len (toI (cIa (aggL (cIa us 0)) 0)) (toI (cIa (aggL (cIa us 0)) 1))) enc24 else Call.none
noncomputable def C24 := AI.ext 24 S24 C22

theorem run24 (a_X : Int) (a_Y : Int) : fcall TT TU noG C22 ownF true noL Try.f24 [(.agg [(.sc (.int .i64 a_X)), (.sc (.int .i64 a_Y))])] = (F_vec_Len a_X a_Y).bind fun t => some (enc24 t) :=
  Eq.trans (b := (Option.bind (F_vec_Len2 a_X a_Y) fun t => (Option.bind (F_num_Isqrt t) fun t1 => (some (CR.mk true (i64 t1) [] []))))) (by kernel_rfl)
    (n_bind fun t => (n_bind fun t1 => rfl))
theorem lib24 : Lib Try.prog noG C24 :=
  Lib.fn lib22 mixed TT_ok Try.func24 (by decide +kernel) (by kernel_rfl) true noL (loops_of 0 (by kernel_rfl) below0) ks24 (F := fun us => F_vec_Len (toI (cIa (aggL (cIa us 0)) 0)) (toI (cIa (aggL (cIa us 0)) 1))) (fun us => rfl) (fun us => run24 (toI (cIa (aggL (cIa us 0)) 0)) (toI (cIa (aggL (cIa us 0)) 1))) (fun t => rfl)

/-! ### 16: skirmish/vec.Part -/



/-- 'skirmish/vec.Part' -/
noncomputable def F_vec_Part (a_X : Int) (a_Y : Int) (num : Int) (den : Int) : Option (Int × Int) :=
  Option.bind (F_vec_nearest a_X a_Y) fun t =>
  Option.bind (F_vec_near num) fun t1 =>
  Option.bind (F_vec_near den) fun t2 =>
  bif (t2 == (0 : Int)) then
    some ((0 : Int), (0 : Int))
  else
  Option.bind (F_vec_nearest (wr (Int.tdiv (wr (t.1 * t1)) t2)) (wr (Int.tdiv (wr (t.2 * t1)) t2))) fun t3 =>
  some (t3.1, t3.2)
noncomputable def enc16 (t : Int × Int) : CR := ⟨true, (.agg [(.sc (.int .i64 t.1)), (.sc (.int .i64 t.2))]), [], []⟩
noncomputable def ks16 : List SK := [.agg [.int .i64, .int .i64], .f (.int .i64), .f (.int .i64)]
noncomputable def S16 (us : List AVal) : Call := bif chkA ks16 us then Call.of (F_vec_Part (toI (cIa (aggL (cIa us 0)) 0)) (toI (cIa (aggL (cIa us 0)) 1)) (toI (cIa us 1)) (toI (cIa us 2))) enc16 else Call.none
noncomputable def C16 := AI.ext 16 S16 C24

theorem run16 (a_X : Int) (a_Y : Int) (num : Int) (den : Int) : fcall TT TU noG C24 ownF true noL Try.f16 [(.agg [(.sc (.int .i64 a_X)), (.sc (.int .i64 a_Y))]), (.sc (.int .i64 num)), (.sc (.int .i64 den))] = (F_vec_Part a_X a_Y num den).bind fun t => some (enc16 t) :=
  Eq.trans (b := (Option.bind (F_vec_nearest a_X a_Y) fun t => (Option.bind (F_vec_near num) fun t1 => (Option.bind (F_vec_near den) fun t2 => (bif (t2 == (0 : Int)) then (some (CR.mk true (AVal.agg [(i64 (0 : Int)), (i64 (0 : Int))]) [] [])) else (bif (t2 == (0 : Int)) then none else (bif (t2 == (0 : Int)) then none else (Option.bind (F_vec_nearest (wr (Int.tdiv (wr (t.1 * t1)) t2)) (wr (Int.tdiv (wr (t.2 * t1)) t2))) fun t3 => (some (CR.mk true (AVal.agg [(i64 t3.1), (i64 t3.2)]) [] [])))))))))) (by kernel_rfl)
    (n_bind fun t => (n_bind fun t1 => (n_bind fun t2 => (n_condH rfl (fun h0 => rfl) fun h0 => (n_false h0 (n_false h0 (n_bind fun t3 => rfl)))))))
theorem lib16 : Lib Try.prog noG C16 :=
  Lib.fn lib24 mixed TT_ok Try.func16 (by decide +kernel) (by kernel_rfl) true noL (loops_of 0 (by kernel_rfl) below0) ks16 (F := fun us => F_vec_Part (toI (cIa (aggL (cIa us 0)) 0)) (toI (cIa (aggL (cIa us 0)) 1)) (toI (cIa us 1)) (toI (cIa us 2))) (fun us => rfl) (fun us => run16 (toI (cIa (aggL (cIa us 0)) 0)) (toI (cIa (aggL (cIa us 0)) 1)) (toI (cIa us 1)) (toI (cIa us 2))) (fun t => rfl)

/-! ### 39: skirmish/vec.sum -/

noncomputable def W39_0 : Ex → List Bool
  | .ret => [false, false, true, false, false, false, false, false, false, false, false, false, false, false, false, false, false, false, false, false, false, false, false, false, false, false, false]
  | .exit n => bif Nat.beq n 0 then [false, false, true, true, false, false, false, false, false, false, false, false, false, false, false, false, false, false, false, false, false, false, false, false, false, false, false] else []
  | .normal => []
noncomputable def G_vec_sum_0 (x6 : List (List AVal)) (x7 : Int) : Nat → Int → Int → Int → Option (Int × Int)
  | 0, _, _, _ => none
  | m + 1, x8, b1_0, b1_1 =>
    bif (decide (x8 < x7)) then
      bif (decide ((0 : Int) ≤ x8)) then
        Option.bind (x6[x8.toNat]?) fun r =>
        bif (chk [(LT.int IntKind.i64), (LT.int IntKind.i64)] r) then
          G_vec_sum_0 x6 x7 m (wr (x8 + (1 : Int))) (wr (b1_0 + (cI r 0))) (wr (b1_1 + (cI r 1)))
        else
        none
      else
      none
    else
    some (b1_0, b1_1)
noncomputable def E39_0 (x6 : List (List AVal)) (x7 : Int) (x8 : Int) (b0_0 : Int) (b0_1 : Int) (b1_0 : Int) (b1_1 : Int) : St := ⟨[.dead, .dead, (.ref 8000 1 0 0), (.ref 9600 1 0 0), .dead, .dead, (.ro 2 x6), (.sc (.int .i64 x7)), (.sc (.int .i64 x8)), .dead, .dead, .dead, .dead, .dead, .dead, .dead, .dead, .dead, .dead, .dead, .dead, .dead, .dead, .dead, .dead, .dead, .dead], [(8000, ⟨.box, 23, 2, [[(.sc (.int .i64 b0_0)), (.sc (.int .i64 b0_1))]]⟩), (9600, ⟨.box, 23, 2, [[(.sc (.int .i64 b1_0)), (.sc (.int .i64 b1_1))]]⟩)]⟩
noncomputable def X39_0 (b0_0 : Int) (b0_1 : Int) (k : Ex → St → Option CR) (t : Int × Int) : Option CR := k (.exit 0) ⟨[.dead, .dead, (.ref 8000 1 0 0), (.ref 9600 1 0 0), .dead, .dead, .dead, .dead, .dead, .dead, .dead, .dead, .dead, .dead, .dead, .dead, .dead, .dead, .dead, .dead, .dead, .dead, .dead, .dead, .dead, .dead, .dead], [(8000, ⟨.box, 23, 2, [[(.sc (.int .i64 b0_0)), (.sc (.int .i64 b0_1))]]⟩), (9600, ⟨.box, 23, 2, [[(.sc (.int .i64 t.1)), (.sc (.int .i64 t.2))]]⟩)]⟩
noncomputable def ks39_0 : List SK := [.f .dead, .f .dead, .f (.ref 8000 1 0 0), .f (.ref 9600 1 0 0), .f .dead, .f .dead, .f (.ro 2), .f (.int .i64), .f (.int .i64), .f .dead, .f .dead, .f .dead, .f .dead, .f .dead, .f .dead, .f .dead, .f .dead, .f .dead, .f .dead, .f .dead, .f .dead, .f .dead, .f .dead, .f .dead, .f .dead, .f .dead, .f .dead]
noncomputable def hs39_0 : List HK := [⟨8000, .box, 23, 2, some [.int .i64, .int .i64]⟩, ⟨9600, .box, 23, 2, some [.int .i64, .int .i64]⟩]
noncomputable def L39_0 (s : St) (k : Ex → St → Option CR) : Option CR := bif chkS ks39_0 hs39_0 s then (G_vec_sum_0 (roRows (cIa s.tmps 6)) (toI (cIa s.tmps 7)) FU (toI (cIa s.tmps 8)) (toI (cIa (rows0 (blkAt s.heap 1).2) 0)) (toI (cIa (rows0 (blkAt s.heap 1).2) 1))).bind (X39_0 (toI (cIa (rows0 (blkAt s.heap 0).2) 0)) (toI (cIa (rows0 (blkAt s.heap 0).2) 1)) k) else none

noncomputable def L39 : LT' := fun i s k => bif Nat.beq i 0 then L39_0 s k else none

/-- 'skirmish/vec.sum' -/
noncomputable def F_vec_sum (terms : List (List AVal)) : Option (Int × Int) :=
  Option.bind (G_vec_sum_0 terms (Int.ofNat terms.length) FU (0 : Int) (0 : Int) (0 : Int)) fun t =>
  Option.bind (F_vec_nearest t.1 t.2) fun t1 =>
  some (t1.1, t1.2)
noncomputable def enc39 (t : Int × Int) : CR := ⟨true, (.agg [(.sc (.int .i64 t.1)), (.sc (.int .i64 t.2))]), [], []⟩
noncomputable def ks39 : List SK := [.f (.ro 2)]
noncomputable def S39 (us : List AVal) : Call := bif chkA ks39 us then Call.of (F_vec_sum (roRows (cIa us 0))) enc39 else Call.none
noncomputable def C39 := AI.ext 39 S39 C16

@[reducible] noncomputable def B39_0 := bodyOf TT TU noG C16 ownF L39 (lp Try.f39 0)
@[reducible] noncomputable def K39_0 (k : Ex → St → Option CR) : Ex → St → Option CR := fun e s => k e (maskS (W39_0 e) s)
theorem spec39_0 (k : Ex → St → Option CR) : ∀ (m : Nat) (x6 : List (List AVal)) (x7 : Int) (x8 : Int) (b0_0 : Int) (b0_1 : Int) (b1_0 : Int) (b1_1 : Int), loopN B39_0 m (E39_0 x6 x7 x8 b0_0 b0_1 b1_0 b1_1) (K39_0 k) = (G_vec_sum_0 x6 x7 m x8 b1_0 b1_1).bind (X39_0 b0_0 b0_1 k)
  | 0, _, _, _, _, _, _, _ => rfl
  | m + 1, x6, x7, x8, b0_0, b0_1, b1_0, b1_1 =>
    Eq.trans (b := (bif (decide (x8 < x7)) then (bif (decide ((0 : Int) ≤ x8)) then (Option.bind (x6[x8.toNat]?) fun r => (bif (chk [(LT.int IntKind.i64), (LT.int IntKind.i64)] r) then (loopN B39_0 m ⟨[.dead, .dead, (AVal.ref 8000 1 0 0), (AVal.ref 9600 1 0 0), .dead, .dead, (AVal.ro 2 x6), (i64 x7), (i64 (wr (x8 + (1 : Int)))), .dead, .dead, .dead, .dead, .dead, .dead, .dead, .dead, .dead, .dead, .dead, .dead, .dead, .dead, .dead, .dead, .dead, .dead], [(Prod.mk 8000 (Blk.mk BKind.box 23 2 [[(i64 b0_0), (i64 b0_1)]])), (Prod.mk 9600 (Blk.mk BKind.box 23 2 [[(i64 (wr (b1_0 + (cI r 0)))), (i64 (wr (b1_1 + (cI r 1))))]]))]⟩ (K39_0 k)) else none)) else none) else (k (.exit 0) ⟨[.dead, .dead, (AVal.ref 8000 1 0 0), (AVal.ref 9600 1 0 0), .dead, .dead, .dead, .dead, .dead, .dead, .dead, .dead, .dead, .dead, .dead, .dead, .dead, .dead, .dead, .dead, .dead, .dead, .dead, .dead, .dead, .dead, .dead], [(Prod.mk 8000 (Blk.mk BKind.box 23 2 [[(i64 b0_0), (i64 b0_1)]])), (Prod.mk 9600 (Blk.mk BKind.box 23 2 [[(i64 b1_0), (i64 b1_1)]]))]⟩))) (by kernel_rfl)
      (n_condH rfl (fun h0 => (n_condH rfl (fun h1 => (n_bind fun r => (n_condH rfl (fun h2 => (spec39_0 k m x6 x7 (wr (x8 + (1 : Int))) b0_0 b0_1 (wr (b1_0 + (cI r 0))) (wr (b1_1 + (cI r 1))))) fun h2 => n_none))) fun h1 => n_none)) fun h0 => rfl)
theorem okL39_0 : LoopOk TT TU noG C16 ownF L39 (lp Try.f39 0) :=
  loopOk_of ks39_0 hs39_0 W39_0 FU (fun s k => (G_vec_sum_0 (roRows (cIa s.tmps 6)) (toI (cIa s.tmps 7)) FU (toI (cIa s.tmps 8)) (toI (cIa (rows0 (blkAt s.heap 1).2) 0)) (toI (cIa (rows0 (blkAt s.heap 1).2) 1))).bind (X39_0 (toI (cIa (rows0 (blkAt s.heap 0).2) 0)) (toI (cIa (rows0 (blkAt s.heap 0).2) 1)) k)) (fun s k => by kernel_rfl) (fun s k => spec39_0 k FU (roRows (cIa s.tmps 6)) (toI (cIa s.tmps 7)) (toI (cIa s.tmps 8)) (toI (cIa (rows0 (blkAt s.heap 0).2) 0)) (toI (cIa (rows0 (blkAt s.heap 0).2) 1)) (toI (cIa (rows0 (blkAt s.heap 1).2) 0)) (toI (cIa (rows0 (blkAt s.heap 1).2) 1)))
theorem run39 (terms : List (List AVal)) : fcall TT TU noG C16 ownF true L39 Try.f39 [(.ro 2 terms)] = (F_vec_sum terms).bind fun t => some (enc39 t) :=
  Eq.trans (b := (Option.bind (G_vec_sum_0 terms (Int.ofNat terms.length) FU (0 : Int) (0 : Int) (0 : Int)) fun t => (Option.bind (F_vec_nearest t.1 t.2) fun t1 => (some (CR.mk true (AVal.agg [(i64 t1.1), (i64 t1.2)]) [] []))))) (by kernel_rfl)
    (n_bind fun t => (n_bind fun t1 => rfl))
theorem lib39 : Lib Try.prog noG C39 :=
  Lib.fn lib16 mixed TT_ok Try.func39 (by decide +kernel) (by kernel_rfl) true L39 (loops_of 1 (by kernel_rfl) (belowS below0 okL39_0)) ks39 (F := fun us => F_vec_sum (roRows (cIa us 0))) (fun us => rfl) (fun us => run39 (roRows (cIa us 0))) (fun t => rfl)

/-! ### 27: skirmish/vec.Add -/



/-- 'skirmish/vec.Add' -/
noncomputable def F_vec_Add (a_X : Int) (a_Y : Int) (b_X : Int) (b_Y : Int) : Option (Int × Int) :=
  Option.bind (F_vec_nearest a_X a_Y) fun t =>
  Option.bind (F_vec_nearest b_X b_Y) fun t1 =>
  Option.bind (F_vec_sum [[(i64 t.1), (i64 t.2)], [(i64 t1.1), (i64 t1.2)]]) fun t2 =>
  some (t2.1, t2.2)
noncomputable def enc27 (t : Int × Int) : CR := ⟨true, (.agg [(.sc (.int .i64 t.1)), (.sc (.int .i64 t.2))]), [], []⟩
noncomputable def ks27 : List SK := [.agg [.int .i64, .int .i64], .agg [.int .i64, .int .i64]]
noncomputable def S27 (us : List AVal) : Call := bif chkA ks27 us then Call.of (F_vec_Add (toI (cIa (aggL (cIa us 0)) 0)) (toI (cIa (aggL (cIa us 0)) 1)) (toI (cIa (aggL (cIa us 1)) 0)) (toI (cIa (aggL (cIa us 1)) 1))) enc27 else Call.none
noncomputable def C27 := AI.ext 27 S27 C39

theorem run27 (a_X : Int) (a_Y : Int) (b_X : Int) (b_Y : Int) : fcall TT TU noG C39 ownF true noL Try.f27 [(.agg [(.sc (.int .i64 a_X)), (.sc (.int .i64 a_Y))]), (.agg [(.sc (.int .i64 b_X)), (.sc (.int .i64 b_Y))])] = (F_vec_Add a_X a_Y b_X b_Y).bind fun t => some (enc27 t) :=
  Eq.trans (b := (Option.bind (F_vec_nearest a_X a_Y) fun t => (Option.bind (F_vec_nearest b_X b_Y) fun t1 => (Option.bind (F_vec_sum [[(i64 t.1), (i64 t.2)], [(i64 t1.1), (i64 t1.2)]]) fun t2 => (some (CR.mk true (AVal.agg [(i64 t2.1), (i64 t2.2)]) [] [])))))) (by kernel_rfl)
    (n_bind fun t => (n_bind fun t1 => (n_bind fun t2 => rfl)))
theorem lib27 : Lib Try.prog noG C27 :=
  Lib.fn lib39 mixed TT_ok Try.func27 (by decide +kernel) (by kernel_rfl) true noL (loops_of 0 (by kernel_rfl) below0) ks27 (F := fun us => F_vec_Add (toI (cIa (aggL (cIa us 0)) 0)) (toI (cIa (aggL (cIa us 0)) 1)) (toI (cIa (aggL (cIa us 1)) 0)) (toI (cIa (aggL (cIa us 1)) 1))) (fun us => rfl) (fun us => run27 (toI (cIa (aggL (cIa us 0)) 0)) (toI (cIa (aggL (cIa us 0)) 1)) (toI (cIa (aggL (cIa us 1)) 0)) (toI (cIa (aggL (cIa us 1)) 1))) (fun t => rfl)

/-! ### 13: skirmish/skirmishlaw02.alive -/



/-- 'skirmish/skirmishlaw02.alive' -/
noncomputable def F_skirmishlaw02_alive : Option (Bool) :=
  Option.bind (F_vec_Toward (0 : Int) (0 : Int) (30 : Int) (40 : Int) (10 : Int)) fun t =>
  bif ((t.1 == (6 : Int)) && (t.2 == (8 : Int))) then
    Option.bind (F_vec_Len (3 : Int) (4 : Int)) fun t1 =>
    bif (t1 == (5 : Int)) then
      Option.bind (F_vec_Part (-(7 : Int)) (7 : Int) (1 : Int) (2 : Int)) fun t2 =>
      bif ((t2.1 == (-(3 : Int))) && (t2.2 == (3 : Int))) then
        Option.bind (F_vec_Add (1048576 : Int) (0 : Int) (1 : Int) (0 : Int)) fun t3 =>
        bif (t3.1 == (1048576 : Int)) then
          Option.bind (F_vec_Within (0 : Int) (0 : Int) t.1 t.2 (10 : Int)) fun t4 =>
          bif t4 then
            Option.bind (F_vec_Within (0 : Int) (0 : Int) t.1 t.2 (9 : Int)) fun t5 =>
            some (!t5)
          else
          some false
        else
        some false
      else
      some false
    else
    some false
  else
  some false
noncomputable def enc13 (t : Bool) : CR := ⟨true, (.sc (.bool t)), [], []⟩
noncomputable def ks13 : List SK := []
noncomputable def S13 (us : List AVal) : Call := bif chkA ks13 us then Call.of (F_skirmishlaw02_alive) enc13 else Call.none
noncomputable def C13 := AI.ext 13 S13 C27

theorem run13 : fcall TT TU noG C27 ownF true noL Try.f13 [] = (F_skirmishlaw02_alive).bind fun t => some (enc13 t) :=
  Eq.trans (b := (Option.bind (F_vec_Toward (0 : Int) (0 : Int) (30 : Int) (40 : Int) (10 : Int)) fun t => (bif ((t.1 == (6 : Int)) && (t.2 == (8 : Int))) then (Option.bind (F_vec_Len (3 : Int) (4 : Int)) fun t1 => (bif (t1 == (5 : Int)) then (Option.bind (F_vec_Part (-(7 : Int)) (7 : Int) (1 : Int) (2 : Int)) fun t2 => (bif ((t2.1 == (-(3 : Int))) && (t2.2 == (3 : Int))) then (Option.bind (F_vec_Add (1048576 : Int) (0 : Int) (1 : Int) (0 : Int)) fun t3 => (bif (t3.1 == (1048576 : Int)) then (Option.bind (F_vec_Within (0 : Int) (0 : Int) t.1 t.2 (10 : Int)) fun t4 => (bif t4 then (Option.bind (F_vec_Within (0 : Int) (0 : Int) t.1 t.2 (9 : Int)) fun t5 => (some (CR.mk true (bo (!t5)) [] []))) else (some (CR.mk true (bo false) [] [])))) else (some (CR.mk true (bo false) [] [])))) else (some (CR.mk true (bo false) [] [])))) else (some (CR.mk true (bo false) [] [])))) else (some (CR.mk true (bo false) [] []))))) (by kernel_rfl)
    (n_bind fun t => (n_condH rfl (fun h0 => (n_bind fun t1 => (n_condH rfl (fun h1 => (n_bind fun t2 => (n_condH rfl (fun h2 => (n_bind fun t3 => (n_condH rfl (fun h3 => (n_bind fun t4 => (n_condH rfl (fun h4 => (n_bind fun t5 => rfl)) fun h4 => rfl))) fun h3 => rfl))) fun h2 => rfl))) fun h1 => rfl))) fun h0 => rfl))
theorem lib13 : Lib Try.prog noG C13 :=
  Lib.fn lib27 mixed TT_ok Try.func13 (by decide +kernel) (by kernel_rfl) true noL (loops_of 0 (by kernel_rfl) below0) ks13 (F := fun us => F_skirmishlaw02_alive) (fun us => rfl) (fun us => run13) (fun t => rfl)

/-! ### 3: skirmish/skirmishlaw02.VecToward -/



/-- 'skirmish/skirmishlaw02.VecToward' -/
noncomputable def F_skirmishlaw02_VecToward (a_X : Int) (a_Y : Int) (b_X : Int) (b_Y : Int) (n : Int) : Option (Bool) :=
  Option.bind (F_vec_Toward a_X a_Y b_X b_Y n) fun t =>
  Option.bind (F_skirmishref02_Toward a_X a_Y b_X b_Y n) fun t1 =>
  bif ((t.1 == t1.1) && (t.2 == t1.2)) then
    Option.bind (F_vec_Within a_X a_Y b_X b_Y n) fun t2 =>
    Option.bind (F_skirmishref02_Within a_X a_Y b_X b_Y n) fun t3 =>
    bif (t2 == t3) then
      Option.bind F_skirmishlaw02_alive fun t4 =>
      some t4
    else
    some false
  else
  some false
noncomputable def enc3 (t : Bool) : CR := ⟨true, (.sc (.bool t)), [], []⟩
noncomputable def ks3 : List SK := [.agg [.int .i64, .int .i64], .agg [.int .i64, .int .i64], .f (.int .i64)]
noncomputable def S3 (us : List AVal) : Call := bif chkA ks3 us then Call.of (F_skirmishlaw02_VecToward (toI (cIa (aggL (cIa us 0)) 0)) (toI (cIa (aggL (cIa us 0)) 1)) (toI (cIa (aggL (cIa us 1)) 0)) (toI (cIa (aggL (cIa us 1)) 1)) (toI (cIa us 2))) enc3 else Call.none
noncomputable def C3 := AI.ext 3 S3 C13

theorem run3 (a_X : Int) (a_Y : Int) (b_X : Int) (b_Y : Int) (n : Int) : fcall TT TU noG C13 ownF true noL Try.f3 [(.agg [(.sc (.int .i64 a_X)), (.sc (.int .i64 a_Y))]), (.agg [(.sc (.int .i64 b_X)), (.sc (.int .i64 b_Y))]), (.sc (.int .i64 n))] = (F_skirmishlaw02_VecToward a_X a_Y b_X b_Y n).bind fun t => some (enc3 t) :=
  Eq.trans (b := (Option.bind (F_vec_Toward a_X a_Y b_X b_Y n) fun t => (Option.bind (F_skirmishref02_Toward a_X a_Y b_X b_Y n) fun t1 => (bif ((t.1 == t1.1) && (t.2 == t1.2)) then (Option.bind (F_vec_Within a_X a_Y b_X b_Y n) fun t2 => (Option.bind (F_skirmishref02_Within a_X a_Y b_X b_Y n) fun t3 => (bif (t2 == t3) then (Option.bind F_skirmishlaw02_alive fun t4 => (some (CR.mk true (bo t4) [] []))) else (some (CR.mk true (bo false) [] []))))) else (some (CR.mk true (bo false) [] [])))))) (by kernel_rfl)
    (n_bind fun t => (n_bind fun t1 => (n_condH rfl (fun h0 => (n_bind fun t2 => (n_bind fun t3 => (n_condH rfl (fun h1 => (n_bind fun t4 => rfl)) fun h1 => rfl)))) fun h0 => rfl)))
theorem lib3 : Lib Try.prog noG C3 :=
  Lib.fn lib13 mixed TT_ok Try.func3 (by decide +kernel) (by kernel_rfl) true noL (loops_of 0 (by kernel_rfl) below0) ks3 (F := fun us => F_skirmishlaw02_VecToward (toI (cIa (aggL (cIa us 0)) 0)) (toI (cIa (aggL (cIa us 0)) 1)) (toI (cIa (aggL (cIa us 1)) 0)) (toI (cIa (aggL (cIa us 1)) 1)) (toI (cIa us 2))) (fun us => rfl) (fun us => run3 (toI (cIa (aggL (cIa us 0)) 0)) (toI (cIa (aggL (cIa us 0)) 1)) (toI (cIa (aggL (cIa us 1)) 0)) (toI (cIa (aggL (cIa us 1)) 1)) (toI (cIa us 2))) (fun t => rfl)

/-! ### 4: skirmish/skirmishlaw02.VecArrives -/

noncomputable def W4_0 : Ex → List Bool
  | .ret => [false, false, false, false, false, false, true, false, false, false, false, false, false, false, false, false, false, false, false, false, false, false, false, false, false, false, false, false, false, false, false, false, false, false, false, false, false, false, false, false, false, false]
  | .exit n => bif Nat.beq n 0 then [false, false, false, false, false, false, false, false, false, false, false, false, false, false, false, false, false, false, false, false, false, false, false, false, false, false, false, false, false, false, false, false, false, false, false, false, false, false, false, false, false, false] else []
  | .normal => []
noncomputable def G_skirmishlaw02_VecArrives_0 (speed : Int) (b1_0 : Int) (b1_1 : Int) : Nat → Int → Int → Int → Option (Bool × Int × Int × Int × Int × Int × Int)
  | 0, _, _, _ => none
  | m + 1, i, b2_0, b2_1 =>
    bif (decide (i < (40 : Int))) then
      Option.bind (F_vec_Toward b2_0 b2_1 b1_0 b1_1 speed) fun t =>
      Option.bind (F_skirmishref02_Toward b2_0 b2_1 b1_0 b1_1 speed) fun t1 =>
      bif (!((t.1 == t1.1) && (t.2 == t1.2))) then
        some (true, 0, 0, b2_0, b2_1, t.1, t.2)
      else
      bif (!((t.1 == b2_0) && (t.2 == b2_1))) then
        Option.bind (F_skirmishref02_Far t.1 t.2 b1_0 b1_1) fun t2 =>
        Option.bind (F_skirmishref02_Far b2_0 b2_1 b1_0 b1_1) fun t3 =>
        bif (decide (t2 ≥ t3)) then
          some (true, 0, 0, b2_0, b2_1, t.1, t.2)
        else
        G_skirmishlaw02_VecArrives_0 speed b1_0 b1_1 m (wr (i + (1 : Int))) t.1 t.2
      else
      G_skirmishlaw02_VecArrives_0 speed b1_0 b1_1 m (wr (i + (1 : Int))) t.1 t.2
    else
    some (false, b2_0, b2_1, 0, 0, 0, 0)
noncomputable def E4_0 (speed : Int) (i : Int) (b0_0 : Int) (b0_1 : Int) (b1_0 : Int) (b1_1 : Int) (b2_0 : Int) (b2_1 : Int) : St := ⟨[.dead, .dead, (.sc (.int .i64 speed)), .dead, (.ref 8008 1 0 0), .dead, .dead, (.ref 9616 1 0 0), (.sc (.int .i64 i)), .dead, .dead, .dead, .dead, .dead, .dead, .dead, .dead, .dead, .dead, .dead, .dead, .dead, .dead, .dead, .dead, .dead, .dead, .dead, .dead, .dead, .dead, .dead, .dead, .dead, .dead, .dead, .dead, .dead, .dead, .dead, .dead, .dead], [(8000, ⟨.box, 23, 2, [[(.sc (.int .i64 b0_0)), (.sc (.int .i64 b0_1))]]⟩), (8008, ⟨.box, 23, 2, [[(.sc (.int .i64 b1_0)), (.sc (.int .i64 b1_1))]]⟩), (9616, ⟨.box, 23, 2, [[(.sc (.int .i64 b2_0)), (.sc (.int .i64 b2_1))]]⟩)]⟩
noncomputable def X4_0 (b0_0 : Int) (b0_1 : Int) (b1_0 : Int) (b1_1 : Int) (k : Ex → St → Option CR) (t : Bool × Int × Int × Int × Int × Int × Int) : Option CR := bif t.1 then k .ret ⟨[.dead, .dead, .dead, .dead, .dead, .dead, (.sc (.bool false)), .dead, .dead, .dead, .dead, .dead, .dead, .dead, .dead, .dead, .dead, .dead, .dead, .dead, .dead, .dead, .dead, .dead, .dead, .dead, .dead, .dead, .dead, .dead, .dead, .dead, .dead, .dead, .dead, .dead, .dead, .dead, .dead, .dead, .dead, .dead], [(8000, ⟨.box, 23, 2, [[(.sc (.int .i64 b0_0)), (.sc (.int .i64 b0_1))]]⟩), (8008, ⟨.box, 23, 2, [[(.sc (.int .i64 b1_0)), (.sc (.int .i64 b1_1))]]⟩), (9616, ⟨.box, 23, 2, [[(.sc (.int .i64 t.2.2.2.1)), (.sc (.int .i64 t.2.2.2.2.1))]]⟩), (16032, ⟨.box, 23, 2, [[(.sc (.int .i64 t.2.2.2.2.2.1)), (.sc (.int .i64 t.2.2.2.2.2.2))]]⟩)]⟩ else k (.exit 0) ⟨[.dead, .dead, .dead, .dead, .dead, .dead, .dead, .dead, .dead, .dead, .dead, .dead, .dead, .dead, .dead, .dead, .dead, .dead, .dead, .dead, .dead, .dead, .dead, .dead, .dead, .dead, .dead, .dead, .dead, .dead, .dead, .dead, .dead, .dead, .dead, .dead, .dead, .dead, .dead, .dead, .dead, .dead], [(8000, ⟨.box, 23, 2, [[(.sc (.int .i64 b0_0)), (.sc (.int .i64 b0_1))]]⟩), (8008, ⟨.box, 23, 2, [[(.sc (.int .i64 b1_0)), (.sc (.int .i64 b1_1))]]⟩), (9616, ⟨.box, 23, 2, [[(.sc (.int .i64 t.2.1)), (.sc (.int .i64 t.2.2.1))]]⟩)]⟩
noncomputable def ks4_0 : List SK := [.f .dead, .f .dead, .f (.int .i64), .f .dead, .f (.ref 8008 1 0 0), .f .dead, .f .dead, .f (.ref 9616 1 0 0), .f (.int .i64), .f .dead, .f .dead, .f .dead, .f .dead, .f .dead, .f .dead, .f .dead, .f .dead, .f .dead, .f .dead, .f .dead, .f .dead, .f .dead, .f .dead, .f .dead, .f .dead, .f .dead, .f .dead, .f .dead, .f .dead, .f .dead, .f .dead, .f .dead, .f .dead, .f .dead, .f .dead, .f .dead, .f .dead, .f .dead, .f .dead, .f .dead, .f .dead, .f .dead]
noncomputable def hs4_0 : List HK := [⟨8000, .box, 23, 2, some [.int .i64, .int .i64]⟩, ⟨8008, .box, 23, 2, some [.int .i64, .int .i64]⟩, ⟨9616, .box, 23, 2, some [.int .i64, .int .i64]⟩]
noncomputable def L4_0 (s : St) (k : Ex → St → Option CR) : Option CR := bif chkS ks4_0 hs4_0 s then (G_skirmishlaw02_VecArrives_0 (toI (cIa s.tmps 2)) (toI (cIa (rows0 (blkAt s.heap 1).2) 0)) (toI (cIa (rows0 (blkAt s.heap 1).2) 1)) FU (toI (cIa s.tmps 8)) (toI (cIa (rows0 (blkAt s.heap 2).2) 0)) (toI (cIa (rows0 (blkAt s.heap 2).2) 1))).bind (X4_0 (toI (cIa (rows0 (blkAt s.heap 0).2) 0)) (toI (cIa (rows0 (blkAt s.heap 0).2) 1)) (toI (cIa (rows0 (blkAt s.heap 1).2) 0)) (toI (cIa (rows0 (blkAt s.heap 1).2) 1)) k) else none

noncomputable def L4 : LT' := fun i s k => bif Nat.beq i 0 then L4_0 s k else none

/-- 'skirmish/skirmishlaw02.VecArrives' -/
noncomputable def F_skirmishlaw02_VecArrives (a_X : Int) (a_Y : Int) (b_X : Int) (b_Y : Int) (speed : Int) : Option (Bool) :=
  Option.bind (F_skirmishref02_NearVec a_X a_Y) fun t =>
  Option.bind (G_skirmishlaw02_VecArrives_0 speed b_X b_Y FU (0 : Int) t.1 t.2) fun t1 =>
  bif t1.1 then
    some false
  else
  Option.bind F_skirmishlaw02_alive fun t2 =>
  some t2
noncomputable def enc4 (t : Bool) : CR := ⟨true, (.sc (.bool t)), [], []⟩
noncomputable def ks4 : List SK := [.agg [.int .i64, .int .i64], .agg [.int .i64, .int .i64], .f (.int .i64)]
noncomputable def S4 (us : List AVal) : Call := bif chkA ks4 us then Call.of (F_skirmishlaw02_VecArrives (toI (cIa (aggL (cIa us 0)) 0)) (toI (cIa (aggL (cIa us 0)) 1)) (toI (cIa (aggL (cIa us 1)) 0)) (toI (cIa (aggL (cIa us 1)) 1)) (toI (cIa us 2))) enc4 else Call.none
noncomputable def C4 := AI.ext 4 S4 C3

@[reducible] noncomputable def B4_0 := bodyOf TT TU noG C3 ownF L4 (lp Try.f4 0)
@[reducible] noncomputable def K4_0 (k : Ex → St → Option CR) : Ex → St → Option CR := fun e s => k e (maskS (W4_0 e) s)
theorem spec4_0 (k : Ex → St → Option CR) : ∀ (m : Nat) (speed : Int) (i : Int) (b0_0 : Int) (b0_1 : Int) (b1_0 : Int) (b1_1 : Int) (b2_0 : Int) (b2_1 : Int), loopN B4_0 m (E4_0 speed i b0_0 b0_1 b1_0 b1_1 b2_0 b2_1) (K4_0 k) = (G_skirmishlaw02_VecArrives_0 speed b1_0 b1_1 m i b2_0 b2_1).bind (X4_0 b0_0 b0_1 b1_0 b1_1 k)
  | 0, _, _, _, _, _, _, _, _ => rfl
  | m + 1, speed, i, b0_0, b0_1, b1_0, b1_1, b2_0, b2_1 =>
    Eq.trans (b := (bif (decide (i < (40 : Int))) then (Option.bind (F_vec_Toward b2_0 b2_1 b1_0 b1_1 speed) fun t => (Option.bind (F_skirmishref02_Toward b2_0 b2_1 b1_0 b1_1 speed) fun t1 => (bif (!((t.1 == t1.1) && (t.2 == t1.2))) then (k .ret ⟨[.dead, .dead, .dead, .dead, .dead, .dead, (bo false), .dead, .dead, .dead, .dead, .dead, .dead, .dead, .dead, .dead, .dead, .dead, .dead, .dead, .dead, .dead, .dead, .dead, .dead, .dead, .dead, .dead, .dead, .dead, .dead, .dead, .dead, .dead, .dead, .dead, .dead, .dead, .dead, .dead, .dead, .dead], [(Prod.mk 8000 (Blk.mk BKind.box 23 2 [[(i64 b0_0), (i64 b0_1)]])), (Prod.mk 8008 (Blk.mk BKind.box 23 2 [[(i64 b1_0), (i64 b1_1)]])), (Prod.mk 9616 (Blk.mk BKind.box 23 2 [[(i64 b2_0), (i64 b2_1)]])), (Prod.mk 16032 (Blk.mk BKind.box 23 2 [[(i64 t.1), (i64 t.2)]]))]⟩) else (bif (!((t.1 == b2_0) && (t.2 == b2_1))) then (Option.bind (F_skirmishref02_Far t.1 t.2 b1_0 b1_1) fun t2 => (Option.bind (F_skirmishref02_Far b2_0 b2_1 b1_0 b1_1) fun t3 => (bif (decide (t2 ≥ t3)) then (k .ret ⟨[.dead, .dead, .dead, .dead, .dead, .dead, (bo false), .dead, .dead, .dead, .dead, .dead, .dead, .dead, .dead, .dead, .dead, .dead, .dead, .dead, .dead, .dead, .dead, .dead, .dead, .dead, .dead, .dead, .dead, .dead, .dead, .dead, .dead, .dead, .dead, .dead, .dead, .dead, .dead, .dead, .dead, .dead], [(Prod.mk 8000 (Blk.mk BKind.box 23 2 [[(i64 b0_0), (i64 b0_1)]])), (Prod.mk 8008 (Blk.mk BKind.box 23 2 [[(i64 b1_0), (i64 b1_1)]])), (Prod.mk 9616 (Blk.mk BKind.box 23 2 [[(i64 b2_0), (i64 b2_1)]])), (Prod.mk 16032 (Blk.mk BKind.box 23 2 [[(i64 t.1), (i64 t.2)]]))]⟩) else (loopN B4_0 m ⟨[.dead, .dead, (i64 speed), .dead, (AVal.ref 8008 1 0 0), .dead, .dead, (AVal.ref 9616 1 0 0), (i64 (wr (i + (1 : Int)))), .dead, .dead, .dead, .dead, .dead, .dead, .dead, .dead, .dead, .dead, .dead, .dead, .dead, .dead, .dead, .dead, .dead, .dead, .dead, .dead, .dead, .dead, .dead, .dead, .dead, .dead, .dead, .dead, .dead, .dead, .dead, .dead, .dead], [(Prod.mk 8000 (Blk.mk BKind.box 23 2 [[(i64 b0_0), (i64 b0_1)]])), (Prod.mk 8008 (Blk.mk BKind.box 23 2 [[(i64 b1_0), (i64 b1_1)]])), (Prod.mk 9616 (Blk.mk BKind.box 23 2 [[(i64 t.1), (i64 t.2)]]))]⟩ (K4_0 k))))) else (loopN B4_0 m ⟨[.dead, .dead, (i64 speed), .dead, (AVal.ref 8008 1 0 0), .dead, .dead, (AVal.ref 9616 1 0 0), (i64 (wr (i + (1 : Int)))), .dead, .dead, .dead, .dead, .dead, .dead, .dead, .dead, .dead, .dead, .dead, .dead, .dead, .dead, .dead, .dead, .dead, .dead, .dead, .dead, .dead, .dead, .dead, .dead, .dead, .dead, .dead, .dead, .dead, .dead, .dead, .dead, .dead], [(Prod.mk 8000 (Blk.mk BKind.box 23 2 [[(i64 b0_0), (i64 b0_1)]])), (Prod.mk 8008 (Blk.mk BKind.box 23 2 [[(i64 b1_0), (i64 b1_1)]])), (Prod.mk 9616 (Blk.mk BKind.box 23 2 [[(i64 t.1), (i64 t.2)]]))]⟩ (K4_0 k)))))) else (k (.exit 0) ⟨[.dead, .dead, .dead, .dead, .dead, .dead, .dead, .dead, .dead, .dead, .dead, .dead, .dead, .dead, .dead, .dead, .dead, .dead, .dead, .dead, .dead, .dead, .dead, .dead, .dead, .dead, .dead, .dead, .dead, .dead, .dead, .dead, .dead, .dead, .dead, .dead, .dead, .dead, .dead, .dead, .dead, .dead], [(Prod.mk 8000 (Blk.mk BKind.box 23 2 [[(i64 b0_0), (i64 b0_1)]])), (Prod.mk 8008 (Blk.mk BKind.box 23 2 [[(i64 b1_0), (i64 b1_1)]])), (Prod.mk 9616 (Blk.mk BKind.box 23 2 [[(i64 b2_0), (i64 b2_1)]]))]⟩))) (by kernel_rfl)
      (n_condH rfl (fun h0 => (n_bind fun t => (n_bind fun t1 => (n_condH rfl (fun h1 => rfl) fun h1 => (n_condH rfl (fun h2 => (n_bind fun t2 => (n_bind fun t3 => (n_condH rfl (fun h3 => rfl) fun h3 => (spec4_0 k m speed (wr (i + (1 : Int))) b0_0 b0_1 b1_0 b1_1 t.1 t.2))))) fun h2 => (spec4_0 k m speed (wr (i + (1 : Int))) b0_0 b0_1 b1_0 b1_1 t.1 t.2)))))) fun h0 => rfl)
theorem okL4_0 : LoopOk TT TU noG C3 ownF L4 (lp Try.f4 0) :=
  loopOk_of ks4_0 hs4_0 W4_0 FU (fun s k => (G_skirmishlaw02_VecArrives_0 (toI (cIa s.tmps 2)) (toI (cIa (rows0 (blkAt s.heap 1).2) 0)) (toI (cIa (rows0 (blkAt s.heap 1).2) 1)) FU (toI (cIa s.tmps 8)) (toI (cIa (rows0 (blkAt s.heap 2).2) 0)) (toI (cIa (rows0 (blkAt s.heap 2).2) 1))).bind (X4_0 (toI (cIa (rows0 (blkAt s.heap 0).2) 0)) (toI (cIa (rows0 (blkAt s.heap 0).2) 1)) (toI (cIa (rows0 (blkAt s.heap 1).2) 0)) (toI (cIa (rows0 (blkAt s.heap 1).2) 1)) k)) (fun s k => by kernel_rfl) (fun s k => spec4_0 k FU (toI (cIa s.tmps 2)) (toI (cIa s.tmps 8)) (toI (cIa (rows0 (blkAt s.heap 0).2) 0)) (toI (cIa (rows0 (blkAt s.heap 0).2) 1)) (toI (cIa (rows0 (blkAt s.heap 1).2) 0)) (toI (cIa (rows0 (blkAt s.heap 1).2) 1)) (toI (cIa (rows0 (blkAt s.heap 2).2) 0)) (toI (cIa (rows0 (blkAt s.heap 2).2) 1)))
theorem run4 (a_X : Int) (a_Y : Int) (b_X : Int) (b_Y : Int) (speed : Int) : fcall TT TU noG C3 ownF true L4 Try.f4 [(.agg [(.sc (.int .i64 a_X)), (.sc (.int .i64 a_Y))]), (.agg [(.sc (.int .i64 b_X)), (.sc (.int .i64 b_Y))]), (.sc (.int .i64 speed))] = (F_skirmishlaw02_VecArrives a_X a_Y b_X b_Y speed).bind fun t => some (enc4 t) :=
  Eq.trans (b := (Option.bind (F_skirmishref02_NearVec a_X a_Y) fun t => (Option.bind (G_skirmishlaw02_VecArrives_0 speed b_X b_Y FU (0 : Int) t.1 t.2) fun t1 => (bif t1.1 then (some (CR.mk true (bo false) [] [])) else (Option.bind F_skirmishlaw02_alive fun t2 => (some (CR.mk true (bo t2) [] []))))))) (by kernel_rfl)
    (n_bind fun t => (n_bind fun t1 => (n_condH rfl (fun h0 => rfl) fun h0 => (n_bind fun t2 => rfl))))
theorem lib4 : Lib Try.prog noG C4 :=
  Lib.fn lib3 mixed TT_ok Try.func4 (by decide +kernel) (by kernel_rfl) true L4 (loops_of 1 (by kernel_rfl) (belowS below0 okL4_0)) ks4 (F := fun us => F_skirmishlaw02_VecArrives (toI (cIa (aggL (cIa us 0)) 0)) (toI (cIa (aggL (cIa us 0)) 1)) (toI (cIa (aggL (cIa us 1)) 0)) (toI (cIa (aggL (cIa us 1)) 1)) (toI (cIa us 2))) (fun us => rfl) (fun us => run4 (toI (cIa (aggL (cIa us 0)) 0)) (toI (cIa (aggL (cIa us 0)) 1)) (toI (cIa (aggL (cIa us 1)) 0)) (toI (cIa (aggL (cIa us 1)) 1)) (toI (cIa us 2))) (fun t => rfl)

/-! ### 17: skirmish/skirmishref02.Part -/



/-- 'skirmish/skirmishref02.Part' -/
noncomputable def F_skirmishref02_Part (a_X : Int) (a_Y : Int) (num : Int) (den : Int) : Option (Int × Int) :=
  Option.bind (F_skirmishref02_NearVec a_X a_Y) fun t =>
  Option.bind (F_skirmishref02_Near num) fun t1 =>
  Option.bind (F_skirmishref02_Near den) fun t2 =>
  bif (t2 == (0 : Int)) then
    some ((0 : Int), (0 : Int))
  else
  Option.bind (F_skirmishref02_NearVec (wr (Int.tdiv (wr (t.1 * t1)) t2)) (wr (Int.tdiv (wr (t.2 * t1)) t2))) fun t3 =>
  some (t3.1, t3.2)
noncomputable def enc17 (t : Int × Int) : CR := ⟨true, (.agg [(.sc (.int .i64 t.1)), (.sc (.int .i64 t.2))]), [], []⟩
noncomputable def ks17 : List SK := [.agg [.int .i64, .int .i64], .f (.int .i64), .f (.int .i64)]
noncomputable def S17 (us : List AVal) : Call := bif chkA ks17 us then Call.of (F_skirmishref02_Part (toI (cIa (aggL (cIa us 0)) 0)) (toI (cIa (aggL (cIa us 0)) 1)) (toI (cIa us 1)) (toI (cIa us 2))) enc17 else Call.none
noncomputable def C17 := AI.ext 17 S17 C4

theorem run17 (a_X : Int) (a_Y : Int) (num : Int) (den : Int) : fcall TT TU noG C4 ownF true noL Try.f17 [(.agg [(.sc (.int .i64 a_X)), (.sc (.int .i64 a_Y))]), (.sc (.int .i64 num)), (.sc (.int .i64 den))] = (F_skirmishref02_Part a_X a_Y num den).bind fun t => some (enc17 t) :=
  Eq.trans (b := (Option.bind (F_skirmishref02_NearVec a_X a_Y) fun t => (Option.bind (F_skirmishref02_Near num) fun t1 => (Option.bind (F_skirmishref02_Near den) fun t2 => (bif (t2 == (0 : Int)) then (some (CR.mk true (AVal.agg [(i64 (0 : Int)), (i64 (0 : Int))]) [] [])) else (bif (t2 == (0 : Int)) then none else (bif (t2 == (0 : Int)) then none else (Option.bind (F_skirmishref02_NearVec (wr (Int.tdiv (wr (t.1 * t1)) t2)) (wr (Int.tdiv (wr (t.2 * t1)) t2))) fun t3 => (some (CR.mk true (AVal.agg [(i64 t3.1), (i64 t3.2)]) [] [])))))))))) (by kernel_rfl)
    (n_bind fun t => (n_bind fun t1 => (n_bind fun t2 => (n_condH rfl (fun h0 => rfl) fun h0 => (n_false h0 (n_false h0 (n_bind fun t3 => rfl)))))))
theorem lib17 : Lib Try.prog noG C17 :=
  Lib.fn lib4 mixed TT_ok Try.func17 (by decide +kernel) (by kernel_rfl) true noL (loops_of 0 (by kernel_rfl) below0) ks17 (F := fun us => F_skirmishref02_Part (toI (cIa (aggL (cIa us 0)) 0)) (toI (cIa (aggL (cIa us 0)) 1)) (toI (cIa us 1)) (toI (cIa us 2))) (fun us => rfl) (fun us => run17 (toI (cIa (aggL (cIa us 0)) 0)) (toI (cIa (aggL (cIa us 0)) 1)) (toI (cIa us 1)) (toI (cIa us 2))) (fun t => rfl)

/-! ### 18: skirmish/vec.Valid -/



/-- 'skirmish/vec.Valid' -/
noncomputable def F_vec_Valid (a_X : Int) (a_Y : Int) : Option (Bool) :=
  Option.bind (F_vec_nearest a_X a_Y) fun t =>
  some ((a_X == t.1) && (a_Y == t.2))
noncomputable def enc18 (t : Bool) : CR := ⟨true, (.sc (.bool t)), [], []⟩
noncomputable def ks18 : List SK := [.agg [.int .i64, .int .i64]]
noncomputable def S18 (us : List AVal) : Call := bif chkA ks18 us then Call.of (F_vec_Valid (toI (cIa (aggL (cIa us 0)) 0)) (toI (cIa (aggL (cIa us 0)) 1))) enc18 else Call.none
noncomputable def C18 := AI.ext 18 S18 C17

theorem run18 (a_X : Int) (a_Y : Int) : fcall TT TU noG C17 ownF true noL Try.f18 [(.agg [(.sc (.int .i64 a_X)), (.sc (.int .i64 a_Y))])] = (F_vec_Valid a_X a_Y).bind fun t => some (enc18 t) :=
  Eq.trans (b := (Option.bind (F_vec_nearest a_X a_Y) fun t => (some (CR.mk true (bo ((a_X == t.1) && (a_Y == t.2))) [] [])))) (by kernel_rfl)
    (n_bind fun t => rfl)
theorem lib18 : Lib Try.prog noG C18 :=
  Lib.fn lib17 mixed TT_ok Try.func18 (by decide +kernel) (by kernel_rfl) true noL (loops_of 0 (by kernel_rfl) below0) ks18 (F := fun us => F_vec_Valid (toI (cIa (aggL (cIa us 0)) 0)) (toI (cIa (aggL (cIa us 0)) 1))) (fun us => rfl) (fun us => run18 (toI (cIa (aggL (cIa us 0)) 0)) (toI (cIa (aggL (cIa us 0)) 1))) (fun t => rfl)

/-! ### 5: skirmish/skirmishlaw02.VecParts -/



/-- 'skirmish/skirmishlaw02.VecParts' -/
noncomputable def F_skirmishlaw02_VecParts (a_X : Int) (a_Y : Int) (num : Int) (den : Int) : Option (Bool) :=
  Option.bind (F_vec_Part a_X a_Y num den) fun t =>
  Option.bind (F_skirmishref02_Part a_X a_Y num den) fun t1 =>
  bif ((t.1 == t1.1) && (t.2 == t1.2)) then
    Option.bind (F_vec_Valid t.1 t.2) fun t2 =>
    bif t2 then
      Option.bind F_skirmishlaw02_alive fun t3 =>
      some t3
    else
    some false
  else
  some false
noncomputable def enc5 (t : Bool) : CR := ⟨true, (.sc (.bool t)), [], []⟩
noncomputable def ks5 : List SK := [.agg [.int .i64, .int .i64], .f (.int .i64), .f (.int .i64)]
noncomputable def S5 (us : List AVal) : Call := bif chkA ks5 us then Call.of (F_skirmishlaw02_VecParts (toI (cIa (aggL (cIa us 0)) 0)) (toI (cIa (aggL (cIa us 0)) 1)) (toI (cIa us 1)) (toI (cIa us 2))) enc5 else Call.none
noncomputable def C5 := AI.ext 5 S5 C18

theorem run5 (a_X : Int) (a_Y : Int) (num : Int) (den : Int) : fcall TT TU noG C18 ownF true noL Try.f5 [(.agg [(.sc (.int .i64 a_X)), (.sc (.int .i64 a_Y))]), (.sc (.int .i64 num)), (.sc (.int .i64 den))] = (F_skirmishlaw02_VecParts a_X a_Y num den).bind fun t => some (enc5 t) :=
  Eq.trans (b := (Option.bind (F_vec_Part a_X a_Y num den) fun t => (Option.bind (F_skirmishref02_Part a_X a_Y num den) fun t1 => (bif ((t.1 == t1.1) && (t.2 == t1.2)) then (Option.bind (F_vec_Valid t.1 t.2) fun t2 => (bif t2 then (Option.bind F_skirmishlaw02_alive fun t3 => (some (CR.mk true (bo t3) [] []))) else (some (CR.mk true (bo false) [] [])))) else (some (CR.mk true (bo false) [] [])))))) (by kernel_rfl)
    (n_bind fun t => (n_bind fun t1 => (n_condH rfl (fun h0 => (n_bind fun t2 => (n_condH rfl (fun h1 => (n_bind fun t3 => rfl)) fun h1 => rfl))) fun h0 => rfl)))
theorem lib5 : Lib Try.prog noG C5 :=
  Lib.fn lib18 mixed TT_ok Try.func5 (by decide +kernel) (by kernel_rfl) true noL (loops_of 0 (by kernel_rfl) below0) ks5 (F := fun us => F_skirmishlaw02_VecParts (toI (cIa (aggL (cIa us 0)) 0)) (toI (cIa (aggL (cIa us 0)) 1)) (toI (cIa us 1)) (toI (cIa us 2))) (fun us => rfl) (fun us => run5 (toI (cIa (aggL (cIa us 0)) 0)) (toI (cIa (aggL (cIa us 0)) 1)) (toI (cIa us 1)) (toI (cIa us 2))) (fun t => rfl)

/-! ### 6: skirmish/skirmishlaw02.VecTowardNear -/



/-- 'skirmish/skirmishlaw02.VecTowardNear' -/
noncomputable def F_skirmishlaw02_VecTowardNear (a_X : Int) (a_Y : Int) (b_X : Int) (b_Y : Int) (speed : Int) : Option (Bool) :=
  Option.bind (F_vec_Toward a_X a_Y b_X b_Y speed) fun t =>
  Option.bind (F_vec_Valid t.1 t.2) fun t1 =>
  bif (!t1) then
    some false
  else
  Option.bind (F_skirmishref02_Far t.1 t.2 b_X b_Y) fun t2 =>
  Option.bind (F_skirmishref02_Far a_X a_Y b_X b_Y) fun t3 =>
  bif (decide (t2 > t3)) then
    some false
  else
  Option.bind (F_skirmishref02_Near speed) fun t4 =>
  bif (decide (t4 ≤ (0 : Int))) then
    Option.bind (F_skirmishref02_NearVec a_X a_Y) fun t5 =>
    bif ((t.1 == t5.1) && (t.2 == t5.2)) then
      Option.bind F_skirmishlaw02_alive fun t6 =>
      some t6
    else
    some false
  else
  Option.bind (F_skirmishref02_Far a_X a_Y t.1 t.2) fun t7 =>
  bif (decide (t7 ≤ (wr (t4 * t4)))) then
    Option.bind (F_skirmishref02_Far a_X a_Y b_X b_Y) fun t8 =>
    bif (decide (t8 > (wr (t4 * t4)))) then
      Option.bind F_skirmishlaw02_alive fun t9 =>
      some t9
    else
    Option.bind (F_skirmishref02_NearVec b_X b_Y) fun t10 =>
    bif ((t.1 == t10.1) && (t.2 == t10.2)) then
      Option.bind F_skirmishlaw02_alive fun t11 =>
      some t11
    else
    some false
  else
  some false
noncomputable def enc6 (t : Bool) : CR := ⟨true, (.sc (.bool t)), [], []⟩
noncomputable def ks6 : List SK := [.agg [.int .i64, .int .i64], .agg [.int .i64, .int .i64], .f (.int .i64)]
noncomputable def S6 (us : List AVal) : Call := bif chkA ks6 us then Call.of (F_skirmishlaw02_VecTowardNear (toI (cIa (aggL (cIa us 0)) 0)) (toI (cIa (aggL (cIa us 0)) 1)) (toI (cIa (aggL (cIa us 1)) 0)) (toI (cIa (aggL (cIa us 1)) 1)) (toI (cIa us 2))) enc6 else Call.none
noncomputable def C6 := AI.ext 6 S6 C5

theorem run6 (a_X : Int) (a_Y : Int) (b_X : Int) (b_Y : Int) (speed : Int) : fcall TT TU noG C5 ownF true noL Try.f6 [(.agg [(.sc (.int .i64 a_X)), (.sc (.int .i64 a_Y))]), (.agg [(.sc (.int .i64 b_X)), (.sc (.int .i64 b_Y))]), (.sc (.int .i64 speed))] = (F_skirmishlaw02_VecTowardNear a_X a_Y b_X b_Y speed).bind fun t => some (enc6 t) :=
  Eq.trans (b := (Option.bind (F_vec_Toward a_X a_Y b_X b_Y speed) fun t => (Option.bind (F_vec_Valid t.1 t.2) fun t1 => (bif (!t1) then (some (CR.mk true (bo false) [] [])) else (Option.bind (F_skirmishref02_Far t.1 t.2 b_X b_Y) fun t2 => (Option.bind (F_skirmishref02_Far a_X a_Y b_X b_Y) fun t3 => (bif (decide (t2 > t3)) then (some (CR.mk true (bo false) [] [])) else (Option.bind (F_skirmishref02_Near speed) fun t4 => (bif (decide (t4 ≤ (0 : Int))) then (Option.bind (F_skirmishref02_NearVec a_X a_Y) fun t5 => (bif ((t.1 == t5.1) && (t.2 == t5.2)) then (Option.bind F_skirmishlaw02_alive fun t6 => (some (CR.mk true (bo t6) [] []))) else (some (CR.mk true (bo false) [] [])))) else (Option.bind (F_skirmishref02_Far a_X a_Y t.1 t.2) fun t7 => (bif (decide (t7 ≤ (wr (t4 * t4)))) then (Option.bind (F_skirmishref02_Far a_X a_Y b_X b_Y) fun t8 => (bif (decide (t8 > (wr (t4 * t4)))) then (Option.bind F_skirmishlaw02_alive fun t9 => (some (CR.mk true (bo t9) [] []))) else (Option.bind (F_skirmishref02_NearVec b_X b_Y) fun t10 => (bif ((t.1 == t10.1) && (t.2 == t10.2)) then (Option.bind F_skirmishlaw02_alive fun t11 => (some (CR.mk true (bo t11) [] []))) else (some (CR.mk true (bo false) [] [])))))) else (some (CR.mk true (bo false) [] []))))))))))))) (by kernel_rfl)
    (n_bind fun t => (n_bind fun t1 => (n_condH rfl (fun h0 => rfl) fun h0 => (n_bind fun t2 => (n_bind fun t3 => (n_condH rfl (fun h1 => rfl) fun h1 => (n_bind fun t4 => (n_condH rfl (fun h2 => (n_bind fun t5 => (n_condH rfl (fun h3 => (n_bind fun t6 => rfl)) fun h3 => rfl))) fun h2 => (n_bind fun t7 => (n_condH rfl (fun h3 => (n_bind fun t8 => (n_condH rfl (fun h4 => (n_bind fun t9 => rfl)) fun h4 => (n_bind fun t10 => (n_condH rfl (fun h5 => (n_bind fun t11 => rfl)) fun h5 => rfl))))) fun h3 => rfl))))))))))
theorem lib6 : Lib Try.prog noG C6 :=
  Lib.fn lib5 mixed TT_ok Try.func6 (by decide +kernel) (by kernel_rfl) true noL (loops_of 0 (by kernel_rfl) below0) ks6 (F := fun us => F_skirmishlaw02_VecTowardNear (toI (cIa (aggL (cIa us 0)) 0)) (toI (cIa (aggL (cIa us 0)) 1)) (toI (cIa (aggL (cIa us 1)) 0)) (toI (cIa (aggL (cIa us 1)) 1)) (toI (cIa us 2))) (fun us => rfl) (fun us => run6 (toI (cIa (aggL (cIa us 0)) 0)) (toI (cIa (aggL (cIa us 0)) 1)) (toI (cIa (aggL (cIa us 1)) 0)) (toI (cIa (aggL (cIa us 1)) 1)) (toI (cIa us 2))) (fun t => rfl)

/-! ### 21: skirmish/skirmishref02.Dot -/



/-- 'skirmish/skirmishref02.Dot' -/
noncomputable def F_skirmishref02_Dot (a_X : Int) (a_Y : Int) (b_X : Int) (b_Y : Int) : Option (Int) :=
  Option.bind (F_skirmishref02_NearVec a_X a_Y) fun t =>
  Option.bind (F_skirmishref02_NearVec b_X b_Y) fun t1 =>
  some (wr ((wr (t.1 * t1.1)) + (wr (t.2 * t1.2))))
noncomputable def enc21 (t : Int) : CR := ⟨true, (.sc (.int .i64 t)), [], []⟩
noncomputable def ks21 : List SK := [.agg [.int .i64, .int .i64], .agg [.int .i64, .int .i64]]
noncomputable def S21 (us : List AVal) : Call := bif chkA ks21 us then Call.of (F_skirmishref02_Dot (toI (cIa (aggL (cIa us 0)) 0)) (toI (cIa (aggL (cIa us 0)) 1)) (toI (cIa (aggL (cIa us 1)) 0)) (toI (cIa (aggL (cIa us 1)) 1))) enc21 else Call.none
noncomputable def C21 := AI.ext 21 S21 C6

theorem run21 (a_X : Int) (a_Y : Int) (b_X : Int) (b_Y : Int) : fcall TT TU noG C6 ownF true noL Try.f21 [(.agg [(.sc (.int .i64 a_X)), (.sc (.int .i64 a_Y))]), (.agg [(.sc (.int .i64 b_X)), (.sc (.int .i64 b_Y))])] = (F_skirmishref02_Dot a_X a_Y b_X b_Y).bind fun t => some (enc21 t) :=
  Eq.trans (b := (Option.bind (F_skirmishref02_NearVec a_X a_Y) fun t => (Option.bind (F_skirmishref02_NearVec b_X b_Y) fun t1 => (some (CR.mk true (i64 (wr ((wr (t.1 * t1.1)) + (wr (t.2 * t1.2))))) [] []))))) (by kernel_rfl)
    (n_bind fun t => (n_bind fun t1 => rfl))
theorem lib21 : Lib Try.prog noG C21 :=
  Lib.fn lib6 mixed TT_ok Try.func21 (by decide +kernel) (by kernel_rfl) true noL (loops_of 0 (by kernel_rfl) below0) ks21 (F := fun us => F_skirmishref02_Dot (toI (cIa (aggL (cIa us 0)) 0)) (toI (cIa (aggL (cIa us 0)) 1)) (toI (cIa (aggL (cIa us 1)) 0)) (toI (cIa (aggL (cIa us 1)) 1))) (fun us => rfl) (fun us => run21 (toI (cIa (aggL (cIa us 0)) 0)) (toI (cIa (aggL (cIa us 0)) 1)) (toI (cIa (aggL (cIa us 1)) 0)) (toI (cIa (aggL (cIa us 1)) 1))) (fun t => rfl)

/-! ### 23: skirmish/skirmishref02.Len2 -/



/-- 'skirmish/skirmishref02.Len2' -/
noncomputable def F_skirmishref02_Len2 (a_X : Int) (a_Y : Int) : Option (Int) :=
  Option.bind (F_skirmishref02_Dot a_X a_Y a_X a_Y) fun t =>
  some t
noncomputable def enc23 (t : Int) : CR := ⟨true, (.sc (.int .i64 t)), [], []⟩
noncomputable def ks23 : List SK := [.agg [.int .i64, .int .i64]]
noncomputable def S23 (us : List AVal) : Call := bif chkA ks23 us then Call.of (F_skirmishref02_Len2 (toI (cIa (aggL (cIa us 0)) 0)) (toI (cIa (aggL (cIa us 0)) 1))) enc23 else Call.none
noncomputable def C23 := AI.ext 23 S23 C21

theorem run23 (a_X : Int) (a_Y : Int) : fcall TT TU noG C21 ownF true noL Try.f23 [(.agg [(.sc (.int .i64 a_X)), (.sc (.int .i64 a_Y))])] = (F_skirmishref02_Len2 a_X a_Y).bind fun t => some (enc23 t) :=
  Eq.trans (b := (Option.bind (F_skirmishref02_Dot a_X a_Y a_X a_Y) fun t => (some (CR.mk true (i64 t) [] [])))) (by kernel_rfl)
    (n_bind fun t => rfl)
theorem lib23 : Lib Try.prog noG C23 :=
  Lib.fn lib21 mixed TT_ok Try.func23 (by decide +kernel) (by kernel_rfl) true noL (loops_of 0 (by kernel_rfl) below0) ks23 (F := fun us => F_skirmishref02_Len2 (toI (cIa (aggL (cIa us 0)) 0)) (toI (cIa (aggL (cIa us 0)) 1))) (fun us => rfl) (fun us => run23 (toI (cIa (aggL (cIa us 0)) 0)) (toI (cIa (aggL (cIa us 0)) 1))) (fun t => rfl)

/-! ### 25: skirmish/skirmishref02.Len -/



/-- 'skirmish/skirmishref02.Len' -/
noncomputable def F_skirmishref02_Len (a_X : Int) (a_Y : Int) : Option (Int) :=
  Option.bind (F_skirmishref02_Len2 a_X a_Y) fun t =>
  Option.bind (F_skirmishref01_Isqrt t) fun t1 =>
  some t1
noncomputable def enc25 (t : Int) : CR := ⟨true, (.sc (.int .i64 t)), [], []⟩
noncomputable def ks25 : List SK := [.agg [.int .i64, .int .i64]]
noncomputable def S25 (us : List AVal) : Call := bif chkA ks25 us then Call.of (F_skirmishref02_Len (toI (cIa (aggL (cIa us 0)) 0)) (toI (cIa (aggL (cIa us 0)) 1))) enc25 else Call.none
noncomputable def C25 := AI.ext 25 S25 C23

theorem run25 (a_X : Int) (a_Y : Int) : fcall TT TU noG C23 ownF true noL Try.f25 [(.agg [(.sc (.int .i64 a_X)), (.sc (.int .i64 a_Y))])] = (F_skirmishref02_Len a_X a_Y).bind fun t => some (enc25 t) :=
  Eq.trans (b := (Option.bind (F_skirmishref02_Len2 a_X a_Y) fun t => (Option.bind (F_skirmishref01_Isqrt t) fun t1 => (some (CR.mk true (i64 t1) [] []))))) (by kernel_rfl)
    (n_bind fun t => (n_bind fun t1 => rfl))
theorem lib25 : Lib Try.prog noG C25 :=
  Lib.fn lib23 mixed TT_ok Try.func25 (by decide +kernel) (by kernel_rfl) true noL (loops_of 0 (by kernel_rfl) below0) ks25 (F := fun us => F_skirmishref02_Len (toI (cIa (aggL (cIa us 0)) 0)) (toI (cIa (aggL (cIa us 0)) 1))) (fun us => rfl) (fun us => run25 (toI (cIa (aggL (cIa us 0)) 0)) (toI (cIa (aggL (cIa us 0)) 1))) (fun t => rfl)

/-! ### 26: skirmish/vec.Side -/



/-- 'skirmish/vec.Side' -/
noncomputable def F_vec_Side (a_X : Int) (a_Y : Int) : Option (Int × Int) :=
  Option.bind (F_vec_nearest a_X a_Y) fun t =>
  some ((wr ((0 : Int) - t.2)), t.1)
noncomputable def enc26 (t : Int × Int) : CR := ⟨true, (.agg [(.sc (.int .i64 t.1)), (.sc (.int .i64 t.2))]), [], []⟩
noncomputable def ks26 : List SK := [.agg [.int .i64, .int .i64]]
noncomputable def S26 (us : List AVal) : Call := bif chkA ks26 us then Call.of (F_vec_Side (toI (cIa (aggL (cIa us 0)) 0)) (toI (cIa (aggL (cIa us 0)) 1))) enc26 else Call.none
noncomputable def C26 := AI.ext 26 S26 C25

theorem run26 (a_X : Int) (a_Y : Int) : fcall TT TU noG C25 ownF true noL Try.f26 [(.agg [(.sc (.int .i64 a_X)), (.sc (.int .i64 a_Y))])] = (F_vec_Side a_X a_Y).bind fun t => some (enc26 t) :=
  Eq.trans (b := (Option.bind (F_vec_nearest a_X a_Y) fun t => (some (CR.mk true (AVal.agg [(i64 (wr ((0 : Int) - t.2))), (i64 t.1)]) [] [])))) (by kernel_rfl)
    (n_bind fun t => rfl)
theorem lib26 : Lib Try.prog noG C26 :=
  Lib.fn lib25 mixed TT_ok Try.func26 (by decide +kernel) (by kernel_rfl) true noL (loops_of 0 (by kernel_rfl) below0) ks26 (F := fun us => F_vec_Side (toI (cIa (aggL (cIa us 0)) 0)) (toI (cIa (aggL (cIa us 0)) 1))) (fun us => rfl) (fun us => run26 (toI (cIa (aggL (cIa us 0)) 0)) (toI (cIa (aggL (cIa us 0)) 1))) (fun t => rfl)

/-! ### 7: skirmish/skirmishlaw02.VecLengths -/



/-- 'skirmish/skirmishlaw02.VecLengths' -/
noncomputable def F_skirmishlaw02_VecLengths (a_X : Int) (a_Y : Int) (b_X : Int) (b_Y : Int) : Option (Bool) :=
  Option.bind (F_vec_Dot a_X a_Y b_X b_Y) fun t =>
  Option.bind (F_skirmishref02_Dot a_X a_Y b_X b_Y) fun t1 =>
  bif (t != t1) then
    some false
  else
  Option.bind (F_vec_Len2 a_X a_Y) fun t2 =>
  Option.bind (F_skirmishref02_Len2 a_X a_Y) fun t3 =>
  bif (t2 != t3) then
    some false
  else
  Option.bind (F_vec_Len a_X a_Y) fun t4 =>
  Option.bind (F_skirmishref02_Len a_X a_Y) fun t5 =>
  bif (t4 != t5) then
    some false
  else
  Option.bind (F_vec_Side a_X a_Y) fun t6 =>
  Option.bind (F_vec_Len a_X a_Y) fun t7 =>
  Option.bind (F_vec_Dot a_X a_Y t6.1 t6.2) fun t8 =>
  bif (t8 == (0 : Int)) then
    Option.bind (F_vec_Len2 t6.1 t6.2) fun t9 =>
    Option.bind (F_vec_Len2 a_X a_Y) fun t10 =>
    bif (t9 == t10) then
      Option.bind (F_vec_Len2 a_X a_Y) fun t11 =>
      bif (decide ((wr (t7 * t7)) ≤ t11)) then
        Option.bind (F_vec_Len2 a_X a_Y) fun t12 =>
        bif (decide ((wr ((wr (t7 + (1 : Int))) * (wr (t7 + (1 : Int))))) > t12)) then
          Option.bind F_skirmishlaw02_alive fun t13 =>
          some t13
        else
        some false
      else
      some false
    else
    some false
  else
  some false
noncomputable def enc7 (t : Bool) : CR := ⟨true, (.sc (.bool t)), [], []⟩
noncomputable def ks7 : List SK := [.agg [.int .i64, .int .i64], .agg [.int .i64, .int .i64]]
noncomputable def S7 (us : List AVal) : Call := bif chkA ks7 us then Call.of (F_skirmishlaw02_VecLengths (toI (cIa (aggL (cIa us 0)) 0)) (toI (cIa (aggL (cIa us 0)) 1)) (toI (cIa (aggL (cIa us 1)) 0)) (toI (cIa (aggL (cIa us 1)) 1))) enc7 else Call.none
noncomputable def C7 := AI.ext 7 S7 C26

theorem run7 (a_X : Int) (a_Y : Int) (b_X : Int) (b_Y : Int) : fcall TT TU noG C26 ownF true noL Try.f7 [(.agg [(.sc (.int .i64 a_X)), (.sc (.int .i64 a_Y))]), (.agg [(.sc (.int .i64 b_X)), (.sc (.int .i64 b_Y))])] = (F_skirmishlaw02_VecLengths a_X a_Y b_X b_Y).bind fun t => some (enc7 t) :=
  Eq.trans (b := (Option.bind (F_vec_Dot a_X a_Y b_X b_Y) fun t => (Option.bind (F_skirmishref02_Dot a_X a_Y b_X b_Y) fun t1 => (bif (t != t1) then (some (CR.mk true (bo false) [] [])) else (Option.bind (F_vec_Len2 a_X a_Y) fun t2 => (Option.bind (F_skirmishref02_Len2 a_X a_Y) fun t3 => (bif (t2 != t3) then (some (CR.mk true (bo false) [] [])) else (Option.bind (F_vec_Len a_X a_Y) fun t4 => (Option.bind (F_skirmishref02_Len a_X a_Y) fun t5 => (bif (t4 != t5) then (some (CR.mk true (bo false) [] [])) else (Option.bind (F_vec_Side a_X a_Y) fun t6 => (Option.bind (F_vec_Len a_X a_Y) fun t7 => (Option.bind (F_vec_Dot a_X a_Y t6.1 t6.2) fun t8 => (bif (t8 == (0 : Int)) then (Option.bind (F_vec_Len2 t6.1 t6.2) fun t9 => (Option.bind (F_vec_Len2 a_X a_Y) fun t10 => (bif (t9 == t10) then (Option.bind (F_vec_Len2 a_X a_Y) fun t11 => (bif (decide ((wr (t7 * t7)) ≤ t11)) then (Option.bind (F_vec_Len2 a_X a_Y) fun t12 => (bif (decide ((wr ((wr (t7 + (1 : Int))) * (wr (t7 + (1 : Int))))) > t12)) then (Option.bind F_skirmishlaw02_alive fun t13 => (some (CR.mk true (bo t13) [] []))) else (some (CR.mk true (bo false) [] [])))) else (some (CR.mk true (bo false) [] [])))) else (some (CR.mk true (bo false) [] []))))) else (some (CR.mk true (bo false) [] [])))))))))))))))) (by kernel_rfl)
    (n_bind fun t => (n_bind fun t1 => (n_condH rfl (fun h0 => rfl) fun h0 => (n_bind fun t2 => (n_bind fun t3 => (n_condH rfl (fun h1 => rfl) fun h1 => (n_bind fun t4 => (n_bind fun t5 => (n_condH rfl (fun h2 => rfl) fun h2 => (n_bind fun t6 => (n_bind fun t7 => (n_bind fun t8 => (n_condH rfl (fun h3 => (n_bind fun t9 => (n_bind fun t10 => (n_condH rfl (fun h4 => (n_bind fun t11 => (n_condH rfl (fun h5 => (n_bind fun t12 => (n_condH rfl (fun h6 => (n_bind fun t13 => rfl)) fun h6 => rfl))) fun h5 => rfl))) fun h4 => rfl)))) fun h3 => rfl)))))))))))))
theorem lib7 : Lib Try.prog noG C7 :=
  Lib.fn lib26 mixed TT_ok Try.func7 (by decide +kernel) (by kernel_rfl) true noL (loops_of 0 (by kernel_rfl) below0) ks7 (F := fun us => F_skirmishlaw02_VecLengths (toI (cIa (aggL (cIa us 0)) 0)) (toI (cIa (aggL (cIa us 0)) 1)) (toI (cIa (aggL (cIa us 1)) 0)) (toI (cIa (aggL (cIa us 1)) 1))) (fun us => rfl) (fun us => run7 (toI (cIa (aggL (cIa us 0)) 0)) (toI (cIa (aggL (cIa us 0)) 1)) (toI (cIa (aggL (cIa us 1)) 0)) (toI (cIa (aggL (cIa us 1)) 1))) (fun t => rfl)

/-! ### 28: skirmish/skirmishref02.Add -/



/-- 'skirmish/skirmishref02.Add' -/
noncomputable def F_skirmishref02_Add (a_X : Int) (a_Y : Int) (b_X : Int) (b_Y : Int) : Option (Int × Int) :=
  Option.bind (F_skirmishref02_NearVec a_X a_Y) fun t =>
  Option.bind (F_skirmishref02_NearVec b_X b_Y) fun t1 =>
  Option.bind (F_skirmishref02_NearVec (wr (t.1 + t1.1)) (wr (t.2 + t1.2))) fun t2 =>
  some (t2.1, t2.2)
noncomputable def enc28 (t : Int × Int) : CR := ⟨true, (.agg [(.sc (.int .i64 t.1)), (.sc (.int .i64 t.2))]), [], []⟩
noncomputable def ks28 : List SK := [.agg [.int .i64, .int .i64], .agg [.int .i64, .int .i64]]
noncomputable def S28 (us : List AVal) : Call := bif chkA ks28 us then Call.of (F_skirmishref02_Add (toI (cIa (aggL (cIa us 0)) 0)) (toI (cIa (aggL (cIa us 0)) 1)) (toI (cIa (aggL (cIa us 1)) 0)) (toI (cIa (aggL (cIa us 1)) 1))) enc28 else Call.none
noncomputable def C28 := AI.ext 28 S28 C7

theorem run28 (a_X : Int) (a_Y : Int) (b_X : Int) (b_Y : Int) : fcall TT TU noG C7 ownF true noL Try.f28 [(.agg [(.sc (.int .i64 a_X)), (.sc (.int .i64 a_Y))]), (.agg [(.sc (.int .i64 b_X)), (.sc (.int .i64 b_Y))])] = (F_skirmishref02_Add a_X a_Y b_X b_Y).bind fun t => some (enc28 t) :=
  Eq.trans (b := (Option.bind (F_skirmishref02_NearVec a_X a_Y) fun t => (Option.bind (F_skirmishref02_NearVec b_X b_Y) fun t1 => (Option.bind (F_skirmishref02_NearVec (wr (t.1 + t1.1)) (wr (t.2 + t1.2))) fun t2 => (some (CR.mk true (AVal.agg [(i64 t2.1), (i64 t2.2)]) [] [])))))) (by kernel_rfl)
    (n_bind fun t => (n_bind fun t1 => (n_bind fun t2 => rfl)))
theorem lib28 : Lib Try.prog noG C28 :=
  Lib.fn lib7 mixed TT_ok Try.func28 (by decide +kernel) (by kernel_rfl) true noL (loops_of 0 (by kernel_rfl) below0) ks28 (F := fun us => F_skirmishref02_Add (toI (cIa (aggL (cIa us 0)) 0)) (toI (cIa (aggL (cIa us 0)) 1)) (toI (cIa (aggL (cIa us 1)) 0)) (toI (cIa (aggL (cIa us 1)) 1))) (fun us => rfl) (fun us => run28 (toI (cIa (aggL (cIa us 0)) 0)) (toI (cIa (aggL (cIa us 0)) 1)) (toI (cIa (aggL (cIa us 1)) 0)) (toI (cIa (aggL (cIa us 1)) 1))) (fun t => rfl)

/-! ### 40: skirmish/vec.minus -/



/-- 'skirmish/vec.minus' -/
noncomputable def F_vec_minus (a_X : Int) (a_Y : Int) : Option (Int × Int) :=
  some ((wr ((0 : Int) - a_X)), (wr ((0 : Int) - a_Y)))
noncomputable def enc40 (t : Int × Int) : CR := ⟨true, (.agg [(.sc (.int .i64 t.1)), (.sc (.int .i64 t.2))]), [], []⟩
noncomputable def ks40 : List SK := [.agg [.int .i64, .int .i64]]
noncomputable def S40 (us : List AVal) : Call := bif chkA ks40 us then Call.of (F_vec_minus (toI (cIa (aggL (cIa us 0)) 0)) (toI (cIa (aggL (cIa us 0)) 1))) enc40 else Call.none
noncomputable def C40 := AI.ext 40 S40 C28

theorem run40 (a_X : Int) (a_Y : Int) : fcall TT TU noG C28 ownF true noL Try.f40 [(.agg [(.sc (.int .i64 a_X)), (.sc (.int .i64 a_Y))])] = (F_vec_minus a_X a_Y).bind fun t => some (enc40 t) :=
  Eq.trans (b := (some (CR.mk true (AVal.agg [(i64 (wr ((0 : Int) - a_X))), (i64 (wr ((0 : Int) - a_Y)))]) [] []))) (by kernel_rfl)
    rfl
theorem lib40 : Lib Try.prog noG C40 :=
  Lib.fn lib28 mixed TT_ok Try.func40 (by decide +kernel) (by kernel_rfl) true noL (loops_of 0 (by kernel_rfl) below0) ks40 (F := fun us => F_vec_minus (toI (cIa (aggL (cIa us 0)) 0)) (toI (cIa (aggL (cIa us 0)) 1))) (fun us => rfl) (fun us => run40 (toI (cIa (aggL (cIa us 0)) 0)) (toI (cIa (aggL (cIa us 0)) 1))) (fun t => rfl)

/-! ### 29: skirmish/vec.Sub -/



/-- 'skirmish/vec.Sub' -/
noncomputable def F_vec_Sub (a_X : Int) (a_Y : Int) (b_X : Int) (b_Y : Int) : Option (Int × Int) :=
  Option.bind (F_vec_nearest a_X a_Y) fun t =>
  Option.bind (F_vec_nearest b_X b_Y) fun t1 =>
  Option.bind (F_vec_minus t1.1 t1.2) fun t2 =>
  Option.bind (F_vec_sum [[(i64 t.1), (i64 t.2)], [(i64 t2.1), (i64 t2.2)]]) fun t3 =>
  some (t3.1, t3.2)
noncomputable def enc29 (t : Int × Int) : CR := ⟨true, (.agg [(.sc (.int .i64 t.1)), (.sc (.int .i64 t.2))]), [], []⟩
noncomputable def ks29 : List SK := [.agg [.int .i64, .int .i64], .agg [.int .i64, .int .i64]]
noncomputable def S29 (us : List AVal) : Call := bif chkA ks29 us then Call.of (F_vec_Sub (toI (cIa (aggL (cIa us 0)) 0)) (toI (cIa (aggL (cIa us 0)) 1)) (toI (cIa (aggL (cIa us 1)) 0)) (toI (cIa (aggL (cIa us 1)) 1))) enc29 else Call.none
noncomputable def C29 := AI.ext 29 S29 C40

theorem run29 (a_X : Int) (a_Y : Int) (b_X : Int) (b_Y : Int) : fcall TT TU noG C40 ownF true noL Try.f29 [(.agg [(.sc (.int .i64 a_X)), (.sc (.int .i64 a_Y))]), (.agg [(.sc (.int .i64 b_X)), (.sc (.int .i64 b_Y))])] = (F_vec_Sub a_X a_Y b_X b_Y).bind fun t => some (enc29 t) :=
  Eq.trans (b := (Option.bind (F_vec_nearest a_X a_Y) fun t => (Option.bind (F_vec_nearest b_X b_Y) fun t1 => (Option.bind (F_vec_minus t1.1 t1.2) fun t2 => (Option.bind (F_vec_sum [[(i64 t.1), (i64 t.2)], [(i64 t2.1), (i64 t2.2)]]) fun t3 => (some (CR.mk true (AVal.agg [(i64 t3.1), (i64 t3.2)]) [] []))))))) (by kernel_rfl)
    (n_bind fun t => (n_bind fun t1 => (n_bind fun t2 => (n_bind fun t3 => rfl))))
theorem lib29 : Lib Try.prog noG C29 :=
  Lib.fn lib40 mixed TT_ok Try.func29 (by decide +kernel) (by kernel_rfl) true noL (loops_of 0 (by kernel_rfl) below0) ks29 (F := fun us => F_vec_Sub (toI (cIa (aggL (cIa us 0)) 0)) (toI (cIa (aggL (cIa us 0)) 1)) (toI (cIa (aggL (cIa us 1)) 0)) (toI (cIa (aggL (cIa us 1)) 1))) (fun us => rfl) (fun us => run29 (toI (cIa (aggL (cIa us 0)) 0)) (toI (cIa (aggL (cIa us 0)) 1)) (toI (cIa (aggL (cIa us 1)) 0)) (toI (cIa (aggL (cIa us 1)) 1))) (fun t => rfl)

/-! ### 30: skirmish/skirmishref02.Sub -/



/-- 'skirmish/skirmishref02.Sub' -/
noncomputable def F_skirmishref02_Sub (a_X : Int) (a_Y : Int) (b_X : Int) (b_Y : Int) : Option (Int × Int) :=
  Option.bind (F_skirmishref02_NearVec a_X a_Y) fun t =>
  Option.bind (F_skirmishref02_NearVec b_X b_Y) fun t1 =>
  Option.bind (F_skirmishref02_NearVec (wr (t.1 - t1.1)) (wr (t.2 - t1.2))) fun t2 =>
  some (t2.1, t2.2)
noncomputable def enc30 (t : Int × Int) : CR := ⟨true, (.agg [(.sc (.int .i64 t.1)), (.sc (.int .i64 t.2))]), [], []⟩
noncomputable def ks30 : List SK := [.agg [.int .i64, .int .i64], .agg [.int .i64, .int .i64]]
noncomputable def S30 (us : List AVal) : Call := bif chkA ks30 us then Call.of (F_skirmishref02_Sub (toI (cIa (aggL (cIa us 0)) 0)) (toI (cIa (aggL (cIa us 0)) 1)) (toI (cIa (aggL (cIa us 1)) 0)) (toI (cIa (aggL (cIa us 1)) 1))) enc30 else Call.none
noncomputable def C30 := AI.ext 30 S30 C29

theorem run30 (a_X : Int) (a_Y : Int) (b_X : Int) (b_Y : Int) : fcall TT TU noG C29 ownF true noL Try.f30 [(.agg [(.sc (.int .i64 a_X)), (.sc (.int .i64 a_Y))]), (.agg [(.sc (.int .i64 b_X)), (.sc (.int .i64 b_Y))])] = (F_skirmishref02_Sub a_X a_Y b_X b_Y).bind fun t => some (enc30 t) :=
  Eq.trans (b := (Option.bind (F_skirmishref02_NearVec a_X a_Y) fun t => (Option.bind (F_skirmishref02_NearVec b_X b_Y) fun t1 => (Option.bind (F_skirmishref02_NearVec (wr (t.1 - t1.1)) (wr (t.2 - t1.2))) fun t2 => (some (CR.mk true (AVal.agg [(i64 t2.1), (i64 t2.2)]) [] [])))))) (by kernel_rfl)
    (n_bind fun t => (n_bind fun t1 => (n_bind fun t2 => rfl)))
theorem lib30 : Lib Try.prog noG C30 :=
  Lib.fn lib29 mixed TT_ok Try.func30 (by decide +kernel) (by kernel_rfl) true noL (loops_of 0 (by kernel_rfl) below0) ks30 (F := fun us => F_skirmishref02_Sub (toI (cIa (aggL (cIa us 0)) 0)) (toI (cIa (aggL (cIa us 0)) 1)) (toI (cIa (aggL (cIa us 1)) 0)) (toI (cIa (aggL (cIa us 1)) 1))) (fun us => rfl) (fun us => run30 (toI (cIa (aggL (cIa us 0)) 0)) (toI (cIa (aggL (cIa us 0)) 1)) (toI (cIa (aggL (cIa us 1)) 0)) (toI (cIa (aggL (cIa us 1)) 1))) (fun t => rfl)

/-! ### 31: skirmish/skirmishref02.Side -/



/-- 'skirmish/skirmishref02.Side' -/
noncomputable def F_skirmishref02_Side (a_X : Int) (a_Y : Int) : Option (Int × Int) :=
  Option.bind (F_skirmishref02_NearVec a_X a_Y) fun t =>
  some ((wr ((0 : Int) - t.2)), t.1)
noncomputable def enc31 (t : Int × Int) : CR := ⟨true, (.agg [(.sc (.int .i64 t.1)), (.sc (.int .i64 t.2))]), [], []⟩
noncomputable def ks31 : List SK := [.agg [.int .i64, .int .i64]]
noncomputable def S31 (us : List AVal) : Call := bif chkA ks31 us then Call.of (F_skirmishref02_Side (toI (cIa (aggL (cIa us 0)) 0)) (toI (cIa (aggL (cIa us 0)) 1))) enc31 else Call.none
noncomputable def C31 := AI.ext 31 S31 C30

theorem run31 (a_X : Int) (a_Y : Int) : fcall TT TU noG C30 ownF true noL Try.f31 [(.agg [(.sc (.int .i64 a_X)), (.sc (.int .i64 a_Y))])] = (F_skirmishref02_Side a_X a_Y).bind fun t => some (enc31 t) :=
  Eq.trans (b := (Option.bind (F_skirmishref02_NearVec a_X a_Y) fun t => (some (CR.mk true (AVal.agg [(i64 (wr ((0 : Int) - t.2))), (i64 t.1)]) [] [])))) (by kernel_rfl)
    (n_bind fun t => rfl)
theorem lib31 : Lib Try.prog noG C31 :=
  Lib.fn lib30 mixed TT_ok Try.func31 (by decide +kernel) (by kernel_rfl) true noL (loops_of 0 (by kernel_rfl) below0) ks31 (F := fun us => F_skirmishref02_Side (toI (cIa (aggL (cIa us 0)) 0)) (toI (cIa (aggL (cIa us 0)) 1))) (fun us => rfl) (fun us => run31 (toI (cIa (aggL (cIa us 0)) 0)) (toI (cIa (aggL (cIa us 0)) 1))) (fun t => rfl)

/-! ### 32: skirmish/skirmishref02.Valid -/



/-- 'skirmish/skirmishref02.Valid' -/
noncomputable def F_skirmishref02_Valid (a_X : Int) (a_Y : Int) : Option (Bool) :=
  Option.bind (F_skirmishref02_NearVec a_X a_Y) fun t =>
  some ((a_X == t.1) && (a_Y == t.2))
noncomputable def enc32 (t : Bool) : CR := ⟨true, (.sc (.bool t)), [], []⟩
noncomputable def ks32 : List SK := [.agg [.int .i64, .int .i64]]
noncomputable def S32 (us : List AVal) : Call := bif chkA ks32 us then Call.of (F_skirmishref02_Valid (toI (cIa (aggL (cIa us 0)) 0)) (toI (cIa (aggL (cIa us 0)) 1))) enc32 else Call.none
noncomputable def C32 := AI.ext 32 S32 C31

theorem run32 (a_X : Int) (a_Y : Int) : fcall TT TU noG C31 ownF true noL Try.f32 [(.agg [(.sc (.int .i64 a_X)), (.sc (.int .i64 a_Y))])] = (F_skirmishref02_Valid a_X a_Y).bind fun t => some (enc32 t) :=
  Eq.trans (b := (Option.bind (F_skirmishref02_NearVec a_X a_Y) fun t => (some (CR.mk true (bo ((a_X == t.1) && (a_Y == t.2))) [] [])))) (by kernel_rfl)
    (n_bind fun t => rfl)
theorem lib32 : Lib Try.prog noG C32 :=
  Lib.fn lib31 mixed TT_ok Try.func32 (by decide +kernel) (by kernel_rfl) true noL (loops_of 0 (by kernel_rfl) below0) ks32 (F := fun us => F_skirmishref02_Valid (toI (cIa (aggL (cIa us 0)) 0)) (toI (cIa (aggL (cIa us 0)) 1))) (fun us => rfl) (fun us => run32 (toI (cIa (aggL (cIa us 0)) 0)) (toI (cIa (aggL (cIa us 0)) 1))) (fun t => rfl)

/-! ### 8: skirmish/skirmishlaw02.VecSums -/



/-- 'skirmish/skirmishlaw02.VecSums' -/
noncomputable def F_skirmishlaw02_VecSums (a_X : Int) (a_Y : Int) (b_X : Int) (b_Y : Int) : Option (Bool) :=
  Option.bind (F_vec_Add a_X a_Y b_X b_Y) fun t =>
  Option.bind (F_skirmishref02_Add a_X a_Y b_X b_Y) fun t1 =>
  bif (!((t.1 == t1.1) && (t.2 == t1.2))) then
    some false
  else
  Option.bind (F_vec_Sub a_X a_Y b_X b_Y) fun t2 =>
  Option.bind (F_skirmishref02_Sub a_X a_Y b_X b_Y) fun t3 =>
  bif (!((t2.1 == t3.1) && (t2.2 == t3.2))) then
    some false
  else
  Option.bind (F_vec_Side a_X a_Y) fun t4 =>
  Option.bind (F_skirmishref02_Side a_X a_Y) fun t5 =>
  bif (!((t4.1 == t5.1) && (t4.2 == t5.2))) then
    some false
  else
  Option.bind (F_vec_Valid a_X a_Y) fun t6 =>
  Option.bind (F_skirmishref02_Valid a_X a_Y) fun t7 =>
  bif (!(t6 == t7)) then
    some false
  else
  Option.bind (F_vec_Add a_X a_Y b_X b_Y) fun t8 =>
  Option.bind (F_vec_Valid t8.1 t8.2) fun t9 =>
  bif t9 then
    Option.bind (F_vec_Sub a_X a_Y b_X b_Y) fun t10 =>
    Option.bind (F_vec_Valid t10.1 t10.2) fun t11 =>
    bif t11 then
      Option.bind (F_vec_Side a_X a_Y) fun t12 =>
      Option.bind (F_vec_Valid t12.1 t12.2) fun t13 =>
      bif t13 then
        Option.bind F_skirmishlaw02_alive fun t14 =>
        some t14
      else
      some false
    else
    some false
  else
  some false
noncomputable def enc8 (t : Bool) : CR := ⟨true, (.sc (.bool t)), [], []⟩
noncomputable def ks8 : List SK := [.agg [.int .i64, .int .i64], .agg [.int .i64, .int .i64]]
noncomputable def S8 (us : List AVal) : Call := bif chkA ks8 us then Call.of (F_skirmishlaw02_VecSums (toI (cIa (aggL (cIa us 0)) 0)) (toI (cIa (aggL (cIa us 0)) 1)) (toI (cIa (aggL (cIa us 1)) 0)) (toI (cIa (aggL (cIa us 1)) 1))) enc8 else Call.none
noncomputable def C8 := AI.ext 8 S8 C32

theorem run8 (a_X : Int) (a_Y : Int) (b_X : Int) (b_Y : Int) : fcall TT TU noG C32 ownF true noL Try.f8 [(.agg [(.sc (.int .i64 a_X)), (.sc (.int .i64 a_Y))]), (.agg [(.sc (.int .i64 b_X)), (.sc (.int .i64 b_Y))])] = (F_skirmishlaw02_VecSums a_X a_Y b_X b_Y).bind fun t => some (enc8 t) :=
  Eq.trans (b := (Option.bind (F_vec_Add a_X a_Y b_X b_Y) fun t => (Option.bind (F_skirmishref02_Add a_X a_Y b_X b_Y) fun t1 => (bif (!((t.1 == t1.1) && (t.2 == t1.2))) then (some (CR.mk true (bo false) [] [])) else (Option.bind (F_vec_Sub a_X a_Y b_X b_Y) fun t2 => (Option.bind (F_skirmishref02_Sub a_X a_Y b_X b_Y) fun t3 => (bif (!((t2.1 == t3.1) && (t2.2 == t3.2))) then (some (CR.mk true (bo false) [] [])) else (Option.bind (F_vec_Side a_X a_Y) fun t4 => (Option.bind (F_skirmishref02_Side a_X a_Y) fun t5 => (bif (!((t4.1 == t5.1) && (t4.2 == t5.2))) then (some (CR.mk true (bo false) [] [])) else (Option.bind (F_vec_Valid a_X a_Y) fun t6 => (Option.bind (F_skirmishref02_Valid a_X a_Y) fun t7 => (bif (!(t6 == t7)) then (some (CR.mk true (bo false) [] [])) else (Option.bind (F_vec_Add a_X a_Y b_X b_Y) fun t8 => (Option.bind (F_vec_Valid t8.1 t8.2) fun t9 => (bif t9 then (Option.bind (F_vec_Sub a_X a_Y b_X b_Y) fun t10 => (Option.bind (F_vec_Valid t10.1 t10.2) fun t11 => (bif t11 then (Option.bind (F_vec_Side a_X a_Y) fun t12 => (Option.bind (F_vec_Valid t12.1 t12.2) fun t13 => (bif t13 then (Option.bind F_skirmishlaw02_alive fun t14 => (some (CR.mk true (bo t14) [] []))) else (some (CR.mk true (bo false) [] []))))) else (some (CR.mk true (bo false) [] []))))) else (some (CR.mk true (bo false) [] [])))))))))))))))))) (by kernel_rfl)
    (n_bind fun t => (n_bind fun t1 => (n_condH rfl (fun h0 => rfl) fun h0 => (n_bind fun t2 => (n_bind fun t3 => (n_condH rfl (fun h1 => rfl) fun h1 => (n_bind fun t4 => (n_bind fun t5 => (n_condH rfl (fun h2 => rfl) fun h2 => (n_bind fun t6 => (n_bind fun t7 => (n_condH rfl (fun h3 => rfl) fun h3 => (n_bind fun t8 => (n_bind fun t9 => (n_condH rfl (fun h4 => (n_bind fun t10 => (n_bind fun t11 => (n_condH rfl (fun h5 => (n_bind fun t12 => (n_bind fun t13 => (n_condH rfl (fun h6 => (n_bind fun t14 => rfl)) fun h6 => rfl)))) fun h5 => rfl)))) fun h4 => rfl)))))))))))))))
theorem lib8 : Lib Try.prog noG C8 :=
  Lib.fn lib32 mixed TT_ok Try.func8 (by decide +kernel) (by kernel_rfl) true noL (loops_of 0 (by kernel_rfl) below0) ks8 (F := fun us => F_skirmishlaw02_VecSums (toI (cIa (aggL (cIa us 0)) 0)) (toI (cIa (aggL (cIa us 0)) 1)) (toI (cIa (aggL (cIa us 1)) 0)) (toI (cIa (aggL (cIa us 1)) 1))) (fun us => rfl) (fun us => run8 (toI (cIa (aggL (cIa us 0)) 0)) (toI (cIa (aggL (cIa us 0)) 1)) (toI (cIa (aggL (cIa us 1)) 0)) (toI (cIa (aggL (cIa us 1)) 1))) (fun t => rfl)

end Go.Proofs.Ytlgaiebfdheggaa.AI
