/- What functions answer: printed by wip/tool2/Ev.lean out of the interpreter's run; each print is checked by Lean. -/
import Derived.Test.YtjgaaicflenbbaaTab
namespace Go.Proofs.Ytjgaaicflenbbaa.AI
open Go.RowKit
set_option linter.unusedVariables false
set_option maxRecDepth 100000
/-! ### 22: skirmish/num.Clamp -/



/-- 'skirmish/num.Clamp' -/
noncomputable def F_num_Clamp (n : Int) (lo : Int) (hi : Int) : Option (Int) :=
  some (maxI lo (minI n hi))
noncomputable def enc22 (t : Int) : CR := ⟨true, (.sc (.int .i64 t)), [], []⟩
noncomputable def ks22 : List SK := [.f (.int .i64), .f (.int .i64), .f (.int .i64)]
noncomputable def S22 (us : List AVal) : Call := bif chkA ks22 us then Call.of (F_num_Clamp (toI (cIa us 0)) (toI (cIa us 1)) (toI (cIa us 2))) enc22 else Call.none
noncomputable def C22 := AI.ext 22 S22 Cnone

theorem run22 (n : Int) (lo : Int) (hi : Int) : fcall TT TU noG Cnone ownF true noL Try.f22 [(.sc (.int .i64 n)), (.sc (.int .i64 lo)), (.sc (.int .i64 hi))] = (F_num_Clamp n lo hi).bind fun t => some (enc22 t) :=
  Eq.trans (b := (some (CR.mk true (i64 (maxI lo (minI n hi))) [] []))) (by kernel_rfl)
    rfl
theorem lib22 : Lib Try.prog noG C22 :=
  Lib.fn libnone mixed TT_ok Try.func22 (by decide +kernel) (by kernel_rfl) true noL (loops_of 0 (by kernel_rfl) below0) ks22 (F := fun us => F_num_Clamp (toI (cIa us 0)) (toI (cIa us 1)) (toI (cIa us 2))) (fun us => rfl) (fun us => run22 (toI (cIa us 0)) (toI (cIa us 1)) (toI (cIa us 2))) (fun t => rfl)

/-! ### 43: skirmish/vec.near -/



/-- 'skirmish/vec.near' -/
noncomputable def F_vec_near (n : Int) : Option (Int) :=
  Option.bind (F_num_Clamp n (-(1048576 : Int)) (1048576 : Int)) fun t =>
  some t
noncomputable def enc43 (t : Int) : CR := ⟨true, (.sc (.int .i64 t)), [], []⟩
noncomputable def ks43 : List SK := [.f (.int .i64)]
noncomputable def S43 (us : List AVal) : Call := bif chkA ks43 us then Call.of (F_vec_near (toI (cIa us 0))) enc43 else Call.none
noncomputable def C43 := AI.ext 43 S43 C22

theorem run43 (n : Int) : fcall TT TU noG C22 ownF true noL Try.f43 [(.sc (.int .i64 n))] = (F_vec_near n).bind fun t => some (enc43 t) :=
  Eq.trans (b := (Option.bind (F_num_Clamp n (-(1048576 : Int)) (1048576 : Int)) fun t => (some (CR.mk true (i64 t) [] [])))) (by kernel_rfl)
    (n_bind fun t => rfl)
theorem lib43 : Lib Try.prog noG C43 :=
  Lib.fn lib22 mixed TT_ok Try.func43 (by decide +kernel) (by kernel_rfl) true noL (loops_of 0 (by kernel_rfl) below0) ks43 (F := fun us => F_vec_near (toI (cIa us 0))) (fun us => rfl) (fun us => run43 (toI (cIa us 0))) (fun t => rfl)

/-! ### 42: skirmish/vec.nearest -/



/-- 'skirmish/vec.nearest' -/
noncomputable def F_vec_nearest (a_X : Int) (a_Y : Int) : Option (Int × Int) :=
  Option.bind (F_vec_near a_X) fun t =>
  Option.bind (F_vec_near a_Y) fun t1 =>
  some (t, t1)
noncomputable def enc42 (t : Int × Int) : CR := ⟨true, (.agg [(.sc (.int .i64 t.1)), (.sc (.int .i64 t.2))]), [], []⟩
noncomputable def ks42 : List SK := [.agg [.int .i64, .int .i64]]
noncomputable def S42 (us : List AVal) : Call := bif chkA ks42 us then Call.of (F_vec_nearest (toI (cIa (aggL (cIa us 0)) 0)) (toI (cIa (aggL (cIa us 0)) 1))) enc42 else Call.none
noncomputable def C42 := AI.ext 42 S42 C43

theorem run42 (a_X : Int) (a_Y : Int) : fcall TT TU noG C43 ownF true noL Try.f42 [(.agg [(.sc (.int .i64 a_X)), (.sc (.int .i64 a_Y))])] = (F_vec_nearest a_X a_Y).bind fun t => some (enc42 t) :=
  Eq.trans (b := (Option.bind (F_vec_near a_X) fun t => (Option.bind (F_vec_near a_Y) fun t1 => (some (CR.mk true (AVal.agg [(i64 t), (i64 t1)]) [] []))))) (by kernel_rfl)
    (n_bind fun t => (n_bind fun t1 => rfl))
theorem lib42 : Lib Try.prog noG C42 :=
  Lib.fn lib43 mixed TT_ok Try.func42 (by decide +kernel) (by kernel_rfl) true noL (loops_of 0 (by kernel_rfl) below0) ks42 (F := fun us => F_vec_nearest (toI (cIa (aggL (cIa us 0)) 0)) (toI (cIa (aggL (cIa us 0)) 1))) (fun us => rfl) (fun us => run42 (toI (cIa (aggL (cIa us 0)) 0)) (toI (cIa (aggL (cIa us 0)) 1))) (fun t => rfl)

/-! ### 49: skirmish/vec.dot -/



/-- 'skirmish/vec.dot' -/
noncomputable def F_vec_dot (a_X : Int) (a_Y : Int) (b_X : Int) (b_Y : Int) : Option (Int) :=
  some (wr ((wr (a_X * b_X)) + (wr (a_Y * b_Y))))
noncomputable def enc49 (t : Int) : CR := ⟨true, (.sc (.int .i64 t)), [], []⟩
noncomputable def ks49 : List SK := [.agg [.int .i64, .int .i64], .agg [.int .i64, .int .i64]]
noncomputable def S49 (us : List AVal) : Call := bif chkA ks49 us then Call.of (F_vec_dot (toI (cIa (aggL (cIa us 0)) 0)) (toI (cIa (aggL (cIa us 0)) 1)) (toI (cIa (aggL (cIa us 1)) 0)) (toI (cIa (aggL (cIa us 1)) 1))) enc49 else Call.none
noncomputable def C49 := AI.ext 49 S49 C42

theorem run49 (a_X : Int) (a_Y : Int) (b_X : Int) (b_Y : Int) : fcall TT TU noG C42 ownF true noL Try.f49 [(.agg [(.sc (.int .i64 a_X)), (.sc (.int .i64 a_Y))]), (.agg [(.sc (.int .i64 b_X)), (.sc (.int .i64 b_Y))])] = (F_vec_dot a_X a_Y b_X b_Y).bind fun t => some (enc49 t) :=
  Eq.trans (b := (some (CR.mk true (i64 (wr ((wr (a_X * b_X)) + (wr (a_Y * b_Y))))) [] []))) (by kernel_rfl)
    rfl
theorem lib49 : Lib Try.prog noG C49 :=
  Lib.fn lib42 mixed TT_ok Try.func49 (by decide +kernel) (by kernel_rfl) true noL (loops_of 0 (by kernel_rfl) below0) ks49 (F := fun us => F_vec_dot (toI (cIa (aggL (cIa us 0)) 0)) (toI (cIa (aggL (cIa us 0)) 1)) (toI (cIa (aggL (cIa us 1)) 0)) (toI (cIa (aggL (cIa us 1)) 1))) (fun us => rfl) (fun us => run49 (toI (cIa (aggL (cIa us 0)) 0)) (toI (cIa (aggL (cIa us 0)) 1)) (toI (cIa (aggL (cIa us 1)) 0)) (toI (cIa (aggL (cIa us 1)) 1))) (fun t => rfl)

/-! ### 41: skirmish/vec.Dot -/



/-- 'skirmish/vec.Dot' -/
noncomputable def F_vec_Dot (a_X : Int) (a_Y : Int) (b_X : Int) (b_Y : Int) : Option (Int) :=
  Option.bind (F_vec_nearest a_X a_Y) fun t =>
  Option.bind (F_vec_nearest b_X b_Y) fun t1 =>
  Option.bind (F_vec_dot t.1 t.2 t1.1 t1.2) fun t2 =>
  some t2
noncomputable def enc41 (t : Int) : CR := ⟨true, (.sc (.int .i64 t)), [], []⟩
noncomputable def ks41 : List SK := [.agg [.int .i64, .int .i64], .agg [.int .i64, .int .i64]]
noncomputable def S41 (us : List AVal) : Call := bif chkA ks41 us then Call.of (F_vec_Dot (toI (cIa (aggL (cIa us 0)) 0)) (toI (cIa (aggL (cIa us 0)) 1)) (toI (cIa (aggL (cIa us 1)) 0)) (toI (cIa (aggL (cIa us 1)) 1))) enc41 else Call.none
noncomputable def C41 := AI.ext 41 S41 C49

theorem run41 (a_X : Int) (a_Y : Int) (b_X : Int) (b_Y : Int) : fcall TT TU noG C49 ownF true noL Try.f41 [(.agg [(.sc (.int .i64 a_X)), (.sc (.int .i64 a_Y))]), (.agg [(.sc (.int .i64 b_X)), (.sc (.int .i64 b_Y))])] = (F_vec_Dot a_X a_Y b_X b_Y).bind fun t => some (enc41 t) :=
  Eq.trans (b := (Option.bind (F_vec_nearest a_X a_Y) fun t => (Option.bind (F_vec_nearest b_X b_Y) fun t1 => (Option.bind (F_vec_dot t.1 t.2 t1.1 t1.2) fun t2 => (some (CR.mk true (i64 t2) [] [])))))) (by kernel_rfl)
    (n_bind fun t => (n_bind fun t1 => (n_bind fun t2 => rfl)))
theorem lib41 : Lib Try.prog noG C41 :=
  Lib.fn lib49 mixed TT_ok Try.func41 (by decide +kernel) (by kernel_rfl) true noL (loops_of 0 (by kernel_rfl) below0) ks41 (F := fun us => F_vec_Dot (toI (cIa (aggL (cIa us 0)) 0)) (toI (cIa (aggL (cIa us 0)) 1)) (toI (cIa (aggL (cIa us 1)) 0)) (toI (cIa (aggL (cIa us 1)) 1))) (fun us => rfl) (fun us => run41 (toI (cIa (aggL (cIa us 0)) 0)) (toI (cIa (aggL (cIa us 0)) 1)) (toI (cIa (aggL (cIa us 1)) 0)) (toI (cIa (aggL (cIa us 1)) 1))) (fun t => rfl)

/-! ### 24: skirmish/vec.Len2 -/



/-- 'skirmish/vec.Len2' -/
noncomputable def F_vec_Len2 (a_X : Int) (a_Y : Int) : Option (Int) :=
  Option.bind (F_vec_Dot a_X a_Y a_X a_Y) fun t =>
  some t
noncomputable def enc24 (t : Int) : CR := ⟨true, (.sc (.int .i64 t)), [], []⟩
noncomputable def ks24 : List SK := [.agg [.int .i64, .int .i64]]
noncomputable def S24 (us : List AVal) : Call := bif chkA ks24 us then Call.of (F_vec_Len2 (toI (cIa (aggL (cIa us 0)) 0)) (toI (cIa (aggL (cIa us 0)) 1))) enc24 else Call.none
noncomputable def C24 := AI.ext 24 S24 C41

theorem run24 (a_X : Int) (a_Y : Int) : fcall TT TU noG C41 ownF true noL Try.f24 [(.agg [(.sc (.int .i64 a_X)), (.sc (.int .i64 a_Y))])] = (F_vec_Len2 a_X a_Y).bind fun t => some (enc24 t) :=
  Eq.trans (b := (Option.bind (F_vec_Dot a_X a_Y a_X a_Y) fun t => (some (CR.mk true (i64 t) [] [])))) (by kernel_rfl)
    (n_bind fun t => rfl)
theorem lib24 : Lib Try.prog noG C24 :=
  Lib.fn lib41 mixed TT_ok Try.func24 (by decide +kernel) (by kernel_rfl) true noL (loops_of 0 (by kernel_rfl) below0) ks24 (F := fun us => F_vec_Len2 (toI (cIa (aggL (cIa us 0)) 0)) (toI (cIa (aggL (cIa us 0)) 1))) (fun us => rfl) (fun us => run24 (toI (cIa (aggL (cIa us 0)) 0)) (toI (cIa (aggL (cIa us 0)) 1))) (fun t => rfl)

/-! ### 40: skirmish/num.Isqrt -/

noncomputable def W40_0 : Ex → List Bool
  | .ret => [false, false, true, false, false, false, false, false, false, false, false, false, false, false, false, false, false, false, false, false, false, false]
  | .exit n => bif Nat.beq n 0 then [false, false, false, true, false, false, false, false, false, false, false, false, false, false, false, false, false, false, false, false, false, false] else []
  | .normal => []
noncomputable def G_num_Isqrt_0 (n : Int) : Nat → Int → Int → Option (Int)
  | 0, _, _ => none
  | m + 1, r1, bit =>
    bif (decide (bit > (0 : Int))) then
      bif ((wr (Int.ofNat (BitVec.toNat (HOr.hOr (BitVec.ofInt 64 r1) (BitVec.ofInt 64 bit))))) == (0 : Int)) then
        none
      else
      bif (decide ((wr (Int.ofNat (BitVec.toNat (HOr.hOr (BitVec.ofInt 64 r1) (BitVec.ofInt 64 bit))))) ≤ (wr (Int.tdiv n (wr (Int.ofNat (BitVec.toNat (HOr.hOr (BitVec.ofInt 64 r1) (BitVec.ofInt 64 bit))))))))) then
        G_num_Isqrt_0 n m (wr (Int.ofNat (BitVec.toNat (HOr.hOr (BitVec.ofInt 64 r1) (BitVec.ofInt 64 bit))))) (Int.fdiv bit ((2 : Int) ^ (Min.min (1 : Int).toNat 64)))
      else
      G_num_Isqrt_0 n m r1 (Int.fdiv bit ((2 : Int) ^ (Min.min (1 : Int).toNat 64)))
    else
    some r1
noncomputable def E40_0 (n : Int) (r1 : Int) (bit : Int) : St := ⟨[(.sc (.int .i64 n)), .dead, .dead, (.sc (.int .i64 r1)), (.sc (.int .i64 bit)), .dead, .dead, .dead, .dead, .dead, .dead, .dead, .dead, .dead, .dead, .dead, .dead, .dead, .dead, .dead, .dead, .dead], []⟩
noncomputable def X40_0 (k : Ex → St → Option CR) (t : Int) : Option CR := k (.exit 0) ⟨[.dead, .dead, .dead, (.sc (.int .i64 t)), .dead, .dead, .dead, .dead, .dead, .dead, .dead, .dead, .dead, .dead, .dead, .dead, .dead, .dead, .dead, .dead, .dead, .dead], []⟩
noncomputable def ks40_0 : List SK := [.f (.int .i64), .f .dead, .f .dead, .f (.int .i64), .f (.int .i64), .f .dead, .f .dead, .f .dead, .f .dead, .f .dead, .f .dead, .f .dead, .f .dead, .f .dead, .f .dead, .f .dead, .f .dead, .f .dead, .f .dead, .f .dead, .f .dead, .f .dead]
noncomputable def hs40_0 : List HK := []
noncomputable def L40_0 (s : St) (k : Ex → St → Option CR) : Option CR := bif chkS ks40_0 hs40_0 s then (G_num_Isqrt_0 (toI (cIa s.tmps 0)) FU (toI (cIa s.tmps 3)) (toI (cIa s.tmps 4))).bind (X40_0 k) else none

noncomputable def L40 : LT' := fun i s k => bif Nat.beq i 0 then L40_0 s k else none

/-- 'skirmish/num.Isqrt' -/
noncomputable def F_num_Isqrt (n : Int) : Option (Int) :=
  bif (decide (n ≤ (0 : Int))) then
    some (0 : Int)
  else
  Option.bind (G_num_Isqrt_0 n FU (0 : Int) (2147483648 : Int)) fun t =>
  some t
noncomputable def enc40 (t : Int) : CR := ⟨true, (.sc (.int .i64 t)), [], []⟩
noncomputable def ks40 : List SK := [.f (.int .i64)]
noncomputable def S40 (us : List AVal) : Call := bif chkA ks40 us then Call.of (F_num_Isqrt (toI (cIa us 0))) enc40 else Call.none
noncomputable def C40 := AI.ext 40 S40 C24

@[reducible] noncomputable def B40_0 := bodyOf TT TU noG C24 ownF L40 (lp Try.f40 0)
@[reducible] noncomputable def K40_0 (k : Ex → St → Option CR) : Ex → St → Option CR := fun e s => k e (maskS (W40_0 e) s)
theorem spec40_0 (k : Ex → St → Option CR) : ∀ (m : Nat) (n : Int) (r1 : Int) (bit : Int), loopN B40_0 m (E40_0 n r1 bit) (K40_0 k) = (G_num_Isqrt_0 n m r1 bit).bind (X40_0 k)
  | 0, _, _, _ => rfl
  | m + 1, n, r1, bit =>
    Eq.trans (b := (bif (decide (bit > (0 : Int))) then (bif ((wr (Int.ofNat (BitVec.toNat (HOr.hOr (BitVec.ofInt 64 r1) (BitVec.ofInt 64 bit))))) == (0 : Int)) then none else (bif (decide ((wr (Int.ofNat (BitVec.toNat (HOr.hOr (BitVec.ofInt 64 r1) (BitVec.ofInt 64 bit))))) ≤ (wr (Int.tdiv n (wr (Int.ofNat (BitVec.toNat (HOr.hOr (BitVec.ofInt 64 r1) (BitVec.ofInt 64 bit))))))))) then (loopN B40_0 m ⟨[(i64 n), .dead, .dead, (i64 (wr (Int.ofNat (BitVec.toNat (HOr.hOr (BitVec.ofInt 64 r1) (BitVec.ofInt 64 bit)))))), (i64 (Int.fdiv bit ((2 : Int) ^ (Min.min (1 : Int).toNat 64)))), .dead, .dead, .dead, .dead, .dead, .dead, .dead, .dead, .dead, .dead, .dead, .dead, .dead, .dead, .dead, .dead, .dead], []⟩ (K40_0 k)) else (loopN B40_0 m ⟨[(i64 n), .dead, .dead, (i64 r1), (i64 (Int.fdiv bit ((2 : Int) ^ (Min.min (1 : Int).toNat 64)))), .dead, .dead, .dead, .dead, .dead, .dead, .dead, .dead, .dead, .dead, .dead, .dead, .dead, .dead, .dead, .dead, .dead], []⟩ (K40_0 k)))) else (k (.exit 0) ⟨[.dead, .dead, .dead, (i64 r1), .dead, .dead, .dead, .dead, .dead, .dead, .dead, .dead, .dead, .dead, .dead, .dead, .dead, .dead, .dead, .dead, .dead, .dead], []⟩))) (by kernel_rfl)
      (n_condH rfl (fun h0 => (n_condH rfl (fun h1 => n_none) fun h1 => (n_condH rfl (fun h2 => (spec40_0 k m n (wr (Int.ofNat (BitVec.toNat (HOr.hOr (BitVec.ofInt 64 r1) (BitVec.ofInt 64 bit))))) (Int.fdiv bit ((2 : Int) ^ (Min.min (1 : Int).toNat 64))))) fun h2 => (spec40_0 k m n r1 (Int.fdiv bit ((2 : Int) ^ (Min.min (1 : Int).toNat 64))))))) fun h0 => rfl)
theorem okL40_0 : LoopOk TT TU noG C24 ownF L40 (lp Try.f40 0) :=
  loopOk_of ks40_0 hs40_0 W40_0 FU (fun s k => (G_num_Isqrt_0 (toI (cIa s.tmps 0)) FU (toI (cIa s.tmps 3)) (toI (cIa s.tmps 4))).bind (X40_0 k)) (fun s k => by kernel_rfl) (fun s k => spec40_0 k FU (toI (cIa s.tmps 0)) (toI (cIa s.tmps 3)) (toI (cIa s.tmps 4)))
theorem run40 (n : Int) : fcall TT TU noG C24 ownF true L40 Try.f40 [(.sc (.int .i64 n))] = (F_num_Isqrt n).bind fun t => some (enc40 t) :=
  Eq.trans (b := (bif (decide (n ≤ (0 : Int))) then (some (CR.mk true (i64 (0 : Int)) [] [])) else (Option.bind (G_num_Isqrt_0 n FU (0 : Int) (2147483648 : Int)) fun t => (some (CR.mk true (i64 t) [] []))))) (by kernel_rfl)
    (n_condH rfl (fun h0 => rfl) fun h0 => (n_bind fun t => rfl))
theorem lib40 : Lib Try.prog noG C40 :=
  Lib.fn lib24 mixed TT_ok Try.func40 (by decide +kernel) (by kernel_rfl) true L40 (loops_of 1 (by kernel_rfl) (belowS below0 okL40_0)) ks40 (F := fun us => F_num_Isqrt (toI (cIa us 0))) (fun us => rfl) (fun us => run40 (toI (cIa us 0))) (fun t => rfl)

/-! ### 23: skirmish/formation.ceil -/



/-- 'skirmish/formation.ceil' -/
noncomputable def F_formation_ceil (n : Int) : Option (Int) :=
  Option.bind (F_num_Isqrt n) fun t =>
  bif (decide ((wr (t * t)) < n)) then
    some (wr (t + (1 : Int)))
  else
  some t
noncomputable def enc23 (t : Int) : CR := ⟨true, (.sc (.int .i64 t)), [], []⟩
noncomputable def ks23 : List SK := [.f (.int .i64)]
noncomputable def S23 (us : List AVal) : Call := bif chkA ks23 us then Call.of (F_formation_ceil (toI (cIa us 0))) enc23 else Call.none
noncomputable def C23 := AI.ext 23 S23 C40

theorem run23 (n : Int) : fcall TT TU noG C40 ownF true noL Try.f23 [(.sc (.int .i64 n))] = (F_formation_ceil n).bind fun t => some (enc23 t) :=
  Eq.trans (b := (Option.bind (F_num_Isqrt n) fun t => (bif (decide ((wr (t * t)) < n)) then (some (CR.mk true (i64 (wr (t + (1 : Int)))) [] [])) else (some (CR.mk true (i64 t) [] []))))) (by kernel_rfl)
    (n_bind fun t => (n_condH rfl (fun h0 => rfl) fun h0 => rfl))
theorem lib23 : Lib Try.prog noG C23 :=
  Lib.fn lib40 mixed TT_ok Try.func23 (by decide +kernel) (by kernel_rfl) true noL (loops_of 0 (by kernel_rfl) below0) ks23 (F := fun us => F_formation_ceil (toI (cIa us 0))) (fun us => rfl) (fun us => run23 (toI (cIa us 0))) (fun t => rfl)

/-! ### 25: skirmish/formation.row -/

noncomputable def W25_0 : Ex → List Bool
  | .ret => [false, false, false, false, false, false, true, false, false, false, false, false, false, false, false, false, false, false, false, false, false, false, false, false, false, false, false, false, false, false, false, false]
  | .exit n => bif Nat.beq n 5 then [false, false, false, false, false, false, false, true, false, false, false, false, false, false, false, false, false, false, false, false, false, false, false, false, false, false, false, false, false, false, false, false] else bif Nat.beq n 4 then [false, false, true, false, false, false, false, false, false, false, false, false, false, false, false, false, false, false, false, false, false, false, false, false, false, false, false, false, false, false, false, false] else bif Nat.beq n 0 then [false, false, false, false, false, false, false, true, false, false, false, false, false, false, false, false, false, false, false, false, false, false, false, false, false, false, false, false, false, false, false, false] else []
  | .normal => []
noncomputable def G_formation_row_0 (n : Int) : Nat → Int → Option (Int)
  | 0, _ => none
  | m + 1, k1 =>
    bif (decide ((wr (k1 * k1)) < n)) then
      G_formation_row_0 n m (wr (k1 + (1 : Int)))
    else
    some k1
noncomputable def E25_0 (n : Int) (k1 : Int) : St := ⟨[.dead, (.sc (.int .i64 n)), .dead, .dead, .dead, .dead, .dead, (.sc (.int .i64 k1)), .dead, .dead, .dead, .dead, .dead, .dead, .dead, .dead, .dead, .dead, .dead, .dead, .dead, .dead, .dead, .dead, .dead, .dead, .dead, .dead, .dead, .dead, .dead, .dead], []⟩
noncomputable def X25_0 (k : Ex → St → Option CR) (t : Int) : Option CR := k (.exit 5) ⟨[.dead, .dead, .dead, .dead, .dead, .dead, .dead, (.sc (.int .i64 t)), .dead, .dead, .dead, .dead, .dead, .dead, .dead, .dead, .dead, .dead, .dead, .dead, .dead, .dead, .dead, .dead, .dead, .dead, .dead, .dead, .dead, .dead, .dead, .dead], []⟩
noncomputable def ks25_0 : List SK := [.f .dead, .f (.int .i64), .f .dead, .f .dead, .f .dead, .f .dead, .f .dead, .f (.int .i64), .f .dead, .f .dead, .f .dead, .f .dead, .f .dead, .f .dead, .f .dead, .f .dead, .f .dead, .f .dead, .f .dead, .f .dead, .f .dead, .f .dead, .f .dead, .f .dead, .f .dead, .f .dead, .f .dead, .f .dead, .f .dead, .f .dead, .f .dead, .f .dead]
noncomputable def hs25_0 : List HK := []
noncomputable def L25_0 (s : St) (k : Ex → St → Option CR) : Option CR := bif chkS ks25_0 hs25_0 s then (G_formation_row_0 (toI (cIa s.tmps 1)) FU (toI (cIa s.tmps 7))).bind (X25_0 k) else none

noncomputable def L25 : LT' := fun i s k => bif Nat.beq i 5 then L25_0 s k else none

/-- 'skirmish/formation.row' -/
noncomputable def F_formation_row (kind : Int) (n : Int) (i : Int) : Option (Int) :=
  bif (kind == (1 : Int)) then
    some (wr ((wr ((0 : Int) + (6 : Int))) + (2 : Int)))
  else
  bif (kind == (2 : Int)) then
    some (wr ((0 : Int) + (2 : Int)))
  else
  bif (kind == (3 : Int)) then
    Option.bind (G_formation_row_0 n FU (0 : Int)) fun t =>
    some t
  else
  bif (kind == (4 : Int)) then
    some (wr ((wr ((2 : Int) * i)) + (1 : Int)))
  else
  some (0 : Int)
noncomputable def enc25 (t : Int) : CR := ⟨true, (.sc (.int .i64 t)), [], []⟩
noncomputable def ks25 : List SK := [.f (.int .i64), .f (.int .i64), .f (.int .i64)]
noncomputable def S25 (us : List AVal) : Call := bif chkA ks25 us then Call.of (F_formation_row (toI (cIa us 0)) (toI (cIa us 1)) (toI (cIa us 2))) enc25 else Call.none
noncomputable def C25 := AI.ext 25 S25 C23

@[reducible] noncomputable def B25_0 := bodyOf TT TU noG C23 ownF L25 (lp Try.f25 0)
@[reducible] noncomputable def K25_0 (k : Ex → St → Option CR) : Ex → St → Option CR := fun e s => k e (maskS (W25_0 e) s)
theorem spec25_0 (k : Ex → St → Option CR) : ∀ (m : Nat) (n : Int) (k1 : Int), loopN B25_0 m (E25_0 n k1) (K25_0 k) = (G_formation_row_0 n m k1).bind (X25_0 k)
  | 0, _, _ => rfl
  | m + 1, n, k1 =>
    Eq.trans (b := (bif (decide ((wr (k1 * k1)) < n)) then (loopN B25_0 m ⟨[.dead, (i64 n), .dead, .dead, .dead, .dead, .dead, (i64 (wr (k1 + (1 : Int)))), .dead, .dead, .dead, .dead, .dead, .dead, .dead, .dead, .dead, .dead, .dead, .dead, .dead, .dead, .dead, .dead, .dead, .dead, .dead, .dead, .dead, .dead, .dead, .dead], []⟩ (K25_0 k)) else (k (.exit 5) ⟨[.dead, .dead, .dead, .dead, .dead, .dead, .dead, (i64 k1), .dead, .dead, .dead, .dead, .dead, .dead, .dead, .dead, .dead, .dead, .dead, .dead, .dead, .dead, .dead, .dead, .dead, .dead, .dead, .dead, .dead, .dead, .dead, .dead], []⟩))) (by kernel_rfl)
      (n_condH rfl (fun h0 => (spec25_0 k m n (wr (k1 + (1 : Int))))) fun h0 => rfl)
theorem okL25_0 : LoopOk TT TU noG C23 ownF L25 (lp Try.f25 0) :=
  loopOk_of ks25_0 hs25_0 W25_0 FU (fun s k => (G_formation_row_0 (toI (cIa s.tmps 1)) FU (toI (cIa s.tmps 7))).bind (X25_0 k)) (fun s k => by kernel_rfl) (fun s k => spec25_0 k FU (toI (cIa s.tmps 1)) (toI (cIa s.tmps 7)))
theorem run25 (kind : Int) (n : Int) (i : Int) : fcall TT TU noG C23 ownF true L25 Try.f25 [(.sc (.int .i64 kind)), (.sc (.int .i64 n)), (.sc (.int .i64 i))] = (F_formation_row kind n i).bind fun t => some (enc25 t) :=
  Eq.trans (b := (bif (kind == (1 : Int)) then (some (CR.mk true (i64 (wr ((wr ((0 : Int) + (6 : Int))) + (2 : Int)))) [] [])) else (bif (kind == (2 : Int)) then (some (CR.mk true (i64 (wr ((0 : Int) + (2 : Int)))) [] [])) else (bif (kind == (3 : Int)) then (Option.bind (G_formation_row_0 n FU (0 : Int)) fun t => (some (CR.mk true (i64 t) [] []))) else (bif (kind == (4 : Int)) then (some (CR.mk true (i64 (wr ((wr ((2 : Int) * i)) + (1 : Int)))) [] [])) else (some (CR.mk true (i64 (0 : Int)) [] []))))))) (by kernel_rfl)
    (n_condH rfl (fun h0 => rfl) fun h0 => (n_condH rfl (fun h1 => rfl) fun h1 => (n_condH rfl (fun h2 => (n_bind fun t => rfl)) fun h2 => (n_condH rfl (fun h3 => rfl) fun h3 => rfl))))
theorem lib25 : Lib Try.prog noG C25 :=
  Lib.fn lib23 mixed TT_ok Try.func25 (by decide +kernel) (by kernel_rfl) true L25 (loops_of 1 (by kernel_rfl) (belowS below0 okL25_0)) ks25 (F := fun us => F_formation_row (toI (cIa us 0)) (toI (cIa us 1)) (toI (cIa us 2))) (fun us => rfl) (fun us => run25 (toI (cIa us 0)) (toI (cIa us 1)) (toI (cIa us 2))) (fun t => rfl)

/-! ### 27: skirmish/vec.Side -/



/-- 'skirmish/vec.Side' -/
noncomputable def F_vec_Side (a_X : Int) (a_Y : Int) : Option (Int × Int) :=
  Option.bind (F_vec_nearest a_X a_Y) fun t =>
  some ((wr ((0 : Int) - t.2)), t.1)
noncomputable def enc27 (t : Int × Int) : CR := ⟨true, (.agg [(.sc (.int .i64 t.1)), (.sc (.int .i64 t.2))]), [], []⟩
noncomputable def ks27 : List SK := [.agg [.int .i64, .int .i64]]
noncomputable def S27 (us : List AVal) : Call := bif chkA ks27 us then Call.of (F_vec_Side (toI (cIa (aggL (cIa us 0)) 0)) (toI (cIa (aggL (cIa us 0)) 1))) enc27 else Call.none
noncomputable def C27 := AI.ext 27 S27 C25

theorem run27 (a_X : Int) (a_Y : Int) : fcall TT TU noG C25 ownF true noL Try.f27 [(.agg [(.sc (.int .i64 a_X)), (.sc (.int .i64 a_Y))])] = (F_vec_Side a_X a_Y).bind fun t => some (enc27 t) :=
  Eq.trans (b := (Option.bind (F_vec_nearest a_X a_Y) fun t => (some (CR.mk true (AVal.agg [(i64 (wr ((0 : Int) - t.2))), (i64 t.1)]) [] [])))) (by kernel_rfl)
    (n_bind fun t => rfl)
theorem lib27 : Lib Try.prog noG C27 :=
  Lib.fn lib25 mixed TT_ok Try.func27 (by decide +kernel) (by kernel_rfl) true noL (loops_of 0 (by kernel_rfl) below0) ks27 (F := fun us => F_vec_Side (toI (cIa (aggL (cIa us 0)) 0)) (toI (cIa (aggL (cIa us 0)) 1))) (fun us => rfl) (fun us => run27 (toI (cIa (aggL (cIa us 0)) 0)) (toI (cIa (aggL (cIa us 0)) 1))) (fun t => rfl)

/-! ### 26: skirmish/vec.Part -/



/-- 'skirmish/vec.Part' -/
noncomputable def F_vec_Part (a_X : Int) (a_Y : Int) (num : Int) (den : Int) : Option (Int × Int) :=
  Option.bind (F_vec_nearest a_X a_Y) fun t =>
  Option.bind (F_vec_near num) fun t1 =>
  Option.bind (F_vec_near den) fun t2 =>
  bif (t2 == (0 : Int)) then
    some ((0 : Int), (0 : Int))
  else
  Option.bind (F_vec_nearest (wr (Int.tdiv (wr (t.1 * t1)) t2)) (wr (Int.tdiv (wr (t.2 * t1)) t2))) fun t3 =>
  some (t3.1, t3.2)
noncomputable def enc26 (t : Int × Int) : CR := ⟨true, (.agg [(.sc (.int .i64 t.1)), (.sc (.int .i64 t.2))]), [], []⟩
noncomputable def ks26 : List SK := [.agg [.int .i64, .int .i64], .f (.int .i64), .f (.int .i64)]
noncomputable def S26 (us : List AVal) : Call := bif chkA ks26 us then Call.of (F_vec_Part (toI (cIa (aggL (cIa us 0)) 0)) (toI (cIa (aggL (cIa us 0)) 1)) (toI (cIa us 1)) (toI (cIa us 2))) enc26 else Call.none
noncomputable def C26 := AI.ext 26 S26 C27

theorem run26 (a_X : Int) (a_Y : Int) (num : Int) (den : Int) : fcall TT TU noG C27 ownF true noL Try.f26 [(.agg [(.sc (.int .i64 a_X)), (.sc (.int .i64 a_Y))]), (.sc (.int .i64 num)), (.sc (.int .i64 den))] = (F_vec_Part a_X a_Y num den).bind fun t => some (enc26 t) :=
  Eq.trans (b := (Option.bind (F_vec_nearest a_X a_Y) fun t => (Option.bind (F_vec_near num) fun t1 => (Option.bind (F_vec_near den) fun t2 => (bif (t2 == (0 : Int)) then (some (CR.mk true (AVal.agg [(i64 (0 : Int)), (i64 (0 : Int))]) [] [])) else (bif (t2 == (0 : Int)) then none else (bif (t2 == (0 : Int)) then none else (Option.bind (F_vec_nearest (wr (Int.tdiv (wr (t.1 * t1)) t2)) (wr (Int.tdiv (wr (t.2 * t1)) t2))) fun t3 => (some (CR.mk true (AVal.agg [(i64 t3.1), (i64 t3.2)]) [] [])))))))))) (by kernel_rfl)
    (n_bind fun t => (n_bind fun t1 => (n_bind fun t2 => (n_condH rfl (fun h0 => rfl) fun h0 => (n_false h0 (n_false h0 (n_bind fun t3 => rfl)))))))
theorem lib26 : Lib Try.prog noG C26 :=
  Lib.fn lib27 mixed TT_ok Try.func26 (by decide +kernel) (by kernel_rfl) true noL (loops_of 0 (by kernel_rfl) below0) ks26 (F := fun us => F_vec_Part (toI (cIa (aggL (cIa us 0)) 0)) (toI (cIa (aggL (cIa us 0)) 1)) (toI (cIa us 1)) (toI (cIa us 2))) (fun us => rfl) (fun us => run26 (toI (cIa (aggL (cIa us 0)) 0)) (toI (cIa (aggL (cIa us 0)) 1)) (toI (cIa us 1)) (toI (cIa us 2))) (fun t => rfl)

/-! ### 44: skirmish/vec.sum -/

noncomputable def W44_0 : Ex → List Bool
  | .ret => [false, false, true, false, false, false, false, false, false, false, false, false, false, false, false, false, false, false, false, false, false, false, false, false, false, false, false]
  | .exit n => bif Nat.beq n 0 then [false, false, true, true, false, false, false, false, false, false, false, false, false, false, false, false, false, false, false, false, false, false, false, false, false, false, false] else []
  | .normal => []
noncomputable def G_vec_sum_0 (x6 : List (List AVal)) (x7 : Int) : Nat → Int → Int → Int → Option (Int × Int)
  | 0, _, _, _ => none
  | m + 1, x8, b1_0, b1_1 =>
    bif (decide (x8 < x7)) then
      bif (decide ((0 : Int) ≤ x8)) then
        Option.bind (x6[x8.toNat]?) fun r =>
        bif (chk [(LT.int IntKind.i64), (LT.int IntKind.i64)] r) then
          G_vec_sum_0 x6 x7 m (wr (x8 + (1 : Int))) (wr (b1_0 + (cI r 0))) (wr (b1_1 + (cI r 1)))
        else
        none
      else
      none
    else
    some (b1_0, b1_1)
noncomputable def E44_0 (x6 : List (List AVal)) (x7 : Int) (x8 : Int) (b0_0 : Int) (b0_1 : Int) (b1_0 : Int) (b1_1 : Int) : St := ⟨[.dead, .dead, (.ref 8000 1 0 0), (.ref 9600 1 0 0), .dead, .dead, (.ro 2 x6), (.sc (.int .i64 x7)), (.sc (.int .i64 x8)), .dead, .dead, .dead, .dead, .dead, .dead, .dead, .dead, .dead, .dead, .dead, .dead, .dead, .dead, .dead, .dead, .dead, .dead], [(8000, ⟨.box, 23, 2, [[(.sc (.int .i64 b0_0)), (.sc (.int .i64 b0_1))]]⟩), (9600, ⟨.box, 23, 2, [[(.sc (.int .i64 b1_0)), (.sc (.int .i64 b1_1))]]⟩)]⟩
noncomputable def X44_0 (b0_0 : Int) (b0_1 : Int) (k : Ex → St → Option CR) (t : Int × Int) : Option CR := k (.exit 0) ⟨[.dead, .dead, (.ref 8000 1 0 0), (.ref 9600 1 0 0), .dead, .dead, .dead, .dead, .dead, .dead, .dead, .dead, .dead, .dead, .dead, .dead, .dead, .dead, .dead, .dead, .dead, .dead, .dead, .dead, .dead, .dead, .dead], [(8000, ⟨.box, 23, 2, [[(.sc (.int .i64 b0_0)), (.sc (.int .i64 b0_1))]]⟩), (9600, ⟨.box, 23, 2, [[(.sc (.int .i64 t.1)), (.sc (.int .i64 t.2))]]⟩)]⟩
noncomputable def ks44_0 : List SK := [.f .dead, .f .dead, .f (.ref 8000 1 0 0), .f (.ref 9600 1 0 0), .f .dead, .f .dead, .f (.ro 2), .f (.int .i64), .f (.int .i64), .f .dead, .f .dead, .f .dead, .f .dead, .f .dead, .f .dead, .f .dead, .f .dead, .f .dead, .f .dead, .f .dead, .f .dead, .f .dead, .f .dead, .f .dead, .f .dead, .f .dead, .f .dead]
noncomputable def hs44_0 : List HK := [⟨8000, .box, 23, 2, some [.int .i64, .int .i64]⟩, ⟨9600, .box, 23, 2, some [.int .i64, .int .i64]⟩]
noncomputable def L44_0 (s : St) (k : Ex → St → Option CR) : Option CR := bif chkS ks44_0 hs44_0 s then (G_vec_sum_0 (roRows (cIa s.tmps 6)) (toI (cIa s.tmps 7)) FU (toI (cIa s.tmps 8)) (toI (cIa (rows0 (blkAt s.heap 1).2) 0)) (toI (cIa (rows0 (blkAt s.heap 1).2) 1))).bind (X44_0 (toI (cIa (rows0 (blkAt s.heap 0).2) 0)) (toI (cIa (rows0 (blkAt s.heap 0).2) 1)) k) else none

noncomputable def L44 : LT' := fun i s k => bif Nat.beq i 0 then L44_0 s k else none

/-- 'skirmish/vec.sum' -/
noncomputable def F_vec_sum (terms : List (List AVal)) : Option (Int × Int) :=
  Option.bind (G_vec_sum_0 terms (Int.ofNat terms.length) FU (0 : Int) (0 : Int) (0 : Int)) fun t =>
  Option.bind (F_vec_nearest t.1 t.2) fun t1 =>
  some (t1.1, t1.2)
noncomputable def enc44 (t : Int × Int) : CR := ⟨true, (.agg [(.sc (.int .i64 t.1)), (.sc (.int .i64 t.2))]), [], []⟩
noncomputable def ks44 : List SK := [.f (.ro 2)]
noncomputable def S44 (us : List AVal) : Call := bif chkA ks44 us then Call.of (F_vec_sum (roRows (cIa us 0))) enc44 else Call.none
noncomputable def C44 := AI.ext 44 S44 C26

@[reducible] noncomputable def B44_0 := bodyOf TT TU noG C26 ownF L44 (lp Try.f44 0)
@[reducible] noncomputable def K44_0 (k : Ex → St → Option CR) : Ex → St → Option CR := fun e s => k e (maskS (W44_0 e) s)
theorem spec44_0 (k : Ex → St → Option CR) : ∀ (m : Nat) (x6 : List (List AVal)) (x7 : Int) (x8 : Int) (b0_0 : Int) (b0_1 : Int) (b1_0 : Int) (b1_1 : Int), loopN B44_0 m (E44_0 x6 x7 x8 b0_0 b0_1 b1_0 b1_1) (K44_0 k) = (G_vec_sum_0 x6 x7 m x8 b1_0 b1_1).bind (X44_0 b0_0 b0_1 k)
  | 0, _, _, _, _, _, _, _ => rfl
  | m + 1, x6, x7, x8, b0_0, b0_1, b1_0, b1_1 =>
    Eq.trans (b := (bif (decide (x8 < x7)) then (bif (decide ((0 : Int) ≤ x8)) then (Option.bind (x6[x8.toNat]?) fun r => (bif (chk [(LT.int IntKind.i64), (LT.int IntKind.i64)] r) then (loopN B44_0 m ⟨[.dead, .dead, (AVal.ref 8000 1 0 0), (AVal.ref 9600 1 0 0), .dead, .dead, (AVal.ro 2 x6), (i64 x7), (i64 (wr (x8 + (1 : Int)))), .dead, .dead, .dead, .dead, .dead, .dead, .dead, .dead, .dead, .dead, .dead, .dead, .dead, .dead, .dead, .dead, .dead, .dead], [(Prod.mk 8000 (Blk.mk BKind.box 23 2 [[(i64 b0_0), (i64 b0_1)]])), (Prod.mk 9600 (Blk.mk BKind.box 23 2 [[(i64 (wr (b1_0 + (cI r 0)))), (i64 (wr (b1_1 + (cI r 1))))]]))]⟩ (K44_0 k)) else none)) else none) else (k (.exit 0) ⟨[.dead, .dead, (AVal.ref 8000 1 0 0), (AVal.ref 9600 1 0 0), .dead, .dead, .dead, .dead, .dead, .dead, .dead, .dead, .dead, .dead, .dead, .dead, .dead, .dead, .dead, .dead, .dead, .dead, .dead, .dead, .dead, .dead, .dead], [(Prod.mk 8000 (Blk.mk BKind.box 23 2 [[(i64 b0_0), (i64 b0_1)]])), (Prod.mk 9600 (Blk.mk BKind.box 23 2 [[(i64 b1_0), (i64 b1_1)]]))]⟩))) (by kernel_rfl)
      (n_condH rfl (fun h0 => (n_condH rfl (fun h1 => (n_bind fun r => (n_condH rfl (fun h2 => (spec44_0 k m x6 x7 (wr (x8 + (1 : Int))) b0_0 b0_1 (wr (b1_0 + (cI r 0))) (wr (b1_1 + (cI r 1))))) fun h2 => n_none))) fun h1 => n_none)) fun h0 => rfl)
theorem okL44_0 : LoopOk TT TU noG C26 ownF L44 (lp Try.f44 0) :=
  loopOk_of ks44_0 hs44_0 W44_0 FU (fun s k => (G_vec_sum_0 (roRows (cIa s.tmps 6)) (toI (cIa s.tmps 7)) FU (toI (cIa s.tmps 8)) (toI (cIa (rows0 (blkAt s.heap 1).2) 0)) (toI (cIa (rows0 (blkAt s.heap 1).2) 1))).bind (X44_0 (toI (cIa (rows0 (blkAt s.heap 0).2) 0)) (toI (cIa (rows0 (blkAt s.heap 0).2) 1)) k)) (fun s k => by kernel_rfl) (fun s k => spec44_0 k FU (roRows (cIa s.tmps 6)) (toI (cIa s.tmps 7)) (toI (cIa s.tmps 8)) (toI (cIa (rows0 (blkAt s.heap 0).2) 0)) (toI (cIa (rows0 (blkAt s.heap 0).2) 1)) (toI (cIa (rows0 (blkAt s.heap 1).2) 0)) (toI (cIa (rows0 (blkAt s.heap 1).2) 1)))
theorem run44 (terms : List (List AVal)) : fcall TT TU noG C26 ownF true L44 Try.f44 [(.ro 2 terms)] = (F_vec_sum terms).bind fun t => some (enc44 t) :=
  Eq.trans (b := (Option.bind (G_vec_sum_0 terms (Int.ofNat terms.length) FU (0 : Int) (0 : Int) (0 : Int)) fun t => (Option.bind (F_vec_nearest t.1 t.2) fun t1 => (some (CR.mk true (AVal.agg [(i64 t1.1), (i64 t1.2)]) [] []))))) (by kernel_rfl)
    (n_bind fun t => (n_bind fun t1 => rfl))
theorem lib44 : Lib Try.prog noG C44 :=
  Lib.fn lib26 mixed TT_ok Try.func44 (by decide +kernel) (by kernel_rfl) true L44 (loops_of 1 (by kernel_rfl) (belowS below0 okL44_0)) ks44 (F := fun us => F_vec_sum (roRows (cIa us 0))) (fun us => rfl) (fun us => run44 (roRows (cIa us 0))) (fun t => rfl)

/-! ### 28: skirmish/vec.Add -/



/-- 'skirmish/vec.Add' -/
noncomputable def F_vec_Add (a_X : Int) (a_Y : Int) (b_X : Int) (b_Y : Int) : Option (Int × Int) :=
  Option.bind (F_vec_nearest a_X a_Y) fun t =>
  Option.bind (F_vec_nearest b_X b_Y) fun t1 =>
  Option.bind (F_vec_sum [[(i64 t.1), (i64 t.2)], [(i64 t1.1), (i64 t1.2)]]) fun t2 =>
  some (t2.1, t2.2)
noncomputable def enc28 (t : Int × Int) : CR := ⟨true, (.agg [(.sc (.int .i64 t.1)), (.sc (.int .i64 t.2))]), [], []⟩
noncomputable def ks28 : List SK := [.agg [.int .i64, .int .i64], .agg [.int .i64, .int .i64]]
noncomputable def S28 (us : List AVal) : Call := bif chkA ks28 us then Call.of (F_vec_Add (toI (cIa (aggL (cIa us 0)) 0)) (toI (cIa (aggL (cIa us 0)) 1)) (toI (cIa (aggL (cIa us 1)) 0)) (toI (cIa (aggL (cIa us 1)) 1))) enc28 else Call.none
noncomputable def C28 := AI.ext 28 S28 C44

theorem run28 (a_X : Int) (a_Y : Int) (b_X : Int) (b_Y : Int) : fcall TT TU noG C44 ownF true noL Try.f28 [(.agg [(.sc (.int .i64 a_X)), (.sc (.int .i64 a_Y))]), (.agg [(.sc (.int .i64 b_X)), (.sc (.int .i64 b_Y))])] = (F_vec_Add a_X a_Y b_X b_Y).bind fun t => some (enc28 t) :=
  Eq.trans (b := (Option.bind (F_vec_nearest a_X a_Y) fun t => (Option.bind (F_vec_nearest b_X b_Y) fun t1 => (Option.bind (F_vec_sum [[(i64 t.1), (i64 t.2)], [(i64 t1.1), (i64 t1.2)]]) fun t2 => (some (CR.mk true (AVal.agg [(i64 t2.1), (i64 t2.2)]) [] [])))))) (by kernel_rfl)
    (n_bind fun t => (n_bind fun t1 => (n_bind fun t2 => rfl)))
theorem lib28 : Lib Try.prog noG C28 :=
  Lib.fn lib44 mixed TT_ok Try.func28 (by decide +kernel) (by kernel_rfl) true noL (loops_of 0 (by kernel_rfl) below0) ks28 (F := fun us => F_vec_Add (toI (cIa (aggL (cIa us 0)) 0)) (toI (cIa (aggL (cIa us 0)) 1)) (toI (cIa (aggL (cIa us 1)) 0)) (toI (cIa (aggL (cIa us 1)) 1))) (fun us => rfl) (fun us => run28 (toI (cIa (aggL (cIa us 0)) 0)) (toI (cIa (aggL (cIa us 0)) 1)) (toI (cIa (aggL (cIa us 1)) 0)) (toI (cIa (aggL (cIa us 1)) 1))) (fun t => rfl)

/-! ### 10: skirmish/formation.Slots -/

noncomputable def W10_0 : Ex → List Bool
  | .ret => [false, false, false, false, false, false, false, false, false, false, true, false, false, false, false, false, false, false, false, false, false, false, false, false, false, false, false, false, false, false, false, false, false, false, false, false, false, false, false, false, false, false, false, false, false, false, false, false, false, false, false, false, false, false, false, false, false, false, false, false, false, false, false, false, false, false, false, false, false, false, false, false, false, false, false, false, false, false, false, false, false, false, false, false, false, false, false, false]
  | .exit n => bif Nat.beq n 0 then [false, false, false, false, false, false, false, false, false, false, false, false, false, false, true, false, false, false, false, false, false, false, false, false, false, false, false, false, false, false, false, false, false, false, false, false, false, false, false, false, false, false, false, false, false, false, false, false, false, false, false, false, false, false, false, false, false, false, false, false, false, false, false, false, false, false, false, false, false, false, false, false, false, false, false, false, false, false, false, false, false, false, false, false, false, false, false, false] else []
  | .normal => []
noncomputable def W10_1 : Ex → List Bool
  | .ret => [false, false, false, false, false, false, false, false, false, false, true, false, false, false, false, false, false, false, false, false, false, false, false, false, false, false, false, false, false, false, false, false, false, false, false, false, false, false, false, false, false, false, false, false, false, false, false, false, false, false, false, false, false, false, false, false, false, false, false, false, false, false, false, false, false, false, false, false, false, false, false, false, false, false, false, false, false, false, false, false, false, false, false, false, false, false, false, false]
  | .exit n => bif Nat.beq n 2 then [true, true, false, false, false, false, false, false, true, false, false, true, true, true, true, true, false, false, false, false, false, false, false, false, false, false, false, false, false, false, false, false, false, false, false, false, false, false, false, false, false, false, false, false, false, false, false, false, false, false, false, false, false, false, false, false, false, false, false, false, false, false, false, false, false, false, false, false, false, false, false, false, false, false, false, false, false, false, false, false, false, false, false, false, false, false, false, false] else bif Nat.beq n 1 then [true, true, false, false, false, false, false, false, true, false, false, true, true, true, true, true, false, false, false, false, false, false, false, false, false, false, false, false, false, false, false, false, false, false, false, false, false, false, false, false, false, false, false, false, false, false, false, false, false, false, false, false, false, false, false, false, false, false, false, false, false, false, false, false, false, false, false, false, false, false, false, false, false, false, false, false, false, false, false, false, false, false, false, false, false, false, false, false] else bif Nat.beq n 0 then [false, false, false, false, false, false, false, false, false, false, false, false, false, false, true, false, false, false, false, false, false, false, false, false, false, false, false, false, false, false, false, false, false, false, false, false, false, false, false, false, false, false, false, false, false, false, false, false, false, false, false, false, false, false, false, false, false, false, false, false, false, false, false, false, false, false, false, false, false, false, false, false, false, false, false, false, false, false, false, false, false, false, false, false, false, false, false, false] else []
  | .normal => []
noncomputable def G_formation_Slots_1 (size : Int) (s1 : Int) (i : Int) (c : Int) (x55 : Int) (b0_0 : Int) (b0_1 : Int) (b3_0 : Int) (b3_1 : Int) : Nat → List (List AVal) → Int → Option (List (List AVal))
  | 0, _, _ => none
  | m + 1, R4, x56 =>
    bif (decide (x56 < x55)) then
      Option.bind (F_vec_Side b3_0 b3_1) fun t =>
      Option.bind (F_vec_Part t.1 t.2 (wr ((wr ((wr ((2 : Int) * x56)) - (wr (c - (1 : Int))))) * s1)) (wr ((2 : Int) * size))) fun t1 =>
      Option.bind (F_vec_Part b3_0 b3_1 (wr ((wr ((0 : Int) - i)) * s1)) size) fun t2 =>
      Option.bind (F_vec_Add b0_0 b0_1 t1.1 t1.2) fun t3 =>
      Option.bind (F_vec_Add t3.1 t3.2 t2.1 t2.2) fun t4 =>
      bif (roomOk (R4.length + 1) 16) then
        G_formation_Slots_1 size s1 i c x55 b0_0 b0_1 b3_0 b3_1 m (R4 ++ [[(i64 t4.1), (i64 t4.2)]]) (wr (x56 + (1 : Int)))
      else
      none
    else
    some R4
noncomputable def E10_1 (R2 : List (List AVal)) (R4 : List (List AVal)) (kind : Int) (n : Int) (size : Int) (s1 : Int) (i : Int) (c : Int) (x55 : Int) (x56 : Int) (b0_0 : Int) (b0_1 : Int) (b1_0 : Int) (b1_1 : Int) (b3_0 : Int) (b3_1 : Int) : St := ⟨[(.sc (.int .i64 kind)), (.sc (.int .i64 n)), .dead, .dead, .dead, .dead, .dead, .dead, (.ref 8000 1 0 0), .dead, .dead, (.ref 11256 1 0 0), (.sc (.int .i64 size)), (.sc (.int .i64 s1)), (.slc 19200 (R4).length), (.sc (.int .i64 i)), (.sc (.int .i64 c)), .dead, .dead, .dead, .dead, .dead, .dead, .dead, .dead, .dead, .dead, .dead, .dead, .dead, .dead, .dead, .dead, .dead, .dead, .dead, .dead, .dead, .dead, .dead, .dead, .dead, .dead, .dead, .dead, .dead, .dead, .dead, .dead, .dead, .dead, .dead, .dead, .dead, .dead, (.sc (.int .i64 x55)), (.sc (.int .i64 x56)), .dead, .dead, .dead, .dead, .dead, .dead, .dead, .dead, .dead, .dead, .dead, .dead, .dead, .dead, .dead, .dead, .dead, .dead, .dead, .dead, .dead, .dead, .dead, .dead, .dead, .dead, .dead, .dead, .dead, .dead, .dead], [(8000, ⟨.box, 23, 2, [[(.sc (.int .i64 b0_0)), (.sc (.int .i64 b0_1))]]⟩), (8008, ⟨.box, 23, 2, [[(.sc (.int .i64 b1_0)), (.sc (.int .i64 b1_1))]]⟩), (8016, ⟨.arr, 23, 2, R2⟩), (11256, ⟨.box, 23, 2, [[(.sc (.int .i64 b3_0)), (.sc (.int .i64 b3_1))]]⟩), (19200, ⟨.arr, 23, 2, R4⟩)]⟩
noncomputable def X10_1 (R2 : List (List AVal)) (kind : Int) (n : Int) (size : Int) (s1 : Int) (i : Int) (b0_0 : Int) (b0_1 : Int) (b1_0 : Int) (b1_1 : Int) (b3_0 : Int) (b3_1 : Int) (k : Ex → St → Option CR) (t : List (List AVal)) : Option CR := k (.exit 2) ⟨[(.sc (.int .i64 kind)), (.sc (.int .i64 n)), .dead, .dead, .dead, .dead, .dead, .dead, (.ref 8000 1 0 0), .dead, .dead, (.ref 11256 1 0 0), (.sc (.int .i64 size)), (.sc (.int .i64 s1)), (.slc 19200 (t).length), (.sc (.int .i64 i)), .dead, .dead, .dead, .dead, .dead, .dead, .dead, .dead, .dead, .dead, .dead, .dead, .dead, .dead, .dead, .dead, .dead, .dead, .dead, .dead, .dead, .dead, .dead, .dead, .dead, .dead, .dead, .dead, .dead, .dead, .dead, .dead, .dead, .dead, .dead, .dead, .dead, .dead, .dead, .dead, .dead, .dead, .dead, .dead, .dead, .dead, .dead, .dead, .dead, .dead, .dead, .dead, .dead, .dead, .dead, .dead, .dead, .dead, .dead, .dead, .dead, .dead, .dead, .dead, .dead, .dead, .dead, .dead, .dead, .dead, .dead, .dead], [(8000, ⟨.box, 23, 2, [[(.sc (.int .i64 b0_0)), (.sc (.int .i64 b0_1))]]⟩), (8008, ⟨.box, 23, 2, [[(.sc (.int .i64 b1_0)), (.sc (.int .i64 b1_1))]]⟩), (8016, ⟨.arr, 23, 2, R2⟩), (11256, ⟨.box, 23, 2, [[(.sc (.int .i64 b3_0)), (.sc (.int .i64 b3_1))]]⟩), (19200, ⟨.arr, 23, 2, t⟩)]⟩
noncomputable def ks10_1 : List SK := [.f (.int .i64), .f (.int .i64), .f .dead, .f .dead, .f .dead, .f .dead, .f .dead, .f .dead, .f (.ref 8000 1 0 0), .f .dead, .f .dead, .f (.ref 11256 1 0 0), .f (.int .i64), .f (.int .i64), .f (.slc 19200 4), .f (.int .i64), .f (.int .i64), .f .dead, .f .dead, .f .dead, .f .dead, .f .dead, .f .dead, .f .dead, .f .dead, .f .dead, .f .dead, .f .dead, .f .dead, .f .dead, .f .dead, .f .dead, .f .dead, .f .dead, .f .dead, .f .dead, .f .dead, .f .dead, .f .dead, .f .dead, .f .dead, .f .dead, .f .dead, .f .dead, .f .dead, .f .dead, .f .dead, .f .dead, .f .dead, .f .dead, .f .dead, .f .dead, .f .dead, .f .dead, .f .dead, .f (.int .i64), .f (.int .i64), .f .dead, .f .dead, .f .dead, .f .dead, .f .dead, .f .dead, .f .dead, .f .dead, .f .dead, .f .dead, .f .dead, .f .dead, .f .dead, .f .dead, .f .dead, .f .dead, .f .dead, .f .dead, .f .dead, .f .dead, .f .dead, .f .dead, .f .dead, .f .dead, .f .dead, .f .dead, .f .dead, .f .dead, .f .dead, .f .dead, .f .dead]
noncomputable def hs10_1 : List HK := [⟨8000, .box, 23, 2, some [.int .i64, .int .i64]⟩, ⟨8008, .box, 23, 2, some [.int .i64, .int .i64]⟩, ⟨8016, .arr, 23, 2, none⟩, ⟨11256, .box, 23, 2, some [.int .i64, .int .i64]⟩, ⟨19200, .arr, 23, 2, none⟩]
noncomputable def L10_1 (s : St) (k : Ex → St → Option CR) : Option CR := bif chkS ks10_1 hs10_1 s then (G_formation_Slots_1 (toI (cIa s.tmps 12)) (toI (cIa s.tmps 13)) (toI (cIa s.tmps 15)) (toI (cIa s.tmps 16)) (toI (cIa s.tmps 55)) (toI (cIa (rows0 (blkAt s.heap 0).2) 0)) (toI (cIa (rows0 (blkAt s.heap 0).2) 1)) (toI (cIa (rows0 (blkAt s.heap 3).2) 0)) (toI (cIa (rows0 (blkAt s.heap 3).2) 1)) FU (blkAt s.heap 4).2.rows (toI (cIa s.tmps 56))).bind (X10_1 (blkAt s.heap 2).2.rows (toI (cIa s.tmps 0)) (toI (cIa s.tmps 1)) (toI (cIa s.tmps 12)) (toI (cIa s.tmps 13)) (toI (cIa s.tmps 15)) (toI (cIa (rows0 (blkAt s.heap 0).2) 0)) (toI (cIa (rows0 (blkAt s.heap 0).2) 1)) (toI (cIa (rows0 (blkAt s.heap 1).2) 0)) (toI (cIa (rows0 (blkAt s.heap 1).2) 1)) (toI (cIa (rows0 (blkAt s.heap 3).2) 0)) (toI (cIa (rows0 (blkAt s.heap 3).2) 1)) k) else none
noncomputable def G_formation_Slots_0 (kind : Int) (n : Int) (size : Int) (s1 : Int) (b0_0 : Int) (b0_1 : Int) (b3_0 : Int) (b3_1 : Int) : Nat → List (List AVal) → Int → Option (Bool × List (List AVal) × List (List AVal))
  | 0, _, _ => none
  | m + 1, R4, i =>
    bif (decide ((Int.ofNat R4.length) < n)) then
      Option.bind (F_formation_row kind n i) fun t =>
      bif (decide ((minI t (wr (n - (Int.ofNat R4.length)))) < (1 : Int))) then
        some (true, [], R4)
      else
      Option.bind (G_formation_Slots_1 size s1 i (minI t (wr (n - (Int.ofNat R4.length)))) (minI t (wr (n - (Int.ofNat R4.length)))) b0_0 b0_1 b3_0 b3_1 FU R4 (0 : Int)) fun t1 =>
      G_formation_Slots_0 kind n size s1 b0_0 b0_1 b3_0 b3_1 m t1 (wr (i + (1 : Int)))
    else
    some (false, R4, [])
noncomputable def E10_0 (R2 : List (List AVal)) (R4 : List (List AVal)) (kind : Int) (n : Int) (size : Int) (s1 : Int) (i : Int) (b0_0 : Int) (b0_1 : Int) (b1_0 : Int) (b1_1 : Int) (b3_0 : Int) (b3_1 : Int) : St := ⟨[(.sc (.int .i64 kind)), (.sc (.int .i64 n)), .dead, .dead, .dead, .dead, .dead, .dead, (.ref 8000 1 0 0), .dead, .dead, (.ref 11256 1 0 0), (.sc (.int .i64 size)), (.sc (.int .i64 s1)), (.slc 19200 (R4).length), (.sc (.int .i64 i)), .dead, .dead, .dead, .dead, .dead, .dead, .dead, .dead, .dead, .dead, .dead, .dead, .dead, .dead, .dead, .dead, .dead, .dead, .dead, .dead, .dead, .dead, .dead, .dead, .dead, .dead, .dead, .dead, .dead, .dead, .dead, .dead, .dead, .dead, .dead, .dead, .dead, .dead, .dead, .dead, .dead, .dead, .dead, .dead, .dead, .dead, .dead, .dead, .dead, .dead, .dead, .dead, .dead, .dead, .dead, .dead, .dead, .dead, .dead, .dead, .dead, .dead, .dead, .dead, .dead, .dead, .dead, .dead, .dead, .dead, .dead, .dead], [(8000, ⟨.box, 23, 2, [[(.sc (.int .i64 b0_0)), (.sc (.int .i64 b0_1))]]⟩), (8008, ⟨.box, 23, 2, [[(.sc (.int .i64 b1_0)), (.sc (.int .i64 b1_1))]]⟩), (8016, ⟨.arr, 23, 2, R2⟩), (11256, ⟨.box, 23, 2, [[(.sc (.int .i64 b3_0)), (.sc (.int .i64 b3_1))]]⟩), (19200, ⟨.arr, 23, 2, R4⟩)]⟩
noncomputable def X10_0 (R2 : List (List AVal)) (b0_0 : Int) (b0_1 : Int) (b1_0 : Int) (b1_1 : Int) (b3_0 : Int) (b3_1 : Int) (k : Ex → St → Option CR) (t : Bool × List (List AVal) × List (List AVal)) : Option CR := bif t.1 then k .ret ⟨[.dead, .dead, .dead, .dead, .dead, .dead, .dead, .dead, .dead, .dead, (.slc 28800 (([] : List (List AVal))).length), .dead, .dead, .dead, .dead, .dead, .dead, .dead, .dead, .dead, .dead, .dead, .dead, .dead, .dead, .dead, .dead, .dead, .dead, .dead, .dead, .dead, .dead, .dead, .dead, .dead, .dead, .dead, .dead, .dead, .dead, .dead, .dead, .dead, .dead, .dead, .dead, .dead, .dead, .dead, .dead, .dead, .dead, .dead, .dead, .dead, .dead, .dead, .dead, .dead, .dead, .dead, .dead, .dead, .dead, .dead, .dead, .dead, .dead, .dead, .dead, .dead, .dead, .dead, .dead, .dead, .dead, .dead, .dead, .dead, .dead, .dead, .dead, .dead, .dead, .dead, .dead, .dead], [(8000, ⟨.box, 23, 2, [[(.sc (.int .i64 b0_0)), (.sc (.int .i64 b0_1))]]⟩), (8008, ⟨.box, 23, 2, [[(.sc (.int .i64 b1_0)), (.sc (.int .i64 b1_1))]]⟩), (8016, ⟨.arr, 23, 2, R2⟩), (11256, ⟨.box, 23, 2, [[(.sc (.int .i64 b3_0)), (.sc (.int .i64 b3_1))]]⟩), (19200, ⟨.arr, 23, 2, t.2.2⟩), (28800, ⟨.arr, 23, 2, ([] : List (List AVal))⟩)]⟩ else k (.exit 0) ⟨[.dead, .dead, .dead, .dead, .dead, .dead, .dead, .dead, .dead, .dead, .dead, .dead, .dead, .dead, (.slc 19200 (t.2.1).length), .dead, .dead, .dead, .dead, .dead, .dead, .dead, .dead, .dead, .dead, .dead, .dead, .dead, .dead, .dead, .dead, .dead, .dead, .dead, .dead, .dead, .dead, .dead, .dead, .dead, .dead, .dead, .dead, .dead, .dead, .dead, .dead, .dead, .dead, .dead, .dead, .dead, .dead, .dead, .dead, .dead, .dead, .dead, .dead, .dead, .dead, .dead, .dead, .dead, .dead, .dead, .dead, .dead, .dead, .dead, .dead, .dead, .dead, .dead, .dead, .dead, .dead, .dead, .dead, .dead, .dead, .dead, .dead, .dead, .dead, .dead, .dead, .dead], [(8000, ⟨.box, 23, 2, [[(.sc (.int .i64 b0_0)), (.sc (.int .i64 b0_1))]]⟩), (8008, ⟨.box, 23, 2, [[(.sc (.int .i64 b1_0)), (.sc (.int .i64 b1_1))]]⟩), (8016, ⟨.arr, 23, 2, R2⟩), (11256, ⟨.box, 23, 2, [[(.sc (.int .i64 b3_0)), (.sc (.int .i64 b3_1))]]⟩), (19200, ⟨.arr, 23, 2, t.2.1⟩)]⟩
noncomputable def ks10_0 : List SK := [.f (.int .i64), .f (.int .i64), .f .dead, .f .dead, .f .dead, .f .dead, .f .dead, .f .dead, .f (.ref 8000 1 0 0), .f .dead, .f .dead, .f (.ref 11256 1 0 0), .f (.int .i64), .f (.int .i64), .f (.slc 19200 4), .f (.int .i64), .f .dead, .f .dead, .f .dead, .f .dead, .f .dead, .f .dead, .f .dead, .f .dead, .f .dead, .f .dead, .f .dead, .f .dead, .f .dead, .f .dead, .f .dead, .f .dead, .f .dead, .f .dead, .f .dead, .f .dead, .f .dead, .f .dead, .f .dead, .f .dead, .f .dead, .f .dead, .f .dead, .f .dead, .f .dead, .f .dead, .f .dead, .f .dead, .f .dead, .f .dead, .f .dead, .f .dead, .f .dead, .f .dead, .f .dead, .f .dead, .f .dead, .f .dead, .f .dead, .f .dead, .f .dead, .f .dead, .f .dead, .f .dead, .f .dead, .f .dead, .f .dead, .f .dead, .f .dead, .f .dead, .f .dead, .f .dead, .f .dead, .f .dead, .f .dead, .f .dead, .f .dead, .f .dead, .f .dead, .f .dead, .f .dead, .f .dead, .f .dead, .f .dead, .f .dead, .f .dead, .f .dead, .f .dead]
noncomputable def hs10_0 : List HK := [⟨8000, .box, 23, 2, some [.int .i64, .int .i64]⟩, ⟨8008, .box, 23, 2, some [.int .i64, .int .i64]⟩, ⟨8016, .arr, 23, 2, none⟩, ⟨11256, .box, 23, 2, some [.int .i64, .int .i64]⟩, ⟨19200, .arr, 23, 2, none⟩]
noncomputable def L10_0 (s : St) (k : Ex → St → Option CR) : Option CR := bif chkS ks10_0 hs10_0 s then (G_formation_Slots_0 (toI (cIa s.tmps 0)) (toI (cIa s.tmps 1)) (toI (cIa s.tmps 12)) (toI (cIa s.tmps 13)) (toI (cIa (rows0 (blkAt s.heap 0).2) 0)) (toI (cIa (rows0 (blkAt s.heap 0).2) 1)) (toI (cIa (rows0 (blkAt s.heap 3).2) 0)) (toI (cIa (rows0 (blkAt s.heap 3).2) 1)) FU (blkAt s.heap 4).2.rows (toI (cIa s.tmps 15))).bind (X10_0 (blkAt s.heap 2).2.rows (toI (cIa (rows0 (blkAt s.heap 0).2) 0)) (toI (cIa (rows0 (blkAt s.heap 0).2) 1)) (toI (cIa (rows0 (blkAt s.heap 1).2) 0)) (toI (cIa (rows0 (blkAt s.heap 1).2) 1)) (toI (cIa (rows0 (blkAt s.heap 3).2) 0)) (toI (cIa (rows0 (blkAt s.heap 3).2) 1)) k) else none

noncomputable def L10 : LT' := fun i s k => bif Nat.beq i 0 then L10_0 s k else bif Nat.beq i 2 then L10_1 s k else none

/-- 'skirmish/formation.Slots' -/
noncomputable def F_formation_Slots (kind : Int) (n : Int) (spacing : Int) (at_X : Int) (at_Y : Int) (facing_X : Int) (facing_Y : Int) : Option (List (List AVal)) :=
  Option.bind (F_num_Clamp facing_X (-(65536 : Int)) (65536 : Int)) fun t =>
  Option.bind (F_num_Clamp facing_Y (-(65536 : Int)) (65536 : Int)) fun t1 =>
  bif ((t == (0 : Int)) && (t1 == (0 : Int))) then
    Option.bind (F_vec_Len2 (0 : Int) (-(256 : Int))) fun t2 =>
    Option.bind (F_formation_ceil t2) fun t3 =>
    Option.bind (F_num_Clamp spacing (0 : Int) (1024 : Int)) fun t4 =>
    Option.bind (G_formation_Slots_0 kind (minI n (64 : Int)) t3 t4 at_X at_Y (0 : Int) (-(256 : Int)) FU [] (0 : Int)) fun t5 =>
    bif t5.1 then
      some []
    else
    some t5.2.1
  else
  Option.bind (F_vec_Len2 t t1) fun t6 =>
  Option.bind (F_formation_ceil t6) fun t7 =>
  Option.bind (F_num_Clamp spacing (0 : Int) (1024 : Int)) fun t8 =>
  Option.bind (G_formation_Slots_0 kind (minI n (64 : Int)) t7 t8 at_X at_Y t t1 FU [] (0 : Int)) fun t9 =>
  bif t9.1 then
    some []
  else
  some t9.2.1
noncomputable def enc10 (t : List (List AVal)) : CR := ⟨true, (.slc 0 (t).length), [], [⟨.arr, 23, 2, t⟩]⟩
noncomputable def ks10 : List SK := [.f (.int .i64), .f (.int .i64), .f (.int .i64), .agg [.int .i64, .int .i64], .agg [.int .i64, .int .i64]]
noncomputable def S10 (us : List AVal) : Call := bif chkA ks10 us then Call.of (F_formation_Slots (toI (cIa us 0)) (toI (cIa us 1)) (toI (cIa us 2)) (toI (cIa (aggL (cIa us 3)) 0)) (toI (cIa (aggL (cIa us 3)) 1)) (toI (cIa (aggL (cIa us 4)) 0)) (toI (cIa (aggL (cIa us 4)) 1))) enc10 else Call.none
noncomputable def C10 := AI.ext 10 S10 C28

@[reducible] noncomputable def B10_1 := bodyOf TT TU noG C28 ownF L10 (lp Try.f10 1)
@[reducible] noncomputable def K10_1 (k : Ex → St → Option CR) : Ex → St → Option CR := fun e s => k e (maskS (W10_1 e) s)
theorem spec10_1 (k : Ex → St → Option CR) : ∀ (m : Nat) (R2 : List (List AVal)) (R4 : List (List AVal)) (kind : Int) (n : Int) (size : Int) (s1 : Int) (i : Int) (c : Int) (x55 : Int) (x56 : Int) (b0_0 : Int) (b0_1 : Int) (b1_0 : Int) (b1_1 : Int) (b3_0 : Int) (b3_1 : Int), loopN B10_1 m (E10_1 R2 R4 kind n size s1 i c x55 x56 b0_0 b0_1 b1_0 b1_1 b3_0 b3_1) (K10_1 k) = (G_formation_Slots_1 size s1 i c x55 b0_0 b0_1 b3_0 b3_1 m R4 x56).bind (X10_1 R2 kind n size s1 i b0_0 b0_1 b1_0 b1_1 b3_0 b3_1 k)
  | 0, _, _, _, _, _, _, _, _, _, _, _, _, _, _, _, _ => rfl
  | m + 1, R2, R4, kind, n, size, s1, i, c, x55, x56, b0_0, b0_1, b1_0, b1_1, b3_0, b3_1 =>
    Eq.trans (b := (bif (decide (x56 < x55)) then (Option.bind (F_vec_Side b3_0 b3_1) fun t => (Option.bind (F_vec_Part t.1 t.2 (wr ((wr ((wr ((2 : Int) * x56)) - (wr (c - (1 : Int))))) * s1)) (wr ((2 : Int) * size))) fun t1 => (Option.bind (F_vec_Part b3_0 b3_1 (wr ((wr ((0 : Int) - i)) * s1)) size) fun t2 => (Option.bind (F_vec_Add b0_0 b0_1 t1.1 t1.2) fun t3 => (Option.bind (F_vec_Add t3.1 t3.2 t2.1 t2.2) fun t4 => (bif (((verEq R4.length R4.length) && true) && (roomOk (R4.length + 1) 16)) then (loopN B10_1 m ⟨[(i64 kind), (i64 n), .dead, .dead, .dead, .dead, .dead, .dead, (AVal.ref 8000 1 0 0), .dead, .dead, (AVal.ref 11256 1 0 0), (i64 size), (i64 s1), (AVal.slc 19200 (R4 ++ [[(i64 t4.1), (i64 t4.2)]]).length), (i64 i), (i64 c), .dead, .dead, .dead, .dead, .dead, .dead, .dead, .dead, .dead, .dead, .dead, .dead, .dead, .dead, .dead, .dead, .dead, .dead, .dead, .dead, .dead, .dead, .dead, .dead, .dead, .dead, .dead, .dead, .dead, .dead, .dead, .dead, .dead, .dead, .dead, .dead, .dead, .dead, (i64 x55), (i64 (wr (x56 + (1 : Int)))), .dead, .dead, .dead, .dead, .dead, .dead, .dead, .dead, .dead, .dead, .dead, .dead, .dead, .dead, .dead, .dead, .dead, .dead, .dead, .dead, .dead, .dead, .dead, .dead, .dead, .dead, .dead, .dead, .dead, .dead, .dead], [(Prod.mk 8000 (Blk.mk BKind.box 23 2 [[(i64 b0_0), (i64 b0_1)]])), (Prod.mk 8008 (Blk.mk BKind.box 23 2 [[(i64 b1_0), (i64 b1_1)]])), (Prod.mk 8016 (Blk.mk BKind.arr 23 2 R2)), (Prod.mk 11256 (Blk.mk BKind.box 23 2 [[(i64 b3_0), (i64 b3_1)]])), (Prod.mk 19200 (Blk.mk BKind.arr 23 2 (R4 ++ [[(i64 t4.1), (i64 t4.2)]])))]⟩ (K10_1 k)) else none)))))) else (k (.exit 2) ⟨[(i64 kind), (i64 n), .dead, .dead, .dead, .dead, .dead, .dead, (AVal.ref 8000 1 0 0), .dead, .dead, (AVal.ref 11256 1 0 0), (i64 size), (i64 s1), (AVal.slc 19200 R4.length), (i64 i), .dead, .dead, .dead, .dead, .dead, .dead, .dead, .dead, .dead, .dead, .dead, .dead, .dead, .dead, .dead, .dead, .dead, .dead, .dead, .dead, .dead, .dead, .dead, .dead, .dead, .dead, .dead, .dead, .dead, .dead, .dead, .dead, .dead, .dead, .dead, .dead, .dead, .dead, .dead, .dead, .dead, .dead, .dead, .dead, .dead, .dead, .dead, .dead, .dead, .dead, .dead, .dead, .dead, .dead, .dead, .dead, .dead, .dead, .dead, .dead, .dead, .dead, .dead, .dead, .dead, .dead, .dead, .dead, .dead, .dead, .dead, .dead], [(Prod.mk 8000 (Blk.mk BKind.box 23 2 [[(i64 b0_0), (i64 b0_1)]])), (Prod.mk 8008 (Blk.mk BKind.box 23 2 [[(i64 b1_0), (i64 b1_1)]])), (Prod.mk 8016 (Blk.mk BKind.arr 23 2 R2)), (Prod.mk 11256 (Blk.mk BKind.box 23 2 [[(i64 b3_0), (i64 b3_1)]])), (Prod.mk 19200 (Blk.mk BKind.arr 23 2 R4))]⟩))) (by kernel_rfl)
      (n_condH rfl (fun h0 => (n_bind fun t => (n_bind fun t1 => (n_bind fun t2 => (n_bind fun t3 => (n_bind fun t4 => (n_condH (n_andL (n_andL (verEq_rfl _) rfl) rfl) (fun h1 => (spec10_1 k m R2 (R4 ++ [[(i64 t4.1), (i64 t4.2)]]) kind n size s1 i c x55 (wr (x56 + (1 : Int))) b0_0 b0_1 b1_0 b1_1 b3_0 b3_1)) fun h1 => n_none))))))) fun h0 => rfl)
theorem okL10_1 : LoopOk TT TU noG C28 ownF L10 (lp Try.f10 1) :=
  loopOk_of ks10_1 hs10_1 W10_1 FU (fun s k => (G_formation_Slots_1 (toI (cIa s.tmps 12)) (toI (cIa s.tmps 13)) (toI (cIa s.tmps 15)) (toI (cIa s.tmps 16)) (toI (cIa s.tmps 55)) (toI (cIa (rows0 (blkAt s.heap 0).2) 0)) (toI (cIa (rows0 (blkAt s.heap 0).2) 1)) (toI (cIa (rows0 (blkAt s.heap 3).2) 0)) (toI (cIa (rows0 (blkAt s.heap 3).2) 1)) FU (blkAt s.heap 4).2.rows (toI (cIa s.tmps 56))).bind (X10_1 (blkAt s.heap 2).2.rows (toI (cIa s.tmps 0)) (toI (cIa s.tmps 1)) (toI (cIa s.tmps 12)) (toI (cIa s.tmps 13)) (toI (cIa s.tmps 15)) (toI (cIa (rows0 (blkAt s.heap 0).2) 0)) (toI (cIa (rows0 (blkAt s.heap 0).2) 1)) (toI (cIa (rows0 (blkAt s.heap 1).2) 0)) (toI (cIa (rows0 (blkAt s.heap 1).2) 1)) (toI (cIa (rows0 (blkAt s.heap 3).2) 0)) (toI (cIa (rows0 (blkAt s.heap 3).2) 1)) k)) (fun s k => by kernel_rfl) (fun s k => spec10_1 k FU (blkAt s.heap 2).2.rows (blkAt s.heap 4).2.rows (toI (cIa s.tmps 0)) (toI (cIa s.tmps 1)) (toI (cIa s.tmps 12)) (toI (cIa s.tmps 13)) (toI (cIa s.tmps 15)) (toI (cIa s.tmps 16)) (toI (cIa s.tmps 55)) (toI (cIa s.tmps 56)) (toI (cIa (rows0 (blkAt s.heap 0).2) 0)) (toI (cIa (rows0 (blkAt s.heap 0).2) 1)) (toI (cIa (rows0 (blkAt s.heap 1).2) 0)) (toI (cIa (rows0 (blkAt s.heap 1).2) 1)) (toI (cIa (rows0 (blkAt s.heap 3).2) 0)) (toI (cIa (rows0 (blkAt s.heap 3).2) 1)))
@[reducible] noncomputable def B10_0 := bodyOf TT TU noG C28 ownF L10 (lp Try.f10 0)
@[reducible] noncomputable def K10_0 (k : Ex → St → Option CR) : Ex → St → Option CR := fun e s => k e (maskS (W10_0 e) s)
theorem spec10_0 (k : Ex → St → Option CR) : ∀ (m : Nat) (R2 : List (List AVal)) (R4 : List (List AVal)) (kind : Int) (n : Int) (size : Int) (s1 : Int) (i : Int) (b0_0 : Int) (b0_1 : Int) (b1_0 : Int) (b1_1 : Int) (b3_0 : Int) (b3_1 : Int), loopN B10_0 m (E10_0 R2 R4 kind n size s1 i b0_0 b0_1 b1_0 b1_1 b3_0 b3_1) (K10_0 k) = (G_formation_Slots_0 kind n size s1 b0_0 b0_1 b3_0 b3_1 m R4 i).bind (X10_0 R2 b0_0 b0_1 b1_0 b1_1 b3_0 b3_1 k)
  | 0, _, _, _, _, _, _, _, _, _, _, _, _, _ => rfl
  | m + 1, R2, R4, kind, n, size, s1, i, b0_0, b0_1, b1_0, b1_1, b3_0, b3_1 =>
    Eq.trans (b := (bif (verEq R4.length R4.length) then (bif (decide ((Int.ofNat R4.length) < n)) then (Option.bind (F_formation_row kind n i) fun t => (bif (verEq R4.length R4.length) then (bif (decide ((minI t (wr (n - (Int.ofNat R4.length)))) < (1 : Int))) then (k .ret ⟨[.dead, .dead, .dead, .dead, .dead, .dead, .dead, .dead, .dead, .dead, (AVal.slc 28800 0), .dead, .dead, .dead, .dead, .dead, .dead, .dead, .dead, .dead, .dead, .dead, .dead, .dead, .dead, .dead, .dead, .dead, .dead, .dead, .dead, .dead, .dead, .dead, .dead, .dead, .dead, .dead, .dead, .dead, .dead, .dead, .dead, .dead, .dead, .dead, .dead, .dead, .dead, .dead, .dead, .dead, .dead, .dead, .dead, .dead, .dead, .dead, .dead, .dead, .dead, .dead, .dead, .dead, .dead, .dead, .dead, .dead, .dead, .dead, .dead, .dead, .dead, .dead, .dead, .dead, .dead, .dead, .dead, .dead, .dead, .dead, .dead, .dead, .dead, .dead, .dead, .dead], [(Prod.mk 8000 (Blk.mk BKind.box 23 2 [[(i64 b0_0), (i64 b0_1)]])), (Prod.mk 8008 (Blk.mk BKind.box 23 2 [[(i64 b1_0), (i64 b1_1)]])), (Prod.mk 8016 (Blk.mk BKind.arr 23 2 R2)), (Prod.mk 11256 (Blk.mk BKind.box 23 2 [[(i64 b3_0), (i64 b3_1)]])), (Prod.mk 19200 (Blk.mk BKind.arr 23 2 R4)), (Prod.mk 28800 (Blk.mk BKind.arr 23 2 []))]⟩) else (bif (((true && (verEq R4.length (blkLen [(Prod.mk 8000 (Blk.mk BKind.box 23 2 [[(i64 b0_0), (i64 b0_1)]])), (Prod.mk 8008 (Blk.mk BKind.box 23 2 [[(i64 b1_0), (i64 b1_1)]])), (Prod.mk 8016 (Blk.mk BKind.arr 23 2 R2)), (Prod.mk 11256 (Blk.mk BKind.box 23 2 [[(i64 b3_0), (i64 b3_1)]])), (Prod.mk 19200 (Blk.mk BKind.arr 23 2 R4))] 4))) && true) && true) then (Option.bind (G_formation_Slots_1 size s1 i (minI t (wr (n - (Int.ofNat R4.length)))) (minI t (wr (n - (Int.ofNat R4.length)))) b0_0 b0_1 b3_0 b3_1 FU R4 (0 : Int)) fun t1 => (loopN B10_0 m ⟨[(i64 kind), (i64 n), .dead, .dead, .dead, .dead, .dead, .dead, (AVal.ref 8000 1 0 0), .dead, .dead, (AVal.ref 11256 1 0 0), (i64 size), (i64 s1), (AVal.slc 19200 t1.length), (i64 (wr (i + (1 : Int)))), .dead, .dead, .dead, .dead, .dead, .dead, .dead, .dead, .dead, .dead, .dead, .dead, .dead, .dead, .dead, .dead, .dead, .dead, .dead, .dead, .dead, .dead, .dead, .dead, .dead, .dead, .dead, .dead, .dead, .dead, .dead, .dead, .dead, .dead, .dead, .dead, .dead, .dead, .dead, .dead, .dead, .dead, .dead, .dead, .dead, .dead, .dead, .dead, .dead, .dead, .dead, .dead, .dead, .dead, .dead, .dead, .dead, .dead, .dead, .dead, .dead, .dead, .dead, .dead, .dead, .dead, .dead, .dead, .dead, .dead, .dead, .dead], [(Prod.mk 8000 (Blk.mk BKind.box 23 2 [[(i64 b0_0), (i64 b0_1)]])), (Prod.mk 8008 (Blk.mk BKind.box 23 2 [[(i64 b1_0), (i64 b1_1)]])), (Prod.mk 8016 (Blk.mk BKind.arr 23 2 R2)), (Prod.mk 11256 (Blk.mk BKind.box 23 2 [[(i64 b3_0), (i64 b3_1)]])), (Prod.mk 19200 (Blk.mk BKind.arr 23 2 t1))]⟩ (K10_0 k))) else none)) else none)) else (k (.exit 0) ⟨[.dead, .dead, .dead, .dead, .dead, .dead, .dead, .dead, .dead, .dead, .dead, .dead, .dead, .dead, (AVal.slc 19200 R4.length), .dead, .dead, .dead, .dead, .dead, .dead, .dead, .dead, .dead, .dead, .dead, .dead, .dead, .dead, .dead, .dead, .dead, .dead, .dead, .dead, .dead, .dead, .dead, .dead, .dead, .dead, .dead, .dead, .dead, .dead, .dead, .dead, .dead, .dead, .dead, .dead, .dead, .dead, .dead, .dead, .dead, .dead, .dead, .dead, .dead, .dead, .dead, .dead, .dead, .dead, .dead, .dead, .dead, .dead, .dead, .dead, .dead, .dead, .dead, .dead, .dead, .dead, .dead, .dead, .dead, .dead, .dead, .dead, .dead, .dead, .dead, .dead, .dead], [(Prod.mk 8000 (Blk.mk BKind.box 23 2 [[(i64 b0_0), (i64 b0_1)]])), (Prod.mk 8008 (Blk.mk BKind.box 23 2 [[(i64 b1_0), (i64 b1_1)]])), (Prod.mk 8016 (Blk.mk BKind.arr 23 2 R2)), (Prod.mk 11256 (Blk.mk BKind.box 23 2 [[(i64 b3_0), (i64 b3_1)]])), (Prod.mk 19200 (Blk.mk BKind.arr 23 2 R4))]⟩)) else none)) (by kernel_rfl)
      (n_true (verEq_rfl _) (n_condH rfl (fun h0 => (n_bind fun t => (n_true (verEq_rfl _) (n_condH rfl (fun h1 => rfl) fun h1 => (n_true (n_andL (n_andL (n_andL rfl (by first | exact verEq_of rfl | simp [verEq])) rfl) rfl) (n_bind fun t1 => (spec10_0 k m R2 t1 kind n size s1 (wr (i + (1 : Int))) b0_0 b0_1 b1_0 b1_1 b3_0 b3_1))))))) fun h0 => rfl))
theorem okL10_0 : LoopOk TT TU noG C28 ownF L10 (lp Try.f10 0) :=
  loopOk_of ks10_0 hs10_0 W10_0 FU (fun s k => (G_formation_Slots_0 (toI (cIa s.tmps 0)) (toI (cIa s.tmps 1)) (toI (cIa s.tmps 12)) (toI (cIa s.tmps 13)) (toI (cIa (rows0 (blkAt s.heap 0).2) 0)) (toI (cIa (rows0 (blkAt s.heap 0).2) 1)) (toI (cIa (rows0 (blkAt s.heap 3).2) 0)) (toI (cIa (rows0 (blkAt s.heap 3).2) 1)) FU (blkAt s.heap 4).2.rows (toI (cIa s.tmps 15))).bind (X10_0 (blkAt s.heap 2).2.rows (toI (cIa (rows0 (blkAt s.heap 0).2) 0)) (toI (cIa (rows0 (blkAt s.heap 0).2) 1)) (toI (cIa (rows0 (blkAt s.heap 1).2) 0)) (toI (cIa (rows0 (blkAt s.heap 1).2) 1)) (toI (cIa (rows0 (blkAt s.heap 3).2) 0)) (toI (cIa (rows0 (blkAt s.heap 3).2) 1)) k)) (fun s k => by kernel_rfl) (fun s k => spec10_0 k FU (blkAt s.heap 2).2.rows (blkAt s.heap 4).2.rows (toI (cIa s.tmps 0)) (toI (cIa s.tmps 1)) (toI (cIa s.tmps 12)) (toI (cIa s.tmps 13)) (toI (cIa s.tmps 15)) (toI (cIa (rows0 (blkAt s.heap 0).2) 0)) (toI (cIa (rows0 (blkAt s.heap 0).2) 1)) (toI (cIa (rows0 (blkAt s.heap 1).2) 0)) (toI (cIa (rows0 (blkAt s.heap 1).2) 1)) (toI (cIa (rows0 (blkAt s.heap 3).2) 0)) (toI (cIa (rows0 (blkAt s.heap 3).2) 1)))
theorem run10 (kind : Int) (n : Int) (spacing : Int) (at_X : Int) (at_Y : Int) (facing_X : Int) (facing_Y : Int) : fcall TT TU noG C28 ownF true L10 Try.f10 [(.sc (.int .i64 kind)), (.sc (.int .i64 n)), (.sc (.int .i64 spacing)), (.agg [(.sc (.int .i64 at_X)), (.sc (.int .i64 at_Y))]), (.agg [(.sc (.int .i64 facing_X)), (.sc (.int .i64 facing_Y))])] = (F_formation_Slots kind n spacing at_X at_Y facing_X facing_Y).bind fun t => some (enc10 t) :=
  Eq.trans (b := (Option.bind (F_num_Clamp facing_X (-(65536 : Int)) (65536 : Int)) fun t => (Option.bind (F_num_Clamp facing_Y (-(65536 : Int)) (65536 : Int)) fun t1 => (bif ((t == (0 : Int)) && (t1 == (0 : Int))) then (Option.bind (F_vec_Len2 (0 : Int) (-(256 : Int))) fun t2 => (Option.bind (F_formation_ceil t2) fun t3 => (Option.bind (F_num_Clamp spacing (0 : Int) (1024 : Int)) fun t4 => (Option.bind (G_formation_Slots_0 kind (minI n (64 : Int)) t3 t4 at_X at_Y (0 : Int) (-(256 : Int)) FU [] (0 : Int)) fun t5 => (bif t5.1 then (some (CR.mk true (AVal.slc 0 0) [] [(Blk.mk BKind.arr 23 2 [])])) else (bif (verEq t5.2.1.length t5.2.1.length) then (some (CR.mk true (AVal.slc 0 t5.2.1.length) [] [(Blk.mk BKind.arr 23 2 t5.2.1)])) else none)))))) else (Option.bind (F_vec_Len2 t t1) fun t6 => (Option.bind (F_formation_ceil t6) fun t7 => (Option.bind (F_num_Clamp spacing (0 : Int) (1024 : Int)) fun t8 => (Option.bind (G_formation_Slots_0 kind (minI n (64 : Int)) t7 t8 at_X at_Y t t1 FU [] (0 : Int)) fun t9 => (bif t9.1 then (some (CR.mk true (AVal.slc 0 0) [] [(Blk.mk BKind.arr 23 2 [])])) else (bif (verEq t9.2.1.length t9.2.1.length) then (some (CR.mk true (AVal.slc 0 t9.2.1.length) [] [(Blk.mk BKind.arr 23 2 t9.2.1)])) else none)))))))))) (by kernel_rfl)
    (n_bind fun t => (n_bind fun t1 => (n_condH rfl (fun h0 => (n_bind fun t2 => (n_bind fun t3 => (n_bind fun t4 => (n_bind fun t5 => (n_condH rfl (fun h1 => rfl) fun h1 => (n_true (verEq_rfl _) rfl))))))) fun h0 => (n_bind fun t6 => (n_bind fun t7 => (n_bind fun t8 => (n_bind fun t9 => (n_condH rfl (fun h1 => rfl) fun h1 => (n_true (verEq_rfl _) rfl)))))))))
theorem lib10 : Lib Try.prog noG C10 :=
  Lib.fn lib28 mixed TT_ok Try.func10 (by decide +kernel) (by kernel_rfl) true L10 (loops_of 2 (by kernel_rfl) (belowS (belowS below0 okL10_0) okL10_1)) ks10 (F := fun us => F_formation_Slots (toI (cIa us 0)) (toI (cIa us 1)) (toI (cIa us 2)) (toI (cIa (aggL (cIa us 3)) 0)) (toI (cIa (aggL (cIa us 3)) 1)) (toI (cIa (aggL (cIa us 4)) 0)) (toI (cIa (aggL (cIa us 4)) 1))) (fun us => rfl) (fun us => run10 (toI (cIa us 0)) (toI (cIa us 1)) (toI (cIa us 2)) (toI (cIa (aggL (cIa us 3)) 0)) (toI (cIa (aggL (cIa us 3)) 1)) (toI (cIa (aggL (cIa us 4)) 0)) (toI (cIa (aggL (cIa us 4)) 1))) (fun t => rfl)

/-! ### 29: skirmish/skirmishref18.near -/



/-- 'skirmish/skirmishref18.near' -/
noncomputable def F_skirmishref18_near (n : Int) (lo : Int) (hi : Int) : Option (Int) :=
  some (maxI lo (minI n hi))
noncomputable def enc29 (t : Int) : CR := ⟨true, (.sc (.int .i64 t)), [], []⟩
noncomputable def ks29 : List SK := [.f (.int .i64), .f (.int .i64), .f (.int .i64)]
noncomputable def S29 (us : List AVal) : Call := bif chkA ks29 us then Call.of (F_skirmishref18_near (toI (cIa us 0)) (toI (cIa us 1)) (toI (cIa us 2))) enc29 else Call.none
noncomputable def C29 := AI.ext 29 S29 C10

theorem run29 (n : Int) (lo : Int) (hi : Int) : fcall TT TU noG C10 ownF true noL Try.f29 [(.sc (.int .i64 n)), (.sc (.int .i64 lo)), (.sc (.int .i64 hi))] = (F_skirmishref18_near n lo hi).bind fun t => some (enc29 t) :=
  Eq.trans (b := (some (CR.mk true (i64 (maxI lo (minI n hi))) [] []))) (by kernel_rfl)
    rfl
theorem lib29 : Lib Try.prog noG C29 :=
  Lib.fn lib10 mixed TT_ok Try.func29 (by decide +kernel) (by kernel_rfl) true noL (loops_of 0 (by kernel_rfl) below0) ks29 (F := fun us => F_skirmishref18_near (toI (cIa us 0)) (toI (cIa us 1)) (toI (cIa us 2))) (fun us => rfl) (fun us => run29 (toI (cIa us 0)) (toI (cIa us 1)) (toI (cIa us 2))) (fun t => rfl)

/-! ### 30: skirmish/skirmishref18.ahead -/



/-- 'skirmish/skirmishref18.ahead' -/
noncomputable def F_skirmishref18_ahead (facing_X : Int) (facing_Y : Int) : Option (Int × Int) :=
  Option.bind (F_skirmishref18_near facing_X (-(65536 : Int)) (65536 : Int)) fun t =>
  Option.bind (F_skirmishref18_near facing_Y (-(65536 : Int)) (65536 : Int)) fun t1 =>
  bif (t == (0 : Int)) then
    bif (t1 == (0 : Int)) then
      some ((0 : Int), (-(256 : Int)))
    else
    some (t, t1)
  else
  some (t, t1)
noncomputable def enc30 (t : Int × Int) : CR := ⟨true, (.agg [(.sc (.int .i64 t.1)), (.sc (.int .i64 t.2))]), [], []⟩
noncomputable def ks30 : List SK := [.agg [.int .i64, .int .i64]]
noncomputable def S30 (us : List AVal) : Call := bif chkA ks30 us then Call.of (F_skirmishref18_ahead (toI (cIa (aggL (cIa us 0)) 0)) (toI (cIa (aggL (cIa us 0)) 1))) enc30 else Call.none
noncomputable def C30 := AI.ext 30 S30 C29

theorem run30 (facing_X : Int) (facing_Y : Int) : fcall TT TU noG C29 ownF true noL Try.f30 [(.agg [(.sc (.int .i64 facing_X)), (.sc (.int .i64 facing_Y))])] = (F_skirmishref18_ahead facing_X facing_Y).bind fun t => some (enc30 t) :=
  Eq.trans (b := (Option.bind (F_skirmishref18_near facing_X (-(65536 : Int)) (65536 : Int)) fun t => (Option.bind (F_skirmishref18_near facing_Y (-(65536 : Int)) (65536 : Int)) fun t1 => (bif (t == (0 : Int)) then (bif (t1 == (0 : Int)) then (some (CR.mk true (AVal.agg [(i64 (0 : Int)), (i64 (-(256 : Int)))]) [] [])) else (some (CR.mk true (AVal.agg [(i64 t), (i64 t1)]) [] []))) else (some (CR.mk true (AVal.agg [(i64 t), (i64 t1)]) [] [])))))) (by kernel_rfl)
    (n_bind fun t => (n_bind fun t1 => (n_condH rfl (fun h0 => (n_condH rfl (fun h1 => rfl) fun h1 => rfl)) fun h0 => rfl)))
theorem lib30 : Lib Try.prog noG C30 :=
  Lib.fn lib29 mixed TT_ok Try.func30 (by decide +kernel) (by kernel_rfl) true noL (loops_of 0 (by kernel_rfl) below0) ks30 (F := fun us => F_skirmishref18_ahead (toI (cIa (aggL (cIa us 0)) 0)) (toI (cIa (aggL (cIa us 0)) 1))) (fun us => rfl) (fun us => run30 (toI (cIa (aggL (cIa us 0)) 0)) (toI (cIa (aggL (cIa us 0)) 1))) (fun t => rfl)

/-! ### 47: skirmish/skirmishref02.Near -/



/-- 'skirmish/skirmishref02.Near' -/
noncomputable def F_skirmishref02_Near (n : Int) : Option (Int) :=
  some (minI (maxI n (-(1048576 : Int))) (1048576 : Int))
noncomputable def enc47 (t : Int) : CR := ⟨true, (.sc (.int .i64 t)), [], []⟩
noncomputable def ks47 : List SK := [.f (.int .i64)]
noncomputable def S47 (us : List AVal) : Call := bif chkA ks47 us then Call.of (F_skirmishref02_Near (toI (cIa us 0))) enc47 else Call.none
noncomputable def C47 := AI.ext 47 S47 C30

theorem run47 (n : Int) : fcall TT TU noG C30 ownF true noL Try.f47 [(.sc (.int .i64 n))] = (F_skirmishref02_Near n).bind fun t => some (enc47 t) :=
  Eq.trans (b := (some (CR.mk true (i64 (minI (maxI n (-(1048576 : Int))) (1048576 : Int))) [] []))) (by kernel_rfl)
    rfl
theorem lib47 : Lib Try.prog noG C47 :=
  Lib.fn lib30 mixed TT_ok Try.func47 (by decide +kernel) (by kernel_rfl) true noL (loops_of 0 (by kernel_rfl) below0) ks47 (F := fun us => F_skirmishref02_Near (toI (cIa us 0))) (fun us => rfl) (fun us => run47 (toI (cIa us 0))) (fun t => rfl)

/-! ### 46: skirmish/skirmishref02.NearVec -/



/-- 'skirmish/skirmishref02.NearVec' -/
noncomputable def F_skirmishref02_NearVec (a_X : Int) (a_Y : Int) : Option (Int × Int) :=
  Option.bind (F_skirmishref02_Near a_X) fun t =>
  Option.bind (F_skirmishref02_Near a_Y) fun t1 =>
  some (t, t1)
noncomputable def enc46 (t : Int × Int) : CR := ⟨true, (.agg [(.sc (.int .i64 t.1)), (.sc (.int .i64 t.2))]), [], []⟩
noncomputable def ks46 : List SK := [.agg [.int .i64, .int .i64]]
noncomputable def S46 (us : List AVal) : Call := bif chkA ks46 us then Call.of (F_skirmishref02_NearVec (toI (cIa (aggL (cIa us 0)) 0)) (toI (cIa (aggL (cIa us 0)) 1))) enc46 else Call.none
noncomputable def C46 := AI.ext 46 S46 C47

theorem run46 (a_X : Int) (a_Y : Int) : fcall TT TU noG C47 ownF true noL Try.f46 [(.agg [(.sc (.int .i64 a_X)), (.sc (.int .i64 a_Y))])] = (F_skirmishref02_NearVec a_X a_Y).bind fun t => some (enc46 t) :=
  Eq.trans (b := (Option.bind (F_skirmishref02_Near a_X) fun t => (Option.bind (F_skirmishref02_Near a_Y) fun t1 => (some (CR.mk true (AVal.agg [(i64 t), (i64 t1)]) [] []))))) (by kernel_rfl)
    (n_bind fun t => (n_bind fun t1 => rfl))
theorem lib46 : Lib Try.prog noG C46 :=
  Lib.fn lib47 mixed TT_ok Try.func46 (by decide +kernel) (by kernel_rfl) true noL (loops_of 0 (by kernel_rfl) below0) ks46 (F := fun us => F_skirmishref02_NearVec (toI (cIa (aggL (cIa us 0)) 0)) (toI (cIa (aggL (cIa us 0)) 1))) (fun us => rfl) (fun us => run46 (toI (cIa (aggL (cIa us 0)) 0)) (toI (cIa (aggL (cIa us 0)) 1))) (fun t => rfl)

/-! ### 45: skirmish/skirmishref02.Dot -/



/-- 'skirmish/skirmishref02.Dot' -/
noncomputable def F_skirmishref02_Dot (a_X : Int) (a_Y : Int) (b_X : Int) (b_Y : Int) : Option (Int) :=
  Option.bind (F_skirmishref02_NearVec a_X a_Y) fun t =>
  Option.bind (F_skirmishref02_NearVec b_X b_Y) fun t1 =>
  some (wr ((wr (t.1 * t1.1)) + (wr (t.2 * t1.2))))
noncomputable def enc45 (t : Int) : CR := ⟨true, (.sc (.int .i64 t)), [], []⟩
noncomputable def ks45 : List SK := [.agg [.int .i64, .int .i64], .agg [.int .i64, .int .i64]]
noncomputable def S45 (us : List AVal) : Call := bif chkA ks45 us then Call.of (F_skirmishref02_Dot (toI (cIa (aggL (cIa us 0)) 0)) (toI (cIa (aggL (cIa us 0)) 1)) (toI (cIa (aggL (cIa us 1)) 0)) (toI (cIa (aggL (cIa us 1)) 1))) enc45 else Call.none
noncomputable def C45 := AI.ext 45 S45 C46

theorem run45 (a_X : Int) (a_Y : Int) (b_X : Int) (b_Y : Int) : fcall TT TU noG C46 ownF true noL Try.f45 [(.agg [(.sc (.int .i64 a_X)), (.sc (.int .i64 a_Y))]), (.agg [(.sc (.int .i64 b_X)), (.sc (.int .i64 b_Y))])] = (F_skirmishref02_Dot a_X a_Y b_X b_Y).bind fun t => some (enc45 t) :=
  Eq.trans (b := (Option.bind (F_skirmishref02_NearVec a_X a_Y) fun t => (Option.bind (F_skirmishref02_NearVec b_X b_Y) fun t1 => (some (CR.mk true (i64 (wr ((wr (t.1 * t1.1)) + (wr (t.2 * t1.2))))) [] []))))) (by kernel_rfl)
    (n_bind fun t => (n_bind fun t1 => rfl))
theorem lib45 : Lib Try.prog noG C45 :=
  Lib.fn lib46 mixed TT_ok Try.func45 (by decide +kernel) (by kernel_rfl) true noL (loops_of 0 (by kernel_rfl) below0) ks45 (F := fun us => F_skirmishref02_Dot (toI (cIa (aggL (cIa us 0)) 0)) (toI (cIa (aggL (cIa us 0)) 1)) (toI (cIa (aggL (cIa us 1)) 0)) (toI (cIa (aggL (cIa us 1)) 1))) (fun us => rfl) (fun us => run45 (toI (cIa (aggL (cIa us 0)) 0)) (toI (cIa (aggL (cIa us 0)) 1)) (toI (cIa (aggL (cIa us 1)) 0)) (toI (cIa (aggL (cIa us 1)) 1))) (fun t => rfl)

/-! ### 32: skirmish/skirmishref02.Len2 -/



/-- 'skirmish/skirmishref02.Len2' -/
noncomputable def F_skirmishref02_Len2 (a_X : Int) (a_Y : Int) : Option (Int) :=
  Option.bind (F_skirmishref02_Dot a_X a_Y a_X a_Y) fun t =>
  some t
noncomputable def enc32 (t : Int) : CR := ⟨true, (.sc (.int .i64 t)), [], []⟩
noncomputable def ks32 : List SK := [.agg [.int .i64, .int .i64]]
noncomputable def S32 (us : List AVal) : Call := bif chkA ks32 us then Call.of (F_skirmishref02_Len2 (toI (cIa (aggL (cIa us 0)) 0)) (toI (cIa (aggL (cIa us 0)) 1))) enc32 else Call.none
noncomputable def C32 := AI.ext 32 S32 C45

theorem run32 (a_X : Int) (a_Y : Int) : fcall TT TU noG C45 ownF true noL Try.f32 [(.agg [(.sc (.int .i64 a_X)), (.sc (.int .i64 a_Y))])] = (F_skirmishref02_Len2 a_X a_Y).bind fun t => some (enc32 t) :=
  Eq.trans (b := (Option.bind (F_skirmishref02_Dot a_X a_Y a_X a_Y) fun t => (some (CR.mk true (i64 t) [] [])))) (by kernel_rfl)
    (n_bind fun t => rfl)
theorem lib32 : Lib Try.prog noG C32 :=
  Lib.fn lib45 mixed TT_ok Try.func32 (by decide +kernel) (by kernel_rfl) true noL (loops_of 0 (by kernel_rfl) below0) ks32 (F := fun us => F_skirmishref02_Len2 (toI (cIa (aggL (cIa us 0)) 0)) (toI (cIa (aggL (cIa us 0)) 1))) (fun us => rfl) (fun us => run32 (toI (cIa (aggL (cIa us 0)) 0)) (toI (cIa (aggL (cIa us 0)) 1))) (fun t => rfl)

/-! ### 31: skirmish/skirmishref18.length -/

noncomputable def W31_0 : Ex → List Bool
  | .ret => [false, false, true, false, false, false, false, false, false, false, false, false]
  | .exit n => bif Nat.beq n 0 then [false, false, false, true, false, false, false, false, false, false, false, false] else []
  | .normal => []
noncomputable def G_skirmishref18_length_0 (n : Int) : Nat → Int → Option (Int)
  | 0, _ => none
  | m + 1, l =>
    bif (decide ((wr (l * l)) < n)) then
      G_skirmishref18_length_0 n m (wr (l + (1 : Int)))
    else
    some l
noncomputable def E31_0 (n : Int) (l : Int) : St := ⟨[(.sc (.int .i64 n)), .dead, .dead, (.sc (.int .i64 l)), .dead, .dead, .dead, .dead, .dead, .dead, .dead, .dead], []⟩
noncomputable def X31_0 (k : Ex → St → Option CR) (t : Int) : Option CR := k (.exit 0) ⟨[.dead, .dead, .dead, (.sc (.int .i64 t)), .dead, .dead, .dead, .dead, .dead, .dead, .dead, .dead], []⟩
noncomputable def ks31_0 : List SK := [.f (.int .i64), .f .dead, .f .dead, .f (.int .i64), .f .dead, .f .dead, .f .dead, .f .dead, .f .dead, .f .dead, .f .dead, .f .dead]
noncomputable def hs31_0 : List HK := []
noncomputable def L31_0 (s : St) (k : Ex → St → Option CR) : Option CR := bif chkS ks31_0 hs31_0 s then (G_skirmishref18_length_0 (toI (cIa s.tmps 0)) FU (toI (cIa s.tmps 3))).bind (X31_0 k) else none

noncomputable def L31 : LT' := fun i s k => bif Nat.beq i 0 then L31_0 s k else none

/-- 'skirmish/skirmishref18.length' -/
noncomputable def F_skirmishref18_length (n : Int) : Option (Int) :=
  Option.bind (G_skirmishref18_length_0 n FU (0 : Int)) fun t =>
  some t
noncomputable def enc31 (t : Int) : CR := ⟨true, (.sc (.int .i64 t)), [], []⟩
noncomputable def ks31 : List SK := [.f (.int .i64)]
noncomputable def S31 (us : List AVal) : Call := bif chkA ks31 us then Call.of (F_skirmishref18_length (toI (cIa us 0))) enc31 else Call.none
noncomputable def C31 := AI.ext 31 S31 C32

@[reducible] noncomputable def B31_0 := bodyOf TT TU noG C32 ownF L31 (lp Try.f31 0)
@[reducible] noncomputable def K31_0 (k : Ex → St → Option CR) : Ex → St → Option CR := fun e s => k e (maskS (W31_0 e) s)
theorem spec31_0 (k : Ex → St → Option CR) : ∀ (m : Nat) (n : Int) (l : Int), loopN B31_0 m (E31_0 n l) (K31_0 k) = (G_skirmishref18_length_0 n m l).bind (X31_0 k)
  | 0, _, _ => rfl
  | m + 1, n, l =>
    Eq.trans (b := (bif (decide ((wr (l * l)) < n)) then (loopN B31_0 m ⟨[(i64 n), .dead, .dead, (i64 (wr (l + (1 : Int)))), .dead, .dead, .dead, .dead, .dead, .dead, .dead, .dead], []⟩ (K31_0 k)) else (k (.exit 0) ⟨[.dead, .dead, .dead, (i64 l), .dead, .dead, .dead, .dead, .dead, .dead, .dead, .dead], []⟩))) (by kernel_rfl)
      (n_condH rfl (fun h0 => (spec31_0 k m n (wr (l + (1 : Int))))) fun h0 => rfl)
theorem okL31_0 : LoopOk TT TU noG C32 ownF L31 (lp Try.f31 0) :=
  loopOk_of ks31_0 hs31_0 W31_0 FU (fun s k => (G_skirmishref18_length_0 (toI (cIa s.tmps 0)) FU (toI (cIa s.tmps 3))).bind (X31_0 k)) (fun s k => by kernel_rfl) (fun s k => spec31_0 k FU (toI (cIa s.tmps 0)) (toI (cIa s.tmps 3)))
theorem run31 (n : Int) : fcall TT TU noG C32 ownF true L31 Try.f31 [(.sc (.int .i64 n))] = (F_skirmishref18_length n).bind fun t => some (enc31 t) :=
  Eq.trans (b := (Option.bind (G_skirmishref18_length_0 n FU (0 : Int)) fun t => (some (CR.mk true (i64 t) [] [])))) (by kernel_rfl)
    (n_bind fun t => rfl)
theorem lib31 : Lib Try.prog noG C31 :=
  Lib.fn lib32 mixed TT_ok Try.func31 (by decide +kernel) (by kernel_rfl) true L31 (loops_of 1 (by kernel_rfl) (belowS below0 okL31_0)) ks31 (F := fun us => F_skirmishref18_length (toI (cIa us 0))) (fun us => rfl) (fun us => run31 (toI (cIa us 0))) (fun t => rfl)

/-! ### 33: skirmish/skirmishref18.width -/

noncomputable def W33_0 : Ex → List Bool
  | .ret => [false, false, false, false, false, false, true, false, false, false, false, false, false, false, false, false, false, false, false, false, false, false, false, false, false, false]
  | .exit n => bif Nat.beq n 1 then [false, false, false, false, false, false, false, true, false, false, false, false, false, false, false, false, false, false, false, false, false, false, false, false, false, false] else []
  | .normal => []
noncomputable def G_skirmishref18_width_0 (n : Int) : Nat → Int → Option (Int)
  | 0, _ => none
  | m + 1, k1 =>
    bif (decide ((wr (k1 * k1)) < n)) then
      G_skirmishref18_width_0 n m (wr (k1 + (1 : Int)))
    else
    some k1
noncomputable def E33_0 (n : Int) (k1 : Int) : St := ⟨[.dead, (.sc (.int .i64 n)), .dead, .dead, .dead, .dead, .dead, (.sc (.int .i64 k1)), .dead, .dead, .dead, .dead, .dead, .dead, .dead, .dead, .dead, .dead, .dead, .dead, .dead, .dead, .dead, .dead, .dead, .dead], []⟩
noncomputable def X33_0 (k : Ex → St → Option CR) (t : Int) : Option CR := k (.exit 1) ⟨[.dead, .dead, .dead, .dead, .dead, .dead, .dead, (.sc (.int .i64 t)), .dead, .dead, .dead, .dead, .dead, .dead, .dead, .dead, .dead, .dead, .dead, .dead, .dead, .dead, .dead, .dead, .dead, .dead], []⟩
noncomputable def ks33_0 : List SK := [.f .dead, .f (.int .i64), .f .dead, .f .dead, .f .dead, .f .dead, .f .dead, .f (.int .i64), .f .dead, .f .dead, .f .dead, .f .dead, .f .dead, .f .dead, .f .dead, .f .dead, .f .dead, .f .dead, .f .dead, .f .dead, .f .dead, .f .dead, .f .dead, .f .dead, .f .dead, .f .dead]
noncomputable def hs33_0 : List HK := []
noncomputable def L33_0 (s : St) (k : Ex → St → Option CR) : Option CR := bif chkS ks33_0 hs33_0 s then (G_skirmishref18_width_0 (toI (cIa s.tmps 1)) FU (toI (cIa s.tmps 7))).bind (X33_0 k) else none

noncomputable def L33 : LT' := fun i s k => bif Nat.beq i 1 then L33_0 s k else none

/-- 'skirmish/skirmishref18.width' -/
noncomputable def F_skirmishref18_width (kind : Int) (n : Int) (row : Int) : Option (Int) :=
  bif (kind == (1 : Int)) then
    some (8 : Int)
  else
  bif (kind == (2 : Int)) then
    some (2 : Int)
  else
  bif (kind == (4 : Int)) then
    some (wr ((wr ((2 : Int) * row)) + (1 : Int)))
  else
  Option.bind (G_skirmishref18_width_0 n FU (1 : Int)) fun t =>
  some t
noncomputable def enc33 (t : Int) : CR := ⟨true, (.sc (.int .i64 t)), [], []⟩
noncomputable def ks33 : List SK := [.f (.int .i64), .f (.int .i64), .f (.int .i64)]
noncomputable def S33 (us : List AVal) : Call := bif chkA ks33 us then Call.of (F_skirmishref18_width (toI (cIa us 0)) (toI (cIa us 1)) (toI (cIa us 2))) enc33 else Call.none
noncomputable def C33 := AI.ext 33 S33 C31

@[reducible] noncomputable def B33_0 := bodyOf TT TU noG C31 ownF L33 (lp Try.f33 0)
@[reducible] noncomputable def K33_0 (k : Ex → St → Option CR) : Ex → St → Option CR := fun e s => k e (maskS (W33_0 e) s)
theorem spec33_0 (k : Ex → St → Option CR) : ∀ (m : Nat) (n : Int) (k1 : Int), loopN B33_0 m (E33_0 n k1) (K33_0 k) = (G_skirmishref18_width_0 n m k1).bind (X33_0 k)
  | 0, _, _ => rfl
  | m + 1, n, k1 =>
    Eq.trans (b := (bif (decide ((wr (k1 * k1)) < n)) then (loopN B33_0 m ⟨[.dead, (i64 n), .dead, .dead, .dead, .dead, .dead, (i64 (wr (k1 + (1 : Int)))), .dead, .dead, .dead, .dead, .dead, .dead, .dead, .dead, .dead, .dead, .dead, .dead, .dead, .dead, .dead, .dead, .dead, .dead], []⟩ (K33_0 k)) else (k (.exit 1) ⟨[.dead, .dead, .dead, .dead, .dead, .dead, .dead, (i64 k1), .dead, .dead, .dead, .dead, .dead, .dead, .dead, .dead, .dead, .dead, .dead, .dead, .dead, .dead, .dead, .dead, .dead, .dead], []⟩))) (by kernel_rfl)
      (n_condH rfl (fun h0 => (spec33_0 k m n (wr (k1 + (1 : Int))))) fun h0 => rfl)
theorem okL33_0 : LoopOk TT TU noG C31 ownF L33 (lp Try.f33 0) :=
  loopOk_of ks33_0 hs33_0 W33_0 FU (fun s k => (G_skirmishref18_width_0 (toI (cIa s.tmps 1)) FU (toI (cIa s.tmps 7))).bind (X33_0 k)) (fun s k => by kernel_rfl) (fun s k => spec33_0 k FU (toI (cIa s.tmps 1)) (toI (cIa s.tmps 7)))
theorem run33 (kind : Int) (n : Int) (row : Int) : fcall TT TU noG C31 ownF true L33 Try.f33 [(.sc (.int .i64 kind)), (.sc (.int .i64 n)), (.sc (.int .i64 row))] = (F_skirmishref18_width kind n row).bind fun t => some (enc33 t) :=
  Eq.trans (b := (bif (kind == (1 : Int)) then (some (CR.mk true (i64 (8 : Int)) [] [])) else (bif (kind == (2 : Int)) then (some (CR.mk true (i64 (2 : Int)) [] [])) else (bif (kind == (4 : Int)) then (some (CR.mk true (i64 (wr ((wr ((2 : Int) * row)) + (1 : Int)))) [] [])) else (Option.bind (G_skirmishref18_width_0 n FU (1 : Int)) fun t => (some (CR.mk true (i64 t) [] []))))))) (by kernel_rfl)
    (n_condH rfl (fun h0 => rfl) fun h0 => (n_condH rfl (fun h1 => rfl) fun h1 => (n_condH rfl (fun h2 => rfl) fun h2 => (n_bind fun t => rfl))))
theorem lib33 : Lib Try.prog noG C33 :=
  Lib.fn lib31 mixed TT_ok Try.func33 (by decide +kernel) (by kernel_rfl) true L33 (loops_of 1 (by kernel_rfl) (belowS below0 okL33_0)) ks33 (F := fun us => F_skirmishref18_width (toI (cIa us 0)) (toI (cIa us 1)) (toI (cIa us 2))) (fun us => rfl) (fun us => run33 (toI (cIa us 0)) (toI (cIa us 1)) (toI (cIa us 2))) (fun t => rfl)

/-! ### 36: skirmish/skirmishref02.Side -/



/-- 'skirmish/skirmishref02.Side' -/
noncomputable def F_skirmishref02_Side (a_X : Int) (a_Y : Int) : Option (Int × Int) :=
  Option.bind (F_skirmishref02_NearVec a_X a_Y) fun t =>
  some ((wr ((0 : Int) - t.2)), t.1)
noncomputable def enc36 (t : Int × Int) : CR := ⟨true, (.agg [(.sc (.int .i64 t.1)), (.sc (.int .i64 t.2))]), [], []⟩
noncomputable def ks36 : List SK := [.agg [.int .i64, .int .i64]]
noncomputable def S36 (us : List AVal) : Call := bif chkA ks36 us then Call.of (F_skirmishref02_Side (toI (cIa (aggL (cIa us 0)) 0)) (toI (cIa (aggL (cIa us 0)) 1))) enc36 else Call.none
noncomputable def C36 := AI.ext 36 S36 C33

theorem run36 (a_X : Int) (a_Y : Int) : fcall TT TU noG C33 ownF true noL Try.f36 [(.agg [(.sc (.int .i64 a_X)), (.sc (.int .i64 a_Y))])] = (F_skirmishref02_Side a_X a_Y).bind fun t => some (enc36 t) :=
  Eq.trans (b := (Option.bind (F_skirmishref02_NearVec a_X a_Y) fun t => (some (CR.mk true (AVal.agg [(i64 (wr ((0 : Int) - t.2))), (i64 t.1)]) [] [])))) (by kernel_rfl)
    (n_bind fun t => rfl)
theorem lib36 : Lib Try.prog noG C36 :=
  Lib.fn lib33 mixed TT_ok Try.func36 (by decide +kernel) (by kernel_rfl) true noL (loops_of 0 (by kernel_rfl) below0) ks36 (F := fun us => F_skirmishref02_Side (toI (cIa (aggL (cIa us 0)) 0)) (toI (cIa (aggL (cIa us 0)) 1))) (fun us => rfl) (fun us => run36 (toI (cIa (aggL (cIa us 0)) 0)) (toI (cIa (aggL (cIa us 0)) 1))) (fun t => rfl)

/-! ### 35: skirmish/skirmishref02.Part -/



/-- 'skirmish/skirmishref02.Part' -/
noncomputable def F_skirmishref02_Part (a_X : Int) (a_Y : Int) (num : Int) (den : Int) : Option (Int × Int) :=
  Option.bind (F_skirmishref02_NearVec a_X a_Y) fun t =>
  Option.bind (F_skirmishref02_Near num) fun t1 =>
  Option.bind (F_skirmishref02_Near den) fun t2 =>
  bif (t2 == (0 : Int)) then
    some ((0 : Int), (0 : Int))
  else
  Option.bind (F_skirmishref02_NearVec (wr (Int.tdiv (wr (t.1 * t1)) t2)) (wr (Int.tdiv (wr (t.2 * t1)) t2))) fun t3 =>
  some (t3.1, t3.2)
noncomputable def enc35 (t : Int × Int) : CR := ⟨true, (.agg [(.sc (.int .i64 t.1)), (.sc (.int .i64 t.2))]), [], []⟩
noncomputable def ks35 : List SK := [.agg [.int .i64, .int .i64], .f (.int .i64), .f (.int .i64)]
noncomputable def S35 (us : List AVal) : Call := bif chkA ks35 us then Call.of (F_skirmishref02_Part (toI (cIa (aggL (cIa us 0)) 0)) (toI (cIa (aggL (cIa us 0)) 1)) (toI (cIa us 1)) (toI (cIa us 2))) enc35 else Call.none
noncomputable def C35 := AI.ext 35 S35 C36

theorem run35 (a_X : Int) (a_Y : Int) (num : Int) (den : Int) : fcall TT TU noG C36 ownF true noL Try.f35 [(.agg [(.sc (.int .i64 a_X)), (.sc (.int .i64 a_Y))]), (.sc (.int .i64 num)), (.sc (.int .i64 den))] = (F_skirmishref02_Part a_X a_Y num den).bind fun t => some (enc35 t) :=
  Eq.trans (b := (Option.bind (F_skirmishref02_NearVec a_X a_Y) fun t => (Option.bind (F_skirmishref02_Near num) fun t1 => (Option.bind (F_skirmishref02_Near den) fun t2 => (bif (t2 == (0 : Int)) then (some (CR.mk true (AVal.agg [(i64 (0 : Int)), (i64 (0 : Int))]) [] [])) else (bif (t2 == (0 : Int)) then none else (bif (t2 == (0 : Int)) then none else (Option.bind (F_skirmishref02_NearVec (wr (Int.tdiv (wr (t.1 * t1)) t2)) (wr (Int.tdiv (wr (t.2 * t1)) t2))) fun t3 => (some (CR.mk true (AVal.agg [(i64 t3.1), (i64 t3.2)]) [] [])))))))))) (by kernel_rfl)
    (n_bind fun t => (n_bind fun t1 => (n_bind fun t2 => (n_condH rfl (fun h0 => rfl) fun h0 => (n_false h0 (n_false h0 (n_bind fun t3 => rfl)))))))
theorem lib35 : Lib Try.prog noG C35 :=
  Lib.fn lib36 mixed TT_ok Try.func35 (by decide +kernel) (by kernel_rfl) true noL (loops_of 0 (by kernel_rfl) below0) ks35 (F := fun us => F_skirmishref02_Part (toI (cIa (aggL (cIa us 0)) 0)) (toI (cIa (aggL (cIa us 0)) 1)) (toI (cIa us 1)) (toI (cIa us 2))) (fun us => rfl) (fun us => run35 (toI (cIa (aggL (cIa us 0)) 0)) (toI (cIa (aggL (cIa us 0)) 1)) (toI (cIa us 1)) (toI (cIa us 2))) (fun t => rfl)

/-! ### 34: skirmish/skirmishref02.Add -/



/-- 'skirmish/skirmishref02.Add' -/
noncomputable def F_skirmishref02_Add (a_X : Int) (a_Y : Int) (b_X : Int) (b_Y : Int) : Option (Int × Int) :=
  Option.bind (F_skirmishref02_NearVec a_X a_Y) fun t =>
  Option.bind (F_skirmishref02_NearVec b_X b_Y) fun t1 =>
  Option.bind (F_skirmishref02_NearVec (wr (t.1 + t1.1)) (wr (t.2 + t1.2))) fun t2 =>
  some (t2.1, t2.2)
noncomputable def enc34 (t : Int × Int) : CR := ⟨true, (.agg [(.sc (.int .i64 t.1)), (.sc (.int .i64 t.2))]), [], []⟩
noncomputable def ks34 : List SK := [.agg [.int .i64, .int .i64], .agg [.int .i64, .int .i64]]
noncomputable def S34 (us : List AVal) : Call := bif chkA ks34 us then Call.of (F_skirmishref02_Add (toI (cIa (aggL (cIa us 0)) 0)) (toI (cIa (aggL (cIa us 0)) 1)) (toI (cIa (aggL (cIa us 1)) 0)) (toI (cIa (aggL (cIa us 1)) 1))) enc34 else Call.none
noncomputable def C34 := AI.ext 34 S34 C35

theorem run34 (a_X : Int) (a_Y : Int) (b_X : Int) (b_Y : Int) : fcall TT TU noG C35 ownF true noL Try.f34 [(.agg [(.sc (.int .i64 a_X)), (.sc (.int .i64 a_Y))]), (.agg [(.sc (.int .i64 b_X)), (.sc (.int .i64 b_Y))])] = (F_skirmishref02_Add a_X a_Y b_X b_Y).bind fun t => some (enc34 t) :=
  Eq.trans (b := (Option.bind (F_skirmishref02_NearVec a_X a_Y) fun t => (Option.bind (F_skirmishref02_NearVec b_X b_Y) fun t1 => (Option.bind (F_skirmishref02_NearVec (wr (t.1 + t1.1)) (wr (t.2 + t1.2))) fun t2 => (some (CR.mk true (AVal.agg [(i64 t2.1), (i64 t2.2)]) [] [])))))) (by kernel_rfl)
    (n_bind fun t => (n_bind fun t1 => (n_bind fun t2 => rfl)))
theorem lib34 : Lib Try.prog noG C34 :=
  Lib.fn lib35 mixed TT_ok Try.func34 (by decide +kernel) (by kernel_rfl) true noL (loops_of 0 (by kernel_rfl) below0) ks34 (F := fun us => F_skirmishref02_Add (toI (cIa (aggL (cIa us 0)) 0)) (toI (cIa (aggL (cIa us 0)) 1)) (toI (cIa (aggL (cIa us 1)) 0)) (toI (cIa (aggL (cIa us 1)) 1))) (fun us => rfl) (fun us => run34 (toI (cIa (aggL (cIa us 0)) 0)) (toI (cIa (aggL (cIa us 0)) 1)) (toI (cIa (aggL (cIa us 1)) 0)) (toI (cIa (aggL (cIa us 1)) 1))) (fun t => rfl)

/-! ### 11: skirmish/skirmishref18.Slots -/

noncomputable def W11_0 : Ex → List Bool
  | .ret => [false, false, false, false, false, false, false, false, false, false, true, false, false, false, false, false, false, false, false, false, false, false, false, false, false, false, false, false, false, false, false, false, false, false, false, false, false, false, false, false, false, false, false, false, false, false, false, false, false, false, false, false, false, false, false, false, false, false, false, false, false, false, false, false, false, false, false, false, false, false, false, false, false, false, false, false, false, false, false, false, false, false, false, false, false, false]
  | .exit n => bif Nat.beq n 0 then [false, false, false, false, false, false, false, false, false, false, false, false, false, false, false, true, false, false, false, false, false, false, false, false, false, false, false, false, false, false, false, false, false, false, false, false, false, false, false, false, false, false, false, false, false, false, false, false, false, false, false, false, false, false, false, false, false, false, false, false, false, false, false, false, false, false, false, false, false, false, false, false, false, false, false, false, false, false, false, false, false, false, false, false, false, false] else []
  | .normal => []
noncomputable def W11_1 : Ex → List Bool
  | .ret => [false, false, false, false, false, false, false, false, false, false, true, false, false, false, false, false, false, false, false, false, false, false, false, false, false, false, false, false, false, false, false, false, false, false, false, false, false, false, false, false, false, false, false, false, false, false, false, false, false, false, false, false, false, false, false, false, false, false, false, false, false, false, false, false, false, false, false, false, false, false, false, false, false, false, false, false, false, false, false, false, false, false, false, false, false, false]
  | .exit n => bif Nat.beq n 2 then [true, false, false, false, false, false, false, false, true, false, false, true, true, true, true, true, true, false, false, false, false, false, false, false, false, false, false, false, false, false, false, false, false, false, false, false, false, false, false, false, false, false, false, false, false, false, false, false, false, false, false, false, false, false, false, false, false, false, false, false, false, false, false, false, false, false, false, false, false, false, false, false, false, false, false, false, false, false, false, false, false, false, false, false, false, false] else bif Nat.beq n 1 then [true, false, false, false, false, false, false, false, true, false, false, true, true, true, true, true, true, false, false, false, false, false, false, false, false, false, false, false, false, false, false, false, false, false, false, false, false, false, false, false, false, false, false, false, false, false, false, false, false, false, false, false, false, false, false, false, false, false, false, false, false, false, false, false, false, false, false, false, false, false, false, false, false, false, false, false, false, false, false, false, false, false, false, false, false, false] else bif Nat.beq n 0 then [false, false, false, false, false, false, false, false, false, false, false, false, false, false, false, true, false, false, false, false, false, false, false, false, false, false, false, false, false, false, false, false, false, false, false, false, false, false, false, false, false, false, false, false, false, false, false, false, false, false, false, false, false, false, false, false, false, false, false, false, false, false, false, false, false, false, false, false, false, false, false, false, false, false, false, false, false, false, false, false, false, false, false, false, false, false] else []
  | .normal => []
noncomputable def G_skirmishref18_Slots_1 (s1 : Int) (l : Int) (row : Int) (c : Int) (b0_0 : Int) (b0_1 : Int) (b3_0 : Int) (b3_1 : Int) : Nat → List (List AVal) → Int → Option (List (List AVal))
  | 0, _, _ => none
  | m + 1, R4, j =>
    bif (decide (j < c)) then
      Option.bind (F_skirmishref02_Side b3_0 b3_1) fun t =>
      Option.bind (F_skirmishref02_Part t.1 t.2 (wr ((wr ((wr ((2 : Int) * j)) - (wr (c - (1 : Int))))) * s1)) (wr ((2 : Int) * l))) fun t1 =>
      Option.bind (F_skirmishref02_Add b0_0 b0_1 t1.1 t1.2) fun t2 =>
      Option.bind (F_skirmishref02_Part b3_0 b3_1 (wr ((wr ((0 : Int) - row)) * s1)) l) fun t3 =>
      Option.bind (F_skirmishref02_Add t2.1 t2.2 t3.1 t3.2) fun t4 =>
      bif (roomOk (R4.length + 1) 16) then
        G_skirmishref18_Slots_1 s1 l row c b0_0 b0_1 b3_0 b3_1 m (R4 ++ [[(i64 t4.1), (i64 t4.2)]]) (wr (j + (1 : Int)))
      else
      none
    else
    some R4
noncomputable def E11_1 (R2 : List (List AVal)) (R4 : List (List AVal)) (kind : Int) (count : Int) (s1 : Int) (l : Int) (row : Int) (c : Int) (j : Int) (b0_0 : Int) (b0_1 : Int) (b1_0 : Int) (b1_1 : Int) (b3_0 : Int) (b3_1 : Int) : St := ⟨[(.sc (.int .i64 kind)), .dead, .dead, .dead, .dead, .dead, .dead, .dead, (.ref 8000 1 0 0), .dead, .dead, (.sc (.int .i64 count)), (.sc (.int .i64 s1)), (.ref 12848 1 0 0), (.sc (.int .i64 l)), (.slc 16000 (R4).length), (.sc (.int .i64 row)), (.sc (.int .i64 c)), (.sc (.int .i64 j)), .dead, .dead, .dead, .dead, .dead, .dead, .dead, .dead, .dead, .dead, .dead, .dead, .dead, .dead, .dead, .dead, .dead, .dead, .dead, .dead, .dead, .dead, .dead, .dead, .dead, .dead, .dead, .dead, .dead, .dead, .dead, .dead, .dead, .dead, .dead, .dead, .dead, .dead, .dead, .dead, .dead, .dead, .dead, .dead, .dead, .dead, .dead, .dead, .dead, .dead, .dead, .dead, .dead, .dead, .dead, .dead, .dead, .dead, .dead, .dead, .dead, .dead, .dead, .dead, .dead, .dead, .dead], [(8000, ⟨.box, 23, 2, [[(.sc (.int .i64 b0_0)), (.sc (.int .i64 b0_1))]]⟩), (8008, ⟨.box, 23, 2, [[(.sc (.int .i64 b1_0)), (.sc (.int .i64 b1_1))]]⟩), (8016, ⟨.arr, 23, 2, R2⟩), (12848, ⟨.box, 23, 2, [[(.sc (.int .i64 b3_0)), (.sc (.int .i64 b3_1))]]⟩), (16000, ⟨.arr, 23, 2, R4⟩)]⟩
noncomputable def X11_1 (R2 : List (List AVal)) (kind : Int) (count : Int) (s1 : Int) (l : Int) (row : Int) (b0_0 : Int) (b0_1 : Int) (b1_0 : Int) (b1_1 : Int) (b3_0 : Int) (b3_1 : Int) (k : Ex → St → Option CR) (t : List (List AVal)) : Option CR := k (.exit 2) ⟨[(.sc (.int .i64 kind)), .dead, .dead, .dead, .dead, .dead, .dead, .dead, (.ref 8000 1 0 0), .dead, .dead, (.sc (.int .i64 count)), (.sc (.int .i64 s1)), (.ref 12848 1 0 0), (.sc (.int .i64 l)), (.slc 16000 (t).length), (.sc (.int .i64 row)), .dead, .dead, .dead, .dead, .dead, .dead, .dead, .dead, .dead, .dead, .dead, .dead, .dead, .dead, .dead, .dead, .dead, .dead, .dead, .dead, .dead, .dead, .dead, .dead, .dead, .dead, .dead, .dead, .dead, .dead, .dead, .dead, .dead, .dead, .dead, .dead, .dead, .dead, .dead, .dead, .dead, .dead, .dead, .dead, .dead, .dead, .dead, .dead, .dead, .dead, .dead, .dead, .dead, .dead, .dead, .dead, .dead, .dead, .dead, .dead, .dead, .dead, .dead, .dead, .dead, .dead, .dead, .dead, .dead], [(8000, ⟨.box, 23, 2, [[(.sc (.int .i64 b0_0)), (.sc (.int .i64 b0_1))]]⟩), (8008, ⟨.box, 23, 2, [[(.sc (.int .i64 b1_0)), (.sc (.int .i64 b1_1))]]⟩), (8016, ⟨.arr, 23, 2, R2⟩), (12848, ⟨.box, 23, 2, [[(.sc (.int .i64 b3_0)), (.sc (.int .i64 b3_1))]]⟩), (16000, ⟨.arr, 23, 2, t⟩)]⟩
noncomputable def ks11_1 : List SK := [.f (.int .i64), .f .dead, .f .dead, .f .dead, .f .dead, .f .dead, .f .dead, .f .dead, .f (.ref 8000 1 0 0), .f .dead, .f .dead, .f (.int .i64), .f (.int .i64), .f (.ref 12848 1 0 0), .f (.int .i64), .f (.slc 16000 4), .f (.int .i64), .f (.int .i64), .f (.int .i64), .f .dead, .f .dead, .f .dead, .f .dead, .f .dead, .f .dead, .f .dead, .f .dead, .f .dead, .f .dead, .f .dead, .f .dead, .f .dead, .f .dead, .f .dead, .f .dead, .f .dead, .f .dead, .f .dead, .f .dead, .f .dead, .f .dead, .f .dead, .f .dead, .f .dead, .f .dead, .f .dead, .f .dead, .f .dead, .f .dead, .f .dead, .f .dead, .f .dead, .f .dead, .f .dead, .f .dead, .f .dead, .f .dead, .f .dead, .f .dead, .f .dead, .f .dead, .f .dead, .f .dead, .f .dead, .f .dead, .f .dead, .f .dead, .f .dead, .f .dead, .f .dead, .f .dead, .f .dead, .f .dead, .f .dead, .f .dead, .f .dead, .f .dead, .f .dead, .f .dead, .f .dead, .f .dead, .f .dead, .f .dead, .f .dead, .f .dead, .f .dead]
noncomputable def hs11_1 : List HK := [⟨8000, .box, 23, 2, some [.int .i64, .int .i64]⟩, ⟨8008, .box, 23, 2, some [.int .i64, .int .i64]⟩, ⟨8016, .arr, 23, 2, none⟩, ⟨12848, .box, 23, 2, some [.int .i64, .int .i64]⟩, ⟨16000, .arr, 23, 2, none⟩]
noncomputable def L11_1 (s : St) (k : Ex → St → Option CR) : Option CR := bif chkS ks11_1 hs11_1 s then (G_skirmishref18_Slots_1 (toI (cIa s.tmps 12)) (toI (cIa s.tmps 14)) (toI (cIa s.tmps 16)) (toI (cIa s.tmps 17)) (toI (cIa (rows0 (blkAt s.heap 0).2) 0)) (toI (cIa (rows0 (blkAt s.heap 0).2) 1)) (toI (cIa (rows0 (blkAt s.heap 3).2) 0)) (toI (cIa (rows0 (blkAt s.heap 3).2) 1)) FU (blkAt s.heap 4).2.rows (toI (cIa s.tmps 18))).bind (X11_1 (blkAt s.heap 2).2.rows (toI (cIa s.tmps 0)) (toI (cIa s.tmps 11)) (toI (cIa s.tmps 12)) (toI (cIa s.tmps 14)) (toI (cIa s.tmps 16)) (toI (cIa (rows0 (blkAt s.heap 0).2) 0)) (toI (cIa (rows0 (blkAt s.heap 0).2) 1)) (toI (cIa (rows0 (blkAt s.heap 1).2) 0)) (toI (cIa (rows0 (blkAt s.heap 1).2) 1)) (toI (cIa (rows0 (blkAt s.heap 3).2) 0)) (toI (cIa (rows0 (blkAt s.heap 3).2) 1)) k) else none
noncomputable def G_skirmishref18_Slots_0 (kind : Int) (count : Int) (s1 : Int) (l : Int) (b0_0 : Int) (b0_1 : Int) (b3_0 : Int) (b3_1 : Int) : Nat → List (List AVal) → Int → Option (List (List AVal))
  | 0, _, _ => none
  | m + 1, R4, row =>
    bif (decide ((Int.ofNat R4.length) < count)) then
      Option.bind (F_skirmishref18_width kind count row) fun t =>
      Option.bind (G_skirmishref18_Slots_1 s1 l row (minI t (wr (count - (Int.ofNat R4.length)))) b0_0 b0_1 b3_0 b3_1 FU R4 (0 : Int)) fun t1 =>
      G_skirmishref18_Slots_0 kind count s1 l b0_0 b0_1 b3_0 b3_1 m t1 (wr (row + (1 : Int)))
    else
    some R4
noncomputable def E11_0 (R2 : List (List AVal)) (R4 : List (List AVal)) (kind : Int) (count : Int) (s1 : Int) (l : Int) (row : Int) (b0_0 : Int) (b0_1 : Int) (b1_0 : Int) (b1_1 : Int) (b3_0 : Int) (b3_1 : Int) : St := ⟨[(.sc (.int .i64 kind)), .dead, .dead, .dead, .dead, .dead, .dead, .dead, (.ref 8000 1 0 0), .dead, .dead, (.sc (.int .i64 count)), (.sc (.int .i64 s1)), (.ref 12848 1 0 0), (.sc (.int .i64 l)), (.slc 16000 (R4).length), (.sc (.int .i64 row)), .dead, .dead, .dead, .dead, .dead, .dead, .dead, .dead, .dead, .dead, .dead, .dead, .dead, .dead, .dead, .dead, .dead, .dead, .dead, .dead, .dead, .dead, .dead, .dead, .dead, .dead, .dead, .dead, .dead, .dead, .dead, .dead, .dead, .dead, .dead, .dead, .dead, .dead, .dead, .dead, .dead, .dead, .dead, .dead, .dead, .dead, .dead, .dead, .dead, .dead, .dead, .dead, .dead, .dead, .dead, .dead, .dead, .dead, .dead, .dead, .dead, .dead, .dead, .dead, .dead, .dead, .dead, .dead, .dead], [(8000, ⟨.box, 23, 2, [[(.sc (.int .i64 b0_0)), (.sc (.int .i64 b0_1))]]⟩), (8008, ⟨.box, 23, 2, [[(.sc (.int .i64 b1_0)), (.sc (.int .i64 b1_1))]]⟩), (8016, ⟨.arr, 23, 2, R2⟩), (12848, ⟨.box, 23, 2, [[(.sc (.int .i64 b3_0)), (.sc (.int .i64 b3_1))]]⟩), (16000, ⟨.arr, 23, 2, R4⟩)]⟩
noncomputable def X11_0 (R2 : List (List AVal)) (b0_0 : Int) (b0_1 : Int) (b1_0 : Int) (b1_1 : Int) (b3_0 : Int) (b3_1 : Int) (k : Ex → St → Option CR) (t : List (List AVal)) : Option CR := k (.exit 0) ⟨[.dead, .dead, .dead, .dead, .dead, .dead, .dead, .dead, .dead, .dead, .dead, .dead, .dead, .dead, .dead, (.slc 16000 (t).length), .dead, .dead, .dead, .dead, .dead, .dead, .dead, .dead, .dead, .dead, .dead, .dead, .dead, .dead, .dead, .dead, .dead, .dead, .dead, .dead, .dead, .dead, .dead, .dead, .dead, .dead, .dead, .dead, .dead, .dead, .dead, .dead, .dead, .dead, .dead, .dead, .dead, .dead, .dead, .dead, .dead, .dead, .dead, .dead, .dead, .dead, .dead, .dead, .dead, .dead, .dead, .dead, .dead, .dead, .dead, .dead, .dead, .dead, .dead, .dead, .dead, .dead, .dead, .dead, .dead, .dead, .dead, .dead, .dead, .dead], [(8000, ⟨.box, 23, 2, [[(.sc (.int .i64 b0_0)), (.sc (.int .i64 b0_1))]]⟩), (8008, ⟨.box, 23, 2, [[(.sc (.int .i64 b1_0)), (.sc (.int .i64 b1_1))]]⟩), (8016, ⟨.arr, 23, 2, R2⟩), (12848, ⟨.box, 23, 2, [[(.sc (.int .i64 b3_0)), (.sc (.int .i64 b3_1))]]⟩), (16000, ⟨.arr, 23, 2, t⟩)]⟩
noncomputable def ks11_0 : List SK := [.f (.int .i64), .f .dead, .f .dead, .f .dead, .f .dead, .f .dead, .f .dead, .f .dead, .f (.ref 8000 1 0 0), .f .dead, .f .dead, .f (.int .i64), .f (.int .i64), .f (.ref 12848 1 0 0), .f (.int .i64), .f (.slc 16000 4), .f (.int .i64), .f .dead, .f .dead, .f .dead, .f .dead, .f .dead, .f .dead, .f .dead, .f .dead, .f .dead, .f .dead, .f .dead, .f .dead, .f .dead, .f .dead, .f .dead, .f .dead, .f .dead, .f .dead, .f .dead, .f .dead, .f .dead, .f .dead, .f .dead, .f .dead, .f .dead, .f .dead, .f .dead, .f .dead, .f .dead, .f .dead, .f .dead, .f .dead, .f .dead, .f .dead, .f .dead, .f .dead, .f .dead, .f .dead, .f .dead, .f .dead, .f .dead, .f .dead, .f .dead, .f .dead, .f .dead, .f .dead, .f .dead, .f .dead, .f .dead, .f .dead, .f .dead, .f .dead, .f .dead, .f .dead, .f .dead, .f .dead, .f .dead, .f .dead, .f .dead, .f .dead, .f .dead, .f .dead, .f .dead, .f .dead, .f .dead, .f .dead, .f .dead, .f .dead, .f .dead]
noncomputable def hs11_0 : List HK := [⟨8000, .box, 23, 2, some [.int .i64, .int .i64]⟩, ⟨8008, .box, 23, 2, some [.int .i64, .int .i64]⟩, ⟨8016, .arr, 23, 2, none⟩, ⟨12848, .box, 23, 2, some [.int .i64, .int .i64]⟩, ⟨16000, .arr, 23, 2, none⟩]
noncomputable def L11_0 (s : St) (k : Ex → St → Option CR) : Option CR := bif chkS ks11_0 hs11_0 s then (G_skirmishref18_Slots_0 (toI (cIa s.tmps 0)) (toI (cIa s.tmps 11)) (toI (cIa s.tmps 12)) (toI (cIa s.tmps 14)) (toI (cIa (rows0 (blkAt s.heap 0).2) 0)) (toI (cIa (rows0 (blkAt s.heap 0).2) 1)) (toI (cIa (rows0 (blkAt s.heap 3).2) 0)) (toI (cIa (rows0 (blkAt s.heap 3).2) 1)) FU (blkAt s.heap 4).2.rows (toI (cIa s.tmps 16))).bind (X11_0 (blkAt s.heap 2).2.rows (toI (cIa (rows0 (blkAt s.heap 0).2) 0)) (toI (cIa (rows0 (blkAt s.heap 0).2) 1)) (toI (cIa (rows0 (blkAt s.heap 1).2) 0)) (toI (cIa (rows0 (blkAt s.heap 1).2) 1)) (toI (cIa (rows0 (blkAt s.heap 3).2) 0)) (toI (cIa (rows0 (blkAt s.heap 3).2) 1)) k) else none

noncomputable def L11 : LT' := fun i s k => bif Nat.beq i 0 then L11_0 s k else bif Nat.beq i 2 then L11_1 s k else none

/-- 'skirmish/skirmishref18.Slots' -/
noncomputable def F_skirmishref18_Slots (kind : Int) (n : Int) (spacing : Int) (at_X : Int) (at_Y : Int) (facing_X : Int) (facing_Y : Int) : Option (List (List AVal)) :=
  bif (decide (kind < (1 : Int))) then
    some []
  else
  bif (decide (kind > (4 : Int))) then
    some []
  else
  bif (decide (n < (1 : Int))) then
    some []
  else
  Option.bind (F_skirmishref18_near spacing (0 : Int) (1024 : Int)) fun t =>
  Option.bind (F_skirmishref18_ahead facing_X facing_Y) fun t1 =>
  Option.bind (F_skirmishref02_Len2 t1.1 t1.2) fun t2 =>
  Option.bind (F_skirmishref18_length t2) fun t3 =>
  Option.bind (G_skirmishref18_Slots_0 kind (minI n (64 : Int)) t t3 at_X at_Y t1.1 t1.2 FU [] (0 : Int)) fun t4 =>
  some t4
noncomputable def enc11 (t : List (List AVal)) : CR := ⟨true, (.slc 0 (t).length), [], [⟨.arr, 23, 2, t⟩]⟩
noncomputable def ks11 : List SK := [.f (.int .i64), .f (.int .i64), .f (.int .i64), .agg [.int .i64, .int .i64], .agg [.int .i64, .int .i64]]
noncomputable def S11 (us : List AVal) : Call := bif chkA ks11 us then Call.of (F_skirmishref18_Slots (toI (cIa us 0)) (toI (cIa us 1)) (toI (cIa us 2)) (toI (cIa (aggL (cIa us 3)) 0)) (toI (cIa (aggL (cIa us 3)) 1)) (toI (cIa (aggL (cIa us 4)) 0)) (toI (cIa (aggL (cIa us 4)) 1))) enc11 else Call.none
noncomputable def C11 := AI.ext 11 S11 C34

@[reducible] noncomputable def B11_1 := bodyOf TT TU noG C34 ownF L11 (lp Try.f11 1)
@[reducible] noncomputable def K11_1 (k : Ex → St → Option CR) : Ex → St → Option CR := fun e s => k e (maskS (W11_1 e) s)
theorem spec11_1 (k : Ex → St → Option CR) : ∀ (m : Nat) (R2 : List (List AVal)) (R4 : List (List AVal)) (kind : Int) (count : Int) (s1 : Int) (l : Int) (row : Int) (c : Int) (j : Int) (b0_0 : Int) (b0_1 : Int) (b1_0 : Int) (b1_1 : Int) (b3_0 : Int) (b3_1 : Int), loopN B11_1 m (E11_1 R2 R4 kind count s1 l row c j b0_0 b0_1 b1_0 b1_1 b3_0 b3_1) (K11_1 k) = (G_skirmishref18_Slots_1 s1 l row c b0_0 b0_1 b3_0 b3_1 m R4 j).bind (X11_1 R2 kind count s1 l row b0_0 b0_1 b1_0 b1_1 b3_0 b3_1 k)
  | 0, _, _, _, _, _, _, _, _, _, _, _, _, _, _, _ => rfl
  | m + 1, R2, R4, kind, count, s1, l, row, c, j, b0_0, b0_1, b1_0, b1_1, b3_0, b3_1 =>
    Eq.trans (b := (bif (decide (j < c)) then (Option.bind (F_skirmishref02_Side b3_0 b3_1) fun t => (Option.bind (F_skirmishref02_Part t.1 t.2 (wr ((wr ((wr ((2 : Int) * j)) - (wr (c - (1 : Int))))) * s1)) (wr ((2 : Int) * l))) fun t1 => (Option.bind (F_skirmishref02_Add b0_0 b0_1 t1.1 t1.2) fun t2 => (Option.bind (F_skirmishref02_Part b3_0 b3_1 (wr ((wr ((0 : Int) - row)) * s1)) l) fun t3 => (Option.bind (F_skirmishref02_Add t2.1 t2.2 t3.1 t3.2) fun t4 => (bif (((verEq R4.length R4.length) && true) && (roomOk (R4.length + 1) 16)) then (loopN B11_1 m ⟨[(i64 kind), .dead, .dead, .dead, .dead, .dead, .dead, .dead, (AVal.ref 8000 1 0 0), .dead, .dead, (i64 count), (i64 s1), (AVal.ref 12848 1 0 0), (i64 l), (AVal.slc 16000 (R4 ++ [[(i64 t4.1), (i64 t4.2)]]).length), (i64 row), (i64 c), (i64 (wr (j + (1 : Int)))), .dead, .dead, .dead, .dead, .dead, .dead, .dead, .dead, .dead, .dead, .dead, .dead, .dead, .dead, .dead, .dead, .dead, .dead, .dead, .dead, .dead, .dead, .dead, .dead, .dead, .dead, .dead, .dead, .dead, .dead, .dead, .dead, .dead, .dead, .dead, .dead, .dead, .dead, .dead, .dead, .dead, .dead, .dead, .dead, .dead, .dead, .dead, .dead, .dead, .dead, .dead, .dead, .dead, .dead, .dead, .dead, .dead, .dead, .dead, .dead, .dead, .dead, .dead, .dead, .dead, .dead, .dead], [(Prod.mk 8000 (Blk.mk BKind.box 23 2 [[(i64 b0_0), (i64 b0_1)]])), (Prod.mk 8008 (Blk.mk BKind.box 23 2 [[(i64 b1_0), (i64 b1_1)]])), (Prod.mk 8016 (Blk.mk BKind.arr 23 2 R2)), (Prod.mk 12848 (Blk.mk BKind.box 23 2 [[(i64 b3_0), (i64 b3_1)]])), (Prod.mk 16000 (Blk.mk BKind.arr 23 2 (R4 ++ [[(i64 t4.1), (i64 t4.2)]])))]⟩ (K11_1 k)) else none)))))) else (k (.exit 2) ⟨[(i64 kind), .dead, .dead, .dead, .dead, .dead, .dead, .dead, (AVal.ref 8000 1 0 0), .dead, .dead, (i64 count), (i64 s1), (AVal.ref 12848 1 0 0), (i64 l), (AVal.slc 16000 R4.length), (i64 row), .dead, .dead, .dead, .dead, .dead, .dead, .dead, .dead, .dead, .dead, .dead, .dead, .dead, .dead, .dead, .dead, .dead, .dead, .dead, .dead, .dead, .dead, .dead, .dead, .dead, .dead, .dead, .dead, .dead, .dead, .dead, .dead, .dead, .dead, .dead, .dead, .dead, .dead, .dead, .dead, .dead, .dead, .dead, .dead, .dead, .dead, .dead, .dead, .dead, .dead, .dead, .dead, .dead, .dead, .dead, .dead, .dead, .dead, .dead, .dead, .dead, .dead, .dead, .dead, .dead, .dead, .dead, .dead, .dead], [(Prod.mk 8000 (Blk.mk BKind.box 23 2 [[(i64 b0_0), (i64 b0_1)]])), (Prod.mk 8008 (Blk.mk BKind.box 23 2 [[(i64 b1_0), (i64 b1_1)]])), (Prod.mk 8016 (Blk.mk BKind.arr 23 2 R2)), (Prod.mk 12848 (Blk.mk BKind.box 23 2 [[(i64 b3_0), (i64 b3_1)]])), (Prod.mk 16000 (Blk.mk BKind.arr 23 2 R4))]⟩))) (by kernel_rfl)
      (n_condH rfl (fun h0 => (n_bind fun t => (n_bind fun t1 => (n_bind fun t2 => (n_bind fun t3 => (n_bind fun t4 => (n_condH (n_andL (n_andL (verEq_rfl _) rfl) rfl) (fun h1 => (spec11_1 k m R2 (R4 ++ [[(i64 t4.1), (i64 t4.2)]]) kind count s1 l row c (wr (j + (1 : Int))) b0_0 b0_1 b1_0 b1_1 b3_0 b3_1)) fun h1 => n_none))))))) fun h0 => rfl)
theorem okL11_1 : LoopOk TT TU noG C34 ownF L11 (lp Try.f11 1) :=
  loopOk_of ks11_1 hs11_1 W11_1 FU (fun s k => (G_skirmishref18_Slots_1 (toI (cIa s.tmps 12)) (toI (cIa s.tmps 14)) (toI (cIa s.tmps 16)) (toI (cIa s.tmps 17)) (toI (cIa (rows0 (blkAt s.heap 0).2) 0)) (toI (cIa (rows0 (blkAt s.heap 0).2) 1)) (toI (cIa (rows0 (blkAt s.heap 3).2) 0)) (toI (cIa (rows0 (blkAt s.heap 3).2) 1)) FU (blkAt s.heap 4).2.rows (toI (cIa s.tmps 18))).bind (X11_1 (blkAt s.heap 2).2.rows (toI (cIa s.tmps 0)) (toI (cIa s.tmps 11)) (toI (cIa s.tmps 12)) (toI (cIa s.tmps 14)) (toI (cIa s.tmps 16)) (toI (cIa (rows0 (blkAt s.heap 0).2) 0)) (toI (cIa (rows0 (blkAt s.heap 0).2) 1)) (toI (cIa (rows0 (blkAt s.heap 1).2) 0)) (toI (cIa (rows0 (blkAt s.heap 1).2) 1)) (toI (cIa (rows0 (blkAt s.heap 3).2) 0)) (toI (cIa (rows0 (blkAt s.heap 3).2) 1)) k)) (fun s k => by kernel_rfl) (fun s k => spec11_1 k FU (blkAt s.heap 2).2.rows (blkAt s.heap 4).2.rows (toI (cIa s.tmps 0)) (toI (cIa s.tmps 11)) (toI (cIa s.tmps 12)) (toI (cIa s.tmps 14)) (toI (cIa s.tmps 16)) (toI (cIa s.tmps 17)) (toI (cIa s.tmps 18)) (toI (cIa (rows0 (blkAt s.heap 0).2) 0)) (toI (cIa (rows0 (blkAt s.heap 0).2) 1)) (toI (cIa (rows0 (blkAt s.heap 1).2) 0)) (toI (cIa (rows0 (blkAt s.heap 1).2) 1)) (toI (cIa (rows0 (blkAt s.heap 3).2) 0)) (toI (cIa (rows0 (blkAt s.heap 3).2) 1)))
@[reducible] noncomputable def B11_0 := bodyOf TT TU noG C34 ownF L11 (lp Try.f11 0)
@[reducible] noncomputable def K11_0 (k : Ex → St → Option CR) : Ex → St → Option CR := fun e s => k e (maskS (W11_0 e) s)
theorem spec11_0 (k : Ex → St → Option CR) : ∀ (m : Nat) (R2 : List (List AVal)) (R4 : List (List AVal)) (kind : Int) (count : Int) (s1 : Int) (l : Int) (row : Int) (b0_0 : Int) (b0_1 : Int) (b1_0 : Int) (b1_1 : Int) (b3_0 : Int) (b3_1 : Int), loopN B11_0 m (E11_0 R2 R4 kind count s1 l row b0_0 b0_1 b1_0 b1_1 b3_0 b3_1) (K11_0 k) = (G_skirmishref18_Slots_0 kind count s1 l b0_0 b0_1 b3_0 b3_1 m R4 row).bind (X11_0 R2 b0_0 b0_1 b1_0 b1_1 b3_0 b3_1 k)
  | 0, _, _, _, _, _, _, _, _, _, _, _, _, _ => rfl
  | m + 1, R2, R4, kind, count, s1, l, row, b0_0, b0_1, b1_0, b1_1, b3_0, b3_1 =>
    Eq.trans (b := (bif (verEq R4.length R4.length) then (bif (decide ((Int.ofNat R4.length) < count)) then (Option.bind (F_skirmishref18_width kind count row) fun t => (bif (verEq R4.length R4.length) then (bif (((true && (verEq R4.length (blkLen [(Prod.mk 8000 (Blk.mk BKind.box 23 2 [[(i64 b0_0), (i64 b0_1)]])), (Prod.mk 8008 (Blk.mk BKind.box 23 2 [[(i64 b1_0), (i64 b1_1)]])), (Prod.mk 8016 (Blk.mk BKind.arr 23 2 R2)), (Prod.mk 12848 (Blk.mk BKind.box 23 2 [[(i64 b3_0), (i64 b3_1)]])), (Prod.mk 16000 (Blk.mk BKind.arr 23 2 R4))] 4))) && true) && true) then (Option.bind (G_skirmishref18_Slots_1 s1 l row (minI t (wr (count - (Int.ofNat R4.length)))) b0_0 b0_1 b3_0 b3_1 FU R4 (0 : Int)) fun t1 => (loopN B11_0 m ⟨[(i64 kind), .dead, .dead, .dead, .dead, .dead, .dead, .dead, (AVal.ref 8000 1 0 0), .dead, .dead, (i64 count), (i64 s1), (AVal.ref 12848 1 0 0), (i64 l), (AVal.slc 16000 t1.length), (i64 (wr (row + (1 : Int)))), .dead, .dead, .dead, .dead, .dead, .dead, .dead, .dead, .dead, .dead, .dead, .dead, .dead, .dead, .dead, .dead, .dead, .dead, .dead, .dead, .dead, .dead, .dead, .dead, .dead, .dead, .dead, .dead, .dead, .dead, .dead, .dead, .dead, .dead, .dead, .dead, .dead, .dead, .dead, .dead, .dead, .dead, .dead, .dead, .dead, .dead, .dead, .dead, .dead, .dead, .dead, .dead, .dead, .dead, .dead, .dead, .dead, .dead, .dead, .dead, .dead, .dead, .dead, .dead, .dead, .dead, .dead, .dead, .dead], [(Prod.mk 8000 (Blk.mk BKind.box 23 2 [[(i64 b0_0), (i64 b0_1)]])), (Prod.mk 8008 (Blk.mk BKind.box 23 2 [[(i64 b1_0), (i64 b1_1)]])), (Prod.mk 8016 (Blk.mk BKind.arr 23 2 R2)), (Prod.mk 12848 (Blk.mk BKind.box 23 2 [[(i64 b3_0), (i64 b3_1)]])), (Prod.mk 16000 (Blk.mk BKind.arr 23 2 t1))]⟩ (K11_0 k))) else none) else none)) else (k (.exit 0) ⟨[.dead, .dead, .dead, .dead, .dead, .dead, .dead, .dead, .dead, .dead, .dead, .dead, .dead, .dead, .dead, (AVal.slc 16000 R4.length), .dead, .dead, .dead, .dead, .dead, .dead, .dead, .dead, .dead, .dead, .dead, .dead, .dead, .dead, .dead, .dead, .dead, .dead, .dead, .dead, .dead, .dead, .dead, .dead, .dead, .dead, .dead, .dead, .dead, .dead, .dead, .dead, .dead, .dead, .dead, .dead, .dead, .dead, .dead, .dead, .dead, .dead, .dead, .dead, .dead, .dead, .dead, .dead, .dead, .dead, .dead, .dead, .dead, .dead, .dead, .dead, .dead, .dead, .dead, .dead, .dead, .dead, .dead, .dead, .dead, .dead, .dead, .dead, .dead, .dead], [(Prod.mk 8000 (Blk.mk BKind.box 23 2 [[(i64 b0_0), (i64 b0_1)]])), (Prod.mk 8008 (Blk.mk BKind.box 23 2 [[(i64 b1_0), (i64 b1_1)]])), (Prod.mk 8016 (Blk.mk BKind.arr 23 2 R2)), (Prod.mk 12848 (Blk.mk BKind.box 23 2 [[(i64 b3_0), (i64 b3_1)]])), (Prod.mk 16000 (Blk.mk BKind.arr 23 2 R4))]⟩)) else none)) (by kernel_rfl)
      (n_true (verEq_rfl _) (n_condH rfl (fun h0 => (n_bind fun t => (n_true (verEq_rfl _) (n_true (n_andL (n_andL (n_andL rfl (by first | exact verEq_of rfl | simp [verEq])) rfl) rfl) (n_bind fun t1 => (spec11_0 k m R2 t1 kind count s1 l (wr (row + (1 : Int))) b0_0 b0_1 b1_0 b1_1 b3_0 b3_1)))))) fun h0 => rfl))
theorem okL11_0 : LoopOk TT TU noG C34 ownF L11 (lp Try.f11 0) :=
  loopOk_of ks11_0 hs11_0 W11_0 FU (fun s k => (G_skirmishref18_Slots_0 (toI (cIa s.tmps 0)) (toI (cIa s.tmps 11)) (toI (cIa s.tmps 12)) (toI (cIa s.tmps 14)) (toI (cIa (rows0 (blkAt s.heap 0).2) 0)) (toI (cIa (rows0 (blkAt s.heap 0).2) 1)) (toI (cIa (rows0 (blkAt s.heap 3).2) 0)) (toI (cIa (rows0 (blkAt s.heap 3).2) 1)) FU (blkAt s.heap 4).2.rows (toI (cIa s.tmps 16))).bind (X11_0 (blkAt s.heap 2).2.rows (toI (cIa (rows0 (blkAt s.heap 0).2) 0)) (toI (cIa (rows0 (blkAt s.heap 0).2) 1)) (toI (cIa (rows0 (blkAt s.heap 1).2) 0)) (toI (cIa (rows0 (blkAt s.heap 1).2) 1)) (toI (cIa (rows0 (blkAt s.heap 3).2) 0)) (toI (cIa (rows0 (blkAt s.heap 3).2) 1)) k)) (fun s k => by kernel_rfl) (fun s k => spec11_0 k FU (blkAt s.heap 2).2.rows (blkAt s.heap 4).2.rows (toI (cIa s.tmps 0)) (toI (cIa s.tmps 11)) (toI (cIa s.tmps 12)) (toI (cIa s.tmps 14)) (toI (cIa s.tmps 16)) (toI (cIa (rows0 (blkAt s.heap 0).2) 0)) (toI (cIa (rows0 (blkAt s.heap 0).2) 1)) (toI (cIa (rows0 (blkAt s.heap 1).2) 0)) (toI (cIa (rows0 (blkAt s.heap 1).2) 1)) (toI (cIa (rows0 (blkAt s.heap 3).2) 0)) (toI (cIa (rows0 (blkAt s.heap 3).2) 1)))
theorem run11 (kind : Int) (n : Int) (spacing : Int) (at_X : Int) (at_Y : Int) (facing_X : Int) (facing_Y : Int) : fcall TT TU noG C34 ownF true L11 Try.f11 [(.sc (.int .i64 kind)), (.sc (.int .i64 n)), (.sc (.int .i64 spacing)), (.agg [(.sc (.int .i64 at_X)), (.sc (.int .i64 at_Y))]), (.agg [(.sc (.int .i64 facing_X)), (.sc (.int .i64 facing_Y))])] = (F_skirmishref18_Slots kind n spacing at_X at_Y facing_X facing_Y).bind fun t => some (enc11 t) :=
  Eq.trans (b := (bif (decide (kind < (1 : Int))) then (some (CR.mk true (AVal.slc 0 0) [] [(Blk.mk BKind.arr 23 2 [])])) else (bif (decide (kind > (4 : Int))) then (some (CR.mk true (AVal.slc 0 0) [] [(Blk.mk BKind.arr 23 2 [])])) else (bif (decide (n < (1 : Int))) then (some (CR.mk true (AVal.slc 0 0) [] [(Blk.mk BKind.arr 23 2 [])])) else (Option.bind (F_skirmishref18_near spacing (0 : Int) (1024 : Int)) fun t => (Option.bind (F_skirmishref18_ahead facing_X facing_Y) fun t1 => (Option.bind (F_skirmishref02_Len2 t1.1 t1.2) fun t2 => (Option.bind (F_skirmishref18_length t2) fun t3 => (Option.bind (G_skirmishref18_Slots_0 kind (minI n (64 : Int)) t t3 at_X at_Y t1.1 t1.2 FU [] (0 : Int)) fun t4 => (bif (verEq t4.length t4.length) then (some (CR.mk true (AVal.slc 0 t4.length) [] [(Blk.mk BKind.arr 23 2 t4)])) else none)))))))))) (by kernel_rfl)
    (n_condH rfl (fun h0 => rfl) fun h0 => (n_condH rfl (fun h1 => rfl) fun h1 => (n_condH rfl (fun h2 => rfl) fun h2 => (n_bind fun t => (n_bind fun t1 => (n_bind fun t2 => (n_bind fun t3 => (n_bind fun t4 => (n_true (verEq_rfl _) rfl)))))))))
theorem lib11 : Lib Try.prog noG C11 :=
  Lib.fn lib34 mixed TT_ok Try.func11 (by decide +kernel) (by kernel_rfl) true L11 (loops_of 2 (by kernel_rfl) (belowS (belowS below0 okL11_0) okL11_1)) ks11 (F := fun us => F_skirmishref18_Slots (toI (cIa us 0)) (toI (cIa us 1)) (toI (cIa us 2)) (toI (cIa (aggL (cIa us 3)) 0)) (toI (cIa (aggL (cIa us 3)) 1)) (toI (cIa (aggL (cIa us 4)) 0)) (toI (cIa (aggL (cIa us 4)) 1))) (fun us => rfl) (fun us => run11 (toI (cIa us 0)) (toI (cIa us 1)) (toI (cIa us 2)) (toI (cIa (aggL (cIa us 3)) 0)) (toI (cIa (aggL (cIa us 3)) 1)) (toI (cIa (aggL (cIa us 4)) 0)) (toI (cIa (aggL (cIa us 4)) 1))) (fun t => rfl)

/-! ### 9: skirmish/skirmishref18.Same -/

noncomputable def W9_0 : Ex → List Bool
  | .ret => [false, false, false, false, true, false, false, false, false, false, false, false, false, false, false, false, false, false, false, false, false, false, false, false, false, false]
  | .exit n => bif Nat.beq n 0 then [false, false, false, false, false, false, false, false, false, false, false, false, false, false, false, false, false, false, false, false, false, false, false, false, false, false] else []
  | .normal => []
noncomputable def G_skirmishref18_Same_0 (a : List (List AVal)) (b : List (List AVal)) : Nat → Int → Option (Bool)
  | 0, _ => none
  | m + 1, i =>
    bif (decide (i < (Int.ofNat a.length))) then
      bif (decide ((0 : Int) ≤ i)) then
        Option.bind (a[i.toNat]?) fun r =>
        bif (chk [(LT.int IntKind.i64), (LT.int IntKind.i64)] r) then
          Option.bind (b[i.toNat]?) fun r1 =>
          bif (chk [(LT.int IntKind.i64), (LT.int IntKind.i64)] r1) then
            bif (!(((cI r 0) == (cI r1 0)) && ((cI r 1) == (cI r1 1)))) then
              some true
            else
            G_skirmishref18_Same_0 a b m (wr (i + (1 : Int)))
          else
          none
        else
        none
      else
      none
    else
    some false
noncomputable def E9_0 (a : List (List AVal)) (b : List (List AVal)) (i : Int) : St := ⟨[(.ro 2 a), (.ro 2 b), .dead, .dead, .dead, (.sc (.int .i64 i)), .dead, .dead, .dead, .dead, .dead, .dead, .dead, .dead, .dead, .dead, .dead, .dead, .dead, .dead, .dead, .dead, .dead, .dead, .dead, .dead], []⟩
noncomputable def X9_0 (k : Ex → St → Option CR) (t : Bool) : Option CR := bif t then k .ret ⟨[.dead, .dead, .dead, .dead, (.sc (.bool false)), .dead, .dead, .dead, .dead, .dead, .dead, .dead, .dead, .dead, .dead, .dead, .dead, .dead, .dead, .dead, .dead, .dead, .dead, .dead, .dead, .dead], []⟩ else k (.exit 0) ⟨[.dead, .dead, .dead, .dead, .dead, .dead, .dead, .dead, .dead, .dead, .dead, .dead, .dead, .dead, .dead, .dead, .dead, .dead, .dead, .dead, .dead, .dead, .dead, .dead, .dead, .dead], []⟩
noncomputable def ks9_0 : List SK := [.f (.ro 2), .f (.ro 2), .f .dead, .f .dead, .f .dead, .f (.int .i64), .f .dead, .f .dead, .f .dead, .f .dead, .f .dead, .f .dead, .f .dead, .f .dead, .f .dead, .f .dead, .f .dead, .f .dead, .f .dead, .f .dead, .f .dead, .f .dead, .f .dead, .f .dead, .f .dead, .f .dead]
noncomputable def hs9_0 : List HK := []
noncomputable def L9_0 (s : St) (k : Ex → St → Option CR) : Option CR := bif chkS ks9_0 hs9_0 s then (G_skirmishref18_Same_0 (roRows (cIa s.tmps 0)) (roRows (cIa s.tmps 1)) FU (toI (cIa s.tmps 5))).bind (X9_0 k) else none

noncomputable def L9 : LT' := fun i s k => bif Nat.beq i 0 then L9_0 s k else none

/-- 'skirmish/skirmishref18.Same' -/
noncomputable def F_skirmishref18_Same (a : List (List AVal)) (b : List (List AVal)) : Option (Bool) :=
  bif ((Int.ofNat a.length) != (Int.ofNat b.length)) then
    some false
  else
  Option.bind (G_skirmishref18_Same_0 a b FU (0 : Int)) fun t =>
  bif t then
    some false
  else
  some true
noncomputable def enc9 (t : Bool) : CR := ⟨true, (.sc (.bool t)), [], []⟩
noncomputable def ks9 : List SK := [.f (.ro 2), .f (.ro 2)]
noncomputable def S9 (us : List AVal) : Call := bif chkA ks9 us then Call.of (F_skirmishref18_Same (roRows (cIa us 0)) (roRows (cIa us 1))) enc9 else Call.none
noncomputable def C9 := AI.ext 9 S9 C11

@[reducible] noncomputable def B9_0 := bodyOf TT TU noG C11 ownF L9 (lp Try.f9 0)
@[reducible] noncomputable def K9_0 (k : Ex → St → Option CR) : Ex → St → Option CR := fun e s => k e (maskS (W9_0 e) s)
theorem spec9_0 (k : Ex → St → Option CR) : ∀ (m : Nat) (a : List (List AVal)) (b : List (List AVal)) (i : Int), loopN B9_0 m (E9_0 a b i) (K9_0 k) = (G_skirmishref18_Same_0 a b m i).bind (X9_0 k)
  | 0, _, _, _ => rfl
  | m + 1, a, b, i =>
    Eq.trans (b := (bif (decide (i < (Int.ofNat a.length))) then (bif (decide ((0 : Int) ≤ i)) then (Option.bind (a[i.toNat]?) fun r => (bif (chk [(LT.int IntKind.i64), (LT.int IntKind.i64)] r) then (bif (decide ((0 : Int) ≤ i)) then (Option.bind (b[i.toNat]?) fun r1 => (bif (chk [(LT.int IntKind.i64), (LT.int IntKind.i64)] r1) then (bif (!(((cI r 0) == (cI r1 0)) && ((cI r 1) == (cI r1 1)))) then (k .ret ⟨[.dead, .dead, .dead, .dead, (bo false), .dead, .dead, .dead, .dead, .dead, .dead, .dead, .dead, .dead, .dead, .dead, .dead, .dead, .dead, .dead, .dead, .dead, .dead, .dead, .dead, .dead], []⟩) else (loopN B9_0 m ⟨[(AVal.ro 2 a), (AVal.ro 2 b), .dead, .dead, .dead, (i64 (wr (i + (1 : Int)))), .dead, .dead, .dead, .dead, .dead, .dead, .dead, .dead, .dead, .dead, .dead, .dead, .dead, .dead, .dead, .dead, .dead, .dead, .dead, .dead], []⟩ (K9_0 k))) else none)) else none) else none)) else none) else (k (.exit 0) ⟨[.dead, .dead, .dead, .dead, .dead, .dead, .dead, .dead, .dead, .dead, .dead, .dead, .dead, .dead, .dead, .dead, .dead, .dead, .dead, .dead, .dead, .dead, .dead, .dead, .dead, .dead], []⟩))) (by kernel_rfl)
      (n_condH rfl (fun h0 => (n_condH rfl (fun h1 => (n_bind fun r => (n_condH rfl (fun h2 => (n_true h1 (n_bind fun r1 => (n_condH rfl (fun h3 => (n_condH rfl (fun h4 => rfl) fun h4 => (spec9_0 k m a b (wr (i + (1 : Int)))))) fun h3 => n_none)))) fun h2 => n_none))) fun h1 => n_none)) fun h0 => rfl)
theorem okL9_0 : LoopOk TT TU noG C11 ownF L9 (lp Try.f9 0) :=
  loopOk_of ks9_0 hs9_0 W9_0 FU (fun s k => (G_skirmishref18_Same_0 (roRows (cIa s.tmps 0)) (roRows (cIa s.tmps 1)) FU (toI (cIa s.tmps 5))).bind (X9_0 k)) (fun s k => by kernel_rfl) (fun s k => spec9_0 k FU (roRows (cIa s.tmps 0)) (roRows (cIa s.tmps 1)) (toI (cIa s.tmps 5)))
theorem run9 (a : List (List AVal)) (b : List (List AVal)) : fcall TT TU noG C11 ownF true L9 Try.f9 [(.ro 2 a), (.ro 2 b)] = (F_skirmishref18_Same a b).bind fun t => some (enc9 t) :=
  Eq.trans (b := (bif ((Int.ofNat a.length) != (Int.ofNat b.length)) then (some (CR.mk true (bo false) [] [])) else (Option.bind (G_skirmishref18_Same_0 a b FU (0 : Int)) fun t => (bif t then (some (CR.mk true (bo false) [] [])) else (some (CR.mk true (bo true) [] [])))))) (by kernel_rfl)
    (n_condH rfl (fun h0 => rfl) fun h0 => (n_bind fun t => (n_condH rfl (fun h1 => rfl) fun h1 => rfl)))
theorem lib9 : Lib Try.prog noG C9 :=
  Lib.fn lib11 mixed TT_ok Try.func9 (by decide +kernel) (by kernel_rfl) true L9 (loops_of 1 (by kernel_rfl) (belowS below0 okL9_0)) ks9 (F := fun us => F_skirmishref18_Same (roRows (cIa us 0)) (roRows (cIa us 1))) (fun us => rfl) (fun us => run9 (roRows (cIa us 0)) (roRows (cIa us 1))) (fun t => rfl)

/-! ### 50: skirmish/vec.minus -/



/-- 'skirmish/vec.minus' -/
noncomputable def F_vec_minus (a_X : Int) (a_Y : Int) : Option (Int × Int) :=
  some ((wr ((0 : Int) - a_X)), (wr ((0 : Int) - a_Y)))
noncomputable def enc50 (t : Int × Int) : CR := ⟨true, (.agg [(.sc (.int .i64 t.1)), (.sc (.int .i64 t.2))]), [], []⟩
noncomputable def ks50 : List SK := [.agg [.int .i64, .int .i64]]
noncomputable def S50 (us : List AVal) : Call := bif chkA ks50 us then Call.of (F_vec_minus (toI (cIa (aggL (cIa us 0)) 0)) (toI (cIa (aggL (cIa us 0)) 1))) enc50 else Call.none
noncomputable def C50 := AI.ext 50 S50 C9

theorem run50 (a_X : Int) (a_Y : Int) : fcall TT TU noG C9 ownF true noL Try.f50 [(.agg [(.sc (.int .i64 a_X)), (.sc (.int .i64 a_Y))])] = (F_vec_minus a_X a_Y).bind fun t => some (enc50 t) :=
  Eq.trans (b := (some (CR.mk true (AVal.agg [(i64 (wr ((0 : Int) - a_X))), (i64 (wr ((0 : Int) - a_Y)))]) [] []))) (by kernel_rfl)
    rfl
theorem lib50 : Lib Try.prog noG C50 :=
  Lib.fn lib9 mixed TT_ok Try.func50 (by decide +kernel) (by kernel_rfl) true noL (loops_of 0 (by kernel_rfl) below0) ks50 (F := fun us => F_vec_minus (toI (cIa (aggL (cIa us 0)) 0)) (toI (cIa (aggL (cIa us 0)) 1))) (fun us => rfl) (fun us => run50 (toI (cIa (aggL (cIa us 0)) 0)) (toI (cIa (aggL (cIa us 0)) 1))) (fun t => rfl)

/-! ### 48: skirmish/vec.Sub -/



/-- 'skirmish/vec.Sub' -/
noncomputable def F_vec_Sub (a_X : Int) (a_Y : Int) (b_X : Int) (b_Y : Int) : Option (Int × Int) :=
  Option.bind (F_vec_nearest a_X a_Y) fun t =>
  Option.bind (F_vec_nearest b_X b_Y) fun t1 =>
  Option.bind (F_vec_minus t1.1 t1.2) fun t2 =>
  Option.bind (F_vec_sum [[(i64 t.1), (i64 t.2)], [(i64 t2.1), (i64 t2.2)]]) fun t3 =>
  some (t3.1, t3.2)
noncomputable def enc48 (t : Int × Int) : CR := ⟨true, (.agg [(.sc (.int .i64 t.1)), (.sc (.int .i64 t.2))]), [], []⟩
noncomputable def ks48 : List SK := [.agg [.int .i64, .int .i64], .agg [.int .i64, .int .i64]]
noncomputable def S48 (us : List AVal) : Call := bif chkA ks48 us then Call.of (F_vec_Sub (toI (cIa (aggL (cIa us 0)) 0)) (toI (cIa (aggL (cIa us 0)) 1)) (toI (cIa (aggL (cIa us 1)) 0)) (toI (cIa (aggL (cIa us 1)) 1))) enc48 else Call.none
noncomputable def C48 := AI.ext 48 S48 C50

theorem run48 (a_X : Int) (a_Y : Int) (b_X : Int) (b_Y : Int) : fcall TT TU noG C50 ownF true noL Try.f48 [(.agg [(.sc (.int .i64 a_X)), (.sc (.int .i64 a_Y))]), (.agg [(.sc (.int .i64 b_X)), (.sc (.int .i64 b_Y))])] = (F_vec_Sub a_X a_Y b_X b_Y).bind fun t => some (enc48 t) :=
  Eq.trans (b := (Option.bind (F_vec_nearest a_X a_Y) fun t => (Option.bind (F_vec_nearest b_X b_Y) fun t1 => (Option.bind (F_vec_minus t1.1 t1.2) fun t2 => (Option.bind (F_vec_sum [[(i64 t.1), (i64 t.2)], [(i64 t2.1), (i64 t2.2)]]) fun t3 => (some (CR.mk true (AVal.agg [(i64 t3.1), (i64 t3.2)]) [] []))))))) (by kernel_rfl)
    (n_bind fun t => (n_bind fun t1 => (n_bind fun t2 => (n_bind fun t3 => rfl))))
theorem lib48 : Lib Try.prog noG C48 :=
  Lib.fn lib50 mixed TT_ok Try.func48 (by decide +kernel) (by kernel_rfl) true noL (loops_of 0 (by kernel_rfl) below0) ks48 (F := fun us => F_vec_Sub (toI (cIa (aggL (cIa us 0)) 0)) (toI (cIa (aggL (cIa us 0)) 1)) (toI (cIa (aggL (cIa us 1)) 0)) (toI (cIa (aggL (cIa us 1)) 1))) (fun us => rfl) (fun us => run48 (toI (cIa (aggL (cIa us 0)) 0)) (toI (cIa (aggL (cIa us 0)) 1)) (toI (cIa (aggL (cIa us 1)) 0)) (toI (cIa (aggL (cIa us 1)) 1))) (fun t => rfl)

/-! ### 37: skirmish/formation.distance -/



/-- 'skirmish/formation.distance' -/
noncomputable def F_formation_distance (a_X : Int) (a_Y : Int) (b_X : Int) (b_Y : Int) : Option (Int) :=
  Option.bind (F_vec_Sub a_X a_Y b_X b_Y) fun t =>
  Option.bind (F_vec_Len2 t.1 t.2) fun t1 =>
  some t1
noncomputable def enc37 (t : Int) : CR := ⟨true, (.sc (.int .i64 t)), [], []⟩
noncomputable def ks37 : List SK := [.agg [.int .i64, .int .i64], .agg [.int .i64, .int .i64]]
noncomputable def S37 (us : List AVal) : Call := bif chkA ks37 us then Call.of (F_formation_distance (toI (cIa (aggL (cIa us 0)) 0)) (toI (cIa (aggL (cIa us 0)) 1)) (toI (cIa (aggL (cIa us 1)) 0)) (toI (cIa (aggL (cIa us 1)) 1))) enc37 else Call.none
noncomputable def C37 := AI.ext 37 S37 C48

theorem run37 (a_X : Int) (a_Y : Int) (b_X : Int) (b_Y : Int) : fcall TT TU noG C48 ownF true noL Try.f37 [(.agg [(.sc (.int .i64 a_X)), (.sc (.int .i64 a_Y))]), (.agg [(.sc (.int .i64 b_X)), (.sc (.int .i64 b_Y))])] = (F_formation_distance a_X a_Y b_X b_Y).bind fun t => some (enc37 t) :=
  Eq.trans (b := (Option.bind (F_vec_Sub a_X a_Y b_X b_Y) fun t => (Option.bind (F_vec_Len2 t.1 t.2) fun t1 => (some (CR.mk true (i64 t1) [] []))))) (by kernel_rfl)
    (n_bind fun t => (n_bind fun t1 => rfl))
theorem lib37 : Lib Try.prog noG C37 :=
  Lib.fn lib48 mixed TT_ok Try.func37 (by decide +kernel) (by kernel_rfl) true noL (loops_of 0 (by kernel_rfl) below0) ks37 (F := fun us => F_formation_distance (toI (cIa (aggL (cIa us 0)) 0)) (toI (cIa (aggL (cIa us 0)) 1)) (toI (cIa (aggL (cIa us 1)) 0)) (toI (cIa (aggL (cIa us 1)) 1))) (fun us => rfl) (fun us => run37 (toI (cIa (aggL (cIa us 0)) 0)) (toI (cIa (aggL (cIa us 0)) 1)) (toI (cIa (aggL (cIa us 1)) 0)) (toI (cIa (aggL (cIa us 1)) 1))) (fun t => rfl)

/-! ### 15: skirmish/formation.Assign -/

noncomputable def W15_0 : Ex → List Bool
  | .ret => [false, false, false, false, true, false, false, false, false, false, false, false, false, false, false, false, false, false, false, false, false, false, false, false, false, false, false, false, false, false, false, false, false, false, false, false, false, false, false, false, false, false, false, false, false, false, false, false, false, false, false, false, false, false, false, false, false, false, false, false, false, false, false, false, false, false, false, false, false, false, false, false, false, false, false, false, false, false, false, false, false, false, false, false, false, false, false, false, false, false, false, false, false, false, false]
  | .exit n => bif Nat.beq n 0 then [true, true, false, false, false, true, false, false, false, false, false, false, false, false, false, false, false, false, false, false, false, false, false, false, false, false, false, false, false, false, false, false, false, false, false, false, false, false, false, false, false, false, false, false, false, false, false, false, false, false, false, false, false, false, false, false, false, false, false, false, false, false, false, false, false, false, true, true, true, true, false, false, false, false, false, false, false, true, true, true, false, false, false, false, false, false, false, false, false, false, false, false, false, false, false] else []
  | .normal => []
noncomputable def G_formation_Assign_0 (x28 : Int) : Nat → List (List AVal) → Int → Option (List (List AVal))
  | 0, _, _ => none
  | m + 1, R1, x29 =>
    bif (decide (x29 < x28)) then
      bif ((decide ((0 : Int) ≤ x29)) && (decide (x29 < (Int.ofNat R1.length)))) then
        G_formation_Assign_0 x28 m (List.set R1 x29.toNat [(i64 (-(1 : Int)))]) (wr (x29 + (1 : Int)))
      else
      none
    else
    some R1
noncomputable def E15_0 (R0 : List (List AVal)) (R1 : List (List AVal)) (units : List (List AVal)) (slots : List (List AVal)) (x28 : Int) (x29 : Int) : St := ⟨[(.ro 2 units), (.ro 2 slots), .dead, .dead, .dead, (.slc 12816 (R1).length), .dead, .dead, .dead, .dead, .dead, .dead, .dead, .dead, .dead, .dead, .dead, .dead, .dead, .dead, .dead, .dead, .dead, .dead, .dead, .dead, .dead, .dead, (.sc (.int .i64 x28)), (.sc (.int .i64 x29)), .dead, .dead, .dead, .dead, .dead, .dead, .dead, .dead, .dead, .dead, .dead, .dead, .dead, .dead, .dead, .dead, .dead, .dead, .dead, .dead, .dead, .dead, .dead, .dead, .dead, .dead, .dead, .dead, .dead, .dead, .dead, .dead, .dead, .dead, .dead, .dead, .dead, .dead, .dead, .dead, .dead, .dead, .dead, .dead, .dead, .dead, .dead, .dead, .dead, .dead, .dead, .dead, .dead, .dead, .dead, .dead, .dead, .dead, .dead, .dead, .dead, .dead, .dead, .dead, .dead], [(8000, ⟨.arr, 3, 1, R0⟩), (12816, ⟨.arr, 3, 1, R1⟩)]⟩
noncomputable def X15_0 (R0 : List (List AVal)) (units : List (List AVal)) (slots : List (List AVal)) (k : Ex → St → Option CR) (t : List (List AVal)) : Option CR := k (.exit 0) ⟨[(.ro 2 units), (.ro 2 slots), .dead, .dead, .dead, (.slc 12816 (t).length), .dead, .dead, .dead, .dead, .dead, .dead, .dead, .dead, .dead, .dead, .dead, .dead, .dead, .dead, .dead, .dead, .dead, .dead, .dead, .dead, .dead, .dead, .dead, .dead, .dead, .dead, .dead, .dead, .dead, .dead, .dead, .dead, .dead, .dead, .dead, .dead, .dead, .dead, .dead, .dead, .dead, .dead, .dead, .dead, .dead, .dead, .dead, .dead, .dead, .dead, .dead, .dead, .dead, .dead, .dead, .dead, .dead, .dead, .dead, .dead, .dead, .dead, .dead, .dead, .dead, .dead, .dead, .dead, .dead, .dead, .dead, .dead, .dead, .dead, .dead, .dead, .dead, .dead, .dead, .dead, .dead, .dead, .dead, .dead, .dead, .dead, .dead, .dead, .dead], [(8000, ⟨.arr, 3, 1, R0⟩), (12816, ⟨.arr, 3, 1, t⟩)]⟩
noncomputable def ks15_0 : List SK := [.f (.ro 2), .f (.ro 2), .f .dead, .f .dead, .f .dead, .f (.slc 12816 1), .f .dead, .f .dead, .f .dead, .f .dead, .f .dead, .f .dead, .f .dead, .f .dead, .f .dead, .f .dead, .f .dead, .f .dead, .f .dead, .f .dead, .f .dead, .f .dead, .f .dead, .f .dead, .f .dead, .f .dead, .f .dead, .f .dead, .f (.int .i64), .f (.int .i64), .f .dead, .f .dead, .f .dead, .f .dead, .f .dead, .f .dead, .f .dead, .f .dead, .f .dead, .f .dead, .f .dead, .f .dead, .f .dead, .f .dead, .f .dead, .f .dead, .f .dead, .f .dead, .f .dead, .f .dead, .f .dead, .f .dead, .f .dead, .f .dead, .f .dead, .f .dead, .f .dead, .f .dead, .f .dead, .f .dead, .f .dead, .f .dead, .f .dead, .f .dead, .f .dead, .f .dead, .f .dead, .f .dead, .f .dead, .f .dead, .f .dead, .f .dead, .f .dead, .f .dead, .f .dead, .f .dead, .f .dead, .f .dead, .f .dead, .f .dead, .f .dead, .f .dead, .f .dead, .f .dead, .f .dead, .f .dead, .f .dead, .f .dead, .f .dead, .f .dead, .f .dead, .f .dead, .f .dead, .f .dead, .f .dead]
noncomputable def hs15_0 : List HK := [⟨8000, .arr, 3, 1, none⟩, ⟨12816, .arr, 3, 1, none⟩]
noncomputable def L15_0 (s : St) (k : Ex → St → Option CR) : Option CR := bif chkS ks15_0 hs15_0 s then (G_formation_Assign_0 (toI (cIa s.tmps 28)) FU (blkAt s.heap 1).2.rows (toI (cIa s.tmps 29))).bind (X15_0 (blkAt s.heap 0).2.rows (roRows (cIa s.tmps 0)) (roRows (cIa s.tmps 1)) k) else none
noncomputable def W15_1 : Ex → List Bool
  | .ret => [false, false, false, false, true, false, false, false, false, false, false, false, false, false, false, false, false, false, false, false, false, false, false, false, false, false, false, false, false, false, false, false, false, false, false, false, false, false, false, false, false, false, false, false, false, false, false, false, false, false, false, false, false, false, false, false, false, false, false, false, false, false, false, false, false, false, false, false, false, false, false, false, false, false, false, false, false, false, false, false, false, false, false, false, false, false, false, false, false, false, false, false, false, false, false]
  | .exit n => bif Nat.beq n 2 then [false, false, false, false, false, true, false, false, false, false, false, false, false, false, false, false, false, false, false, false, false, false, false, false, false, false, false, false, false, false, false, false, false, false, false, false, false, false, false, false, false, false, false, false, false, false, false, false, false, false, false, false, false, false, false, false, false, false, false, false, false, false, false, false, false, false, false, false, false, false, false, false, false, false, false, false, false, false, false, false, false, false, false, false, false, false, false, false, false, false, false, false, false, false, false] else []
  | .normal => []
noncomputable def W15_2 : Ex → List Bool
  | .ret => [false, false, false, false, true, false, false, false, false, false, false, false, false, false, false, false, false, false, false, false, false, false, false, false, false, false, false, false, false, false, false, false, false, false, false, false, false, false, false, false, false, false, false, false, false, false, false, false, false, false, false, false, false, false, false, false, false, false, false, false, false, false, false, false, false, false, false, false, false, false, false, false, false, false, false, false, false, false, false, false, false, false, false, false, false, false, false, false, false, false, false, false, false, false, false]
  | .exit n => bif Nat.beq n 4 then [true, true, false, false, false, true, false, true, true, true, false, false, false, false, false, false, false, false, false, false, false, false, false, false, false, false, false, false, false, false, false, false, false, false, false, false, false, false, false, false, false, false, false, true, true, false, false, false, false, false, false, false, false, false, false, false, false, false, false, false, false, false, false, false, false, false, true, true, true, true, false, false, false, false, false, false, false, true, true, true, false, false, false, false, false, false, false, false, false, false, false, false, false, false, false] else bif Nat.beq n 3 then [true, true, false, false, false, true, false, true, false, false, false, false, false, false, false, false, false, false, false, false, false, false, false, false, false, false, false, false, false, false, false, false, false, false, false, false, false, false, false, false, false, false, false, true, true, false, false, false, false, false, false, false, false, false, false, false, false, false, false, false, false, false, false, false, false, false, true, true, true, true, false, false, false, false, false, false, false, true, true, true, false, false, false, false, false, false, false, false, false, false, false, false, false, false, false] else bif Nat.beq n 2 then [false, false, false, false, false, true, false, false, false, false, false, false, false, false, false, false, false, false, false, false, false, false, false, false, false, false, false, false, false, false, false, false, false, false, false, false, false, false, false, false, false, false, false, false, false, false, false, false, false, false, false, false, false, false, false, false, false, false, false, false, false, false, false, false, false, false, false, false, false, false, false, false, false, false, false, false, false, false, false, false, false, false, false, false, false, false, false, false, false, false, false, false, false, false, false] else []
  | .normal => []
noncomputable def W15_3 : Ex → List Bool
  | .ret => [false, false, false, false, true, false, false, false, false, false, false, false, false, false, false, false, false, false, false, false, false, false, false, false, false, false, false, false, false, false, false, false, false, false, false, false, false, false, false, false, false, false, false, false, false, false, false, false, false, false, false, false, false, false, false, false, false, false, false, false, false, false, false, false, false, false, false, false, false, false, false, false, false, false, false, false, false, false, false, false, false, false, false, false, false, false, false, false, false, false, false, false, false, false, false]
  | .exit n => bif Nat.beq n 6 then [true, true, false, false, false, true, false, true, true, true, true, false, false, false, false, false, false, false, false, false, false, false, false, false, false, false, false, false, false, false, false, false, false, false, false, false, false, false, false, false, false, false, false, true, true, false, true, true, true, false, false, false, false, false, false, false, false, false, false, false, false, false, false, false, false, false, true, true, true, true, false, false, false, false, false, false, false, true, true, true, false, false, false, false, false, false, false, false, false, false, false, false, false, false, false] else bif Nat.beq n 5 then [true, true, false, false, false, true, false, true, true, true, true, false, false, false, false, false, false, false, false, false, false, false, false, false, false, false, false, false, false, false, false, false, false, false, false, false, false, false, false, false, false, false, false, true, true, false, true, true, true, false, false, false, false, false, false, false, false, false, false, false, false, false, false, false, false, false, true, true, true, true, false, false, false, false, false, false, false, true, true, true, false, false, false, false, false, false, false, false, false, false, false, false, false, false, false] else bif Nat.beq n 4 then [true, true, false, false, false, true, false, true, true, true, false, false, false, false, false, false, false, false, false, false, false, false, false, false, false, false, false, false, false, false, false, false, false, false, false, false, false, false, false, false, false, false, false, true, true, false, false, false, false, false, false, false, false, false, false, false, false, false, false, false, false, false, false, false, false, false, true, true, true, true, false, false, false, false, false, false, false, true, true, true, false, false, false, false, false, false, false, false, false, false, false, false, false, false, false] else bif Nat.beq n 3 then [true, true, false, false, false, true, false, true, false, false, false, false, false, false, false, false, false, false, false, false, false, false, false, false, false, false, false, false, false, false, false, false, false, false, false, false, false, false, false, false, false, false, false, true, true, false, false, false, false, false, false, false, false, false, false, false, false, false, false, false, false, false, false, false, false, false, true, true, true, true, false, false, false, false, false, false, false, true, true, true, false, false, false, false, false, false, false, false, false, false, false, false, false, false, false] else bif Nat.beq n 2 then [false, false, false, false, false, true, false, false, false, false, false, false, false, false, false, false, false, false, false, false, false, false, false, false, false, false, false, false, false, false, false, false, false, false, false, false, false, false, false, false, false, false, false, false, false, false, false, false, false, false, false, false, false, false, false, false, false, false, false, false, false, false, false, false, false, false, false, false, false, false, false, false, false, false, false, false, false, false, false, false, false, false, false, false, false, false, false, false, false, false, false, false, false, false, false] else []
  | .normal => []
noncomputable def G_formation_Assign_3 (R1 : List (List AVal)) (R2 : List (List AVal)) (i : Int) (x53 : List (List AVal)) (x54 : Int) (b3_0 : Int) (b3_1 : Int) : Nat → Int → Int → Int → Int → Option (Int × Int × Int)
  | 0, _, _, _, _ => none
  | m + 1, unit, place, best, x55 =>
    bif (decide (x55 < x54)) then
      bif (decide ((0 : Int) ≤ x55)) then
        Option.bind (x53[x55.toNat]?) fun r =>
        bif (chk [(LT.int IntKind.i64), (LT.int IntKind.i64)] r) then
          bif ((decide ((0 : Int) ≤ i)) && (decide (i < (Int.ofNat R1.length)))) then
            Option.bind (R1[i.toNat]?) fun r1 =>
            bif (chk [(LT.int IntKind.i64)] r1) then
              bif (decide ((cI r1 0) ≥ (0 : Int))) then
                G_formation_Assign_3 R1 R2 i x53 x54 b3_0 b3_1 m unit place best (wr (x55 + (1 : Int)))
              else
              bif (decide (x55 < (Int.ofNat R2.length))) then
                Option.bind (R2[x55.toNat]?) fun r2 =>
                bif (chk [LT.bool] r2) then
                  bif (cB r2 0) then
                    G_formation_Assign_3 R1 R2 i x53 x54 b3_0 b3_1 m unit place best (wr (x55 + (1 : Int)))
                  else
                  Option.bind (F_formation_distance b3_0 b3_1 (cI r 0) (cI r 1)) fun t =>
                  bif (decide (unit < (0 : Int))) then
                    G_formation_Assign_3 R1 R2 i x53 x54 b3_0 b3_1 m i x55 t (wr (x55 + (1 : Int)))
                  else
                  bif (decide (t < best)) then
                    G_formation_Assign_3 R1 R2 i x53 x54 b3_0 b3_1 m i x55 t (wr (x55 + (1 : Int)))
                  else
                  G_formation_Assign_3 R1 R2 i x53 x54 b3_0 b3_1 m unit place best (wr (x55 + (1 : Int)))
                else
                none
              else
              none
            else
            none
          else
          none
        else
        none
      else
      none
    else
    some (unit, place, best)
noncomputable def E15_3 (R0 : List (List AVal)) (R1 : List (List AVal)) (R2 : List (List AVal)) (units : List (List AVal)) (slots : List (List AVal)) (unit : Int) (place : Int) (best : Int) (i : Int) (x43 : Int) (x44 : Int) (x46 : List (List AVal)) (x47 : Int) (x48 : Int) (x53 : List (List AVal)) (x54 : Int) (x55 : Int) (b3_0 : Int) (b3_1 : Int) : St := ⟨[(.ro 2 units), (.ro 2 slots), .dead, .dead, .dead, (.slc 12816 (R1).length), .dead, (.slc 22416 (R2).length), (.sc (.int .i64 unit)), (.sc (.int .i64 place)), (.sc (.int .i64 best)), (.sc (.int .i64 i)), (.ref 32024 1 0 0), .dead, .dead, .dead, .dead, .dead, .dead, .dead, .dead, .dead, .dead, .dead, .dead, .dead, .dead, .dead, .dead, .dead, .dead, .dead, .dead, .dead, .dead, .dead, .dead, .dead, .dead, .dead, .dead, .dead, .dead, (.sc (.int .i64 x43)), (.sc (.int .i64 x44)), .dead, (.ro 2 x46), (.sc (.int .i64 x47)), (.sc (.int .i64 x48)), .dead, .dead, .dead, .dead, (.ro 2 x53), (.sc (.int .i64 x54)), (.sc (.int .i64 x55)), .dead, .dead, .dead, .dead, .dead, .dead, .dead, .dead, .dead, .dead, .dead, .dead, .dead, .dead, .dead, .dead, .dead, .dead, .dead, .dead, .dead, .dead, .dead, .dead, .dead, .dead, .dead, .dead, .dead, .dead, .dead, .dead, .dead, .dead, .dead, .dead, .dead, .dead, .dead], [(8000, ⟨.arr, 3, 1, R0⟩), (12816, ⟨.arr, 3, 1, R1⟩), (22416, ⟨.arr, 4, 1, R2⟩), (32024, ⟨.box, 23, 2, [[(.sc (.int .i64 b3_0)), (.sc (.int .i64 b3_1))]]⟩)]⟩
noncomputable def X15_3 (R0 : List (List AVal)) (R1 : List (List AVal)) (R2 : List (List AVal)) (units : List (List AVal)) (slots : List (List AVal)) (x43 : Int) (x44 : Int) (x46 : List (List AVal)) (x47 : Int) (x48 : Int) (b3_0 : Int) (b3_1 : Int) (k : Ex → St → Option CR) (t : Int × Int × Int) : Option CR := k (.exit 6) ⟨[(.ro 2 units), (.ro 2 slots), .dead, .dead, .dead, (.slc 12816 (R1).length), .dead, (.slc 22416 (R2).length), (.sc (.int .i64 t.1)), (.sc (.int .i64 t.2.1)), (.sc (.int .i64 t.2.2)), .dead, .dead, .dead, .dead, .dead, .dead, .dead, .dead, .dead, .dead, .dead, .dead, .dead, .dead, .dead, .dead, .dead, .dead, .dead, .dead, .dead, .dead, .dead, .dead, .dead, .dead, .dead, .dead, .dead, .dead, .dead, .dead, (.sc (.int .i64 x43)), (.sc (.int .i64 x44)), .dead, (.ro 2 x46), (.sc (.int .i64 x47)), (.sc (.int .i64 x48)), .dead, .dead, .dead, .dead, .dead, .dead, .dead, .dead, .dead, .dead, .dead, .dead, .dead, .dead, .dead, .dead, .dead, .dead, .dead, .dead, .dead, .dead, .dead, .dead, .dead, .dead, .dead, .dead, .dead, .dead, .dead, .dead, .dead, .dead, .dead, .dead, .dead, .dead, .dead, .dead, .dead, .dead, .dead, .dead, .dead, .dead], [(8000, ⟨.arr, 3, 1, R0⟩), (12816, ⟨.arr, 3, 1, R1⟩), (22416, ⟨.arr, 4, 1, R2⟩), (32024, ⟨.box, 23, 2, [[(.sc (.int .i64 b3_0)), (.sc (.int .i64 b3_1))]]⟩)]⟩
noncomputable def ks15_3 : List SK := [.f (.ro 2), .f (.ro 2), .f .dead, .f .dead, .f .dead, .f (.slc 12816 1), .f .dead, .f (.slc 22416 2), .f (.int .i64), .f (.int .i64), .f (.int .i64), .f (.int .i64), .f (.ref 32024 1 0 0), .f .dead, .f .dead, .f .dead, .f .dead, .f .dead, .f .dead, .f .dead, .f .dead, .f .dead, .f .dead, .f .dead, .f .dead, .f .dead, .f .dead, .f .dead, .f .dead, .f .dead, .f .dead, .f .dead, .f .dead, .f .dead, .f .dead, .f .dead, .f .dead, .f .dead, .f .dead, .f .dead, .f .dead, .f .dead, .f .dead, .f (.int .i64), .f (.int .i64), .f .dead, .f (.ro 2), .f (.int .i64), .f (.int .i64), .f .dead, .f .dead, .f .dead, .f .dead, .f (.ro 2), .f (.int .i64), .f (.int .i64), .f .dead, .f .dead, .f .dead, .f .dead, .f .dead, .f .dead, .f .dead, .f .dead, .f .dead, .f .dead, .f .dead, .f .dead, .f .dead, .f .dead, .f .dead, .f .dead, .f .dead, .f .dead, .f .dead, .f .dead, .f .dead, .f .dead, .f .dead, .f .dead, .f .dead, .f .dead, .f .dead, .f .dead, .f .dead, .f .dead, .f .dead, .f .dead, .f .dead, .f .dead, .f .dead, .f .dead, .f .dead, .f .dead, .f .dead]
noncomputable def hs15_3 : List HK := [⟨8000, .arr, 3, 1, none⟩, ⟨12816, .arr, 3, 1, none⟩, ⟨22416, .arr, 4, 1, none⟩, ⟨32024, .box, 23, 2, some [.int .i64, .int .i64]⟩]
noncomputable def L15_3 (s : St) (k : Ex → St → Option CR) : Option CR := bif chkS ks15_3 hs15_3 s then (G_formation_Assign_3 (blkAt s.heap 1).2.rows (blkAt s.heap 2).2.rows (toI (cIa s.tmps 11)) (roRows (cIa s.tmps 53)) (toI (cIa s.tmps 54)) (toI (cIa (rows0 (blkAt s.heap 3).2) 0)) (toI (cIa (rows0 (blkAt s.heap 3).2) 1)) FU (toI (cIa s.tmps 8)) (toI (cIa s.tmps 9)) (toI (cIa s.tmps 10)) (toI (cIa s.tmps 55))).bind (X15_3 (blkAt s.heap 0).2.rows (blkAt s.heap 1).2.rows (blkAt s.heap 2).2.rows (roRows (cIa s.tmps 0)) (roRows (cIa s.tmps 1)) (toI (cIa s.tmps 43)) (toI (cIa s.tmps 44)) (roRows (cIa s.tmps 46)) (toI (cIa s.tmps 47)) (toI (cIa s.tmps 48)) (toI (cIa (rows0 (blkAt s.heap 3).2) 0)) (toI (cIa (rows0 (blkAt s.heap 3).2) 1)) k) else none
noncomputable def G_formation_Assign_2 (R1 : List (List AVal)) (R2 : List (List AVal)) (slots : List (List AVal)) (x46 : List (List AVal)) (x47 : Int) : Nat → Int → Int → Int → Int → Option (Int × Int)
  | 0, _, _, _, _ => none
  | m + 1, unit, place, best, x48 =>
    bif (decide (x48 < x47)) then
      bif (decide ((0 : Int) ≤ x48)) then
        Option.bind (x46[x48.toNat]?) fun r =>
        bif (chk [(LT.int IntKind.i64), (LT.int IntKind.i64)] r) then
          Option.bind (G_formation_Assign_3 R1 R2 x48 slots (Int.ofNat slots.length) (cI r 0) (cI r 1) FU unit place best (0 : Int)) fun t =>
          G_formation_Assign_2 R1 R2 slots x46 x47 m t.1 t.2.1 t.2.2 (wr (x48 + (1 : Int)))
        else
        none
      else
      none
    else
    some (unit, place)
noncomputable def E15_2 (R0 : List (List AVal)) (R1 : List (List AVal)) (R2 : List (List AVal)) (units : List (List AVal)) (slots : List (List AVal)) (unit : Int) (place : Int) (best : Int) (x43 : Int) (x44 : Int) (x46 : List (List AVal)) (x47 : Int) (x48 : Int) : St := ⟨[(.ro 2 units), (.ro 2 slots), .dead, .dead, .dead, (.slc 12816 (R1).length), .dead, (.slc 22416 (R2).length), (.sc (.int .i64 unit)), (.sc (.int .i64 place)), (.sc (.int .i64 best)), .dead, .dead, .dead, .dead, .dead, .dead, .dead, .dead, .dead, .dead, .dead, .dead, .dead, .dead, .dead, .dead, .dead, .dead, .dead, .dead, .dead, .dead, .dead, .dead, .dead, .dead, .dead, .dead, .dead, .dead, .dead, .dead, (.sc (.int .i64 x43)), (.sc (.int .i64 x44)), .dead, (.ro 2 x46), (.sc (.int .i64 x47)), (.sc (.int .i64 x48)), .dead, .dead, .dead, .dead, .dead, .dead, .dead, .dead, .dead, .dead, .dead, .dead, .dead, .dead, .dead, .dead, .dead, .dead, .dead, .dead, .dead, .dead, .dead, .dead, .dead, .dead, .dead, .dead, .dead, .dead, .dead, .dead, .dead, .dead, .dead, .dead, .dead, .dead, .dead, .dead, .dead, .dead, .dead, .dead, .dead, .dead], [(8000, ⟨.arr, 3, 1, R0⟩), (12816, ⟨.arr, 3, 1, R1⟩), (22416, ⟨.arr, 4, 1, R2⟩)]⟩
noncomputable def X15_2 (R0 : List (List AVal)) (R1 : List (List AVal)) (R2 : List (List AVal)) (units : List (List AVal)) (slots : List (List AVal)) (x43 : Int) (x44 : Int) (k : Ex → St → Option CR) (t : Int × Int) : Option CR := k (.exit 4) ⟨[(.ro 2 units), (.ro 2 slots), .dead, .dead, .dead, (.slc 12816 (R1).length), .dead, (.slc 22416 (R2).length), (.sc (.int .i64 t.1)), (.sc (.int .i64 t.2)), .dead, .dead, .dead, .dead, .dead, .dead, .dead, .dead, .dead, .dead, .dead, .dead, .dead, .dead, .dead, .dead, .dead, .dead, .dead, .dead, .dead, .dead, .dead, .dead, .dead, .dead, .dead, .dead, .dead, .dead, .dead, .dead, .dead, (.sc (.int .i64 x43)), (.sc (.int .i64 x44)), .dead, .dead, .dead, .dead, .dead, .dead, .dead, .dead, .dead, .dead, .dead, .dead, .dead, .dead, .dead, .dead, .dead, .dead, .dead, .dead, .dead, .dead, .dead, .dead, .dead, .dead, .dead, .dead, .dead, .dead, .dead, .dead, .dead, .dead, .dead, .dead, .dead, .dead, .dead, .dead, .dead, .dead, .dead, .dead, .dead, .dead, .dead, .dead, .dead, .dead], [(8000, ⟨.arr, 3, 1, R0⟩), (12816, ⟨.arr, 3, 1, R1⟩), (22416, ⟨.arr, 4, 1, R2⟩)]⟩
noncomputable def ks15_2 : List SK := [.f (.ro 2), .f (.ro 2), .f .dead, .f .dead, .f .dead, .f (.slc 12816 1), .f .dead, .f (.slc 22416 2), .f (.int .i64), .f (.int .i64), .f (.int .i64), .f .dead, .f .dead, .f .dead, .f .dead, .f .dead, .f .dead, .f .dead, .f .dead, .f .dead, .f .dead, .f .dead, .f .dead, .f .dead, .f .dead, .f .dead, .f .dead, .f .dead, .f .dead, .f .dead, .f .dead, .f .dead, .f .dead, .f .dead, .f .dead, .f .dead, .f .dead, .f .dead, .f .dead, .f .dead, .f .dead, .f .dead, .f .dead, .f (.int .i64), .f (.int .i64), .f .dead, .f (.ro 2), .f (.int .i64), .f (.int .i64), .f .dead, .f .dead, .f .dead, .f .dead, .f .dead, .f .dead, .f .dead, .f .dead, .f .dead, .f .dead, .f .dead, .f .dead, .f .dead, .f .dead, .f .dead, .f .dead, .f .dead, .f .dead, .f .dead, .f .dead, .f .dead, .f .dead, .f .dead, .f .dead, .f .dead, .f .dead, .f .dead, .f .dead, .f .dead, .f .dead, .f .dead, .f .dead, .f .dead, .f .dead, .f .dead, .f .dead, .f .dead, .f .dead, .f .dead, .f .dead, .f .dead, .f .dead, .f .dead, .f .dead, .f .dead, .f .dead]
noncomputable def hs15_2 : List HK := [⟨8000, .arr, 3, 1, none⟩, ⟨12816, .arr, 3, 1, none⟩, ⟨22416, .arr, 4, 1, none⟩]
noncomputable def L15_2 (s : St) (k : Ex → St → Option CR) : Option CR := bif chkS ks15_2 hs15_2 s then (G_formation_Assign_2 (blkAt s.heap 1).2.rows (blkAt s.heap 2).2.rows (roRows (cIa s.tmps 1)) (roRows (cIa s.tmps 46)) (toI (cIa s.tmps 47)) FU (toI (cIa s.tmps 8)) (toI (cIa s.tmps 9)) (toI (cIa s.tmps 10)) (toI (cIa s.tmps 48))).bind (X15_2 (blkAt s.heap 0).2.rows (blkAt s.heap 1).2.rows (blkAt s.heap 2).2.rows (roRows (cIa s.tmps 0)) (roRows (cIa s.tmps 1)) (toI (cIa s.tmps 43)) (toI (cIa s.tmps 44)) k) else none
noncomputable def G_formation_Assign_1 (units : List (List AVal)) (slots : List (List AVal)) (x43 : Int) : Nat → List (List AVal) → List (List AVal) → Int → Option (List (List AVal) × List (List AVal))
  | 0, _, _, _ => none
  | m + 1, R1, R2, x44 =>
    bif (decide (x44 < x43)) then
      Option.bind (G_formation_Assign_2 R1 R2 slots units (Int.ofNat units.length) FU (-(1 : Int)) (-(1 : Int)) (0 : Int) (0 : Int)) fun t =>
      bif ((decide ((0 : Int) ≤ t.1)) && (decide (t.1 < (Int.ofNat R1.length)))) then
        bif ((decide ((0 : Int) ≤ t.2)) && (decide (t.2 < (Int.ofNat R2.length)))) then
          G_formation_Assign_1 units slots x43 m (List.set R1 t.1.toNat [(i64 t.2)]) (List.set R2 t.2.toNat [(bo true)]) (wr (x44 + (1 : Int)))
        else
        none
      else
      none
    else
    some (R1, R2)
noncomputable def E15_1 (R0 : List (List AVal)) (R1 : List (List AVal)) (R2 : List (List AVal)) (units : List (List AVal)) (slots : List (List AVal)) (x43 : Int) (x44 : Int) : St := ⟨[(.ro 2 units), (.ro 2 slots), .dead, .dead, .dead, (.slc 12816 (R1).length), .dead, (.slc 22416 (R2).length), .dead, .dead, .dead, .dead, .dead, .dead, .dead, .dead, .dead, .dead, .dead, .dead, .dead, .dead, .dead, .dead, .dead, .dead, .dead, .dead, .dead, .dead, .dead, .dead, .dead, .dead, .dead, .dead, .dead, .dead, .dead, .dead, .dead, .dead, .dead, (.sc (.int .i64 x43)), (.sc (.int .i64 x44)), .dead, .dead, .dead, .dead, .dead, .dead, .dead, .dead, .dead, .dead, .dead, .dead, .dead, .dead, .dead, .dead, .dead, .dead, .dead, .dead, .dead, .dead, .dead, .dead, .dead, .dead, .dead, .dead, .dead, .dead, .dead, .dead, .dead, .dead, .dead, .dead, .dead, .dead, .dead, .dead, .dead, .dead, .dead, .dead, .dead, .dead, .dead, .dead, .dead, .dead], [(8000, ⟨.arr, 3, 1, R0⟩), (12816, ⟨.arr, 3, 1, R1⟩), (22416, ⟨.arr, 4, 1, R2⟩)]⟩
noncomputable def X15_1 (R0 : List (List AVal)) (k : Ex → St → Option CR) (t : List (List AVal) × List (List AVal)) : Option CR := k (.exit 2) ⟨[.dead, .dead, .dead, .dead, .dead, (.slc 12816 (t.1).length), .dead, .dead, .dead, .dead, .dead, .dead, .dead, .dead, .dead, .dead, .dead, .dead, .dead, .dead, .dead, .dead, .dead, .dead, .dead, .dead, .dead, .dead, .dead, .dead, .dead, .dead, .dead, .dead, .dead, .dead, .dead, .dead, .dead, .dead, .dead, .dead, .dead, .dead, .dead, .dead, .dead, .dead, .dead, .dead, .dead, .dead, .dead, .dead, .dead, .dead, .dead, .dead, .dead, .dead, .dead, .dead, .dead, .dead, .dead, .dead, .dead, .dead, .dead, .dead, .dead, .dead, .dead, .dead, .dead, .dead, .dead, .dead, .dead, .dead, .dead, .dead, .dead, .dead, .dead, .dead, .dead, .dead, .dead, .dead, .dead, .dead, .dead, .dead, .dead], [(8000, ⟨.arr, 3, 1, R0⟩), (12816, ⟨.arr, 3, 1, t.1⟩), (22416, ⟨.arr, 4, 1, t.2⟩)]⟩
noncomputable def ks15_1 : List SK := [.f (.ro 2), .f (.ro 2), .f .dead, .f .dead, .f .dead, .f (.slc 12816 1), .f .dead, .f (.slc 22416 2), .f .dead, .f .dead, .f .dead, .f .dead, .f .dead, .f .dead, .f .dead, .f .dead, .f .dead, .f .dead, .f .dead, .f .dead, .f .dead, .f .dead, .f .dead, .f .dead, .f .dead, .f .dead, .f .dead, .f .dead, .f .dead, .f .dead, .f .dead, .f .dead, .f .dead, .f .dead, .f .dead, .f .dead, .f .dead, .f .dead, .f .dead, .f .dead, .f .dead, .f .dead, .f .dead, .f (.int .i64), .f (.int .i64), .f .dead, .f .dead, .f .dead, .f .dead, .f .dead, .f .dead, .f .dead, .f .dead, .f .dead, .f .dead, .f .dead, .f .dead, .f .dead, .f .dead, .f .dead, .f .dead, .f .dead, .f .dead, .f .dead, .f .dead, .f .dead, .f .dead, .f .dead, .f .dead, .f .dead, .f .dead, .f .dead, .f .dead, .f .dead, .f .dead, .f .dead, .f .dead, .f .dead, .f .dead, .f .dead, .f .dead, .f .dead, .f .dead, .f .dead, .f .dead, .f .dead, .f .dead, .f .dead, .f .dead, .f .dead, .f .dead, .f .dead, .f .dead, .f .dead, .f .dead]
noncomputable def hs15_1 : List HK := [⟨8000, .arr, 3, 1, none⟩, ⟨12816, .arr, 3, 1, none⟩, ⟨22416, .arr, 4, 1, none⟩]
noncomputable def L15_1 (s : St) (k : Ex → St → Option CR) : Option CR := bif chkS ks15_1 hs15_1 s then (G_formation_Assign_1 (roRows (cIa s.tmps 0)) (roRows (cIa s.tmps 1)) (toI (cIa s.tmps 43)) FU (blkAt s.heap 1).2.rows (blkAt s.heap 2).2.rows (toI (cIa s.tmps 44))).bind (X15_1 (blkAt s.heap 0).2.rows k) else none

noncomputable def L15 : LT' := fun i s k => bif Nat.beq i 0 then L15_0 s k else bif Nat.beq i 2 then L15_1 s k else bif Nat.beq i 4 then L15_2 s k else bif Nat.beq i 6 then L15_3 s k else none

/-- 'skirmish/formation.Assign' -/
noncomputable def F_formation_Assign (units : List (List AVal)) (slots : List (List AVal)) : Option (List (List AVal)) :=
  bif (decide ((Int.ofNat units.length) > (64 : Int))) then
    some []
  else
  bif (decide ((Int.ofNat slots.length) > (64 : Int))) then
    some []
  else
  bif ((((decide ((Int.ofNat units.length) = (Int.ofNat units.length))) && (decide ((0 : Int) ≤ (Int.ofNat units.length)))) && (decide ((Int.ofNat units.length) ≤ (9223372036854775807 : Int)))) && (decide (((8 : Int) * (Int.ofNat units.length)) ≤ (140737488355328 : Int)))) then
    Option.bind (G_formation_Assign_0 (Int.ofNat (Blk.rows (Blk.mk BKind.arr 3 1 (List.replicate (Int.ofNat units.length).toNat [(i64 (0 : Int))]))).length) FU (Blk.rows (Blk.mk BKind.arr 3 1 (List.replicate (Int.ofNat units.length).toNat [(i64 (0 : Int))]))) (0 : Int)) fun t =>
    bif ((((decide ((Int.ofNat slots.length) = (Int.ofNat slots.length))) && (decide ((0 : Int) ≤ (Int.ofNat slots.length)))) && (decide ((Int.ofNat slots.length) ≤ (9223372036854775807 : Int)))) && (decide (((1 : Int) * (Int.ofNat slots.length)) ≤ (140737488355328 : Int)))) then
      Option.bind (G_formation_Assign_1 units slots (minI (Int.ofNat units.length) (Int.ofNat slots.length)) FU t (Blk.rows (Blk.mk BKind.arr 4 1 (List.replicate (Int.ofNat slots.length).toNat [(bo false)]))) (0 : Int)) fun t1 =>
      some t1.1
    else
    none
  else
  none
noncomputable def enc15 (t : List (List AVal)) : CR := ⟨true, (.slc 0 (t).length), [], [⟨.arr, 3, 1, t⟩]⟩
noncomputable def ks15 : List SK := [.f (.ro 2), .f (.ro 2)]
noncomputable def S15 (us : List AVal) : Call := bif chkA ks15 us then Call.of (F_formation_Assign (roRows (cIa us 0)) (roRows (cIa us 1))) enc15 else Call.none
noncomputable def C15 := AI.ext 15 S15 C37

@[reducible] noncomputable def B15_0 := bodyOf TT TU noG C37 ownF L15 (lp Try.f15 0)
@[reducible] noncomputable def K15_0 (k : Ex → St → Option CR) : Ex → St → Option CR := fun e s => k e (maskS (W15_0 e) s)
theorem spec15_0 (k : Ex → St → Option CR) : ∀ (m : Nat) (R0 : List (List AVal)) (R1 : List (List AVal)) (units : List (List AVal)) (slots : List (List AVal)) (x28 : Int) (x29 : Int), loopN B15_0 m (E15_0 R0 R1 units slots x28 x29) (K15_0 k) = (G_formation_Assign_0 x28 m R1 x29).bind (X15_0 R0 units slots k)
  | 0, _, _, _, _, _, _ => rfl
  | m + 1, R0, R1, units, slots, x28, x29 =>
    Eq.trans (b := (bif (decide (x29 < x28)) then (bif (((verEq R1.length R1.length) && (decide ((0 : Int) ≤ x29))) && (decide (x29 < (Int.ofNat R1.length)))) then (bif ((((verEq R1.length R1.length) && true) && true) && true) then (loopN B15_0 m ⟨[(AVal.ro 2 units), (AVal.ro 2 slots), .dead, .dead, .dead, (AVal.slc 12816 R1.length), .dead, .dead, .dead, .dead, .dead, .dead, .dead, .dead, .dead, .dead, .dead, .dead, .dead, .dead, .dead, .dead, .dead, .dead, .dead, .dead, .dead, .dead, (i64 x28), (i64 (wr (x29 + (1 : Int)))), .dead, .dead, .dead, .dead, .dead, .dead, .dead, .dead, .dead, .dead, .dead, .dead, .dead, .dead, .dead, .dead, .dead, .dead, .dead, .dead, .dead, .dead, .dead, .dead, .dead, .dead, .dead, .dead, .dead, .dead, .dead, .dead, .dead, .dead, .dead, .dead, .dead, .dead, .dead, .dead, .dead, .dead, .dead, .dead, .dead, .dead, .dead, .dead, .dead, .dead, .dead, .dead, .dead, .dead, .dead, .dead, .dead, .dead, .dead, .dead, .dead, .dead, .dead, .dead, .dead], [(Prod.mk 8000 (Blk.mk BKind.arr 3 1 R0)), (Prod.mk 12816 (Blk.mk BKind.arr 3 1 (List.set R1 x29.toNat [(i64 (-(1 : Int)))])))]⟩ (K15_0 k)) else none) else none) else (k (.exit 0) ⟨[(AVal.ro 2 units), (AVal.ro 2 slots), .dead, .dead, .dead, (AVal.slc 12816 R1.length), .dead, .dead, .dead, .dead, .dead, .dead, .dead, .dead, .dead, .dead, .dead, .dead, .dead, .dead, .dead, .dead, .dead, .dead, .dead, .dead, .dead, .dead, .dead, .dead, .dead, .dead, .dead, .dead, .dead, .dead, .dead, .dead, .dead, .dead, .dead, .dead, .dead, .dead, .dead, .dead, .dead, .dead, .dead, .dead, .dead, .dead, .dead, .dead, .dead, .dead, .dead, .dead, .dead, .dead, .dead, .dead, .dead, .dead, .dead, .dead, .dead, .dead, .dead, .dead, .dead, .dead, .dead, .dead, .dead, .dead, .dead, .dead, .dead, .dead, .dead, .dead, .dead, .dead, .dead, .dead, .dead, .dead, .dead, .dead, .dead, .dead, .dead, .dead, .dead], [(Prod.mk 8000 (Blk.mk BKind.arr 3 1 R0)), (Prod.mk 12816 (Blk.mk BKind.arr 3 1 R1))]⟩))) (by kernel_rfl)
      (n_condH rfl (fun h0 => (n_condH (n_and (n_andL (verEq_rfl _) rfl) rfl) (fun h1 => (n_true (n_andL (n_andL (n_andL (verEq_rfl _) rfl) rfl) rfl) ((congrArg (fun z => loopN B15_0 m z (K15_0 k)) (by simp [E15_0] : _ = E15_0 R0 (List.set R1 x29.toNat [(i64 (-(1 : Int)))]) units slots x28 (wr (x29 + (1 : Int))))).trans (spec15_0 k m R0 (List.set R1 x29.toNat [(i64 (-(1 : Int)))]) units slots x28 (wr (x29 + (1 : Int))))))) fun h1 => n_none)) fun h0 => rfl)
theorem okL15_0 : LoopOk TT TU noG C37 ownF L15 (lp Try.f15 0) :=
  loopOk_of ks15_0 hs15_0 W15_0 FU (fun s k => (G_formation_Assign_0 (toI (cIa s.tmps 28)) FU (blkAt s.heap 1).2.rows (toI (cIa s.tmps 29))).bind (X15_0 (blkAt s.heap 0).2.rows (roRows (cIa s.tmps 0)) (roRows (cIa s.tmps 1)) k)) (fun s k => by kernel_rfl) (fun s k => spec15_0 k FU (blkAt s.heap 0).2.rows (blkAt s.heap 1).2.rows (roRows (cIa s.tmps 0)) (roRows (cIa s.tmps 1)) (toI (cIa s.tmps 28)) (toI (cIa s.tmps 29)))
@[reducible] noncomputable def B15_3 := bodyOf TT TU noG C37 ownF L15 (lp Try.f15 3)
@[reducible] noncomputable def K15_3 (k : Ex → St → Option CR) : Ex → St → Option CR := fun e s => k e (maskS (W15_3 e) s)
theorem spec15_3 (k : Ex → St → Option CR) : ∀ (m : Nat) (R0 : List (List AVal)) (R1 : List (List AVal)) (R2 : List (List AVal)) (units : List (List AVal)) (slots : List (List AVal)) (unit : Int) (place : Int) (best : Int) (i : Int) (x43 : Int) (x44 : Int) (x46 : List (List AVal)) (x47 : Int) (x48 : Int) (x53 : List (List AVal)) (x54 : Int) (x55 : Int) (b3_0 : Int) (b3_1 : Int), loopN B15_3 m (E15_3 R0 R1 R2 units slots unit place best i x43 x44 x46 x47 x48 x53 x54 x55 b3_0 b3_1) (K15_3 k) = (G_formation_Assign_3 R1 R2 i x53 x54 b3_0 b3_1 m unit place best x55).bind (X15_3 R0 R1 R2 units slots x43 x44 x46 x47 x48 b3_0 b3_1 k)
  | 0, _, _, _, _, _, _, _, _, _, _, _, _, _, _, _, _, _, _, _ => rfl
  | m + 1, R0, R1, R2, units, slots, unit, place, best, i, x43, x44, x46, x47, x48, x53, x54, x55, b3_0, b3_1 =>
    Eq.trans (b := (bif (decide (x55 < x54)) then (bif (decide ((0 : Int) ≤ x55)) then (Option.bind (x53[x55.toNat]?) fun r => (bif (chk [(LT.int IntKind.i64), (LT.int IntKind.i64)] r) then (bif (((verEq R1.length R1.length) && (decide ((0 : Int) ≤ i))) && (decide (i < (Int.ofNat R1.length)))) then (bif (verEq R1.length R1.length) then (Option.bind (R1[i.toNat]?) fun r1 => (bif (chk [(LT.int IntKind.i64)] r1) then (bif (decide ((cI r1 0) ≥ (0 : Int))) then (loopN B15_3 m ⟨[(AVal.ro 2 units), (AVal.ro 2 slots), .dead, .dead, .dead, (AVal.slc 12816 R1.length), .dead, (AVal.slc 22416 R2.length), (i64 unit), (i64 place), (i64 best), (i64 i), (AVal.ref 32024 1 0 0), .dead, .dead, .dead, .dead, .dead, .dead, .dead, .dead, .dead, .dead, .dead, .dead, .dead, .dead, .dead, .dead, .dead, .dead, .dead, .dead, .dead, .dead, .dead, .dead, .dead, .dead, .dead, .dead, .dead, .dead, (i64 x43), (i64 x44), .dead, (AVal.ro 2 x46), (i64 x47), (i64 x48), .dead, .dead, .dead, .dead, (AVal.ro 2 x53), (i64 x54), (i64 (wr (x55 + (1 : Int)))), .dead, .dead, .dead, .dead, .dead, .dead, .dead, .dead, .dead, .dead, .dead, .dead, .dead, .dead, .dead, .dead, .dead, .dead, .dead, .dead, .dead, .dead, .dead, .dead, .dead, .dead, .dead, .dead, .dead, .dead, .dead, .dead, .dead, .dead, .dead, .dead, .dead, .dead, .dead], [(Prod.mk 8000 (Blk.mk BKind.arr 3 1 R0)), (Prod.mk 12816 (Blk.mk BKind.arr 3 1 R1)), (Prod.mk 22416 (Blk.mk BKind.arr 4 1 R2)), (Prod.mk 32024 (Blk.mk BKind.box 23 2 [[(i64 b3_0), (i64 b3_1)]]))]⟩ (K15_3 k)) else (bif (((verEq R2.length R2.length) && (decide ((0 : Int) ≤ x55))) && (decide (x55 < (Int.ofNat R2.length)))) then (bif (verEq R2.length R2.length) then (Option.bind (R2[x55.toNat]?) fun r2 => (bif (chk [LT.bool] r2) then (bif (cB r2 0) then (loopN B15_3 m ⟨[(AVal.ro 2 units), (AVal.ro 2 slots), .dead, .dead, .dead, (AVal.slc 12816 R1.length), .dead, (AVal.slc 22416 R2.length), (i64 unit), (i64 place), (i64 best), (i64 i), (AVal.ref 32024 1 0 0), .dead, .dead, .dead, .dead, .dead, .dead, .dead, .dead, .dead, .dead, .dead, .dead, .dead, .dead, .dead, .dead, .dead, .dead, .dead, .dead, .dead, .dead, .dead, .dead, .dead, .dead, .dead, .dead, .dead, .dead, (i64 x43), (i64 x44), .dead, (AVal.ro 2 x46), (i64 x47), (i64 x48), .dead, .dead, .dead, .dead, (AVal.ro 2 x53), (i64 x54), (i64 (wr (x55 + (1 : Int)))), .dead, .dead, .dead, .dead, .dead, .dead, .dead, .dead, .dead, .dead, .dead, .dead, .dead, .dead, .dead, .dead, .dead, .dead, .dead, .dead, .dead, .dead, .dead, .dead, .dead, .dead, .dead, .dead, .dead, .dead, .dead, .dead, .dead, .dead, .dead, .dead, .dead, .dead, .dead], [(Prod.mk 8000 (Blk.mk BKind.arr 3 1 R0)), (Prod.mk 12816 (Blk.mk BKind.arr 3 1 R1)), (Prod.mk 22416 (Blk.mk BKind.arr 4 1 R2)), (Prod.mk 32024 (Blk.mk BKind.box 23 2 [[(i64 b3_0), (i64 b3_1)]]))]⟩ (K15_3 k)) else (Option.bind (F_formation_distance b3_0 b3_1 (cI r 0) (cI r 1)) fun t => (bif (decide (unit < (0 : Int))) then (loopN B15_3 m ⟨[(AVal.ro 2 units), (AVal.ro 2 slots), .dead, .dead, .dead, (AVal.slc 12816 R1.length), .dead, (AVal.slc 22416 R2.length), (i64 i), (i64 x55), (i64 t), (i64 i), (AVal.ref 32024 1 0 0), .dead, .dead, .dead, .dead, .dead, .dead, .dead, .dead, .dead, .dead, .dead, .dead, .dead, .dead, .dead, .dead, .dead, .dead, .dead, .dead, .dead, .dead, .dead, .dead, .dead, .dead, .dead, .dead, .dead, .dead, (i64 x43), (i64 x44), .dead, (AVal.ro 2 x46), (i64 x47), (i64 x48), .dead, .dead, .dead, .dead, (AVal.ro 2 x53), (i64 x54), (i64 (wr (x55 + (1 : Int)))), .dead, .dead, .dead, .dead, .dead, .dead, .dead, .dead, .dead, .dead, .dead, .dead, .dead, .dead, .dead, .dead, .dead, .dead, .dead, .dead, .dead, .dead, .dead, .dead, .dead, .dead, .dead, .dead, .dead, .dead, .dead, .dead, .dead, .dead, .dead, .dead, .dead, .dead, .dead], [(Prod.mk 8000 (Blk.mk BKind.arr 3 1 R0)), (Prod.mk 12816 (Blk.mk BKind.arr 3 1 R1)), (Prod.mk 22416 (Blk.mk BKind.arr 4 1 R2)), (Prod.mk 32024 (Blk.mk BKind.box 23 2 [[(i64 b3_0), (i64 b3_1)]]))]⟩ (K15_3 k)) else (bif (decide (t < best)) then (loopN B15_3 m ⟨[(AVal.ro 2 units), (AVal.ro 2 slots), .dead, .dead, .dead, (AVal.slc 12816 R1.length), .dead, (AVal.slc 22416 R2.length), (i64 i), (i64 x55), (i64 t), (i64 i), (AVal.ref 32024 1 0 0), .dead, .dead, .dead, .dead, .dead, .dead, .dead, .dead, .dead, .dead, .dead, .dead, .dead, .dead, .dead, .dead, .dead, .dead, .dead, .dead, .dead, .dead, .dead, .dead, .dead, .dead, .dead, .dead, .dead, .dead, (i64 x43), (i64 x44), .dead, (AVal.ro 2 x46), (i64 x47), (i64 x48), .dead, .dead, .dead, .dead, (AVal.ro 2 x53), (i64 x54), (i64 (wr (x55 + (1 : Int)))), .dead, .dead, .dead, .dead, .dead, .dead, .dead, .dead, .dead, .dead, .dead, .dead, .dead, .dead, .dead, .dead, .dead, .dead, .dead, .dead, .dead, .dead, .dead, .dead, .dead, .dead, .dead, .dead, .dead, .dead, .dead, .dead, .dead, .dead, .dead, .dead, .dead, .dead, .dead], [(Prod.mk 8000 (Blk.mk BKind.arr 3 1 R0)), (Prod.mk 12816 (Blk.mk BKind.arr 3 1 R1)), (Prod.mk 22416 (Blk.mk BKind.arr 4 1 R2)), (Prod.mk 32024 (Blk.mk BKind.box 23 2 [[(i64 b3_0), (i64 b3_1)]]))]⟩ (K15_3 k)) else (loopN B15_3 m ⟨[(AVal.ro 2 units), (AVal.ro 2 slots), .dead, .dead, .dead, (AVal.slc 12816 R1.length), .dead, (AVal.slc 22416 R2.length), (i64 unit), (i64 place), (i64 best), (i64 i), (AVal.ref 32024 1 0 0), .dead, .dead, .dead, .dead, .dead, .dead, .dead, .dead, .dead, .dead, .dead, .dead, .dead, .dead, .dead, .dead, .dead, .dead, .dead, .dead, .dead, .dead, .dead, .dead, .dead, .dead, .dead, .dead, .dead, .dead, (i64 x43), (i64 x44), .dead, (AVal.ro 2 x46), (i64 x47), (i64 x48), .dead, .dead, .dead, .dead, (AVal.ro 2 x53), (i64 x54), (i64 (wr (x55 + (1 : Int)))), .dead, .dead, .dead, .dead, .dead, .dead, .dead, .dead, .dead, .dead, .dead, .dead, .dead, .dead, .dead, .dead, .dead, .dead, .dead, .dead, .dead, .dead, .dead, .dead, .dead, .dead, .dead, .dead, .dead, .dead, .dead, .dead, .dead, .dead, .dead, .dead, .dead, .dead, .dead], [(Prod.mk 8000 (Blk.mk BKind.arr 3 1 R0)), (Prod.mk 12816 (Blk.mk BKind.arr 3 1 R1)), (Prod.mk 22416 (Blk.mk BKind.arr 4 1 R2)), (Prod.mk 32024 (Blk.mk BKind.box 23 2 [[(i64 b3_0), (i64 b3_1)]]))]⟩ (K15_3 k)))))) else none)) else none) else none)) else none)) else none) else none) else none)) else none) else (k (.exit 6) ⟨[(AVal.ro 2 units), (AVal.ro 2 slots), .dead, .dead, .dead, (AVal.slc 12816 R1.length), .dead, (AVal.slc 22416 R2.length), (i64 unit), (i64 place), (i64 best), .dead, .dead, .dead, .dead, .dead, .dead, .dead, .dead, .dead, .dead, .dead, .dead, .dead, .dead, .dead, .dead, .dead, .dead, .dead, .dead, .dead, .dead, .dead, .dead, .dead, .dead, .dead, .dead, .dead, .dead, .dead, .dead, (i64 x43), (i64 x44), .dead, (AVal.ro 2 x46), (i64 x47), (i64 x48), .dead, .dead, .dead, .dead, .dead, .dead, .dead, .dead, .dead, .dead, .dead, .dead, .dead, .dead, .dead, .dead, .dead, .dead, .dead, .dead, .dead, .dead, .dead, .dead, .dead, .dead, .dead, .dead, .dead, .dead, .dead, .dead, .dead, .dead, .dead, .dead, .dead, .dead, .dead, .dead, .dead, .dead, .dead, .dead, .dead, .dead], [(Prod.mk 8000 (Blk.mk BKind.arr 3 1 R0)), (Prod.mk 12816 (Blk.mk BKind.arr 3 1 R1)), (Prod.mk 22416 (Blk.mk BKind.arr 4 1 R2)), (Prod.mk 32024 (Blk.mk BKind.box 23 2 [[(i64 b3_0), (i64 b3_1)]]))]⟩))) (by kernel_rfl)
      (n_condH rfl (fun h0 => (n_condH rfl (fun h1 => (n_bind fun r => (n_condH rfl (fun h2 => (n_condH (n_and (n_andL (verEq_rfl _) rfl) rfl) (fun h3 => (n_true (verEq_rfl _) (n_bind fun r1 => (n_condH rfl (fun h4 => (n_condH rfl (fun h5 => (spec15_3 k m R0 R1 R2 units slots unit place best i x43 x44 x46 x47 x48 x53 x54 (wr (x55 + (1 : Int))) b3_0 b3_1)) fun h5 => (n_condH (n_andL (n_andL (verEq_rfl _) h1) rfl) (fun h6 => (n_true (verEq_rfl _) (n_bind fun r2 => (n_condH rfl (fun h7 => (n_condH rfl (fun h8 => (spec15_3 k m R0 R1 R2 units slots unit place best i x43 x44 x46 x47 x48 x53 x54 (wr (x55 + (1 : Int))) b3_0 b3_1)) fun h8 => (n_bind fun t => (n_condH rfl (fun h9 => (spec15_3 k m R0 R1 R2 units slots i x55 t i x43 x44 x46 x47 x48 x53 x54 (wr (x55 + (1 : Int))) b3_0 b3_1)) fun h9 => (n_condH rfl (fun h10 => (spec15_3 k m R0 R1 R2 units slots i x55 t i x43 x44 x46 x47 x48 x53 x54 (wr (x55 + (1 : Int))) b3_0 b3_1)) fun h10 => (spec15_3 k m R0 R1 R2 units slots unit place best i x43 x44 x46 x47 x48 x53 x54 (wr (x55 + (1 : Int))) b3_0 b3_1)))))) fun h7 => n_none)))) fun h6 => n_none))) fun h4 => n_none)))) fun h3 => n_none)) fun h2 => n_none))) fun h1 => n_none)) fun h0 => rfl)
theorem okL15_3 : LoopOk TT TU noG C37 ownF L15 (lp Try.f15 3) :=
  loopOk_of ks15_3 hs15_3 W15_3 FU (fun s k => (G_formation_Assign_3 (blkAt s.heap 1).2.rows (blkAt s.heap 2).2.rows (toI (cIa s.tmps 11)) (roRows (cIa s.tmps 53)) (toI (cIa s.tmps 54)) (toI (cIa (rows0 (blkAt s.heap 3).2) 0)) (toI (cIa (rows0 (blkAt s.heap 3).2) 1)) FU (toI (cIa s.tmps 8)) (toI (cIa s.tmps 9)) (toI (cIa s.tmps 10)) (toI (cIa s.tmps 55))).bind (X15_3 (blkAt s.heap 0).2.rows (blkAt s.heap 1).2.rows (blkAt s.heap 2).2.rows (roRows (cIa s.tmps 0)) (roRows (cIa s.tmps 1)) (toI (cIa s.tmps 43)) (toI (cIa s.tmps 44)) (roRows (cIa s.tmps 46)) (toI (cIa s.tmps 47)) (toI (cIa s.tmps 48)) (toI (cIa (rows0 (blkAt s.heap 3).2) 0)) (toI (cIa (rows0 (blkAt s.heap 3).2) 1)) k)) (fun s k => by kernel_rfl) (fun s k => spec15_3 k FU (blkAt s.heap 0).2.rows (blkAt s.heap 1).2.rows (blkAt s.heap 2).2.rows (roRows (cIa s.tmps 0)) (roRows (cIa s.tmps 1)) (toI (cIa s.tmps 8)) (toI (cIa s.tmps 9)) (toI (cIa s.tmps 10)) (toI (cIa s.tmps 11)) (toI (cIa s.tmps 43)) (toI (cIa s.tmps 44)) (roRows (cIa s.tmps 46)) (toI (cIa s.tmps 47)) (toI (cIa s.tmps 48)) (roRows (cIa s.tmps 53)) (toI (cIa s.tmps 54)) (toI (cIa s.tmps 55)) (toI (cIa (rows0 (blkAt s.heap 3).2) 0)) (toI (cIa (rows0 (blkAt s.heap 3).2) 1)))
@[reducible] noncomputable def B15_2 := bodyOf TT TU noG C37 ownF L15 (lp Try.f15 2)
@[reducible] noncomputable def K15_2 (k : Ex → St → Option CR) : Ex → St → Option CR := fun e s => k e (maskS (W15_2 e) s)
theorem spec15_2 (k : Ex → St → Option CR) : ∀ (m : Nat) (R0 : List (List AVal)) (R1 : List (List AVal)) (R2 : List (List AVal)) (units : List (List AVal)) (slots : List (List AVal)) (unit : Int) (place : Int) (best : Int) (x43 : Int) (x44 : Int) (x46 : List (List AVal)) (x47 : Int) (x48 : Int), loopN B15_2 m (E15_2 R0 R1 R2 units slots unit place best x43 x44 x46 x47 x48) (K15_2 k) = (G_formation_Assign_2 R1 R2 slots x46 x47 m unit place best x48).bind (X15_2 R0 R1 R2 units slots x43 x44 k)
  | 0, _, _, _, _, _, _, _, _, _, _, _, _, _ => rfl
  | m + 1, R0, R1, R2, units, slots, unit, place, best, x43, x44, x46, x47, x48 =>
    Eq.trans (b := (bif (decide (x48 < x47)) then (bif (decide ((0 : Int) ≤ x48)) then (Option.bind (x46[x48.toNat]?) fun r => (bif (chk [(LT.int IntKind.i64), (LT.int IntKind.i64)] r) then (bif (((true && (verEq R1.length (blkLen [(Prod.mk 8000 (Blk.mk BKind.arr 3 1 R0)), (Prod.mk 12816 (Blk.mk BKind.arr 3 1 R1)), (Prod.mk 22416 (Blk.mk BKind.arr 4 1 R2)), (Prod.mk 32024 (Blk.mk BKind.box 23 2 [[(i64 (cI r 0)), (i64 (cI r 1))]]))] 1))) && ((true && (verEq R2.length (blkLen [(Prod.mk 8000 (Blk.mk BKind.arr 3 1 R0)), (Prod.mk 12816 (Blk.mk BKind.arr 3 1 R1)), (Prod.mk 22416 (Blk.mk BKind.arr 4 1 R2)), (Prod.mk 32024 (Blk.mk BKind.box 23 2 [[(i64 (cI r 0)), (i64 (cI r 1))]]))] 2))) && true)) && true) then (Option.bind (G_formation_Assign_3 R1 R2 x48 slots (Int.ofNat slots.length) (cI r 0) (cI r 1) FU unit place best (0 : Int)) fun t => (loopN B15_2 m ⟨[(AVal.ro 2 units), (AVal.ro 2 slots), .dead, .dead, .dead, (AVal.slc 12816 R1.length), .dead, (AVal.slc 22416 R2.length), (i64 t.1), (i64 t.2.1), (i64 t.2.2), .dead, .dead, .dead, .dead, .dead, .dead, .dead, .dead, .dead, .dead, .dead, .dead, .dead, .dead, .dead, .dead, .dead, .dead, .dead, .dead, .dead, .dead, .dead, .dead, .dead, .dead, .dead, .dead, .dead, .dead, .dead, .dead, (i64 x43), (i64 x44), .dead, (AVal.ro 2 x46), (i64 x47), (i64 (wr (x48 + (1 : Int)))), .dead, .dead, .dead, .dead, .dead, .dead, .dead, .dead, .dead, .dead, .dead, .dead, .dead, .dead, .dead, .dead, .dead, .dead, .dead, .dead, .dead, .dead, .dead, .dead, .dead, .dead, .dead, .dead, .dead, .dead, .dead, .dead, .dead, .dead, .dead, .dead, .dead, .dead, .dead, .dead, .dead, .dead, .dead, .dead, .dead, .dead], [(Prod.mk 8000 (Blk.mk BKind.arr 3 1 R0)), (Prod.mk 12816 (Blk.mk BKind.arr 3 1 R1)), (Prod.mk 22416 (Blk.mk BKind.arr 4 1 R2))]⟩ (K15_2 k))) else none) else none)) else none) else (k (.exit 4) ⟨[(AVal.ro 2 units), (AVal.ro 2 slots), .dead, .dead, .dead, (AVal.slc 12816 R1.length), .dead, (AVal.slc 22416 R2.length), (i64 unit), (i64 place), .dead, .dead, .dead, .dead, .dead, .dead, .dead, .dead, .dead, .dead, .dead, .dead, .dead, .dead, .dead, .dead, .dead, .dead, .dead, .dead, .dead, .dead, .dead, .dead, .dead, .dead, .dead, .dead, .dead, .dead, .dead, .dead, .dead, (i64 x43), (i64 x44), .dead, .dead, .dead, .dead, .dead, .dead, .dead, .dead, .dead, .dead, .dead, .dead, .dead, .dead, .dead, .dead, .dead, .dead, .dead, .dead, .dead, .dead, .dead, .dead, .dead, .dead, .dead, .dead, .dead, .dead, .dead, .dead, .dead, .dead, .dead, .dead, .dead, .dead, .dead, .dead, .dead, .dead, .dead, .dead, .dead, .dead, .dead, .dead, .dead, .dead], [(Prod.mk 8000 (Blk.mk BKind.arr 3 1 R0)), (Prod.mk 12816 (Blk.mk BKind.arr 3 1 R1)), (Prod.mk 22416 (Blk.mk BKind.arr 4 1 R2))]⟩))) (by kernel_rfl)
      (n_condH rfl (fun h0 => (n_condH rfl (fun h1 => (n_bind fun r => (n_condH rfl (fun h2 => (n_true (n_andL (n_andL (n_andL rfl (by first | exact verEq_of rfl | simp [verEq])) (n_andL (n_andL rfl (by first | exact verEq_of rfl | simp [verEq])) rfl)) rfl) (n_bind fun t => (spec15_2 k m R0 R1 R2 units slots t.1 t.2.1 t.2.2 x43 x44 x46 x47 (wr (x48 + (1 : Int))))))) fun h2 => n_none))) fun h1 => n_none)) fun h0 => rfl)
theorem okL15_2 : LoopOk TT TU noG C37 ownF L15 (lp Try.f15 2) :=
  loopOk_of ks15_2 hs15_2 W15_2 FU (fun s k => (G_formation_Assign_2 (blkAt s.heap 1).2.rows (blkAt s.heap 2).2.rows (roRows (cIa s.tmps 1)) (roRows (cIa s.tmps 46)) (toI (cIa s.tmps 47)) FU (toI (cIa s.tmps 8)) (toI (cIa s.tmps 9)) (toI (cIa s.tmps 10)) (toI (cIa s.tmps 48))).bind (X15_2 (blkAt s.heap 0).2.rows (blkAt s.heap 1).2.rows (blkAt s.heap 2).2.rows (roRows (cIa s.tmps 0)) (roRows (cIa s.tmps 1)) (toI (cIa s.tmps 43)) (toI (cIa s.tmps 44)) k)) (fun s k => by kernel_rfl) (fun s k => spec15_2 k FU (blkAt s.heap 0).2.rows (blkAt s.heap 1).2.rows (blkAt s.heap 2).2.rows (roRows (cIa s.tmps 0)) (roRows (cIa s.tmps 1)) (toI (cIa s.tmps 8)) (toI (cIa s.tmps 9)) (toI (cIa s.tmps 10)) (toI (cIa s.tmps 43)) (toI (cIa s.tmps 44)) (roRows (cIa s.tmps 46)) (toI (cIa s.tmps 47)) (toI (cIa s.tmps 48)))
@[reducible] noncomputable def B15_1 := bodyOf TT TU noG C37 ownF L15 (lp Try.f15 1)
@[reducible] noncomputable def K15_1 (k : Ex → St → Option CR) : Ex → St → Option CR := fun e s => k e (maskS (W15_1 e) s)
theorem spec15_1 (k : Ex → St → Option CR) : ∀ (m : Nat) (R0 : List (List AVal)) (R1 : List (List AVal)) (R2 : List (List AVal)) (units : List (List AVal)) (slots : List (List AVal)) (x43 : Int) (x44 : Int), loopN B15_1 m (E15_1 R0 R1 R2 units slots x43 x44) (K15_1 k) = (G_formation_Assign_1 units slots x43 m R1 R2 x44).bind (X15_1 R0 k)
  | 0, _, _, _, _, _, _, _ => rfl
  | m + 1, R0, R1, R2, units, slots, x43, x44 =>
    Eq.trans (b := (bif (decide (x44 < x43)) then (bif (((true && (verEq R1.length (blkLen [(Prod.mk 8000 (Blk.mk BKind.arr 3 1 R0)), (Prod.mk 12816 (Blk.mk BKind.arr 3 1 R1)), (Prod.mk 22416 (Blk.mk BKind.arr 4 1 R2))] 1))) && ((true && (verEq R2.length (blkLen [(Prod.mk 8000 (Blk.mk BKind.arr 3 1 R0)), (Prod.mk 12816 (Blk.mk BKind.arr 3 1 R1)), (Prod.mk 22416 (Blk.mk BKind.arr 4 1 R2))] 2))) && true)) && true) then (Option.bind (G_formation_Assign_2 R1 R2 slots units (Int.ofNat units.length) FU (-(1 : Int)) (-(1 : Int)) (0 : Int) (0 : Int)) fun t => (bif (((verEq R1.length R1.length) && (decide ((0 : Int) ≤ t.1))) && (decide (t.1 < (Int.ofNat R1.length)))) then (bif ((((verEq R1.length R1.length) && true) && true) && true) then (bif (((verEq R2.length R2.length) && (decide ((0 : Int) ≤ t.2))) && (decide (t.2 < (Int.ofNat R2.length)))) then (bif ((((verEq R2.length R2.length) && true) && true) && true) then (loopN B15_1 m ⟨[(AVal.ro 2 units), (AVal.ro 2 slots), .dead, .dead, .dead, (AVal.slc 12816 R1.length), .dead, (AVal.slc 22416 R2.length), .dead, .dead, .dead, .dead, .dead, .dead, .dead, .dead, .dead, .dead, .dead, .dead, .dead, .dead, .dead, .dead, .dead, .dead, .dead, .dead, .dead, .dead, .dead, .dead, .dead, .dead, .dead, .dead, .dead, .dead, .dead, .dead, .dead, .dead, .dead, (i64 x43), (i64 (wr (x44 + (1 : Int)))), .dead, .dead, .dead, .dead, .dead, .dead, .dead, .dead, .dead, .dead, .dead, .dead, .dead, .dead, .dead, .dead, .dead, .dead, .dead, .dead, .dead, .dead, .dead, .dead, .dead, .dead, .dead, .dead, .dead, .dead, .dead, .dead, .dead, .dead, .dead, .dead, .dead, .dead, .dead, .dead, .dead, .dead, .dead, .dead, .dead, .dead, .dead, .dead, .dead, .dead], [(Prod.mk 8000 (Blk.mk BKind.arr 3 1 R0)), (Prod.mk 12816 (Blk.mk BKind.arr 3 1 (List.set R1 t.1.toNat [(i64 t.2)]))), (Prod.mk 22416 (Blk.mk BKind.arr 4 1 (List.set R2 t.2.toNat [(bo true)])))]⟩ (K15_1 k)) else none) else none) else none) else none)) else none) else (k (.exit 2) ⟨[.dead, .dead, .dead, .dead, .dead, (AVal.slc 12816 R1.length), .dead, .dead, .dead, .dead, .dead, .dead, .dead, .dead, .dead, .dead, .dead, .dead, .dead, .dead, .dead, .dead, .dead, .dead, .dead, .dead, .dead, .dead, .dead, .dead, .dead, .dead, .dead, .dead, .dead, .dead, .dead, .dead, .dead, .dead, .dead, .dead, .dead, .dead, .dead, .dead, .dead, .dead, .dead, .dead, .dead, .dead, .dead, .dead, .dead, .dead, .dead, .dead, .dead, .dead, .dead, .dead, .dead, .dead, .dead, .dead, .dead, .dead, .dead, .dead, .dead, .dead, .dead, .dead, .dead, .dead, .dead, .dead, .dead, .dead, .dead, .dead, .dead, .dead, .dead, .dead, .dead, .dead, .dead, .dead, .dead, .dead, .dead, .dead, .dead], [(Prod.mk 8000 (Blk.mk BKind.arr 3 1 R0)), (Prod.mk 12816 (Blk.mk BKind.arr 3 1 R1)), (Prod.mk 22416 (Blk.mk BKind.arr 4 1 R2))]⟩))) (by kernel_rfl)
      (n_condH rfl (fun h0 => (n_true (n_andL (n_andL (n_andL rfl (by first | exact verEq_of rfl | simp [verEq])) (n_andL (n_andL rfl (by first | exact verEq_of rfl | simp [verEq])) rfl)) rfl) (n_bind fun t => (n_condH (n_and (n_andL (verEq_rfl _) rfl) rfl) (fun h1 => (n_true (n_andL (n_andL (n_andL (verEq_rfl _) rfl) rfl) rfl) (n_condH (n_and (n_andL (verEq_rfl _) rfl) rfl) (fun h2 => (n_true (n_andL (n_andL (n_andL (verEq_rfl _) rfl) rfl) rfl) ((congrArg (fun z => loopN B15_1 m z (K15_1 k)) (by simp [E15_1] : _ = E15_1 R0 (List.set R1 t.1.toNat [(i64 t.2)]) (List.set R2 t.2.toNat [(bo true)]) units slots x43 (wr (x44 + (1 : Int))))).trans (spec15_1 k m R0 (List.set R1 t.1.toNat [(i64 t.2)]) (List.set R2 t.2.toNat [(bo true)]) units slots x43 (wr (x44 + (1 : Int))))))) fun h2 => n_none))) fun h1 => n_none)))) fun h0 => rfl)
theorem okL15_1 : LoopOk TT TU noG C37 ownF L15 (lp Try.f15 1) :=
  loopOk_of ks15_1 hs15_1 W15_1 FU (fun s k => (G_formation_Assign_1 (roRows (cIa s.tmps 0)) (roRows (cIa s.tmps 1)) (toI (cIa s.tmps 43)) FU (blkAt s.heap 1).2.rows (blkAt s.heap 2).2.rows (toI (cIa s.tmps 44))).bind (X15_1 (blkAt s.heap 0).2.rows k)) (fun s k => by kernel_rfl) (fun s k => spec15_1 k FU (blkAt s.heap 0).2.rows (blkAt s.heap 1).2.rows (blkAt s.heap 2).2.rows (roRows (cIa s.tmps 0)) (roRows (cIa s.tmps 1)) (toI (cIa s.tmps 43)) (toI (cIa s.tmps 44)))
theorem run15 (units : List (List AVal)) (slots : List (List AVal)) : fcall TT TU noG C37 ownF true L15 Try.f15 [(.ro 2 units), (.ro 2 slots)] = (F_formation_Assign units slots).bind fun t => some (enc15 t) :=
  Eq.trans (b := (bif (decide ((Int.ofNat units.length) > (64 : Int))) then (some (CR.mk true (AVal.slc 0 0) [] [(Blk.mk BKind.arr 3 1 [])])) else (bif (decide ((Int.ofNat slots.length) > (64 : Int))) then (some (CR.mk true (AVal.slc 0 0) [] [(Blk.mk BKind.arr 3 1 [])])) else (bif ((((decide ((Int.ofNat units.length) = (Int.ofNat units.length))) && (decide ((0 : Int) ≤ (Int.ofNat units.length)))) && (decide ((Int.ofNat units.length) ≤ (9223372036854775807 : Int)))) && (decide (((8 : Int) * (Int.ofNat units.length)) ≤ (140737488355328 : Int)))) then (bif (verEq (Blk.rows (Blk.mk BKind.arr 3 1 (List.replicate (Int.ofNat units.length).toNat [(i64 (0 : Int))]))).length (List.replicate (Int.ofNat units.length).toNat [(i64 (0 : Int))]).length) then (bif (((true && (verEq (List.replicate (Int.ofNat units.length).toNat [(i64 (0 : Int))]).length (blkLen [(Prod.mk 8000 (Blk.mk BKind.arr 3 1 [])), (Prod.mk 12816 (Blk.mk BKind.arr 3 1 (List.replicate (Int.ofNat units.length).toNat [(i64 (0 : Int))])))] 1))) && true) && true) then (Option.bind (G_formation_Assign_0 (Int.ofNat (Blk.rows (Blk.mk BKind.arr 3 1 (List.replicate (Int.ofNat units.length).toNat [(i64 (0 : Int))]))).length) FU (Blk.rows (Blk.mk BKind.arr 3 1 (List.replicate (Int.ofNat units.length).toNat [(i64 (0 : Int))]))) (0 : Int)) fun t => (bif ((((decide ((Int.ofNat slots.length) = (Int.ofNat slots.length))) && (decide ((0 : Int) ≤ (Int.ofNat slots.length)))) && (decide ((Int.ofNat slots.length) ≤ (9223372036854775807 : Int)))) && (decide (((1 : Int) * (Int.ofNat slots.length)) ≤ (140737488355328 : Int)))) then (bif (((true && (verEq t.length (blkLen [(Prod.mk 8000 (Blk.mk BKind.arr 3 1 [])), (Prod.mk 12816 (Blk.mk BKind.arr 3 1 t)), (Prod.mk 22416 (Blk.mk BKind.arr 4 1 (List.replicate (Int.ofNat slots.length).toNat [(bo false)])))] 1))) && ((true && (verEq (List.replicate (Int.ofNat slots.length).toNat [(bo false)]).length (blkLen [(Prod.mk 8000 (Blk.mk BKind.arr 3 1 [])), (Prod.mk 12816 (Blk.mk BKind.arr 3 1 t)), (Prod.mk 22416 (Blk.mk BKind.arr 4 1 (List.replicate (Int.ofNat slots.length).toNat [(bo false)])))] 2))) && true)) && true) then (Option.bind (G_formation_Assign_1 units slots (minI (Int.ofNat units.length) (Int.ofNat slots.length)) FU t (Blk.rows (Blk.mk BKind.arr 4 1 (List.replicate (Int.ofNat slots.length).toNat [(bo false)]))) (0 : Int)) fun t1 => (bif (verEq t1.1.length t1.1.length) then (some (CR.mk true (AVal.slc 0 t1.1.length) [] [(Blk.mk BKind.arr 3 1 t1.1)])) else none)) else none) else none)) else none) else none) else none)))) (by kernel_rfl)
    (n_condH rfl (fun h0 => rfl) fun h0 => (n_condH rfl (fun h1 => rfl) fun h1 => (n_condH rfl (fun h2 => (n_true (by first | exact verEq_of rfl | simp [verEq]) (n_true (n_andL (n_andL (n_andL rfl (by first | exact verEq_of rfl | simp [verEq])) rfl) rfl) (n_bind fun t => (n_condH rfl (fun h3 => (n_true (n_andL (n_andL (n_andL rfl (by first | exact verEq_of rfl | simp [verEq])) (n_andL (n_andL rfl (by first | exact verEq_of rfl | simp [verEq])) rfl)) rfl) (n_bind fun t1 => (n_true (verEq_rfl _) rfl)))) fun h3 => n_none))))) fun h2 => n_none)))
theorem lib15 : Lib Try.prog noG C15 :=
  Lib.fn lib37 mixed TT_ok Try.func15 (by decide +kernel) (by kernel_rfl) true L15 (loops_of 4 (by kernel_rfl) (belowS (belowS (belowS (belowS below0 okL15_0) okL15_1) okL15_2) okL15_3)) ks15 (F := fun us => F_formation_Assign (roRows (cIa us 0)) (roRows (cIa us 1))) (fun us => rfl) (fun us => run15 (roRows (cIa us 0)) (roRows (cIa us 1))) (fun t => rfl)

/-! ### 18: skirmish/formation.Cost -/

noncomputable def W18_0 : Ex → List Bool
  | .ret => [false, false, false, false, false, false, true, true, false, false, false, false, false, false, false, false, false, false, false, false, false, false, false, false, false, false, false, false, false, false, false, false, false, false, false, false, false, false, false, false, false, false, false, false, false, false, false, false, false, false, false, false, false, false, false, false, false, false, false, false, false, false, false, false, false, false, false, false, false, false, false, false, false, false]
  | .exit n => bif Nat.beq n 0 then [false, false, false, false, false, false, false, false, false, true, false, false, false, false, false, false, false, false, false, false, false, false, false, false, false, false, false, false, false, false, false, false, false, false, false, false, false, false, false, false, false, false, false, false, false, false, false, false, false, false, false, false, false, false, false, false, false, false, false, false, false, false, false, false, false, false, false, false, false, false, false, false, false, false] else []
  | .normal => []
noncomputable def G_formation_Cost_0 (units : List (List AVal)) (slots : List (List AVal)) (x35 : List (List AVal)) (x36 : Int) : Nat → List (List AVal) → Int → Int → Option (Bool × List (List AVal) × Int × List (List AVal))
  | 0, _, _, _ => none
  | m + 1, R0, sum, x37 =>
    bif (decide (x37 < x36)) then
      bif (decide ((0 : Int) ≤ x37)) then
        Option.bind (x35[x37.toNat]?) fun r =>
        bif (chk [(LT.int IntKind.i64)] r) then
          bif ((cI r 0) == (-(1 : Int))) then
            G_formation_Cost_0 units slots x35 x36 m R0 sum (wr (x37 + (1 : Int)))
          else
          bif (decide ((cI r 0) < (0 : Int))) then
            some (true, [], 0, R0)
          else
          bif (decide ((cI r 0) ≥ (Int.ofNat slots.length))) then
            some (true, [], 0, R0)
          else
          bif ((decide ((0 : Int) ≤ (cI r 0))) && (decide ((cI r 0) < (Int.ofNat R0.length)))) then
            Option.bind (R0[(cI r 0).toNat]?) fun r1 =>
            bif (chk [LT.bool] r1) then
              bif (cB r1 0) then
                some (true, [], 0, R0)
              else
              Option.bind (units[x37.toNat]?) fun r2 =>
              bif (chk [(LT.int IntKind.i64), (LT.int IntKind.i64)] r2) then
                Option.bind (slots[(cI r 0).toNat]?) fun r3 =>
                bif (chk [(LT.int IntKind.i64), (LT.int IntKind.i64)] r3) then
                  Option.bind (F_formation_distance (cI r2 0) (cI r2 1) (cI r3 0) (cI r3 1)) fun t =>
                  G_formation_Cost_0 units slots x35 x36 m (List.set R0 (cI r 0).toNat [(bo true)]) (wr (sum + t)) (wr (x37 + (1 : Int)))
                else
                none
              else
              none
            else
            none
          else
          none
        else
        none
      else
      none
    else
    some (false, R0, sum, [])
noncomputable def E18_0 (R0 : List (List AVal)) (units : List (List AVal)) (slots : List (List AVal)) (sum : Int) (x35 : List (List AVal)) (x36 : Int) (x37 : Int) : St := ⟨[(.ro 2 units), (.ro 2 slots), .dead, .dead, .dead, .dead, .dead, .dead, (.slc 12816 (R0).length), (.sc (.int .i64 sum)), .dead, .dead, .dead, .dead, .dead, .dead, .dead, .dead, .dead, .dead, .dead, .dead, .dead, .dead, .dead, .dead, .dead, .dead, .dead, .dead, .dead, .dead, .dead, .dead, .dead, (.ro 1 x35), (.sc (.int .i64 x36)), (.sc (.int .i64 x37)), .dead, .dead, .dead, .dead, .dead, .dead, .dead, .dead, .dead, .dead, .dead, .dead, .dead, .dead, .dead, .dead, .dead, .dead, .dead, .dead, .dead, .dead, .dead, .dead, .dead, .dead, .dead, .dead, .dead, .dead, .dead, .dead, .dead, .dead, .dead, .dead], [(12816, ⟨.arr, 4, 1, R0⟩)]⟩
noncomputable def X18_0 (k : Ex → St → Option CR) (t : Bool × List (List AVal) × Int × List (List AVal)) : Option CR := bif t.1 then k .ret ⟨[.dead, .dead, .dead, .dead, .dead, .dead, (.sc (.int .i64 (0 : Int))), (.sc (.int .i64 (1 : Int))), .dead, .dead, .dead, .dead, .dead, .dead, .dead, .dead, .dead, .dead, .dead, .dead, .dead, .dead, .dead, .dead, .dead, .dead, .dead, .dead, .dead, .dead, .dead, .dead, .dead, .dead, .dead, .dead, .dead, .dead, .dead, .dead, .dead, .dead, .dead, .dead, .dead, .dead, .dead, .dead, .dead, .dead, .dead, .dead, .dead, .dead, .dead, .dead, .dead, .dead, .dead, .dead, .dead, .dead, .dead, .dead, .dead, .dead, .dead, .dead, .dead, .dead, .dead, .dead, .dead, .dead], [(12816, ⟨.arr, 4, 1, t.2.2.2⟩)]⟩ else k (.exit 0) ⟨[.dead, .dead, .dead, .dead, .dead, .dead, .dead, .dead, .dead, (.sc (.int .i64 t.2.2.1)), .dead, .dead, .dead, .dead, .dead, .dead, .dead, .dead, .dead, .dead, .dead, .dead, .dead, .dead, .dead, .dead, .dead, .dead, .dead, .dead, .dead, .dead, .dead, .dead, .dead, .dead, .dead, .dead, .dead, .dead, .dead, .dead, .dead, .dead, .dead, .dead, .dead, .dead, .dead, .dead, .dead, .dead, .dead, .dead, .dead, .dead, .dead, .dead, .dead, .dead, .dead, .dead, .dead, .dead, .dead, .dead, .dead, .dead, .dead, .dead, .dead, .dead, .dead, .dead], [(12816, ⟨.arr, 4, 1, t.2.1⟩)]⟩
noncomputable def ks18_0 : List SK := [.f (.ro 2), .f (.ro 2), .f .dead, .f .dead, .f .dead, .f .dead, .f .dead, .f .dead, .f (.slc 12816 0), .f (.int .i64), .f .dead, .f .dead, .f .dead, .f .dead, .f .dead, .f .dead, .f .dead, .f .dead, .f .dead, .f .dead, .f .dead, .f .dead, .f .dead, .f .dead, .f .dead, .f .dead, .f .dead, .f .dead, .f .dead, .f .dead, .f .dead, .f .dead, .f .dead, .f .dead, .f .dead, .f (.ro 1), .f (.int .i64), .f (.int .i64), .f .dead, .f .dead, .f .dead, .f .dead, .f .dead, .f .dead, .f .dead, .f .dead, .f .dead, .f .dead, .f .dead, .f .dead, .f .dead, .f .dead, .f .dead, .f .dead, .f .dead, .f .dead, .f .dead, .f .dead, .f .dead, .f .dead, .f .dead, .f .dead, .f .dead, .f .dead, .f .dead, .f .dead, .f .dead, .f .dead, .f .dead, .f .dead, .f .dead, .f .dead, .f .dead, .f .dead]
noncomputable def hs18_0 : List HK := [⟨12816, .arr, 4, 1, none⟩]
noncomputable def L18_0 (s : St) (k : Ex → St → Option CR) : Option CR := bif chkS ks18_0 hs18_0 s then (G_formation_Cost_0 (roRows (cIa s.tmps 0)) (roRows (cIa s.tmps 1)) (roRows (cIa s.tmps 35)) (toI (cIa s.tmps 36)) FU (blkAt s.heap 0).2.rows (toI (cIa s.tmps 9)) (toI (cIa s.tmps 37))).bind (X18_0 k) else none

noncomputable def L18 : LT' := fun i s k => bif Nat.beq i 0 then L18_0 s k else none

/-- 'skirmish/formation.Cost' -/
noncomputable def F_formation_Cost (units : List (List AVal)) (slots : List (List AVal)) (assigned : List (List AVal)) : Option (Int × Int) :=
  bif (decide ((Int.ofNat units.length) > (64 : Int))) then
    some ((0 : Int), (1 : Int))
  else
  bif (decide ((Int.ofNat slots.length) > (64 : Int))) then
    some ((0 : Int), (1 : Int))
  else
  bif (decide ((Int.ofNat assigned.length) > (64 : Int))) then
    some ((0 : Int), (1 : Int))
  else
  bif ((Int.ofNat assigned.length) != (Int.ofNat units.length)) then
    some ((0 : Int), (1 : Int))
  else
  bif ((((decide ((Int.ofNat slots.length) = (Int.ofNat slots.length))) && (decide ((0 : Int) ≤ (Int.ofNat slots.length)))) && (decide ((Int.ofNat slots.length) ≤ (9223372036854775807 : Int)))) && (decide (((1 : Int) * (Int.ofNat slots.length)) ≤ (140737488355328 : Int)))) then
    Option.bind (G_formation_Cost_0 units slots assigned (Int.ofNat assigned.length) FU (Blk.rows (Blk.mk BKind.arr 4 1 (List.replicate (Int.ofNat slots.length).toNat [(bo false)]))) (0 : Int) (0 : Int)) fun t =>
    bif t.1 then
      some ((0 : Int), (1 : Int))
    else
    some (t.2.2.1, (0 : Int))
  else
  none
noncomputable def enc18 (t : Int × Int) : CR := ⟨true, (.tup [(.sc (.int .i64 t.1)), (.sc (.int .i64 t.2))]), [], []⟩
noncomputable def ks18 : List SK := [.f (.ro 2), .f (.ro 2), .f (.ro 1)]
noncomputable def S18 (us : List AVal) : Call := bif chkA ks18 us then Call.of (F_formation_Cost (roRows (cIa us 0)) (roRows (cIa us 1)) (roRows (cIa us 2))) enc18 else Call.none
noncomputable def C18 := AI.ext 18 S18 C15

@[reducible] noncomputable def B18_0 := bodyOf TT TU noG C15 ownF L18 (lp Try.f18 0)
@[reducible] noncomputable def K18_0 (k : Ex → St → Option CR) : Ex → St → Option CR := fun e s => k e (maskS (W18_0 e) s)
theorem spec18_0 (k : Ex → St → Option CR) : ∀ (m : Nat) (R0 : List (List AVal)) (units : List (List AVal)) (slots : List (List AVal)) (sum : Int) (x35 : List (List AVal)) (x36 : Int) (x37 : Int), loopN B18_0 m (E18_0 R0 units slots sum x35 x36 x37) (K18_0 k) = (G_formation_Cost_0 units slots x35 x36 m R0 sum x37).bind (X18_0 k)
  | 0, _, _, _, _, _, _, _ => rfl
  | m + 1, R0, units, slots, sum, x35, x36, x37 =>
    Eq.trans (b := (bif (decide (x37 < x36)) then (bif (decide ((0 : Int) ≤ x37)) then (Option.bind (x35[x37.toNat]?) fun r => (bif (chk [(LT.int IntKind.i64)] r) then (bif ((cI r 0) == (-(1 : Int))) then (loopN B18_0 m ⟨[(AVal.ro 2 units), (AVal.ro 2 slots), .dead, .dead, .dead, .dead, .dead, .dead, (AVal.slc 12816 R0.length), (i64 sum), .dead, .dead, .dead, .dead, .dead, .dead, .dead, .dead, .dead, .dead, .dead, .dead, .dead, .dead, .dead, .dead, .dead, .dead, .dead, .dead, .dead, .dead, .dead, .dead, .dead, (AVal.ro 1 x35), (i64 x36), (i64 (wr (x37 + (1 : Int)))), .dead, .dead, .dead, .dead, .dead, .dead, .dead, .dead, .dead, .dead, .dead, .dead, .dead, .dead, .dead, .dead, .dead, .dead, .dead, .dead, .dead, .dead, .dead, .dead, .dead, .dead, .dead, .dead, .dead, .dead, .dead, .dead, .dead, .dead, .dead, .dead], [(Prod.mk 12816 (Blk.mk BKind.arr 4 1 R0))]⟩ (K18_0 k)) else (bif (decide ((cI r 0) < (0 : Int))) then (k .ret ⟨[.dead, .dead, .dead, .dead, .dead, .dead, (i64 (0 : Int)), (i64 (1 : Int)), .dead, .dead, .dead, .dead, .dead, .dead, .dead, .dead, .dead, .dead, .dead, .dead, .dead, .dead, .dead, .dead, .dead, .dead, .dead, .dead, .dead, .dead, .dead, .dead, .dead, .dead, .dead, .dead, .dead, .dead, .dead, .dead, .dead, .dead, .dead, .dead, .dead, .dead, .dead, .dead, .dead, .dead, .dead, .dead, .dead, .dead, .dead, .dead, .dead, .dead, .dead, .dead, .dead, .dead, .dead, .dead, .dead, .dead, .dead, .dead, .dead, .dead, .dead, .dead, .dead, .dead], [(Prod.mk 12816 (Blk.mk BKind.arr 4 1 R0))]⟩) else (bif (decide ((cI r 0) ≥ (Int.ofNat slots.length))) then (k .ret ⟨[.dead, .dead, .dead, .dead, .dead, .dead, (i64 (0 : Int)), (i64 (1 : Int)), .dead, .dead, .dead, .dead, .dead, .dead, .dead, .dead, .dead, .dead, .dead, .dead, .dead, .dead, .dead, .dead, .dead, .dead, .dead, .dead, .dead, .dead, .dead, .dead, .dead, .dead, .dead, .dead, .dead, .dead, .dead, .dead, .dead, .dead, .dead, .dead, .dead, .dead, .dead, .dead, .dead, .dead, .dead, .dead, .dead, .dead, .dead, .dead, .dead, .dead, .dead, .dead, .dead, .dead, .dead, .dead, .dead, .dead, .dead, .dead, .dead, .dead, .dead, .dead, .dead, .dead], [(Prod.mk 12816 (Blk.mk BKind.arr 4 1 R0))]⟩) else (bif (((verEq R0.length R0.length) && (decide ((0 : Int) ≤ (cI r 0)))) && (decide ((cI r 0) < (Int.ofNat R0.length)))) then (bif (verEq R0.length R0.length) then (Option.bind (R0[(cI r 0).toNat]?) fun r1 => (bif (chk [LT.bool] r1) then (bif (cB r1 0) then (k .ret ⟨[.dead, .dead, .dead, .dead, .dead, .dead, (i64 (0 : Int)), (i64 (1 : Int)), .dead, .dead, .dead, .dead, .dead, .dead, .dead, .dead, .dead, .dead, .dead, .dead, .dead, .dead, .dead, .dead, .dead, .dead, .dead, .dead, .dead, .dead, .dead, .dead, .dead, .dead, .dead, .dead, .dead, .dead, .dead, .dead, .dead, .dead, .dead, .dead, .dead, .dead, .dead, .dead, .dead, .dead, .dead, .dead, .dead, .dead, .dead, .dead, .dead, .dead, .dead, .dead, .dead, .dead, .dead, .dead, .dead, .dead, .dead, .dead, .dead, .dead, .dead, .dead, .dead, .dead], [(Prod.mk 12816 (Blk.mk BKind.arr 4 1 R0))]⟩) else (bif (((verEq R0.length R0.length) && (decide ((0 : Int) ≤ (cI r 0)))) && (decide ((cI r 0) < (Int.ofNat R0.length)))) then (bif ((((verEq R0.length R0.length) && true) && true) && true) then (bif (decide ((0 : Int) ≤ x37)) then (Option.bind (units[x37.toNat]?) fun r2 => (bif (chk [(LT.int IntKind.i64), (LT.int IntKind.i64)] r2) then (bif (decide ((0 : Int) ≤ (cI r 0))) then (Option.bind (slots[(cI r 0).toNat]?) fun r3 => (bif (chk [(LT.int IntKind.i64), (LT.int IntKind.i64)] r3) then (Option.bind (F_formation_distance (cI r2 0) (cI r2 1) (cI r3 0) (cI r3 1)) fun t => (loopN B18_0 m ⟨[(AVal.ro 2 units), (AVal.ro 2 slots), .dead, .dead, .dead, .dead, .dead, .dead, (AVal.slc 12816 R0.length), (i64 (wr (sum + t))), .dead, .dead, .dead, .dead, .dead, .dead, .dead, .dead, .dead, .dead, .dead, .dead, .dead, .dead, .dead, .dead, .dead, .dead, .dead, .dead, .dead, .dead, .dead, .dead, .dead, (AVal.ro 1 x35), (i64 x36), (i64 (wr (x37 + (1 : Int)))), .dead, .dead, .dead, .dead, .dead, .dead, .dead, .dead, .dead, .dead, .dead, .dead, .dead, .dead, .dead, .dead, .dead, .dead, .dead, .dead, .dead, .dead, .dead, .dead, .dead, .dead, .dead, .dead, .dead, .dead, .dead, .dead, .dead, .dead, .dead, .dead], [(Prod.mk 12816 (Blk.mk BKind.arr 4 1 (List.set R0 (cI r 0).toNat [(bo true)])))]⟩ (K18_0 k))) else none)) else none) else none)) else none) else none) else none)) else none)) else none) else none)))) else none)) else none) else (k (.exit 0) ⟨[.dead, .dead, .dead, .dead, .dead, .dead, .dead, .dead, .dead, (i64 sum), .dead, .dead, .dead, .dead, .dead, .dead, .dead, .dead, .dead, .dead, .dead, .dead, .dead, .dead, .dead, .dead, .dead, .dead, .dead, .dead, .dead, .dead, .dead, .dead, .dead, .dead, .dead, .dead, .dead, .dead, .dead, .dead, .dead, .dead, .dead, .dead, .dead, .dead, .dead, .dead, .dead, .dead, .dead, .dead, .dead, .dead, .dead, .dead, .dead, .dead, .dead, .dead, .dead, .dead, .dead, .dead, .dead, .dead, .dead, .dead, .dead, .dead, .dead, .dead], [(Prod.mk 12816 (Blk.mk BKind.arr 4 1 R0))]⟩))) (by kernel_rfl)
      (n_condH rfl (fun h0 => (n_condH rfl (fun h1 => (n_bind fun r => (n_condH rfl (fun h2 => (n_condH rfl (fun h3 => (spec18_0 k m R0 units slots sum x35 x36 (wr (x37 + (1 : Int))))) fun h3 => (n_condH rfl (fun h4 => rfl) fun h4 => (n_condH rfl (fun h5 => rfl) fun h5 => (n_condH (n_and (n_andL (verEq_rfl _) rfl) rfl) (fun h6 => (n_true (verEq_rfl _) (n_bind fun r1 => (n_condH rfl (fun h7 => (n_condH rfl (fun h8 => rfl) fun h8 => (n_true (n_andL (n_andL (verEq_rfl _) (n_al h6)) (n_ar h6)) (n_true (n_andL (n_andL (n_andL (verEq_rfl _) rfl) rfl) rfl) (n_true h1 (n_bind fun r2 => (n_condH rfl (fun h9 => (n_true (n_al h6) (n_bind fun r3 => (n_condH rfl (fun h10 => (n_bind fun t => ((congrArg (fun z => loopN B18_0 m z (K18_0 k)) (by simp [E18_0] : _ = E18_0 (List.set R0 (cI r 0).toNat [(bo true)]) units slots (wr (sum + t)) x35 x36 (wr (x37 + (1 : Int))))).trans (spec18_0 k m (List.set R0 (cI r 0).toNat [(bo true)]) units slots (wr (sum + t)) x35 x36 (wr (x37 + (1 : Int))))))) fun h10 => n_none)))) fun h9 => n_none))))))) fun h7 => n_none)))) fun h6 => n_none))))) fun h2 => n_none))) fun h1 => n_none)) fun h0 => rfl)
theorem okL18_0 : LoopOk TT TU noG C15 ownF L18 (lp Try.f18 0) :=
  loopOk_of ks18_0 hs18_0 W18_0 FU (fun s k => (G_formation_Cost_0 (roRows (cIa s.tmps 0)) (roRows (cIa s.tmps 1)) (roRows (cIa s.tmps 35)) (toI (cIa s.tmps 36)) FU (blkAt s.heap 0).2.rows (toI (cIa s.tmps 9)) (toI (cIa s.tmps 37))).bind (X18_0 k)) (fun s k => by kernel_rfl) (fun s k => spec18_0 k FU (blkAt s.heap 0).2.rows (roRows (cIa s.tmps 0)) (roRows (cIa s.tmps 1)) (toI (cIa s.tmps 9)) (roRows (cIa s.tmps 35)) (toI (cIa s.tmps 36)) (toI (cIa s.tmps 37)))
theorem run18 (units : List (List AVal)) (slots : List (List AVal)) (assigned : List (List AVal)) : fcall TT TU noG C15 ownF true L18 Try.f18 [(.ro 2 units), (.ro 2 slots), (.ro 1 assigned)] = (F_formation_Cost units slots assigned).bind fun t => some (enc18 t) :=
  Eq.trans (b := (bif (decide ((Int.ofNat units.length) > (64 : Int))) then (some (CR.mk true (AVal.tup [(i64 (0 : Int)), (i64 (1 : Int))]) [] [])) else (bif (decide ((Int.ofNat slots.length) > (64 : Int))) then (some (CR.mk true (AVal.tup [(i64 (0 : Int)), (i64 (1 : Int))]) [] [])) else (bif (decide ((Int.ofNat assigned.length) > (64 : Int))) then (some (CR.mk true (AVal.tup [(i64 (0 : Int)), (i64 (1 : Int))]) [] [])) else (bif ((Int.ofNat assigned.length) != (Int.ofNat units.length)) then (some (CR.mk true (AVal.tup [(i64 (0 : Int)), (i64 (1 : Int))]) [] [])) else (bif ((((decide ((Int.ofNat slots.length) = (Int.ofNat slots.length))) && (decide ((0 : Int) ≤ (Int.ofNat slots.length)))) && (decide ((Int.ofNat slots.length) ≤ (9223372036854775807 : Int)))) && (decide (((1 : Int) * (Int.ofNat slots.length)) ≤ (140737488355328 : Int)))) then (bif (((true && (verEq (List.replicate (Int.ofNat slots.length).toNat [(bo false)]).length (blkLen [(Prod.mk 12816 (Blk.mk BKind.arr 4 1 (List.replicate (Int.ofNat slots.length).toNat [(bo false)])))] 0))) && true) && true) then (Option.bind (G_formation_Cost_0 units slots assigned (Int.ofNat assigned.length) FU (Blk.rows (Blk.mk BKind.arr 4 1 (List.replicate (Int.ofNat slots.length).toNat [(bo false)]))) (0 : Int) (0 : Int)) fun t => (bif t.1 then (some (CR.mk true (AVal.tup [(i64 (0 : Int)), (i64 (1 : Int))]) [] [])) else (some (CR.mk true (AVal.tup [(i64 t.2.2.1), (i64 (0 : Int))]) [] [])))) else none) else none)))))) (by kernel_rfl)
    (n_condH rfl (fun h0 => rfl) fun h0 => (n_condH rfl (fun h1 => rfl) fun h1 => (n_condH rfl (fun h2 => rfl) fun h2 => (n_condH rfl (fun h3 => rfl) fun h3 => (n_condH rfl (fun h4 => (n_true (n_andL (n_andL (n_andL rfl (by first | exact verEq_of rfl | simp [verEq])) rfl) rfl) (n_bind fun t => (n_condH rfl (fun h5 => rfl) fun h5 => rfl)))) fun h4 => n_none)))))
theorem lib18 : Lib Try.prog noG C18 :=
  Lib.fn lib15 mixed TT_ok Try.func18 (by decide +kernel) (by kernel_rfl) true L18 (loops_of 1 (by kernel_rfl) (belowS below0 okL18_0)) ks18 (F := fun us => F_formation_Cost (roRows (cIa us 0)) (roRows (cIa us 1)) (roRows (cIa us 2))) (fun us => rfl) (fun us => run18 (roRows (cIa us 0)) (roRows (cIa us 1)) (roRows (cIa us 2))) (fun t => rfl)

/-! ### 12: skirmish/skirmishlaw18.awake -/



/-- 'skirmish/skirmishlaw18.awake' -/
noncomputable def F_skirmishlaw18_awake : Option (Bool) :=
  Option.bind (F_formation_Slots (1 : Int) (3 : Int) (100 : Int) (1000 : Int) (1000 : Int) (0 : Int) (0 : Int)) fun t =>
  Option.bind (F_formation_Slots (2 : Int) (3 : Int) (100 : Int) (0 : Int) (0 : Int) (256 : Int) (0 : Int)) fun t1 =>
  Option.bind (F_formation_Assign [[(i64 (0 : Int)), (i64 (0 : Int))], [(i64 (10 : Int)), (i64 (0 : Int))]] [[(i64 (9 : Int)), (i64 (0 : Int))], [(i64 (100 : Int)), (i64 (0 : Int))]]) fun t2 =>
  Option.bind (F_formation_Cost [[(i64 (0 : Int)), (i64 (0 : Int))], [(i64 (10 : Int)), (i64 (0 : Int))]] [[(i64 (9 : Int)), (i64 (0 : Int))], [(i64 (100 : Int)), (i64 (0 : Int))]] t2) fun t3 =>
  bif ((Int.ofNat t2.length) != (2 : Int)) then
    some false
  else
  Option.bind (F_skirmishref18_Same t [[(i64 (900 : Int)), (i64 (1000 : Int))], [(i64 (1000 : Int)), (i64 (1000 : Int))], [(i64 (1100 : Int)), (i64 (1000 : Int))]]) fun t4 =>
  bif t4 then
    Option.bind (F_skirmishref18_Same t1 [[(i64 (0 : Int)), (i64 (-(50 : Int)))], [(i64 (0 : Int)), (i64 (50 : Int))], [(i64 (-(100 : Int))), (i64 (0 : Int))]]) fun t5 =>
    bif t5 then
      bif (decide ((0 : Int) < (Int.ofNat t2.length))) then
        Option.bind (t2[(0 : Int).toNat]?) fun r =>
        bif (chk [(LT.int IntKind.i64)] r) then
          bif ((cI r 0) == (1 : Int)) then
            bif (decide ((1 : Int) < (Int.ofNat t2.length))) then
              Option.bind (t2[(1 : Int).toNat]?) fun r1 =>
              bif (chk [(LT.int IntKind.i64)] r1) then
                bif ((cI r1 0) == (0 : Int)) then
                  bif (t3.1 == (10001 : Int)) then
                    bif (t3.2 == (0 : Int)) then
                      Option.bind (F_formation_Slots (5 : Int) (3 : Int) (100 : Int) (0 : Int) (0 : Int) (0 : Int) (0 : Int)) fun t6 =>
                      some ((Int.ofNat t6.length) == (0 : Int))
                    else
                    some false
                  else
                  some false
                else
                some false
              else
              none
            else
            none
          else
          some false
        else
        none
      else
      none
    else
    some false
  else
  some false
noncomputable def enc12 (t : Bool) : CR := ⟨true, (.sc (.bool t)), [], []⟩
noncomputable def ks12 : List SK := []
noncomputable def S12 (us : List AVal) : Call := bif chkA ks12 us then Call.of (F_skirmishlaw18_awake) enc12 else Call.none
noncomputable def C12 := AI.ext 12 S12 C18

theorem run12 : fcall TT TU noG C18 ownF true noL Try.f12 [] = (F_skirmishlaw18_awake).bind fun t => some (enc12 t) :=
  Eq.trans (b := (Option.bind (F_formation_Slots (1 : Int) (3 : Int) (100 : Int) (1000 : Int) (1000 : Int) (0 : Int) (0 : Int)) fun t => (bif ((((true && (verEq t.length t.length)) && true) && true) && true) then (Option.bind (F_formation_Slots (2 : Int) (3 : Int) (100 : Int) (0 : Int) (0 : Int) (256 : Int) (0 : Int)) fun t1 => (bif ((((true && (verEq t1.length t1.length)) && true) && true) && true) then (Option.bind (F_formation_Assign [[(i64 (0 : Int)), (i64 (0 : Int))], [(i64 (10 : Int)), (i64 (0 : Int))]] [[(i64 (9 : Int)), (i64 (0 : Int))], [(i64 (100 : Int)), (i64 (0 : Int))]]) fun t2 => (bif ((((true && (verEq t2.length t2.length)) && true) && true) && true) then (bif (verEq t2.length t2.length) then (Option.bind (F_formation_Cost [[(i64 (0 : Int)), (i64 (0 : Int))], [(i64 (10 : Int)), (i64 (0 : Int))]] [[(i64 (9 : Int)), (i64 (0 : Int))], [(i64 (100 : Int)), (i64 (0 : Int))]] t2) fun t3 => (bif (verEq t2.length t2.length) then (bif ((Int.ofNat t2.length) != (2 : Int)) then (some (CR.mk true (bo false) [] [])) else (bif (verEq t.length t.length) then (Option.bind (F_skirmishref18_Same t [[(i64 (900 : Int)), (i64 (1000 : Int))], [(i64 (1000 : Int)), (i64 (1000 : Int))], [(i64 (1100 : Int)), (i64 (1000 : Int))]]) fun t4 => (bif t4 then (bif (verEq t1.length t1.length) then (Option.bind (F_skirmishref18_Same t1 [[(i64 (0 : Int)), (i64 (-(50 : Int)))], [(i64 (0 : Int)), (i64 (50 : Int))], [(i64 (-(100 : Int))), (i64 (0 : Int))]]) fun t5 => (bif t5 then (bif (((verEq t2.length t2.length) && (decide ((0 : Int) ≤ (0 : Int)))) && (decide ((0 : Int) < (Int.ofNat t2.length)))) then (bif (verEq t2.length t2.length) then (Option.bind (t2[(0 : Int).toNat]?) fun r => (bif (chk [(LT.int IntKind.i64)] r) then (bif ((cI r 0) == (1 : Int)) then (bif (((verEq t2.length t2.length) && (decide ((0 : Int) ≤ (1 : Int)))) && (decide ((1 : Int) < (Int.ofNat t2.length)))) then (bif (verEq t2.length t2.length) then (Option.bind (t2[(1 : Int).toNat]?) fun r1 => (bif (chk [(LT.int IntKind.i64)] r1) then (bif ((cI r1 0) == (0 : Int)) then (bif (t3.1 == (10001 : Int)) then (bif (t3.2 == (0 : Int)) then (Option.bind (F_formation_Slots (5 : Int) (3 : Int) (100 : Int) (0 : Int) (0 : Int) (0 : Int) (0 : Int)) fun t6 => (bif ((((true && (verEq t6.length t6.length)) && true) && true) && true) then (bif (verEq t6.length t6.length) then (some (CR.mk true (bo ((Int.ofNat t6.length) == (0 : Int))) [] [])) else none) else none)) else (some (CR.mk true (bo false) [] []))) else (some (CR.mk true (bo false) [] []))) else (some (CR.mk true (bo false) [] []))) else none)) else none) else none) else (some (CR.mk true (bo false) [] []))) else none)) else none) else none) else (some (CR.mk true (bo false) [] [])))) else none) else (some (CR.mk true (bo false) [] [])))) else none)) else none)) else none) else none)) else none)) else none))) (by kernel_rfl)
    (n_bind fun t => (n_true (n_andL (n_andL (n_andL (n_andL rfl (verEq_rfl _)) rfl) rfl) rfl) (n_bind fun t1 => (n_true (n_andL (n_andL (n_andL (n_andL rfl (verEq_rfl _)) rfl) rfl) rfl) (n_bind fun t2 => (n_true (n_andL (n_andL (n_andL (n_andL rfl (verEq_rfl _)) rfl) rfl) rfl) (n_true (verEq_rfl _) (n_bind fun t3 => (n_true (verEq_rfl _) (n_condH rfl (fun h0 => rfl) fun h0 => (n_true (verEq_rfl _) (n_bind fun t4 => (n_condH rfl (fun h1 => (n_true (verEq_rfl _) (n_bind fun t5 => (n_condH rfl (fun h2 => (n_condH (n_andL (n_andL (verEq_rfl _) (by kernel_rfl)) rfl) (fun h3 => (n_true (verEq_rfl _) (n_bind fun r => (n_condH rfl (fun h4 => (n_condH rfl (fun h5 => (n_condH (n_andL (n_andL (verEq_rfl _) (by kernel_rfl)) rfl) (fun h6 => (n_true (verEq_rfl _) (n_bind fun r1 => (n_condH rfl (fun h7 => (n_condH rfl (fun h8 => (n_condH rfl (fun h9 => (n_condH rfl (fun h10 => (n_bind fun t6 => (n_true (n_andL (n_andL (n_andL (n_andL rfl (verEq_rfl _)) rfl) rfl) rfl) (n_true (verEq_rfl _) rfl)))) fun h10 => rfl)) fun h9 => rfl)) fun h8 => rfl)) fun h7 => n_none)))) fun h6 => n_none)) fun h5 => rfl)) fun h4 => n_none)))) fun h3 => n_none)) fun h2 => rfl)))) fun h1 => rfl)))))))))))))
theorem lib12 : Lib Try.prog noG C12 :=
  Lib.fn lib18 mixed TT_ok Try.func12 (by decide +kernel) (by kernel_rfl) true noL (loops_of 0 (by kernel_rfl) below0) ks12 (F := fun us => F_skirmishlaw18_awake) (fun us => rfl) (fun us => run12) (fun t => rfl)

/-! ### 3: skirmish/skirmishlaw18.FormationSlots -/



/-- 'skirmish/skirmishlaw18.FormationSlots' -/
noncomputable def F_skirmishlaw18_FormationSlots (x_Kind : Int) (x_N : Int) (x_Spacing : Int) (x_At_X : Int) (x_At_Y : Int) (x_Facing_X : Int) (x_Facing_Y : Int) : Option (Bool) :=
  Option.bind (F_formation_Slots x_Kind x_N x_Spacing x_At_X x_At_Y x_Facing_X x_Facing_Y) fun t =>
  Option.bind (F_skirmishref18_Slots x_Kind x_N x_Spacing x_At_X x_At_Y x_Facing_X x_Facing_Y) fun t1 =>
  Option.bind (F_skirmishref18_Same t t1) fun t2 =>
  bif t2 then
    Option.bind F_skirmishlaw18_awake fun t3 =>
    some t3
  else
  some false
noncomputable def enc3 (t : Bool) : CR := ⟨true, (.sc (.bool t)), [], []⟩
noncomputable def ks3 : List SK := [.agg [.int .i64, .int .i64, .int .i64, .int .i64, .int .i64, .int .i64, .int .i64]]
noncomputable def S3 (us : List AVal) : Call := bif chkA ks3 us then Call.of (F_skirmishlaw18_FormationSlots (toI (cIa (aggL (cIa us 0)) 0)) (toI (cIa (aggL (cIa us 0)) 1)) (toI (cIa (aggL (cIa us 0)) 2)) (toI (cIa (aggL (cIa us 0)) 3)) (toI (cIa (aggL (cIa us 0)) 4)) (toI (cIa (aggL (cIa us 0)) 5)) (toI (cIa (aggL (cIa us 0)) 6))) enc3 else Call.none
noncomputable def C3 := AI.ext 3 S3 C12

theorem run3 (x_Kind : Int) (x_N : Int) (x_Spacing : Int) (x_At_X : Int) (x_At_Y : Int) (x_Facing_X : Int) (x_Facing_Y : Int) : fcall TT TU noG C12 ownF true noL Try.f3 [(.agg [(.sc (.int .i64 x_Kind)), (.sc (.int .i64 x_N)), (.sc (.int .i64 x_Spacing)), (.sc (.int .i64 x_At_X)), (.sc (.int .i64 x_At_Y)), (.sc (.int .i64 x_Facing_X)), (.sc (.int .i64 x_Facing_Y))])] = (F_skirmishlaw18_FormationSlots x_Kind x_N x_Spacing x_At_X x_At_Y x_Facing_X x_Facing_Y).bind fun t => some (enc3 t) :=
  Eq.trans (b := (Option.bind (F_formation_Slots x_Kind x_N x_Spacing x_At_X x_At_Y x_Facing_X x_Facing_Y) fun t => (bif ((((true && (verEq t.length t.length)) && true) && true) && true) then (Option.bind (F_skirmishref18_Slots x_Kind x_N x_Spacing x_At_X x_At_Y x_Facing_X x_Facing_Y) fun t1 => (bif ((((true && (verEq t1.length t1.length)) && true) && true) && true) then (bif (verEq t.length t.length) then (bif (verEq t1.length t1.length) then (Option.bind (F_skirmishref18_Same t t1) fun t2 => (bif t2 then (Option.bind F_skirmishlaw18_awake fun t3 => (some (CR.mk true (bo t3) [] []))) else (some (CR.mk true (bo false) [] [])))) else none) else none) else none)) else none))) (by kernel_rfl)
    (n_bind fun t => (n_true (n_andL (n_andL (n_andL (n_andL rfl (verEq_rfl _)) rfl) rfl) rfl) (n_bind fun t1 => (n_true (n_andL (n_andL (n_andL (n_andL rfl (verEq_rfl _)) rfl) rfl) rfl) (n_true (verEq_rfl _) (n_true (verEq_rfl _) (n_bind fun t2 => (n_condH rfl (fun h0 => (n_bind fun t3 => rfl)) fun h0 => rfl))))))))
theorem lib3 : Lib Try.prog noG C3 :=
  Lib.fn lib12 mixed TT_ok Try.func3 (by decide +kernel) (by kernel_rfl) true noL (loops_of 0 (by kernel_rfl) below0) ks3 (F := fun us => F_skirmishlaw18_FormationSlots (toI (cIa (aggL (cIa us 0)) 0)) (toI (cIa (aggL (cIa us 0)) 1)) (toI (cIa (aggL (cIa us 0)) 2)) (toI (cIa (aggL (cIa us 0)) 3)) (toI (cIa (aggL (cIa us 0)) 4)) (toI (cIa (aggL (cIa us 0)) 5)) (toI (cIa (aggL (cIa us 0)) 6))) (fun us => rfl) (fun us => run3 (toI (cIa (aggL (cIa us 0)) 0)) (toI (cIa (aggL (cIa us 0)) 1)) (toI (cIa (aggL (cIa us 0)) 2)) (toI (cIa (aggL (cIa us 0)) 3)) (toI (cIa (aggL (cIa us 0)) 4)) (toI (cIa (aggL (cIa us 0)) 5)) (toI (cIa (aggL (cIa us 0)) 6))) (fun t => rfl)

/-! ### 13: skirmish/skirmishlaw18.few -/



/-- 'skirmish/skirmishlaw18.few' -/
noncomputable def F_skirmishlaw18_few (l : List (List AVal)) : Option (Bool) :=
  some (decide ((Int.ofNat l.length) ≤ (80 : Int)))
noncomputable def enc13 (t : Bool) : CR := ⟨true, (.sc (.bool t)), [], []⟩
noncomputable def ks13 : List SK := [.f (.ro 2)]
noncomputable def S13 (us : List AVal) : Call := bif chkA ks13 us then Call.of (F_skirmishlaw18_few (roRows (cIa us 0))) enc13 else Call.none
noncomputable def C13 := AI.ext 13 S13 C3

theorem run13 (l : List (List AVal)) : fcall TT TU noG C3 ownF true noL Try.f13 [(.ro 2 l)] = (F_skirmishlaw18_few l).bind fun t => some (enc13 t) :=
  Eq.trans (b := (some (CR.mk true (bo (decide ((Int.ofNat l.length) ≤ (80 : Int)))) [] []))) (by kernel_rfl)
    rfl
theorem lib13 : Lib Try.prog noG C13 :=
  Lib.fn lib3 mixed TT_ok Try.func13 (by decide +kernel) (by kernel_rfl) true noL (loops_of 0 (by kernel_rfl) below0) ks13 (F := fun us => F_skirmishlaw18_few (roRows (cIa us 0))) (fun us => rfl) (fun us => run13 (roRows (cIa us 0))) (fun t => rfl)

/-! ### 38: skirmish/skirmishref02.Sub -/



/-- 'skirmish/skirmishref02.Sub' -/
noncomputable def F_skirmishref02_Sub (a_X : Int) (a_Y : Int) (b_X : Int) (b_Y : Int) : Option (Int × Int) :=
  Option.bind (F_skirmishref02_NearVec a_X a_Y) fun t =>
  Option.bind (F_skirmishref02_NearVec b_X b_Y) fun t1 =>
  Option.bind (F_skirmishref02_NearVec (wr (t.1 - t1.1)) (wr (t.2 - t1.2))) fun t2 =>
  some (t2.1, t2.2)
noncomputable def enc38 (t : Int × Int) : CR := ⟨true, (.agg [(.sc (.int .i64 t.1)), (.sc (.int .i64 t.2))]), [], []⟩
noncomputable def ks38 : List SK := [.agg [.int .i64, .int .i64], .agg [.int .i64, .int .i64]]
noncomputable def S38 (us : List AVal) : Call := bif chkA ks38 us then Call.of (F_skirmishref02_Sub (toI (cIa (aggL (cIa us 0)) 0)) (toI (cIa (aggL (cIa us 0)) 1)) (toI (cIa (aggL (cIa us 1)) 0)) (toI (cIa (aggL (cIa us 1)) 1))) enc38 else Call.none
noncomputable def C38 := AI.ext 38 S38 C13

theorem run38 (a_X : Int) (a_Y : Int) (b_X : Int) (b_Y : Int) : fcall TT TU noG C13 ownF true noL Try.f38 [(.agg [(.sc (.int .i64 a_X)), (.sc (.int .i64 a_Y))]), (.agg [(.sc (.int .i64 b_X)), (.sc (.int .i64 b_Y))])] = (F_skirmishref02_Sub a_X a_Y b_X b_Y).bind fun t => some (enc38 t) :=
  Eq.trans (b := (Option.bind (F_skirmishref02_NearVec a_X a_Y) fun t => (Option.bind (F_skirmishref02_NearVec b_X b_Y) fun t1 => (Option.bind (F_skirmishref02_NearVec (wr (t.1 - t1.1)) (wr (t.2 - t1.2))) fun t2 => (some (CR.mk true (AVal.agg [(i64 t2.1), (i64 t2.2)]) [] [])))))) (by kernel_rfl)
    (n_bind fun t => (n_bind fun t1 => (n_bind fun t2 => rfl)))
theorem lib38 : Lib Try.prog noG C38 :=
  Lib.fn lib13 mixed TT_ok Try.func38 (by decide +kernel) (by kernel_rfl) true noL (loops_of 0 (by kernel_rfl) below0) ks38 (F := fun us => F_skirmishref02_Sub (toI (cIa (aggL (cIa us 0)) 0)) (toI (cIa (aggL (cIa us 0)) 1)) (toI (cIa (aggL (cIa us 1)) 0)) (toI (cIa (aggL (cIa us 1)) 1))) (fun us => rfl) (fun us => run38 (toI (cIa (aggL (cIa us 0)) 0)) (toI (cIa (aggL (cIa us 0)) 1)) (toI (cIa (aggL (cIa us 1)) 0)) (toI (cIa (aggL (cIa us 1)) 1))) (fun t => rfl)

/-! ### 17: skirmish/skirmishref18.Distance -/



/-- 'skirmish/skirmishref18.Distance' -/
noncomputable def F_skirmishref18_Distance (a_X : Int) (a_Y : Int) (b_X : Int) (b_Y : Int) : Option (Int) :=
  Option.bind (F_skirmishref02_Sub a_X a_Y b_X b_Y) fun t =>
  Option.bind (F_skirmishref02_Len2 t.1 t.2) fun t1 =>
  some t1
noncomputable def enc17 (t : Int) : CR := ⟨true, (.sc (.int .i64 t)), [], []⟩
noncomputable def ks17 : List SK := [.agg [.int .i64, .int .i64], .agg [.int .i64, .int .i64]]
noncomputable def S17 (us : List AVal) : Call := bif chkA ks17 us then Call.of (F_skirmishref18_Distance (toI (cIa (aggL (cIa us 0)) 0)) (toI (cIa (aggL (cIa us 0)) 1)) (toI (cIa (aggL (cIa us 1)) 0)) (toI (cIa (aggL (cIa us 1)) 1))) enc17 else Call.none
noncomputable def C17 := AI.ext 17 S17 C38

theorem run17 (a_X : Int) (a_Y : Int) (b_X : Int) (b_Y : Int) : fcall TT TU noG C38 ownF true noL Try.f17 [(.agg [(.sc (.int .i64 a_X)), (.sc (.int .i64 a_Y))]), (.agg [(.sc (.int .i64 b_X)), (.sc (.int .i64 b_Y))])] = (F_skirmishref18_Distance a_X a_Y b_X b_Y).bind fun t => some (enc17 t) :=
  Eq.trans (b := (Option.bind (F_skirmishref02_Sub a_X a_Y b_X b_Y) fun t => (Option.bind (F_skirmishref02_Len2 t.1 t.2) fun t1 => (some (CR.mk true (i64 t1) [] []))))) (by kernel_rfl)
    (n_bind fun t => (n_bind fun t1 => rfl))
theorem lib17 : Lib Try.prog noG C17 :=
  Lib.fn lib38 mixed TT_ok Try.func17 (by decide +kernel) (by kernel_rfl) true noL (loops_of 0 (by kernel_rfl) below0) ks17 (F := fun us => F_skirmishref18_Distance (toI (cIa (aggL (cIa us 0)) 0)) (toI (cIa (aggL (cIa us 0)) 1)) (toI (cIa (aggL (cIa us 1)) 0)) (toI (cIa (aggL (cIa us 1)) 1))) (fun us => rfl) (fun us => run17 (toI (cIa (aggL (cIa us 0)) 0)) (toI (cIa (aggL (cIa us 0)) 1)) (toI (cIa (aggL (cIa us 1)) 0)) (toI (cIa (aggL (cIa us 1)) 1))) (fun t => rfl)

end Go.Proofs.Ytjgaaicflenbbaa.AI
