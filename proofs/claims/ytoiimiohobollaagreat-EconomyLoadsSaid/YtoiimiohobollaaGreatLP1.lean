/- What the functions that the law reaches answer: printed out of the interpreter's run, shortened by a program; each print is checked by Lean. -/
import Derived.Test.YtoiimiohobollaaGreatLT
namespace Go.Proofs.YtoiimiohobollaaGreat.AI
open Go.RowKit
set_option linter.unusedVariables false
set_option linter.unusedSimpArgs false
set_option maxRecDepth 100000
abbrev LL := List (List AVal)
@[reducible] def d4 (l : List AVal) : List AVal := (.dead) :: (.dead) :: (.dead) :: (.dead) :: l
@[reducible] def d16 (l : List AVal) : List AVal := d4 (d4 (d4 (d4 l)))
@[reducible] def d64 (l : List AVal) : List AVal := d16 (d16 (d16 (d16 l)))
@[reducible] def e4 (l : List Bool) : List Bool := (false) :: (false) :: (false) :: (false) :: l
@[reducible] def e16 (l : List Bool) : List Bool := e4 (e4 (e4 (e4 l)))
@[reducible] def e64 (l : List Bool) : List Bool := e16 (e16 (e16 (e16 l)))
@[reducible] def f4 (l : List SK) : List SK := (.f .dead) :: (.f .dead) :: (.f .dead) :: (.f .dead) :: l
@[reducible] def f16 (l : List SK) : List SK := f4 (f4 (f4 (f4 l)))
@[reducible] def f64 (l : List SK) : List SK := f16 (f16 (f16 (f16 l)))
@[reducible] def sI (s : St) (n : Nat) : Int := toI (cIa s.tmps n)
@[reducible] def aI (us : List AVal) (i j : Nat) : Int := toI (cIa (aggL (cIa us i)) j)
@[reducible] def aIh (s : St) (i j : Nat) : Int := toI (cIa (rows0 (blkAt s.heap i).2) j)
@[reducible] def sR (s : St) (n : Nat) : LL := roRows (cIa s.tmps n)
@[reducible] def aR (us : List AVal) (i j : Nat) : LL := roRows (cIa (aggL (cIa us i)) j)
@[reducible] def aRh (s : St) (i j : Nat) : LL := roRows (cIa (rows0 (blkAt s.heap i).2) j)
@[reducible] def sB (s : St) (n : Nat) : Bool := toB (cIa s.tmps n)
@[reducible] def aB (us : List AVal) (i j : Nat) : Bool := toB (cIa (aggL (cIa us i)) j)
@[reducible] def aBh (s : St) (i j : Nat) : Bool := toB (cIa (rows0 (blkAt s.heap i).2) j)
@[reducible] def sS (s : St) (n : Nat) : ByteArray := toS (cIa s.tmps n)
@[reducible] def aS (us : List AVal) (i j : Nat) : ByteArray := toS (cIa (aggL (cIa us i)) j)
@[reducible] def aSh (s : St) (i j : Nat) : ByteArray := toS (cIa (rows0 (blkAt s.heap i).2) j)
section
variable {T U : Type} {f : T → Option CR} {c c' : Bool} {A B Y : Option CR} {A' B' : Option T}
theorem nd (hc : c = c') (h1 : A = A'.bind f) (h2 : B = B'.bind f) : (bif c then A else B) = (bif c' then A' else B').bind f := n_cond hc h1 h2
theorem nc (hc : c = c') (h1 : c' = true → A = A'.bind f) (h2 : c' = false → B = B'.bind f) : (bif c then A else B) = (bif c' then A' else B').bind f := n_condH hc h1 h2
theorem nb {x : Option U} {K : U → Option CR} {K' : U → Option T} (h : ∀ u, K u = (K' u).bind f) : x.bind K = (x.bind K').bind f := n_bind h
theorem nu (hc : c = true) (h : A = Y) : (bif c then A else none) = Y := n_true hc h
end
theorem vr (l : LL) : verEq l.length l.length = true := verEq_rfl _
theorem n_tru {c : Bool} {A Y : Option CR} (hc : c = true) (h : A = Y) : (bif c then A else none) = Y := n_true hc h
abbrev y0 : List LT := [LT.str, LT.bool, LT.bool, (LT.int IntKind.i64), (LT.int IntKind.i64), (LT.int IntKind.i64), (LT.int IntKind.i64), (LT.int IntKind.i64), (LT.int IntKind.i64), (LT.int IntKind.i64), (LT.int IntKind.i64), (LT.int IntKind.i64), LT.str, (LT.int IntKind.i64), (LT.int IntKind.i64), (LT.int IntKind.i64), (LT.sl 9 1), (LT.sl 9 1), (LT.sl 9 1)]
abbrev y1 : List LT := [LT.str, (LT.int IntKind.i64), (LT.int IntKind.i64), (LT.int IntKind.i64), (LT.int IntKind.i64), (LT.int IntKind.i64)]
abbrev y2 : List LT := [LT.str, (LT.sl 9 1), (LT.int IntKind.i64), (LT.int IntKind.i64), (LT.int IntKind.i64), LT.str, (LT.int IntKind.i64), (LT.int IntKind.i64)]
abbrev y3 : List LT := [(LT.int IntKind.i64), (LT.int IntKind.i64), (LT.int IntKind.i64)]
abbrev y4 : List LT := [(LT.int IntKind.i64), (LT.int IntKind.i64), (LT.int IntKind.i64), (LT.int IntKind.i64), LT.str]
abbrev y5 : List LT := [(LT.int IntKind.i64), (LT.int IntKind.i64), LT.str]
abbrev y6 : List LT := [(LT.int IntKind.i64), (LT.int IntKind.i64), LT.str, (LT.int IntKind.i64), (LT.int IntKind.i64), (LT.int IntKind.i64), (LT.int IntKind.i64), (LT.int IntKind.i64), (LT.int IntKind.i64), (LT.int IntKind.i64), (LT.sl 104 5), (LT.sl 163 3)]
abbrev y7 : List LT := [(LT.int IntKind.i64), (LT.int IntKind.i64), (LT.int IntKind.i64), (LT.int IntKind.i64), (LT.sl 9 1), LT.bool]
abbrev y8 : List LT := [(LT.int IntKind.i64), (LT.int IntKind.i64), (LT.int IntKind.i64), (LT.int IntKind.i64), (LT.int IntKind.i64), (LT.int IntKind.i64), (LT.int IntKind.i64)]
abbrev y9 : List LT := [(LT.int IntKind.i64), (LT.int IntKind.i64)]
noncomputable def W44_0 : Ex → List Bool
 | .ret => (false :: false :: true :: (e16 [false, false, false]))
 | .exit n => bif Nat.beq n 0 then (false :: false :: false :: true :: (e16 [false, false])) else []
 | .normal => []
noncomputable def G_skirmishlaw10_names_0 (l : LL) : Nat → Int → Int → Option (Int)
 | 0, _, _ => none
 | m + 1, n, i => bif (decide (i < (Int.ofNat l.length))) then bif (decide ((0 : Int) ≤ i)) then Option.bind (l[i.toNat]?) fun r => bif (chk [LT.str] r) then
 G_skirmishlaw10_names_0 l m (wr (n + (minI (Int.ofNat (ByteArray.size (cS r 0))) (100000 : Int)))) (wr (i + (1 : Int))) else none else none else some n
noncomputable def E44_0 (l : LL) (n i : Int) : St := ⟨((.ro 1 l) :: .dead :: .dead :: (i64 n) :: (i64 i) :: (d16 [.dead])), []⟩
noncomputable def X44_0 (k : Ex → St → Option CR) (t : Int) : Option CR := k (.exit 0) ⟨(.dead :: .dead :: .dead :: (i64 t) :: (d16 [.dead, .dead])), []⟩
noncomputable def ks44_0 : List SK := (.f (.ro 1) :: .f .dead :: .f .dead :: .f (.int .i64) :: .f (.int .i64) :: (f16 [.f .dead]))
noncomputable def hs44_0 : List HK := []
noncomputable def Lm44_0 (s : St) (k : Ex → St → Option CR) : Option CR := bif chkS ks44_0 hs44_0 s then (G_skirmishlaw10_names_0 (sR s 0) FU (sI s 3) (sI s 4)).bind (X44_0 k) else none
noncomputable def L44_0 (s : St) (k : Ex → St → Option CR) : Option CR := Lm44_0 (maskS (maskOf ks44_0) s) k
noncomputable def L44 : LT' := fun i s k => bif Nat.beq i 0 then L44_0 s k else none
noncomputable def F_skirmishlaw10_names (l : LL) : Option (Int) := Option.bind (G_skirmishlaw10_names_0 l FU (Int.ofNat l.length) (0 : Int)) fun t => some t
noncomputable def enc44 (t : Int) : CR := ⟨true, (i64 t), [], []⟩
noncomputable def ks44 : List SK := [.f (.ro 1)]
noncomputable def A44 (us : List AVal) := F_skirmishlaw10_names (roRows (cIa us 0))
noncomputable def S44 (us : List AVal) : Call := bif chkA ks44 us then Call.of (A44 us) enc44 else Call.none
noncomputable def C44 := AI.ext 44 S44 Cnone
@[reducible] noncomputable def B44_0 := bodyOf TT TU GL0 Cnone ownF L44 (lp Tryz.f44 0)
@[reducible] noncomputable def K44_0 (k : Ex → St → Option CR) : Ex → St → Option CR := fun e s => k e (maskS (W44_0 e) s)
theorem spec44_0 (k : Ex → St → Option CR) : ∀ (m : Nat) (l : LL) (n i : Int), loopN B44_0 m (E44_0 l n i) (K44_0 k) = (G_skirmishlaw10_names_0 l m n i).bind (X44_0 k)
 | 0, _, _, _ => rfl
 | m + 1, l, n, i =>
 Eq.trans (by kernel_rfl) (nd rfl (nd rfl (nb fun r => (nd rfl (spec44_0 k m l (wr (n + (minI (Int.ofNat (ByteArray.size (cS r 0))) (100000 : Int)))) (wr (i + (1 : Int)))) rfl)) rfl) rfl)
theorem okL44_0 : LoopOk TT TU GL0 Cnone ownF L44 (lp Tryz.f44 0) :=
 loopOk_of ks44_0 hs44_0 W44_0 FU _ (fun s k => by kernel_rfl) (fun s k => spec44_0 k FU (sR s 0) (sI s 3) (sI s 4))
theorem run44 (l : LL) : fcall TT TU GL0 Cnone ownF true L44 Tryz.f44 [(.ro 1 l)] = (F_skirmishlaw10_names l).bind fun t => some (enc44 t) :=
 Eq.trans (by kernel_rfl) (nb fun t => rfl)
theorem lib44 : Lib Tryz.prog GL0 C44 :=
 Lib.fn libnone mixed TT_ok Tryz.func44 (by decide +kernel) (by kernel_rfl) true L44 (loops_of 1 (by kernel_rfl) (belowS below0 okL44_0)) ks44 (F := A44) (fun us => rfl) (fun us => run44 _) (fun t => rfl)
noncomputable def W20_0 : Ex → List Bool
 | .ret => (false :: false :: true :: (e4 (e16 (e16 (e64 [false, false, false])))))
 | .exit n => bif Nat.beq n 0 then (false :: true :: false :: true :: (e4 (e16 (e16 (e64 [false, false]))))) else []
 | .normal => []
noncomputable def G_skirmishlaw10_Huge_0 (b0_0 : LL) : Nat → Int → Int → Option (Int)
 | 0, _, _ => none
 | m + 1, n, i => bif (decide (i < (Int.ofNat b0_0.length))) then bif (decide ((0 : Int) ≤ i)) then Option.bind (b0_0[i.toNat]?) fun r => bif (chk y0 r) then Option.bind (F_skirmishlaw10_names [[(AVal.sc (Value.string (cS r 0)))], [(AVal.sc (Value.string (cS r 12)))]]) fun t => Option.bind (F_skirmishlaw10_names (roRows (AVal.ro 1 (cR r 16)))) fun t1 => Option.bind (F_skirmishlaw10_names (roRows (AVal.ro 1 (cR r 17)))) fun t2 => Option.bind (F_skirmishlaw10_names (roRows (AVal.ro 1 (cR r 18)))) fun t3 =>
 G_skirmishlaw10_Huge_0 b0_0 m (wr (n + (wr ((wr ((wr (t + t1)) + t2)) + t3)))) (wr (i + (1 : Int))) else none else none else some n
noncomputable def E20_0 (n i : Int) (b0_0 b0_1 b0_2 : LL) : St := ⟨(.dead :: (.ref 16000 1 0 0) :: .dead :: (i64 n) :: (i64 i) :: (d4 (d16 (d16 (d64 [.dead]))))), [(16000, ⟨.box, 27, 3, [[(.ro 19 b0_0), (.ro 6 b0_1), (.ro 8 b0_2)]]⟩)]⟩
noncomputable def X20_0 (b0_0 b0_1 b0_2 : LL) (k : Ex → St → Option CR) (t : Int) : Option CR := k (.exit 0) ⟨(.dead :: (.ref 16000 1 0 0) :: .dead :: (i64 t) :: (d4 (d16 (d16 (d64 [.dead, .dead]))))), [(16000, ⟨.box, 27, 3, [[(.ro 19 b0_0), (.ro 6 b0_1), (.ro 8 b0_2)]]⟩)]⟩
noncomputable def ks20_0 : List SK := (.f .dead :: .f (.ref 16000 1 0 0) :: .f .dead :: .f (.int .i64) :: .f (.int .i64) :: (f4 (f16 (f16 (f64 [.f .dead])))))
noncomputable def hs20_0 : List HK := [⟨16000, .box, 27, 3, some [.ro 19, .ro 6, .ro 8]⟩]
noncomputable def Lm20_0 (s : St) (k : Ex → St → Option CR) : Option CR := bif chkS ks20_0 hs20_0 s then (G_skirmishlaw10_Huge_0 (aRh s 0 0) FU (sI s 3) (sI s 4)).bind (X20_0 (aRh s 0 0) (aRh s 0 1) (aRh s 0 2) k) else none
noncomputable def L20_0 (s : St) (k : Ex → St → Option CR) : Option CR := Lm20_0 (maskS (maskOf ks20_0) s) k
noncomputable def W20_1 : Ex → List Bool
 | .ret => (false :: false :: true :: (e4 (e16 (e16 (e64 [false, false, false])))))
 | .exit n => bif Nat.beq n 2 then (false :: true :: false :: true :: (e4 (e16 (e16 (e64 [false, false]))))) else []
 | .normal => []
noncomputable def G_skirmishlaw10_Huge_1 (b0_1 : LL) : Nat → Int → Int → Option (Int)
 | 0, _, _ => none
 | m + 1, n, i => bif (decide (i < (Int.ofNat b0_1.length))) then bif (decide ((0 : Int) ≤ i)) then Option.bind (b0_1[i.toNat]?) fun r => bif (chk y1 r) then Option.bind (F_skirmishlaw10_names [[(AVal.sc (Value.string (cS r 0)))]]) fun t =>
 G_skirmishlaw10_Huge_1 b0_1 m (wr (n + t)) (wr (i + (1 : Int))) else none else none else some n
noncomputable def E20_1 (n i : Int) (b0_0 b0_1 b0_2 : LL) : St := ⟨(.dead :: (.ref 16000 1 0 0) :: .dead :: (i64 n) :: .dead :: .dead :: (i64 i) :: (d16 (d16 (d64 [.dead, .dead, .dead])))), [(16000, ⟨.box, 27, 3, [[(.ro 19 b0_0), (.ro 6 b0_1), (.ro 8 b0_2)]]⟩)]⟩
noncomputable def X20_1 (b0_0 b0_1 b0_2 : LL) (k : Ex → St → Option CR) (t : Int) : Option CR := k (.exit 2) ⟨(.dead :: (.ref 16000 1 0 0) :: .dead :: (i64 t) :: (d4 (d16 (d16 (d64 [.dead, .dead]))))), [(16000, ⟨.box, 27, 3, [[(.ro 19 b0_0), (.ro 6 b0_1), (.ro 8 b0_2)]]⟩)]⟩
noncomputable def ks20_1 : List SK := (.f .dead :: .f (.ref 16000 1 0 0) :: .f .dead :: .f (.int .i64) :: .f .dead :: .f .dead :: .f (.int .i64) :: (f16 (f16 (f64 [.f .dead, .f .dead, .f .dead]))))
noncomputable def hs20_1 : List HK := [⟨16000, .box, 27, 3, some [.ro 19, .ro 6, .ro 8]⟩]
noncomputable def Lm20_1 (s : St) (k : Ex → St → Option CR) : Option CR := bif chkS ks20_1 hs20_1 s then (G_skirmishlaw10_Huge_1 (aRh s 0 1) FU (sI s 3) (sI s 6)).bind (X20_1 (aRh s 0 0) (aRh s 0 1) (aRh s 0 2) k) else none
noncomputable def L20_1 (s : St) (k : Ex → St → Option CR) : Option CR := Lm20_1 (maskS (maskOf ks20_1) s) k
noncomputable def W20_2 : Ex → List Bool
 | .ret => (false :: false :: true :: (e4 (e16 (e16 (e64 [false, false, false])))))
 | .exit n => bif Nat.beq n 4 then (false :: false :: false :: true :: (e4 (e16 (e16 (e64 [false, false]))))) else []
 | .normal => []
noncomputable def G_skirmishlaw10_Huge_2 (b0_2 : LL) : Nat → Int → Int → Option (Int)
 | 0, _, _ => none
 | m + 1, n, i => bif (decide (i < (Int.ofNat b0_2.length))) then bif (decide ((0 : Int) ≤ i)) then Option.bind (b0_2[i.toNat]?) fun r => bif (chk y2 r) then Option.bind (b0_2[i.toNat]?) fun r1 => bif (chk y2 r1) then Option.bind (F_skirmishlaw10_names [[(AVal.sc (Value.string (cS r 0)))], [(AVal.sc (Value.string (cS r1 5)))]]) fun t => Option.bind (b0_2[i.toNat]?) fun r2 => bif (chk y2 r2) then Option.bind (F_skirmishlaw10_names (roRows (AVal.ro 1 (cR r2 1)))) fun t1 =>
 G_skirmishlaw10_Huge_2 b0_2 m (wr (n + (wr (t + t1)))) (wr (i + (1 : Int))) else none else none else none else none else some n
noncomputable def E20_2 (n i : Int) (b0_0 b0_1 b0_2 : LL) : St := ⟨(.dead :: (.ref 16000 1 0 0) :: .dead :: (i64 n) :: .dead :: .dead :: .dead :: (i64 i) :: (d16 (d16 (d64 [.dead, .dead])))), [(16000, ⟨.box, 27, 3, [[(.ro 19 b0_0), (.ro 6 b0_1), (.ro 8 b0_2)]]⟩)]⟩
noncomputable def X20_2 (k : Ex → St → Option CR) (t : Int) : Option CR := k (.exit 4) ⟨(.dead :: .dead :: .dead :: (i64 t) :: (d4 (d16 (d16 (d64 [.dead, .dead]))))), []⟩
noncomputable def ks20_2 : List SK := (.f .dead :: .f (.ref 16000 1 0 0) :: .f .dead :: .f (.int .i64) :: .f .dead :: .f .dead :: .f .dead :: .f (.int .i64) :: (f16 (f16 (f64 [.f .dead, .f .dead]))))
noncomputable def hs20_2 : List HK := [⟨16000, .box, 27, 3, some [.ro 19, .ro 6, .ro 8]⟩]
noncomputable def Lm20_2 (s : St) (k : Ex → St → Option CR) : Option CR := bif chkS ks20_2 hs20_2 s then (G_skirmishlaw10_Huge_2 (aRh s 0 2) FU (sI s 3) (sI s 7)).bind (X20_2 k) else none
noncomputable def L20_2 (s : St) (k : Ex → St → Option CR) : Option CR := Lm20_2 (maskS (maskOf ks20_2) s) k
noncomputable def L20 : LT' := fun i s k => bif Nat.beq i 0 then L20_0 s k else bif Nat.beq i 2 then L20_1 s k else bif Nat.beq i 4 then L20_2 s k else none
noncomputable def F_skirmishlaw10_Huge (zp zn zq : LL) : Option (Bool) := bif (decide ((Int.ofNat zp.length) > (100 : Int))) then some true else bif (decide ((Int.ofNat zn.length) > (100 : Int))) then some true else bif (decide ((Int.ofNat zq.length) > (100 : Int))) then some true else Option.bind (G_skirmishlaw10_Huge_0 zp FU (0 : Int) (0 : Int)) fun t => Option.bind (G_skirmishlaw10_Huge_1 zn FU t (0 : Int)) fun t1 => Option.bind (G_skirmishlaw10_Huge_2 zq FU t1 (0 : Int)) fun t2 => some (decide (t2 > (20000 : Int)))
noncomputable def enc20 (t : Bool) : CR := ⟨true, (bo t), [], []⟩
noncomputable def ks20 : List SK := [.agg [.ro 19, .ro 6, .ro 8]]
noncomputable def A20 (us : List AVal) := F_skirmishlaw10_Huge (aR us 0 0) (aR us 0 1) (aR us 0 2)
noncomputable def S20 (us : List AVal) : Call := bif chkA ks20 us then Call.of (A20 us) enc20 else Call.none
noncomputable def C20 := AI.ext 20 S20 C44
@[reducible] noncomputable def B20_0 := bodyOf TT TU GL0 C44 ownF L20 (lp Tryz.f20 0)
@[reducible] noncomputable def K20_0 (k : Ex → St → Option CR) : Ex → St → Option CR := fun e s => k e (maskS (W20_0 e) s)
theorem spec20_0 (k : Ex → St → Option CR) : ∀ (m : Nat) (n i : Int) (b0_0 b0_1 b0_2 : LL), loopN B20_0 m (E20_0 n i b0_0 b0_1 b0_2) (K20_0 k) = (G_skirmishlaw10_Huge_0 b0_0 m n i).bind (X20_0 b0_0 b0_1 b0_2 k)
 | 0, _, _, _, _, _ => rfl
 | m + 1, n, i, b0_0, b0_1, b0_2 =>
 Eq.trans (by kernel_rfl) (nd rfl (nd rfl (nb fun r => (nd rfl (nb fun t => (nb fun t1 => (nb fun t2 => (nb fun t3 => (spec20_0 k m (wr (n + (wr ((wr ((wr (t + t1)) + t2)) + t3)))) (wr (i + (1 : Int))) b0_0 b0_1 b0_2))))) rfl)) rfl) rfl)
theorem okL20_0 : LoopOk TT TU GL0 C44 ownF L20 (lp Tryz.f20 0) :=
 loopOk_of ks20_0 hs20_0 W20_0 FU _ (fun s k => by kernel_rfl) (fun s k => spec20_0 k FU (sI s 3) (sI s 4) (aRh s 0 0) (aRh s 0 1) (aRh s 0 2))
@[reducible] noncomputable def B20_1 := bodyOf TT TU GL0 C44 ownF L20 (lp Tryz.f20 1)
@[reducible] noncomputable def K20_1 (k : Ex → St → Option CR) : Ex → St → Option CR := fun e s => k e (maskS (W20_1 e) s)
theorem spec20_1 (k : Ex → St → Option CR) : ∀ (m : Nat) (n i : Int) (b0_0 b0_1 b0_2 : LL), loopN B20_1 m (E20_1 n i b0_0 b0_1 b0_2) (K20_1 k) = (G_skirmishlaw10_Huge_1 b0_1 m n i).bind (X20_1 b0_0 b0_1 b0_2 k)
 | 0, _, _, _, _, _ => rfl
 | m + 1, n, i, b0_0, b0_1, b0_2 =>
 Eq.trans (by kernel_rfl) (nd rfl (nd rfl (nb fun r => (nd rfl (nb fun t => (spec20_1 k m (wr (n + t)) (wr (i + (1 : Int))) b0_0 b0_1 b0_2)) rfl)) rfl) rfl)
theorem okL20_1 : LoopOk TT TU GL0 C44 ownF L20 (lp Tryz.f20 1) :=
 loopOk_of ks20_1 hs20_1 W20_1 FU _ (fun s k => by kernel_rfl) (fun s k => spec20_1 k FU (sI s 3) (sI s 6) (aRh s 0 0) (aRh s 0 1) (aRh s 0 2))
@[reducible] noncomputable def B20_2 := bodyOf TT TU GL0 C44 ownF L20 (lp Tryz.f20 2)
@[reducible] noncomputable def K20_2 (k : Ex → St → Option CR) : Ex → St → Option CR := fun e s => k e (maskS (W20_2 e) s)
theorem spec20_2 (k : Ex → St → Option CR) : ∀ (m : Nat) (n i : Int) (b0_0 b0_1 b0_2 : LL), loopN B20_2 m (E20_2 n i b0_0 b0_1 b0_2) (K20_2 k) = (G_skirmishlaw10_Huge_2 b0_2 m n i).bind (X20_2 k)
 | 0, _, _, _, _, _ => rfl
 | m + 1, n, i, b0_0, b0_1, b0_2 =>
 Eq.trans (by kernel_rfl) (nd rfl (nc rfl (fun h1 => (nb fun r => (nd rfl (nu h1 (nb fun r1 => (nd rfl (nb fun t => (nu h1 (nb fun r2 => (nd rfl (nb fun t1 => (spec20_2 k m (wr (n + (wr (t + t1)))) (wr (i + (1 : Int))) b0_0 b0_1 b0_2)) rfl)))) rfl))) rfl))) fun h1 => rfl) rfl)
theorem okL20_2 : LoopOk TT TU GL0 C44 ownF L20 (lp Tryz.f20 2) :=
 loopOk_of ks20_2 hs20_2 W20_2 FU _ (fun s k => by kernel_rfl) (fun s k => spec20_2 k FU (sI s 3) (sI s 7) (aRh s 0 0) (aRh s 0 1) (aRh s 0 2))
theorem run20 (zp zn zq : LL) : fcall TT TU GL0 C44 ownF true L20 Tryz.f20 [(.agg [(.ro 19 zp), (.ro 6 zn), (.ro 8 zq)])] = (F_skirmishlaw10_Huge zp zn zq).bind fun t => some (enc20 t) :=
 Eq.trans (by kernel_rfl) (nd rfl rfl (nd rfl rfl (nd rfl rfl (nb fun t => (nb fun t1 => (nb fun t2 => rfl))))))
theorem lib20 : Lib Tryz.prog GL0 C20 :=
 Lib.fn lib44 mixed TT_ok Tryz.func20 (by decide +kernel) (by kernel_rfl) true L20 (loops_of 3 (by kernel_rfl) (belowS (belowS (belowS below0 okL20_0) okL20_1) okL20_2)) ks20 (F := A20) (fun us => rfl) (fun us => run20 _ _ _) (fun t => rfl)
noncomputable def W21_0 : Ex → List Bool
 | .ret => (false :: false :: true :: (e4 (e16 [false, false])))
 | .exit n => bif Nat.beq n 0 then (e4 (e4 (e16 [false]))) else []
 | .normal => []
noncomputable def G_skirmishlaw22_huge_0 (l : LL) : Nat → Int → Int → Option (Bool)
 | 0, _, _ => none
 | m + 1, n, i => bif (decide (i < (Int.ofNat l.length))) then bif (decide ((0 : Int) ≤ i)) then Option.bind (l[i.toNat]?) fun r => bif (chk [LT.str] r) then bif (decide (i > (100 : Int))) then some true else bif (decide ((wr (n + (minI (Int.ofNat (ByteArray.size (cS r 0))) (100000 : Int)))) > (20000 : Int))) then some true else
 G_skirmishlaw22_huge_0 l m (wr (n + (minI (Int.ofNat (ByteArray.size (cS r 0))) (100000 : Int)))) (wr (i + (1 : Int))) else none else none else some false
noncomputable def E21_0 (l : LL) (n i : Int) : St := ⟨((.ro 1 l) :: .dead :: .dead :: (i64 n) :: (i64 i) :: (d4 (d16 []))), []⟩
noncomputable def X21_0 (k : Ex → St → Option CR) (t : Bool) : Option CR := bif t then k .ret ⟨(.dead :: .dead :: (bo true) :: (d4 (d16 [.dead, .dead]))), []⟩ else k (.exit 0) ⟨(d4 (d4 (d16 [.dead]))), []⟩
noncomputable def ks21_0 : List SK := (.f (.ro 1) :: .f .dead :: .f .dead :: .f (.int .i64) :: .f (.int .i64) :: (f4 (f16 [])))
noncomputable def hs21_0 : List HK := []
noncomputable def Lm21_0 (s : St) (k : Ex → St → Option CR) : Option CR := bif chkS ks21_0 hs21_0 s then (G_skirmishlaw22_huge_0 (sR s 0) FU (sI s 3) (sI s 4)).bind (X21_0 k) else none
noncomputable def L21_0 (s : St) (k : Ex → St → Option CR) : Option CR := Lm21_0 (maskS (maskOf ks21_0) s) k
noncomputable def L21 : LT' := fun i s k => bif Nat.beq i 0 then L21_0 s k else none
noncomputable def F_skirmishlaw22_huge (l : LL) : Option (Bool) := Option.bind (G_skirmishlaw22_huge_0 l FU (0 : Int) (0 : Int)) fun t => bif t then some true else some false
noncomputable def enc21 (t : Bool) : CR := ⟨true, (bo t), [], []⟩
noncomputable def ks21 : List SK := [.f (.ro 1)]
noncomputable def A21 (us : List AVal) := F_skirmishlaw22_huge (roRows (cIa us 0))
noncomputable def S21 (us : List AVal) : Call := bif chkA ks21 us then Call.of (A21 us) enc21 else Call.none
noncomputable def C21 := AI.ext 21 S21 C20
@[reducible] noncomputable def B21_0 := bodyOf TT TU GL0 C20 ownF L21 (lp Tryz.f21 0)
@[reducible] noncomputable def K21_0 (k : Ex → St → Option CR) : Ex → St → Option CR := fun e s => k e (maskS (W21_0 e) s)
theorem spec21_0 (k : Ex → St → Option CR) : ∀ (m : Nat) (l : LL) (n i : Int), loopN B21_0 m (E21_0 l n i) (K21_0 k) = (G_skirmishlaw22_huge_0 l m n i).bind (X21_0 k)
 | 0, _, _, _ => rfl
 | m + 1, l, n, i =>
 Eq.trans (by kernel_rfl) (nd rfl (nd rfl (nb fun r => (nd rfl (nd rfl rfl (nd rfl rfl (spec21_0 k m l (wr (n + (minI (Int.ofNat (ByteArray.size (cS r 0))) (100000 : Int)))) (wr (i + (1 : Int)))))) rfl)) rfl) rfl)
theorem okL21_0 : LoopOk TT TU GL0 C20 ownF L21 (lp Tryz.f21 0) :=
 loopOk_of ks21_0 hs21_0 W21_0 FU _ (fun s k => by kernel_rfl) (fun s k => spec21_0 k FU (sR s 0) (sI s 3) (sI s 4))
theorem run21 (l : LL) : fcall TT TU GL0 C20 ownF true L21 Tryz.f21 [(.ro 1 l)] = (F_skirmishlaw22_huge l).bind fun t => some (enc21 t) :=
 Eq.trans (by kernel_rfl) (nb fun t => (nd rfl rfl rfl))
theorem lib21 : Lib Tryz.prog GL0 C21 :=
 Lib.fn lib20 mixed TT_ok Tryz.func21 (by decide +kernel) (by kernel_rfl) true L21 (loops_of 1 (by kernel_rfl) (belowS below0 okL21_0)) ks21 (F := A21) (fun us => rfl) (fun us => run21 _) (fun t => rfl)
noncomputable def W88_0 : Ex → List Bool
 | .ret => (false :: false :: true :: (e4 (e4 (e4 (e16 (e16 (e16 [false, false])))))))
 | .exit n => bif Nat.beq n 0 then (false :: true :: (e4 (e4 (e4 (e16 (e16 (e16 [false, false, false]))))))) else []
 | .normal => []
noncomputable def G_skirmishref09_limits_0 (b0_0 : LL) : Nat → Int → Option (Bool)
 | 0, _ => none
 | m + 1, i => bif (decide (i < (Int.ofNat b0_0.length))) then bif (decide ((0 : Int) ≤ i)) then Option.bind (b0_0[i.toNat]?) fun r => bif (chk y0 r) then bif (decide ((Int.ofNat (cR r 16).length) > (4 : Int))) then some true else bif (decide ((Int.ofNat (cR r 17).length) > (4 : Int))) then some true else bif (decide ((Int.ofNat (cR r 18).length) > (4 : Int))) then some true else
 G_skirmishref09_limits_0 b0_0 m (wr (i + (1 : Int))) else none else none else some false
noncomputable def E88_0 (i : Int) (b0_0 b0_1 b0_2 : LL) : St := ⟨(.dead :: (.ref 16000 1 0 0) :: .dead :: (i64 i) :: (d4 (d4 (d4 (d16 (d16 (d16 [.dead]))))))), [(16000, ⟨.box, 27, 3, [[(.ro 19 b0_0), (.ro 6 b0_1), (.ro 8 b0_2)]]⟩)]⟩
noncomputable def X88_0 (b0_0 b0_1 b0_2 : LL) (k : Ex → St → Option CR) (t : Bool) : Option CR := bif t then k .ret ⟨(.dead :: .dead :: (bo false) :: (d4 (d4 (d4 (d16 (d16 (d16 [.dead, .dead]))))))), []⟩ else k (.exit 0) ⟨(.dead :: (.ref 16000 1 0 0) :: (d4 (d4 (d4 (d16 (d16 (d16 [.dead, .dead, .dead]))))))), [(16000, ⟨.box, 27, 3, [[(.ro 19 b0_0), (.ro 6 b0_1), (.ro 8 b0_2)]]⟩)]⟩
noncomputable def ks88_0 : List SK := (.f .dead :: .f (.ref 16000 1 0 0) :: .f .dead :: .f (.int .i64) :: (f4 (f4 (f4 (f16 (f16 (f16 [.f .dead])))))))
noncomputable def hs88_0 : List HK := [⟨16000, .box, 27, 3, some [.ro 19, .ro 6, .ro 8]⟩]
noncomputable def Lm88_0 (s : St) (k : Ex → St → Option CR) : Option CR := bif chkS ks88_0 hs88_0 s then (G_skirmishref09_limits_0 (aRh s 0 0) FU (sI s 3)).bind (X88_0 (aRh s 0 0) (aRh s 0 1) (aRh s 0 2) k) else none
noncomputable def L88_0 (s : St) (k : Ex → St → Option CR) : Option CR := Lm88_0 (maskS (maskOf ks88_0) s) k
noncomputable def W88_1 : Ex → List Bool
 | .ret => (false :: false :: true :: (e4 (e4 (e4 (e16 (e16 (e16 [false, false])))))))
 | .exit n => bif Nat.beq n 2 then (e64 [false]) else []
 | .normal => []
noncomputable def G_skirmishref09_limits_1 (b0_2 : LL) : Nat → Int → Option (Bool)
 | 0, _ => none
 | m + 1, i => bif (decide (i < (Int.ofNat b0_2.length))) then bif (decide ((0 : Int) ≤ i)) then Option.bind (b0_2[i.toNat]?) fun r => bif (chk y2 r) then bif (decide ((Int.ofNat (cR r 1).length) > (4 : Int))) then some true else
 G_skirmishref09_limits_1 b0_2 m (wr (i + (1 : Int))) else none else none else some false
noncomputable def E88_1 (i : Int) (b0_0 b0_1 b0_2 : LL) : St := ⟨(.dead :: (.ref 16000 1 0 0) :: .dead :: .dead :: .dead :: (i64 i) :: (d4 (d4 (d16 (d16 (d16 [.dead, .dead, .dead])))))), [(16000, ⟨.box, 27, 3, [[(.ro 19 b0_0), (.ro 6 b0_1), (.ro 8 b0_2)]]⟩)]⟩
noncomputable def X88_1 (k : Ex → St → Option CR) (t : Bool) : Option CR := bif t then k .ret ⟨(.dead :: .dead :: (bo false) :: (d4 (d4 (d4 (d16 (d16 (d16 [.dead, .dead]))))))), []⟩ else k (.exit 2) ⟨(d64 [.dead]), []⟩
noncomputable def ks88_1 : List SK := (.f .dead :: .f (.ref 16000 1 0 0) :: .f .dead :: .f .dead :: .f .dead :: .f (.int .i64) :: (f4 (f4 (f16 (f16 (f16 [.f .dead, .f .dead, .f .dead]))))))
noncomputable def hs88_1 : List HK := [⟨16000, .box, 27, 3, some [.ro 19, .ro 6, .ro 8]⟩]
noncomputable def Lm88_1 (s : St) (k : Ex → St → Option CR) : Option CR := bif chkS ks88_1 hs88_1 s then (G_skirmishref09_limits_1 (aRh s 0 2) FU (sI s 5)).bind (X88_1 k) else none
noncomputable def L88_1 (s : St) (k : Ex → St → Option CR) : Option CR := Lm88_1 (maskS (maskOf ks88_1) s) k
noncomputable def L88 : LT' := fun i s k => bif Nat.beq i 0 then L88_0 s k else bif Nat.beq i 2 then L88_1 s k else none
noncomputable def F_skirmishref09_limits (zp zn zq : LL) : Option (Bool) := bif (decide ((Int.ofNat zp.length) > (16 : Int))) then some false else bif (decide ((Int.ofNat zn.length) > (8 : Int))) then some false else bif (decide ((Int.ofNat zq.length) > (12 : Int))) then some false else Option.bind (G_skirmishref09_limits_0 zp FU (0 : Int)) fun t => bif t then some false else Option.bind (G_skirmishref09_limits_1 zq FU (0 : Int)) fun t1 => bif t1 then some false else some true
noncomputable def enc88 (t : Bool) : CR := ⟨true, (bo t), [], []⟩
noncomputable def ks88 : List SK := [.agg [.ro 19, .ro 6, .ro 8]]
noncomputable def A88 (us : List AVal) := F_skirmishref09_limits (aR us 0 0) (aR us 0 1) (aR us 0 2)
noncomputable def S88 (us : List AVal) : Call := bif chkA ks88 us then Call.of (A88 us) enc88 else Call.none
noncomputable def C88 := AI.ext 88 S88 C21
@[reducible] noncomputable def B88_0 := bodyOf TT TU GL0 C21 ownF L88 (lp Tryz.f88 0)
@[reducible] noncomputable def K88_0 (k : Ex → St → Option CR) : Ex → St → Option CR := fun e s => k e (maskS (W88_0 e) s)
theorem spec88_0 (k : Ex → St → Option CR) : ∀ (m : Nat) (i : Int) (b0_0 b0_1 b0_2 : LL), loopN B88_0 m (E88_0 i b0_0 b0_1 b0_2) (K88_0 k) = (G_skirmishref09_limits_0 b0_0 m i).bind (X88_0 b0_0 b0_1 b0_2 k)
 | 0, _, _, _, _ => rfl
 | m + 1, i, b0_0, b0_1, b0_2 =>
 Eq.trans (by kernel_rfl) (nd rfl (nd rfl (nb fun r => (nd rfl (nd rfl rfl (nd rfl rfl (nd rfl rfl (spec88_0 k m (wr (i + (1 : Int))) b0_0 b0_1 b0_2)))) rfl)) rfl) rfl)
theorem okL88_0 : LoopOk TT TU GL0 C21 ownF L88 (lp Tryz.f88 0) :=
 loopOk_of ks88_0 hs88_0 W88_0 FU _ (fun s k => by kernel_rfl) (fun s k => spec88_0 k FU (sI s 3) (aRh s 0 0) (aRh s 0 1) (aRh s 0 2))
@[reducible] noncomputable def B88_1 := bodyOf TT TU GL0 C21 ownF L88 (lp Tryz.f88 1)
@[reducible] noncomputable def K88_1 (k : Ex → St → Option CR) : Ex → St → Option CR := fun e s => k e (maskS (W88_1 e) s)
theorem spec88_1 (k : Ex → St → Option CR) : ∀ (m : Nat) (i : Int) (b0_0 b0_1 b0_2 : LL), loopN B88_1 m (E88_1 i b0_0 b0_1 b0_2) (K88_1 k) = (G_skirmishref09_limits_1 b0_2 m i).bind (X88_1 k)
 | 0, _, _, _, _ => rfl
 | m + 1, i, b0_0, b0_1, b0_2 =>
 Eq.trans (by kernel_rfl) (nd rfl (nd rfl (nb fun r => (nd rfl (nd rfl rfl (spec88_1 k m (wr (i + (1 : Int))) b0_0 b0_1 b0_2)) rfl)) rfl) rfl)
theorem okL88_1 : LoopOk TT TU GL0 C21 ownF L88 (lp Tryz.f88 1) :=
 loopOk_of ks88_1 hs88_1 W88_1 FU _ (fun s k => by kernel_rfl) (fun s k => spec88_1 k FU (sI s 5) (aRh s 0 0) (aRh s 0 1) (aRh s 0 2))
theorem run88 (zp zn zq : LL) : fcall TT TU GL0 C21 ownF true L88 Tryz.f88 [(.agg [(.ro 19 zp), (.ro 6 zn), (.ro 8 zq)])] = (F_skirmishref09_limits zp zn zq).bind fun t => some (enc88 t) :=
 Eq.trans (by kernel_rfl) (nd rfl rfl (nd rfl rfl (nd rfl rfl (nb fun t => (nd rfl rfl (nb fun t1 => (nd rfl rfl rfl)))))))
theorem lib88 : Lib Tryz.prog GL0 C88 :=
 Lib.fn lib21 mixed TT_ok Tryz.func88 (by decide +kernel) (by kernel_rfl) true L88 (loops_of 2 (by kernel_rfl) (belowS (belowS below0 okL88_0) okL88_1)) ks88 (F := A88) (fun us => rfl) (fun us => run88 _ _ _) (fun t => rfl)
noncomputable def W139_0 : Ex → List Bool
 | .ret => (false :: false :: true :: (e16 [false, false, false]))
 | .exit n => bif Nat.beq n 0 then (false :: false :: false :: true :: (e16 [false, false])) else []
 | .normal => []
noncomputable def G_skirmishref09_Units_0 (b0_0 : LL) : Nat → LL → Int → Option (LL)
 | 0, _, _ => none
 | m + 1, R1, i => bif (decide (i < (Int.ofNat b0_0.length))) then bif (decide ((0 : Int) ≤ i)) then Option.bind (b0_0[i.toNat]?) fun r => bif (chk y0 r) then bif (roomOk (R1.length + 1) 16) then
 G_skirmishref09_Units_0 b0_0 m (R1 ++ [[(AVal.sc (Value.string (cS r 0)))]]) (wr (i + (1 : Int))) else none else none else none else some R1
noncomputable def E139_0 (R1 : LL) (i : Int) (b0_0 b0_1 b0_2 : LL) : St := ⟨(.dead :: (.ref 16000 1 0 0) :: .dead :: (.slc 19200 (R1).length) :: (i64 i) :: (d16 [.dead])), [(16000, ⟨.box, 27, 3, [[(.ro 19 b0_0), (.ro 6 b0_1), (.ro 8 b0_2)]]⟩), (19200, ⟨.arr, 9, 1, R1⟩)]⟩
noncomputable def X139_0 (k : Ex → St → Option CR) (t : LL) : Option CR := k (.exit 0) ⟨(.dead :: .dead :: .dead :: (.slc 19200 (t).length) :: (d16 [.dead, .dead])), [(19200, ⟨.arr, 9, 1, t⟩)]⟩
noncomputable def ks139_0 : List SK := (.f .dead :: .f (.ref 16000 1 0 0) :: .f .dead :: .f (.slc 19200 1) :: .f (.int .i64) :: (f16 [.f .dead]))
noncomputable def hs139_0 : List HK := [⟨16000, .box, 27, 3, some [.ro 19, .ro 6, .ro 8]⟩, ⟨19200, .arr, 9, 1, none⟩]
noncomputable def Lm139_0 (s : St) (k : Ex → St → Option CR) : Option CR := bif chkS ks139_0 hs139_0 s then (G_skirmishref09_Units_0 (aRh s 0 0) FU (blkAt s.heap 1).2.rows (sI s 4)).bind (X139_0 k) else none
noncomputable def L139_0 (s : St) (k : Ex → St → Option CR) : Option CR := Lm139_0 (maskS (maskOf ks139_0) s) k
noncomputable def L139 : LT' := fun i s k => bif Nat.beq i 0 then L139_0 s k else none
noncomputable def F_skirmishref09_Units (zp zn zq : LL) : Option (LL) := Option.bind (G_skirmishref09_Units_0 zp FU [] (0 : Int)) fun t => some t
noncomputable def enc139 (t : LL) : CR := ⟨true, (.slc 0 (t).length), [], [⟨.arr, 9, 1, t⟩]⟩
noncomputable def ks139 : List SK := [.agg [.ro 19, .ro 6, .ro 8]]
noncomputable def A139 (us : List AVal) := F_skirmishref09_Units (aR us 0 0) (aR us 0 1) (aR us 0 2)
noncomputable def S139 (us : List AVal) : Call := bif chkA ks139 us then Call.of (A139 us) enc139 else Call.none
noncomputable def C139 := AI.ext 139 S139 C88
@[reducible] noncomputable def B139_0 := bodyOf TT TU GL0 C88 ownF L139 (lp Tryz.f139 0)
@[reducible] noncomputable def K139_0 (k : Ex → St → Option CR) : Ex → St → Option CR := fun e s => k e (maskS (W139_0 e) s)
theorem spec139_0 (k : Ex → St → Option CR) : ∀ (m : Nat) (R1 : LL) (i : Int) (b0_0 b0_1 b0_2 : LL), loopN B139_0 m (E139_0 R1 i b0_0 b0_1 b0_2) (K139_0 k) = (G_skirmishref09_Units_0 b0_0 m R1 i).bind (X139_0 k)
 | 0, _, _, _, _, _ => rfl
 | m + 1, R1, i, b0_0, b0_1, b0_2 =>
 Eq.trans (by kernel_rfl) (nd rfl (nd rfl (nb fun r => (nd rfl (nd (show ((((verEq R1.length R1.length) && true) && (roomOk (R1.length + 1) 16))) = _ from (n_andL (n_andL (verEq_rfl _) rfl) rfl)) (spec139_0 k m (R1 ++ [[(AVal.sc (Value.string (cS r 0)))]]) (wr (i + (1 : Int))) b0_0 b0_1 b0_2) rfl) rfl)) rfl) rfl)
theorem okL139_0 : LoopOk TT TU GL0 C88 ownF L139 (lp Tryz.f139 0) :=
 loopOk_of ks139_0 hs139_0 W139_0 FU _ (fun s k => by kernel_rfl) (fun s k => spec139_0 k FU (blkAt s.heap 1).2.rows (sI s 4) (aRh s 0 0) (aRh s 0 1) (aRh s 0 2))
theorem run139 (zp zn zq : LL) : fcall TT TU GL0 C88 ownF true L139 Tryz.f139 [(.agg [(.ro 19 zp), (.ro 6 zn), (.ro 8 zq)])] = (F_skirmishref09_Units zp zn zq).bind fun t => some (enc139 t) :=
 Eq.trans (by kernel_rfl) (nb fun t => (nu (vr t) rfl))
theorem lib139 : Lib Tryz.prog GL0 C139 :=
 Lib.fn lib88 mixed TT_ok Tryz.func139 (by decide +kernel) (by kernel_rfl) true L139 (loops_of 1 (by kernel_rfl) (belowS below0 okL139_0)) ks139 (F := A139) (fun us => rfl) (fun us => run139 _ _ _) (fun t => rfl)
noncomputable def W140_0 : Ex → List Bool
 | .ret => (false :: false :: true :: (e16 [false, false, false]))
 | .exit n => bif Nat.beq n 0 then (false :: false :: false :: true :: (e16 [false, false])) else []
 | .normal => []
noncomputable def G_skirmishref09_Weapons_0 (b0_1 : LL) : Nat → LL → Int → Option (LL)
 | 0, _, _ => none
 | m + 1, R1, i => bif (decide (i < (Int.ofNat b0_1.length))) then bif (decide ((0 : Int) ≤ i)) then Option.bind (b0_1[i.toNat]?) fun r => bif (chk y1 r) then bif (roomOk (R1.length + 1) 16) then
 G_skirmishref09_Weapons_0 b0_1 m (R1 ++ [[(AVal.sc (Value.string (cS r 0)))]]) (wr (i + (1 : Int))) else none else none else none else some R1
noncomputable def E140_0 (R1 : LL) (i : Int) (b0_0 b0_1 b0_2 : LL) : St := ⟨(.dead :: (.ref 16000 1 0 0) :: .dead :: (.slc 19200 (R1).length) :: (i64 i) :: (d16 [.dead])), [(16000, ⟨.box, 27, 3, [[(.ro 19 b0_0), (.ro 6 b0_1), (.ro 8 b0_2)]]⟩), (19200, ⟨.arr, 9, 1, R1⟩)]⟩
noncomputable def X140_0 (k : Ex → St → Option CR) (t : LL) : Option CR := k (.exit 0) ⟨(.dead :: .dead :: .dead :: (.slc 19200 (t).length) :: (d16 [.dead, .dead])), [(19200, ⟨.arr, 9, 1, t⟩)]⟩
noncomputable def ks140_0 : List SK := (.f .dead :: .f (.ref 16000 1 0 0) :: .f .dead :: .f (.slc 19200 1) :: .f (.int .i64) :: (f16 [.f .dead]))
noncomputable def hs140_0 : List HK := [⟨16000, .box, 27, 3, some [.ro 19, .ro 6, .ro 8]⟩, ⟨19200, .arr, 9, 1, none⟩]
noncomputable def Lm140_0 (s : St) (k : Ex → St → Option CR) : Option CR := bif chkS ks140_0 hs140_0 s then (G_skirmishref09_Weapons_0 (aRh s 0 1) FU (blkAt s.heap 1).2.rows (sI s 4)).bind (X140_0 k) else none
noncomputable def L140_0 (s : St) (k : Ex → St → Option CR) : Option CR := Lm140_0 (maskS (maskOf ks140_0) s) k
noncomputable def L140 : LT' := fun i s k => bif Nat.beq i 0 then L140_0 s k else none
noncomputable def F_skirmishref09_Weapons (zp zn zq : LL) : Option (LL) := Option.bind (G_skirmishref09_Weapons_0 zn FU [] (0 : Int)) fun t => some t
noncomputable def enc140 (t : LL) : CR := ⟨true, (.slc 0 (t).length), [], [⟨.arr, 9, 1, t⟩]⟩
noncomputable def ks140 : List SK := [.agg [.ro 19, .ro 6, .ro 8]]
noncomputable def A140 (us : List AVal) := F_skirmishref09_Weapons (aR us 0 0) (aR us 0 1) (aR us 0 2)
noncomputable def S140 (us : List AVal) : Call := bif chkA ks140 us then Call.of (A140 us) enc140 else Call.none
noncomputable def C140 := AI.ext 140 S140 C139
@[reducible] noncomputable def B140_0 := bodyOf TT TU GL0 C139 ownF L140 (lp Tryz.f140 0)
@[reducible] noncomputable def K140_0 (k : Ex → St → Option CR) : Ex → St → Option CR := fun e s => k e (maskS (W140_0 e) s)
theorem spec140_0 (k : Ex → St → Option CR) : ∀ (m : Nat) (R1 : LL) (i : Int) (b0_0 b0_1 b0_2 : LL), loopN B140_0 m (E140_0 R1 i b0_0 b0_1 b0_2) (K140_0 k) = (G_skirmishref09_Weapons_0 b0_1 m R1 i).bind (X140_0 k)
 | 0, _, _, _, _, _ => rfl
 | m + 1, R1, i, b0_0, b0_1, b0_2 =>
 Eq.trans (by kernel_rfl) (nd rfl (nd rfl (nb fun r => (nd rfl (nd (show ((((verEq R1.length R1.length) && true) && (roomOk (R1.length + 1) 16))) = _ from (n_andL (n_andL (verEq_rfl _) rfl) rfl)) (spec140_0 k m (R1 ++ [[(AVal.sc (Value.string (cS r 0)))]]) (wr (i + (1 : Int))) b0_0 b0_1 b0_2) rfl) rfl)) rfl) rfl)
theorem okL140_0 : LoopOk TT TU GL0 C139 ownF L140 (lp Tryz.f140 0) :=
 loopOk_of ks140_0 hs140_0 W140_0 FU _ (fun s k => by kernel_rfl) (fun s k => spec140_0 k FU (blkAt s.heap 1).2.rows (sI s 4) (aRh s 0 0) (aRh s 0 1) (aRh s 0 2))
theorem run140 (zp zn zq : LL) : fcall TT TU GL0 C139 ownF true L140 Tryz.f140 [(.agg [(.ro 19 zp), (.ro 6 zn), (.ro 8 zq)])] = (F_skirmishref09_Weapons zp zn zq).bind fun t => some (enc140 t) :=
 Eq.trans (by kernel_rfl) (nb fun t => (nu (vr t) rfl))
theorem lib140 : Lib Tryz.prog GL0 C140 :=
 Lib.fn lib139 mixed TT_ok Tryz.func140 (by decide +kernel) (by kernel_rfl) true L140 (loops_of 1 (by kernel_rfl) (belowS below0 okL140_0)) ks140 (F := A140) (fun us => rfl) (fun us => run140 _ _ _) (fun t => rfl)
noncomputable def W91_0 : Ex → List Bool
 | .ret => (false :: false :: true :: (e16 [false, false, false]))
 | .exit n => bif Nat.beq n 0 then (false :: false :: false :: true :: (e16 [false, false])) else []
 | .normal => []
noncomputable def G_skirmishref09_Techs_0 (b0_2 : LL) : Nat → LL → Int → Option (LL)
 | 0, _, _ => none
 | m + 1, R1, i => bif (decide (i < (Int.ofNat b0_2.length))) then bif (decide ((0 : Int) ≤ i)) then Option.bind (b0_2[i.toNat]?) fun r => bif (chk y2 r) then bif (roomOk (R1.length + 1) 16) then
 G_skirmishref09_Techs_0 b0_2 m (R1 ++ [[(AVal.sc (Value.string (cS r 0)))]]) (wr (i + (1 : Int))) else none else none else none else some R1
noncomputable def E91_0 (R1 : LL) (i : Int) (b0_0 b0_1 b0_2 : LL) : St := ⟨(.dead :: (.ref 16000 1 0 0) :: .dead :: (.slc 19200 (R1).length) :: (i64 i) :: (d16 [.dead])), [(16000, ⟨.box, 27, 3, [[(.ro 19 b0_0), (.ro 6 b0_1), (.ro 8 b0_2)]]⟩), (19200, ⟨.arr, 9, 1, R1⟩)]⟩
noncomputable def X91_0 (k : Ex → St → Option CR) (t : LL) : Option CR := k (.exit 0) ⟨(.dead :: .dead :: .dead :: (.slc 19200 (t).length) :: (d16 [.dead, .dead])), [(19200, ⟨.arr, 9, 1, t⟩)]⟩
noncomputable def ks91_0 : List SK := (.f .dead :: .f (.ref 16000 1 0 0) :: .f .dead :: .f (.slc 19200 1) :: .f (.int .i64) :: (f16 [.f .dead]))
noncomputable def hs91_0 : List HK := [⟨16000, .box, 27, 3, some [.ro 19, .ro 6, .ro 8]⟩, ⟨19200, .arr, 9, 1, none⟩]
noncomputable def Lm91_0 (s : St) (k : Ex → St → Option CR) : Option CR := bif chkS ks91_0 hs91_0 s then (G_skirmishref09_Techs_0 (aRh s 0 2) FU (blkAt s.heap 1).2.rows (sI s 4)).bind (X91_0 k) else none
noncomputable def L91_0 (s : St) (k : Ex → St → Option CR) : Option CR := Lm91_0 (maskS (maskOf ks91_0) s) k
noncomputable def L91 : LT' := fun i s k => bif Nat.beq i 0 then L91_0 s k else none
noncomputable def F_skirmishref09_Techs (zp zn zq : LL) : Option (LL) := Option.bind (G_skirmishref09_Techs_0 zq FU [] (0 : Int)) fun t => some t
noncomputable def enc91 (t : LL) : CR := ⟨true, (.slc 0 (t).length), [], [⟨.arr, 9, 1, t⟩]⟩
noncomputable def ks91 : List SK := [.agg [.ro 19, .ro 6, .ro 8]]
noncomputable def A91 (us : List AVal) := F_skirmishref09_Techs (aR us 0 0) (aR us 0 1) (aR us 0 2)
noncomputable def S91 (us : List AVal) : Call := bif chkA ks91 us then Call.of (A91 us) enc91 else Call.none
noncomputable def C91 := AI.ext 91 S91 C140
@[reducible] noncomputable def B91_0 := bodyOf TT TU GL0 C140 ownF L91 (lp Tryz.f91 0)
@[reducible] noncomputable def K91_0 (k : Ex → St → Option CR) : Ex → St → Option CR := fun e s => k e (maskS (W91_0 e) s)
theorem spec91_0 (k : Ex → St → Option CR) : ∀ (m : Nat) (R1 : LL) (i : Int) (b0_0 b0_1 b0_2 : LL), loopN B91_0 m (E91_0 R1 i b0_0 b0_1 b0_2) (K91_0 k) = (G_skirmishref09_Techs_0 b0_2 m R1 i).bind (X91_0 k)
 | 0, _, _, _, _, _ => rfl
 | m + 1, R1, i, b0_0, b0_1, b0_2 =>
 Eq.trans (by kernel_rfl) (nd rfl (nd rfl (nb fun r => (nd rfl (nd (show ((((verEq R1.length R1.length) && true) && (roomOk (R1.length + 1) 16))) = _ from (n_andL (n_andL (verEq_rfl _) rfl) rfl)) (spec91_0 k m (R1 ++ [[(AVal.sc (Value.string (cS r 0)))]]) (wr (i + (1 : Int))) b0_0 b0_1 b0_2) rfl) rfl)) rfl) rfl)
theorem okL91_0 : LoopOk TT TU GL0 C140 ownF L91 (lp Tryz.f91 0) :=
 loopOk_of ks91_0 hs91_0 W91_0 FU _ (fun s k => by kernel_rfl) (fun s k => spec91_0 k FU (blkAt s.heap 1).2.rows (sI s 4) (aRh s 0 0) (aRh s 0 1) (aRh s 0 2))
theorem run91 (zp zn zq : LL) : fcall TT TU GL0 C140 ownF true L91 Tryz.f91 [(.agg [(.ro 19 zp), (.ro 6 zn), (.ro 8 zq)])] = (F_skirmishref09_Techs zp zn zq).bind fun t => some (enc91 t) :=
 Eq.trans (by kernel_rfl) (nb fun t => (nu (vr t) rfl))
theorem lib91 : Lib Tryz.prog GL0 C91 :=
 Lib.fn lib140 mixed TT_ok Tryz.func91 (by decide +kernel) (by kernel_rfl) true L91 (loops_of 1 (by kernel_rfl) (belowS below0 okL91_0)) ks91 (F := A91) (fun us => rfl) (fun us => run91 _ _ _) (fun t => rfl)
noncomputable def W141_0 : Ex → List Bool
 | .ret => (false :: false :: true :: (e16 (e16 (e16 [false]))))
 | .exit n => bif Nat.beq n 0 then (e4 (e16 (e16 (e16 [])))) else []
 | .normal => []
noncomputable def G_skirmishref09_Name_0 (s1 : ByteArray) : Nat → Int → Option (Bool)
 | 0, _ => none
 | m + 1, i => bif (decide (i < (Int.ofNat (ByteArray.size s1)))) then bif (decide ((0 : Int) ≤ i)) then bif (decide ((byteA s1 i) ≥ (97 : Int))) then bif (!(decide ((byteA s1 i) ≤ (122 : Int)))) then bif (decide ((byteA s1 i) ≥ (48 : Int))) then bif (!(decide ((byteA s1 i) ≤ (57 : Int)))) then bif ((byteA s1 i) != (95 : Int)) then some true else
 G_skirmishref09_Name_0 s1 m (wr (i + (1 : Int))) else
 G_skirmishref09_Name_0 s1 m (wr (i + (1 : Int))) else bif ((byteA s1 i) != (95 : Int)) then some true else
 G_skirmishref09_Name_0 s1 m (wr (i + (1 : Int))) else
 G_skirmishref09_Name_0 s1 m (wr (i + (1 : Int))) else bif (decide ((byteA s1 i) ≥ (48 : Int))) then bif (!(decide ((byteA s1 i) ≤ (57 : Int)))) then bif ((byteA s1 i) != (95 : Int)) then some true else
 G_skirmishref09_Name_0 s1 m (wr (i + (1 : Int))) else
 G_skirmishref09_Name_0 s1 m (wr (i + (1 : Int))) else bif ((byteA s1 i) != (95 : Int)) then some true else
 G_skirmishref09_Name_0 s1 m (wr (i + (1 : Int))) else none else some false
noncomputable def E141_0 (s1 : ByteArray) (i : Int) : St := ⟨((.sc (.string s1)) :: .dead :: .dead :: (i64 i) :: (d16 (d16 (d16 [])))), []⟩
noncomputable def X141_0 (k : Ex → St → Option CR) (t : Bool) : Option CR := bif t then k .ret ⟨(.dead :: .dead :: (bo false) :: (d16 (d16 (d16 [.dead])))), []⟩ else k (.exit 0) ⟨(d4 (d16 (d16 (d16 [])))), []⟩
noncomputable def ks141_0 : List SK := (.f (.str) :: .f .dead :: .f .dead :: .f (.int .i64) :: (f16 (f16 (f16 []))))
noncomputable def hs141_0 : List HK := []
noncomputable def Lm141_0 (s : St) (k : Ex → St → Option CR) : Option CR := bif chkS ks141_0 hs141_0 s then (G_skirmishref09_Name_0 (sS s 0) FU (sI s 3)).bind (X141_0 k) else none
noncomputable def L141_0 (s : St) (k : Ex → St → Option CR) : Option CR := Lm141_0 (maskS (maskOf ks141_0) s) k
noncomputable def L141 : LT' := fun i s k => bif Nat.beq i 0 then L141_0 s k else none
noncomputable def F_skirmishref09_Name (s1 : ByteArray) : Option (Bool) := bif (decide ((Int.ofNat (ByteArray.size s1)) < (1 : Int))) then some false else bif (decide ((Int.ofNat (ByteArray.size s1)) > (12 : Int))) then some false else bif (decide ((0 : Int) < (Int.ofNat (ByteArray.size s1)))) then bif (decide ((byteA s1 (0 : Int)) < (97 : Int))) then some false else bif (decide ((byteA s1 (0 : Int)) > (122 : Int))) then some false else Option.bind (G_skirmishref09_Name_0 s1 FU (0 : Int)) fun t => bif t then some false else some true else none
noncomputable def enc141 (t : Bool) : CR := ⟨true, (bo t), [], []⟩
noncomputable def ks141 : List SK := [.f (.str)]
noncomputable def A141 (us : List AVal) := F_skirmishref09_Name (toS (cIa us 0))
noncomputable def S141 (us : List AVal) : Call := bif chkA ks141 us then Call.of (A141 us) enc141 else Call.none
noncomputable def C141 := AI.ext 141 S141 C91
@[reducible] noncomputable def B141_0 := bodyOf TT TU GL0 C91 ownF L141 (lp Tryz.f141 0)
@[reducible] noncomputable def K141_0 (k : Ex → St → Option CR) : Ex → St → Option CR := fun e s => k e (maskS (W141_0 e) s)
theorem spec141_0 (k : Ex → St → Option CR) : ∀ (m : Nat) (s1 : ByteArray) (i : Int), loopN B141_0 m (E141_0 s1 i) (K141_0 k) = (G_skirmishref09_Name_0 s1 m i).bind (X141_0 k)
 | 0, _, _ => rfl
 | m + 1, s1, i =>
 Eq.trans (by kernel_rfl) (nc rfl (fun h0 => (nd (show (((decide ((0 : Int) ≤ i)) && (decide (i < (Int.ofNat (ByteArray.size s1)))))) = _ from (n_andR rfl h0)) (nd rfl (nd rfl (nd rfl (nd rfl (nd rfl rfl (spec141_0 k m s1 (wr (i + (1 : Int))))) (spec141_0 k m s1 (wr (i + (1 : Int))))) (nd rfl rfl (spec141_0 k m s1 (wr (i + (1 : Int)))))) (spec141_0 k m s1 (wr (i + (1 : Int))))) (nd rfl (nd rfl (nd rfl rfl (spec141_0 k m s1 (wr (i + (1 : Int))))) (spec141_0 k m s1 (wr (i + (1 : Int))))) (nd rfl rfl (spec141_0 k m s1 (wr (i + (1 : Int))))))) rfl)) fun h0 => rfl)
theorem okL141_0 : LoopOk TT TU GL0 C91 ownF L141 (lp Tryz.f141 0) :=
 loopOk_of ks141_0 hs141_0 W141_0 FU _ (fun s k => by kernel_rfl) (fun s k => spec141_0 k FU (sS s 0) (sI s 3))
theorem run141 (s1 : ByteArray) : fcall TT TU GL0 C91 ownF true L141 Tryz.f141 [(.sc (.string s1))] = (F_skirmishref09_Name s1).bind fun t => some (enc141 t) :=
 Eq.trans (by kernel_rfl) (nd rfl rfl (nd rfl rfl (nc (show (((decide ((0 : Int) ≤ (0 : Int))) && (decide ((0 : Int) < (Int.ofNat (ByteArray.size s1)))))) = _ from (n_andL (by kernel_rfl) rfl)) (fun h2 => (nd rfl rfl (nu (show ((decide ((0 : Int) ≤ (0 : Int))) && (decide ((0 : Int) < (Int.ofNat (ByteArray.size s1))))) = true from (n_andL (by kernel_rfl) h2)) (nd rfl rfl (nb fun t => (nd rfl rfl rfl)))))) fun h2 => rfl)))
theorem lib141 : Lib Tryz.prog GL0 C141 :=
 Lib.fn lib91 mixed TT_ok Tryz.func141 (by decide +kernel) (by kernel_rfl) true L141 (loops_of 1 (by kernel_rfl) (belowS below0 okL141_0)) ks141 (F := A141) (fun us => rfl) (fun us => run141 _) (fun t => rfl)
noncomputable def W89_0 : Ex → List Bool
 | .ret => (false :: false :: true :: (e4 (e16 [false, false])))
 | .exit n => bif Nat.beq n 0 then (e4 (e4 (e16 [false]))) else []
 | .normal => []
noncomputable def G_skirmishref09_named_0 (R0 : LL) : Nat → Int → Option (Bool)
 | 0, _ => none
 | m + 1, i => bif (decide (i < (Int.ofNat R0.length))) then bif ((decide ((0 : Int) ≤ i)) && (decide (i < (Int.ofNat R0.length)))) then Option.bind (R0[i.toNat]?) fun r => bif (chk [LT.str] r) then Option.bind (F_skirmishref09_Name (cS r 0)) fun t => bif (!t) then some true else
 G_skirmishref09_named_0 R0 m (wr (i + (1 : Int))) else none else none else some false
noncomputable def E89_0 (R0 : LL) (i : Int) : St := ⟨(.dead :: .dead :: .dead :: (.slc 19216 (R0).length) :: (i64 i) :: (d4 (d16 []))), [(19216, ⟨.arr, 9, 1, R0⟩)]⟩
noncomputable def X89_0 (k : Ex → St → Option CR) (t : Bool) : Option CR := bif t then k .ret ⟨(.dead :: .dead :: (bo false) :: (d4 (d16 [.dead, .dead]))), []⟩ else k (.exit 0) ⟨(d4 (d4 (d16 [.dead]))), []⟩
noncomputable def ks89_0 : List SK := (.f .dead :: .f .dead :: .f .dead :: .f (.slc 19216 0) :: .f (.int .i64) :: (f4 (f16 [])))
noncomputable def hs89_0 : List HK := [⟨19216, .arr, 9, 1, none⟩]
noncomputable def Lm89_0 (s : St) (k : Ex → St → Option CR) : Option CR := bif chkS ks89_0 hs89_0 s then (G_skirmishref09_named_0 (blkAt s.heap 0).2.rows FU (sI s 4)).bind (X89_0 k) else none
noncomputable def L89_0 (s : St) (k : Ex → St → Option CR) : Option CR := Lm89_0 (maskS (maskOf ks89_0) s) k
noncomputable def L89 : LT' := fun i s k => bif Nat.beq i 0 then L89_0 s k else none
noncomputable def F_skirmishref09_named (zp zn zq : LL) : Option (Bool) := Option.bind (F_skirmishref09_Units zp zn zq) fun t => Option.bind (F_skirmishref09_Weapons zp zn zq) fun t1 => bif (roomOk (t.length + t1.length) 16) then Option.bind (F_skirmishref09_Techs zp zn zq) fun t2 => bif (roomOk ((Blk.rows (Blk.mk BKind.arr 9 1 (t ++ t1))).length + t2.length) 16) then Option.bind (G_skirmishref09_named_0 (Blk.rows (Blk.mk BKind.arr 9 1 ((Blk.rows (Blk.mk BKind.arr 9 1 (t ++ t1))) ++ t2))) FU (0 : Int)) fun t3 => bif t3 then some false else some true else none else none
noncomputable def enc89 (t : Bool) : CR := ⟨true, (bo t), [], []⟩
noncomputable def ks89 : List SK := [.agg [.ro 19, .ro 6, .ro 8]]
noncomputable def A89 (us : List AVal) := F_skirmishref09_named (aR us 0 0) (aR us 0 1) (aR us 0 2)
noncomputable def S89 (us : List AVal) : Call := bif chkA ks89 us then Call.of (A89 us) enc89 else Call.none
noncomputable def C89 := AI.ext 89 S89 C141
@[reducible] noncomputable def B89_0 := bodyOf TT TU GL0 C141 ownF L89 (lp Tryz.f89 0)
@[reducible] noncomputable def K89_0 (k : Ex → St → Option CR) : Ex → St → Option CR := fun e s => k e (maskS (W89_0 e) s)
theorem spec89_0 (k : Ex → St → Option CR) : ∀ (m : Nat) (R0 : LL) (i : Int), loopN B89_0 m (E89_0 R0 i) (K89_0 k) = (G_skirmishref09_named_0 R0 m i).bind (X89_0 k)
 | 0, _, _ => rfl
 | m + 1, R0, i =>
 Eq.trans (by kernel_rfl) (nu (vr R0) (nd rfl (nd (show ((((verEq R0.length R0.length) && (decide ((0 : Int) ≤ i))) && (decide (i < (Int.ofNat R0.length))))) = _ from (n_and (n_andL (verEq_rfl _) rfl) rfl)) (nu (vr R0) (nb fun r => (nd rfl (nb fun t => (nd rfl rfl (spec89_0 k m R0 (wr (i + (1 : Int)))))) rfl))) rfl) rfl))
theorem okL89_0 : LoopOk TT TU GL0 C141 ownF L89 (lp Tryz.f89 0) :=
 loopOk_of ks89_0 hs89_0 W89_0 FU _ (fun s k => by kernel_rfl) (fun s k => spec89_0 k FU (blkAt s.heap 0).2.rows (sI s 4))
theorem run89 (zp zn zq : LL) : fcall TT TU GL0 C141 ownF true L89 Tryz.f89 [(.agg [(.ro 19 zp), (.ro 6 zn), (.ro 8 zq)])] = (F_skirmishref09_named zp zn zq).bind fun t => some (enc89 t) :=
 Eq.trans (by kernel_rfl) (nb fun t => (nu (show ((((true && (verEq t.length t.length)) && true) && true) && true) = true from (n_andL (n_andL (n_andL (n_andL rfl (verEq_rfl _)) rfl) rfl) rfl)) (nb fun t1 => (nu (show ((((true && (verEq t1.length t1.length)) && true) && true) && true) = true from (n_andL (n_andL (n_andL (n_andL rfl (verEq_rfl _)) rfl) rfl) rfl)) (nu (vr t1) (nd (show ((((verEq t.length t.length) && true) && (roomOk (t.length + t1.length) 16))) = _ from (n_andL (n_andL (verEq_rfl _) rfl) rfl)) (nb fun t2 => (nu (show ((((true && (verEq t2.length t2.length)) && true) && true) && true) = true from (n_andL (n_andL (n_andL (n_andL rfl (verEq_rfl _)) rfl) rfl) rfl)) (nu (vr t2) (nd (show ((((verEq (Blk.rows (Blk.mk BKind.arr 9 1 (t ++ t1))).length (t ++ t1).length) && true) && (roomOk ((Blk.rows (Blk.mk BKind.arr 9 1 (t ++ t1))).length + t2.length) 16))) = _ from (n_andL (n_andL (by first | exact verEq_of rfl | simp [verEq, blkLen, blkAt]) rfl) rfl)) (nu (show (((true && (verEq ((Blk.rows (Blk.mk BKind.arr 9 1 (t ++ t1))) ++ t2).length (blkLen [(Prod.mk 19216 (Blk.mk BKind.arr 9 1 ((Blk.rows (Blk.mk BKind.arr 9 1 (t ++ t1))) ++ t2)))] 0))) && true) && true) = true from (n_andL (n_andL (n_andL rfl (by first | exact verEq_of rfl | simp [verEq, blkLen, blkAt])) rfl) rfl)) (nb fun t3 => (nd rfl rfl rfl))) rfl)))) rfl))))))
theorem lib89 : Lib Tryz.prog GL0 C89 :=
 Lib.fn lib141 mixed TT_ok Tryz.func89 (by decide +kernel) (by kernel_rfl) true L89 (loops_of 1 (by kernel_rfl) (belowS below0 okL89_0)) ks89 (F := A89) (fun us => rfl) (fun us => run89 _ _ _) (fun t => rfl)
noncomputable def W142_0 : Ex → List Bool
 | .ret => (false :: false :: true :: (e16 [false]))
 | .exit n => bif Nat.beq n 0 then (e4 (e16 [])) else []
 | .normal => []
noncomputable def G_skirmishref09_ascending_0 (l : LL) : Nat → Int → Option (Bool)
 | 0, _ => none
 | m + 1, i => bif (decide (i < (Int.ofNat l.length))) then bif (decide ((0 : Int) ≤ (wr (i - (1 : Int))))) then Option.bind (l[(wr (i - (1 : Int))).toNat]?) fun r => bif (chk [LT.str] r) then bif (decide ((0 : Int) ≤ i)) then Option.bind (l[i.toNat]?) fun r1 => bif (chk [LT.str] r1) then bif (!(Op.bytesLess (ByteArray.toList (cS r 0)) (ByteArray.toList (cS r1 0)))) then some true else
 G_skirmishref09_ascending_0 l m (wr (i + (1 : Int))) else none else none else none else none else some false
noncomputable def E142_0 (l : LL) (i : Int) : St := ⟨((.ro 1 l) :: .dead :: .dead :: (i64 i) :: (d16 [])), []⟩
noncomputable def X142_0 (k : Ex → St → Option CR) (t : Bool) : Option CR := bif t then k .ret ⟨(.dead :: .dead :: (bo false) :: (d16 [.dead])), []⟩ else k (.exit 0) ⟨(d4 (d16 [])), []⟩
noncomputable def ks142_0 : List SK := (.f (.ro 1) :: .f .dead :: .f .dead :: .f (.int .i64) :: (f16 []))
noncomputable def hs142_0 : List HK := []
noncomputable def Lm142_0 (s : St) (k : Ex → St → Option CR) : Option CR := bif chkS ks142_0 hs142_0 s then (G_skirmishref09_ascending_0 (sR s 0) FU (sI s 3)).bind (X142_0 k) else none
noncomputable def L142_0 (s : St) (k : Ex → St → Option CR) : Option CR := Lm142_0 (maskS (maskOf ks142_0) s) k
noncomputable def L142 : LT' := fun i s k => bif Nat.beq i 0 then L142_0 s k else none
noncomputable def F_skirmishref09_ascending (l : LL) : Option (Bool) := Option.bind (G_skirmishref09_ascending_0 l FU (1 : Int)) fun t => bif t then some false else some true
noncomputable def enc142 (t : Bool) : CR := ⟨true, (bo t), [], []⟩
noncomputable def ks142 : List SK := [.f (.ro 1)]
noncomputable def A142 (us : List AVal) := F_skirmishref09_ascending (roRows (cIa us 0))
noncomputable def S142 (us : List AVal) : Call := bif chkA ks142 us then Call.of (A142 us) enc142 else Call.none
noncomputable def C142 := AI.ext 142 S142 C89
@[reducible] noncomputable def B142_0 := bodyOf TT TU GL0 C89 ownF L142 (lp Tryz.f142 0)
@[reducible] noncomputable def K142_0 (k : Ex → St → Option CR) : Ex → St → Option CR := fun e s => k e (maskS (W142_0 e) s)
theorem spec142_0 (k : Ex → St → Option CR) : ∀ (m : Nat) (l : LL) (i : Int), loopN B142_0 m (E142_0 l i) (K142_0 k) = (G_skirmishref09_ascending_0 l m i).bind (X142_0 k)
 | 0, _, _ => rfl
 | m + 1, l, i =>
 Eq.trans (by kernel_rfl) (nd rfl (nd rfl (nb fun r => (nd rfl (nd rfl (nb fun r1 => (nd rfl (nd rfl rfl (spec142_0 k m l (wr (i + (1 : Int))))) rfl)) rfl) rfl)) rfl) rfl)
theorem okL142_0 : LoopOk TT TU GL0 C89 ownF L142 (lp Tryz.f142 0) :=
 loopOk_of ks142_0 hs142_0 W142_0 FU _ (fun s k => by kernel_rfl) (fun s k => spec142_0 k FU (sR s 0) (sI s 3))
theorem run142 (l : LL) : fcall TT TU GL0 C89 ownF true L142 Tryz.f142 [(.ro 1 l)] = (F_skirmishref09_ascending l).bind fun t => some (enc142 t) :=
 Eq.trans (by kernel_rfl) (nb fun t => (nd rfl rfl rfl))
theorem lib142 : Lib Tryz.prog GL0 C142 :=
 Lib.fn lib89 mixed TT_ok Tryz.func142 (by decide +kernel) (by kernel_rfl) true L142 (loops_of 1 (by kernel_rfl) (belowS below0 okL142_0)) ks142 (F := A142) (fun us => rfl) (fun us => run142 _) (fun t => rfl)
noncomputable def W90_0 : Ex → List Bool
 | .ret => (false :: false :: true :: (e4 (e4 (e4 (e16 (e16 (e16 [false, false, false])))))))
 | .exit n => bif Nat.beq n 0 then (false :: true :: false :: true :: (e4 (e4 (e4 (e16 (e16 (e16 [false, false]))))))) else []
 | .normal => []
noncomputable def G_skirmishref09_ordered_0 (b0_0 : LL) : Nat → Bool → Int → Option (Bool)
 | 0, _, _ => none
 | m + 1, ok, i => bif (decide (i < (Int.ofNat b0_0.length))) then bif (decide ((0 : Int) ≤ i)) then Option.bind (b0_0[i.toNat]?) fun r => bif (chk y0 r) then bif ok then Option.bind (F_skirmishref09_ascending (roRows (AVal.ro 1 (cR r 16)))) fun t => bif t then Option.bind (F_skirmishref09_ascending (roRows (AVal.ro 1 (cR r 17)))) fun t1 => bif t1 then Option.bind (F_skirmishref09_ascending (roRows (AVal.ro 1 (cR r 18)))) fun t2 =>
 G_skirmishref09_ordered_0 b0_0 m t2 (wr (i + (1 : Int))) else
 G_skirmishref09_ordered_0 b0_0 m false (wr (i + (1 : Int))) else
 G_skirmishref09_ordered_0 b0_0 m false (wr (i + (1 : Int))) else
 G_skirmishref09_ordered_0 b0_0 m false (wr (i + (1 : Int))) else none else none else some ok
noncomputable def E90_0 (ok : Bool) (i : Int) (b0_0 b0_1 b0_2 : LL) : St := ⟨(.dead :: (.ref 16000 1 0 0) :: .dead :: (bo ok) :: (i64 i) :: (d4 (d4 (d4 (d16 (d16 (d16 [.dead]))))))), [(16000, ⟨.box, 27, 3, [[(.ro 19 b0_0), (.ro 6 b0_1), (.ro 8 b0_2)]]⟩)]⟩
noncomputable def X90_0 (b0_0 b0_1 b0_2 : LL) (k : Ex → St → Option CR) (t : Bool) : Option CR := k (.exit 0) ⟨(.dead :: (.ref 16000 1 0 0) :: .dead :: (bo t) :: (d4 (d4 (d4 (d16 (d16 (d16 [.dead, .dead]))))))), [(16000, ⟨.box, 27, 3, [[(.ro 19 b0_0), (.ro 6 b0_1), (.ro 8 b0_2)]]⟩)]⟩
noncomputable def ks90_0 : List SK := (.f .dead :: .f (.ref 16000 1 0 0) :: .f .dead :: .f (.bool) :: .f (.int .i64) :: (f4 (f4 (f4 (f16 (f16 (f16 [.f .dead])))))))
noncomputable def hs90_0 : List HK := [⟨16000, .box, 27, 3, some [.ro 19, .ro 6, .ro 8]⟩]
noncomputable def Lm90_0 (s : St) (k : Ex → St → Option CR) : Option CR := bif chkS ks90_0 hs90_0 s then (G_skirmishref09_ordered_0 (aRh s 0 0) FU (sB s 3) (sI s 4)).bind (X90_0 (aRh s 0 0) (aRh s 0 1) (aRh s 0 2) k) else none
noncomputable def L90_0 (s : St) (k : Ex → St → Option CR) : Option CR := Lm90_0 (maskS (maskOf ks90_0) s) k
noncomputable def W90_1 : Ex → List Bool
 | .ret => (false :: false :: true :: (e4 (e4 (e4 (e16 (e16 (e16 [false, false, false])))))))
 | .exit n => bif Nat.beq n 2 then (false :: false :: false :: true :: (e4 (e4 (e4 (e16 (e16 (e16 [false, false]))))))) else []
 | .normal => []
noncomputable def G_skirmishref09_ordered_1 (b0_2 : LL) : Nat → Bool → Int → Option (Bool)
 | 0, _, _ => none
 | m + 1, ok, i => bif (decide (i < (Int.ofNat b0_2.length))) then bif ok then bif (decide ((0 : Int) ≤ i)) then Option.bind (b0_2[i.toNat]?) fun r => bif (chk y2 r) then Option.bind (F_skirmishref09_ascending (roRows (AVal.ro 1 (cR r 1)))) fun t =>
 G_skirmishref09_ordered_1 b0_2 m t (wr (i + (1 : Int))) else none else none else
 G_skirmishref09_ordered_1 b0_2 m false (wr (i + (1 : Int))) else some ok
noncomputable def E90_1 (ok : Bool) (i : Int) (b0_0 b0_1 b0_2 : LL) : St := ⟨(.dead :: (.ref 16000 1 0 0) :: .dead :: (bo ok) :: .dead :: .dead :: (i64 i) :: (d4 (d4 (d16 (d16 (d16 [.dead, .dead, .dead])))))), [(16000, ⟨.box, 27, 3, [[(.ro 19 b0_0), (.ro 6 b0_1), (.ro 8 b0_2)]]⟩)]⟩
noncomputable def X90_1 (k : Ex → St → Option CR) (t : Bool) : Option CR := k (.exit 2) ⟨(.dead :: .dead :: .dead :: (bo t) :: (d4 (d4 (d4 (d16 (d16 (d16 [.dead, .dead]))))))), []⟩
noncomputable def ks90_1 : List SK := (.f .dead :: .f (.ref 16000 1 0 0) :: .f .dead :: .f (.bool) :: .f .dead :: .f .dead :: .f (.int .i64) :: (f4 (f4 (f16 (f16 (f16 [.f .dead, .f .dead, .f .dead]))))))
noncomputable def hs90_1 : List HK := [⟨16000, .box, 27, 3, some [.ro 19, .ro 6, .ro 8]⟩]
noncomputable def Lm90_1 (s : St) (k : Ex → St → Option CR) : Option CR := bif chkS ks90_1 hs90_1 s then (G_skirmishref09_ordered_1 (aRh s 0 2) FU (sB s 3) (sI s 6)).bind (X90_1 k) else none
noncomputable def L90_1 (s : St) (k : Ex → St → Option CR) : Option CR := Lm90_1 (maskS (maskOf ks90_1) s) k
noncomputable def L90 : LT' := fun i s k => bif Nat.beq i 0 then L90_0 s k else bif Nat.beq i 2 then L90_1 s k else none
noncomputable def F_skirmishref09_ordered (zp zn zq : LL) : Option (Bool) := Option.bind (F_skirmishref09_Units zp zn zq) fun t => Option.bind (F_skirmishref09_ascending t) fun t1 => bif t1 then Option.bind (F_skirmishref09_Weapons zp zn zq) fun t2 => Option.bind (F_skirmishref09_ascending t2) fun t3 => bif t3 then Option.bind (F_skirmishref09_Techs zp zn zq) fun t4 => Option.bind (F_skirmishref09_ascending t4) fun t5 => Option.bind (G_skirmishref09_ordered_0 zp FU t5 (0 : Int)) fun t6 => Option.bind (G_skirmishref09_ordered_1 zq FU t6 (0 : Int)) fun t7 => some t7 else Option.bind (G_skirmishref09_ordered_0 zp FU false (0 : Int)) fun t8 => Option.bind (G_skirmishref09_ordered_1 zq FU t8 (0 : Int)) fun t9 => some t9 else Option.bind (G_skirmishref09_ordered_0 zp FU false (0 : Int)) fun t10 => Option.bind (G_skirmishref09_ordered_1 zq FU t10 (0 : Int)) fun t11 => some t11
noncomputable def enc90 (t : Bool) : CR := ⟨true, (bo t), [], []⟩
noncomputable def ks90 : List SK := [.agg [.ro 19, .ro 6, .ro 8]]
noncomputable def A90 (us : List AVal) := F_skirmishref09_ordered (aR us 0 0) (aR us 0 1) (aR us 0 2)
noncomputable def S90 (us : List AVal) : Call := bif chkA ks90 us then Call.of (A90 us) enc90 else Call.none
noncomputable def C90 := AI.ext 90 S90 C142
@[reducible] noncomputable def B90_0 := bodyOf TT TU GL0 C142 ownF L90 (lp Tryz.f90 0)
@[reducible] noncomputable def K90_0 (k : Ex → St → Option CR) : Ex → St → Option CR := fun e s => k e (maskS (W90_0 e) s)
theorem spec90_0 (k : Ex → St → Option CR) : ∀ (m : Nat) (ok : Bool) (i : Int) (b0_0 b0_1 b0_2 : LL), loopN B90_0 m (E90_0 ok i b0_0 b0_1 b0_2) (K90_0 k) = (G_skirmishref09_ordered_0 b0_0 m ok i).bind (X90_0 b0_0 b0_1 b0_2 k)
 | 0, _, _, _, _, _ => rfl
 | m + 1, ok, i, b0_0, b0_1, b0_2 =>
 Eq.trans (by kernel_rfl) (nd rfl (nd rfl (nb fun r => (nd rfl (nd rfl (nb fun t => (nd rfl (nb fun t1 => (nd rfl (nb fun t2 => (spec90_0 k m t2 (wr (i + (1 : Int))) b0_0 b0_1 b0_2)) (spec90_0 k m false (wr (i + (1 : Int))) b0_0 b0_1 b0_2))) (spec90_0 k m false (wr (i + (1 : Int))) b0_0 b0_1 b0_2))) (spec90_0 k m false (wr (i + (1 : Int))) b0_0 b0_1 b0_2)) rfl)) rfl) rfl)
theorem okL90_0 : LoopOk TT TU GL0 C142 ownF L90 (lp Tryz.f90 0) :=
 loopOk_of ks90_0 hs90_0 W90_0 FU _ (fun s k => by kernel_rfl) (fun s k => spec90_0 k FU (sB s 3) (sI s 4) (aRh s 0 0) (aRh s 0 1) (aRh s 0 2))
@[reducible] noncomputable def B90_1 := bodyOf TT TU GL0 C142 ownF L90 (lp Tryz.f90 1)
@[reducible] noncomputable def K90_1 (k : Ex → St → Option CR) : Ex → St → Option CR := fun e s => k e (maskS (W90_1 e) s)
theorem spec90_1 (k : Ex → St → Option CR) : ∀ (m : Nat) (ok : Bool) (i : Int) (b0_0 b0_1 b0_2 : LL), loopN B90_1 m (E90_1 ok i b0_0 b0_1 b0_2) (K90_1 k) = (G_skirmishref09_ordered_1 b0_2 m ok i).bind (X90_1 k)
 | 0, _, _, _, _, _ => rfl
 | m + 1, ok, i, b0_0, b0_1, b0_2 =>
 Eq.trans (by kernel_rfl) (nd rfl (nd rfl (nd rfl (nb fun r => (nd rfl (nb fun t => (spec90_1 k m t (wr (i + (1 : Int))) b0_0 b0_1 b0_2)) rfl)) rfl) (spec90_1 k m false (wr (i + (1 : Int))) b0_0 b0_1 b0_2)) rfl)
theorem okL90_1 : LoopOk TT TU GL0 C142 ownF L90 (lp Tryz.f90 1) :=
 loopOk_of ks90_1 hs90_1 W90_1 FU _ (fun s k => by kernel_rfl) (fun s k => spec90_1 k FU (sB s 3) (sI s 6) (aRh s 0 0) (aRh s 0 1) (aRh s 0 2))
theorem run90 (zp zn zq : LL) : fcall TT TU GL0 C142 ownF true L90 Tryz.f90 [(.agg [(.ro 19 zp), (.ro 6 zn), (.ro 8 zq)])] = (F_skirmishref09_ordered zp zn zq).bind fun t => some (enc90 t) :=
 Eq.trans (by kernel_rfl) (nb fun t => (nu (show ((((true && (verEq t.length t.length)) && true) && true) && true) = true from (n_andL (n_andL (n_andL (n_andL rfl (verEq_rfl _)) rfl) rfl) rfl)) (nu (vr t) (nb fun t1 => (nd rfl (nb fun t2 => (nu (show ((((true && (verEq t2.length t2.length)) && true) && true) && true) = true from (n_andL (n_andL (n_andL (n_andL rfl (verEq_rfl _)) rfl) rfl) rfl)) (nu (vr t2) (nb fun t3 => (nd rfl (nb fun t4 => (nu (show ((((true && (verEq t4.length t4.length)) && true) && true) && true) = true from (n_andL (n_andL (n_andL (n_andL rfl (verEq_rfl _)) rfl) rfl) rfl)) (nu (vr t4) (nb fun t5 => (nb fun t6 => (nb fun t7 => rfl)))))) (nb fun t8 => (nb fun t9 => rfl))))))) (nb fun t10 => (nb fun t11 => rfl)))))))
theorem lib90 : Lib Tryz.prog GL0 C90 :=
 Lib.fn lib142 mixed TT_ok Tryz.func90 (by decide +kernel) (by kernel_rfl) true L90 (loops_of 2 (by kernel_rfl) (belowS (belowS below0 okL90_0) okL90_1)) ks90 (F := A90) (fun us => rfl) (fun us => run90 _ _ _) (fun t => rfl)
noncomputable def W92_0 : Ex → List Bool
 | .ret => (e4 (true :: (e4 (e4 (e4 [false])))))
 | .exit n => bif Nat.beq n 0 then (e16 [false, false]) else []
 | .normal => []
noncomputable def G_skirmishref09_Has_0 (l : LL) (s1 : ByteArray) : Nat → Int → Option (Bool)
 | 0, _ => none
 | m + 1, i => bif (decide (i < (Int.ofNat l.length))) then bif (decide ((0 : Int) ≤ i)) then Option.bind (l[i.toNat]?) fun r => bif (chk [LT.str] r) then bif (List.beq (ByteArray.toList (cS r 0)) (ByteArray.toList s1)) then some true else
 G_skirmishref09_Has_0 l s1 m (wr (i + (1 : Int))) else none else none else some false
noncomputable def E92_0 (l : LL) (s1 : ByteArray) (i : Int) : St := ⟨((.ro 1 l) :: (.sc (.string s1)) :: .dead :: .dead :: .dead :: (i64 i) :: (d4 (d4 (d4 [])))), []⟩
noncomputable def X92_0 (k : Ex → St → Option CR) (t : Bool) : Option CR := bif t then k .ret ⟨(d4 ((bo true) :: (d4 (d4 (d4 [.dead]))))), []⟩ else k (.exit 0) ⟨(d16 [.dead, .dead]), []⟩
noncomputable def ks92_0 : List SK := (.f (.ro 1) :: .f (.str) :: .f .dead :: .f .dead :: .f .dead :: .f (.int .i64) :: (f4 (f4 (f4 []))))
noncomputable def hs92_0 : List HK := []
noncomputable def Lm92_0 (s : St) (k : Ex → St → Option CR) : Option CR := bif chkS ks92_0 hs92_0 s then (G_skirmishref09_Has_0 (sR s 0) (sS s 1) FU (sI s 5)).bind (X92_0 k) else none
noncomputable def L92_0 (s : St) (k : Ex → St → Option CR) : Option CR := Lm92_0 (maskS (maskOf ks92_0) s) k
noncomputable def L92 : LT' := fun i s k => bif Nat.beq i 0 then L92_0 s k else none
noncomputable def F_skirmishref09_Has (l : LL) (s1 : ByteArray) : Option (Bool) := Option.bind (G_skirmishref09_Has_0 l s1 FU (0 : Int)) fun t => bif t then some true else some false
noncomputable def enc92 (t : Bool) : CR := ⟨true, (bo t), [], []⟩
noncomputable def ks92 : List SK := [.f (.ro 1), .f (.str)]
noncomputable def A92 (us : List AVal) := F_skirmishref09_Has (roRows (cIa us 0)) (toS (cIa us 1))
noncomputable def S92 (us : List AVal) : Call := bif chkA ks92 us then Call.of (A92 us) enc92 else Call.none
noncomputable def C92 := AI.ext 92 S92 C90
@[reducible] noncomputable def B92_0 := bodyOf TT TU GL0 C90 ownF L92 (lp Tryz.f92 0)
@[reducible] noncomputable def K92_0 (k : Ex → St → Option CR) : Ex → St → Option CR := fun e s => k e (maskS (W92_0 e) s)
theorem spec92_0 (k : Ex → St → Option CR) : ∀ (m : Nat) (l : LL) (s1 : ByteArray) (i : Int), loopN B92_0 m (E92_0 l s1 i) (K92_0 k) = (G_skirmishref09_Has_0 l s1 m i).bind (X92_0 k)
 | 0, _, _, _ => rfl
 | m + 1, l, s1, i =>
 Eq.trans (by kernel_rfl) (nd rfl (nd rfl (nb fun r => (nd rfl (nd rfl rfl (spec92_0 k m l s1 (wr (i + (1 : Int))))) rfl)) rfl) rfl)
theorem okL92_0 : LoopOk TT TU GL0 C90 ownF L92 (lp Tryz.f92 0) :=
 loopOk_of ks92_0 hs92_0 W92_0 FU _ (fun s k => by kernel_rfl) (fun s k => spec92_0 k FU (sR s 0) (sS s 1) (sI s 5))
theorem run92 (l : LL) (s1 : ByteArray) : fcall TT TU GL0 C90 ownF true L92 Tryz.f92 [(.ro 1 l), (.sc (.string s1))] = (F_skirmishref09_Has l s1).bind fun t => some (enc92 t) :=
 Eq.trans (by kernel_rfl) (nb fun t => (nd rfl rfl rfl))
theorem lib92 : Lib Tryz.prog GL0 C92 :=
 Lib.fn lib90 mixed TT_ok Tryz.func92 (by decide +kernel) (by kernel_rfl) true L92 (loops_of 1 (by kernel_rfl) (belowS below0 okL92_0)) ks92 (F := A92) (fun us => rfl) (fun us => run92 _ _) (fun t => rfl)
noncomputable def F_skirmishref09_within (n lo hi : Int) : Option (Bool) := bif (decide (n ≥ lo)) then some (decide (n ≤ hi)) else some false
noncomputable def enc144 (t : Bool) : CR := ⟨true, (bo t), [], []⟩
noncomputable def ks144 : List SK := [.f (.int .i64), .f (.int .i64), .f (.int .i64)]
noncomputable def A144 (us : List AVal) := F_skirmishref09_within (toI (cIa us 0)) (toI (cIa us 1)) (toI (cIa us 2))
noncomputable def S144 (us : List AVal) : Call := bif chkA ks144 us then Call.of (A144 us) enc144 else Call.none
noncomputable def C144 := AI.ext 144 S144 C92
theorem run144 (n lo hi : Int) : fcall TT TU GL0 C92 ownF true noL Tryz.f144 [(i64 n), (i64 lo), (i64 hi)] = (F_skirmishref09_within n lo hi).bind fun t => some (enc144 t) :=
 Eq.trans (by kernel_rfl) (nd rfl rfl rfl)
theorem lib144 : Lib Tryz.prog GL0 C144 :=
 Lib.fn lib92 mixed TT_ok Tryz.func144 (by decide +kernel) (by kernel_rfl) true noL (loops_of 0 (by kernel_rfl) below0) ks144 (F := A144) (fun us => rfl) (fun us => run144 _ _ _) (fun t => rfl)
noncomputable def F_skirmishref09_stat (n : Int) : Option (Bool) := Option.bind (F_skirmishref09_within n (0 : Int) (100000 : Int)) fun t => some t
noncomputable def enc145 (t : Bool) : CR := ⟨true, (bo t), [], []⟩
noncomputable def ks145 : List SK := [.f (.int .i64)]
noncomputable def A145 (us : List AVal) := F_skirmishref09_stat (toI (cIa us 0))
noncomputable def S145 (us : List AVal) : Call := bif chkA ks145 us then Call.of (A145 us) enc145 else Call.none
noncomputable def C145 := AI.ext 145 S145 C144
theorem run145 (n : Int) : fcall TT TU GL0 C144 ownF true noL Tryz.f145 [(i64 n)] = (F_skirmishref09_stat n).bind fun t => some (enc145 t) :=
 Eq.trans (by kernel_rfl) (nb fun t => rfl)
theorem lib145 : Lib Tryz.prog GL0 C145 :=
 Lib.fn lib144 mixed TT_ok Tryz.func145 (by decide +kernel) (by kernel_rfl) true noL (loops_of 0 (by kernel_rfl) below0) ks145 (F := A145) (fun us => rfl) (fun us => run145 _) (fun t => rfl)
noncomputable def F_skirmishref09_shaped (z3 : ByteArray) (zP zZ : Bool) (zW zam zal zT zX z0 zaa zY z2 : Int) (zV : ByteArray) (z6 z5 z4 : Int) (z1 zU zL : LL) : Option (Bool) := Option.bind (F_skirmishref09_within z0 (0 : Int) (16 : Int)) fun t => bif (!t) then some false else Option.bind (F_skirmishref09_within zaa (1 : Int) (100000 : Int)) fun t1 => bif (!t1) then some false else Option.bind (F_skirmishref09_stat zY) fun t2 => bif (!t2) then some false else Option.bind (F_skirmishref09_stat z6) fun t3 => bif (!t3) then some false else Option.bind (F_skirmishref09_stat z5) fun t4 => bif (!t4) then some false else Option.bind (F_skirmishref09_stat z4) fun t5 => bif (!t5) then some false else bif zP then bif (zW == (0 : Int)) then Option.bind (F_skirmishref09_within zam (1 : Int) (4 : Int)) fun t6 => bif t6 then Option.bind (F_skirmishref09_within zal (1 : Int) (4 : Int)) fun t7 => bif t7 then bif (zT == (0 : Int)) then bif (zX == (0 : Int)) then some (z2 == (0 : Int)) else some false else some false else some false else some false else some false else Option.bind (F_skirmishref09_within zW (1 : Int) (3 : Int)) fun t8 => bif t8 then bif (zam == (0 : Int)) then bif (zal == (0 : Int)) then Option.bind (F_skirmishref09_within zT (16 : Int) (128 : Int)) fun t9 => bif t9 then Option.bind (F_skirmishref09_within zX (0 : Int) (256 : Int)) fun t10 => bif t10 then Option.bind (F_skirmishref09_stat z2) fun t11 => bif t11 then some (!zZ) else some false else some false else some false else some false else some false else some false
noncomputable def enc143 (t : Bool) : CR := ⟨true, (bo t), [], []⟩
noncomputable def ks143 : List SK := [.agg [.str, .bool, .bool, .int .i64, .int .i64, .int .i64, .int .i64, .int .i64, .int .i64, .int .i64, .int .i64, .int .i64, .str, .int .i64, .int .i64, .int .i64, .ro 1, .ro 1, .ro 1]]
noncomputable def A143 (us : List AVal) := F_skirmishref09_shaped (aS us 0 0) (aB us 0 1) (aB us 0 2) (aI us 0 3) (aI us 0 4) (aI us 0 5) (aI us 0 6) (aI us 0 7) (aI us 0 8) (aI us 0 9) (aI us 0 10) (aI us 0 11) (aS us 0 12) (aI us 0 13) (aI us 0 14) (aI us 0 15) (aR us 0 16) (aR us 0 17) (aR us 0 18)
noncomputable def S143 (us : List AVal) : Call := bif chkA ks143 us then Call.of (A143 us) enc143 else Call.none
noncomputable def C143 := AI.ext 143 S143 C145
theorem run143 (z3 : ByteArray) (zP zZ : Bool) (zW zam zal zT zX z0 zaa zY z2 : Int) (zV : ByteArray) (z6 z5 z4 : Int) (z1 zU zL : LL) : fcall TT TU GL0 C145 ownF true noL Tryz.f143 [(.agg [(.sc (.string z3)), (bo zP), (bo zZ), (i64 zW), (i64 zam), (i64 zal), (i64 zT), (i64 zX), (i64 z0), (i64 zaa), (i64 zY), (i64 z2), (.sc (.string zV)), (i64 z6), (i64 z5), (i64 z4), (.ro 1 z1), (.ro 1 zU), (.ro 1 zL)])] = (F_skirmishref09_shaped z3 zP zZ zW zam zal zT zX z0 zaa zY z2 zV z6 z5 z4 z1 zU zL).bind fun t => some (enc143 t) :=
 Eq.trans (by kernel_rfl) (nb fun t => (nd rfl rfl (nb fun t1 => (nd rfl rfl (nb fun t2 => (nd rfl rfl (nb fun t3 => (nd rfl rfl (nb fun t4 => (nd rfl rfl (nb fun t5 => (nd rfl rfl (nd rfl (nd rfl (nb fun t6 => (nd rfl (nb fun t7 => (nd rfl (nd rfl (nd rfl rfl rfl) rfl) rfl)) rfl)) rfl) (nb fun t8 => (nd rfl (nd rfl (nd rfl (nb fun t9 => (nd rfl (nb fun t10 => (nd rfl (nb fun t11 => (nd rfl rfl rfl)) rfl)) rfl)) rfl) rfl) rfl)))))))))))))))
theorem lib143 : Lib Tryz.prog GL0 C143 :=
 Lib.fn lib145 mixed TT_ok Tryz.func143 (by decide +kernel) (by kernel_rfl) true noL (loops_of 0 (by kernel_rfl) below0) ks143 (F := A143) (fun us => rfl) (fun us => run143 _ _ _ _ _ _ _ _ _ _ _ _ _ _ _ _ _ _ _) (fun t => rfl)
noncomputable def W93_0 : Ex → List Bool
 | .ret => (false :: false :: true :: (e16 (e16 (e64 [false, false, false]))))
 | .exit n => bif Nat.beq n 0 then (false :: true :: false :: true :: (e16 (e16 (e64 [false, false])))) else []
 | .normal => []
noncomputable def G_skirmishref09_numbers_0 (b0_0 : LL) : Nat → Bool → Int → Option (Bool)
 | 0, _, _ => none
 | m + 1, ok, i => bif (decide (i < (Int.ofNat b0_0.length))) then bif ok then bif (decide ((0 : Int) ≤ i)) then Option.bind (b0_0[i.toNat]?) fun r => bif (chk y0 r) then Option.bind (F_skirmishref09_shaped (cS r 0) (cB r 1) (cB r 2) (cI r 3) (cI r 4) (cI r 5) (cI r 6) (cI r 7) (cI r 8) (cI r 9) (cI r 10) (cI r 11) (cS r 12) (cI r 13) (cI r 14) (cI r 15) (roRows (AVal.ro 1 (cR r 16))) (roRows (AVal.ro 1 (cR r 17))) (roRows (AVal.ro 1 (cR r 18)))) fun t =>
 G_skirmishref09_numbers_0 b0_0 m t (wr (i + (1 : Int))) else none else none else
 G_skirmishref09_numbers_0 b0_0 m false (wr (i + (1 : Int))) else some ok
noncomputable def E93_0 (ok : Bool) (i : Int) (b0_0 b0_1 b0_2 : LL) : St := ⟨(.dead :: (.ref 16000 1 0 0) :: .dead :: (bo ok) :: (i64 i) :: (d16 (d16 (d64 [.dead])))), [(16000, ⟨.box, 27, 3, [[(.ro 19 b0_0), (.ro 6 b0_1), (.ro 8 b0_2)]]⟩)]⟩
noncomputable def X93_0 (b0_0 b0_1 b0_2 : LL) (k : Ex → St → Option CR) (t : Bool) : Option CR := k (.exit 0) ⟨(.dead :: (.ref 16000 1 0 0) :: .dead :: (bo t) :: (d16 (d16 (d64 [.dead, .dead])))), [(16000, ⟨.box, 27, 3, [[(.ro 19 b0_0), (.ro 6 b0_1), (.ro 8 b0_2)]]⟩)]⟩
noncomputable def ks93_0 : List SK := (.f .dead :: .f (.ref 16000 1 0 0) :: .f .dead :: .f (.bool) :: .f (.int .i64) :: (f16 (f16 (f64 [.f .dead]))))
noncomputable def hs93_0 : List HK := [⟨16000, .box, 27, 3, some [.ro 19, .ro 6, .ro 8]⟩]
noncomputable def Lm93_0 (s : St) (k : Ex → St → Option CR) : Option CR := bif chkS ks93_0 hs93_0 s then (G_skirmishref09_numbers_0 (aRh s 0 0) FU (sB s 3) (sI s 4)).bind (X93_0 (aRh s 0 0) (aRh s 0 1) (aRh s 0 2) k) else none
noncomputable def L93_0 (s : St) (k : Ex → St → Option CR) : Option CR := Lm93_0 (maskS (maskOf ks93_0) s) k
noncomputable def W93_1 : Ex → List Bool
 | .ret => (false :: false :: true :: (e16 (e16 (e64 [false, false, false]))))
 | .exit n => bif Nat.beq n 2 then (false :: true :: false :: true :: (e16 (e16 (e64 [false, false])))) else []
 | .normal => []
noncomputable def G_skirmishref09_numbers_1 (b0_1 : LL) : Nat → Bool → Int → Option (Bool)
 | 0, _, _ => none
 | m + 1, ok, i => bif (decide (i < (Int.ofNat b0_1.length))) then bif (decide ((0 : Int) ≤ i)) then Option.bind (b0_1[i.toNat]?) fun r => bif (chk y1 r) then bif ok then Option.bind (F_skirmishref09_within (cI r 1) (0 : Int) (8192 : Int)) fun t => bif t then Option.bind (F_skirmishref09_stat (cI r 2)) fun t1 => bif t1 then Option.bind (F_skirmishref09_stat (cI r 3)) fun t2 => bif t2 then Option.bind (F_skirmishref09_within (cI r 4) (0 : Int) (512 : Int)) fun t3 => bif t3 then Option.bind (F_skirmishref09_within (cI r 5) (0 : Int) (1024 : Int)) fun t4 =>
 G_skirmishref09_numbers_1 b0_1 m t4 (wr (i + (1 : Int))) else
 G_skirmishref09_numbers_1 b0_1 m false (wr (i + (1 : Int))) else
 G_skirmishref09_numbers_1 b0_1 m false (wr (i + (1 : Int))) else
 G_skirmishref09_numbers_1 b0_1 m false (wr (i + (1 : Int))) else
 G_skirmishref09_numbers_1 b0_1 m false (wr (i + (1 : Int))) else
 G_skirmishref09_numbers_1 b0_1 m false (wr (i + (1 : Int))) else none else none else some ok
noncomputable def E93_1 (ok : Bool) (i : Int) (b0_0 b0_1 b0_2 : LL) : St := ⟨(.dead :: (.ref 16000 1 0 0) :: .dead :: (bo ok) :: .dead :: (i64 i) :: (d16 (d16 (d64 [])))), [(16000, ⟨.box, 27, 3, [[(.ro 19 b0_0), (.ro 6 b0_1), (.ro 8 b0_2)]]⟩)]⟩
noncomputable def X93_1 (b0_0 b0_1 b0_2 : LL) (k : Ex → St → Option CR) (t : Bool) : Option CR := k (.exit 2) ⟨(.dead :: (.ref 16000 1 0 0) :: .dead :: (bo t) :: (d16 (d16 (d64 [.dead, .dead])))), [(16000, ⟨.box, 27, 3, [[(.ro 19 b0_0), (.ro 6 b0_1), (.ro 8 b0_2)]]⟩)]⟩
noncomputable def ks93_1 : List SK := (.f .dead :: .f (.ref 16000 1 0 0) :: .f .dead :: .f (.bool) :: .f .dead :: .f (.int .i64) :: (f16 (f16 (f64 []))))
noncomputable def hs93_1 : List HK := [⟨16000, .box, 27, 3, some [.ro 19, .ro 6, .ro 8]⟩]
noncomputable def Lm93_1 (s : St) (k : Ex → St → Option CR) : Option CR := bif chkS ks93_1 hs93_1 s then (G_skirmishref09_numbers_1 (aRh s 0 1) FU (sB s 3) (sI s 5)).bind (X93_1 (aRh s 0 0) (aRh s 0 1) (aRh s 0 2) k) else none
noncomputable def L93_1 (s : St) (k : Ex → St → Option CR) : Option CR := Lm93_1 (maskS (maskOf ks93_1) s) k
noncomputable def W93_2 : Ex → List Bool
 | .ret => (false :: false :: true :: (e16 (e16 (e64 [false, false, false]))))
 | .exit n => bif Nat.beq n 4 then (false :: false :: false :: true :: (e16 (e16 (e64 [false, false])))) else []
 | .normal => []
noncomputable def G_skirmishref09_numbers_2 (b0_2 : LL) : Nat → Bool → Int → Option (Bool)
 | 0, _, _ => none
 | m + 1, ok, i => bif (decide (i < (Int.ofNat b0_2.length))) then bif (decide ((0 : Int) ≤ i)) then Option.bind (b0_2[i.toNat]?) fun r => bif (chk y2 r) then bif ok then Option.bind (F_skirmishref09_stat (cI r 2)) fun t => bif t then Option.bind (F_skirmishref09_stat (cI r 3)) fun t1 => bif t1 then Option.bind (F_skirmishref09_stat (cI r 4)) fun t2 => bif t2 then Option.bind (F_skirmishref09_stat (cI r 7)) fun t3 => bif t3 then Option.bind (F_skirmishref09_within (cI r 6) (1 : Int) (6 : Int)) fun t4 =>
 G_skirmishref09_numbers_2 b0_2 m t4 (wr (i + (1 : Int))) else
 G_skirmishref09_numbers_2 b0_2 m false (wr (i + (1 : Int))) else
 G_skirmishref09_numbers_2 b0_2 m false (wr (i + (1 : Int))) else
 G_skirmishref09_numbers_2 b0_2 m false (wr (i + (1 : Int))) else
 G_skirmishref09_numbers_2 b0_2 m false (wr (i + (1 : Int))) else
 G_skirmishref09_numbers_2 b0_2 m false (wr (i + (1 : Int))) else none else none else some ok
noncomputable def E93_2 (ok : Bool) (i : Int) (b0_0 b0_1 b0_2 : LL) : St := ⟨(.dead :: (.ref 16000 1 0 0) :: .dead :: (bo ok) :: .dead :: .dead :: .dead :: (i64 i) :: (d4 (d4 (d4 (d16 (d64 [.dead, .dead])))))), [(16000, ⟨.box, 27, 3, [[(.ro 19 b0_0), (.ro 6 b0_1), (.ro 8 b0_2)]]⟩)]⟩
noncomputable def X93_2 (k : Ex → St → Option CR) (t : Bool) : Option CR := k (.exit 4) ⟨(.dead :: .dead :: .dead :: (bo t) :: (d16 (d16 (d64 [.dead, .dead])))), []⟩
noncomputable def ks93_2 : List SK := (.f .dead :: .f (.ref 16000 1 0 0) :: .f .dead :: .f (.bool) :: .f .dead :: .f .dead :: .f .dead :: .f (.int .i64) :: (f4 (f4 (f4 (f16 (f64 [.f .dead, .f .dead]))))))
noncomputable def hs93_2 : List HK := [⟨16000, .box, 27, 3, some [.ro 19, .ro 6, .ro 8]⟩]
noncomputable def Lm93_2 (s : St) (k : Ex → St → Option CR) : Option CR := bif chkS ks93_2 hs93_2 s then (G_skirmishref09_numbers_2 (aRh s 0 2) FU (sB s 3) (sI s 7)).bind (X93_2 k) else none
noncomputable def L93_2 (s : St) (k : Ex → St → Option CR) : Option CR := Lm93_2 (maskS (maskOf ks93_2) s) k
noncomputable def L93 : LT' := fun i s k => bif Nat.beq i 0 then L93_0 s k else bif Nat.beq i 2 then L93_1 s k else bif Nat.beq i 4 then L93_2 s k else none
noncomputable def F_skirmishref09_numbers (zp zn zq : LL) : Option (Bool) := Option.bind (G_skirmishref09_numbers_0 zp FU true (0 : Int)) fun t => Option.bind (G_skirmishref09_numbers_1 zn FU t (0 : Int)) fun t1 => Option.bind (G_skirmishref09_numbers_2 zq FU t1 (0 : Int)) fun t2 => some t2
noncomputable def enc93 (t : Bool) : CR := ⟨true, (bo t), [], []⟩
noncomputable def ks93 : List SK := [.agg [.ro 19, .ro 6, .ro 8]]
noncomputable def A93 (us : List AVal) := F_skirmishref09_numbers (aR us 0 0) (aR us 0 1) (aR us 0 2)
noncomputable def S93 (us : List AVal) : Call := bif chkA ks93 us then Call.of (A93 us) enc93 else Call.none
noncomputable def C93 := AI.ext 93 S93 C143
@[reducible] noncomputable def B93_0 := bodyOf TT TU GL0 C143 ownF L93 (lp Tryz.f93 0)
@[reducible] noncomputable def K93_0 (k : Ex → St → Option CR) : Ex → St → Option CR := fun e s => k e (maskS (W93_0 e) s)
theorem spec93_0 (k : Ex → St → Option CR) : ∀ (m : Nat) (ok : Bool) (i : Int) (b0_0 b0_1 b0_2 : LL), loopN B93_0 m (E93_0 ok i b0_0 b0_1 b0_2) (K93_0 k) = (G_skirmishref09_numbers_0 b0_0 m ok i).bind (X93_0 b0_0 b0_1 b0_2 k)
 | 0, _, _, _, _, _ => rfl
 | m + 1, ok, i, b0_0, b0_1, b0_2 =>
 Eq.trans (by kernel_rfl) (nd rfl (nd rfl (nd rfl (nb fun r => (nd rfl (nb fun t => (spec93_0 k m t (wr (i + (1 : Int))) b0_0 b0_1 b0_2)) rfl)) rfl) (spec93_0 k m false (wr (i + (1 : Int))) b0_0 b0_1 b0_2)) rfl)
theorem okL93_0 : LoopOk TT TU GL0 C143 ownF L93 (lp Tryz.f93 0) :=
 loopOk_of ks93_0 hs93_0 W93_0 FU _ (fun s k => by kernel_rfl) (fun s k => spec93_0 k FU (sB s 3) (sI s 4) (aRh s 0 0) (aRh s 0 1) (aRh s 0 2))
@[reducible] noncomputable def B93_1 := bodyOf TT TU GL0 C143 ownF L93 (lp Tryz.f93 1)
@[reducible] noncomputable def K93_1 (k : Ex → St → Option CR) : Ex → St → Option CR := fun e s => k e (maskS (W93_1 e) s)
theorem spec93_1 (k : Ex → St → Option CR) : ∀ (m : Nat) (ok : Bool) (i : Int) (b0_0 b0_1 b0_2 : LL), loopN B93_1 m (E93_1 ok i b0_0 b0_1 b0_2) (K93_1 k) = (G_skirmishref09_numbers_1 b0_1 m ok i).bind (X93_1 b0_0 b0_1 b0_2 k)
 | 0, _, _, _, _, _ => rfl
 | m + 1, ok, i, b0_0, b0_1, b0_2 =>
 Eq.trans (by kernel_rfl) (nd rfl (nd rfl (nb fun r => (nd rfl (nd rfl (nb fun t => (nd rfl (nb fun t1 => (nd rfl (nb fun t2 => (nd rfl (nb fun t3 => (nd rfl (nb fun t4 => (spec93_1 k m t4 (wr (i + (1 : Int))) b0_0 b0_1 b0_2)) (spec93_1 k m false (wr (i + (1 : Int))) b0_0 b0_1 b0_2))) (spec93_1 k m false (wr (i + (1 : Int))) b0_0 b0_1 b0_2))) (spec93_1 k m false (wr (i + (1 : Int))) b0_0 b0_1 b0_2))) (spec93_1 k m false (wr (i + (1 : Int))) b0_0 b0_1 b0_2))) (spec93_1 k m false (wr (i + (1 : Int))) b0_0 b0_1 b0_2)) rfl)) rfl) rfl)
theorem okL93_1 : LoopOk TT TU GL0 C143 ownF L93 (lp Tryz.f93 1) :=
 loopOk_of ks93_1 hs93_1 W93_1 FU _ (fun s k => by kernel_rfl) (fun s k => spec93_1 k FU (sB s 3) (sI s 5) (aRh s 0 0) (aRh s 0 1) (aRh s 0 2))
@[reducible] noncomputable def B93_2 := bodyOf TT TU GL0 C143 ownF L93 (lp Tryz.f93 2)
@[reducible] noncomputable def K93_2 (k : Ex → St → Option CR) : Ex → St → Option CR := fun e s => k e (maskS (W93_2 e) s)
theorem spec93_2 (k : Ex → St → Option CR) : ∀ (m : Nat) (ok : Bool) (i : Int) (b0_0 b0_1 b0_2 : LL), loopN B93_2 m (E93_2 ok i b0_0 b0_1 b0_2) (K93_2 k) = (G_skirmishref09_numbers_2 b0_2 m ok i).bind (X93_2 k)
 | 0, _, _, _, _, _ => rfl
 | m + 1, ok, i, b0_0, b0_1, b0_2 =>
 Eq.trans (by kernel_rfl) (nd rfl (nd rfl (nb fun r => (nd rfl (nd rfl (nb fun t => (nd rfl (nb fun t1 => (nd rfl (nb fun t2 => (nd rfl (nb fun t3 => (nd rfl (nb fun t4 => (spec93_2 k m t4 (wr (i + (1 : Int))) b0_0 b0_1 b0_2)) (spec93_2 k m false (wr (i + (1 : Int))) b0_0 b0_1 b0_2))) (spec93_2 k m false (wr (i + (1 : Int))) b0_0 b0_1 b0_2))) (spec93_2 k m false (wr (i + (1 : Int))) b0_0 b0_1 b0_2))) (spec93_2 k m false (wr (i + (1 : Int))) b0_0 b0_1 b0_2))) (spec93_2 k m false (wr (i + (1 : Int))) b0_0 b0_1 b0_2)) rfl)) rfl) rfl)
theorem okL93_2 : LoopOk TT TU GL0 C143 ownF L93 (lp Tryz.f93 2) :=
 loopOk_of ks93_2 hs93_2 W93_2 FU _ (fun s k => by kernel_rfl) (fun s k => spec93_2 k FU (sB s 3) (sI s 7) (aRh s 0 0) (aRh s 0 1) (aRh s 0 2))
theorem run93 (zp zn zq : LL) : fcall TT TU GL0 C143 ownF true L93 Tryz.f93 [(.agg [(.ro 19 zp), (.ro 6 zn), (.ro 8 zq)])] = (F_skirmishref09_numbers zp zn zq).bind fun t => some (enc93 t) :=
 Eq.trans (by kernel_rfl) (nb fun t => (nb fun t1 => (nb fun t2 => rfl)))
theorem lib93 : Lib Tryz.prog GL0 C93 :=
 Lib.fn lib143 mixed TT_ok Tryz.func93 (by decide +kernel) (by kernel_rfl) true L93 (loops_of 3 (by kernel_rfl) (belowS (belowS (belowS below0 okL93_0) okL93_1) okL93_2)) ks93 (F := A93) (fun us => rfl) (fun us => run93 _ _ _) (fun t => rfl)
noncomputable def W146_0 : Ex → List Bool
 | .ret => (e4 (true :: (e4 (e4 (e4 [false, false])))))
 | .exit n => bif Nat.beq n 0 then (e16 [false, false, false]) else []
 | .normal => []
noncomputable def G_skirmishref09_all_0 (l in_ : LL) : Nat → Int → Option (Bool)
 | 0, _ => none
 | m + 1, i => bif (decide (i < (Int.ofNat l.length))) then bif (decide ((0 : Int) ≤ i)) then Option.bind (l[i.toNat]?) fun r => bif (chk [LT.str] r) then Option.bind (F_skirmishref09_Has in_ (cS r 0)) fun t => bif (!t) then some true else
 G_skirmishref09_all_0 l in_ m (wr (i + (1 : Int))) else none else none else some false
noncomputable def E146_0 (l in_ : LL) (i : Int) : St := ⟨((.ro 1 l) :: (.ro 1 in_) :: .dead :: .dead :: .dead :: (i64 i) :: (d4 (d4 (d4 [.dead])))), []⟩
noncomputable def X146_0 (k : Ex → St → Option CR) (t : Bool) : Option CR := bif t then k .ret ⟨(d4 ((bo false) :: (d4 (d4 (d4 [.dead, .dead]))))), []⟩ else k (.exit 0) ⟨(d16 [.dead, .dead, .dead]), []⟩
noncomputable def ks146_0 : List SK := (.f (.ro 1) :: .f (.ro 1) :: .f .dead :: .f .dead :: .f .dead :: .f (.int .i64) :: (f4 (f4 (f4 [.f .dead]))))
noncomputable def hs146_0 : List HK := []
noncomputable def Lm146_0 (s : St) (k : Ex → St → Option CR) : Option CR := bif chkS ks146_0 hs146_0 s then (G_skirmishref09_all_0 (sR s 0) (sR s 1) FU (sI s 5)).bind (X146_0 k) else none
noncomputable def L146_0 (s : St) (k : Ex → St → Option CR) : Option CR := Lm146_0 (maskS (maskOf ks146_0) s) k
noncomputable def L146 : LT' := fun i s k => bif Nat.beq i 0 then L146_0 s k else none
noncomputable def F_skirmishref09_all (l in_ : LL) : Option (Bool) := Option.bind (G_skirmishref09_all_0 l in_ FU (0 : Int)) fun t => bif t then some false else some true
noncomputable def enc146 (t : Bool) : CR := ⟨true, (bo t), [], []⟩
noncomputable def ks146 : List SK := [.f (.ro 1), .f (.ro 1)]
noncomputable def A146 (us : List AVal) := F_skirmishref09_all (roRows (cIa us 0)) (roRows (cIa us 1))
noncomputable def S146 (us : List AVal) : Call := bif chkA ks146 us then Call.of (A146 us) enc146 else Call.none
noncomputable def C146 := AI.ext 146 S146 C93
@[reducible] noncomputable def B146_0 := bodyOf TT TU GL0 C93 ownF L146 (lp Tryz.f146 0)
@[reducible] noncomputable def K146_0 (k : Ex → St → Option CR) : Ex → St → Option CR := fun e s => k e (maskS (W146_0 e) s)
theorem spec146_0 (k : Ex → St → Option CR) : ∀ (m : Nat) (l in_ : LL) (i : Int), loopN B146_0 m (E146_0 l in_ i) (K146_0 k) = (G_skirmishref09_all_0 l in_ m i).bind (X146_0 k)
 | 0, _, _, _ => rfl
 | m + 1, l, in_, i =>
 Eq.trans (by kernel_rfl) (nd rfl (nd rfl (nb fun r => (nd rfl (nb fun t => (nd rfl rfl (spec146_0 k m l in_ (wr (i + (1 : Int)))))) rfl)) rfl) rfl)
theorem okL146_0 : LoopOk TT TU GL0 C93 ownF L146 (lp Tryz.f146 0) :=
 loopOk_of ks146_0 hs146_0 W146_0 FU _ (fun s k => by kernel_rfl) (fun s k => spec146_0 k FU (sR s 0) (sR s 1) (sI s 5))
theorem run146 (l in_ : LL) : fcall TT TU GL0 C93 ownF true L146 Tryz.f146 [(.ro 1 l), (.ro 1 in_)] = (F_skirmishref09_all l in_).bind fun t => some (enc146 t) :=
 Eq.trans (by kernel_rfl) (nb fun t => (nd rfl rfl rfl))
theorem lib146 : Lib Tryz.prog GL0 C146 :=
 Lib.fn lib93 mixed TT_ok Tryz.func146 (by decide +kernel) (by kernel_rfl) true L146 (loops_of 1 (by kernel_rfl) (belowS below0 okL146_0)) ks146 (F := A146) (fun us => rfl) (fun us => run146 _ _) (fun t => rfl)
noncomputable def W94_0 : Ex → List Bool
 | .ret => (false :: false :: true :: (e4 (e4 (e16 (e64 [])))))
 | .exit n => bif Nat.beq n 0 then (false :: true :: false :: true :: false :: false :: true :: (e4 (e16 (e64 [])))) else []
 | .normal => []
noncomputable def G_skirmishref09_found_0 (R1 R2 R3 R4 b0_0 : LL) : Nat → Int → Option (Bool)
 | 0, _ => none
 | m + 1, i => bif (decide (i < (Int.ofNat b0_0.length))) then bif (decide ((0 : Int) ≤ i)) then Option.bind (b0_0[i.toNat]?) fun r => bif (chk y0 r) then bif (!(List.beq (ByteArray.toList (cS r 12)) (ByteArray.toList (ByteArray.mk (Array.mk []))))) then Option.bind (F_skirmishref09_Has R2 (cS r 12)) fun t => bif (!t) then some true else Option.bind (F_skirmishref09_all (roRows (AVal.ro 1 (cR r 16))) R4) fun t1 => bif (!t1) then some true else Option.bind (F_skirmishref09_all (roRows (AVal.ro 1 (cR r 17))) R1) fun t2 => bif (!t2) then some true else Option.bind (F_skirmishref09_all (roRows (AVal.ro 1 (cR r 18))) R3) fun t3 => bif (!t3) then some true else
 G_skirmishref09_found_0 R1 R2 R3 R4 b0_0 m (wr (i + (1 : Int))) else Option.bind (F_skirmishref09_all (roRows (AVal.ro 1 (cR r 16))) R4) fun t4 => bif (!t4) then some true else Option.bind (F_skirmishref09_all (roRows (AVal.ro 1 (cR r 17))) R1) fun t5 => bif (!t5) then some true else Option.bind (F_skirmishref09_all (roRows (AVal.ro 1 (cR r 18))) R3) fun t6 => bif (!t6) then some true else
 G_skirmishref09_found_0 R1 R2 R3 R4 b0_0 m (wr (i + (1 : Int))) else none else none else some false
noncomputable def E94_0 (R1 R2 R3 R4 : LL) (i : Int) (b0_0 b0_1 b0_2 : LL) : St := ⟨(.dead :: (.ref 16000 1 0 0) :: .dead :: (.slc 19216 (R1).length) :: (.slc 19248 (R2).length) :: (.slc 19280 (R3).length) :: (.slc 22400 (R4).length) :: (i64 i) :: (d16 (d64 [.dead, .dead, .dead]))), [(16000, ⟨.box, 27, 3, [[(.ro 19 b0_0), (.ro 6 b0_1), (.ro 8 b0_2)]]⟩), (19216, ⟨.arr, 9, 1, R1⟩), (19248, ⟨.arr, 9, 1, R2⟩), (19280, ⟨.arr, 9, 1, R3⟩), (22400, ⟨.arr, 9, 1, R4⟩)]⟩
noncomputable def X94_0 (R1 R4 b0_0 b0_1 b0_2 : LL) (k : Ex → St → Option CR) (t : Bool) : Option CR := bif t then k .ret ⟨(.dead :: .dead :: (bo false) :: (d4 (d4 (d16 (d64 []))))), []⟩ else k (.exit 0) ⟨(.dead :: (.ref 16000 1 0 0) :: .dead :: (.slc 19216 (R1).length) :: .dead :: .dead :: (.slc 22400 (R4).length) :: (d4 (d16 (d64 [])))), [(16000, ⟨.box, 27, 3, [[(.ro 19 b0_0), (.ro 6 b0_1), (.ro 8 b0_2)]]⟩), (19216, ⟨.arr, 9, 1, R1⟩), (22400, ⟨.arr, 9, 1, R4⟩)]⟩
noncomputable def ks94_0 : List SK := (.f .dead :: .f (.ref 16000 1 0 0) :: .f .dead :: .f (.slc 19216 1) :: .f (.slc 19248 2) :: .f (.slc 19280 3) :: .f (.slc 22400 4) :: .f (.int .i64) :: (f16 (f64 [.f .dead, .f .dead, .f .dead])))
noncomputable def hs94_0 : List HK := [⟨16000, .box, 27, 3, some [.ro 19, .ro 6, .ro 8]⟩, ⟨19216, .arr, 9, 1, none⟩, ⟨19248, .arr, 9, 1, none⟩, ⟨19280, .arr, 9, 1, none⟩, ⟨22400, .arr, 9, 1, none⟩]
noncomputable def Lm94_0 (s : St) (k : Ex → St → Option CR) : Option CR := bif chkS ks94_0 hs94_0 s then (G_skirmishref09_found_0 (blkAt s.heap 1).2.rows (blkAt s.heap 2).2.rows (blkAt s.heap 3).2.rows (blkAt s.heap 4).2.rows (aRh s 0 0) FU (sI s 7)).bind (X94_0 (blkAt s.heap 1).2.rows (blkAt s.heap 4).2.rows (aRh s 0 0) (aRh s 0 1) (aRh s 0 2) k) else none
noncomputable def L94_0 (s : St) (k : Ex → St → Option CR) : Option CR := Lm94_0 (maskS (maskOf ks94_0) s) k
noncomputable def W94_1 : Ex → List Bool
 | .ret => (false :: false :: true :: (e4 (e4 (e16 (e64 [])))))
 | .exit n => bif Nat.beq n 2 then (e4 (e4 (e16 (e64 [false, false, false])))) else []
 | .normal => []
noncomputable def G_skirmishref09_found_1 (R1 R2 b0_2 : LL) : Nat → Int → Option (Bool)
 | 0, _ => none
 | m + 1, i => bif (decide (i < (Int.ofNat b0_2.length))) then bif (decide ((0 : Int) ≤ i)) then Option.bind (b0_2[i.toNat]?) fun r => bif (chk y2 r) then Option.bind (F_skirmishref09_all (roRows (AVal.ro 1 (cR r 1))) R2) fun t => bif (!t) then some true else Option.bind (b0_2[i.toNat]?) fun r1 => bif (chk y2 r1) then Option.bind (F_skirmishref09_Has R1 (cS r1 5)) fun t1 => bif (!t1) then some true else
 G_skirmishref09_found_1 R1 R2 b0_2 m (wr (i + (1 : Int))) else none else none else none else some false
noncomputable def E94_1 (R1 R2 : LL) (i : Int) (b0_0 b0_1 b0_2 : LL) : St := ⟨(.dead :: (.ref 16000 1 0 0) :: .dead :: (.slc 19216 (R1).length) :: .dead :: .dead :: (.slc 22400 (R2).length) :: .dead :: .dead :: (i64 i) :: (d16 (d64 [.dead]))), [(16000, ⟨.box, 27, 3, [[(.ro 19 b0_0), (.ro 6 b0_1), (.ro 8 b0_2)]]⟩), (19216, ⟨.arr, 9, 1, R1⟩), (22400, ⟨.arr, 9, 1, R2⟩)]⟩
noncomputable def X94_1 (k : Ex → St → Option CR) (t : Bool) : Option CR := bif t then k .ret ⟨(.dead :: .dead :: (bo false) :: (d4 (d4 (d16 (d64 []))))), []⟩ else k (.exit 2) ⟨(d4 (d4 (d16 (d64 [.dead, .dead, .dead])))), []⟩
noncomputable def ks94_1 : List SK := (.f .dead :: .f (.ref 16000 1 0 0) :: .f .dead :: .f (.slc 19216 1) :: .f .dead :: .f .dead :: .f (.slc 22400 2) :: .f .dead :: .f .dead :: .f (.int .i64) :: (f16 (f64 [.f .dead])))
noncomputable def hs94_1 : List HK := [⟨16000, .box, 27, 3, some [.ro 19, .ro 6, .ro 8]⟩, ⟨19216, .arr, 9, 1, none⟩, ⟨22400, .arr, 9, 1, none⟩]
noncomputable def Lm94_1 (s : St) (k : Ex → St → Option CR) : Option CR := bif chkS ks94_1 hs94_1 s then (G_skirmishref09_found_1 (blkAt s.heap 1).2.rows (blkAt s.heap 2).2.rows (aRh s 0 2) FU (sI s 9)).bind (X94_1 k) else none
noncomputable def L94_1 (s : St) (k : Ex → St → Option CR) : Option CR := Lm94_1 (maskS (maskOf ks94_1) s) k
noncomputable def L94 : LT' := fun i s k => bif Nat.beq i 0 then L94_0 s k else bif Nat.beq i 2 then L94_1 s k else none
noncomputable def F_skirmishref09_found (zp zn zq : LL) : Option (Bool) := Option.bind (F_skirmishref09_Units zp zn zq) fun t => Option.bind (F_skirmishref09_Weapons zp zn zq) fun t1 => Option.bind (F_skirmishref09_Techs zp zn zq) fun t2 => bif (roomOk (0 + t.length) 16) then bif (roomOk (t.length + t2.length) 16) then Option.bind (G_skirmishref09_found_0 t t1 t2 (Blk.rows (Blk.mk BKind.arr 9 1 (t ++ t2))) zp FU (0 : Int)) fun t3 => bif t3 then some false else Option.bind (G_skirmishref09_found_1 t (Blk.rows (Blk.mk BKind.arr 9 1 (Blk.rows (Blk.mk BKind.arr 9 1 (t ++ t2))))) zq FU (0 : Int)) fun t4 => bif t4 then some false else some true else none else none
noncomputable def enc94 (t : Bool) : CR := ⟨true, (bo t), [], []⟩
noncomputable def ks94 : List SK := [.agg [.ro 19, .ro 6, .ro 8]]
noncomputable def A94 (us : List AVal) := F_skirmishref09_found (aR us 0 0) (aR us 0 1) (aR us 0 2)
noncomputable def S94 (us : List AVal) : Call := bif chkA ks94 us then Call.of (A94 us) enc94 else Call.none
noncomputable def C94 := AI.ext 94 S94 C146
@[reducible] noncomputable def B94_0 := bodyOf TT TU GL0 C146 ownF L94 (lp Tryz.f94 0)
@[reducible] noncomputable def K94_0 (k : Ex → St → Option CR) : Ex → St → Option CR := fun e s => k e (maskS (W94_0 e) s)
theorem spec94_0 (k : Ex → St → Option CR) : ∀ (m : Nat) (R1 R2 R3 R4 : LL) (i : Int) (b0_0 b0_1 b0_2 : LL), loopN B94_0 m (E94_0 R1 R2 R3 R4 i b0_0 b0_1 b0_2) (K94_0 k) = (G_skirmishref09_found_0 R1 R2 R3 R4 b0_0 m i).bind (X94_0 R1 R4 b0_0 b0_1 b0_2 k)
 | 0, _, _, _, _, _, _, _, _ => rfl
 | m + 1, R1, R2, R3, R4, i, b0_0, b0_1, b0_2 =>
 Eq.trans (by kernel_rfl) (nd rfl (nd rfl (nb fun r => (nd rfl (nd rfl (nu (vr R2) (nb fun t => (nd rfl rfl (nu (vr R4) (nb fun t1 => (nd rfl rfl (nu (vr R1) (nb fun t2 => (nd rfl rfl (nu (vr R3) (nb fun t3 => (nd rfl rfl (spec94_0 k m R1 R2 R3 R4 (wr (i + (1 : Int))) b0_0 b0_1 b0_2))))))))))))) (nu (vr R4) (nb fun t4 => (nd rfl rfl (nu (vr R1) (nb fun t5 => (nd rfl rfl (nu (vr R3) (nb fun t6 => (nd rfl rfl (spec94_0 k m R1 R2 R3 R4 (wr (i + (1 : Int))) b0_0 b0_1 b0_2))))))))))) rfl)) rfl) rfl)
theorem okL94_0 : LoopOk TT TU GL0 C146 ownF L94 (lp Tryz.f94 0) :=
 loopOk_of ks94_0 hs94_0 W94_0 FU _ (fun s k => by kernel_rfl) (fun s k => spec94_0 k FU (blkAt s.heap 1).2.rows (blkAt s.heap 2).2.rows (blkAt s.heap 3).2.rows (blkAt s.heap 4).2.rows (sI s 7) (aRh s 0 0) (aRh s 0 1) (aRh s 0 2))
@[reducible] noncomputable def B94_1 := bodyOf TT TU GL0 C146 ownF L94 (lp Tryz.f94 1)
@[reducible] noncomputable def K94_1 (k : Ex → St → Option CR) : Ex → St → Option CR := fun e s => k e (maskS (W94_1 e) s)
theorem spec94_1 (k : Ex → St → Option CR) : ∀ (m : Nat) (R1 R2 : LL) (i : Int) (b0_0 b0_1 b0_2 : LL), loopN B94_1 m (E94_1 R1 R2 i b0_0 b0_1 b0_2) (K94_1 k) = (G_skirmishref09_found_1 R1 R2 b0_2 m i).bind (X94_1 k)
 | 0, _, _, _, _, _, _ => rfl
 | m + 1, R1, R2, i, b0_0, b0_1, b0_2 =>
 Eq.trans (by kernel_rfl) (nd rfl (nc rfl (fun h1 => (nb fun r => (nd rfl (nu (vr R2) (nb fun t => (nd rfl rfl (nu h1 (nb fun r1 => (nd rfl (nu (vr R1) (nb fun t1 => (nd rfl rfl (spec94_1 k m R1 R2 (wr (i + (1 : Int))) b0_0 b0_1 b0_2)))) rfl)))))) rfl))) fun h1 => rfl) rfl)
theorem okL94_1 : LoopOk TT TU GL0 C146 ownF L94 (lp Tryz.f94 1) :=
 loopOk_of ks94_1 hs94_1 W94_1 FU _ (fun s k => by kernel_rfl) (fun s k => spec94_1 k FU (blkAt s.heap 1).2.rows (blkAt s.heap 2).2.rows (sI s 9) (aRh s 0 0) (aRh s 0 1) (aRh s 0 2))
theorem run94 (zp zn zq : LL) : fcall TT TU GL0 C146 ownF true L94 Tryz.f94 [(.agg [(.ro 19 zp), (.ro 6 zn), (.ro 8 zq)])] = (F_skirmishref09_found zp zn zq).bind fun t => some (enc94 t) :=
 Eq.trans (by kernel_rfl) (nb fun t => (nu (show ((((true && (verEq t.length t.length)) && true) && true) && true) = true from (n_andL (n_andL (n_andL (n_andL rfl (verEq_rfl _)) rfl) rfl) rfl)) (nb fun t1 => (nu (show ((((true && (verEq t1.length t1.length)) && true) && true) && true) = true from (n_andL (n_andL (n_andL (n_andL rfl (verEq_rfl _)) rfl) rfl) rfl)) (nb fun t2 => (nu (show ((((true && (verEq t2.length t2.length)) && true) && true) && true) = true from (n_andL (n_andL (n_andL (n_andL rfl (verEq_rfl _)) rfl) rfl) rfl)) (nu (vr t) (nd rfl (nu (vr t2) (nd (show ((((verEq t.length t.length) && true) && (roomOk (t.length + t2.length) 16))) = _ from (n_andL (n_andL (verEq_rfl _) rfl) rfl)) (nu (show (((true && (verEq t.length (blkLen [(Prod.mk 16000 (Blk.mk BKind.box 27 3 [[(AVal.ro 19 zp), (AVal.ro 6 zn), (AVal.ro 8 zq)]])), (Prod.mk 19216 (Blk.mk BKind.arr 9 1 t)), (Prod.mk 19248 (Blk.mk BKind.arr 9 1 t1)), (Prod.mk 19280 (Blk.mk BKind.arr 9 1 t2)), (Prod.mk 22400 (Blk.mk BKind.arr 9 1 (t ++ t2)))] 1))) && ((true && (verEq t1.length (blkLen [(Prod.mk 16000 (Blk.mk BKind.box 27 3 [[(AVal.ro 19 zp), (AVal.ro 6 zn), (AVal.ro 8 zq)]])), (Prod.mk 19216 (Blk.mk BKind.arr 9 1 t)), (Prod.mk 19248 (Blk.mk BKind.arr 9 1 t1)), (Prod.mk 19280 (Blk.mk BKind.arr 9 1 t2)), (Prod.mk 22400 (Blk.mk BKind.arr 9 1 (t ++ t2)))] 2))) && ((true && (verEq t2.length (blkLen [(Prod.mk 16000 (Blk.mk BKind.box 27 3 [[(AVal.ro 19 zp), (AVal.ro 6 zn), (AVal.ro 8 zq)]])), (Prod.mk 19216 (Blk.mk BKind.arr 9 1 t)), (Prod.mk 19248 (Blk.mk BKind.arr 9 1 t1)), (Prod.mk 19280 (Blk.mk BKind.arr 9 1 t2)), (Prod.mk 22400 (Blk.mk BKind.arr 9 1 (t ++ t2)))] 3))) && ((true && (verEq (t ++ t2).length (blkLen [(Prod.mk 16000 (Blk.mk BKind.box 27 3 [[(AVal.ro 19 zp), (AVal.ro 6 zn), (AVal.ro 8 zq)]])), (Prod.mk 19216 (Blk.mk BKind.arr 9 1 t)), (Prod.mk 19248 (Blk.mk BKind.arr 9 1 t1)), (Prod.mk 19280 (Blk.mk BKind.arr 9 1 t2)), (Prod.mk 22400 (Blk.mk BKind.arr 9 1 (t ++ t2)))] 4))) && true)))) && true) = true from (n_andL (n_andL (n_andL rfl (by first | exact verEq_of rfl | simp [verEq, blkLen, blkAt])) (n_andL (n_andL rfl (by first | exact verEq_of rfl | simp [verEq, blkLen, blkAt])) (n_andL (n_andL rfl (by first | exact verEq_of rfl | simp [verEq, blkLen, blkAt])) (n_andL (n_andL rfl (by first | exact verEq_of rfl | simp [verEq, blkLen, blkAt])) rfl)))) rfl)) (nb fun t3 => (nd rfl rfl (nu (show (((true && (verEq t.length (blkLen [(Prod.mk 16000 (Blk.mk BKind.box 27 3 [[(AVal.ro 19 zp), (AVal.ro 6 zn), (AVal.ro 8 zq)]])), (Prod.mk 19216 (Blk.mk BKind.arr 9 1 t)), (Prod.mk 22400 (Blk.mk BKind.arr 9 1 (Blk.rows (Blk.mk BKind.arr 9 1 (t ++ t2)))))] 1))) && ((true && (verEq (Blk.rows (Blk.mk BKind.arr 9 1 (t ++ t2))).length (blkLen [(Prod.mk 16000 (Blk.mk BKind.box 27 3 [[(AVal.ro 19 zp), (AVal.ro 6 zn), (AVal.ro 8 zq)]])), (Prod.mk 19216 (Blk.mk BKind.arr 9 1 t)), (Prod.mk 22400 (Blk.mk BKind.arr 9 1 (Blk.rows (Blk.mk BKind.arr 9 1 (t ++ t2)))))] 2))) && true)) && true) = true from (n_andL (n_andL (n_andL rfl (by first | exact verEq_of rfl | simp [verEq, blkLen, blkAt])) (n_andL (n_andL rfl (by first | exact verEq_of rfl | simp [verEq, blkLen, blkAt])) rfl)) rfl)) (nb fun t4 => (nd rfl rfl rfl)))))) rfl)) rfl))))))))
theorem lib94 : Lib Tryz.prog GL0 C94 :=
 Lib.fn lib146 mixed TT_ok Tryz.func94 (by decide +kernel) (by kernel_rfl) true L94 (loops_of 2 (by kernel_rfl) (belowS (belowS below0 okL94_0) okL94_1)) ks94 (F := A94) (fun us => rfl) (fun us => run94 _ _ _) (fun t => rfl)
noncomputable def W19_0 : Ex → List Bool
 | .ret => (e4 (true :: true :: (e4 (e16 [false, false]))))
 | .exit n => bif Nat.beq n 0 then (e4 (true :: (e4 (e16 [false, false, false])))) else []
 | .normal => []
noncomputable def G_skirmishref09_Unit_0 (name : ByteArray) (b0_0 : LL) : Nat → Int → Option (Bool × ByteArray × Bool × Bool × Int × Int × Int × Int × Int × Int × Int × Int × Int × ByteArray × Int × Int × Int × LL × LL × LL)
 | 0, _ => none
 | m + 1, i => bif (decide (i < (Int.ofNat b0_0.length))) then bif (decide ((0 : Int) ≤ i)) then Option.bind (b0_0[i.toNat]?) fun r => bif (chk y0 r) then bif (List.beq (ByteArray.toList (cS r 0)) (ByteArray.toList name)) then Option.bind (b0_0[i.toNat]?) fun r1 => bif (chk y0 r1) then some (true, (cS r1 0), (cB r1 1), (cB r1 2), (cI r1 3), (cI r1 4), (cI r1 5), (cI r1 6), (cI r1 7), (cI r1 8), (cI r1 9), (cI r1 10), (cI r1 11), (cS r1 12), (cI r1 13), (cI r1 14), (cI r1 15), (cR r1 16), (cR r1 17), (cR r1 18)) else none else
 G_skirmishref09_Unit_0 name b0_0 m (wr (i + (1 : Int))) else none else none else some (false, ⟨#[]⟩, false, false, 0, 0, 0, 0, 0, 0, 0, 0, 0, ⟨#[]⟩, 0, 0, 0, [], [], [])
noncomputable def E19_0 (name : ByteArray) (i : Int) (b0_0 b0_1 b0_2 : LL) (b1_0 : ByteArray) (b1_1 b1_2 : Bool) (b1_3 b1_4 b1_5 b1_6 b1_7 b1_8 b1_9 b1_10 b1_11 : Int) (b1_12 : ByteArray) (b1_13 b1_14 b1_15 : Int) : St := ⟨(.dead :: (.sc (.string name)) :: (.ref 16000 1 0 0) :: .dead :: (.ref 16016 1 0 0) :: .dead :: (i64 i) :: (d4 (d16 [.dead]))), [(16000, ⟨.box, 27, 3, [[(.ro 19 b0_0), (.ro 6 b0_1), (.ro 8 b0_2)]]⟩), (16016, ⟨.box, 65, 19, [[(.sc (.string b1_0)), (bo b1_1), (bo b1_2), (i64 b1_3), (i64 b1_4), (i64 b1_5), (i64 b1_6), (i64 b1_7), (i64 b1_8), (i64 b1_9), (i64 b1_10), (i64 b1_11), (.sc (.string b1_12)), (i64 b1_13), (i64 b1_14), (i64 b1_15), .emp, .emp, .emp]]⟩)]⟩
noncomputable def X19_0 (b1_0 : ByteArray) (b1_1 b1_2 : Bool) (b1_3 b1_4 b1_5 b1_6 b1_7 b1_8 b1_9 b1_10 b1_11 : Int) (b1_12 : ByteArray) (b1_13 b1_14 b1_15 : Int) (k : Ex → St → Option CR) (t : Bool × ByteArray × Bool × Bool × Int × Int × Int × Int × Int × Int × Int × Int × Int × ByteArray × Int × Int × Int × LL × LL × LL) : Option CR := bif t.1 then k .ret ⟨(d4 ((.ref 16016 1 0 0) :: (bo true) :: (d4 (d16 [.dead, .dead])))), [(16016, ⟨.box, 65, 19, [[(.sc (.string t.2.1)), (.sc (.bool t.2.2.1)), (.sc (.bool t.2.2.2.1)), (.sc (.int .i64 t.2.2.2.2.1)), (.sc (.int .i64 t.2.2.2.2.2.1)), (.sc (.int .i64 t.2.2.2.2.2.2.1)), (.sc (.int .i64 t.2.2.2.2.2.2.2.1)), (.sc (.int .i64 t.2.2.2.2.2.2.2.2.1)), (.sc (.int .i64 t.2.2.2.2.2.2.2.2.2.1)), (.sc (.int .i64 t.2.2.2.2.2.2.2.2.2.2.1)), (.sc (.int .i64 t.2.2.2.2.2.2.2.2.2.2.2.1)), (.sc (.int .i64 t.2.2.2.2.2.2.2.2.2.2.2.2.1)), (.sc (.string t.2.2.2.2.2.2.2.2.2.2.2.2.2.1)), (.sc (.int .i64 t.2.2.2.2.2.2.2.2.2.2.2.2.2.2.1)), (.sc (.int .i64 t.2.2.2.2.2.2.2.2.2.2.2.2.2.2.2.1)), (.sc (.int .i64 t.2.2.2.2.2.2.2.2.2.2.2.2.2.2.2.2.1)), (.ro 1 t.2.2.2.2.2.2.2.2.2.2.2.2.2.2.2.2.2.1), (.ro 1 t.2.2.2.2.2.2.2.2.2.2.2.2.2.2.2.2.2.2.1), (.ro 1 t.2.2.2.2.2.2.2.2.2.2.2.2.2.2.2.2.2.2.2)]]⟩)]⟩ else k (.exit 0) ⟨(d4 ((.ref 16016 1 0 0) :: (d4 (d16 [.dead, .dead, .dead])))), [(16016, ⟨.box, 65, 19, [[(.sc (.string b1_0)), (bo b1_1), (bo b1_2), (i64 b1_3), (i64 b1_4), (i64 b1_5), (i64 b1_6), (i64 b1_7), (i64 b1_8), (i64 b1_9), (i64 b1_10), (i64 b1_11), (.sc (.string b1_12)), (i64 b1_13), (i64 b1_14), (i64 b1_15), .emp, .emp, .emp]]⟩)]⟩
noncomputable def ks19_0 : List SK := (.f .dead :: .f (.str) :: .f (.ref 16000 1 0 0) :: .f .dead :: .f (.ref 16016 1 0 0) :: .f .dead :: .f (.int .i64) :: (f4 (f16 [.f .dead])))
noncomputable def hs19_0 : List HK := [⟨16000, .box, 27, 3, some [.ro 19, .ro 6, .ro 8]⟩, ⟨16016, .box, 65, 19, some [.str, .bool, .bool, .int .i64, .int .i64, .int .i64, .int .i64, .int .i64, .int .i64, .int .i64, .int .i64, .int .i64, .str, .int .i64, .int .i64, .int .i64, .emp, .emp, .emp]⟩]
noncomputable def Lm19_0 (s : St) (k : Ex → St → Option CR) : Option CR := bif chkS ks19_0 hs19_0 s then (G_skirmishref09_Unit_0 (sS s 1) (aRh s 0 0) FU (sI s 6)).bind (X19_0 (aSh s 1 0) (aBh s 1 1) (aBh s 1 2) (aIh s 1 3) (aIh s 1 4) (aIh s 1 5) (aIh s 1 6) (aIh s 1 7) (aIh s 1 8) (aIh s 1 9) (aIh s 1 10) (aIh s 1 11) (aSh s 1 12) (aIh s 1 13) (aIh s 1 14) (aIh s 1 15) k) else none
noncomputable def L19_0 (s : St) (k : Ex → St → Option CR) : Option CR := Lm19_0 (maskS (maskOf ks19_0) s) k
noncomputable def L19 : LT' := fun i s k => bif Nat.beq i 0 then L19_0 s k else none
noncomputable def F_skirmishref09_Unit (zp zn zq : LL) (name : ByteArray) : Option (ByteArray × Bool × Bool × Int × Int × Int × Int × Int × Int × Int × Int × Int × ByteArray × Int × Int × Int × LL × LL × LL × Bool) := Option.bind (G_skirmishref09_Unit_0 name zp FU (0 : Int)) fun t => bif t.1 then some (t.2.1, t.2.2.1, t.2.2.2.1, t.2.2.2.2.1, t.2.2.2.2.2.1, t.2.2.2.2.2.2.1, t.2.2.2.2.2.2.2.1, t.2.2.2.2.2.2.2.2.1, t.2.2.2.2.2.2.2.2.2.1, t.2.2.2.2.2.2.2.2.2.2.1, t.2.2.2.2.2.2.2.2.2.2.2.1, t.2.2.2.2.2.2.2.2.2.2.2.2.1, t.2.2.2.2.2.2.2.2.2.2.2.2.2.1, t.2.2.2.2.2.2.2.2.2.2.2.2.2.2.1, t.2.2.2.2.2.2.2.2.2.2.2.2.2.2.2.1, t.2.2.2.2.2.2.2.2.2.2.2.2.2.2.2.2.1, t.2.2.2.2.2.2.2.2.2.2.2.2.2.2.2.2.2.1, t.2.2.2.2.2.2.2.2.2.2.2.2.2.2.2.2.2.2.1, t.2.2.2.2.2.2.2.2.2.2.2.2.2.2.2.2.2.2.2, true) else some ((ByteArray.mk (Array.mk [])), false, false, (0 : Int), (0 : Int), (0 : Int), (0 : Int), (0 : Int), (0 : Int), (0 : Int), (0 : Int), (0 : Int), (ByteArray.mk (Array.mk [])), (0 : Int), (0 : Int), (0 : Int), [], [], [], false)
noncomputable def enc19 (t : ByteArray × Bool × Bool × Int × Int × Int × Int × Int × Int × Int × Int × Int × ByteArray × Int × Int × Int × LL × LL × LL × Bool) : CR := ⟨true, (.tup [(.agg [(.sc (.string t.1)), (.sc (.bool t.2.1)), (.sc (.bool t.2.2.1)), (.sc (.int .i64 t.2.2.2.1)), (.sc (.int .i64 t.2.2.2.2.1)), (.sc (.int .i64 t.2.2.2.2.2.1)), (.sc (.int .i64 t.2.2.2.2.2.2.1)), (.sc (.int .i64 t.2.2.2.2.2.2.2.1)), (.sc (.int .i64 t.2.2.2.2.2.2.2.2.1)), (.sc (.int .i64 t.2.2.2.2.2.2.2.2.2.1)), (.sc (.int .i64 t.2.2.2.2.2.2.2.2.2.2.1)), (.sc (.int .i64 t.2.2.2.2.2.2.2.2.2.2.2.1)), (.sc (.string t.2.2.2.2.2.2.2.2.2.2.2.2.1)), (.sc (.int .i64 t.2.2.2.2.2.2.2.2.2.2.2.2.2.1)), (.sc (.int .i64 t.2.2.2.2.2.2.2.2.2.2.2.2.2.2.1)), (.sc (.int .i64 t.2.2.2.2.2.2.2.2.2.2.2.2.2.2.2.1)), (.ro 1 t.2.2.2.2.2.2.2.2.2.2.2.2.2.2.2.2.1), (.ro 1 t.2.2.2.2.2.2.2.2.2.2.2.2.2.2.2.2.2.1), (.ro 1 t.2.2.2.2.2.2.2.2.2.2.2.2.2.2.2.2.2.2.1)]), (.sc (.bool t.2.2.2.2.2.2.2.2.2.2.2.2.2.2.2.2.2.2.2))]), [], []⟩
noncomputable def ks19 : List SK := [.agg [.ro 19, .ro 6, .ro 8], .f (.str)]
noncomputable def A19 (us : List AVal) := F_skirmishref09_Unit (aR us 0 0) (aR us 0 1) (aR us 0 2) (toS (cIa us 1))
noncomputable def S19 (us : List AVal) : Call := bif chkA ks19 us then Call.of (A19 us) enc19 else Call.none
noncomputable def C19 := AI.ext 19 S19 C94
@[reducible] noncomputable def B19_0 := bodyOf TT TU GL0 C94 ownF L19 (lp Tryz.f19 0)
@[reducible] noncomputable def K19_0 (k : Ex → St → Option CR) : Ex → St → Option CR := fun e s => k e (maskS (W19_0 e) s)
theorem spec19_0 (k : Ex → St → Option CR) : ∀ (m : Nat) (name : ByteArray) (i : Int) (b0_0 b0_1 b0_2 : LL) (b1_0 : ByteArray) (b1_1 b1_2 : Bool) (b1_3 b1_4 b1_5 b1_6 b1_7 b1_8 b1_9 b1_10 b1_11 : Int) (b1_12 : ByteArray) (b1_13 b1_14 b1_15 : Int), loopN B19_0 m (E19_0 name i b0_0 b0_1 b0_2 b1_0 b1_1 b1_2 b1_3 b1_4 b1_5 b1_6 b1_7 b1_8 b1_9 b1_10 b1_11 b1_12 b1_13 b1_14 b1_15) (K19_0 k) = (G_skirmishref09_Unit_0 name b0_0 m i).bind (X19_0 b1_0 b1_1 b1_2 b1_3 b1_4 b1_5 b1_6 b1_7 b1_8 b1_9 b1_10 b1_11 b1_12 b1_13 b1_14 b1_15 k)
 | 0, _, _, _, _, _, _, _, _, _, _, _, _, _, _, _, _, _, _, _, _, _ => rfl
 | m + 1, name, i, b0_0, b0_1, b0_2, b1_0, b1_1, b1_2, b1_3, b1_4, b1_5, b1_6, b1_7, b1_8, b1_9, b1_10, b1_11, b1_12, b1_13, b1_14, b1_15 =>
 Eq.trans (by kernel_rfl) (nd rfl (nc rfl (fun h1 => (nb fun r => (nd rfl (nd rfl (nu h1 (nb fun r1 => (nd rfl rfl rfl))) (spec19_0 k m name (wr (i + (1 : Int))) b0_0 b0_1 b0_2 b1_0 b1_1 b1_2 b1_3 b1_4 b1_5 b1_6 b1_7 b1_8 b1_9 b1_10 b1_11 b1_12 b1_13 b1_14 b1_15)) rfl))) fun h1 => rfl) rfl)
theorem okL19_0 : LoopOk TT TU GL0 C94 ownF L19 (lp Tryz.f19 0) :=
 loopOk_of ks19_0 hs19_0 W19_0 FU _ (fun s k => by kernel_rfl) (fun s k => spec19_0 k FU (sS s 1) (sI s 6) (aRh s 0 0) (aRh s 0 1) (aRh s 0 2) (aSh s 1 0) (aBh s 1 1) (aBh s 1 2) (aIh s 1 3) (aIh s 1 4) (aIh s 1 5) (aIh s 1 6) (aIh s 1 7) (aIh s 1 8) (aIh s 1 9) (aIh s 1 10) (aIh s 1 11) (aSh s 1 12) (aIh s 1 13) (aIh s 1 14) (aIh s 1 15))
theorem run19 (zp zn zq : LL) (name : ByteArray) : fcall TT TU GL0 C94 ownF false L19 Tryz.f19 [(.agg [(.ro 19 zp), (.ro 6 zn), (.ro 8 zq)]), (.sc (.string name))] = (F_skirmishref09_Unit zp zn zq name).bind fun t => some (enc19 t) :=
 Eq.trans (by kernel_rfl) (nb fun t => (nd rfl rfl rfl))
theorem lib19 : Lib Tryz.prog GL0 C19 :=
 Lib.fn lib94 mixed TT_ok Tryz.func19 (by decide +kernel) (by kernel_rfl) false L19 (loops_of 1 (by kernel_rfl) (belowS below0 okL19_0)) ks19 (F := A19) (fun us => rfl) (fun us => run19 _ _ _ _) (fun t => rfl)
noncomputable def W147_0 : Ex → List Bool
 | .ret => (e4 (true :: (e4 (e4 (e16 [])))))
 | .exit n => bif Nat.beq n 0 then (e4 (e4 (e4 (e16 [false])))) else []
 | .normal => []
noncomputable def G_skirmishref09_needed_0 (l b0_0 b0_1 b0_2 : LL) : Nat → Int → Option (Bool)
 | 0, _ => none
 | m + 1, i => bif (decide (i < (Int.ofNat l.length))) then bif (decide ((0 : Int) ≤ i)) then Option.bind (l[i.toNat]?) fun r => bif (chk [LT.str] r) then Option.bind (F_skirmishref09_Unit b0_0 b0_1 b0_2 (cS r 0)) fun t => bif t.2.2.2.2.2.2.2.2.2.2.2.2.2.2.2.2.2.2.2 then bif (!t.2.1) then some true else
 G_skirmishref09_needed_0 l b0_0 b0_1 b0_2 m (wr (i + (1 : Int))) else
 G_skirmishref09_needed_0 l b0_0 b0_1 b0_2 m (wr (i + (1 : Int))) else none else none else some false
noncomputable def E147_0 (l : LL) (i : Int) (b0_0 b0_1 b0_2 : LL) : St := ⟨(.dead :: (.ro 1 l) :: (.ref 16000 1 0 0) :: .dead :: .dead :: (i64 i) :: (d4 (d16 [.dead, .dead, .dead]))), [(16000, ⟨.box, 27, 3, [[(.ro 19 b0_0), (.ro 6 b0_1), (.ro 8 b0_2)]]⟩)]⟩
noncomputable def X147_0 (k : Ex → St → Option CR) (t : Bool) : Option CR := bif t then k .ret ⟨(d4 ((bo false) :: (d4 (d4 (d16 []))))), []⟩ else k (.exit 0) ⟨(d4 (d4 (d4 (d16 [.dead])))), []⟩
noncomputable def ks147_0 : List SK := (.f .dead :: .f (.ro 1) :: .f (.ref 16000 1 0 0) :: .f .dead :: .f .dead :: .f (.int .i64) :: (f4 (f16 [.f .dead, .f .dead, .f .dead])))
noncomputable def hs147_0 : List HK := [⟨16000, .box, 27, 3, some [.ro 19, .ro 6, .ro 8]⟩]
noncomputable def Lm147_0 (s : St) (k : Ex → St → Option CR) : Option CR := bif chkS ks147_0 hs147_0 s then (G_skirmishref09_needed_0 (sR s 1) (aRh s 0 0) (aRh s 0 1) (aRh s 0 2) FU (sI s 5)).bind (X147_0 k) else none
noncomputable def L147_0 (s : St) (k : Ex → St → Option CR) : Option CR := Lm147_0 (maskS (maskOf ks147_0) s) k
noncomputable def L147 : LT' := fun i s k => bif Nat.beq i 0 then L147_0 s k else none
noncomputable def F_skirmishref09_needed (zp zn zq l : LL) : Option (Bool) := Option.bind (G_skirmishref09_needed_0 l zp zn zq FU (0 : Int)) fun t => bif t then some false else some true
noncomputable def enc147 (t : Bool) : CR := ⟨true, (bo t), [], []⟩
noncomputable def ks147 : List SK := [.agg [.ro 19, .ro 6, .ro 8], .f (.ro 1)]
noncomputable def A147 (us : List AVal) := F_skirmishref09_needed (aR us 0 0) (aR us 0 1) (aR us 0 2) (roRows (cIa us 1))
noncomputable def S147 (us : List AVal) : Call := bif chkA ks147 us then Call.of (A147 us) enc147 else Call.none
noncomputable def C147 := AI.ext 147 S147 C19
@[reducible] noncomputable def B147_0 := bodyOf TT TU GL0 C19 ownF L147 (lp Tryz.f147 0)
@[reducible] noncomputable def K147_0 (k : Ex → St → Option CR) : Ex → St → Option CR := fun e s => k e (maskS (W147_0 e) s)
theorem spec147_0 (k : Ex → St → Option CR) : ∀ (m : Nat) (l : LL) (i : Int) (b0_0 b0_1 b0_2 : LL), loopN B147_0 m (E147_0 l i b0_0 b0_1 b0_2) (K147_0 k) = (G_skirmishref09_needed_0 l b0_0 b0_1 b0_2 m i).bind (X147_0 k)
 | 0, _, _, _, _, _ => rfl
 | m + 1, l, i, b0_0, b0_1, b0_2 =>
 Eq.trans (by kernel_rfl) (nd rfl (nd rfl (nb fun r => (nd rfl (nb fun t => (nd rfl (nd rfl rfl (spec147_0 k m l (wr (i + (1 : Int))) b0_0 b0_1 b0_2)) (spec147_0 k m l (wr (i + (1 : Int))) b0_0 b0_1 b0_2))) rfl)) rfl) rfl)
theorem okL147_0 : LoopOk TT TU GL0 C19 ownF L147 (lp Tryz.f147 0) :=
 loopOk_of ks147_0 hs147_0 W147_0 FU _ (fun s k => by kernel_rfl) (fun s k => spec147_0 k FU (sR s 1) (sI s 5) (aRh s 0 0) (aRh s 0 1) (aRh s 0 2))
theorem run147 (zp zn zq l : LL) : fcall TT TU GL0 C19 ownF true L147 Tryz.f147 [(.agg [(.ro 19 zp), (.ro 6 zn), (.ro 8 zq)]), (.ro 1 l)] = (F_skirmishref09_needed zp zn zq l).bind fun t => some (enc147 t) :=
 Eq.trans (by kernel_rfl) (nb fun t => (nd rfl rfl rfl))
theorem lib147 : Lib Tryz.prog GL0 C147 :=
 Lib.fn lib19 mixed TT_ok Tryz.func147 (by decide +kernel) (by kernel_rfl) true L147 (loops_of 1 (by kernel_rfl) (belowS below0 okL147_0)) ks147 (F := A147) (fun us => rfl) (fun us => run147 _ _ _ _) (fun t => rfl)
noncomputable def W95_0 : Ex → List Bool
 | .ret => (false :: false :: true :: (e4 (e4 (e64 []))))
 | .exit n => bif Nat.beq n 0 then (false :: true :: (e4 (e4 (e64 [false])))) else []
 | .normal => []
noncomputable def W95_1 : Ex → List Bool
 | .ret => (false :: false :: true :: (e4 (e4 (e64 []))))
 | .exit n => bif Nat.beq n 2 then (false :: true :: false :: true :: (e4 (e64 [false, false, false]))) else bif Nat.beq n 1 then (false :: true :: false :: true :: (e4 (e64 [false, false, false]))) else bif Nat.beq n 0 then (false :: true :: (e4 (e4 (e64 [false])))) else []
 | .normal => []
noncomputable def G_skirmishref09_typed_1 (b0_0 b0_1 b0_2 : LL) (b1_1 : Bool) (b1_17 : LL) : Nat → Int → Option (Bool)
 | 0, _ => none
 | m + 1, k1 => bif (decide (k1 < (Int.ofNat b1_17.length))) then bif (decide ((0 : Int) ≤ k1)) then Option.bind (b1_17[k1.toNat]?) fun r => bif (chk [LT.str] r) then Option.bind (F_skirmishref09_Unit b0_0 b0_1 b0_2 (cS r 0)) fun t => bif (t.2.1 == b1_1) then some true else
 G_skirmishref09_typed_1 b0_0 b0_1 b0_2 b1_1 b1_17 m (wr (k1 + (1 : Int))) else none else none else some false
noncomputable def E95_1 (i k1 : Int) (b0_0 b0_1 b0_2 : LL) (b1_0 : ByteArray) (b1_1 b1_2 : Bool) (b1_3 b1_4 b1_5 b1_6 b1_7 b1_8 b1_9 b1_10 b1_11 : Int) (b1_12 : ByteArray) (b1_13 b1_14 b1_15 : Int) (b1_16 b1_17 b1_18 : LL) : St := ⟨(.dead :: (.ref 16000 1 0 0) :: .dead :: (i64 i) :: (.ref 28880 1 0 0) :: (i64 k1) :: (d4 (d64 [.dead]))), [(16000, ⟨.box, 27, 3, [[(.ro 19 b0_0), (.ro 6 b0_1), (.ro 8 b0_2)]]⟩), (28880, ⟨.box, 65, 19, [[(.sc (.string b1_0)), (bo b1_1), (bo b1_2), (i64 b1_3), (i64 b1_4), (i64 b1_5), (i64 b1_6), (i64 b1_7), (i64 b1_8), (i64 b1_9), (i64 b1_10), (i64 b1_11), (.sc (.string b1_12)), (i64 b1_13), (i64 b1_14), (i64 b1_15), (.ro 1 b1_16), (.ro 1 b1_17), (.ro 1 b1_18)]]⟩)]⟩
noncomputable def X95_1 (i : Int) (b0_0 b0_1 b0_2 : LL) (k : Ex → St → Option CR) (t : Bool) : Option CR := bif t then k .ret ⟨(.dead :: .dead :: (bo false) :: (d4 (d4 (d64 [])))), []⟩ else k (.exit 2) ⟨(.dead :: (.ref 16000 1 0 0) :: .dead :: (i64 i) :: (d4 (d64 [.dead, .dead, .dead]))), [(16000, ⟨.box, 27, 3, [[(.ro 19 b0_0), (.ro 6 b0_1), (.ro 8 b0_2)]]⟩)]⟩
noncomputable def ks95_1 : List SK := (.f .dead :: .f (.ref 16000 1 0 0) :: .f .dead :: .f (.int .i64) :: .f (.ref 28880 1 0 0) :: .f (.int .i64) :: (f4 (f64 [.f .dead])))
noncomputable def hs95_1 : List HK := [⟨16000, .box, 27, 3, some [.ro 19, .ro 6, .ro 8]⟩, ⟨28880, .box, 65, 19, some [.str, .bool, .bool, .int .i64, .int .i64, .int .i64, .int .i64, .int .i64, .int .i64, .int .i64, .int .i64, .int .i64, .str, .int .i64, .int .i64, .int .i64, .ro 1, .ro 1, .ro 1]⟩]
noncomputable def Lm95_1 (s : St) (k : Ex → St → Option CR) : Option CR := bif chkS ks95_1 hs95_1 s then (G_skirmishref09_typed_1 (aRh s 0 0) (aRh s 0 1) (aRh s 0 2) (aBh s 1 1) (aRh s 1 17) FU (sI s 5)).bind (X95_1 (sI s 3) (aRh s 0 0) (aRh s 0 1) (aRh s 0 2) k) else none
noncomputable def L95_1 (s : St) (k : Ex → St → Option CR) : Option CR := Lm95_1 (maskS (maskOf ks95_1) s) k
noncomputable def G_skirmishref09_typed_0 (b0_0 b0_1 b0_2 : LL) : Nat → Int → Option (Bool)
 | 0, _ => none
 | m + 1, i => bif (decide (i < (Int.ofNat b0_0.length))) then bif (decide ((0 : Int) ≤ i)) then Option.bind (b0_0[i.toNat]?) fun r => bif (chk y0 r) then Option.bind (F_skirmishref09_needed b0_0 b0_1 b0_2 (roRows (AVal.ro 1 (cR r 16)))) fun t => bif (!t) then some true else bif (!(cB r 1)) then bif (decide ((Int.ofNat (cR r 18).length) > (0 : Int))) then some true else Option.bind (G_skirmishref09_typed_1 b0_0 b0_1 b0_2 (cB r 1) (roRows (AVal.ro 1 (cR r 17))) FU (0 : Int)) fun t1 => bif t1 then some true else
 G_skirmishref09_typed_0 b0_0 b0_1 b0_2 m (wr (i + (1 : Int))) else Option.bind (G_skirmishref09_typed_1 b0_0 b0_1 b0_2 (cB r 1) (roRows (AVal.ro 1 (cR r 17))) FU (0 : Int)) fun t2 => bif t2 then some true else
 G_skirmishref09_typed_0 b0_0 b0_1 b0_2 m (wr (i + (1 : Int))) else none else none else some false
noncomputable def E95_0 (i : Int) (b0_0 b0_1 b0_2 : LL) : St := ⟨(.dead :: (.ref 16000 1 0 0) :: .dead :: (i64 i) :: (d4 (d64 [.dead, .dead, .dead]))), [(16000, ⟨.box, 27, 3, [[(.ro 19 b0_0), (.ro 6 b0_1), (.ro 8 b0_2)]]⟩)]⟩
noncomputable def X95_0 (b0_0 b0_1 b0_2 : LL) (k : Ex → St → Option CR) (t : Bool) : Option CR := bif t then k .ret ⟨(.dead :: .dead :: (bo false) :: (d4 (d4 (d64 [])))), []⟩ else k (.exit 0) ⟨(.dead :: (.ref 16000 1 0 0) :: (d4 (d4 (d64 [.dead])))), [(16000, ⟨.box, 27, 3, [[(.ro 19 b0_0), (.ro 6 b0_1), (.ro 8 b0_2)]]⟩)]⟩
noncomputable def ks95_0 : List SK := (.f .dead :: .f (.ref 16000 1 0 0) :: .f .dead :: .f (.int .i64) :: (f4 (f64 [.f .dead, .f .dead, .f .dead])))
noncomputable def hs95_0 : List HK := [⟨16000, .box, 27, 3, some [.ro 19, .ro 6, .ro 8]⟩]
noncomputable def Lm95_0 (s : St) (k : Ex → St → Option CR) : Option CR := bif chkS ks95_0 hs95_0 s then (G_skirmishref09_typed_0 (aRh s 0 0) (aRh s 0 1) (aRh s 0 2) FU (sI s 3)).bind (X95_0 (aRh s 0 0) (aRh s 0 1) (aRh s 0 2) k) else none
noncomputable def L95_0 (s : St) (k : Ex → St → Option CR) : Option CR := Lm95_0 (maskS (maskOf ks95_0) s) k
noncomputable def W95_2 : Ex → List Bool
 | .ret => (false :: false :: true :: (e4 (e4 (e64 []))))
 | .exit n => bif Nat.beq n 4 then (e4 (e4 (e64 [false, false, false]))) else []
 | .normal => []
noncomputable def G_skirmishref09_typed_2 (b0_0 b0_1 b0_2 : LL) : Nat → Int → Option (Bool)
 | 0, _ => none
 | m + 1, i => bif (decide (i < (Int.ofNat b0_2.length))) then bif (decide ((0 : Int) ≤ i)) then Option.bind (b0_2[i.toNat]?) fun r => bif (chk y2 r) then Option.bind (F_skirmishref09_needed b0_0 b0_1 b0_2 (roRows (AVal.ro 1 (cR r 1)))) fun t => bif (!t) then some true else
 G_skirmishref09_typed_2 b0_0 b0_1 b0_2 m (wr (i + (1 : Int))) else none else none else some false
noncomputable def E95_2 (i : Int) (b0_0 b0_1 b0_2 : LL) : St := ⟨(.dead :: (.ref 16000 1 0 0) :: (d4 (.dead :: .dead :: ((i64 i) :: (d64 [.dead, .dead]))))), [(16000, ⟨.box, 27, 3, [[(.ro 19 b0_0), (.ro 6 b0_1), (.ro 8 b0_2)]]⟩)]⟩
noncomputable def X95_2 (k : Ex → St → Option CR) (t : Bool) : Option CR := bif t then k .ret ⟨(.dead :: .dead :: (bo false) :: (d4 (d4 (d64 [])))), []⟩ else k (.exit 4) ⟨(d4 (d4 (d64 [.dead, .dead, .dead]))), []⟩
noncomputable def ks95_2 : List SK := (.f .dead :: .f (.ref 16000 1 0 0) :: (f4 (.f .dead :: .f .dead :: (.f (.int .i64) :: (f64 [.f .dead, .f .dead])))))
noncomputable def hs95_2 : List HK := [⟨16000, .box, 27, 3, some [.ro 19, .ro 6, .ro 8]⟩]
noncomputable def Lm95_2 (s : St) (k : Ex → St → Option CR) : Option CR := bif chkS ks95_2 hs95_2 s then (G_skirmishref09_typed_2 (aRh s 0 0) (aRh s 0 1) (aRh s 0 2) FU (sI s 8)).bind (X95_2 k) else none
noncomputable def L95_2 (s : St) (k : Ex → St → Option CR) : Option CR := Lm95_2 (maskS (maskOf ks95_2) s) k
noncomputable def L95 : LT' := fun i s k => bif Nat.beq i 0 then L95_0 s k else bif Nat.beq i 2 then L95_1 s k else bif Nat.beq i 4 then L95_2 s k else none
noncomputable def F_skirmishref09_typed (zp zn zq : LL) : Option (Bool) := Option.bind (G_skirmishref09_typed_0 zp zn zq FU (0 : Int)) fun t => bif t then some false else Option.bind (G_skirmishref09_typed_2 zp zn zq FU (0 : Int)) fun t1 => bif t1 then some false else some true
noncomputable def enc95 (t : Bool) : CR := ⟨true, (bo t), [], []⟩
noncomputable def ks95 : List SK := [.agg [.ro 19, .ro 6, .ro 8]]
noncomputable def A95 (us : List AVal) := F_skirmishref09_typed (aR us 0 0) (aR us 0 1) (aR us 0 2)
noncomputable def S95 (us : List AVal) : Call := bif chkA ks95 us then Call.of (A95 us) enc95 else Call.none
noncomputable def C95 := AI.ext 95 S95 C147
@[reducible] noncomputable def B95_1 := bodyOf TT TU GL0 C147 ownF L95 (lp Tryz.f95 1)
@[reducible] noncomputable def K95_1 (k : Ex → St → Option CR) : Ex → St → Option CR := fun e s => k e (maskS (W95_1 e) s)
theorem spec95_1 (k : Ex → St → Option CR) : ∀ (m : Nat) (i k1 : Int) (b0_0 b0_1 b0_2 : LL) (b1_0 : ByteArray) (b1_1 b1_2 : Bool) (b1_3 b1_4 b1_5 b1_6 b1_7 b1_8 b1_9 b1_10 b1_11 : Int) (b1_12 : ByteArray) (b1_13 b1_14 b1_15 : Int) (b1_16 b1_17 b1_18 : LL), loopN B95_1 m (E95_1 i k1 b0_0 b0_1 b0_2 b1_0 b1_1 b1_2 b1_3 b1_4 b1_5 b1_6 b1_7 b1_8 b1_9 b1_10 b1_11 b1_12 b1_13 b1_14 b1_15 b1_16 b1_17 b1_18) (K95_1 k) = (G_skirmishref09_typed_1 b0_0 b0_1 b0_2 b1_1 b1_17 m k1).bind (X95_1 i b0_0 b0_1 b0_2 k)
 | 0, _, _, _, _, _, _, _, _, _, _, _, _, _, _, _, _, _, _, _, _, _, _, _, _ => rfl
 | m + 1, i, k1, b0_0, b0_1, b0_2, b1_0, b1_1, b1_2, b1_3, b1_4, b1_5, b1_6, b1_7, b1_8, b1_9, b1_10, b1_11, b1_12, b1_13, b1_14, b1_15, b1_16, b1_17, b1_18 =>
 Eq.trans (by kernel_rfl) (nd rfl (nd rfl (nb fun r => (nd rfl (nb fun t => (nd rfl rfl (spec95_1 k m i (wr (k1 + (1 : Int))) b0_0 b0_1 b0_2 b1_0 b1_1 b1_2 b1_3 b1_4 b1_5 b1_6 b1_7 b1_8 b1_9 b1_10 b1_11 b1_12 b1_13 b1_14 b1_15 b1_16 b1_17 b1_18))) rfl)) rfl) rfl)
theorem okL95_1 : LoopOk TT TU GL0 C147 ownF L95 (lp Tryz.f95 1) :=
 loopOk_of ks95_1 hs95_1 W95_1 FU _ (fun s k => by kernel_rfl) (fun s k => spec95_1 k FU (sI s 3) (sI s 5) (aRh s 0 0) (aRh s 0 1) (aRh s 0 2) (aSh s 1 0) (aBh s 1 1) (aBh s 1 2) (aIh s 1 3) (aIh s 1 4) (aIh s 1 5) (aIh s 1 6) (aIh s 1 7) (aIh s 1 8) (aIh s 1 9) (aIh s 1 10) (aIh s 1 11) (aSh s 1 12) (aIh s 1 13) (aIh s 1 14) (aIh s 1 15) (aRh s 1 16) (aRh s 1 17) (aRh s 1 18))
@[reducible] noncomputable def B95_0 := bodyOf TT TU GL0 C147 ownF L95 (lp Tryz.f95 0)
@[reducible] noncomputable def K95_0 (k : Ex → St → Option CR) : Ex → St → Option CR := fun e s => k e (maskS (W95_0 e) s)
theorem spec95_0 (k : Ex → St → Option CR) : ∀ (m : Nat) (i : Int) (b0_0 b0_1 b0_2 : LL), loopN B95_0 m (E95_0 i b0_0 b0_1 b0_2) (K95_0 k) = (G_skirmishref09_typed_0 b0_0 b0_1 b0_2 m i).bind (X95_0 b0_0 b0_1 b0_2 k)
 | 0, _, _, _, _ => rfl
 | m + 1, i, b0_0, b0_1, b0_2 =>
 Eq.trans (by kernel_rfl) (nd rfl (nd rfl (nb fun r => (nd rfl (nb fun t => (nd rfl rfl (nd rfl (nd rfl rfl (nb fun t1 => (nd rfl rfl (spec95_0 k m (wr (i + (1 : Int))) b0_0 b0_1 b0_2)))) (nb fun t2 => (nd rfl rfl (spec95_0 k m (wr (i + (1 : Int))) b0_0 b0_1 b0_2)))))) rfl)) rfl) rfl)
theorem okL95_0 : LoopOk TT TU GL0 C147 ownF L95 (lp Tryz.f95 0) :=
 loopOk_of ks95_0 hs95_0 W95_0 FU _ (fun s k => by kernel_rfl) (fun s k => spec95_0 k FU (sI s 3) (aRh s 0 0) (aRh s 0 1) (aRh s 0 2))
@[reducible] noncomputable def B95_2 := bodyOf TT TU GL0 C147 ownF L95 (lp Tryz.f95 2)
@[reducible] noncomputable def K95_2 (k : Ex → St → Option CR) : Ex → St → Option CR := fun e s => k e (maskS (W95_2 e) s)
theorem spec95_2 (k : Ex → St → Option CR) : ∀ (m : Nat) (i : Int) (b0_0 b0_1 b0_2 : LL), loopN B95_2 m (E95_2 i b0_0 b0_1 b0_2) (K95_2 k) = (G_skirmishref09_typed_2 b0_0 b0_1 b0_2 m i).bind (X95_2 k)
 | 0, _, _, _, _ => rfl
 | m + 1, i, b0_0, b0_1, b0_2 =>
 Eq.trans (by kernel_rfl) (nd rfl (nd rfl (nb fun r => (nd rfl (nb fun t => (nd rfl rfl (spec95_2 k m (wr (i + (1 : Int))) b0_0 b0_1 b0_2))) rfl)) rfl) rfl)
theorem okL95_2 : LoopOk TT TU GL0 C147 ownF L95 (lp Tryz.f95 2) :=
 loopOk_of ks95_2 hs95_2 W95_2 FU _ (fun s k => by kernel_rfl) (fun s k => spec95_2 k FU (sI s 8) (aRh s 0 0) (aRh s 0 1) (aRh s 0 2))
theorem run95 (zp zn zq : LL) : fcall TT TU GL0 C147 ownF true L95 Tryz.f95 [(.agg [(.ro 19 zp), (.ro 6 zn), (.ro 8 zq)])] = (F_skirmishref09_typed zp zn zq).bind fun t => some (enc95 t) :=
 Eq.trans (by kernel_rfl) (nb fun t => (nd rfl rfl (nb fun t1 => (nd rfl rfl rfl))))
theorem lib95 : Lib Tryz.prog GL0 C95 :=
 Lib.fn lib147 mixed TT_ok Tryz.func95 (by decide +kernel) (by kernel_rfl) true L95 (loops_of 3 (by kernel_rfl) (belowS (belowS (belowS below0 okL95_0) okL95_1) okL95_2)) ks95 (F := A95) (fun us => rfl) (fun us => run95 _ _ _) (fun t => rfl)
noncomputable def W152_0 : Ex → List Bool
 | .ret => (e4 (true :: true :: (e4 (e16 [false, false]))))
 | .exit n => bif Nat.beq n 0 then (e4 (true :: (e4 (e16 [false, false, false])))) else []
 | .normal => []
noncomputable def G_skirmishref09_Tech_0 (name : ByteArray) (b0_2 : LL) : Nat → Int → Option (Bool × ByteArray × LL × Int × Int × Int × ByteArray × Int × Int)
 | 0, _ => none
 | m + 1, i => bif (decide (i < (Int.ofNat b0_2.length))) then bif (decide ((0 : Int) ≤ i)) then Option.bind (b0_2[i.toNat]?) fun r => bif (chk y2 r) then bif (List.beq (ByteArray.toList (cS r 0)) (ByteArray.toList name)) then Option.bind (b0_2[i.toNat]?) fun r1 => bif (chk y2 r1) then some (true, (cS r1 0), (cR r1 1), (cI r1 2), (cI r1 3), (cI r1 4), (cS r1 5), (cI r1 6), (cI r1 7)) else none else
 G_skirmishref09_Tech_0 name b0_2 m (wr (i + (1 : Int))) else none else none else some (false, ⟨#[]⟩, [], 0, 0, 0, ⟨#[]⟩, 0, 0)
noncomputable def E152_0 (name : ByteArray) (i : Int) (b0_0 b0_1 b0_2 : LL) (b1_0 : ByteArray) (b1_2 b1_3 b1_4 : Int) (b1_5 : ByteArray) (b1_6 b1_7 : Int) : St := ⟨(.dead :: (.sc (.string name)) :: (.ref 16000 1 0 0) :: .dead :: (.ref 16016 1 0 0) :: .dead :: (i64 i) :: (d4 (d16 [.dead]))), [(16000, ⟨.box, 27, 3, [[(.ro 19 b0_0), (.ro 6 b0_1), (.ro 8 b0_2)]]⟩), (16016, ⟨.box, 98, 8, [[(.sc (.string b1_0)), .emp, (i64 b1_2), (i64 b1_3), (i64 b1_4), (.sc (.string b1_5)), (i64 b1_6), (i64 b1_7)]]⟩)]⟩
noncomputable def X152_0 (b1_0 : ByteArray) (b1_2 b1_3 b1_4 : Int) (b1_5 : ByteArray) (b1_6 b1_7 : Int) (k : Ex → St → Option CR) (t : Bool × ByteArray × LL × Int × Int × Int × ByteArray × Int × Int) : Option CR := bif t.1 then k .ret ⟨(d4 ((.ref 16016 1 0 0) :: (bo true) :: (d4 (d16 [.dead, .dead])))), [(16016, ⟨.box, 98, 8, [[(.sc (.string t.2.1)), (.ro 1 t.2.2.1), (.sc (.int .i64 t.2.2.2.1)), (.sc (.int .i64 t.2.2.2.2.1)), (.sc (.int .i64 t.2.2.2.2.2.1)), (.sc (.string t.2.2.2.2.2.2.1)), (.sc (.int .i64 t.2.2.2.2.2.2.2.1)), (.sc (.int .i64 t.2.2.2.2.2.2.2.2))]]⟩)]⟩ else k (.exit 0) ⟨(d4 ((.ref 16016 1 0 0) :: (d4 (d16 [.dead, .dead, .dead])))), [(16016, ⟨.box, 98, 8, [[(.sc (.string b1_0)), .emp, (i64 b1_2), (i64 b1_3), (i64 b1_4), (.sc (.string b1_5)), (i64 b1_6), (i64 b1_7)]]⟩)]⟩
noncomputable def ks152_0 : List SK := (.f .dead :: .f (.str) :: .f (.ref 16000 1 0 0) :: .f .dead :: .f (.ref 16016 1 0 0) :: .f .dead :: .f (.int .i64) :: (f4 (f16 [.f .dead])))
noncomputable def hs152_0 : List HK := [⟨16000, .box, 27, 3, some [.ro 19, .ro 6, .ro 8]⟩, ⟨16016, .box, 98, 8, some [.str, .emp, .int .i64, .int .i64, .int .i64, .str, .int .i64, .int .i64]⟩]
noncomputable def Lm152_0 (s : St) (k : Ex → St → Option CR) : Option CR := bif chkS ks152_0 hs152_0 s then (G_skirmishref09_Tech_0 (sS s 1) (aRh s 0 2) FU (sI s 6)).bind (X152_0 (aSh s 1 0) (aIh s 1 2) (aIh s 1 3) (aIh s 1 4) (aSh s 1 5) (aIh s 1 6) (aIh s 1 7) k) else none
noncomputable def L152_0 (s : St) (k : Ex → St → Option CR) : Option CR := Lm152_0 (maskS (maskOf ks152_0) s) k
noncomputable def L152 : LT' := fun i s k => bif Nat.beq i 0 then L152_0 s k else none
noncomputable def F_skirmishref09_Tech (zp zn zq : LL) (name : ByteArray) : Option (ByteArray × LL × Int × Int × Int × ByteArray × Int × Int × Bool) := Option.bind (G_skirmishref09_Tech_0 name zq FU (0 : Int)) fun t => bif t.1 then some (t.2.1, t.2.2.1, t.2.2.2.1, t.2.2.2.2.1, t.2.2.2.2.2.1, t.2.2.2.2.2.2.1, t.2.2.2.2.2.2.2.1, t.2.2.2.2.2.2.2.2, true) else some ((ByteArray.mk (Array.mk [])), [], (0 : Int), (0 : Int), (0 : Int), (ByteArray.mk (Array.mk [])), (0 : Int), (0 : Int), false)
noncomputable def enc152 (t : ByteArray × LL × Int × Int × Int × ByteArray × Int × Int × Bool) : CR := ⟨true, (.tup [(.agg [(.sc (.string t.1)), (.ro 1 t.2.1), (.sc (.int .i64 t.2.2.1)), (.sc (.int .i64 t.2.2.2.1)), (.sc (.int .i64 t.2.2.2.2.1)), (.sc (.string t.2.2.2.2.2.1)), (.sc (.int .i64 t.2.2.2.2.2.2.1)), (.sc (.int .i64 t.2.2.2.2.2.2.2.1))]), (.sc (.bool t.2.2.2.2.2.2.2.2))]), [], []⟩
noncomputable def ks152 : List SK := [.agg [.ro 19, .ro 6, .ro 8], .f (.str)]
noncomputable def A152 (us : List AVal) := F_skirmishref09_Tech (aR us 0 0) (aR us 0 1) (aR us 0 2) (toS (cIa us 1))
noncomputable def S152 (us : List AVal) : Call := bif chkA ks152 us then Call.of (A152 us) enc152 else Call.none
noncomputable def C152 := AI.ext 152 S152 C95
@[reducible] noncomputable def B152_0 := bodyOf TT TU GL0 C95 ownF L152 (lp Tryz.f152 0)
@[reducible] noncomputable def K152_0 (k : Ex → St → Option CR) : Ex → St → Option CR := fun e s => k e (maskS (W152_0 e) s)
theorem spec152_0 (k : Ex → St → Option CR) : ∀ (m : Nat) (name : ByteArray) (i : Int) (b0_0 b0_1 b0_2 : LL) (b1_0 : ByteArray) (b1_2 b1_3 b1_4 : Int) (b1_5 : ByteArray) (b1_6 b1_7 : Int), loopN B152_0 m (E152_0 name i b0_0 b0_1 b0_2 b1_0 b1_2 b1_3 b1_4 b1_5 b1_6 b1_7) (K152_0 k) = (G_skirmishref09_Tech_0 name b0_2 m i).bind (X152_0 b1_0 b1_2 b1_3 b1_4 b1_5 b1_6 b1_7 k)
 | 0, _, _, _, _, _, _, _, _, _, _, _, _ => rfl
 | m + 1, name, i, b0_0, b0_1, b0_2, b1_0, b1_2, b1_3, b1_4, b1_5, b1_6, b1_7 =>
 Eq.trans (by kernel_rfl) (nd rfl (nc rfl (fun h1 => (nb fun r => (nd rfl (nd rfl (nu h1 (nb fun r1 => (nd rfl rfl rfl))) (spec152_0 k m name (wr (i + (1 : Int))) b0_0 b0_1 b0_2 b1_0 b1_2 b1_3 b1_4 b1_5 b1_6 b1_7)) rfl))) fun h1 => rfl) rfl)
theorem okL152_0 : LoopOk TT TU GL0 C95 ownF L152 (lp Tryz.f152 0) :=
 loopOk_of ks152_0 hs152_0 W152_0 FU _ (fun s k => by kernel_rfl) (fun s k => spec152_0 k FU (sS s 1) (sI s 6) (aRh s 0 0) (aRh s 0 1) (aRh s 0 2) (aSh s 1 0) (aIh s 1 2) (aIh s 1 3) (aIh s 1 4) (aSh s 1 5) (aIh s 1 6) (aIh s 1 7))
theorem run152 (zp zn zq : LL) (name : ByteArray) : fcall TT TU GL0 C95 ownF false L152 Tryz.f152 [(.agg [(.ro 19 zp), (.ro 6 zn), (.ro 8 zq)]), (.sc (.string name))] = (F_skirmishref09_Tech zp zn zq name).bind fun t => some (enc152 t) :=
 Eq.trans (by kernel_rfl) (nb fun t => (nd rfl rfl rfl))
theorem lib152 : Lib Tryz.prog GL0 C152 :=
 Lib.fn lib95 mixed TT_ok Tryz.func152 (by decide +kernel) (by kernel_rfl) false L152 (loops_of 1 (by kernel_rfl) (belowS below0 okL152_0)) ks152 (F := A152) (fun us => rfl) (fun us => run152 _ _ _ _) (fun t => rfl)
noncomputable def F_skirmishref09_Needs (zp zn zq : LL) (name : ByteArray) : Option (LL) := Option.bind (F_skirmishref09_Unit zp zn zq name) fun t => bif t.2.2.2.2.2.2.2.2.2.2.2.2.2.2.2.2.2.2.2 then some t.2.2.2.2.2.2.2.2.2.2.2.2.2.2.2.2.1 else Option.bind (F_skirmishref09_Tech zp zn zq name) fun t1 => some t1.2.1
noncomputable def enc148 (t : LL) : CR := ⟨true, (.ro 1 t), [], []⟩
noncomputable def ks148 : List SK := [.agg [.ro 19, .ro 6, .ro 8], .f (.str)]
noncomputable def A148 (us : List AVal) := F_skirmishref09_Needs (aR us 0 0) (aR us 0 1) (aR us 0 2) (toS (cIa us 1))
noncomputable def S148 (us : List AVal) : Call := bif chkA ks148 us then Call.of (A148 us) enc148 else Call.none
noncomputable def C148 := AI.ext 148 S148 C152
theorem run148 (zp zn zq : LL) (name : ByteArray) : fcall TT TU GL0 C152 ownF false noL Tryz.f148 [(.agg [(.ro 19 zp), (.ro 6 zn), (.ro 8 zq)]), (.sc (.string name))] = (F_skirmishref09_Needs zp zn zq name).bind fun t => some (enc148 t) :=
 Eq.trans (by kernel_rfl) (nb fun t => (nd rfl rfl (nb fun t1 => rfl)))
theorem lib148 : Lib Tryz.prog GL0 C148 :=
 Lib.fn lib152 mixed TT_ok Tryz.func148 (by decide +kernel) (by kernel_rfl) false noL (loops_of 0 (by kernel_rfl) below0) ks148 (F := A148) (fun us => rfl) (fun us => run148 _ _ _ _) (fun t => rfl)
noncomputable def W96_0 : Ex → List Bool
 | .ret => (false :: false :: true :: (e4 (e16 (e16 (e16 [false, false, false])))))
 | .exit n => bif Nat.beq n 0 then (false :: false :: true :: (e4 (e16 (e16 (e16 [false, false, false]))))) else []
 | .normal => []
noncomputable def W96_1 : Ex → List Bool
 | .ret => (false :: false :: true :: (e4 (e16 (e16 (e16 [false, false, false])))))
 | .exit n => bif Nat.beq n 2 then (false :: true :: false :: true :: true :: true :: (e4 (e16 (e16 (e16 []))))) else bif Nat.beq n 1 then (false :: true :: false :: true :: true :: (e4 (e16 (e16 (e16 [false]))))) else bif Nat.beq n 0 then (false :: false :: true :: (e4 (e16 (e16 (e16 [false, false, false]))))) else []
 | .normal => []
noncomputable def G_skirmishref09_sequence_1 (R1 R2 b0_0 b0_1 b0_2 : LL) : Nat → ByteArray → Int → Option (ByteArray)
 | 0, _, _ => none
 | m + 1, best, i => bif (decide (i < (Int.ofNat R1.length))) then bif ((decide ((0 : Int) ≤ i)) && (decide (i < (Int.ofNat R1.length)))) then Option.bind (R1[i.toNat]?) fun r => bif (chk [LT.str] r) then Option.bind (F_skirmishref09_Has R2 (cS r 0)) fun t => bif (!t) then Option.bind (R1[i.toNat]?) fun r1 => bif (chk [LT.str] r1) then Option.bind (F_skirmishref09_Needs b0_0 b0_1 b0_2 (cS r1 0)) fun t1 => Option.bind (F_skirmishref09_all t1 R2) fun t2 => bif t2 then bif (List.beq (ByteArray.toList best) (ByteArray.toList (ByteArray.mk (Array.mk [])))) then Option.bind (R1[i.toNat]?) fun r2 => bif (chk [LT.str] r2) then
 G_skirmishref09_sequence_1 R1 R2 b0_0 b0_1 b0_2 m (cS r2 0) (wr (i + (1 : Int))) else none else Option.bind (R1[i.toNat]?) fun r3 => bif (chk [LT.str] r3) then bif (Op.bytesLess (ByteArray.toList (cS r3 0)) (ByteArray.toList best)) then Option.bind (R1[i.toNat]?) fun r4 => bif (chk [LT.str] r4) then
 G_skirmishref09_sequence_1 R1 R2 b0_0 b0_1 b0_2 m (cS r4 0) (wr (i + (1 : Int))) else none else
 G_skirmishref09_sequence_1 R1 R2 b0_0 b0_1 b0_2 m best (wr (i + (1 : Int))) else none else
 G_skirmishref09_sequence_1 R1 R2 b0_0 b0_1 b0_2 m best (wr (i + (1 : Int))) else none else
 G_skirmishref09_sequence_1 R1 R2 b0_0 b0_1 b0_2 m best (wr (i + (1 : Int))) else none else none else some best
noncomputable def E96_1 (R1 R2 : LL) (best : ByteArray) (i : Int) (b0_0 b0_1 b0_2 : LL) : St := ⟨(.dead :: (.ref 16000 1 0 0) :: .dead :: (.slc 19216 (R1).length) :: (.slc 22400 (R2).length) :: (.sc (.string best)) :: (i64 i) :: (d16 (d16 (d16 [.dead, .dead, .dead])))), [(16000, ⟨.box, 27, 3, [[(.ro 19 b0_0), (.ro 6 b0_1), (.ro 8 b0_2)]]⟩), (19216, ⟨.arr, 9, 1, R1⟩), (22400, ⟨.arr, 9, 1, R2⟩)]⟩
noncomputable def X96_1 (R1 R2 b0_0 b0_1 b0_2 : LL) (k : Ex → St → Option CR) (t : ByteArray) : Option CR := k (.exit 2) ⟨(.dead :: (.ref 16000 1 0 0) :: .dead :: (.slc 19216 (R1).length) :: (.slc 22400 (R2).length) :: (.sc (.string t)) :: (d4 (d16 (d16 (d16 []))))), [(16000, ⟨.box, 27, 3, [[(.ro 19 b0_0), (.ro 6 b0_1), (.ro 8 b0_2)]]⟩), (19216, ⟨.arr, 9, 1, R1⟩), (22400, ⟨.arr, 9, 1, R2⟩)]⟩
noncomputable def ks96_1 : List SK := (.f .dead :: .f (.ref 16000 1 0 0) :: .f .dead :: .f (.slc 19216 1) :: .f (.slc 22400 2) :: .f (.str) :: .f (.int .i64) :: (f16 (f16 (f16 [.f .dead, .f .dead, .f .dead]))))
noncomputable def hs96_1 : List HK := [⟨16000, .box, 27, 3, some [.ro 19, .ro 6, .ro 8]⟩, ⟨19216, .arr, 9, 1, none⟩, ⟨22400, .arr, 9, 1, none⟩]
noncomputable def Lm96_1 (s : St) (k : Ex → St → Option CR) : Option CR := bif chkS ks96_1 hs96_1 s then (G_skirmishref09_sequence_1 (blkAt s.heap 1).2.rows (blkAt s.heap 2).2.rows (aRh s 0 0) (aRh s 0 1) (aRh s 0 2) FU (sS s 5) (sI s 6)).bind (X96_1 (blkAt s.heap 1).2.rows (blkAt s.heap 2).2.rows (aRh s 0 0) (aRh s 0 1) (aRh s 0 2) k) else none
noncomputable def L96_1 (s : St) (k : Ex → St → Option CR) : Option CR := Lm96_1 (maskS (maskOf ks96_1) s) k
noncomputable def G_skirmishref09_sequence_0 (R1 b0_0 b0_1 b0_2 : LL) : Nat → LL → Option (LL)
 | 0, _ => none
 | m + 1, R2 => Option.bind (G_skirmishref09_sequence_1 R1 R2 b0_0 b0_1 b0_2 FU (ByteArray.mk (Array.mk [])) (0 : Int)) fun t => bif (List.beq (ByteArray.toList t) (ByteArray.toList (ByteArray.mk (Array.mk [])))) then some R2 else bif (roomOk (R2.length + 1) 16) then
 G_skirmishref09_sequence_0 R1 b0_0 b0_1 b0_2 m (R2 ++ [[(AVal.sc (Value.string t))]]) else none
noncomputable def E96_0 (R1 R2 b0_0 b0_1 b0_2 : LL) : St := ⟨(.dead :: (.ref 16000 1 0 0) :: .dead :: (.slc 19216 (R1).length) :: (.slc 22400 (R2).length) :: (d4 (d16 (d16 (d16 [.dead]))))), [(16000, ⟨.box, 27, 3, [[(.ro 19 b0_0), (.ro 6 b0_1), (.ro 8 b0_2)]]⟩), (19216, ⟨.arr, 9, 1, R1⟩), (22400, ⟨.arr, 9, 1, R2⟩)]⟩
noncomputable def X96_0 (k : Ex → St → Option CR) (t : LL) : Option CR := k .ret ⟨(.dead :: .dead :: (.slc 22400 (t).length) :: (d4 (d16 (d16 (d16 [.dead, .dead, .dead]))))), [(22400, ⟨.arr, 9, 1, t⟩)]⟩
noncomputable def ks96_0 : List SK := (.f .dead :: .f (.ref 16000 1 0 0) :: .f .dead :: .f (.slc 19216 1) :: .f (.slc 22400 2) :: (f4 (f16 (f16 (f16 [.f .dead])))))
noncomputable def hs96_0 : List HK := [⟨16000, .box, 27, 3, some [.ro 19, .ro 6, .ro 8]⟩, ⟨19216, .arr, 9, 1, none⟩, ⟨22400, .arr, 9, 1, none⟩]
noncomputable def Lm96_0 (s : St) (k : Ex → St → Option CR) : Option CR := bif chkS ks96_0 hs96_0 s then (G_skirmishref09_sequence_0 (blkAt s.heap 1).2.rows (aRh s 0 0) (aRh s 0 1) (aRh s 0 2) FU (blkAt s.heap 2).2.rows).bind (X96_0 k) else none
noncomputable def L96_0 (s : St) (k : Ex → St → Option CR) : Option CR := Lm96_0 (maskS (maskOf ks96_0) s) k
noncomputable def L96 : LT' := fun i s k => bif Nat.beq i 0 then L96_0 s k else bif Nat.beq i 2 then L96_1 s k else none
noncomputable def F_skirmishref09_sequence (zp zn zq : LL) : Option (LL) := Option.bind (F_skirmishref09_Units zp zn zq) fun t => Option.bind (F_skirmishref09_Techs zp zn zq) fun t1 => bif (roomOk (t.length + t1.length) 16) then Option.bind (G_skirmishref09_sequence_0 (Blk.rows (Blk.mk BKind.arr 9 1 (t ++ t1))) zp zn zq FU []) fun t2 => some t2 else none
noncomputable def enc96 (t : LL) : CR := ⟨true, (.slc 0 (t).length), [], [⟨.arr, 9, 1, t⟩]⟩
noncomputable def ks96 : List SK := [.agg [.ro 19, .ro 6, .ro 8]]
noncomputable def A96 (us : List AVal) := F_skirmishref09_sequence (aR us 0 0) (aR us 0 1) (aR us 0 2)
noncomputable def S96 (us : List AVal) : Call := bif chkA ks96 us then Call.of (A96 us) enc96 else Call.none
noncomputable def C96 := AI.ext 96 S96 C148
@[reducible] noncomputable def B96_1 := bodyOf TT TU GL0 C148 ownF L96 (lp Tryz.f96 1)
@[reducible] noncomputable def K96_1 (k : Ex → St → Option CR) : Ex → St → Option CR := fun e s => k e (maskS (W96_1 e) s)
theorem spec96_1 (k : Ex → St → Option CR) : ∀ (m : Nat) (R1 R2 : LL) (best : ByteArray) (i : Int) (b0_0 b0_1 b0_2 : LL), loopN B96_1 m (E96_1 R1 R2 best i b0_0 b0_1 b0_2) (K96_1 k) = (G_skirmishref09_sequence_1 R1 R2 b0_0 b0_1 b0_2 m best i).bind (X96_1 R1 R2 b0_0 b0_1 b0_2 k)
 | 0, _, _, _, _, _, _, _ => rfl
 | m + 1, R1, R2, best, i, b0_0, b0_1, b0_2 =>
 Eq.trans (by kernel_rfl) (nu (vr R1) (nd rfl (nc (show ((((verEq R1.length R1.length) && (decide ((0 : Int) ≤ i))) && (decide (i < (Int.ofNat R1.length))))) = _ from (n_and (n_andL (verEq_rfl _) rfl) rfl)) (fun h1 => (nu (vr R1) (nb fun r => (nd rfl (nu (vr R2) (nb fun t => (nd rfl (nu (show (((verEq R1.length R1.length) && (decide ((0 : Int) ≤ i))) && (decide (i < (Int.ofNat R1.length)))) = true from (n_andL (n_andL (verEq_rfl _) (n_al h1)) (n_ar h1))) (nu (vr R1) (nb fun r1 => (nd rfl (nb fun t1 => (nu (vr R2) (nb fun t2 => (nd rfl (nd rfl (nu (show (((verEq R1.length R1.length) && (decide ((0 : Int) ≤ i))) && (decide (i < (Int.ofNat R1.length)))) = true from (n_andL (n_andL (verEq_rfl _) (n_al h1)) (n_ar h1))) (nu (vr R1) (nb fun r2 => (nd rfl (spec96_1 k m R1 R2 (cS r2 0) (wr (i + (1 : Int))) b0_0 b0_1 b0_2) rfl)))) (nu (show (((verEq R1.length R1.length) && (decide ((0 : Int) ≤ i))) && (decide (i < (Int.ofNat R1.length)))) = true from (n_andL (n_andL (verEq_rfl _) (n_al h1)) (n_ar h1))) (nu (vr R1) (nb fun r3 => (nd rfl (nd rfl (nu (show (((verEq R1.length R1.length) && (decide ((0 : Int) ≤ i))) && (decide (i < (Int.ofNat R1.length)))) = true from (n_andL (n_andL (verEq_rfl _) (n_al h1)) (n_ar h1))) (nu (vr R1) (nb fun r4 => (nd rfl (spec96_1 k m R1 R2 (cS r4 0) (wr (i + (1 : Int))) b0_0 b0_1 b0_2) rfl)))) (spec96_1 k m R1 R2 best (wr (i + (1 : Int))) b0_0 b0_1 b0_2)) rfl))))) (spec96_1 k m R1 R2 best (wr (i + (1 : Int))) b0_0 b0_1 b0_2))))) rfl)))) (spec96_1 k m R1 R2 best (wr (i + (1 : Int))) b0_0 b0_1 b0_2)))) rfl)))) fun h1 => rfl) rfl))
theorem okL96_1 : LoopOk TT TU GL0 C148 ownF L96 (lp Tryz.f96 1) :=
 loopOk_of ks96_1 hs96_1 W96_1 FU _ (fun s k => by kernel_rfl) (fun s k => spec96_1 k FU (blkAt s.heap 1).2.rows (blkAt s.heap 2).2.rows (sS s 5) (sI s 6) (aRh s 0 0) (aRh s 0 1) (aRh s 0 2))
@[reducible] noncomputable def B96_0 := bodyOf TT TU GL0 C148 ownF L96 (lp Tryz.f96 0)
@[reducible] noncomputable def K96_0 (k : Ex → St → Option CR) : Ex → St → Option CR := fun e s => k e (maskS (W96_0 e) s)
theorem spec96_0 (k : Ex → St → Option CR) : ∀ (m : Nat) (R1 R2 b0_0 b0_1 b0_2 : LL), loopN B96_0 m (E96_0 R1 R2 b0_0 b0_1 b0_2) (K96_0 k) = (G_skirmishref09_sequence_0 R1 b0_0 b0_1 b0_2 m R2).bind (X96_0 k)
 | 0, _, _, _, _, _ => rfl
 | m + 1, R1, R2, b0_0, b0_1, b0_2 =>
 Eq.trans (by kernel_rfl) (nu (show (((true && (verEq R1.length (blkLen [(Prod.mk 16000 (Blk.mk BKind.box 27 3 [[(AVal.ro 19 b0_0), (AVal.ro 6 b0_1), (AVal.ro 8 b0_2)]])), (Prod.mk 19216 (Blk.mk BKind.arr 9 1 R1)), (Prod.mk 22400 (Blk.mk BKind.arr 9 1 R2))] 1))) && ((true && (verEq R2.length (blkLen [(Prod.mk 16000 (Blk.mk BKind.box 27 3 [[(AVal.ro 19 b0_0), (AVal.ro 6 b0_1), (AVal.ro 8 b0_2)]])), (Prod.mk 19216 (Blk.mk BKind.arr 9 1 R1)), (Prod.mk 22400 (Blk.mk BKind.arr 9 1 R2))] 2))) && true)) && true) = true from (n_andL (n_andL (n_andL rfl (by first | exact verEq_of rfl | simp [verEq, blkLen, blkAt])) (n_andL (n_andL rfl (by first | exact verEq_of rfl | simp [verEq, blkLen, blkAt])) rfl)) rfl)) (nb fun t => (nd rfl rfl (nd (show ((((verEq R2.length R2.length) && true) && (roomOk (R2.length + 1) 16))) = _ from (n_andL (n_andL (verEq_rfl _) rfl) rfl)) (spec96_0 k m R1 (R2 ++ [[(AVal.sc (Value.string t))]]) b0_0 b0_1 b0_2) rfl))))
theorem okL96_0 : LoopOk TT TU GL0 C148 ownF L96 (lp Tryz.f96 0) :=
 loopOk_of ks96_0 hs96_0 W96_0 FU _ (fun s k => by kernel_rfl) (fun s k => spec96_0 k FU (blkAt s.heap 1).2.rows (blkAt s.heap 2).2.rows (aRh s 0 0) (aRh s 0 1) (aRh s 0 2))
theorem run96 (zp zn zq : LL) : fcall TT TU GL0 C148 ownF true L96 Tryz.f96 [(.agg [(.ro 19 zp), (.ro 6 zn), (.ro 8 zq)])] = (F_skirmishref09_sequence zp zn zq).bind fun t => some (enc96 t) :=
 Eq.trans (by kernel_rfl) (nb fun t => (nu (show ((((true && (verEq t.length t.length)) && true) && true) && true) = true from (n_andL (n_andL (n_andL (n_andL rfl (verEq_rfl _)) rfl) rfl) rfl)) (nb fun t1 => (nu (show ((((true && (verEq t1.length t1.length)) && true) && true) && true) = true from (n_andL (n_andL (n_andL (n_andL rfl (verEq_rfl _)) rfl) rfl) rfl)) (nu (vr t1) (nd (show ((((verEq t.length t.length) && true) && (roomOk (t.length + t1.length) 16))) = _ from (n_andL (n_andL (verEq_rfl _) rfl) rfl)) (nu (show (((true && (verEq (t ++ t1).length (blkLen [(Prod.mk 16000 (Blk.mk BKind.box 27 3 [[(AVal.ro 19 zp), (AVal.ro 6 zn), (AVal.ro 8 zq)]])), (Prod.mk 19216 (Blk.mk BKind.arr 9 1 (t ++ t1))), (Prod.mk 22400 (Blk.mk BKind.arr 9 1 []))] 1))) && true) && true) = true from (n_andL (n_andL (n_andL rfl (by first | exact verEq_of rfl | simp [verEq, blkLen, blkAt])) rfl) rfl)) (nb fun t2 => (nu (vr t2) rfl))) rfl))))))
theorem lib96 : Lib Tryz.prog GL0 C96 :=
 Lib.fn lib148 mixed TT_ok Tryz.func96 (by decide +kernel) (by kernel_rfl) true L96 (loops_of 2 (by kernel_rfl) (belowS (belowS below0 okL96_0) okL96_1)) ks96 (F := A96) (fun us => rfl) (fun us => run96 _ _ _) (fun t => rfl)
noncomputable def W45_0 : Ex → List Bool
 | .ret => (false :: false :: true :: (e4 (e16 (e16 (e16 [false, false, false])))))
 | .exit n => bif Nat.beq n 1 then (false :: true :: (e4 (e4 (e16 (e16 (e16 [])))))) else []
 | .normal => []
noncomputable def G_skirmishref09_Validate_0 (R1 b0_0 : LL) : Nat → Int → Option (Bool)
 | 0, _ => none
 | m + 1, i => bif (decide (i < (Int.ofNat b0_0.length))) then bif (decide ((0 : Int) ≤ i)) then Option.bind (b0_0[i.toNat]?) fun r => bif (chk y0 r) then Option.bind (F_skirmishref09_Has R1 (cS r 0)) fun t => bif t then some true else
 G_skirmishref09_Validate_0 R1 b0_0 m (wr (i + (1 : Int))) else none else none else some false
noncomputable def E45_0 (R1 : LL) (i : Int) (b0_0 b0_1 b0_2 : LL) : St := ⟨(.dead :: (.ref 16000 1 0 0) :: .dead :: (.slc 38416 (R1).length) :: (i64 i) :: (d4 (d16 (d16 (d16 [.dead]))))), [(16000, ⟨.box, 27, 3, [[(.ro 19 b0_0), (.ro 6 b0_1), (.ro 8 b0_2)]]⟩), (38416, ⟨.arr, 9, 1, R1⟩)]⟩
noncomputable def X45_0 (b0_0 b0_1 b0_2 : LL) (k : Ex → St → Option CR) (t : Bool) : Option CR := bif t then k .ret ⟨(.dead :: .dead :: (.sc (.int .i64 (7 : Int))) :: (d4 (d16 (d16 (d16 [.dead, .dead, .dead]))))), []⟩ else k (.exit 1) ⟨(.dead :: (.ref 16000 1 0 0) :: (d4 (d4 (d16 (d16 (d16 [])))))), [(16000, ⟨.box, 27, 3, [[(.ro 19 b0_0), (.ro 6 b0_1), (.ro 8 b0_2)]]⟩)]⟩
noncomputable def ks45_0 : List SK := (.f .dead :: .f (.ref 16000 1 0 0) :: .f .dead :: .f (.slc 38416 1) :: .f (.int .i64) :: (f4 (f16 (f16 (f16 [.f .dead])))))
noncomputable def hs45_0 : List HK := [⟨16000, .box, 27, 3, some [.ro 19, .ro 6, .ro 8]⟩, ⟨38416, .arr, 9, 1, none⟩]
noncomputable def Lm45_0 (s : St) (k : Ex → St → Option CR) : Option CR := bif chkS ks45_0 hs45_0 s then (G_skirmishref09_Validate_0 (blkAt s.heap 1).2.rows (aRh s 0 0) FU (sI s 4)).bind (X45_0 (aRh s 0 0) (aRh s 0 1) (aRh s 0 2) k) else none
noncomputable def L45_0 (s : St) (k : Ex → St → Option CR) : Option CR := Lm45_0 (maskS (maskOf ks45_0) s) k
noncomputable def L45 : LT' := fun i s k => bif Nat.beq i 1 then L45_0 s k else none
noncomputable def F_skirmishref09_Validate (zp zn zq : LL) : Option (Int) := Option.bind (F_skirmishref09_limits zp zn zq) fun t => bif (!t) then some (2 : Int) else Option.bind (F_skirmishref09_named zp zn zq) fun t1 => bif (!t1) then some (6 : Int) else Option.bind (F_skirmishref09_ordered zp zn zq) fun t2 => bif (!t2) then some (13 : Int) else Option.bind (F_skirmishref09_Techs zp zn zq) fun t3 => Option.bind (G_skirmishref09_Validate_0 t3 zp FU (0 : Int)) fun t4 => bif t4 then some (7 : Int) else Option.bind (F_skirmishref09_numbers zp zn zq) fun t5 => bif (!t5) then some (1 : Int) else Option.bind (F_skirmishref09_found zp zn zq) fun t6 => bif (!t6) then some (8 : Int) else Option.bind (F_skirmishref09_typed zp zn zq) fun t7 => bif (!t7) then some (18 : Int) else Option.bind (F_skirmishref09_sequence zp zn zq) fun t8 => bif (decide ((Int.ofNat t8.length) < (wr ((Int.ofNat zp.length) + (Int.ofNat zq.length))))) then some (14 : Int) else some (0 : Int)
noncomputable def enc45 (t : Int) : CR := ⟨true, (i64 t), [], []⟩
noncomputable def ks45 : List SK := [.agg [.ro 19, .ro 6, .ro 8]]
noncomputable def A45 (us : List AVal) := F_skirmishref09_Validate (aR us 0 0) (aR us 0 1) (aR us 0 2)
noncomputable def S45 (us : List AVal) : Call := bif chkA ks45 us then Call.of (A45 us) enc45 else Call.none
noncomputable def C45 := AI.ext 45 S45 C96
@[reducible] noncomputable def B45_0 := bodyOf TT TU GL0 C96 ownF L45 (lp Tryz.f45 0)
@[reducible] noncomputable def K45_0 (k : Ex → St → Option CR) : Ex → St → Option CR := fun e s => k e (maskS (W45_0 e) s)
theorem spec45_0 (k : Ex → St → Option CR) : ∀ (m : Nat) (R1 : LL) (i : Int) (b0_0 b0_1 b0_2 : LL), loopN B45_0 m (E45_0 R1 i b0_0 b0_1 b0_2) (K45_0 k) = (G_skirmishref09_Validate_0 R1 b0_0 m i).bind (X45_0 b0_0 b0_1 b0_2 k)
 | 0, _, _, _, _, _ => rfl
 | m + 1, R1, i, b0_0, b0_1, b0_2 =>
 Eq.trans (by kernel_rfl) (nd rfl (nd rfl (nb fun r => (nd rfl (nu (vr R1) (nb fun t => (nd rfl rfl (spec45_0 k m R1 (wr (i + (1 : Int))) b0_0 b0_1 b0_2)))) rfl)) rfl) rfl)
theorem okL45_0 : LoopOk TT TU GL0 C96 ownF L45 (lp Tryz.f45 0) :=
 loopOk_of ks45_0 hs45_0 W45_0 FU _ (fun s k => by kernel_rfl) (fun s k => spec45_0 k FU (blkAt s.heap 1).2.rows (sI s 4) (aRh s 0 0) (aRh s 0 1) (aRh s 0 2))
theorem run45 (zp zn zq : LL) : fcall TT TU GL0 C96 ownF true L45 Tryz.f45 [(.agg [(.ro 19 zp), (.ro 6 zn), (.ro 8 zq)])] = (F_skirmishref09_Validate zp zn zq).bind fun t => some (enc45 t) :=
 Eq.trans (by kernel_rfl) (nb fun t => (nd rfl rfl (nb fun t1 => (nd rfl rfl (nb fun t2 => (nd rfl rfl (nb fun t3 => (nu (show ((((true && (verEq t3.length t3.length)) && true) && true) && true) = true from (n_andL (n_andL (n_andL (n_andL rfl (verEq_rfl _)) rfl) rfl) rfl)) (nu (show (((true && (verEq t3.length (blkLen [(Prod.mk 16000 (Blk.mk BKind.box 27 3 [[(AVal.ro 19 zp), (AVal.ro 6 zn), (AVal.ro 8 zq)]])), (Prod.mk 38416 (Blk.mk BKind.arr 9 1 t3))] 1))) && true) && true) = true from (n_andL (n_andL (n_andL rfl (by first | exact verEq_of rfl | simp [verEq, blkLen, blkAt])) rfl) rfl)) (nb fun t4 => (nd rfl rfl (nb fun t5 => (nd rfl rfl (nb fun t6 => (nd rfl rfl (nb fun t7 => (nd rfl rfl (nb fun t8 => (nu (show ((((true && (verEq t8.length t8.length)) && true) && true) && true) = true from (n_andL (n_andL (n_andL (n_andL rfl (verEq_rfl _)) rfl) rfl) rfl)) (nu (vr t8) (nd rfl rfl rfl)))))))))))))))))))))
theorem lib45 : Lib Tryz.prog GL0 C45 :=
 Lib.fn lib96 mixed TT_ok Tryz.func45 (by decide +kernel) (by kernel_rfl) true L45 (loops_of 1 (by kernel_rfl) (belowS below0 okL45_0)) ks45 (F := A45) (fun us => rfl) (fun us => run45 _ _ _) (fun t => rfl)
noncomputable def F_skirmishref06_Valid (w h : Int) : Option (Bool) := bif (decide (w ≥ (1 : Int))) then bif (decide (w ≤ (32 : Int))) then bif (decide (h ≥ (1 : Int))) then some (decide (h ≤ (32 : Int))) else some false else some false else some false
noncomputable def enc149 (t : Bool) : CR := ⟨true, (bo t), [], []⟩
noncomputable def ks149 : List SK := [.f (.int .i64), .f (.int .i64)]
noncomputable def A149 (us : List AVal) := F_skirmishref06_Valid (toI (cIa us 0)) (toI (cIa us 1))
noncomputable def S149 (us : List AVal) : Call := bif chkA ks149 us then Call.of (A149 us) enc149 else Call.none
noncomputable def C149 := AI.ext 149 S149 C45
theorem run149 (w h : Int) : fcall TT TU GL0 C45 ownF true noL Tryz.f149 [(i64 w), (i64 h)] = (F_skirmishref06_Valid w h).bind fun t => some (enc149 t) :=
 Eq.trans (by kernel_rfl) (nd rfl (nd rfl (nd rfl rfl rfl) rfl) rfl)
theorem lib149 : Lib Tryz.prog GL0 C149 :=
 Lib.fn lib45 mixed TT_ok Tryz.func149 (by decide +kernel) (by kernel_rfl) true noL (loops_of 0 (by kernel_rfl) below0) ks149 (F := A149) (fun us => rfl) (fun us => run149 _ _) (fun t => rfl)
noncomputable def F_skirmishref07_Formed (zM zN : Int) (zx : LL) : Option (Bool) := Option.bind (F_skirmishref06_Valid zM zN) fun t => bif t then some ((Int.ofNat zx.length) == (wr (zM * zN))) else some false
noncomputable def enc97 (t : Bool) : CR := ⟨true, (bo t), [], []⟩
noncomputable def ks97 : List SK := [.agg [.int .i64, .int .i64, .ro 3]]
noncomputable def A97 (us : List AVal) := F_skirmishref07_Formed (aI us 0 0) (aI us 0 1) (aR us 0 2)
noncomputable def S97 (us : List AVal) : Call := bif chkA ks97 us then Call.of (A97 us) enc97 else Call.none
noncomputable def C97 := AI.ext 97 S97 C149
theorem run97 (zM zN : Int) (zx : LL) : fcall TT TU GL0 C149 ownF true noL Tryz.f97 [(.agg [(i64 zM), (i64 zN), (.ro 3 zx)])] = (F_skirmishref07_Formed zM zN zx).bind fun t => some (enc97 t) :=
 Eq.trans (by kernel_rfl) (nb fun t => (nd rfl rfl rfl))
theorem lib97 : Lib Tryz.prog GL0 C97 :=
 Lib.fn lib149 mixed TT_ok Tryz.func97 (by decide +kernel) (by kernel_rfl) true noL (loops_of 0 (by kernel_rfl) below0) ks97 (F := A97) (fun us => rfl) (fun us => run97 _ _ _) (fun t => rfl)
noncomputable def F_skirmishref07_ValidCell (zQ zO zK : Int) : Option (Bool) := bif (decide (zQ < (1 : Int))) then some false else bif (decide (zQ > (5 : Int))) then some false else bif (decide (zO < (0 : Int))) then some false else bif (decide (zO > (3 : Int))) then some false else bif (decide (zK < (0 : Int))) then some false else bif (decide (zK > (1000000 : Int))) then some false else bif (zQ == (4 : Int)) then some ((decide (zK > (0 : Int))) == true) else some ((decide (zK > (0 : Int))) == (zQ == (5 : Int)))
noncomputable def enc98 (t : Bool) : CR := ⟨true, (bo t), [], []⟩
noncomputable def ks98 : List SK := [.agg [.int .i64, .int .i64, .int .i64]]
noncomputable def A98 (us : List AVal) := F_skirmishref07_ValidCell (aI us 0 0) (aI us 0 1) (aI us 0 2)
noncomputable def S98 (us : List AVal) : Call := bif chkA ks98 us then Call.of (A98 us) enc98 else Call.none
noncomputable def C98 := AI.ext 98 S98 C97
theorem run98 (zQ zO zK : Int) : fcall TT TU GL0 C97 ownF true noL Tryz.f98 [(.agg [(i64 zQ), (i64 zO), (i64 zK)])] = (F_skirmishref07_ValidCell zQ zO zK).bind fun t => some (enc98 t) :=
 Eq.trans (by kernel_rfl) (nd rfl rfl (nd rfl rfl (nd rfl rfl (nd rfl rfl (nd rfl rfl (nd rfl rfl (nd rfl rfl rfl)))))))
theorem lib98 : Lib Tryz.prog GL0 C98 :=
 Lib.fn lib97 mixed TT_ok Tryz.func98 (by decide +kernel) (by kernel_rfl) true noL (loops_of 0 (by kernel_rfl) below0) ks98 (F := A98) (fun us => rfl) (fun us => run98 _ _ _) (fun t => rfl)
noncomputable def W46_0 : Ex → List Bool
 | .ret => (false :: false :: true :: (e16 [false, false]))
 | .exit n => bif Nat.beq n 0 then (e4 (e16 [false])) else []
 | .normal => []
noncomputable def G_skirmishref07_Valid_0 (b0_2 : LL) : Nat → Int → Option (Bool)
 | 0, _ => none
 | m + 1, i => bif (decide (i < (Int.ofNat b0_2.length))) then bif (decide ((0 : Int) ≤ i)) then Option.bind (b0_2[i.toNat]?) fun r => bif (chk y3 r) then Option.bind (F_skirmishref07_ValidCell (cI r 0) (cI r 1) (cI r 2)) fun t => bif (!t) then some true else
 G_skirmishref07_Valid_0 b0_2 m (wr (i + (1 : Int))) else none else none else some false
noncomputable def E46_0 (i b0_0 b0_1 : Int) (b0_2 : LL) : St := ⟨(.dead :: (.ref 16000 1 0 0) :: .dead :: (i64 i) :: (d16 [.dead])), [(16000, ⟨.box, 30, 3, [[(i64 b0_0), (i64 b0_1), (.ro 3 b0_2)]]⟩)]⟩
noncomputable def X46_0 (k : Ex → St → Option CR) (t : Bool) : Option CR := bif t then k .ret ⟨(.dead :: .dead :: (bo false) :: (d16 [.dead, .dead])), []⟩ else k (.exit 0) ⟨(d4 (d16 [.dead])), []⟩
noncomputable def ks46_0 : List SK := (.f .dead :: .f (.ref 16000 1 0 0) :: .f .dead :: .f (.int .i64) :: (f16 [.f .dead]))
noncomputable def hs46_0 : List HK := [⟨16000, .box, 30, 3, some [.int .i64, .int .i64, .ro 3]⟩]
noncomputable def Lm46_0 (s : St) (k : Ex → St → Option CR) : Option CR := bif chkS ks46_0 hs46_0 s then (G_skirmishref07_Valid_0 (aRh s 0 2) FU (sI s 3)).bind (X46_0 k) else none
noncomputable def L46_0 (s : St) (k : Ex → St → Option CR) : Option CR := Lm46_0 (maskS (maskOf ks46_0) s) k
noncomputable def L46 : LT' := fun i s k => bif Nat.beq i 0 then L46_0 s k else none
noncomputable def F_skirmishref07_Valid (zM zN : Int) (zx : LL) : Option (Bool) := Option.bind (F_skirmishref07_Formed zM zN zx) fun t => bif (!t) then some false else Option.bind (G_skirmishref07_Valid_0 zx FU (0 : Int)) fun t1 => bif t1 then some false else some true
noncomputable def enc46 (t : Bool) : CR := ⟨true, (bo t), [], []⟩
noncomputable def ks46 : List SK := [.agg [.int .i64, .int .i64, .ro 3]]
noncomputable def A46 (us : List AVal) := F_skirmishref07_Valid (aI us 0 0) (aI us 0 1) (aR us 0 2)
noncomputable def S46 (us : List AVal) : Call := bif chkA ks46 us then Call.of (A46 us) enc46 else Call.none
noncomputable def C46 := AI.ext 46 S46 C98
@[reducible] noncomputable def B46_0 := bodyOf TT TU GL0 C98 ownF L46 (lp Tryz.f46 0)
@[reducible] noncomputable def K46_0 (k : Ex → St → Option CR) : Ex → St → Option CR := fun e s => k e (maskS (W46_0 e) s)
theorem spec46_0 (k : Ex → St → Option CR) : ∀ (m : Nat) (i b0_0 b0_1 : Int) (b0_2 : LL), loopN B46_0 m (E46_0 i b0_0 b0_1 b0_2) (K46_0 k) = (G_skirmishref07_Valid_0 b0_2 m i).bind (X46_0 k)
 | 0, _, _, _, _ => rfl
 | m + 1, i, b0_0, b0_1, b0_2 =>
 Eq.trans (by kernel_rfl) (nd rfl (nd rfl (nb fun r => (nd rfl (nb fun t => (nd rfl rfl (spec46_0 k m (wr (i + (1 : Int))) b0_0 b0_1 b0_2))) rfl)) rfl) rfl)
theorem okL46_0 : LoopOk TT TU GL0 C98 ownF L46 (lp Tryz.f46 0) :=
 loopOk_of ks46_0 hs46_0 W46_0 FU _ (fun s k => by kernel_rfl) (fun s k => spec46_0 k FU (sI s 3) (aIh s 0 0) (aIh s 0 1) (aRh s 0 2))
theorem run46 (zM zN : Int) (zx : LL) : fcall TT TU GL0 C98 ownF true L46 Tryz.f46 [(.agg [(i64 zM), (i64 zN), (.ro 3 zx)])] = (F_skirmishref07_Valid zM zN zx).bind fun t => some (enc46 t) :=
 Eq.trans (by kernel_rfl) (nb fun t => (nd rfl rfl (nb fun t1 => (nd rfl rfl rfl))))
theorem lib46 : Lib Tryz.prog GL0 C46 :=
 Lib.fn lib98 mixed TT_ok Tryz.func46 (by decide +kernel) (by kernel_rfl) true L46 (loops_of 1 (by kernel_rfl) (belowS below0 okL46_0)) ks46 (F := A46) (fun us => rfl) (fun us => run46 _ _ _) (fun t => rfl)
noncomputable def F_skirmishref02_Near (n : Int) : Option (Int) := some (minI (maxI n (-(1048576 : Int))) (1048576 : Int))
noncomputable def enc132 (t : Int) : CR := ⟨true, (i64 t), [], []⟩
noncomputable def ks132 : List SK := [.f (.int .i64)]
noncomputable def A132 (us : List AVal) := F_skirmishref02_Near (toI (cIa us 0))
noncomputable def S132 (us : List AVal) : Call := bif chkA ks132 us then Call.of (A132 us) enc132 else Call.none
noncomputable def C132 := AI.ext 132 S132 C46
theorem run132 (n : Int) : fcall TT TU GL0 C46 ownF true noL Tryz.f132 [(i64 n)] = (F_skirmishref02_Near n).bind fun t => some (enc132 t) :=
 Eq.trans (by kernel_rfl) rfl
theorem lib132 : Lib Tryz.prog GL0 C132 :=
 Lib.fn lib46 mixed TT_ok Tryz.func132 (by decide +kernel) (by kernel_rfl) true noL (loops_of 0 (by kernel_rfl) below0) ks132 (F := A132) (fun us => rfl) (fun us => run132 _) (fun t => rfl)
noncomputable def F_skirmishref02_NearVec (zF zG : Int) : Option (Int × Int) := Option.bind (F_skirmishref02_Near zF) fun t => Option.bind (F_skirmishref02_Near zG) fun t1 => some (t, t1)
noncomputable def enc117 (t : Int × Int) : CR := ⟨true, (.agg [(.sc (.int .i64 t.1)), (.sc (.int .i64 t.2))]), [], []⟩
noncomputable def ks117 : List SK := [.agg [.int .i64, .int .i64]]
noncomputable def A117 (us : List AVal) := F_skirmishref02_NearVec (aI us 0 0) (aI us 0 1)
noncomputable def S117 (us : List AVal) : Call := bif chkA ks117 us then Call.of (A117 us) enc117 else Call.none
noncomputable def C117 := AI.ext 117 S117 C132
theorem run117 (zF zG : Int) : fcall TT TU GL0 C132 ownF true noL Tryz.f117 [(.agg [(i64 zF), (i64 zG)])] = (F_skirmishref02_NearVec zF zG).bind fun t => some (enc117 t) :=
 Eq.trans (by kernel_rfl) (nb fun t => (nb fun t1 => rfl))
theorem lib117 : Lib Tryz.prog GL0 C117 :=
 Lib.fn lib132 mixed TT_ok Tryz.func117 (by decide +kernel) (by kernel_rfl) true noL (loops_of 0 (by kernel_rfl) below0) ks117 (F := A117) (fun us => rfl) (fun us => run117 _ _) (fun t => rfl)
noncomputable def F_skirmishref02_Valid (zF zG : Int) : Option (Bool) := Option.bind (F_skirmishref02_NearVec zF zG) fun t => some ((zF == t.1) && (zG == t.2))
noncomputable def enc179 (t : Bool) : CR := ⟨true, (bo t), [], []⟩
noncomputable def ks179 : List SK := [.agg [.int .i64, .int .i64]]
noncomputable def A179 (us : List AVal) := F_skirmishref02_Valid (aI us 0 0) (aI us 0 1)
noncomputable def S179 (us : List AVal) : Call := bif chkA ks179 us then Call.of (A179 us) enc179 else Call.none
noncomputable def C179 := AI.ext 179 S179 C117
theorem run179 (zF zG : Int) : fcall TT TU GL0 C117 ownF true noL Tryz.f179 [(.agg [(i64 zF), (i64 zG)])] = (F_skirmishref02_Valid zF zG).bind fun t => some (enc179 t) :=
 Eq.trans (by kernel_rfl) (nb fun t => rfl)
theorem lib179 : Lib Tryz.prog GL0 C179 :=
 Lib.fn lib117 mixed TT_ok Tryz.func179 (by decide +kernel) (by kernel_rfl) true noL (loops_of 0 (by kernel_rfl) below0) ks179 (F := A179) (fun us => rfl) (fun us => run179 _ _) (fun t => rfl)
noncomputable def F_skirmishref21_stat (n : Int) : Option (Bool) := bif (decide (n ≥ (0 : Int))) then some (decide (n ≤ (100000 : Int))) else some false
noncomputable def enc180 (t : Bool) : CR := ⟨true, (bo t), [], []⟩
noncomputable def ks180 : List SK := [.f (.int .i64)]
noncomputable def A180 (us : List AVal) := F_skirmishref21_stat (toI (cIa us 0))
noncomputable def S180 (us : List AVal) : Call := bif chkA ks180 us then Call.of (A180 us) enc180 else Call.none
noncomputable def C180 := AI.ext 180 S180 C179
theorem run180 (n : Int) : fcall TT TU GL0 C179 ownF true noL Tryz.f180 [(i64 n)] = (F_skirmishref21_stat n).bind fun t => some (enc180 t) :=
 Eq.trans (by kernel_rfl) (nd rfl rfl rfl)
theorem lib180 : Lib Tryz.prog GL0 C180 :=
 Lib.fn lib179 mixed TT_ok Tryz.func180 (by decide +kernel) (by kernel_rfl) true noL (loops_of 0 (by kernel_rfl) below0) ks180 (F := A180) (fun us => rfl) (fun us => run180 _) (fun t => rfl)
noncomputable def F_skirmishref20_Valid (zaj zar zas z7 : Int) (zak : ByteArray) : Option (Bool) := Option.bind (F_skirmishref02_Valid zar zas) fun t => bif (zaj == (1 : Int)) then bif t then bif (z7 == (0 : Int)) then some (List.beq (ByteArray.toList zak) (ByteArray.toList (ByteArray.mk (Array.mk [])))) else some false else some false else bif (zaj == (3 : Int)) then bif t then bif (z7 == (0 : Int)) then some (List.beq (ByteArray.toList zak) (ByteArray.toList (ByteArray.mk (Array.mk [])))) else some false else some false else bif (zaj == (6 : Int)) then bif t then bif (z7 == (0 : Int)) then some (List.beq (ByteArray.toList zak) (ByteArray.toList (ByteArray.mk (Array.mk [])))) else some false else some false else bif (zaj == (2 : Int)) then bif ((zar == (0 : Int)) && (zas == (0 : Int))) then bif (decide (z7 ≥ (1 : Int))) then bif (decide (z7 ≤ (1099511627776 : Int))) then some (List.beq (ByteArray.toList zak) (ByteArray.toList (ByteArray.mk (Array.mk [])))) else some false else some false else some false else bif (zaj == (4 : Int)) then bif t then bif (z7 == (0 : Int)) then Option.bind (F_skirmishref09_Name zak) fun t1 => some t1 else some false else some false else bif (zaj == (5 : Int)) then bif ((zar == (0 : Int)) && (zas == (0 : Int))) then bif (z7 == (0 : Int)) then some (List.beq (ByteArray.toList zak) (ByteArray.toList (ByteArray.mk (Array.mk [])))) else some false else some false else some false
noncomputable def enc181 (t : Bool) : CR := ⟨true, (bo t), [], []⟩
noncomputable def ks181 : List SK := [.agg [.int .i64, .int .i64, .int .i64, .int .i64, .str]]
noncomputable def A181 (us : List AVal) := F_skirmishref20_Valid (aI us 0 0) (aI us 0 1) (aI us 0 2) (aI us 0 3) (aS us 0 4)
noncomputable def S181 (us : List AVal) : Call := bif chkA ks181 us then Call.of (A181 us) enc181 else Call.none
noncomputable def C181 := AI.ext 181 S181 C180
theorem run181 (zaj zar zas z7 : Int) (zak : ByteArray) : fcall TT TU GL0 C180 ownF true noL Tryz.f181 [(.agg [(i64 zaj), (i64 zar), (i64 zas), (i64 z7), (.sc (.string zak))])] = (F_skirmishref20_Valid zaj zar zas z7 zak).bind fun t => some (enc181 t) :=
 Eq.trans (by kernel_rfl) (nb fun t => (nd rfl (nd rfl (nd rfl rfl rfl) rfl) (nd rfl (nd rfl (nd rfl rfl rfl) rfl) (nd rfl (nd rfl (nd rfl rfl rfl) rfl) (nd rfl (nd rfl (nd rfl (nd rfl rfl rfl) rfl) rfl) (nd rfl (nd rfl (nd rfl (nb fun t1 => rfl) rfl) rfl) (nd rfl (nd rfl (nd rfl rfl rfl) rfl) rfl)))))))
theorem lib181 : Lib Tryz.prog GL0 C181 :=
 Lib.fn lib180 mixed TT_ok Tryz.func181 (by decide +kernel) (by kernel_rfl) true noL (loops_of 0 (by kernel_rfl) below0) ks181 (F := A181) (fun us => rfl) (fun us => run181 _ _ _ _ _) (fun t => rfl)
noncomputable def W150_0 : Ex → List Bool
 | .ret => (false :: false :: true :: (e4 (e4 (e4 (e16 (e64 [false, false]))))))
 | .exit n => bif Nat.beq n 0 then (false :: true :: (e4 (e4 (e4 (e16 (e64 [false, false, false])))))) else []
 | .normal => []
noncomputable def G_skirmishref21_numbers_0 (b0_10 : LL) : Nat → Int → Option (Bool)
 | 0, _ => none
 | m + 1, i => bif (decide (i < (Int.ofNat b0_10.length))) then bif (decide ((0 : Int) ≤ i)) then Option.bind (b0_10[i.toNat]?) fun r => bif (chk y4 r) then Option.bind (F_skirmishref20_Valid (cI r 0) (cI r 1) (cI r 2) (cI r 3) (cS r 4)) fun t => bif (!t) then some true else
 G_skirmishref21_numbers_0 b0_10 m (wr (i + (1 : Int))) else none else none else some false
noncomputable def E150_0 (i b0_0 b0_1 : Int) (b0_2 : ByteArray) (b0_3 b0_4 b0_5 b0_6 b0_7 b0_8 b0_9 : Int) (b0_10 b0_11 : LL) : St := ⟨(.dead :: (.ref 16000 1 0 0) :: .dead :: (i64 i) :: (d4 (d4 (d4 (d16 (d64 [.dead])))))), [(16000, ⟨.box, 60, 12, [[(i64 b0_0), (i64 b0_1), (.sc (.string b0_2)), (i64 b0_3), (i64 b0_4), (i64 b0_5), (i64 b0_6), (i64 b0_7), (i64 b0_8), (i64 b0_9), (.ro 5 b0_10), (.ro 3 b0_11)]]⟩)]⟩
noncomputable def X150_0 (b0_0 b0_1 : Int) (b0_2 : ByteArray) (b0_3 b0_4 b0_5 b0_6 b0_7 b0_8 b0_9 : Int) (b0_10 b0_11 : LL) (k : Ex → St → Option CR) (t : Bool) : Option CR := bif t then k .ret ⟨(.dead :: .dead :: (bo false) :: (d4 (d4 (d4 (d16 (d64 [.dead, .dead])))))), []⟩ else k (.exit 0) ⟨(.dead :: (.ref 16000 1 0 0) :: (d4 (d4 (d4 (d16 (d64 [.dead, .dead, .dead])))))), [(16000, ⟨.box, 60, 12, [[(i64 b0_0), (i64 b0_1), (.sc (.string b0_2)), (i64 b0_3), (i64 b0_4), (i64 b0_5), (i64 b0_6), (i64 b0_7), (i64 b0_8), (i64 b0_9), (.ro 5 b0_10), (.ro 3 b0_11)]]⟩)]⟩
noncomputable def ks150_0 : List SK := (.f .dead :: .f (.ref 16000 1 0 0) :: .f .dead :: .f (.int .i64) :: (f4 (f4 (f4 (f16 (f64 [.f .dead]))))))
noncomputable def hs150_0 : List HK := [⟨16000, .box, 60, 12, some [.int .i64, .int .i64, .str, .int .i64, .int .i64, .int .i64, .int .i64, .int .i64, .int .i64, .int .i64, .ro 5, .ro 3]⟩]
noncomputable def Lm150_0 (s : St) (k : Ex → St → Option CR) : Option CR := bif chkS ks150_0 hs150_0 s then (G_skirmishref21_numbers_0 (aRh s 0 10) FU (sI s 3)).bind (X150_0 (aIh s 0 0) (aIh s 0 1) (aSh s 0 2) (aIh s 0 3) (aIh s 0 4) (aIh s 0 5) (aIh s 0 6) (aIh s 0 7) (aIh s 0 8) (aIh s 0 9) (aRh s 0 10) (aRh s 0 11) k) else none
noncomputable def L150_0 (s : St) (k : Ex → St → Option CR) : Option CR := Lm150_0 (maskS (maskOf ks150_0) s) k
noncomputable def W150_1 : Ex → List Bool
 | .ret => (false :: false :: true :: (e4 (e4 (e4 (e16 (e64 [false, false]))))))
 | .exit n => bif Nat.beq n 2 then (e16 (e16 (e64 [false]))) else []
 | .normal => []
noncomputable def G_skirmishref21_numbers_1 (b0_11 : LL) : Nat → Int → Option (Bool)
 | 0, _ => none
 | m + 1, i => bif (decide (i < (Int.ofNat b0_11.length))) then bif (decide ((0 : Int) ≤ i)) then Option.bind (b0_11[i.toNat]?) fun r => bif (chk y5 r) then bif ((cI r 0) != (1 : Int)) then bif ((cI r 0) != (2 : Int)) then some true else Option.bind (F_skirmishref21_stat (cI r 1)) fun t => bif (!t) then some true else
 G_skirmishref21_numbers_1 b0_11 m (wr (i + (1 : Int))) else Option.bind (F_skirmishref21_stat (cI r 1)) fun t1 => bif (!t1) then some true else
 G_skirmishref21_numbers_1 b0_11 m (wr (i + (1 : Int))) else none else none else some false
noncomputable def E150_1 (i b0_0 b0_1 : Int) (b0_2 : ByteArray) (b0_3 b0_4 b0_5 b0_6 b0_7 b0_8 b0_9 : Int) (b0_10 b0_11 : LL) : St := ⟨(.dead :: (.ref 16000 1 0 0) :: .dead :: .dead :: (i64 i) :: (d4 (d4 (d4 (d16 (d64 [])))))), [(16000, ⟨.box, 60, 12, [[(i64 b0_0), (i64 b0_1), (.sc (.string b0_2)), (i64 b0_3), (i64 b0_4), (i64 b0_5), (i64 b0_6), (i64 b0_7), (i64 b0_8), (i64 b0_9), (.ro 5 b0_10), (.ro 3 b0_11)]]⟩)]⟩
noncomputable def X150_1 (k : Ex → St → Option CR) (t : Bool) : Option CR := bif t then k .ret ⟨(.dead :: .dead :: (bo false) :: (d4 (d4 (d4 (d16 (d64 [.dead, .dead])))))), []⟩ else k (.exit 2) ⟨(d16 (d16 (d64 [.dead]))), []⟩
noncomputable def ks150_1 : List SK := (.f .dead :: .f (.ref 16000 1 0 0) :: .f .dead :: .f .dead :: .f (.int .i64) :: (f4 (f4 (f4 (f16 (f64 []))))))
noncomputable def hs150_1 : List HK := [⟨16000, .box, 60, 12, some [.int .i64, .int .i64, .str, .int .i64, .int .i64, .int .i64, .int .i64, .int .i64, .int .i64, .int .i64, .ro 5, .ro 3]⟩]
noncomputable def Lm150_1 (s : St) (k : Ex → St → Option CR) : Option CR := bif chkS ks150_1 hs150_1 s then (G_skirmishref21_numbers_1 (aRh s 0 11) FU (sI s 4)).bind (X150_1 k) else none
noncomputable def L150_1 (s : St) (k : Ex → St → Option CR) : Option CR := Lm150_1 (maskS (maskOf ks150_1) s) k
noncomputable def L150 : LT' := fun i s k => bif Nat.beq i 0 then L150_0 s k else bif Nat.beq i 2 then L150_1 s k else none
noncomputable def F_skirmishref21_numbers (zE zw : Int) (zy : ByteArray) (zu zv zH zC zA zD zB : Int) (zt zz : LL) : Option (Bool) := Option.bind (F_skirmishref02_Valid zu zv) fun t => bif (!t) then some false else bif (decide (zH < (1 : Int))) then some false else Option.bind (F_skirmishref21_stat zH) fun t1 => bif (!t1) then some false else Option.bind (F_skirmishref21_stat zC) fun t2 => bif (!t2) then some false else Option.bind (F_skirmishref21_stat zA) fun t3 => bif (!t3) then some false else Option.bind (F_skirmishref21_stat zD) fun t4 => bif (!t4) then some false else Option.bind (F_skirmishref21_stat zB) fun t5 => bif (!t5) then some false else bif (decide ((Int.ofNat zt.length) > (8 : Int))) then some false else bif (decide ((Int.ofNat zz.length) > (5 : Int))) then some false else Option.bind (G_skirmishref21_numbers_0 zt FU (0 : Int)) fun t6 => bif t6 then some false else Option.bind (G_skirmishref21_numbers_1 zz FU (0 : Int)) fun t7 => bif t7 then some false else some true
noncomputable def enc150 (t : Bool) : CR := ⟨true, (bo t), [], []⟩
noncomputable def ks150 : List SK := [.agg [.int .i64, .int .i64, .str, .int .i64, .int .i64, .int .i64, .int .i64, .int .i64, .int .i64, .int .i64, .ro 5, .ro 3]]
noncomputable def A150 (us : List AVal) := F_skirmishref21_numbers (aI us 0 0) (aI us 0 1) (aS us 0 2) (aI us 0 3) (aI us 0 4) (aI us 0 5) (aI us 0 6) (aI us 0 7) (aI us 0 8) (aI us 0 9) (aR us 0 10) (aR us 0 11)
noncomputable def S150 (us : List AVal) : Call := bif chkA ks150 us then Call.of (A150 us) enc150 else Call.none
noncomputable def C150 := AI.ext 150 S150 C181
@[reducible] noncomputable def B150_0 := bodyOf TT TU GL0 C181 ownF L150 (lp Tryz.f150 0)
@[reducible] noncomputable def K150_0 (k : Ex → St → Option CR) : Ex → St → Option CR := fun e s => k e (maskS (W150_0 e) s)
theorem spec150_0 (k : Ex → St → Option CR) : ∀ (m : Nat) (i b0_0 b0_1 : Int) (b0_2 : ByteArray) (b0_3 b0_4 b0_5 b0_6 b0_7 b0_8 b0_9 : Int) (b0_10 b0_11 : LL), loopN B150_0 m (E150_0 i b0_0 b0_1 b0_2 b0_3 b0_4 b0_5 b0_6 b0_7 b0_8 b0_9 b0_10 b0_11) (K150_0 k) = (G_skirmishref21_numbers_0 b0_10 m i).bind (X150_0 b0_0 b0_1 b0_2 b0_3 b0_4 b0_5 b0_6 b0_7 b0_8 b0_9 b0_10 b0_11 k)
 | 0, _, _, _, _, _, _, _, _, _, _, _, _, _ => rfl
 | m + 1, i, b0_0, b0_1, b0_2, b0_3, b0_4, b0_5, b0_6, b0_7, b0_8, b0_9, b0_10, b0_11 =>
 Eq.trans (by kernel_rfl) (nd rfl (nd rfl (nb fun r => (nd rfl (nb fun t => (nd rfl rfl (spec150_0 k m (wr (i + (1 : Int))) b0_0 b0_1 b0_2 b0_3 b0_4 b0_5 b0_6 b0_7 b0_8 b0_9 b0_10 b0_11))) rfl)) rfl) rfl)
theorem okL150_0 : LoopOk TT TU GL0 C181 ownF L150 (lp Tryz.f150 0) :=
 loopOk_of ks150_0 hs150_0 W150_0 FU _ (fun s k => by kernel_rfl) (fun s k => spec150_0 k FU (sI s 3) (aIh s 0 0) (aIh s 0 1) (aSh s 0 2) (aIh s 0 3) (aIh s 0 4) (aIh s 0 5) (aIh s 0 6) (aIh s 0 7) (aIh s 0 8) (aIh s 0 9) (aRh s 0 10) (aRh s 0 11))
@[reducible] noncomputable def B150_1 := bodyOf TT TU GL0 C181 ownF L150 (lp Tryz.f150 1)
@[reducible] noncomputable def K150_1 (k : Ex → St → Option CR) : Ex → St → Option CR := fun e s => k e (maskS (W150_1 e) s)
theorem spec150_1 (k : Ex → St → Option CR) : ∀ (m : Nat) (i b0_0 b0_1 : Int) (b0_2 : ByteArray) (b0_3 b0_4 b0_5 b0_6 b0_7 b0_8 b0_9 : Int) (b0_10 b0_11 : LL), loopN B150_1 m (E150_1 i b0_0 b0_1 b0_2 b0_3 b0_4 b0_5 b0_6 b0_7 b0_8 b0_9 b0_10 b0_11) (K150_1 k) = (G_skirmishref21_numbers_1 b0_11 m i).bind (X150_1 k)
 | 0, _, _, _, _, _, _, _, _, _, _, _, _, _ => rfl
 | m + 1, i, b0_0, b0_1, b0_2, b0_3, b0_4, b0_5, b0_6, b0_7, b0_8, b0_9, b0_10, b0_11 =>
 Eq.trans (by kernel_rfl) (nd rfl (nd rfl (nb fun r => (nd rfl (nd rfl (nd rfl rfl (nb fun t => (nd rfl rfl (spec150_1 k m (wr (i + (1 : Int))) b0_0 b0_1 b0_2 b0_3 b0_4 b0_5 b0_6 b0_7 b0_8 b0_9 b0_10 b0_11)))) (nb fun t1 => (nd rfl rfl (spec150_1 k m (wr (i + (1 : Int))) b0_0 b0_1 b0_2 b0_3 b0_4 b0_5 b0_6 b0_7 b0_8 b0_9 b0_10 b0_11)))) rfl)) rfl) rfl)
theorem okL150_1 : LoopOk TT TU GL0 C181 ownF L150 (lp Tryz.f150 1) :=
 loopOk_of ks150_1 hs150_1 W150_1 FU _ (fun s k => by kernel_rfl) (fun s k => spec150_1 k FU (sI s 4) (aIh s 0 0) (aIh s 0 1) (aSh s 0 2) (aIh s 0 3) (aIh s 0 4) (aIh s 0 5) (aIh s 0 6) (aIh s 0 7) (aIh s 0 8) (aIh s 0 9) (aRh s 0 10) (aRh s 0 11))
theorem run150 (zE zw : Int) (zy : ByteArray) (zu zv zH zC zA zD zB : Int) (zt zz : LL) : fcall TT TU GL0 C181 ownF true L150 Tryz.f150 [(.agg [(i64 zE), (i64 zw), (.sc (.string zy)), (i64 zu), (i64 zv), (i64 zH), (i64 zC), (i64 zA), (i64 zD), (i64 zB), (.ro 5 zt), (.ro 3 zz)])] = (F_skirmishref21_numbers zE zw zy zu zv zH zC zA zD zB zt zz).bind fun t => some (enc150 t) :=
 Eq.trans (by kernel_rfl) (nb fun t => (nd rfl rfl (nd rfl rfl (nb fun t1 => (nd rfl rfl (nb fun t2 => (nd rfl rfl (nb fun t3 => (nd rfl rfl (nb fun t4 => (nd rfl rfl (nb fun t5 => (nd rfl rfl (nd rfl rfl (nd rfl rfl (nb fun t6 => (nd rfl rfl (nb fun t7 => (nd rfl rfl rfl)))))))))))))))))))
theorem lib150 : Lib Tryz.prog GL0 C150 :=
 Lib.fn lib181 mixed TT_ok Tryz.func150 (by decide +kernel) (by kernel_rfl) true L150 (loops_of 2 (by kernel_rfl) (belowS (belowS below0 okL150_0) okL150_1)) ks150 (F := A150) (fun us => rfl) (fun us => run150 _ _ _ _ _ _ _ _ _ _ _ _) (fun t => rfl)
noncomputable def W99_0 : Ex → List Bool
 | .ret => (false :: false :: true :: (e4 (e16 (e16 (e16 [false])))))
 | .exit n => bif Nat.beq n 0 then (e4 (e4 (e16 (e16 (e16 []))))) else []
 | .normal => []
noncomputable def G_skirmishref21_formed_0 (b0_1 : Int) (b0_12 : LL) : Nat → Int → Int → Option (Bool)
 | 0, _, _ => none
 | m + 1, last, i => bif (decide (i < (Int.ofNat b0_12.length))) then bif (decide ((0 : Int) ≤ i)) then Option.bind (b0_12[i.toNat]?) fun r => bif (chk y6 r) then bif (decide ((cI r 0) ≤ last)) then some true else bif (decide ((cI r 0) ≥ b0_1)) then some true else Option.bind (F_skirmishref21_numbers (cI r 0) (cI r 1) (cS r 2) (cI r 3) (cI r 4) (cI r 5) (cI r 6) (cI r 7) (cI r 8) (cI r 9) (roRows (AVal.ro 5 (cR r 10))) (roRows (AVal.ro 3 (cR r 11)))) fun t => bif (!t) then some true else
 G_skirmishref21_formed_0 b0_1 b0_12 m (cI r 0) (wr (i + (1 : Int))) else none else none else some false
noncomputable def E99_0 (last i b0_0 b0_1 b0_2 : Int) (b0_3 : Bool) (b0_4 : Int) (b0_5 b0_6 b0_7 : LL) (b0_8 b0_9 : Int) (b0_10 b0_11 b0_12 b0_13 b0_14 b0_15 : LL) : St := ⟨(.dead :: (.ref 16000 1 0 0) :: .dead :: (i64 last) :: (i64 i) :: (d16 (d16 (d16 [.dead, .dead, .dead])))), [(16000, ⟨.box, 37, 16, [[(i64 b0_0), (i64 b0_1), (i64 b0_2), (bo b0_3), (.sc (.int .u64 b0_4)), (.ro 19 b0_5), (.ro 6 b0_6), (.ro 8 b0_7), (i64 b0_8), (i64 b0_9), (.ro 3 b0_10), (.ro 6 b0_11), (.ro 12 b0_12), (.ro 9 b0_13), (.ro 3 b0_14), (.ro 4 b0_15)]]⟩)]⟩
noncomputable def X99_0 (k : Ex → St → Option CR) (t : Bool) : Option CR := bif t then k .ret ⟨(.dead :: .dead :: (bo false) :: (d4 (d16 (d16 (d16 [.dead]))))), []⟩ else k (.exit 0) ⟨(d4 (d4 (d16 (d16 (d16 []))))), []⟩
noncomputable def ks99_0 : List SK := (.f .dead :: .f (.ref 16000 1 0 0) :: .f .dead :: .f (.int .i64) :: .f (.int .i64) :: (f16 (f16 (f16 [.f .dead, .f .dead, .f .dead]))))
noncomputable def hs99_0 : List HK := [⟨16000, .box, 37, 16, some [.int .i64, .int .i64, .int .i64, .bool, .int .u64, .ro 19, .ro 6, .ro 8, .int .i64, .int .i64, .ro 3, .ro 6, .ro 12, .ro 9, .ro 3, .ro 4]⟩]
noncomputable def Lm99_0 (s : St) (k : Ex → St → Option CR) : Option CR := bif chkS ks99_0 hs99_0 s then (G_skirmishref21_formed_0 (aIh s 0 1) (aRh s 0 12) FU (sI s 3) (sI s 4)).bind (X99_0 k) else none
noncomputable def L99_0 (s : St) (k : Ex → St → Option CR) : Option CR := Lm99_0 (maskS (maskOf ks99_0) s) k
noncomputable def L99 : LT' := fun i s k => bif Nat.beq i 0 then L99_0 s k else none
noncomputable def F_skirmishref21_formed (zr zk zm : Int) (zl : Bool) (zs : Int) (ze zc zd : LL) (zj zi : Int) (zf zb za zo zg zh : LL) : Option (Bool) := Option.bind (F_skirmishref09_Validate ze zc zd) fun t => bif (t != (0 : Int)) then some false else Option.bind (F_skirmishref07_Valid zj zi zf) fun t1 => bif (!t1) then some false else bif (decide (zk < (1 : Int))) then some false else bif (decide (zk > (1099511627776 : Int))) then some false else Option.bind (G_skirmishref21_formed_0 zk za FU (0 : Int) (0 : Int)) fun t2 => bif t2 then some false else some true
noncomputable def enc99 (t : Bool) : CR := ⟨true, (bo t), [], []⟩
noncomputable def ks99 : List SK := [.agg [.int .i64, .int .i64, .int .i64, .bool, .int .u64, .ro 19, .ro 6, .ro 8, .int .i64, .int .i64, .ro 3, .ro 6, .ro 12, .ro 9, .ro 3, .ro 4]]
noncomputable def A99 (us : List AVal) := F_skirmishref21_formed (aI us 0 0) (aI us 0 1) (aI us 0 2) (aB us 0 3) (aI us 0 4) (aR us 0 5) (aR us 0 6) (aR us 0 7) (aI us 0 8) (aI us 0 9) (aR us 0 10) (aR us 0 11) (aR us 0 12) (aR us 0 13) (aR us 0 14) (aR us 0 15)
noncomputable def S99 (us : List AVal) : Call := bif chkA ks99 us then Call.of (A99 us) enc99 else Call.none
noncomputable def C99 := AI.ext 99 S99 C150
@[reducible] noncomputable def B99_0 := bodyOf TT TU GL0 C150 ownF L99 (lp Tryz.f99 0)
@[reducible] noncomputable def K99_0 (k : Ex → St → Option CR) : Ex → St → Option CR := fun e s => k e (maskS (W99_0 e) s)
theorem spec99_0 (k : Ex → St → Option CR) : ∀ (m : Nat) (last i b0_0 b0_1 b0_2 : Int) (b0_3 : Bool) (b0_4 : Int) (b0_5 b0_6 b0_7 : LL) (b0_8 b0_9 : Int) (b0_10 b0_11 b0_12 b0_13 b0_14 b0_15 : LL), loopN B99_0 m (E99_0 last i b0_0 b0_1 b0_2 b0_3 b0_4 b0_5 b0_6 b0_7 b0_8 b0_9 b0_10 b0_11 b0_12 b0_13 b0_14 b0_15) (K99_0 k) = (G_skirmishref21_formed_0 b0_1 b0_12 m last i).bind (X99_0 k)
 | 0, _, _, _, _, _, _, _, _, _, _, _, _, _, _, _, _, _, _ => rfl
 | m + 1, last, i, b0_0, b0_1, b0_2, b0_3, b0_4, b0_5, b0_6, b0_7, b0_8, b0_9, b0_10, b0_11, b0_12, b0_13, b0_14, b0_15 =>
 Eq.trans (by kernel_rfl) (nd rfl (nd rfl (nb fun r => (nd rfl (nd rfl rfl (nd rfl rfl (nb fun t => (nd rfl rfl (spec99_0 k m (cI r 0) (wr (i + (1 : Int))) b0_0 b0_1 b0_2 b0_3 b0_4 b0_5 b0_6 b0_7 b0_8 b0_9 b0_10 b0_11 b0_12 b0_13 b0_14 b0_15))))) rfl)) rfl) rfl)
theorem okL99_0 : LoopOk TT TU GL0 C150 ownF L99 (lp Tryz.f99 0) :=
 loopOk_of ks99_0 hs99_0 W99_0 FU _ (fun s k => by kernel_rfl) (fun s k => spec99_0 k FU (sI s 3) (sI s 4) (aIh s 0 0) (aIh s 0 1) (aIh s 0 2) (aBh s 0 3) (aIh s 0 4) (aRh s 0 5) (aRh s 0 6) (aRh s 0 7) (aIh s 0 8) (aIh s 0 9) (aRh s 0 10) (aRh s 0 11) (aRh s 0 12) (aRh s 0 13) (aRh s 0 14) (aRh s 0 15))
theorem run99 (zr zk zm : Int) (zl : Bool) (zs : Int) (ze zc zd : LL) (zj zi : Int) (zf zb za zo zg zh : LL) : fcall TT TU GL0 C150 ownF true L99 Tryz.f99 [(.agg [(i64 zr), (i64 zk), (i64 zm), (bo zl), (.sc (.int .u64 zs)), (.ro 19 ze), (.ro 6 zc), (.ro 8 zd), (i64 zj), (i64 zi), (.ro 3 zf), (.ro 6 zb), (.ro 12 za), (.ro 9 zo), (.ro 3 zg), (.ro 4 zh)])] = (F_skirmishref21_formed zr zk zm zl zs ze zc zd zj zi zf zb za zo zg zh).bind fun t => some (enc99 t) :=
 Eq.trans (by kernel_rfl) (nb fun t => (nd rfl rfl (nb fun t1 => (nd rfl rfl (nd rfl rfl (nd rfl rfl (nb fun t2 => (nd rfl rfl rfl))))))))
theorem lib99 : Lib Tryz.prog GL0 C99 :=
 Lib.fn lib150 mixed TT_ok Tryz.func99 (by decide +kernel) (by kernel_rfl) true L99 (loops_of 1 (by kernel_rfl) (belowS below0 okL99_0)) ks99 (F := A99) (fun us => rfl) (fun us => run99 _ _ _ _ _ _ _ _ _ _ _ _ _ _ _ _) (fun t => rfl)
noncomputable def W151_0 : Ex → List Bool
 | .ret => (e4 (true :: (e16 [])))
 | .exit n => bif Nat.beq n 0 then (e4 (e16 [false])) else []
 | .normal => []
noncomputable def G_skirmishref21_player_0 (id : Int) (b0_11 : LL) : Nat → Int → Option (Bool)
 | 0, _ => none
 | m + 1, i => bif (decide (i < (Int.ofNat b0_11.length))) then bif (decide ((0 : Int) ≤ i)) then Option.bind (b0_11[i.toNat]?) fun r => bif (chk y7 r) then bif ((cI r 0) == id) then some true else
 G_skirmishref21_player_0 id b0_11 m (wr (i + (1 : Int))) else none else none else some false
noncomputable def E151_0 (id i b0_0 b0_1 b0_2 : Int) (b0_3 : Bool) (b0_4 : Int) (b0_5 b0_6 b0_7 : LL) (b0_8 b0_9 : Int) (b0_10 b0_11 b0_12 b0_13 b0_14 b0_15 : LL) : St := ⟨(.dead :: (i64 id) :: (.ref 16000 1 0 0) :: .dead :: .dead :: (i64 i) :: (d4 (d4 (d4 [.dead, .dead, .dead])))), [(16000, ⟨.box, 37, 16, [[(i64 b0_0), (i64 b0_1), (i64 b0_2), (bo b0_3), (.sc (.int .u64 b0_4)), (.ro 19 b0_5), (.ro 6 b0_6), (.ro 8 b0_7), (i64 b0_8), (i64 b0_9), (.ro 3 b0_10), (.ro 6 b0_11), (.ro 12 b0_12), (.ro 9 b0_13), (.ro 3 b0_14), (.ro 4 b0_15)]]⟩)]⟩
noncomputable def X151_0 (k : Ex → St → Option CR) (t : Bool) : Option CR := bif t then k .ret ⟨(d4 ((bo true) :: (d16 []))), []⟩ else k (.exit 0) ⟨(d4 (d16 [.dead])), []⟩
noncomputable def ks151_0 : List SK := (.f .dead :: .f (.int .i64) :: .f (.ref 16000 1 0 0) :: .f .dead :: .f .dead :: .f (.int .i64) :: (f4 (f4 (f4 [.f .dead, .f .dead, .f .dead]))))
noncomputable def hs151_0 : List HK := [⟨16000, .box, 37, 16, some [.int .i64, .int .i64, .int .i64, .bool, .int .u64, .ro 19, .ro 6, .ro 8, .int .i64, .int .i64, .ro 3, .ro 6, .ro 12, .ro 9, .ro 3, .ro 4]⟩]
noncomputable def Lm151_0 (s : St) (k : Ex → St → Option CR) : Option CR := bif chkS ks151_0 hs151_0 s then (G_skirmishref21_player_0 (sI s 1) (aRh s 0 11) FU (sI s 5)).bind (X151_0 k) else none
noncomputable def L151_0 (s : St) (k : Ex → St → Option CR) : Option CR := Lm151_0 (maskS (maskOf ks151_0) s) k
noncomputable def L151 : LT' := fun i s k => bif Nat.beq i 0 then L151_0 s k else none
noncomputable def F_skirmishref21_player (zr zk zm : Int) (zl : Bool) (zs : Int) (ze zc zd : LL) (zj zi : Int) (zf zb za zo zg zh : LL) (id : Int) : Option (Bool) := Option.bind (G_skirmishref21_player_0 id zb FU (0 : Int)) fun t => bif t then some true else some false
noncomputable def enc151 (t : Bool) : CR := ⟨true, (bo t), [], []⟩
noncomputable def ks151 : List SK := [.agg [.int .i64, .int .i64, .int .i64, .bool, .int .u64, .ro 19, .ro 6, .ro 8, .int .i64, .int .i64, .ro 3, .ro 6, .ro 12, .ro 9, .ro 3, .ro 4], .f (.int .i64)]
noncomputable def A151 (us : List AVal) := F_skirmishref21_player (aI us 0 0) (aI us 0 1) (aI us 0 2) (aB us 0 3) (aI us 0 4) (aR us 0 5) (aR us 0 6) (aR us 0 7) (aI us 0 8) (aI us 0 9) (aR us 0 10) (aR us 0 11) (aR us 0 12) (aR us 0 13) (aR us 0 14) (aR us 0 15) (toI (cIa us 1))
noncomputable def S151 (us : List AVal) : Call := bif chkA ks151 us then Call.of (A151 us) enc151 else Call.none
noncomputable def C151 := AI.ext 151 S151 C99
@[reducible] noncomputable def B151_0 := bodyOf TT TU GL0 C99 ownF L151 (lp Tryz.f151 0)
@[reducible] noncomputable def K151_0 (k : Ex → St → Option CR) : Ex → St → Option CR := fun e s => k e (maskS (W151_0 e) s)
theorem spec151_0 (k : Ex → St → Option CR) : ∀ (m : Nat) (id i b0_0 b0_1 b0_2 : Int) (b0_3 : Bool) (b0_4 : Int) (b0_5 b0_6 b0_7 : LL) (b0_8 b0_9 : Int) (b0_10 b0_11 b0_12 b0_13 b0_14 b0_15 : LL), loopN B151_0 m (E151_0 id i b0_0 b0_1 b0_2 b0_3 b0_4 b0_5 b0_6 b0_7 b0_8 b0_9 b0_10 b0_11 b0_12 b0_13 b0_14 b0_15) (K151_0 k) = (G_skirmishref21_player_0 id b0_11 m i).bind (X151_0 k)
 | 0, _, _, _, _, _, _, _, _, _, _, _, _, _, _, _, _, _, _ => rfl
 | m + 1, id, i, b0_0, b0_1, b0_2, b0_3, b0_4, b0_5, b0_6, b0_7, b0_8, b0_9, b0_10, b0_11, b0_12, b0_13, b0_14, b0_15 =>
 Eq.trans (by kernel_rfl) (nd rfl (nd rfl (nb fun r => (nd rfl (nd rfl rfl (spec151_0 k m id (wr (i + (1 : Int))) b0_0 b0_1 b0_2 b0_3 b0_4 b0_5 b0_6 b0_7 b0_8 b0_9 b0_10 b0_11 b0_12 b0_13 b0_14 b0_15)) rfl)) rfl) rfl)
theorem okL151_0 : LoopOk TT TU GL0 C99 ownF L151 (lp Tryz.f151 0) :=
 loopOk_of ks151_0 hs151_0 W151_0 FU _ (fun s k => by kernel_rfl) (fun s k => spec151_0 k FU (sI s 1) (sI s 5) (aIh s 0 0) (aIh s 0 1) (aIh s 0 2) (aBh s 0 3) (aIh s 0 4) (aRh s 0 5) (aRh s 0 6) (aRh s 0 7) (aIh s 0 8) (aIh s 0 9) (aRh s 0 10) (aRh s 0 11) (aRh s 0 12) (aRh s 0 13) (aRh s 0 14) (aRh s 0 15))
theorem run151 (zr zk zm : Int) (zl : Bool) (zs : Int) (ze zc zd : LL) (zj zi : Int) (zf zb za zo zg zh : LL) (id : Int) : fcall TT TU GL0 C99 ownF true L151 Tryz.f151 [(.agg [(i64 zr), (i64 zk), (i64 zm), (bo zl), (.sc (.int .u64 zs)), (.ro 19 ze), (.ro 6 zc), (.ro 8 zd), (i64 zj), (i64 zi), (.ro 3 zf), (.ro 6 zb), (.ro 12 za), (.ro 9 zo), (.ro 3 zg), (.ro 4 zh)]), (i64 id)] = (F_skirmishref21_player zr zk zm zl zs ze zc zd zj zi zf zb za zo zg zh id).bind fun t => some (enc151 t) :=
 Eq.trans (by kernel_rfl) (nb fun t => (nd rfl rfl rfl))
theorem lib151 : Lib Tryz.prog GL0 C151 :=
 Lib.fn lib99 mixed TT_ok Tryz.func151 (by decide +kernel) (by kernel_rfl) true L151 (loops_of 1 (by kernel_rfl) (belowS below0 okL151_0)) ks151 (F := A151) (fun us => rfl) (fun us => run151 _ _ _ _ _ _ _ _ _ _ _ _ _ _ _ _ _) (fun t => rfl)
noncomputable def W100_0 : Ex → List Bool
 | .ret => (e4 (true :: (e4 (e4 (e64 [false])))))
 | .exit n => bif Nat.beq n 0 then (e4 (e4 (e4 (e64 [false, false])))) else []
 | .normal => []
noncomputable def G_skirmishref21_named_0 (b0_5 b0_6 b0_7 b1_11 : LL) : Nat → Int → Option (Bool)
 | 0, _ => none
 | m + 1, i => bif (decide (i < (Int.ofNat b1_11.length))) then bif (decide ((0 : Int) ≤ i)) then Option.bind (b1_11[i.toNat]?) fun r => bif (chk y5 r) then Option.bind (F_skirmishref09_Unit b0_5 b0_6 b0_7 (cS r 2)) fun t => Option.bind (F_skirmishref09_Tech b0_5 b0_6 b0_7 (cS r 2)) fun t1 => bif ((cI r 0) == (1 : Int)) then bif (!t.2.2.2.2.2.2.2.2.2.2.2.2.2.2.2.2.2.2.2) then some true else bif t.2.1 then some true else bif ((cI r 0) == (2 : Int)) then bif (!t1.2.2.2.2.2.2.2.2) then some true else
 G_skirmishref21_named_0 b0_5 b0_6 b0_7 b1_11 m (wr (i + (1 : Int))) else
 G_skirmishref21_named_0 b0_5 b0_6 b0_7 b1_11 m (wr (i + (1 : Int))) else bif ((cI r 0) == (2 : Int)) then bif (!t1.2.2.2.2.2.2.2.2) then some true else
 G_skirmishref21_named_0 b0_5 b0_6 b0_7 b1_11 m (wr (i + (1 : Int))) else
 G_skirmishref21_named_0 b0_5 b0_6 b0_7 b1_11 m (wr (i + (1 : Int))) else none else none else some false
noncomputable def E100_0 (i b0_0 b0_1 b0_2 : Int) (b0_3 : Bool) (b0_4 : Int) (b0_5 b0_6 b0_7 : LL) (b0_8 b0_9 : Int) (b0_10 b0_11 b0_12 b0_13 b0_14 b0_15 : LL) (b1_0 b1_1 : Int) (b1_2 : ByteArray) (b1_3 b1_4 b1_5 b1_6 b1_7 b1_8 b1_9 : Int) (b1_10 b1_11 : LL) : St := ⟨(.dead :: .dead :: (.ref 16000 1 0 0) :: (.ref 16016 1 0 0) :: .dead :: .dead :: .dead :: (i64 i) :: (d4 (d64 [.dead, .dead]))), [(16000, ⟨.box, 37, 16, [[(i64 b0_0), (i64 b0_1), (i64 b0_2), (bo b0_3), (.sc (.int .u64 b0_4)), (.ro 19 b0_5), (.ro 6 b0_6), (.ro 8 b0_7), (i64 b0_8), (i64 b0_9), (.ro 3 b0_10), (.ro 6 b0_11), (.ro 12 b0_12), (.ro 9 b0_13), (.ro 3 b0_14), (.ro 4 b0_15)]]⟩), (16016, ⟨.box, 60, 12, [[(i64 b1_0), (i64 b1_1), (.sc (.string b1_2)), (i64 b1_3), (i64 b1_4), (i64 b1_5), (i64 b1_6), (i64 b1_7), (i64 b1_8), (i64 b1_9), (.ro 5 b1_10), (.ro 3 b1_11)]]⟩)]⟩
noncomputable def X100_0 (k : Ex → St → Option CR) (t : Bool) : Option CR := bif t then k .ret ⟨(d4 ((bo false) :: (d4 (d4 (d64 [.dead]))))), []⟩ else k (.exit 0) ⟨(d4 (d4 (d4 (d64 [.dead, .dead])))), []⟩
noncomputable def ks100_0 : List SK := (.f .dead :: .f .dead :: .f (.ref 16000 1 0 0) :: .f (.ref 16016 1 0 0) :: .f .dead :: .f .dead :: .f .dead :: .f (.int .i64) :: (f4 (f64 [.f .dead, .f .dead])))
noncomputable def hs100_0 : List HK := [⟨16000, .box, 37, 16, some [.int .i64, .int .i64, .int .i64, .bool, .int .u64, .ro 19, .ro 6, .ro 8, .int .i64, .int .i64, .ro 3, .ro 6, .ro 12, .ro 9, .ro 3, .ro 4]⟩, ⟨16016, .box, 60, 12, some [.int .i64, .int .i64, .str, .int .i64, .int .i64, .int .i64, .int .i64, .int .i64, .int .i64, .int .i64, .ro 5, .ro 3]⟩]
noncomputable def Lm100_0 (s : St) (k : Ex → St → Option CR) : Option CR := bif chkS ks100_0 hs100_0 s then (G_skirmishref21_named_0 (aRh s 0 5) (aRh s 0 6) (aRh s 0 7) (aRh s 1 11) FU (sI s 7)).bind (X100_0 k) else none
noncomputable def L100_0 (s : St) (k : Ex → St → Option CR) : Option CR := Lm100_0 (maskS (maskOf ks100_0) s) k
noncomputable def L100 : LT' := fun i s k => bif Nat.beq i 0 then L100_0 s k else none
noncomputable def F_skirmishref21_named (zr zk zm : Int) (zl : Bool) (zs : Int) (ze zc zd : LL) (zj zi : Int) (zf zb za zo zg zh : LL) (zE zw : Int) (zy : ByteArray) (zu zv zH zC zA zD zB : Int) (zt zz : LL) : Option (Bool) := Option.bind (F_skirmishref09_Unit ze zc zd zy) fun t => bif (!t.2.2.2.2.2.2.2.2.2.2.2.2.2.2.2.2.2.2.2) then some false else Option.bind (F_skirmishref21_player zr zk zm zl zs ze zc zd zj zi zf zb za zo zg zh zw) fun t1 => bif (!t1) then some false else Option.bind (G_skirmishref21_named_0 ze zc zd zz FU (0 : Int)) fun t2 => bif t2 then some false else some true
noncomputable def enc100 (t : Bool) : CR := ⟨true, (bo t), [], []⟩
noncomputable def ks100 : List SK := [.agg [.int .i64, .int .i64, .int .i64, .bool, .int .u64, .ro 19, .ro 6, .ro 8, .int .i64, .int .i64, .ro 3, .ro 6, .ro 12, .ro 9, .ro 3, .ro 4], .agg [.int .i64, .int .i64, .str, .int .i64, .int .i64, .int .i64, .int .i64, .int .i64, .int .i64, .int .i64, .ro 5, .ro 3]]
noncomputable def A100 (us : List AVal) := F_skirmishref21_named (aI us 0 0) (aI us 0 1) (aI us 0 2) (aB us 0 3) (aI us 0 4) (aR us 0 5) (aR us 0 6) (aR us 0 7) (aI us 0 8) (aI us 0 9) (aR us 0 10) (aR us 0 11) (aR us 0 12) (aR us 0 13) (aR us 0 14) (aR us 0 15) (aI us 1 0) (aI us 1 1) (aS us 1 2) (aI us 1 3) (aI us 1 4) (aI us 1 5) (aI us 1 6) (aI us 1 7) (aI us 1 8) (aI us 1 9) (aR us 1 10) (aR us 1 11)
noncomputable def S100 (us : List AVal) : Call := bif chkA ks100 us then Call.of (A100 us) enc100 else Call.none
noncomputable def C100 := AI.ext 100 S100 C151
@[reducible] noncomputable def B100_0 := bodyOf TT TU GL0 C151 ownF L100 (lp Tryz.f100 0)
@[reducible] noncomputable def K100_0 (k : Ex → St → Option CR) : Ex → St → Option CR := fun e s => k e (maskS (W100_0 e) s)
theorem spec100_0 (k : Ex → St → Option CR) : ∀ (m : Nat) (i b0_0 b0_1 b0_2 : Int) (b0_3 : Bool) (b0_4 : Int) (b0_5 b0_6 b0_7 : LL) (b0_8 b0_9 : Int) (b0_10 b0_11 b0_12 b0_13 b0_14 b0_15 : LL) (b1_0 b1_1 : Int) (b1_2 : ByteArray) (b1_3 b1_4 b1_5 b1_6 b1_7 b1_8 b1_9 : Int) (b1_10 b1_11 : LL), loopN B100_0 m (E100_0 i b0_0 b0_1 b0_2 b0_3 b0_4 b0_5 b0_6 b0_7 b0_8 b0_9 b0_10 b0_11 b0_12 b0_13 b0_14 b0_15 b1_0 b1_1 b1_2 b1_3 b1_4 b1_5 b1_6 b1_7 b1_8 b1_9 b1_10 b1_11) (K100_0 k) = (G_skirmishref21_named_0 b0_5 b0_6 b0_7 b1_11 m i).bind (X100_0 k)
 | 0, _, _, _, _, _, _, _, _, _, _, _, _, _, _, _, _, _, _, _, _, _, _, _, _, _, _, _, _, _ => rfl
 | m + 1, i, b0_0, b0_1, b0_2, b0_3, b0_4, b0_5, b0_6, b0_7, b0_8, b0_9, b0_10, b0_11, b0_12, b0_13, b0_14, b0_15, b1_0, b1_1, b1_2, b1_3, b1_4, b1_5, b1_6, b1_7, b1_8, b1_9, b1_10, b1_11 =>
 Eq.trans (by kernel_rfl) (nd rfl (nd rfl (nb fun r => (nd rfl (nb fun t => (nb fun t1 => (nd rfl (nd rfl rfl (nd rfl rfl (nd rfl (nd rfl rfl (spec100_0 k m (wr (i + (1 : Int))) b0_0 b0_1 b0_2 b0_3 b0_4 b0_5 b0_6 b0_7 b0_8 b0_9 b0_10 b0_11 b0_12 b0_13 b0_14 b0_15 b1_0 b1_1 b1_2 b1_3 b1_4 b1_5 b1_6 b1_7 b1_8 b1_9 b1_10 b1_11)) (spec100_0 k m (wr (i + (1 : Int))) b0_0 b0_1 b0_2 b0_3 b0_4 b0_5 b0_6 b0_7 b0_8 b0_9 b0_10 b0_11 b0_12 b0_13 b0_14 b0_15 b1_0 b1_1 b1_2 b1_3 b1_4 b1_5 b1_6 b1_7 b1_8 b1_9 b1_10 b1_11)))) (nd rfl (nd rfl rfl (spec100_0 k m (wr (i + (1 : Int))) b0_0 b0_1 b0_2 b0_3 b0_4 b0_5 b0_6 b0_7 b0_8 b0_9 b0_10 b0_11 b0_12 b0_13 b0_14 b0_15 b1_0 b1_1 b1_2 b1_3 b1_4 b1_5 b1_6 b1_7 b1_8 b1_9 b1_10 b1_11)) (spec100_0 k m (wr (i + (1 : Int))) b0_0 b0_1 b0_2 b0_3 b0_4 b0_5 b0_6 b0_7 b0_8 b0_9 b0_10 b0_11 b0_12 b0_13 b0_14 b0_15 b1_0 b1_1 b1_2 b1_3 b1_4 b1_5 b1_6 b1_7 b1_8 b1_9 b1_10 b1_11))))) rfl)) rfl) rfl)
theorem okL100_0 : LoopOk TT TU GL0 C151 ownF L100 (lp Tryz.f100 0) :=
 loopOk_of ks100_0 hs100_0 W100_0 FU _ (fun s k => by kernel_rfl) (fun s k => spec100_0 k FU (sI s 7) (aIh s 0 0) (aIh s 0 1) (aIh s 0 2) (aBh s 0 3) (aIh s 0 4) (aRh s 0 5) (aRh s 0 6) (aRh s 0 7) (aIh s 0 8) (aIh s 0 9) (aRh s 0 10) (aRh s 0 11) (aRh s 0 12) (aRh s 0 13) (aRh s 0 14) (aRh s 0 15) (aIh s 1 0) (aIh s 1 1) (aSh s 1 2) (aIh s 1 3) (aIh s 1 4) (aIh s 1 5) (aIh s 1 6) (aIh s 1 7) (aIh s 1 8) (aIh s 1 9) (aRh s 1 10) (aRh s 1 11))
theorem run100 (zr zk zm : Int) (zl : Bool) (zs : Int) (ze zc zd : LL) (zj zi : Int) (zf zb za zo zg zh : LL) (zE zw : Int) (zy : ByteArray) (zu zv zH zC zA zD zB : Int) (zt zz : LL) : fcall TT TU GL0 C151 ownF true L100 Tryz.f100 [(.agg [(i64 zr), (i64 zk), (i64 zm), (bo zl), (.sc (.int .u64 zs)), (.ro 19 ze), (.ro 6 zc), (.ro 8 zd), (i64 zj), (i64 zi), (.ro 3 zf), (.ro 6 zb), (.ro 12 za), (.ro 9 zo), (.ro 3 zg), (.ro 4 zh)]), (.agg [(i64 zE), (i64 zw), (.sc (.string zy)), (i64 zu), (i64 zv), (i64 zH), (i64 zC), (i64 zA), (i64 zD), (i64 zB), (.ro 5 zt), (.ro 3 zz)])] = (F_skirmishref21_named zr zk zm zl zs ze zc zd zj zi zf zb za zo zg zh zE zw zy zu zv zH zC zA zD zB zt zz).bind fun t => some (enc100 t) :=
 Eq.trans (by kernel_rfl) (nb fun t => (nd rfl rfl (nb fun t1 => (nd rfl rfl (nb fun t2 => (nd rfl rfl rfl))))))
theorem lib100 : Lib Tryz.prog GL0 C100 :=
 Lib.fn lib151 mixed TT_ok Tryz.func100 (by decide +kernel) (by kernel_rfl) true L100 (loops_of 1 (by kernel_rfl) (belowS below0 okL100_0)) ks100 (F := A100) (fun us => rfl) (fun us => run100 _ _ _ _ _ _ _ _ _ _ _ _ _ _ _ _ _ _ _ _ _ _ _ _ _ _ _ _) (fun t => rfl)
noncomputable def F_skirmishref02_Sub (zF zG zR zS : Int) : Option (Int × Int) := Option.bind (F_skirmishref02_NearVec zF zG) fun t => Option.bind (F_skirmishref02_NearVec zR zS) fun t1 => Option.bind (F_skirmishref02_NearVec (wr (t.1 - t1.1)) (wr (t.2 - t1.2))) fun t2 => some (t2.1, t2.2)
noncomputable def enc68 (t : Int × Int) : CR := ⟨true, (.agg [(.sc (.int .i64 t.1)), (.sc (.int .i64 t.2))]), [], []⟩
noncomputable def ks68 : List SK := [.agg [.int .i64, .int .i64], .agg [.int .i64, .int .i64]]
noncomputable def A68 (us : List AVal) := F_skirmishref02_Sub (aI us 0 0) (aI us 0 1) (aI us 1 0) (aI us 1 1)
noncomputable def S68 (us : List AVal) : Call := bif chkA ks68 us then Call.of (A68 us) enc68 else Call.none
noncomputable def C68 := AI.ext 68 S68 C100
theorem run68 (zF zG zR zS : Int) : fcall TT TU GL0 C100 ownF true noL Tryz.f68 [(.agg [(i64 zF), (i64 zG)]), (.agg [(i64 zR), (i64 zS)])] = (F_skirmishref02_Sub zF zG zR zS).bind fun t => some (enc68 t) :=
 Eq.trans (by kernel_rfl) (nb fun t => (nb fun t1 => (nb fun t2 => rfl)))
theorem lib68 : Lib Tryz.prog GL0 C68 :=
 Lib.fn lib100 mixed TT_ok Tryz.func68 (by decide +kernel) (by kernel_rfl) true noL (loops_of 0 (by kernel_rfl) below0) ks68 (F := A68) (fun us => rfl) (fun us => run68 _ _ _ _) (fun t => rfl)
noncomputable def F_skirmishref01_Div (a b : Int) : Option (Int × Int) := bif (b == (0 : Int)) then some ((0 : Int), (1 : Int)) else bif (a == (-(9223372036854775808 : Int))) then bif (b == (-(1 : Int))) then some ((0 : Int), (3 : Int)) else bif ((Int.tmod a b) != (0 : Int)) then bif (!((decide ((Int.tmod a b) < (0 : Int))) == (decide (b < (0 : Int))))) then some ((wr ((wr (Int.tdiv a b)) - (1 : Int))), (0 : Int)) else some ((wr (Int.tdiv a b)), (0 : Int)) else some ((wr (Int.tdiv a b)), (0 : Int)) else bif ((Int.tmod a b) != (0 : Int)) then bif (!((decide ((Int.tmod a b) < (0 : Int))) == (decide (b < (0 : Int))))) then some ((wr ((wr (Int.tdiv a b)) - (1 : Int))), (0 : Int)) else some ((wr (Int.tdiv a b)), (0 : Int)) else some ((wr (Int.tdiv a b)), (0 : Int))
noncomputable def enc175 (t : Int × Int) : CR := ⟨true, (.tup [(.sc (.int .i64 t.1)), (.sc (.int .i64 t.2))]), [], []⟩
noncomputable def ks175 : List SK := [.f (.int .i64), .f (.int .i64)]
noncomputable def A175 (us : List AVal) := F_skirmishref01_Div (toI (cIa us 0)) (toI (cIa us 1))
noncomputable def S175 (us : List AVal) : Call := bif chkA ks175 us then Call.of (A175 us) enc175 else Call.none
noncomputable def C175 := AI.ext 175 S175 C68
theorem run175 (a b : Int) : fcall TT TU GL0 C68 ownF true noL Tryz.f175 [(i64 a), (i64 b)] = (F_skirmishref01_Div a b).bind fun t => some (enc175 t) :=
 Eq.trans (by kernel_rfl) (nc rfl (fun h0 => rfl) fun h0 => (nd rfl (nd rfl rfl (n_false (A := none) h0 (n_false (A := none) h0 (nd rfl (nd rfl rfl rfl) rfl)))) (n_false (A := none) h0 (n_false (A := none) h0 (nd rfl (nd rfl rfl rfl) rfl)))))
theorem lib175 : Lib Tryz.prog GL0 C175 :=
 Lib.fn lib68 mixed TT_ok Tryz.func175 (by decide +kernel) (by kernel_rfl) true noL (loops_of 0 (by kernel_rfl) below0) ks175 (F := A175) (fun us => rfl) (fun us => run175 _ _) (fun t => rfl)
noncomputable def F_skirmishref01_Cell (x : Int) : Option (Int) := Option.bind (F_skirmishref01_Div x (256 : Int)) fun t => some t.1
noncomputable def enc129 (t : Int) : CR := ⟨true, (i64 t), [], []⟩
noncomputable def ks129 : List SK := [.f (.int .i64)]
noncomputable def A129 (us : List AVal) := F_skirmishref01_Cell (toI (cIa us 0))
noncomputable def S129 (us : List AVal) : Call := bif chkA ks129 us then Call.of (A129 us) enc129 else Call.none
noncomputable def C129 := AI.ext 129 S129 C175
theorem run129 (x : Int) : fcall TT TU GL0 C175 ownF true noL Tryz.f129 [(i64 x)] = (F_skirmishref01_Cell x).bind fun t => some (enc129 t) :=
 Eq.trans (by kernel_rfl) (nb fun t => rfl)
theorem lib129 : Lib Tryz.prog GL0 C129 :=
 Lib.fn lib175 mixed TT_ok Tryz.func129 (by decide +kernel) (by kernel_rfl) true noL (loops_of 0 (by kernel_rfl) below0) ks129 (F := A129) (fun us => rfl) (fun us => run129 _) (fun t => rfl)
noncomputable def F_skirmishref21_Cell (z8 z9 : Int) : Option (Int × Int) := Option.bind (F_skirmishref01_Cell z8) fun t => Option.bind (F_skirmishref01_Cell z9) fun t1 => some (t, t1)
noncomputable def enc155 (t : Int × Int) : CR := ⟨true, (.agg [(.sc (.int .i64 t.1)), (.sc (.int .i64 t.2))]), [], []⟩
noncomputable def ks155 : List SK := [.agg [.int .i64, .int .i64]]
noncomputable def A155 (us : List AVal) := F_skirmishref21_Cell (aI us 0 0) (aI us 0 1)
noncomputable def S155 (us : List AVal) : Call := bif chkA ks155 us then Call.of (A155 us) enc155 else Call.none
noncomputable def C155 := AI.ext 155 S155 C129
theorem run155 (z8 z9 : Int) : fcall TT TU GL0 C129 ownF true noL Tryz.f155 [(.agg [(i64 z8), (i64 z9)])] = (F_skirmishref21_Cell z8 z9).bind fun t => some (enc155 t) :=
 Eq.trans (by kernel_rfl) (nb fun t => (nb fun t1 => rfl))
theorem lib155 : Lib Tryz.prog GL0 C155 :=
 Lib.fn lib129 mixed TT_ok Tryz.func155 (by decide +kernel) (by kernel_rfl) true noL (loops_of 0 (by kernel_rfl) below0) ks155 (F := A155) (fun us => rfl) (fun us => run155 _ _) (fun t => rfl)
noncomputable def F_skirmishref21_Rect (zp zn zq : LL) (zE zw : Int) (zy : ByteArray) (zu zv zH zC zA zD zB : Int) (zt zz : LL) : Option (Int × Int × Int × Int × Bool) := Option.bind (F_skirmishref09_Unit zp zn zq zy) fun t => bif (!t.2.2.2.2.2.2.2.2.2.2.2.2.2.2.2.2.2.2.2) then some ((0 : Int), (0 : Int), (0 : Int), (0 : Int), false) else bif (!t.2.1) then some ((0 : Int), (0 : Int), (0 : Int), (0 : Int), false) else bif (decide (t.2.2.2.2.1 < (1 : Int))) then some ((0 : Int), (0 : Int), (0 : Int), (0 : Int), false) else bif (decide (t.2.2.2.2.1 > (4 : Int))) then some ((0 : Int), (0 : Int), (0 : Int), (0 : Int), false) else bif (decide (t.2.2.2.2.2.1 < (1 : Int))) then some ((0 : Int), (0 : Int), (0 : Int), (0 : Int), false) else bif (decide (t.2.2.2.2.2.1 > (4 : Int))) then some ((0 : Int), (0 : Int), (0 : Int), (0 : Int), false) else Option.bind (F_skirmishref02_Sub zu zv (wr (Int.tdiv (wr (t.2.2.2.2.1 * (256 : Int))) (2 : Int))) (wr (Int.tdiv (wr (t.2.2.2.2.2.1 * (256 : Int))) (2 : Int)))) fun t1 => Option.bind (F_skirmishref21_Cell t1.1 t1.2) fun t2 => some (t2.1, t2.2, t.2.2.2.2.1, t.2.2.2.2.2.1, true)
noncomputable def enc118 (t : Int × Int × Int × Int × Bool) : CR := ⟨true, (.tup [(.agg [(.sc (.int .i64 t.1)), (.sc (.int .i64 t.2.1)), (.sc (.int .i64 t.2.2.1)), (.sc (.int .i64 t.2.2.2.1))]), (.sc (.bool t.2.2.2.2))]), [], []⟩
noncomputable def ks118 : List SK := [.agg [.ro 19, .ro 6, .ro 8], .agg [.int .i64, .int .i64, .str, .int .i64, .int .i64, .int .i64, .int .i64, .int .i64, .int .i64, .int .i64, .ro 5, .ro 3]]
noncomputable def A118 (us : List AVal) := F_skirmishref21_Rect (aR us 0 0) (aR us 0 1) (aR us 0 2) (aI us 1 0) (aI us 1 1) (aS us 1 2) (aI us 1 3) (aI us 1 4) (aI us 1 5) (aI us 1 6) (aI us 1 7) (aI us 1 8) (aI us 1 9) (aR us 1 10) (aR us 1 11)
noncomputable def S118 (us : List AVal) : Call := bif chkA ks118 us then Call.of (A118 us) enc118 else Call.none
noncomputable def C118 := AI.ext 118 S118 C155
theorem run118 (zp zn zq : LL) (zE zw : Int) (zy : ByteArray) (zu zv zH zC zA zD zB : Int) (zt zz : LL) : fcall TT TU GL0 C155 ownF true noL Tryz.f118 [(.agg [(.ro 19 zp), (.ro 6 zn), (.ro 8 zq)]), (.agg [(i64 zE), (i64 zw), (.sc (.string zy)), (i64 zu), (i64 zv), (i64 zH), (i64 zC), (i64 zA), (i64 zD), (i64 zB), (.ro 5 zt), (.ro 3 zz)])] = (F_skirmishref21_Rect zp zn zq zE zw zy zu zv zH zC zA zD zB zt zz).bind fun t => some (enc118 t) :=
 Eq.trans (by kernel_rfl) (nb fun t => (nd rfl rfl (nd rfl rfl (nd rfl rfl (nd rfl rfl (nd rfl rfl (nd rfl rfl (nb fun t1 => (nb fun t2 => rfl)))))))))
theorem lib118 : Lib Tryz.prog GL0 C118 :=
 Lib.fn lib155 mixed TT_ok Tryz.func118 (by decide +kernel) (by kernel_rfl) true noL (loops_of 0 (by kernel_rfl) below0) ks118 (F := A118) (fun us => rfl) (fun us => run118 _ _ _ _ _ _ _ _ _ _ _ _ _ _ _) (fun t => rfl)
noncomputable def F_skirmishref06_near (n : Int) : Option (Int) := some (maxI (-(1048576 : Int)) (minI n (1048576 : Int)))
noncomputable def enc178 (t : Int) : CR := ⟨true, (i64 t), [], []⟩
noncomputable def ks178 : List SK := [.f (.int .i64)]
noncomputable def A178 (us : List AVal) := F_skirmishref06_near (toI (cIa us 0))
noncomputable def S178 (us : List AVal) : Call := bif chkA ks178 us then Call.of (A178 us) enc178 else Call.none
noncomputable def C178 := AI.ext 178 S178 C118
theorem run178 (n : Int) : fcall TT TU GL0 C118 ownF true noL Tryz.f178 [(i64 n)] = (F_skirmishref06_near n).bind fun t => some (enc178 t) :=
 Eq.trans (by kernel_rfl) rfl
theorem lib178 : Lib Tryz.prog GL0 C178 :=
 Lib.fn lib118 mixed TT_ok Tryz.func178 (by decide +kernel) (by kernel_rfl) true noL (loops_of 0 (by kernel_rfl) below0) ks178 (F := A178) (fun us => rfl) (fun us => run178 _) (fun t => rfl)
noncomputable def F_skirmishref06_rect (zaf zag zae zad : Int) : Option (Int × Int × Int × Int) := Option.bind (F_skirmishref06_near zaf) fun t => Option.bind (F_skirmishref06_near zag) fun t1 => Option.bind (F_skirmishref06_near zae) fun t2 => Option.bind (F_skirmishref06_near zad) fun t3 => some (t, t1, t2, t3)
noncomputable def enc184 (t : Int × Int × Int × Int) : CR := ⟨true, (.agg [(.sc (.int .i64 t.1)), (.sc (.int .i64 t.2.1)), (.sc (.int .i64 t.2.2.1)), (.sc (.int .i64 t.2.2.2))]), [], []⟩
noncomputable def ks184 : List SK := [.agg [.int .i64, .int .i64, .int .i64, .int .i64]]
noncomputable def A184 (us : List AVal) := F_skirmishref06_rect (aI us 0 0) (aI us 0 1) (aI us 0 2) (aI us 0 3)
noncomputable def S184 (us : List AVal) : Call := bif chkA ks184 us then Call.of (A184 us) enc184 else Call.none
noncomputable def C184 := AI.ext 184 S184 C178
theorem run184 (zaf zag zae zad : Int) : fcall TT TU GL0 C178 ownF true noL Tryz.f184 [(.agg [(i64 zaf), (i64 zag), (i64 zae), (i64 zad)])] = (F_skirmishref06_rect zaf zag zae zad).bind fun t => some (enc184 t) :=
 Eq.trans (by kernel_rfl) (nb fun t => (nb fun t1 => (nb fun t2 => (nb fun t3 => rfl))))
theorem lib184 : Lib Tryz.prog GL0 C184 :=
 Lib.fn lib178 mixed TT_ok Tryz.func184 (by decide +kernel) (by kernel_rfl) true noL (loops_of 0 (by kernel_rfl) below0) ks184 (F := A184) (fun us => rfl) (fun us => run184 _ _ _ _) (fun t => rfl)
noncomputable def F_skirmishref06_common (zF zG zaw zav zR zS zaz zax : Int) : Option (Int × Int × Int × Int) := bif (decide (zaw < (1 : Int))) then some ((0 : Int), (0 : Int), (0 : Int), (0 : Int)) else bif (decide (zav < (1 : Int))) then some ((0 : Int), (0 : Int), (0 : Int), (0 : Int)) else bif (decide (zaz < (1 : Int))) then some ((0 : Int), (0 : Int), (0 : Int), (0 : Int)) else bif (decide (zax < (1 : Int))) then some ((0 : Int), (0 : Int), (0 : Int), (0 : Int)) else bif (decide ((wr ((minI (wr (zF + zaw)) (wr (zR + zaz))) - (maxI zF zR))) < (1 : Int))) then some ((0 : Int), (0 : Int), (0 : Int), (0 : Int)) else bif (decide ((wr ((minI (wr (zG + zav)) (wr (zS + zax))) - (maxI zG zS))) < (1 : Int))) then some ((0 : Int), (0 : Int), (0 : Int), (0 : Int)) else some ((maxI zF zR), (maxI zG zS), (wr ((minI (wr (zF + zaw)) (wr (zR + zaz))) - (maxI zF zR))), (wr ((minI (wr (zG + zav)) (wr (zS + zax))) - (maxI zG zS))))
noncomputable def enc183 (t : Int × Int × Int × Int) : CR := ⟨true, (.agg [(.sc (.int .i64 t.1)), (.sc (.int .i64 t.2.1)), (.sc (.int .i64 t.2.2.1)), (.sc (.int .i64 t.2.2.2))]), [], []⟩
noncomputable def ks183 : List SK := [.agg [.int .i64, .int .i64, .int .i64, .int .i64], .agg [.int .i64, .int .i64, .int .i64, .int .i64]]
noncomputable def A183 (us : List AVal) := F_skirmishref06_common (aI us 0 0) (aI us 0 1) (aI us 0 2) (aI us 0 3) (aI us 1 0) (aI us 1 1) (aI us 1 2) (aI us 1 3)
noncomputable def S183 (us : List AVal) : Call := bif chkA ks183 us then Call.of (A183 us) enc183 else Call.none
noncomputable def C183 := AI.ext 183 S183 C184
theorem run183 (zF zG zaw zav zR zS zaz zax : Int) : fcall TT TU GL0 C184 ownF true noL Tryz.f183 [(.agg [(i64 zF), (i64 zG), (i64 zaw), (i64 zav)]), (.agg [(i64 zR), (i64 zS), (i64 zaz), (i64 zax)])] = (F_skirmishref06_common zF zG zaw zav zR zS zaz zax).bind fun t => some (enc183 t) :=
 Eq.trans (by kernel_rfl) (nd rfl rfl (nd rfl rfl (nd rfl rfl (nd rfl rfl (nd rfl rfl (nd rfl rfl rfl))))))
theorem lib183 : Lib Tryz.prog GL0 C183 :=
 Lib.fn lib184 mixed TT_ok Tryz.func183 (by decide +kernel) (by kernel_rfl) true noL (loops_of 0 (by kernel_rfl) below0) ks183 (F := A183) (fun us => rfl) (fun us => run183 _ _ _ _ _ _ _ _) (fun t => rfl)
noncomputable def F_skirmishref06_Clip (w h zaf zag zae zad : Int) : Option (Int × Int × Int × Int) := Option.bind (F_skirmishref06_rect (0 : Int) (0 : Int) w h) fun t => Option.bind (F_skirmishref06_rect zaf zag zae zad) fun t1 => Option.bind (F_skirmishref06_common t.1 t.2.1 t.2.2.1 t.2.2.2 t1.1 t1.2.1 t1.2.2.1 t1.2.2.2) fun t2 => some (t2.1, t2.2.1, t2.2.2.1, t2.2.2.2)
noncomputable def enc182 (t : Int × Int × Int × Int) : CR := ⟨true, (.agg [(.sc (.int .i64 t.1)), (.sc (.int .i64 t.2.1)), (.sc (.int .i64 t.2.2.1)), (.sc (.int .i64 t.2.2.2))]), [], []⟩
noncomputable def ks182 : List SK := [.f (.int .i64), .f (.int .i64), .agg [.int .i64, .int .i64, .int .i64, .int .i64]]
noncomputable def A182 (us : List AVal) := F_skirmishref06_Clip (toI (cIa us 0)) (toI (cIa us 1)) (aI us 2 0) (aI us 2 1) (aI us 2 2) (aI us 2 3)
noncomputable def S182 (us : List AVal) : Call := bif chkA ks182 us then Call.of (A182 us) enc182 else Call.none
noncomputable def C182 := AI.ext 182 S182 C183
theorem run182 (w h zaf zag zae zad : Int) : fcall TT TU GL0 C183 ownF true noL Tryz.f182 [(i64 w), (i64 h), (.agg [(i64 zaf), (i64 zag), (i64 zae), (i64 zad)])] = (F_skirmishref06_Clip w h zaf zag zae zad).bind fun t => some (enc182 t) :=
 Eq.trans (by kernel_rfl) (nb fun t => (nb fun t1 => (nb fun t2 => rfl)))
theorem lib182 : Lib Tryz.prog GL0 C182 :=
 Lib.fn lib183 mixed TT_ok Tryz.func182 (by decide +kernel) (by kernel_rfl) true noL (loops_of 0 (by kernel_rfl) below0) ks182 (F := A182) (fun us => rfl) (fun us => run182 _ _ _ _ _ _) (fun t => rfl)
noncomputable def F_skirmishref21_whole (zr zk zm : Int) (zl : Bool) (zs : Int) (ze zc zd : LL) (zj zi : Int) (zf zb za zo zg zh : LL) (zE zw : Int) (zy : ByteArray) (zu zv zH zC zA zD zB : Int) (zt zz : LL) (zaf zag zae zad : Int) : Option (Bool) := bif ((wr (zu - (wr (Int.tdiv (wr (zae * (256 : Int))) (2 : Int))))) == (wr (zaf * (256 : Int)))) then bif ((wr (zv - (wr (Int.tdiv (wr (zad * (256 : Int))) (2 : Int))))) == (wr (zag * (256 : Int)))) then Option.bind (F_skirmishref06_Clip zj zi zaf zag zae zad) fun t => some ((t.1 == zaf) && ((t.2.1 == zag) && ((t.2.2.1 == zae) && (t.2.2.2 == zad)))) else some false else some false
noncomputable def enc153 (t : Bool) : CR := ⟨true, (bo t), [], []⟩
noncomputable def ks153 : List SK := [.agg [.int .i64, .int .i64, .int .i64, .bool, .int .u64, .ro 19, .ro 6, .ro 8, .int .i64, .int .i64, .ro 3, .ro 6, .ro 12, .ro 9, .ro 3, .ro 4], .agg [.int .i64, .int .i64, .str, .int .i64, .int .i64, .int .i64, .int .i64, .int .i64, .int .i64, .int .i64, .ro 5, .ro 3], .agg [.int .i64, .int .i64, .int .i64, .int .i64]]
noncomputable def A153 (us : List AVal) := F_skirmishref21_whole (aI us 0 0) (aI us 0 1) (aI us 0 2) (aB us 0 3) (aI us 0 4) (aR us 0 5) (aR us 0 6) (aR us 0 7) (aI us 0 8) (aI us 0 9) (aR us 0 10) (aR us 0 11) (aR us 0 12) (aR us 0 13) (aR us 0 14) (aR us 0 15) (aI us 1 0) (aI us 1 1) (aS us 1 2) (aI us 1 3) (aI us 1 4) (aI us 1 5) (aI us 1 6) (aI us 1 7) (aI us 1 8) (aI us 1 9) (aR us 1 10) (aR us 1 11) (aI us 2 0) (aI us 2 1) (aI us 2 2) (aI us 2 3)
noncomputable def S153 (us : List AVal) : Call := bif chkA ks153 us then Call.of (A153 us) enc153 else Call.none
noncomputable def C153 := AI.ext 153 S153 C182
theorem run153 (zr zk zm : Int) (zl : Bool) (zs : Int) (ze zc zd : LL) (zj zi : Int) (zf zb za zo zg zh : LL) (zE zw : Int) (zy : ByteArray) (zu zv zH zC zA zD zB : Int) (zt zz : LL) (zaf zag zae zad : Int) : fcall TT TU GL0 C182 ownF true noL Tryz.f153 [(.agg [(i64 zr), (i64 zk), (i64 zm), (bo zl), (.sc (.int .u64 zs)), (.ro 19 ze), (.ro 6 zc), (.ro 8 zd), (i64 zj), (i64 zi), (.ro 3 zf), (.ro 6 zb), (.ro 12 za), (.ro 9 zo), (.ro 3 zg), (.ro 4 zh)]), (.agg [(i64 zE), (i64 zw), (.sc (.string zy)), (i64 zu), (i64 zv), (i64 zH), (i64 zC), (i64 zA), (i64 zD), (i64 zB), (.ro 5 zt), (.ro 3 zz)]), (.agg [(i64 zaf), (i64 zag), (i64 zae), (i64 zad)])] = (F_skirmishref21_whole zr zk zm zl zs ze zc zd zj zi zf zb za zo zg zh zE zw zy zu zv zH zC zA zD zB zt zz zaf zag zae zad).bind fun t => some (enc153 t) :=
 Eq.trans (by kernel_rfl) (nd rfl (nd rfl (nb fun t => rfl) rfl) rfl)
theorem lib153 : Lib Tryz.prog GL0 C153 :=
 Lib.fn lib182 mixed TT_ok Tryz.func153 (by decide +kernel) (by kernel_rfl) true noL (loops_of 0 (by kernel_rfl) below0) ks153 (F := A153) (fun us => rfl) (fun us => run153 _ _ _ _ _ _ _ _ _ _ _ _ _ _ _ _ _ _ _ _ _ _ _ _ _ _ _ _ _ _ _ _) (fun t => rfl)
noncomputable def F_skirmishref06_In (w h zI zJ : Int) : Option (Bool) := bif (decide (zI ≥ (0 : Int))) then bif (decide (zI < w)) then bif (decide (zJ ≥ (0 : Int))) then some (decide (zJ < h)) else some false else some false else some false
noncomputable def enc176 (t : Bool) : CR := ⟨true, (bo t), [], []⟩
noncomputable def ks176 : List SK := [.f (.int .i64), .f (.int .i64), .agg [.int .i64, .int .i64]]
noncomputable def A176 (us : List AVal) := F_skirmishref06_In (toI (cIa us 0)) (toI (cIa us 1)) (aI us 2 0) (aI us 2 1)
noncomputable def S176 (us : List AVal) : Call := bif chkA ks176 us then Call.of (A176 us) enc176 else Call.none
noncomputable def C176 := AI.ext 176 S176 C153
theorem run176 (w h zI zJ : Int) : fcall TT TU GL0 C153 ownF true noL Tryz.f176 [(i64 w), (i64 h), (.agg [(i64 zI), (i64 zJ)])] = (F_skirmishref06_In w h zI zJ).bind fun t => some (enc176 t) :=
 Eq.trans (by kernel_rfl) (nd rfl (nd rfl (nd rfl rfl rfl) rfl) rfl)
theorem lib176 : Lib Tryz.prog GL0 C176 :=
 Lib.fn lib153 mixed TT_ok Tryz.func176 (by decide +kernel) (by kernel_rfl) true noL (loops_of 0 (by kernel_rfl) below0) ks176 (F := A176) (fun us => rfl) (fun us => run176 _ _ _ _) (fun t => rfl)
noncomputable def F_skirmishref07_Inside (zM zN : Int) (zx : LL) (zI zJ : Int) : Option (Bool) := Option.bind (F_skirmishref07_Formed zM zN zx) fun t => bif t then Option.bind (F_skirmishref06_In zM zN zI zJ) fun t1 => some t1 else some false
noncomputable def enc130 (t : Bool) : CR := ⟨true, (bo t), [], []⟩
noncomputable def ks130 : List SK := [.agg [.int .i64, .int .i64, .ro 3], .agg [.int .i64, .int .i64]]
noncomputable def A130 (us : List AVal) := F_skirmishref07_Inside (aI us 0 0) (aI us 0 1) (aR us 0 2) (aI us 1 0) (aI us 1 1)
noncomputable def S130 (us : List AVal) : Call := bif chkA ks130 us then Call.of (A130 us) enc130 else Call.none
noncomputable def C130 := AI.ext 130 S130 C176
theorem run130 (zM zN : Int) (zx : LL) (zI zJ : Int) : fcall TT TU GL0 C176 ownF true noL Tryz.f130 [(.agg [(i64 zM), (i64 zN), (.ro 3 zx)]), (.agg [(i64 zI), (i64 zJ)])] = (F_skirmishref07_Inside zM zN zx zI zJ).bind fun t => some (enc130 t) :=
 Eq.trans (by kernel_rfl) (nb fun t => (nd rfl (nb fun t1 => rfl) rfl))
theorem lib130 : Lib Tryz.prog GL0 C130 :=
 Lib.fn lib176 mixed TT_ok Tryz.func130 (by decide +kernel) (by kernel_rfl) true noL (loops_of 0 (by kernel_rfl) below0) ks130 (F := A130) (fun us => rfl) (fun us => run130 _ _ _ _ _) (fun t => rfl)
noncomputable def F_skirmishref06_pos (zI zJ : Int) : Option (Int × Int) := Option.bind (F_skirmishref06_near zI) fun t => Option.bind (F_skirmishref06_near zJ) fun t1 => some (t, t1)
noncomputable def enc177 (t : Int × Int) : CR := ⟨true, (.agg [(.sc (.int .i64 t.1)), (.sc (.int .i64 t.2))]), [], []⟩
noncomputable def ks177 : List SK := [.agg [.int .i64, .int .i64]]
noncomputable def A177 (us : List AVal) := F_skirmishref06_pos (aI us 0 0) (aI us 0 1)
noncomputable def S177 (us : List AVal) : Call := bif chkA ks177 us then Call.of (A177 us) enc177 else Call.none
noncomputable def C177 := AI.ext 177 S177 C130
theorem run177 (zI zJ : Int) : fcall TT TU GL0 C130 ownF true noL Tryz.f177 [(.agg [(i64 zI), (i64 zJ)])] = (F_skirmishref06_pos zI zJ).bind fun t => some (enc177 t) :=
 Eq.trans (by kernel_rfl) (nb fun t => (nb fun t1 => rfl))
theorem lib177 : Lib Tryz.prog GL0 C177 :=
 Lib.fn lib130 mixed TT_ok Tryz.func177 (by decide +kernel) (by kernel_rfl) true noL (loops_of 0 (by kernel_rfl) below0) ks177 (F := A177) (fun us => rfl) (fun us => run177 _ _) (fun t => rfl)
noncomputable def F_skirmishref06_Index (w zI zJ : Int) : Option (Int) := Option.bind (F_skirmishref06_pos zI zJ) fun t => Option.bind (F_skirmishref06_near w) fun t1 => some (wr ((wr (t.2 * t1)) + t.1))
noncomputable def enc131 (t : Int) : CR := ⟨true, (i64 t), [], []⟩
noncomputable def ks131 : List SK := [.f (.int .i64), .agg [.int .i64, .int .i64]]
noncomputable def A131 (us : List AVal) := F_skirmishref06_Index (toI (cIa us 0)) (aI us 1 0) (aI us 1 1)
noncomputable def S131 (us : List AVal) : Call := bif chkA ks131 us then Call.of (A131 us) enc131 else Call.none
noncomputable def C131 := AI.ext 131 S131 C177
theorem run131 (w zI zJ : Int) : fcall TT TU GL0 C177 ownF true noL Tryz.f131 [(i64 w), (.agg [(i64 zI), (i64 zJ)])] = (F_skirmishref06_Index w zI zJ).bind fun t => some (enc131 t) :=
 Eq.trans (by kernel_rfl) (nb fun t => (nb fun t1 => rfl))
theorem lib131 : Lib Tryz.prog GL0 C131 :=
 Lib.fn lib177 mixed TT_ok Tryz.func131 (by decide +kernel) (by kernel_rfl) true noL (loops_of 0 (by kernel_rfl) below0) ks131 (F := A131) (fun us => rfl) (fun us => run131 _ _ _) (fun t => rfl)
noncomputable def F_skirmishref07_Get (zM zN : Int) (zx : LL) (zI zJ : Int) : Option (Int × Int × Int × Bool) := Option.bind (F_skirmishref07_Inside zM zN zx zI zJ) fun t => bif (!t) then some ((0 : Int), (0 : Int), (0 : Int), false) else Option.bind (F_skirmishref06_Index zM zI zJ) fun t1 => bif (decide ((0 : Int) ≤ t1)) then Option.bind (zx[t1.toNat]?) fun r => bif (chk y3 r) then some ((cI r 0), (cI r 1), (cI r 2), true) else none else none
noncomputable def enc79 (t : Int × Int × Int × Bool) : CR := ⟨true, (.tup [(.agg [(.sc (.int .i64 t.1)), (.sc (.int .i64 t.2.1)), (.sc (.int .i64 t.2.2.1))]), (.sc (.bool t.2.2.2))]), [], []⟩
noncomputable def ks79 : List SK := [.agg [.int .i64, .int .i64, .ro 3], .agg [.int .i64, .int .i64]]
noncomputable def A79 (us : List AVal) := F_skirmishref07_Get (aI us 0 0) (aI us 0 1) (aR us 0 2) (aI us 1 0) (aI us 1 1)
noncomputable def S79 (us : List AVal) : Call := bif chkA ks79 us then Call.of (A79 us) enc79 else Call.none
noncomputable def C79 := AI.ext 79 S79 C131
theorem run79 (zM zN : Int) (zx : LL) (zI zJ : Int) : fcall TT TU GL0 C131 ownF true noL Tryz.f79 [(.agg [(i64 zM), (i64 zN), (.ro 3 zx)]), (.agg [(i64 zI), (i64 zJ)])] = (F_skirmishref07_Get zM zN zx zI zJ).bind fun t => some (enc79 t) :=
 Eq.trans (by kernel_rfl) (nb fun t => (nd rfl rfl (nb fun t1 => (nd rfl (nb fun r => (nd rfl rfl rfl)) rfl))))
theorem lib79 : Lib Tryz.prog GL0 C79 :=
 Lib.fn lib131 mixed TT_ok Tryz.func79 (by decide +kernel) (by kernel_rfl) true noL (loops_of 0 (by kernel_rfl) below0) ks79 (F := A79) (fun us => rfl) (fun us => run79 _ _ _ _ _) (fun t => rfl)
noncomputable def F_skirmishref07_Passable (zM zN : Int) (zx : LL) (class_ zI zJ : Int) : Option (Bool) := Option.bind (F_skirmishref07_Get zM zN zx zI zJ) fun t => bif (class_ == (1 : Int)) then bif t.2.2.2 then bif (t.1 == (1 : Int)) then some true else some (t.1 == (5 : Int)) else some false else bif (class_ == (2 : Int)) then bif t.2.2.2 then bif (t.1 == (1 : Int)) then some true else bif (t.1 == (5 : Int)) then some true else some (t.1 == (2 : Int)) else some false else bif (class_ == (3 : Int)) then some t.2.2.2 else some false
noncomputable def enc154 (t : Bool) : CR := ⟨true, (bo t), [], []⟩
noncomputable def ks154 : List SK := [.agg [.int .i64, .int .i64, .ro 3], .f (.int .i64), .agg [.int .i64, .int .i64]]
noncomputable def A154 (us : List AVal) := F_skirmishref07_Passable (aI us 0 0) (aI us 0 1) (aR us 0 2) (toI (cIa us 1)) (aI us 2 0) (aI us 2 1)
noncomputable def S154 (us : List AVal) : Call := bif chkA ks154 us then Call.of (A154 us) enc154 else Call.none
noncomputable def C154 := AI.ext 154 S154 C79
theorem run154 (zM zN : Int) (zx : LL) (class_ zI zJ : Int) : fcall TT TU GL0 C79 ownF true noL Tryz.f154 [(.agg [(i64 zM), (i64 zN), (.ro 3 zx)]), (i64 class_), (.agg [(i64 zI), (i64 zJ)])] = (F_skirmishref07_Passable zM zN zx class_ zI zJ).bind fun t => some (enc154 t) :=
 Eq.trans (by kernel_rfl) (nb fun t => (nd rfl (nd rfl (nd rfl rfl rfl) rfl) (nd rfl (nd rfl (nd rfl rfl (nd rfl rfl rfl)) rfl) (nd rfl rfl rfl))))
theorem lib154 : Lib Tryz.prog GL0 C154 :=
 Lib.fn lib79 mixed TT_ok Tryz.func154 (by decide +kernel) (by kernel_rfl) true noL (loops_of 0 (by kernel_rfl) below0) ks154 (F := A154) (fun us => rfl) (fun us => run154 _ _ _ _ _ _) (fun t => rfl)
noncomputable def F_skirmishref06_Meet (zF zG zaw zav zR zS zaz zax : Int) : Option (Bool) := Option.bind (F_skirmishref06_rect zF zG zaw zav) fun t => Option.bind (F_skirmishref06_rect zR zS zaz zax) fun t1 => Option.bind (F_skirmishref06_common t.1 t.2.1 t.2.2.1 t.2.2.2 t1.1 t1.2.1 t1.2.2.1 t1.2.2.2) fun t2 => some (decide (t2.2.2.1 > (0 : Int)))
noncomputable def enc156 (t : Bool) : CR := ⟨true, (bo t), [], []⟩
noncomputable def ks156 : List SK := [.agg [.int .i64, .int .i64, .int .i64, .int .i64], .agg [.int .i64, .int .i64, .int .i64, .int .i64]]
noncomputable def A156 (us : List AVal) := F_skirmishref06_Meet (aI us 0 0) (aI us 0 1) (aI us 0 2) (aI us 0 3) (aI us 1 0) (aI us 1 1) (aI us 1 2) (aI us 1 3)
noncomputable def S156 (us : List AVal) : Call := bif chkA ks156 us then Call.of (A156 us) enc156 else Call.none
noncomputable def C156 := AI.ext 156 S156 C154
theorem run156 (zF zG zaw zav zR zS zaz zax : Int) : fcall TT TU GL0 C154 ownF true noL Tryz.f156 [(.agg [(i64 zF), (i64 zG), (i64 zaw), (i64 zav)]), (.agg [(i64 zR), (i64 zS), (i64 zaz), (i64 zax)])] = (F_skirmishref06_Meet zF zG zaw zav zR zS zaz zax).bind fun t => some (enc156 t) :=
 Eq.trans (by kernel_rfl) (nb fun t => (nb fun t1 => (nb fun t2 => rfl)))
theorem lib156 : Lib Tryz.prog GL0 C156 :=
 Lib.fn lib154 mixed TT_ok Tryz.func156 (by decide +kernel) (by kernel_rfl) true noL (loops_of 0 (by kernel_rfl) below0) ks156 (F := A156) (fun us => rfl) (fun us => run156 _ _ _ _ _ _ _ _) (fun t => rfl)
noncomputable def F_skirmishref06_Inside (zaf zag zae zad zI zJ : Int) : Option (Bool) := Option.bind (F_skirmishref06_rect zaf zag zae zad) fun t => Option.bind (F_skirmishref06_pos zI zJ) fun t1 => bif (decide (t1.1 ≥ t.1)) then bif (decide (t1.1 < (wr (t.1 + t.2.2.1)))) then bif (decide (t1.2 ≥ t.2.1)) then some (decide (t1.2 < (wr (t.2.1 + t.2.2.2)))) else some false else some false else some false
noncomputable def enc157 (t : Bool) : CR := ⟨true, (bo t), [], []⟩
noncomputable def ks157 : List SK := [.agg [.int .i64, .int .i64, .int .i64, .int .i64], .agg [.int .i64, .int .i64]]
noncomputable def A157 (us : List AVal) := F_skirmishref06_Inside (aI us 0 0) (aI us 0 1) (aI us 0 2) (aI us 0 3) (aI us 1 0) (aI us 1 1)
noncomputable def S157 (us : List AVal) : Call := bif chkA ks157 us then Call.of (A157 us) enc157 else Call.none
noncomputable def C157 := AI.ext 157 S157 C156
theorem run157 (zaf zag zae zad zI zJ : Int) : fcall TT TU GL0 C156 ownF true noL Tryz.f157 [(.agg [(i64 zaf), (i64 zag), (i64 zae), (i64 zad)]), (.agg [(i64 zI), (i64 zJ)])] = (F_skirmishref06_Inside zaf zag zae zad zI zJ).bind fun t => some (enc157 t) :=
 Eq.trans (by kernel_rfl) (nb fun t => (nb fun t1 => (nd rfl (nd rfl (nd rfl rfl rfl) rfl) rfl)))
theorem lib157 : Lib Tryz.prog GL0 C157 :=
 Lib.fn lib156 mixed TT_ok Tryz.func157 (by decide +kernel) (by kernel_rfl) true noL (loops_of 0 (by kernel_rfl) below0) ks157 (F := A157) (fun us => rfl) (fun us => run157 _ _ _ _ _ _) (fun t => rfl)
noncomputable def W101_0 : Ex → List Bool
 | .ret => (e4 (true :: (e16 (e16 (e64 [])))))
 | .exit n => bif Nat.beq n 0 then (e4 (e16 (e16 (e64 [false])))) else []
 | .normal => []
noncomputable def G_skirmishref21_placed_0 (building : Bool) (b0_5 b0_6 b0_7 b0_12 : LL) (b1_0 b1_3 b1_4 b2_0 b2_1 b2_2 b2_3 b3_3 : Int) : Nat → Int → Option (Bool)
 | 0, _ => none
 | m + 1, i => bif (decide (i < (Int.ofNat b0_12.length))) then bif (decide ((0 : Int) ≤ i)) then Option.bind (b0_12[i.toNat]?) fun r => bif (chk y6 r) then Option.bind (F_skirmishref21_Rect b0_5 b0_6 b0_7 (cI r 0) (cI r 1) (cS r 2) (cI r 3) (cI r 4) (cI r 5) (cI r 6) (cI r 7) (cI r 8) (cI r 9) (roRows (AVal.ro 5 (cR r 10))) (roRows (AVal.ro 3 (cR r 11)))) fun t => bif (!t.2.2.2.2) then
 G_skirmishref21_placed_0 building b0_5 b0_6 b0_7 b0_12 b1_0 b1_3 b1_4 b2_0 b2_1 b2_2 b2_3 b3_3 m (wr (i + (1 : Int))) else Option.bind (b0_12[i.toNat]?) fun r1 => bif (chk y6 r1) then bif ((cI r1 0) == b1_0) then
 G_skirmishref21_placed_0 building b0_5 b0_6 b0_7 b0_12 b1_0 b1_3 b1_4 b2_0 b2_1 b2_2 b2_3 b3_3 m (wr (i + (1 : Int))) else bif building then Option.bind (F_skirmishref06_Meet b2_0 b2_1 b2_2 b2_3 t.1 t.2.1 t.2.2.1 t.2.2.2.1) fun t1 => bif t1 then some true else
 G_skirmishref21_placed_0 building b0_5 b0_6 b0_7 b0_12 b1_0 b1_3 b1_4 b2_0 b2_1 b2_2 b2_3 b3_3 m (wr (i + (1 : Int))) else bif (b3_3 != (3 : Int)) then Option.bind (F_skirmishref21_Cell b1_3 b1_4) fun t4 => Option.bind (F_skirmishref06_Inside t.1 t.2.1 t.2.2.1 t.2.2.2.1 t4.1 t4.2) fun t5 => bif t5 then some true else
 G_skirmishref21_placed_0 building b0_5 b0_6 b0_7 b0_12 b1_0 b1_3 b1_4 b2_0 b2_1 b2_2 b2_3 b3_3 m (wr (i + (1 : Int))) else
 G_skirmishref21_placed_0 building b0_5 b0_6 b0_7 b0_12 b1_0 b1_3 b1_4 b2_0 b2_1 b2_2 b2_3 b3_3 m (wr (i + (1 : Int))) else none else none else none else some false
noncomputable def E101_0 (building : Bool) (i b0_0 b0_1 b0_2 : Int) (b0_3 : Bool) (b0_4 : Int) (b0_5 b0_6 b0_7 : LL) (b0_8 b0_9 : Int) (b0_10 b0_11 b0_12 b0_13 b0_14 b0_15 : LL) (b1_0 b1_1 : Int) (b1_2 : ByteArray) (b1_3 b1_4 b1_5 b1_6 b1_7 b1_8 b1_9 : Int) (b1_10 b1_11 : LL) (b2_0 b2_1 b2_2 b2_3 : Int) (b3_0 : ByteArray) (b3_1 b3_2 : Bool) (b3_3 b3_4 b3_5 b3_6 b3_7 b3_8 b3_9 b3_10 b3_11 : Int) (b3_12 : ByteArray) (b3_13 b3_14 b3_15 : Int) (b3_16 b3_17 b3_18 : LL) : St := ⟨(.dead :: .dead :: (.ref 16000 1 0 0) :: (.ref 16016 1 0 0) :: .dead :: (.ref 19312 1 0 0) :: (bo building) :: (.ref 28928 1 0 0) :: .dead :: (i64 i) :: (d4 (d4 (d16 (d64 [.dead, .dead, .dead]))))), [(16000, ⟨.box, 37, 16, [[(i64 b0_0), (i64 b0_1), (i64 b0_2), (bo b0_3), (.sc (.int .u64 b0_4)), (.ro 19 b0_5), (.ro 6 b0_6), (.ro 8 b0_7), (i64 b0_8), (i64 b0_9), (.ro 3 b0_10), (.ro 6 b0_11), (.ro 12 b0_12), (.ro 9 b0_13), (.ro 3 b0_14), (.ro 4 b0_15)]]⟩), (16016, ⟨.box, 60, 12, [[(i64 b1_0), (i64 b1_1), (.sc (.string b1_2)), (i64 b1_3), (i64 b1_4), (i64 b1_5), (i64 b1_6), (i64 b1_7), (i64 b1_8), (i64 b1_9), (.ro 5 b1_10), (.ro 3 b1_11)]]⟩), (19312, ⟨.box, 180, 4, [[(i64 b2_0), (i64 b2_1), (i64 b2_2), (i64 b2_3)]]⟩), (28928, ⟨.box, 65, 19, [[(.sc (.string b3_0)), (bo b3_1), (bo b3_2), (i64 b3_3), (i64 b3_4), (i64 b3_5), (i64 b3_6), (i64 b3_7), (i64 b3_8), (i64 b3_9), (i64 b3_10), (i64 b3_11), (.sc (.string b3_12)), (i64 b3_13), (i64 b3_14), (i64 b3_15), (.ro 1 b3_16), (.ro 1 b3_17), (.ro 1 b3_18)]]⟩)]⟩
noncomputable def X101_0 (k : Ex → St → Option CR) (t : Bool) : Option CR := bif t then k .ret ⟨(d4 ((bo false) :: (d16 (d16 (d64 []))))), []⟩ else k (.exit 0) ⟨(d4 (d16 (d16 (d64 [.dead])))), []⟩
noncomputable def ks101_0 : List SK := (.f .dead :: .f .dead :: .f (.ref 16000 1 0 0) :: .f (.ref 16016 1 0 0) :: .f .dead :: .f (.ref 19312 1 0 0) :: .f (.bool) :: .f (.ref 28928 1 0 0) :: .f .dead :: .f (.int .i64) :: (f4 (f4 (f16 (f64 [.f .dead, .f .dead, .f .dead])))))
noncomputable def hs101_0 : List HK := [⟨16000, .box, 37, 16, some [.int .i64, .int .i64, .int .i64, .bool, .int .u64, .ro 19, .ro 6, .ro 8, .int .i64, .int .i64, .ro 3, .ro 6, .ro 12, .ro 9, .ro 3, .ro 4]⟩, ⟨16016, .box, 60, 12, some [.int .i64, .int .i64, .str, .int .i64, .int .i64, .int .i64, .int .i64, .int .i64, .int .i64, .int .i64, .ro 5, .ro 3]⟩, ⟨19312, .box, 180, 4, some [.int .i64, .int .i64, .int .i64, .int .i64]⟩, ⟨28928, .box, 65, 19, some [.str, .bool, .bool, .int .i64, .int .i64, .int .i64, .int .i64, .int .i64, .int .i64, .int .i64, .int .i64, .int .i64, .str, .int .i64, .int .i64, .int .i64, .ro 1, .ro 1, .ro 1]⟩]
noncomputable def Lm101_0 (s : St) (k : Ex → St → Option CR) : Option CR := bif chkS ks101_0 hs101_0 s then (G_skirmishref21_placed_0 (sB s 6) (aRh s 0 5) (aRh s 0 6) (aRh s 0 7) (aRh s 0 12) (aIh s 1 0) (aIh s 1 3) (aIh s 1 4) (aIh s 2 0) (aIh s 2 1) (aIh s 2 2) (aIh s 2 3) (aIh s 3 3) FU (sI s 9)).bind (X101_0 k) else none
noncomputable def L101_0 (s : St) (k : Ex → St → Option CR) : Option CR := Lm101_0 (maskS (maskOf ks101_0) s) k
noncomputable def L101 : LT' := fun i s k => bif Nat.beq i 0 then L101_0 s k else none
noncomputable def F_skirmishref21_placed (zr zk zm : Int) (zl : Bool) (zs : Int) (ze zc zd : LL) (zj zi : Int) (zf zb za zo zg zh : LL) (zE zw : Int) (zy : ByteArray) (zu zv zH zC zA zD zB : Int) (zt zz : LL) : Option (Bool) := Option.bind (F_skirmishref21_Rect ze zc zd zE zw zy zu zv zH zC zA zD zB zt zz) fun t => bif t.2.2.2.2 then Option.bind (F_skirmishref21_whole zr zk zm zl zs ze zc zd zj zi zf zb za zo zg zh zE zw zy zu zv zH zC zA zD zB zt zz t.1 t.2.1 t.2.2.1 t.2.2.2.1) fun t1 => bif (!t1) then some false else Option.bind (F_skirmishref09_Unit ze zc zd zy) fun t2 => Option.bind (G_skirmishref21_placed_0 t.2.2.2.2 ze zc zd za zE zu zv t.1 t.2.1 t.2.2.1 t.2.2.2.1 t2.2.2.2.1 FU (0 : Int)) fun t6 => bif t6 then some false else some true else Option.bind (F_skirmishref09_Unit ze zc zd zy) fun t7 => Option.bind (F_skirmishref21_Cell zu zv) fun t8 => Option.bind (F_skirmishref07_Passable zj zi zf t7.2.2.2.1 t8.1 t8.2) fun t9 => bif (!t9) then some false else Option.bind (G_skirmishref21_placed_0 t.2.2.2.2 ze zc zd za zE zu zv t.1 t.2.1 t.2.2.1 t.2.2.2.1 t7.2.2.2.1 FU (0 : Int)) fun t10 => bif t10 then some false else some true
noncomputable def enc101 (t : Bool) : CR := ⟨true, (bo t), [], []⟩
noncomputable def ks101 : List SK := [.agg [.int .i64, .int .i64, .int .i64, .bool, .int .u64, .ro 19, .ro 6, .ro 8, .int .i64, .int .i64, .ro 3, .ro 6, .ro 12, .ro 9, .ro 3, .ro 4], .agg [.int .i64, .int .i64, .str, .int .i64, .int .i64, .int .i64, .int .i64, .int .i64, .int .i64, .int .i64, .ro 5, .ro 3]]
noncomputable def A101 (us : List AVal) := F_skirmishref21_placed (aI us 0 0) (aI us 0 1) (aI us 0 2) (aB us 0 3) (aI us 0 4) (aR us 0 5) (aR us 0 6) (aR us 0 7) (aI us 0 8) (aI us 0 9) (aR us 0 10) (aR us 0 11) (aR us 0 12) (aR us 0 13) (aR us 0 14) (aR us 0 15) (aI us 1 0) (aI us 1 1) (aS us 1 2) (aI us 1 3) (aI us 1 4) (aI us 1 5) (aI us 1 6) (aI us 1 7) (aI us 1 8) (aI us 1 9) (aR us 1 10) (aR us 1 11)
noncomputable def S101 (us : List AVal) : Call := bif chkA ks101 us then Call.of (A101 us) enc101 else Call.none
noncomputable def C101 := AI.ext 101 S101 C157
@[reducible] noncomputable def B101_0 := bodyOf TT TU GL0 C157 ownF L101 (lp Tryz.f101 0)
@[reducible] noncomputable def K101_0 (k : Ex → St → Option CR) : Ex → St → Option CR := fun e s => k e (maskS (W101_0 e) s)
theorem spec101_0 (k : Ex → St → Option CR) : ∀ (m : Nat) (building : Bool) (i b0_0 b0_1 b0_2 : Int) (b0_3 : Bool) (b0_4 : Int) (b0_5 b0_6 b0_7 : LL) (b0_8 b0_9 : Int) (b0_10 b0_11 b0_12 b0_13 b0_14 b0_15 : LL) (b1_0 b1_1 : Int) (b1_2 : ByteArray) (b1_3 b1_4 b1_5 b1_6 b1_7 b1_8 b1_9 : Int) (b1_10 b1_11 : LL) (b2_0 b2_1 b2_2 b2_3 : Int) (b3_0 : ByteArray) (b3_1 b3_2 : Bool) (b3_3 b3_4 b3_5 b3_6 b3_7 b3_8 b3_9 b3_10 b3_11 : Int) (b3_12 : ByteArray) (b3_13 b3_14 b3_15 : Int) (b3_16 b3_17 b3_18 : LL), loopN B101_0 m (E101_0 building i b0_0 b0_1 b0_2 b0_3 b0_4 b0_5 b0_6 b0_7 b0_8 b0_9 b0_10 b0_11 b0_12 b0_13 b0_14 b0_15 b1_0 b1_1 b1_2 b1_3 b1_4 b1_5 b1_6 b1_7 b1_8 b1_9 b1_10 b1_11 b2_0 b2_1 b2_2 b2_3 b3_0 b3_1 b3_2 b3_3 b3_4 b3_5 b3_6 b3_7 b3_8 b3_9 b3_10 b3_11 b3_12 b3_13 b3_14 b3_15 b3_16 b3_17 b3_18) (K101_0 k) = (G_skirmishref21_placed_0 building b0_5 b0_6 b0_7 b0_12 b1_0 b1_3 b1_4 b2_0 b2_1 b2_2 b2_3 b3_3 m i).bind (X101_0 k)
 | 0, _, _, _, _, _, _, _, _, _, _, _, _, _, _, _, _, _, _, _, _, _, _, _, _, _, _, _, _, _, _, _, _, _, _, _, _, _, _, _, _, _, _, _, _, _, _, _, _, _, _, _, _, _ => rfl
 | m + 1, building, i, b0_0, b0_1, b0_2, b0_3, b0_4, b0_5, b0_6, b0_7, b0_8, b0_9, b0_10, b0_11, b0_12, b0_13, b0_14, b0_15, b1_0, b1_1, b1_2, b1_3, b1_4, b1_5, b1_6, b1_7, b1_8, b1_9, b1_10, b1_11, b2_0, b2_1, b2_2, b2_3, b3_0, b3_1, b3_2, b3_3, b3_4, b3_5, b3_6, b3_7, b3_8, b3_9, b3_10, b3_11, b3_12, b3_13, b3_14, b3_15, b3_16, b3_17, b3_18 =>
 Eq.trans (by kernel_rfl) (nd rfl (nc rfl (fun h1 => (nb fun r => (nd rfl (nb fun t => (nd rfl (spec101_0 k m building (wr (i + (1 : Int))) b0_0 b0_1 b0_2 b0_3 b0_4 b0_5 b0_6 b0_7 b0_8 b0_9 b0_10 b0_11 b0_12 b0_13 b0_14 b0_15 b1_0 b1_1 b1_2 b1_3 b1_4 b1_5 b1_6 b1_7 b1_8 b1_9 b1_10 b1_11 b2_0 b2_1 b2_2 b2_3 b3_0 b3_1 b3_2 b3_3 b3_4 b3_5 b3_6 b3_7 b3_8 b3_9 b3_10 b3_11 b3_12 b3_13 b3_14 b3_15 b3_16 b3_17 b3_18) (nu h1 (nb fun r1 => (nd rfl (nd rfl (spec101_0 k m building (wr (i + (1 : Int))) b0_0 b0_1 b0_2 b0_3 b0_4 b0_5 b0_6 b0_7 b0_8 b0_9 b0_10 b0_11 b0_12 b0_13 b0_14 b0_15 b1_0 b1_1 b1_2 b1_3 b1_4 b1_5 b1_6 b1_7 b1_8 b1_9 b1_10 b1_11 b2_0 b2_1 b2_2 b2_3 b3_0 b3_1 b3_2 b3_3 b3_4 b3_5 b3_6 b3_7 b3_8 b3_9 b3_10 b3_11 b3_12 b3_13 b3_14 b3_15 b3_16 b3_17 b3_18) (nc rfl (fun h6 => (nb fun t1 => (nd rfl rfl (n_false (A := (bif (b3_3 != (3 : Int)) then (Option.bind (F_skirmishref21_Cell b1_3 b1_4) fun t2 => (Option.bind (F_skirmishref06_Inside t.1 t.2.1 t.2.2.1 t.2.2.2.1 t2.1 t2.2) fun t3 => (bif t3 then (k .ret ⟨(d4 ((bo false) :: (d16 (d16 (d64 []))))), []⟩) else (loopN B101_0 m ⟨(.dead :: .dead :: (AVal.ref 16000 1 0 0) :: (AVal.ref 16016 1 0 0) :: .dead :: (AVal.ref 19312 1 0 0) :: (bo building) :: (AVal.ref 28928 1 0 0) :: .dead :: (i64 (wr (i + (1 : Int)))) :: (d4 (d4 (d16 (d64 [.dead, .dead, .dead]))))), [(Prod.mk 16000 (Blk.mk BKind.box 37 16 [[(i64 b0_0), (i64 b0_1), (i64 b0_2), (bo b0_3), (AVal.sc (Value.int IntKind.u64 b0_4)), (AVal.ro 19 b0_5), (AVal.ro 6 b0_6), (AVal.ro 8 b0_7), (i64 b0_8), (i64 b0_9), (AVal.ro 3 b0_10), (AVal.ro 6 b0_11), (AVal.ro 12 b0_12), (AVal.ro 9 b0_13), (AVal.ro 3 b0_14), (AVal.ro 4 b0_15)]])), (Prod.mk 16016 (Blk.mk BKind.box 60 12 [[(i64 b1_0), (i64 b1_1), (AVal.sc (Value.string b1_2)), (i64 b1_3), (i64 b1_4), (i64 b1_5), (i64 b1_6), (i64 b1_7), (i64 b1_8), (i64 b1_9), (AVal.ro 5 b1_10), (AVal.ro 3 b1_11)]])), (Prod.mk 19312 (Blk.mk BKind.box 180 4 [[(i64 b2_0), (i64 b2_1), (i64 b2_2), (i64 b2_3)]])), (Prod.mk 28928 (Blk.mk BKind.box 65 19 [[(AVal.sc (Value.string b3_0)), (bo b3_1), (bo b3_2), (i64 b3_3), (i64 b3_4), (i64 b3_5), (i64 b3_6), (i64 b3_7), (i64 b3_8), (i64 b3_9), (i64 b3_10), (i64 b3_11), (AVal.sc (Value.string b3_12)), (i64 b3_13), (i64 b3_14), (i64 b3_15), (AVal.ro 1 b3_16), (AVal.ro 1 b3_17), (AVal.ro 1 b3_18)]]))]⟩ (K101_0 k))))) else (loopN B101_0 m ⟨(.dead :: .dead :: (AVal.ref 16000 1 0 0) :: (AVal.ref 16016 1 0 0) :: .dead :: (AVal.ref 19312 1 0 0) :: (bo building) :: (AVal.ref 28928 1 0 0) :: .dead :: (i64 (wr (i + (1 : Int)))) :: (d4 (d4 (d16 (d64 [.dead, .dead, .dead]))))), [(Prod.mk 16000 (Blk.mk BKind.box 37 16 [[(i64 b0_0), (i64 b0_1), (i64 b0_2), (bo b0_3), (AVal.sc (Value.int IntKind.u64 b0_4)), (AVal.ro 19 b0_5), (AVal.ro 6 b0_6), (AVal.ro 8 b0_7), (i64 b0_8), (i64 b0_9), (AVal.ro 3 b0_10), (AVal.ro 6 b0_11), (AVal.ro 12 b0_12), (AVal.ro 9 b0_13), (AVal.ro 3 b0_14), (AVal.ro 4 b0_15)]])), (Prod.mk 16016 (Blk.mk BKind.box 60 12 [[(i64 b1_0), (i64 b1_1), (AVal.sc (Value.string b1_2)), (i64 b1_3), (i64 b1_4), (i64 b1_5), (i64 b1_6), (i64 b1_7), (i64 b1_8), (i64 b1_9), (AVal.ro 5 b1_10), (AVal.ro 3 b1_11)]])), (Prod.mk 19312 (Blk.mk BKind.box 180 4 [[(i64 b2_0), (i64 b2_1), (i64 b2_2), (i64 b2_3)]])), (Prod.mk 28928 (Blk.mk BKind.box 65 19 [[(AVal.sc (Value.string b3_0)), (bo b3_1), (bo b3_2), (i64 b3_3), (i64 b3_4), (i64 b3_5), (i64 b3_6), (i64 b3_7), (i64 b3_8), (i64 b3_9), (i64 b3_10), (i64 b3_11), (AVal.sc (Value.string b3_12)), (i64 b3_13), (i64 b3_14), (i64 b3_15), (AVal.ro 1 b3_16), (AVal.ro 1 b3_17), (AVal.ro 1 b3_18)]]))]⟩ (K101_0 k)))) (n_tn h6) (spec101_0 k m building (wr (i + (1 : Int))) b0_0 b0_1 b0_2 b0_3 b0_4 b0_5 b0_6 b0_7 b0_8 b0_9 b0_10 b0_11 b0_12 b0_13 b0_14 b0_15 b1_0 b1_1 b1_2 b1_3 b1_4 b1_5 b1_6 b1_7 b1_8 b1_9 b1_10 b1_11 b2_0 b2_1 b2_2 b2_3 b3_0 b3_1 b3_2 b3_3 b3_4 b3_5 b3_6 b3_7 b3_8 b3_9 b3_10 b3_11 b3_12 b3_13 b3_14 b3_15 b3_16 b3_17 b3_18))))) fun h6 => (n_true (B := (loopN B101_0 m ⟨(.dead :: .dead :: (AVal.ref 16000 1 0 0) :: (AVal.ref 16016 1 0 0) :: .dead :: (AVal.ref 19312 1 0 0) :: (bo building) :: (AVal.ref 28928 1 0 0) :: .dead :: (i64 (wr (i + (1 : Int)))) :: (d4 (d4 (d16 (d64 [.dead, .dead, .dead]))))), [(Prod.mk 16000 (Blk.mk BKind.box 37 16 [[(i64 b0_0), (i64 b0_1), (i64 b0_2), (bo b0_3), (AVal.sc (Value.int IntKind.u64 b0_4)), (AVal.ro 19 b0_5), (AVal.ro 6 b0_6), (AVal.ro 8 b0_7), (i64 b0_8), (i64 b0_9), (AVal.ro 3 b0_10), (AVal.ro 6 b0_11), (AVal.ro 12 b0_12), (AVal.ro 9 b0_13), (AVal.ro 3 b0_14), (AVal.ro 4 b0_15)]])), (Prod.mk 16016 (Blk.mk BKind.box 60 12 [[(i64 b1_0), (i64 b1_1), (AVal.sc (Value.string b1_2)), (i64 b1_3), (i64 b1_4), (i64 b1_5), (i64 b1_6), (i64 b1_7), (i64 b1_8), (i64 b1_9), (AVal.ro 5 b1_10), (AVal.ro 3 b1_11)]])), (Prod.mk 19312 (Blk.mk BKind.box 180 4 [[(i64 b2_0), (i64 b2_1), (i64 b2_2), (i64 b2_3)]])), (Prod.mk 28928 (Blk.mk BKind.box 65 19 [[(AVal.sc (Value.string b3_0)), (bo b3_1), (bo b3_2), (i64 b3_3), (i64 b3_4), (i64 b3_5), (i64 b3_6), (i64 b3_7), (i64 b3_8), (i64 b3_9), (i64 b3_10), (i64 b3_11), (AVal.sc (Value.string b3_12)), (i64 b3_13), (i64 b3_14), (i64 b3_15), (AVal.ro 1 b3_16), (AVal.ro 1 b3_17), (AVal.ro 1 b3_18)]]))]⟩ (K101_0 k))) (n_fn h6) (nd rfl (nb fun t4 => (nb fun t5 => (nd rfl rfl (spec101_0 k m building (wr (i + (1 : Int))) b0_0 b0_1 b0_2 b0_3 b0_4 b0_5 b0_6 b0_7 b0_8 b0_9 b0_10 b0_11 b0_12 b0_13 b0_14 b0_15 b1_0 b1_1 b1_2 b1_3 b1_4 b1_5 b1_6 b1_7 b1_8 b1_9 b1_10 b1_11 b2_0 b2_1 b2_2 b2_3 b3_0 b3_1 b3_2 b3_3 b3_4 b3_5 b3_6 b3_7 b3_8 b3_9 b3_10 b3_11 b3_12 b3_13 b3_14 b3_15 b3_16 b3_17 b3_18)))) (spec101_0 k m building (wr (i + (1 : Int))) b0_0 b0_1 b0_2 b0_3 b0_4 b0_5 b0_6 b0_7 b0_8 b0_9 b0_10 b0_11 b0_12 b0_13 b0_14 b0_15 b1_0 b1_1 b1_2 b1_3 b1_4 b1_5 b1_6 b1_7 b1_8 b1_9 b1_10 b1_11 b2_0 b2_1 b2_2 b2_3 b3_0 b3_1 b3_2 b3_3 b3_4 b3_5 b3_6 b3_7 b3_8 b3_9 b3_10 b3_11 b3_12 b3_13 b3_14 b3_15 b3_16 b3_17 b3_18))))) rfl))))) rfl))) fun h1 => rfl) rfl)
theorem okL101_0 : LoopOk TT TU GL0 C157 ownF L101 (lp Tryz.f101 0) :=
 loopOk_of ks101_0 hs101_0 W101_0 FU _ (fun s k => by kernel_rfl) (fun s k => spec101_0 k FU (sB s 6) (sI s 9) (aIh s 0 0) (aIh s 0 1) (aIh s 0 2) (aBh s 0 3) (aIh s 0 4) (aRh s 0 5) (aRh s 0 6) (aRh s 0 7) (aIh s 0 8) (aIh s 0 9) (aRh s 0 10) (aRh s 0 11) (aRh s 0 12) (aRh s 0 13) (aRh s 0 14) (aRh s 0 15) (aIh s 1 0) (aIh s 1 1) (aSh s 1 2) (aIh s 1 3) (aIh s 1 4) (aIh s 1 5) (aIh s 1 6) (aIh s 1 7) (aIh s 1 8) (aIh s 1 9) (aRh s 1 10) (aRh s 1 11) (aIh s 2 0) (aIh s 2 1) (aIh s 2 2) (aIh s 2 3) (aSh s 3 0) (aBh s 3 1) (aBh s 3 2) (aIh s 3 3) (aIh s 3 4) (aIh s 3 5) (aIh s 3 6) (aIh s 3 7) (aIh s 3 8) (aIh s 3 9) (aIh s 3 10) (aIh s 3 11) (aSh s 3 12) (aIh s 3 13) (aIh s 3 14) (aIh s 3 15) (aRh s 3 16) (aRh s 3 17) (aRh s 3 18))
theorem run101 (zr zk zm : Int) (zl : Bool) (zs : Int) (ze zc zd : LL) (zj zi : Int) (zf zb za zo zg zh : LL) (zE zw : Int) (zy : ByteArray) (zu zv zH zC zA zD zB : Int) (zt zz : LL) : fcall TT TU GL0 C157 ownF true L101 Tryz.f101 [(.agg [(i64 zr), (i64 zk), (i64 zm), (bo zl), (.sc (.int .u64 zs)), (.ro 19 ze), (.ro 6 zc), (.ro 8 zd), (i64 zj), (i64 zi), (.ro 3 zf), (.ro 6 zb), (.ro 12 za), (.ro 9 zo), (.ro 3 zg), (.ro 4 zh)]), (.agg [(i64 zE), (i64 zw), (.sc (.string zy)), (i64 zu), (i64 zv), (i64 zH), (i64 zC), (i64 zA), (i64 zD), (i64 zB), (.ro 5 zt), (.ro 3 zz)])] = (F_skirmishref21_placed zr zk zm zl zs ze zc zd zj zi zf zb za zo zg zh zE zw zy zu zv zH zC zA zD zB zt zz).bind fun t => some (enc101 t) :=
 Eq.trans (by kernel_rfl) (nb fun t => (nc rfl (fun h0 => (nb fun t1 => (nd rfl rfl (nb fun t2 => (n_false (A := (Option.bind (F_skirmishref21_Cell zu zv) fun t3 => (Option.bind (F_skirmishref07_Passable zj zi zf t2.2.2.2.1 t3.1 t3.2) fun t4 => (bif (!t4) then (some (CR.mk true (bo false) [] [])) else (Option.bind (G_skirmishref21_placed_0 t.2.2.2.2 ze zc zd za zE zu zv t.1 t.2.1 t.2.2.1 t.2.2.2.1 t2.2.2.2.1 FU (0 : Int)) fun t5 => (bif t5 then (some (CR.mk true (bo false) [] [])) else (some (CR.mk true (bo true) [] [])))))))) (n_tn h0) (nb fun t6 => (nd rfl rfl rfl))))))) fun h0 => (nb fun t7 => (n_true (B := (Option.bind (G_skirmishref21_placed_0 t.2.2.2.2 ze zc zd za zE zu zv t.1 t.2.1 t.2.2.1 t.2.2.2.1 t7.2.2.2.1 FU (0 : Int)) fun t11 => (bif t11 then (some (CR.mk true (bo false) [] [])) else (some (CR.mk true (bo true) [] []))))) (n_fn h0) (nb fun t8 => (nb fun t9 => (nd rfl rfl (nb fun t10 => (nd rfl rfl rfl)))))))))
theorem lib101 : Lib Tryz.prog GL0 C101 :=
 Lib.fn lib157 mixed TT_ok Tryz.func101 (by decide +kernel) (by kernel_rfl) true L101 (loops_of 1 (by kernel_rfl) (belowS below0 okL101_0)) ks101 (F := A101) (fun us => rfl) (fun us => run101 _ _ _ _ _ _ _ _ _ _ _ _ _ _ _ _ _ _ _ _ _ _ _ _ _ _ _ _) (fun t => rfl)
noncomputable def F_skirmishref21_Ready (zE zw : Int) (zy : ByteArray) (zu zv zH zC zA zD zB : Int) (zt zz : LL) : Option (Bool) := some (zA == (0 : Int))
noncomputable def enc77 (t : Bool) : CR := ⟨true, (bo t), [], []⟩
noncomputable def ks77 : List SK := [.agg [.int .i64, .int .i64, .str, .int .i64, .int .i64, .int .i64, .int .i64, .int .i64, .int .i64, .int .i64, .ro 5, .ro 3]]
noncomputable def A77 (us : List AVal) := F_skirmishref21_Ready (aI us 0 0) (aI us 0 1) (aS us 0 2) (aI us 0 3) (aI us 0 4) (aI us 0 5) (aI us 0 6) (aI us 0 7) (aI us 0 8) (aI us 0 9) (aR us 0 10) (aR us 0 11)
noncomputable def S77 (us : List AVal) : Call := bif chkA ks77 us then Call.of (A77 us) enc77 else Call.none
noncomputable def C77 := AI.ext 77 S77 C101
theorem run77 (zE zw : Int) (zy : ByteArray) (zu zv zH zC zA zD zB : Int) (zt zz : LL) : fcall TT TU GL0 C101 ownF true noL Tryz.f77 [(.agg [(i64 zE), (i64 zw), (.sc (.string zy)), (i64 zu), (i64 zv), (i64 zH), (i64 zC), (i64 zA), (i64 zD), (i64 zB), (.ro 5 zt), (.ro 3 zz)])] = (F_skirmishref21_Ready zE zw zy zu zv zH zC zA zD zB zt zz).bind fun t => some (enc77 t) :=
 Eq.trans (by kernel_rfl) rfl
theorem lib77 : Lib Tryz.prog GL0 C77 :=
 Lib.fn lib101 mixed TT_ok Tryz.func77 (by decide +kernel) (by kernel_rfl) true noL (loops_of 0 (by kernel_rfl) below0) ks77 (F := A77) (fun us => rfl) (fun us => run77 _ _ _ _ _ _ _ _ _ _ _ _) (fun t => rfl)
noncomputable def F_skirmishref21_proper (zr zk zm : Int) (zl : Bool) (zs : Int) (ze zc zd : LL) (zj zi : Int) (zf zb za zo zg zh : LL) (zE zw : Int) (zy : ByteArray) (zu zv zH zC zA zD zB : Int) (zt zz : LL) : Option (Bool) := Option.bind (F_skirmishref09_Unit ze zc zd zy) fun t => bif t.2.1 then bif ((Int.ofNat zt.length) == (0 : Int)) then bif (zD == (0 : Int)) then bif (zB == (0 : Int)) then Option.bind (F_skirmishref21_Ready zE zw zy zu zv zH zC zA zD zB zt zz) fun t1 => bif t1 then some true else some ((Int.ofNat zz.length) == (0 : Int)) else some false else some false else some false else bif ((Int.ofNat zz.length) == (0 : Int)) then Option.bind (F_skirmishref21_Ready zE zw zy zu zv zH zC zA zD zB zt zz) fun t2 => bif t2 then some (decide ((wr (zD + zB)) ≤ t.2.2.2.2.2.2.2.2.2.2.2.1)) else some false else some false
noncomputable def enc102 (t : Bool) : CR := ⟨true, (bo t), [], []⟩
noncomputable def ks102 : List SK := [.agg [.int .i64, .int .i64, .int .i64, .bool, .int .u64, .ro 19, .ro 6, .ro 8, .int .i64, .int .i64, .ro 3, .ro 6, .ro 12, .ro 9, .ro 3, .ro 4], .agg [.int .i64, .int .i64, .str, .int .i64, .int .i64, .int .i64, .int .i64, .int .i64, .int .i64, .int .i64, .ro 5, .ro 3]]
noncomputable def A102 (us : List AVal) := F_skirmishref21_proper (aI us 0 0) (aI us 0 1) (aI us 0 2) (aB us 0 3) (aI us 0 4) (aR us 0 5) (aR us 0 6) (aR us 0 7) (aI us 0 8) (aI us 0 9) (aR us 0 10) (aR us 0 11) (aR us 0 12) (aR us 0 13) (aR us 0 14) (aR us 0 15) (aI us 1 0) (aI us 1 1) (aS us 1 2) (aI us 1 3) (aI us 1 4) (aI us 1 5) (aI us 1 6) (aI us 1 7) (aI us 1 8) (aI us 1 9) (aR us 1 10) (aR us 1 11)
noncomputable def S102 (us : List AVal) : Call := bif chkA ks102 us then Call.of (A102 us) enc102 else Call.none
noncomputable def C102 := AI.ext 102 S102 C77
theorem run102 (zr zk zm : Int) (zl : Bool) (zs : Int) (ze zc zd : LL) (zj zi : Int) (zf zb za zo zg zh : LL) (zE zw : Int) (zy : ByteArray) (zu zv zH zC zA zD zB : Int) (zt zz : LL) : fcall TT TU GL0 C77 ownF true noL Tryz.f102 [(.agg [(i64 zr), (i64 zk), (i64 zm), (bo zl), (.sc (.int .u64 zs)), (.ro 19 ze), (.ro 6 zc), (.ro 8 zd), (i64 zj), (i64 zi), (.ro 3 zf), (.ro 6 zb), (.ro 12 za), (.ro 9 zo), (.ro 3 zg), (.ro 4 zh)]), (.agg [(i64 zE), (i64 zw), (.sc (.string zy)), (i64 zu), (i64 zv), (i64 zH), (i64 zC), (i64 zA), (i64 zD), (i64 zB), (.ro 5 zt), (.ro 3 zz)])] = (F_skirmishref21_proper zr zk zm zl zs ze zc zd zj zi zf zb za zo zg zh zE zw zy zu zv zH zC zA zD zB zt zz).bind fun t => some (enc102 t) :=
 Eq.trans (by kernel_rfl) (nb fun t => (nd rfl (nd rfl (nd rfl (nd rfl (nb fun t1 => (nd rfl rfl rfl)) rfl) rfl) rfl) (nd rfl (nb fun t2 => (nd rfl rfl rfl)) rfl)))
theorem lib102 : Lib Tryz.prog GL0 C102 :=
 Lib.fn lib77 mixed TT_ok Tryz.func102 (by decide +kernel) (by kernel_rfl) true noL (loops_of 0 (by kernel_rfl) below0) ks102 (F := A102) (fun us => rfl) (fun us => run102 _ _ _ _ _ _ _ _ _ _ _ _ _ _ _ _ _ _ _ _ _ _ _ _ _ _ _ _) (fun t => rfl)
end Go.Proofs.YtoiimiohobollaaGreat.AI
