/- What the functions that the law reaches answer: printed out of the interpreter's run, shortened by a program; each print is checked by Lean. -/
import Derived.Test.YtoiimiohobollaaGreatLP1
namespace Go.Proofs.YtoiimiohobollaaGreat.AI
open Go.RowKit
set_option linter.unusedVariables false
set_option linter.unusedSimpArgs false
set_option maxRecDepth 100000
noncomputable def F_skirmishref21_Body (zp zn zq : LL) (zE zw : Int) (zy : ByteArray) (zu zv zH zC zA zD zB : Int) (zt zz : LL) : Option (Int × Int × Int × Int × Int × Int × Int × Bool) := Option.bind (F_skirmishref09_Unit zp zn zq zy) fun t => bif (!t.2.2.2.2.2.2.2.2.2.2.2.2.2.2.2.2.2.2.2) then some ((0 : Int), (0 : Int), (0 : Int), (0 : Int), (0 : Int), (0 : Int), (0 : Int), false) else bif t.2.1 then some ((0 : Int), (0 : Int), (0 : Int), (0 : Int), (0 : Int), (0 : Int), (0 : Int), false) else some (zE, t.2.2.2.1, t.2.2.2.2.2.2.1, zu, zv, (0 : Int), (0 : Int), true)
noncomputable def enc159 (t : Int × Int × Int × Int × Int × Int × Int × Bool) : CR := ⟨true, (.tup [(.agg [(.sc (.int .i64 t.1)), (.sc (.int .i64 t.2.1)), (.sc (.int .i64 t.2.2.1)), (.sc (.int .i64 t.2.2.2.1)), (.sc (.int .i64 t.2.2.2.2.1)), (.sc (.int .i64 t.2.2.2.2.2.1)), (.sc (.int .i64 t.2.2.2.2.2.2.1))]), (.sc (.bool t.2.2.2.2.2.2.2))]), [], []⟩
noncomputable def ks159 : List SK := [.agg [.ro 19, .ro 6, .ro 8], .agg [.int .i64, .int .i64, .str, .int .i64, .int .i64, .int .i64, .int .i64, .int .i64, .int .i64, .int .i64, .ro 5, .ro 3]]
noncomputable def A159 (us : List AVal) := F_skirmishref21_Body (aR us 0 0) (aR us 0 1) (aR us 0 2) (aI us 1 0) (aI us 1 1) (aS us 1 2) (aI us 1 3) (aI us 1 4) (aI us 1 5) (aI us 1 6) (aI us 1 7) (aI us 1 8) (aI us 1 9) (aR us 1 10) (aR us 1 11)
noncomputable def S159 (us : List AVal) : Call := bif chkA ks159 us then Call.of (A159 us) enc159 else Call.none
noncomputable def C159 := AI.ext 159 S159 C102
theorem run159 (zp zn zq : LL) (zE zw : Int) (zy : ByteArray) (zu zv zH zC zA zD zB : Int) (zt zz : LL) : fcall TT TU GL0 C102 ownF true noL Tryz.f159 [(.agg [(.ro 19 zp), (.ro 6 zn), (.ro 8 zq)]), (.agg [(i64 zE), (i64 zw), (.sc (.string zy)), (i64 zu), (i64 zv), (i64 zH), (i64 zC), (i64 zA), (i64 zD), (i64 zB), (.ro 5 zt), (.ro 3 zz)])] = (F_skirmishref21_Body zp zn zq zE zw zy zu zv zH zC zA zD zB zt zz).bind fun t => some (enc159 t) :=
 Eq.trans (by kernel_rfl) (nb fun t => (nd rfl rfl (nd rfl rfl rfl)))
theorem lib159 : Lib Tryz.prog GL0 C159 :=
 Lib.fn lib102 mixed TT_ok Tryz.func159 (by decide +kernel) (by kernel_rfl) true noL (loops_of 0 (by kernel_rfl) below0) ks159 (F := A159) (fun us => rfl) (fun us => run159 _ _ _ _ _ _ _ _ _ _ _ _ _ _ _) (fun t => rfl)
noncomputable def W104_0 : Ex → List Bool
 | .ret => (e4 (true :: (e4 (e4 (e16 [false])))))
 | .exit n => bif Nat.beq n 0 then (e4 (false :: (true :: (e4 (e4 (e16 [])))))) else []
 | .normal => []
noncomputable def G_skirmishref21_Bodies_0 (l b0_0 b0_1 b0_2 : LL) : Nat → LL → Int → Option (LL)
 | 0, _, _ => none
 | m + 1, R1, i => bif (decide (i < (Int.ofNat l.length))) then bif (decide ((0 : Int) ≤ i)) then Option.bind (l[i.toNat]?) fun r => bif (chk y6 r) then Option.bind (F_skirmishref21_Body b0_0 b0_1 b0_2 (cI r 0) (cI r 1) (cS r 2) (cI r 3) (cI r 4) (cI r 5) (cI r 6) (cI r 7) (cI r 8) (cI r 9) (roRows (AVal.ro 5 (cR r 10))) (roRows (AVal.ro 3 (cR r 11)))) fun t => bif t.2.2.2.2.2.2.2 then bif (roomOk (R1.length + 1) 56) then
 G_skirmishref21_Bodies_0 l b0_0 b0_1 b0_2 m (R1 ++ [[(i64 t.1), (i64 t.2.1), (i64 t.2.2.1), (i64 t.2.2.2.1), (i64 t.2.2.2.2.1), (i64 t.2.2.2.2.2.1), (i64 t.2.2.2.2.2.2.1)]]) (wr (i + (1 : Int))) else none else
 G_skirmishref21_Bodies_0 l b0_0 b0_1 b0_2 m R1 (wr (i + (1 : Int))) else none else none else some R1
noncomputable def E104_0 (R1 l : LL) (i : Int) (b0_0 b0_1 b0_2 : LL) : St := ⟨(.dead :: (.ro 12 l) :: (.ref 16000 1 0 0) :: .dead :: .dead :: (.slc 19200 (R1).length) :: (i64 i) :: (d4 (d16 [.dead, .dead, .dead]))), [(16000, ⟨.box, 27, 3, [[(.ro 19 b0_0), (.ro 6 b0_1), (.ro 8 b0_2)]]⟩), (19200, ⟨.arr, 205, 7, R1⟩)]⟩
noncomputable def X104_0 (k : Ex → St → Option CR) (t : LL) : Option CR := k (.exit 0) ⟨(d4 (.dead :: ((.slc 19200 (t).length) :: (d4 (d4 (d16 [])))))), [(19200, ⟨.arr, 205, 7, t⟩)]⟩
noncomputable def ks104_0 : List SK := (.f .dead :: .f (.ro 12) :: .f (.ref 16000 1 0 0) :: .f .dead :: .f .dead :: .f (.slc 19200 1) :: .f (.int .i64) :: (f4 (f16 [.f .dead, .f .dead, .f .dead])))
noncomputable def hs104_0 : List HK := [⟨16000, .box, 27, 3, some [.ro 19, .ro 6, .ro 8]⟩, ⟨19200, .arr, 205, 7, none⟩]
noncomputable def Lm104_0 (s : St) (k : Ex → St → Option CR) : Option CR := bif chkS ks104_0 hs104_0 s then (G_skirmishref21_Bodies_0 (sR s 1) (aRh s 0 0) (aRh s 0 1) (aRh s 0 2) FU (blkAt s.heap 1).2.rows (sI s 6)).bind (X104_0 k) else none
noncomputable def L104_0 (s : St) (k : Ex → St → Option CR) : Option CR := Lm104_0 (maskS (maskOf ks104_0) s) k
noncomputable def L104 : LT' := fun i s k => bif Nat.beq i 0 then L104_0 s k else none
noncomputable def F_skirmishref21_Bodies (zp zn zq l : LL) : Option (LL) := Option.bind (G_skirmishref21_Bodies_0 l zp zn zq FU [] (0 : Int)) fun t => some t
noncomputable def enc104 (t : LL) : CR := ⟨true, (.slc 0 (t).length), [], [⟨.arr, 205, 7, t⟩]⟩
noncomputable def ks104 : List SK := [.agg [.ro 19, .ro 6, .ro 8], .f (.ro 12)]
noncomputable def A104 (us : List AVal) := F_skirmishref21_Bodies (aR us 0 0) (aR us 0 1) (aR us 0 2) (roRows (cIa us 1))
noncomputable def S104 (us : List AVal) : Call := bif chkA ks104 us then Call.of (A104 us) enc104 else Call.none
noncomputable def C104 := AI.ext 104 S104 C159
@[reducible] noncomputable def B104_0 := bodyOf TT TU GL0 C159 ownF L104 (lp Tryz.f104 0)
@[reducible] noncomputable def K104_0 (k : Ex → St → Option CR) : Ex → St → Option CR := fun e s => k e (maskS (W104_0 e) s)
theorem spec104_0 (k : Ex → St → Option CR) : ∀ (m : Nat) (R1 l : LL) (i : Int) (b0_0 b0_1 b0_2 : LL), loopN B104_0 m (E104_0 R1 l i b0_0 b0_1 b0_2) (K104_0 k) = (G_skirmishref21_Bodies_0 l b0_0 b0_1 b0_2 m R1 i).bind (X104_0 k)
 | 0, _, _, _, _, _, _ => rfl
 | m + 1, R1, l, i, b0_0, b0_1, b0_2 =>
 Eq.trans (by kernel_rfl) (nd rfl (nd rfl (nb fun r => (nd rfl (nb fun t => (nd rfl (nd (show ((((verEq R1.length R1.length) && true) && (roomOk (R1.length + 1) 56))) = _ from (n_andL (n_andL (verEq_rfl _) rfl) rfl)) (spec104_0 k m (R1 ++ [[(i64 t.1), (i64 t.2.1), (i64 t.2.2.1), (i64 t.2.2.2.1), (i64 t.2.2.2.2.1), (i64 t.2.2.2.2.2.1), (i64 t.2.2.2.2.2.2.1)]]) l (wr (i + (1 : Int))) b0_0 b0_1 b0_2) rfl) (spec104_0 k m R1 l (wr (i + (1 : Int))) b0_0 b0_1 b0_2))) rfl)) rfl) rfl)
theorem okL104_0 : LoopOk TT TU GL0 C159 ownF L104 (lp Tryz.f104 0) :=
 loopOk_of ks104_0 hs104_0 W104_0 FU _ (fun s k => by kernel_rfl) (fun s k => spec104_0 k FU (blkAt s.heap 1).2.rows (sR s 1) (sI s 6) (aRh s 0 0) (aRh s 0 1) (aRh s 0 2))
theorem run104 (zp zn zq l : LL) : fcall TT TU GL0 C159 ownF true L104 Tryz.f104 [(.agg [(.ro 19 zp), (.ro 6 zn), (.ro 8 zq)]), (.ro 12 l)] = (F_skirmishref21_Bodies zp zn zq l).bind fun t => some (enc104 t) :=
 Eq.trans (by kernel_rfl) (nb fun t => (nu (vr t) rfl))
theorem lib104 : Lib Tryz.prog GL0 C104 :=
 Lib.fn lib159 mixed TT_ok Tryz.func104 (by decide +kernel) (by kernel_rfl) true L104 (loops_of 1 (by kernel_rfl) (belowS below0 okL104_0)) ks104 (F := A104) (fun us => rfl) (fun us => run104 _ _ _ _) (fun t => rfl)
noncomputable def F_skirmishref01_Clamp (n lo hi : Int) : Option (Int) := some (maxI lo (minI n hi))
noncomputable def enc119 (t : Int) : CR := ⟨true, (i64 t), [], []⟩
noncomputable def ks119 : List SK := [.f (.int .i64), .f (.int .i64), .f (.int .i64)]
noncomputable def A119 (us : List AVal) := F_skirmishref01_Clamp (toI (cIa us 0)) (toI (cIa us 1)) (toI (cIa us 2))
noncomputable def S119 (us : List AVal) : Call := bif chkA ks119 us then Call.of (A119 us) enc119 else Call.none
noncomputable def C119 := AI.ext 119 S119 C104
theorem run119 (n lo hi : Int) : fcall TT TU GL0 C104 ownF true noL Tryz.f119 [(i64 n), (i64 lo), (i64 hi)] = (F_skirmishref01_Clamp n lo hi).bind fun t => some (enc119 t) :=
 Eq.trans (by kernel_rfl) rfl
theorem lib119 : Lib Tryz.prog GL0 C119 :=
 Lib.fn lib104 mixed TT_ok Tryz.func119 (by decide +kernel) (by kernel_rfl) true noL (loops_of 0 (by kernel_rfl) below0) ks119 (F := A119) (fun us => rfl) (fun us => run119 _ _ _) (fun t => rfl)
noncomputable def F_skirmishref02_Dot (zF zG zR zS : Int) : Option (Int) := Option.bind (F_skirmishref02_NearVec zF zG) fun t => Option.bind (F_skirmishref02_NearVec zR zS) fun t1 => some (wr ((wr (t.1 * t1.1)) + (wr (t.2 * t1.2))))
noncomputable def enc165 (t : Int) : CR := ⟨true, (i64 t), [], []⟩
noncomputable def ks165 : List SK := [.agg [.int .i64, .int .i64], .agg [.int .i64, .int .i64]]
noncomputable def A165 (us : List AVal) := F_skirmishref02_Dot (aI us 0 0) (aI us 0 1) (aI us 1 0) (aI us 1 1)
noncomputable def S165 (us : List AVal) : Call := bif chkA ks165 us then Call.of (A165 us) enc165 else Call.none
noncomputable def C165 := AI.ext 165 S165 C119
theorem run165 (zF zG zR zS : Int) : fcall TT TU GL0 C119 ownF true noL Tryz.f165 [(.agg [(i64 zF), (i64 zG)]), (.agg [(i64 zR), (i64 zS)])] = (F_skirmishref02_Dot zF zG zR zS).bind fun t => some (enc165 t) :=
 Eq.trans (by kernel_rfl) (nb fun t => (nb fun t1 => rfl))
theorem lib165 : Lib Tryz.prog GL0 C165 :=
 Lib.fn lib119 mixed TT_ok Tryz.func165 (by decide +kernel) (by kernel_rfl) true noL (loops_of 0 (by kernel_rfl) below0) ks165 (F := A165) (fun us => rfl) (fun us => run165 _ _ _ _) (fun t => rfl)
noncomputable def F_skirmishref02_Len2 (zF zG : Int) : Option (Int) := Option.bind (F_skirmishref02_Dot zF zG zF zG) fun t => some t
noncomputable def enc116 (t : Int) : CR := ⟨true, (i64 t), [], []⟩
noncomputable def ks116 : List SK := [.agg [.int .i64, .int .i64]]
noncomputable def A116 (us : List AVal) := F_skirmishref02_Len2 (aI us 0 0) (aI us 0 1)
noncomputable def S116 (us : List AVal) : Call := bif chkA ks116 us then Call.of (A116 us) enc116 else Call.none
noncomputable def C116 := AI.ext 116 S116 C165
theorem run116 (zF zG : Int) : fcall TT TU GL0 C165 ownF true noL Tryz.f116 [(.agg [(i64 zF), (i64 zG)])] = (F_skirmishref02_Len2 zF zG).bind fun t => some (enc116 t) :=
 Eq.trans (by kernel_rfl) (nb fun t => rfl)
theorem lib116 : Lib Tryz.prog GL0 C116 :=
 Lib.fn lib165 mixed TT_ok Tryz.func116 (by decide +kernel) (by kernel_rfl) true noL (loops_of 0 (by kernel_rfl) below0) ks116 (F := A116) (fun us => rfl) (fun us => run116 _ _) (fun t => rfl)
noncomputable def F_skirmishref19_Overlap (zaE zaB zaZ zab zac zaG zaH zay zaC za0 zah zai zaI zaJ : Int) : Option (Bool) := bif (!((zaB == (3 : Int)) == (zaC == (3 : Int)))) then some false else Option.bind (F_skirmishref01_Clamp zaZ (0 : Int) (1048576 : Int)) fun t => Option.bind (F_skirmishref01_Clamp za0 (0 : Int) (1048576 : Int)) fun t1 => Option.bind (F_skirmishref02_Sub zab zac zah zai) fun t2 => Option.bind (F_skirmishref02_Len2 t2.1 t2.2) fun t3 => some (decide (t3 < (wr ((wr (t + t1)) * (wr (t + t1))))))
noncomputable def enc158 (t : Bool) : CR := ⟨true, (bo t), [], []⟩
noncomputable def ks158 : List SK := [.agg [.int .i64, .int .i64, .int .i64, .int .i64, .int .i64, .int .i64, .int .i64], .agg [.int .i64, .int .i64, .int .i64, .int .i64, .int .i64, .int .i64, .int .i64]]
noncomputable def A158 (us : List AVal) := F_skirmishref19_Overlap (aI us 0 0) (aI us 0 1) (aI us 0 2) (aI us 0 3) (aI us 0 4) (aI us 0 5) (aI us 0 6) (aI us 1 0) (aI us 1 1) (aI us 1 2) (aI us 1 3) (aI us 1 4) (aI us 1 5) (aI us 1 6)
noncomputable def S158 (us : List AVal) : Call := bif chkA ks158 us then Call.of (A158 us) enc158 else Call.none
noncomputable def C158 := AI.ext 158 S158 C116
theorem run158 (zaE zaB zaZ zab zac zaG zaH zay zaC za0 zah zai zaI zaJ : Int) : fcall TT TU GL0 C116 ownF true noL Tryz.f158 [(.agg [(i64 zaE), (i64 zaB), (i64 zaZ), (i64 zab), (i64 zac), (i64 zaG), (i64 zaH)]), (.agg [(i64 zay), (i64 zaC), (i64 za0), (i64 zah), (i64 zai), (i64 zaI), (i64 zaJ)])] = (F_skirmishref19_Overlap zaE zaB zaZ zab zac zaG zaH zay zaC za0 zah zai zaI zaJ).bind fun t => some (enc158 t) :=
 Eq.trans (by kernel_rfl) (nd rfl rfl (nb fun t => (nb fun t1 => (nb fun t2 => (nb fun t3 => rfl)))))
theorem lib158 : Lib Tryz.prog GL0 C158 :=
 Lib.fn lib116 mixed TT_ok Tryz.func158 (by decide +kernel) (by kernel_rfl) true noL (loops_of 0 (by kernel_rfl) below0) ks158 (F := A158) (fun us => rfl) (fun us => run158 _ _ _ _ _ _ _ _ _ _ _ _ _ _) (fun t => rfl)
noncomputable def W103_0 : Ex → List Bool
 | .ret => (false :: false :: true :: (e4 (e16 [false, false])))
 | .exit n => bif Nat.beq n 0 then (e4 (e4 (e16 [false]))) else []
 | .normal => []
noncomputable def W103_1 : Ex → List Bool
 | .ret => (false :: false :: true :: (e4 (e16 [false, false])))
 | .exit n => bif Nat.beq n 2 then (true :: false :: false :: true :: (e4 (e16 [false]))) else bif Nat.beq n 1 then (true :: false :: false :: true :: (e4 (e16 [false]))) else bif Nat.beq n 0 then (e4 (e4 (e16 [false]))) else []
 | .normal => []
noncomputable def G_skirmishref19_Separated_1 (l : LL) (i : Int) : Nat → Int → Option (Bool)
 | 0, _ => none
 | m + 1, k1 => bif (decide (k1 < i)) then bif (decide ((0 : Int) ≤ i)) then Option.bind (l[i.toNat]?) fun r => bif (chk y8 r) then bif (decide ((0 : Int) ≤ k1)) then Option.bind (l[k1.toNat]?) fun r1 => bif (chk y8 r1) then Option.bind (F_skirmishref19_Overlap (cI r 0) (cI r 1) (cI r 2) (cI r 3) (cI r 4) (cI r 5) (cI r 6) (cI r1 0) (cI r1 1) (cI r1 2) (cI r1 3) (cI r1 4) (cI r1 5) (cI r1 6)) fun t => bif t then some true else
 G_skirmishref19_Separated_1 l i m (wr (k1 + (1 : Int))) else none else none else none else none else some false
noncomputable def E103_1 (l : LL) (i k1 : Int) : St := ⟨((.ro 7 l) :: .dead :: .dead :: (i64 i) :: (i64 k1) :: (d4 (d16 []))), []⟩
noncomputable def X103_1 (l : LL) (i : Int) (k : Ex → St → Option CR) (t : Bool) : Option CR := bif t then k .ret ⟨(.dead :: .dead :: (bo false) :: (d4 (d16 [.dead, .dead]))), []⟩ else k (.exit 2) ⟨((.ro 7 l) :: .dead :: .dead :: (i64 i) :: (d4 (d16 [.dead]))), []⟩
noncomputable def ks103_1 : List SK := (.f (.ro 7) :: .f .dead :: .f .dead :: .f (.int .i64) :: .f (.int .i64) :: (f4 (f16 [])))
noncomputable def hs103_1 : List HK := []
noncomputable def Lm103_1 (s : St) (k : Ex → St → Option CR) : Option CR := bif chkS ks103_1 hs103_1 s then (G_skirmishref19_Separated_1 (sR s 0) (sI s 3) FU (sI s 4)).bind (X103_1 (sR s 0) (sI s 3) k) else none
noncomputable def L103_1 (s : St) (k : Ex → St → Option CR) : Option CR := Lm103_1 (maskS (maskOf ks103_1) s) k
noncomputable def G_skirmishref19_Separated_0 (l : LL) : Nat → Int → Option (Bool)
 | 0, _ => none
 | m + 1, i => bif (decide (i < (Int.ofNat l.length))) then Option.bind (G_skirmishref19_Separated_1 l i FU (0 : Int)) fun t => bif t then some true else
 G_skirmishref19_Separated_0 l m (wr (i + (1 : Int))) else some false
noncomputable def E103_0 (l : LL) (i : Int) : St := ⟨((.ro 7 l) :: .dead :: .dead :: (i64 i) :: (d4 (d16 [.dead]))), []⟩
noncomputable def X103_0 (k : Ex → St → Option CR) (t : Bool) : Option CR := bif t then k .ret ⟨(.dead :: .dead :: (bo false) :: (d4 (d16 [.dead, .dead]))), []⟩ else k (.exit 0) ⟨(d4 (d4 (d16 [.dead]))), []⟩
noncomputable def ks103_0 : List SK := (.f (.ro 7) :: .f .dead :: .f .dead :: .f (.int .i64) :: (f4 (f16 [.f .dead])))
noncomputable def hs103_0 : List HK := []
noncomputable def Lm103_0 (s : St) (k : Ex → St → Option CR) : Option CR := bif chkS ks103_0 hs103_0 s then (G_skirmishref19_Separated_0 (sR s 0) FU (sI s 3)).bind (X103_0 k) else none
noncomputable def L103_0 (s : St) (k : Ex → St → Option CR) : Option CR := Lm103_0 (maskS (maskOf ks103_0) s) k
noncomputable def L103 : LT' := fun i s k => bif Nat.beq i 0 then L103_0 s k else bif Nat.beq i 2 then L103_1 s k else none
noncomputable def F_skirmishref19_Separated (l : LL) : Option (Bool) := Option.bind (G_skirmishref19_Separated_0 l FU (0 : Int)) fun t => bif t then some false else some true
noncomputable def enc103 (t : Bool) : CR := ⟨true, (bo t), [], []⟩
noncomputable def ks103 : List SK := [.f (.ro 7)]
noncomputable def A103 (us : List AVal) := F_skirmishref19_Separated (roRows (cIa us 0))
noncomputable def S103 (us : List AVal) : Call := bif chkA ks103 us then Call.of (A103 us) enc103 else Call.none
noncomputable def C103 := AI.ext 103 S103 C158
@[reducible] noncomputable def B103_1 := bodyOf TT TU GL0 C158 ownF L103 (lp Tryz.f103 1)
@[reducible] noncomputable def K103_1 (k : Ex → St → Option CR) : Ex → St → Option CR := fun e s => k e (maskS (W103_1 e) s)
theorem spec103_1 (k : Ex → St → Option CR) : ∀ (m : Nat) (l : LL) (i k1 : Int), loopN B103_1 m (E103_1 l i k1) (K103_1 k) = (G_skirmishref19_Separated_1 l i m k1).bind (X103_1 l i k)
 | 0, _, _, _ => rfl
 | m + 1, l, i, k1 =>
 Eq.trans (by kernel_rfl) (nd rfl (nd rfl (nb fun r => (nd rfl (nd rfl (nb fun r1 => (nd rfl (nb fun t => (nd rfl rfl (spec103_1 k m l i (wr (k1 + (1 : Int)))))) rfl)) rfl) rfl)) rfl) rfl)
theorem okL103_1 : LoopOk TT TU GL0 C158 ownF L103 (lp Tryz.f103 1) :=
 loopOk_of ks103_1 hs103_1 W103_1 FU _ (fun s k => by kernel_rfl) (fun s k => spec103_1 k FU (sR s 0) (sI s 3) (sI s 4))
@[reducible] noncomputable def B103_0 := bodyOf TT TU GL0 C158 ownF L103 (lp Tryz.f103 0)
@[reducible] noncomputable def K103_0 (k : Ex → St → Option CR) : Ex → St → Option CR := fun e s => k e (maskS (W103_0 e) s)
theorem spec103_0 (k : Ex → St → Option CR) : ∀ (m : Nat) (l : LL) (i : Int), loopN B103_0 m (E103_0 l i) (K103_0 k) = (G_skirmishref19_Separated_0 l m i).bind (X103_0 k)
 | 0, _, _ => rfl
 | m + 1, l, i =>
 Eq.trans (by kernel_rfl) (nd rfl (nb fun t => (nd rfl rfl (spec103_0 k m l (wr (i + (1 : Int)))))) rfl)
theorem okL103_0 : LoopOk TT TU GL0 C158 ownF L103 (lp Tryz.f103 0) :=
 loopOk_of ks103_0 hs103_0 W103_0 FU _ (fun s k => by kernel_rfl) (fun s k => spec103_0 k FU (sR s 0) (sI s 3))
theorem run103 (l : LL) : fcall TT TU GL0 C158 ownF true L103 Tryz.f103 [(.ro 7 l)] = (F_skirmishref19_Separated l).bind fun t => some (enc103 t) :=
 Eq.trans (by kernel_rfl) (nb fun t => (nd rfl rfl rfl))
theorem lib103 : Lib Tryz.prog GL0 C103 :=
 Lib.fn lib158 mixed TT_ok Tryz.func103 (by decide +kernel) (by kernel_rfl) true L103 (loops_of 2 (by kernel_rfl) (belowS (belowS below0 okL103_0) okL103_1)) ks103 (F := A103) (fun us => rfl) (fun us => run103 _) (fun t => rfl)
noncomputable def W47_0 : Ex → List Bool
 | .ret => (false :: false :: true :: (e4 (e4 (e4 (e16 (e16 (e16 [false, false])))))))
 | .exit n => bif Nat.beq n 0 then (false :: true :: (e4 (e4 (e4 (e16 (e16 (e16 [false, false, false]))))))) else []
 | .normal => []
noncomputable def G_skirmishref21_Validate_0 (b0_0 b0_1 b0_2 : Int) (b0_3 : Bool) (b0_4 : Int) (b0_5 b0_6 b0_7 : LL) (b0_8 b0_9 : Int) (b0_10 b0_11 b0_12 b0_13 b0_14 b0_15 : LL) : Nat → Int → Option (Bool)
 | 0, _ => none
 | m + 1, i => bif (decide (i < (Int.ofNat b0_12.length))) then bif (decide ((0 : Int) ≤ i)) then Option.bind (b0_12[i.toNat]?) fun r => bif (chk y6 r) then Option.bind (F_skirmishref21_named b0_0 b0_1 b0_2 b0_3 b0_4 b0_5 b0_6 b0_7 b0_8 b0_9 b0_10 b0_11 b0_12 b0_13 b0_14 b0_15 (cI r 0) (cI r 1) (cS r 2) (cI r 3) (cI r 4) (cI r 5) (cI r 6) (cI r 7) (cI r 8) (cI r 9) (roRows (AVal.ro 5 (cR r 10))) (roRows (AVal.ro 3 (cR r 11)))) fun t => bif (!t) then some true else
 G_skirmishref21_Validate_0 b0_0 b0_1 b0_2 b0_3 b0_4 b0_5 b0_6 b0_7 b0_8 b0_9 b0_10 b0_11 b0_12 b0_13 b0_14 b0_15 m (wr (i + (1 : Int))) else none else none else some false
noncomputable def E47_0 (i b0_0 b0_1 b0_2 : Int) (b0_3 : Bool) (b0_4 : Int) (b0_5 b0_6 b0_7 : LL) (b0_8 b0_9 : Int) (b0_10 b0_11 b0_12 b0_13 b0_14 b0_15 : LL) : St := ⟨(.dead :: (.ref 16000 1 0 0) :: .dead :: (i64 i) :: (d4 (d4 (d4 (d16 (d16 (d16 [.dead]))))))), [(16000, ⟨.box, 37, 16, [[(i64 b0_0), (i64 b0_1), (i64 b0_2), (bo b0_3), (.sc (.int .u64 b0_4)), (.ro 19 b0_5), (.ro 6 b0_6), (.ro 8 b0_7), (i64 b0_8), (i64 b0_9), (.ro 3 b0_10), (.ro 6 b0_11), (.ro 12 b0_12), (.ro 9 b0_13), (.ro 3 b0_14), (.ro 4 b0_15)]]⟩)]⟩
noncomputable def X47_0 (b0_0 b0_1 b0_2 : Int) (b0_3 : Bool) (b0_4 : Int) (b0_5 b0_6 b0_7 : LL) (b0_8 b0_9 : Int) (b0_10 b0_11 b0_12 b0_13 b0_14 b0_15 : LL) (k : Ex → St → Option CR) (t : Bool) : Option CR := bif t then k .ret ⟨(.dead :: .dead :: (.sc (.int .i64 (8 : Int))) :: (d4 (d4 (d4 (d16 (d16 (d16 [.dead, .dead]))))))), []⟩ else k (.exit 0) ⟨(.dead :: (.ref 16000 1 0 0) :: (d4 (d4 (d4 (d16 (d16 (d16 [.dead, .dead, .dead]))))))), [(16000, ⟨.box, 37, 16, [[(i64 b0_0), (i64 b0_1), (i64 b0_2), (bo b0_3), (.sc (.int .u64 b0_4)), (.ro 19 b0_5), (.ro 6 b0_6), (.ro 8 b0_7), (i64 b0_8), (i64 b0_9), (.ro 3 b0_10), (.ro 6 b0_11), (.ro 12 b0_12), (.ro 9 b0_13), (.ro 3 b0_14), (.ro 4 b0_15)]]⟩)]⟩
noncomputable def ks47_0 : List SK := (.f .dead :: .f (.ref 16000 1 0 0) :: .f .dead :: .f (.int .i64) :: (f4 (f4 (f4 (f16 (f16 (f16 [.f .dead])))))))
noncomputable def hs47_0 : List HK := [⟨16000, .box, 37, 16, some [.int .i64, .int .i64, .int .i64, .bool, .int .u64, .ro 19, .ro 6, .ro 8, .int .i64, .int .i64, .ro 3, .ro 6, .ro 12, .ro 9, .ro 3, .ro 4]⟩]
noncomputable def Lm47_0 (s : St) (k : Ex → St → Option CR) : Option CR := bif chkS ks47_0 hs47_0 s then (G_skirmishref21_Validate_0 (aIh s 0 0) (aIh s 0 1) (aIh s 0 2) (aBh s 0 3) (aIh s 0 4) (aRh s 0 5) (aRh s 0 6) (aRh s 0 7) (aIh s 0 8) (aIh s 0 9) (aRh s 0 10) (aRh s 0 11) (aRh s 0 12) (aRh s 0 13) (aRh s 0 14) (aRh s 0 15) FU (sI s 3)).bind (X47_0 (aIh s 0 0) (aIh s 0 1) (aIh s 0 2) (aBh s 0 3) (aIh s 0 4) (aRh s 0 5) (aRh s 0 6) (aRh s 0 7) (aIh s 0 8) (aIh s 0 9) (aRh s 0 10) (aRh s 0 11) (aRh s 0 12) (aRh s 0 13) (aRh s 0 14) (aRh s 0 15) k) else none
noncomputable def L47_0 (s : St) (k : Ex → St → Option CR) : Option CR := Lm47_0 (maskS (maskOf ks47_0) s) k
noncomputable def W47_1 : Ex → List Bool
 | .ret => (false :: false :: true :: (e4 (e4 (e4 (e16 (e16 (e16 [false, false])))))))
 | .exit n => bif Nat.beq n 2 then (false :: true :: (e4 (e4 (e4 (e16 (e16 (e16 [false, false, false]))))))) else []
 | .normal => []
noncomputable def G_skirmishref21_Validate_1 (b0_0 b0_1 b0_2 : Int) (b0_3 : Bool) (b0_4 : Int) (b0_5 b0_6 b0_7 : LL) (b0_8 b0_9 : Int) (b0_10 b0_11 b0_12 b0_13 b0_14 b0_15 : LL) : Nat → Int → Option (Bool)
 | 0, _ => none
 | m + 1, i => bif (decide (i < (Int.ofNat b0_12.length))) then bif (decide ((0 : Int) ≤ i)) then Option.bind (b0_12[i.toNat]?) fun r => bif (chk y6 r) then Option.bind (F_skirmishref21_placed b0_0 b0_1 b0_2 b0_3 b0_4 b0_5 b0_6 b0_7 b0_8 b0_9 b0_10 b0_11 b0_12 b0_13 b0_14 b0_15 (cI r 0) (cI r 1) (cS r 2) (cI r 3) (cI r 4) (cI r 5) (cI r 6) (cI r 7) (cI r 8) (cI r 9) (roRows (AVal.ro 5 (cR r 10))) (roRows (AVal.ro 3 (cR r 11)))) fun t => bif (!t) then some true else
 G_skirmishref21_Validate_1 b0_0 b0_1 b0_2 b0_3 b0_4 b0_5 b0_6 b0_7 b0_8 b0_9 b0_10 b0_11 b0_12 b0_13 b0_14 b0_15 m (wr (i + (1 : Int))) else none else none else some false
noncomputable def E47_1 (i b0_0 b0_1 b0_2 : Int) (b0_3 : Bool) (b0_4 : Int) (b0_5 b0_6 b0_7 : LL) (b0_8 b0_9 : Int) (b0_10 b0_11 b0_12 b0_13 b0_14 b0_15 : LL) : St := ⟨(.dead :: (.ref 16000 1 0 0) :: .dead :: .dead :: (i64 i) :: (d4 (d4 (d4 (d16 (d16 (d16 []))))))), [(16000, ⟨.box, 37, 16, [[(i64 b0_0), (i64 b0_1), (i64 b0_2), (bo b0_3), (.sc (.int .u64 b0_4)), (.ro 19 b0_5), (.ro 6 b0_6), (.ro 8 b0_7), (i64 b0_8), (i64 b0_9), (.ro 3 b0_10), (.ro 6 b0_11), (.ro 12 b0_12), (.ro 9 b0_13), (.ro 3 b0_14), (.ro 4 b0_15)]]⟩)]⟩
noncomputable def X47_1 (b0_0 b0_1 b0_2 : Int) (b0_3 : Bool) (b0_4 : Int) (b0_5 b0_6 b0_7 : LL) (b0_8 b0_9 : Int) (b0_10 b0_11 b0_12 b0_13 b0_14 b0_15 : LL) (k : Ex → St → Option CR) (t : Bool) : Option CR := bif t then k .ret ⟨(.dead :: .dead :: (.sc (.int .i64 (9 : Int))) :: (d4 (d4 (d4 (d16 (d16 (d16 [.dead, .dead]))))))), []⟩ else k (.exit 2) ⟨(.dead :: (.ref 16000 1 0 0) :: (d4 (d4 (d4 (d16 (d16 (d16 [.dead, .dead, .dead]))))))), [(16000, ⟨.box, 37, 16, [[(i64 b0_0), (i64 b0_1), (i64 b0_2), (bo b0_3), (.sc (.int .u64 b0_4)), (.ro 19 b0_5), (.ro 6 b0_6), (.ro 8 b0_7), (i64 b0_8), (i64 b0_9), (.ro 3 b0_10), (.ro 6 b0_11), (.ro 12 b0_12), (.ro 9 b0_13), (.ro 3 b0_14), (.ro 4 b0_15)]]⟩)]⟩
noncomputable def ks47_1 : List SK := (.f .dead :: .f (.ref 16000 1 0 0) :: .f .dead :: .f .dead :: .f (.int .i64) :: (f4 (f4 (f4 (f16 (f16 (f16 [])))))))
noncomputable def hs47_1 : List HK := [⟨16000, .box, 37, 16, some [.int .i64, .int .i64, .int .i64, .bool, .int .u64, .ro 19, .ro 6, .ro 8, .int .i64, .int .i64, .ro 3, .ro 6, .ro 12, .ro 9, .ro 3, .ro 4]⟩]
noncomputable def Lm47_1 (s : St) (k : Ex → St → Option CR) : Option CR := bif chkS ks47_1 hs47_1 s then (G_skirmishref21_Validate_1 (aIh s 0 0) (aIh s 0 1) (aIh s 0 2) (aBh s 0 3) (aIh s 0 4) (aRh s 0 5) (aRh s 0 6) (aRh s 0 7) (aIh s 0 8) (aIh s 0 9) (aRh s 0 10) (aRh s 0 11) (aRh s 0 12) (aRh s 0 13) (aRh s 0 14) (aRh s 0 15) FU (sI s 4)).bind (X47_1 (aIh s 0 0) (aIh s 0 1) (aIh s 0 2) (aBh s 0 3) (aIh s 0 4) (aRh s 0 5) (aRh s 0 6) (aRh s 0 7) (aIh s 0 8) (aIh s 0 9) (aRh s 0 10) (aRh s 0 11) (aRh s 0 12) (aRh s 0 13) (aRh s 0 14) (aRh s 0 15) k) else none
noncomputable def L47_1 (s : St) (k : Ex → St → Option CR) : Option CR := Lm47_1 (maskS (maskOf ks47_1) s) k
noncomputable def W47_2 : Ex → List Bool
 | .ret => (false :: false :: true :: (e4 (e4 (e4 (e16 (e16 (e16 [false, false])))))))
 | .exit n => bif Nat.beq n 4 then (false :: true :: (e4 (e4 (e4 (e16 (e16 (e16 [false, false, false]))))))) else []
 | .normal => []
noncomputable def G_skirmishref21_Validate_2 (b0_0 b0_1 b0_2 : Int) (b0_3 : Bool) (b0_4 : Int) (b0_5 b0_6 b0_7 : LL) (b0_8 b0_9 : Int) (b0_10 b0_11 b0_12 b0_13 b0_14 b0_15 : LL) : Nat → Int → Option (Bool)
 | 0, _ => none
 | m + 1, i => bif (decide (i < (Int.ofNat b0_12.length))) then bif (decide ((0 : Int) ≤ i)) then Option.bind (b0_12[i.toNat]?) fun r => bif (chk y6 r) then Option.bind (F_skirmishref21_proper b0_0 b0_1 b0_2 b0_3 b0_4 b0_5 b0_6 b0_7 b0_8 b0_9 b0_10 b0_11 b0_12 b0_13 b0_14 b0_15 (cI r 0) (cI r 1) (cS r 2) (cI r 3) (cI r 4) (cI r 5) (cI r 6) (cI r 7) (cI r 8) (cI r 9) (roRows (AVal.ro 5 (cR r 10))) (roRows (AVal.ro 3 (cR r 11)))) fun t => bif (!t) then some true else
 G_skirmishref21_Validate_2 b0_0 b0_1 b0_2 b0_3 b0_4 b0_5 b0_6 b0_7 b0_8 b0_9 b0_10 b0_11 b0_12 b0_13 b0_14 b0_15 m (wr (i + (1 : Int))) else none else none else some false
noncomputable def E47_2 (i b0_0 b0_1 b0_2 : Int) (b0_3 : Bool) (b0_4 : Int) (b0_5 b0_6 b0_7 : LL) (b0_8 b0_9 : Int) (b0_10 b0_11 b0_12 b0_13 b0_14 b0_15 : LL) : St := ⟨(.dead :: (.ref 16000 1 0 0) :: .dead :: .dead :: .dead :: (i64 i) :: (d4 (d4 (d16 (d16 (d16 [.dead, .dead, .dead])))))), [(16000, ⟨.box, 37, 16, [[(i64 b0_0), (i64 b0_1), (i64 b0_2), (bo b0_3), (.sc (.int .u64 b0_4)), (.ro 19 b0_5), (.ro 6 b0_6), (.ro 8 b0_7), (i64 b0_8), (i64 b0_9), (.ro 3 b0_10), (.ro 6 b0_11), (.ro 12 b0_12), (.ro 9 b0_13), (.ro 3 b0_14), (.ro 4 b0_15)]]⟩)]⟩
noncomputable def X47_2 (b0_0 b0_1 b0_2 : Int) (b0_3 : Bool) (b0_4 : Int) (b0_5 b0_6 b0_7 : LL) (b0_8 b0_9 : Int) (b0_10 b0_11 b0_12 b0_13 b0_14 b0_15 : LL) (k : Ex → St → Option CR) (t : Bool) : Option CR := bif t then k .ret ⟨(.dead :: .dead :: (.sc (.int .i64 (23 : Int))) :: (d4 (d4 (d4 (d16 (d16 (d16 [.dead, .dead]))))))), []⟩ else k (.exit 4) ⟨(.dead :: (.ref 16000 1 0 0) :: (d4 (d4 (d4 (d16 (d16 (d16 [.dead, .dead, .dead]))))))), [(16000, ⟨.box, 37, 16, [[(i64 b0_0), (i64 b0_1), (i64 b0_2), (bo b0_3), (.sc (.int .u64 b0_4)), (.ro 19 b0_5), (.ro 6 b0_6), (.ro 8 b0_7), (i64 b0_8), (i64 b0_9), (.ro 3 b0_10), (.ro 6 b0_11), (.ro 12 b0_12), (.ro 9 b0_13), (.ro 3 b0_14), (.ro 4 b0_15)]]⟩)]⟩
noncomputable def ks47_2 : List SK := (.f .dead :: .f (.ref 16000 1 0 0) :: .f .dead :: .f .dead :: .f .dead :: .f (.int .i64) :: (f4 (f4 (f16 (f16 (f16 [.f .dead, .f .dead, .f .dead]))))))
noncomputable def hs47_2 : List HK := [⟨16000, .box, 37, 16, some [.int .i64, .int .i64, .int .i64, .bool, .int .u64, .ro 19, .ro 6, .ro 8, .int .i64, .int .i64, .ro 3, .ro 6, .ro 12, .ro 9, .ro 3, .ro 4]⟩]
noncomputable def Lm47_2 (s : St) (k : Ex → St → Option CR) : Option CR := bif chkS ks47_2 hs47_2 s then (G_skirmishref21_Validate_2 (aIh s 0 0) (aIh s 0 1) (aIh s 0 2) (aBh s 0 3) (aIh s 0 4) (aRh s 0 5) (aRh s 0 6) (aRh s 0 7) (aIh s 0 8) (aIh s 0 9) (aRh s 0 10) (aRh s 0 11) (aRh s 0 12) (aRh s 0 13) (aRh s 0 14) (aRh s 0 15) FU (sI s 5)).bind (X47_2 (aIh s 0 0) (aIh s 0 1) (aIh s 0 2) (aBh s 0 3) (aIh s 0 4) (aRh s 0 5) (aRh s 0 6) (aRh s 0 7) (aIh s 0 8) (aIh s 0 9) (aRh s 0 10) (aRh s 0 11) (aRh s 0 12) (aRh s 0 13) (aRh s 0 14) (aRh s 0 15) k) else none
noncomputable def L47_2 (s : St) (k : Ex → St → Option CR) : Option CR := Lm47_2 (maskS (maskOf ks47_2) s) k
noncomputable def L47 : LT' := fun i s k => bif Nat.beq i 0 then L47_0 s k else bif Nat.beq i 2 then L47_1 s k else bif Nat.beq i 4 then L47_2 s k else none
noncomputable def F_skirmishref21_Validate (zr zk zm : Int) (zl : Bool) (zs : Int) (ze zc zd : LL) (zj zi : Int) (zf zb za zo zg zh : LL) : Option (Int) := bif (decide ((Int.ofNat za.length) > (64 : Int))) then some (2 : Int) else Option.bind (F_skirmishref21_formed zr zk zm zl zs ze zc zd zj zi zf zb za zo zg zh) fun t => bif (!t) then some (1 : Int) else Option.bind (G_skirmishref21_Validate_0 zr zk zm zl zs ze zc zd zj zi zf zb za zo zg zh FU (0 : Int)) fun t1 => bif t1 then some (8 : Int) else Option.bind (G_skirmishref21_Validate_1 zr zk zm zl zs ze zc zd zj zi zf zb za zo zg zh FU (0 : Int)) fun t2 => bif t2 then some (9 : Int) else Option.bind (G_skirmishref21_Validate_2 zr zk zm zl zs ze zc zd zj zi zf zb za zo zg zh FU (0 : Int)) fun t3 => bif t3 then some (23 : Int) else Option.bind (F_skirmishref21_Bodies ze zc zd za) fun t4 => Option.bind (F_skirmishref19_Separated t4) fun t5 => bif (!t5) then some (23 : Int) else some (0 : Int)
noncomputable def enc47 (t : Int) : CR := ⟨true, (i64 t), [], []⟩
noncomputable def ks47 : List SK := [.agg [.int .i64, .int .i64, .int .i64, .bool, .int .u64, .ro 19, .ro 6, .ro 8, .int .i64, .int .i64, .ro 3, .ro 6, .ro 12, .ro 9, .ro 3, .ro 4]]
noncomputable def A47 (us : List AVal) := F_skirmishref21_Validate (aI us 0 0) (aI us 0 1) (aI us 0 2) (aB us 0 3) (aI us 0 4) (aR us 0 5) (aR us 0 6) (aR us 0 7) (aI us 0 8) (aI us 0 9) (aR us 0 10) (aR us 0 11) (aR us 0 12) (aR us 0 13) (aR us 0 14) (aR us 0 15)
noncomputable def S47 (us : List AVal) : Call := bif chkA ks47 us then Call.of (A47 us) enc47 else Call.none
noncomputable def C47 := AI.ext 47 S47 C103
@[reducible] noncomputable def B47_0 := bodyOf TT TU GL0 C103 ownF L47 (lp Tryz.f47 0)
@[reducible] noncomputable def K47_0 (k : Ex → St → Option CR) : Ex → St → Option CR := fun e s => k e (maskS (W47_0 e) s)
theorem spec47_0 (k : Ex → St → Option CR) : ∀ (m : Nat) (i b0_0 b0_1 b0_2 : Int) (b0_3 : Bool) (b0_4 : Int) (b0_5 b0_6 b0_7 : LL) (b0_8 b0_9 : Int) (b0_10 b0_11 b0_12 b0_13 b0_14 b0_15 : LL), loopN B47_0 m (E47_0 i b0_0 b0_1 b0_2 b0_3 b0_4 b0_5 b0_6 b0_7 b0_8 b0_9 b0_10 b0_11 b0_12 b0_13 b0_14 b0_15) (K47_0 k) = (G_skirmishref21_Validate_0 b0_0 b0_1 b0_2 b0_3 b0_4 b0_5 b0_6 b0_7 b0_8 b0_9 b0_10 b0_11 b0_12 b0_13 b0_14 b0_15 m i).bind (X47_0 b0_0 b0_1 b0_2 b0_3 b0_4 b0_5 b0_6 b0_7 b0_8 b0_9 b0_10 b0_11 b0_12 b0_13 b0_14 b0_15 k)
 | 0, _, _, _, _, _, _, _, _, _, _, _, _, _, _, _, _, _ => rfl
 | m + 1, i, b0_0, b0_1, b0_2, b0_3, b0_4, b0_5, b0_6, b0_7, b0_8, b0_9, b0_10, b0_11, b0_12, b0_13, b0_14, b0_15 =>
 Eq.trans (by kernel_rfl) (nd rfl (nd rfl (nb fun r => (nd rfl (nb fun t => (nd rfl rfl (spec47_0 k m (wr (i + (1 : Int))) b0_0 b0_1 b0_2 b0_3 b0_4 b0_5 b0_6 b0_7 b0_8 b0_9 b0_10 b0_11 b0_12 b0_13 b0_14 b0_15))) rfl)) rfl) rfl)
theorem okL47_0 : LoopOk TT TU GL0 C103 ownF L47 (lp Tryz.f47 0) :=
 loopOk_of ks47_0 hs47_0 W47_0 FU _ (fun s k => by kernel_rfl) (fun s k => spec47_0 k FU (sI s 3) (aIh s 0 0) (aIh s 0 1) (aIh s 0 2) (aBh s 0 3) (aIh s 0 4) (aRh s 0 5) (aRh s 0 6) (aRh s 0 7) (aIh s 0 8) (aIh s 0 9) (aRh s 0 10) (aRh s 0 11) (aRh s 0 12) (aRh s 0 13) (aRh s 0 14) (aRh s 0 15))
@[reducible] noncomputable def B47_1 := bodyOf TT TU GL0 C103 ownF L47 (lp Tryz.f47 1)
@[reducible] noncomputable def K47_1 (k : Ex → St → Option CR) : Ex → St → Option CR := fun e s => k e (maskS (W47_1 e) s)
theorem spec47_1 (k : Ex → St → Option CR) : ∀ (m : Nat) (i b0_0 b0_1 b0_2 : Int) (b0_3 : Bool) (b0_4 : Int) (b0_5 b0_6 b0_7 : LL) (b0_8 b0_9 : Int) (b0_10 b0_11 b0_12 b0_13 b0_14 b0_15 : LL), loopN B47_1 m (E47_1 i b0_0 b0_1 b0_2 b0_3 b0_4 b0_5 b0_6 b0_7 b0_8 b0_9 b0_10 b0_11 b0_12 b0_13 b0_14 b0_15) (K47_1 k) = (G_skirmishref21_Validate_1 b0_0 b0_1 b0_2 b0_3 b0_4 b0_5 b0_6 b0_7 b0_8 b0_9 b0_10 b0_11 b0_12 b0_13 b0_14 b0_15 m i).bind (X47_1 b0_0 b0_1 b0_2 b0_3 b0_4 b0_5 b0_6 b0_7 b0_8 b0_9 b0_10 b0_11 b0_12 b0_13 b0_14 b0_15 k)
 | 0, _, _, _, _, _, _, _, _, _, _, _, _, _, _, _, _, _ => rfl
 | m + 1, i, b0_0, b0_1, b0_2, b0_3, b0_4, b0_5, b0_6, b0_7, b0_8, b0_9, b0_10, b0_11, b0_12, b0_13, b0_14, b0_15 =>
 Eq.trans (by kernel_rfl) (nd rfl (nd rfl (nb fun r => (nd rfl (nb fun t => (nd rfl rfl (spec47_1 k m (wr (i + (1 : Int))) b0_0 b0_1 b0_2 b0_3 b0_4 b0_5 b0_6 b0_7 b0_8 b0_9 b0_10 b0_11 b0_12 b0_13 b0_14 b0_15))) rfl)) rfl) rfl)
theorem okL47_1 : LoopOk TT TU GL0 C103 ownF L47 (lp Tryz.f47 1) :=
 loopOk_of ks47_1 hs47_1 W47_1 FU _ (fun s k => by kernel_rfl) (fun s k => spec47_1 k FU (sI s 4) (aIh s 0 0) (aIh s 0 1) (aIh s 0 2) (aBh s 0 3) (aIh s 0 4) (aRh s 0 5) (aRh s 0 6) (aRh s 0 7) (aIh s 0 8) (aIh s 0 9) (aRh s 0 10) (aRh s 0 11) (aRh s 0 12) (aRh s 0 13) (aRh s 0 14) (aRh s 0 15))
@[reducible] noncomputable def B47_2 := bodyOf TT TU GL0 C103 ownF L47 (lp Tryz.f47 2)
@[reducible] noncomputable def K47_2 (k : Ex → St → Option CR) : Ex → St → Option CR := fun e s => k e (maskS (W47_2 e) s)
theorem spec47_2 (k : Ex → St → Option CR) : ∀ (m : Nat) (i b0_0 b0_1 b0_2 : Int) (b0_3 : Bool) (b0_4 : Int) (b0_5 b0_6 b0_7 : LL) (b0_8 b0_9 : Int) (b0_10 b0_11 b0_12 b0_13 b0_14 b0_15 : LL), loopN B47_2 m (E47_2 i b0_0 b0_1 b0_2 b0_3 b0_4 b0_5 b0_6 b0_7 b0_8 b0_9 b0_10 b0_11 b0_12 b0_13 b0_14 b0_15) (K47_2 k) = (G_skirmishref21_Validate_2 b0_0 b0_1 b0_2 b0_3 b0_4 b0_5 b0_6 b0_7 b0_8 b0_9 b0_10 b0_11 b0_12 b0_13 b0_14 b0_15 m i).bind (X47_2 b0_0 b0_1 b0_2 b0_3 b0_4 b0_5 b0_6 b0_7 b0_8 b0_9 b0_10 b0_11 b0_12 b0_13 b0_14 b0_15 k)
 | 0, _, _, _, _, _, _, _, _, _, _, _, _, _, _, _, _, _ => rfl
 | m + 1, i, b0_0, b0_1, b0_2, b0_3, b0_4, b0_5, b0_6, b0_7, b0_8, b0_9, b0_10, b0_11, b0_12, b0_13, b0_14, b0_15 =>
 Eq.trans (by kernel_rfl) (nd rfl (nd rfl (nb fun r => (nd rfl (nb fun t => (nd rfl rfl (spec47_2 k m (wr (i + (1 : Int))) b0_0 b0_1 b0_2 b0_3 b0_4 b0_5 b0_6 b0_7 b0_8 b0_9 b0_10 b0_11 b0_12 b0_13 b0_14 b0_15))) rfl)) rfl) rfl)
theorem okL47_2 : LoopOk TT TU GL0 C103 ownF L47 (lp Tryz.f47 2) :=
 loopOk_of ks47_2 hs47_2 W47_2 FU _ (fun s k => by kernel_rfl) (fun s k => spec47_2 k FU (sI s 5) (aIh s 0 0) (aIh s 0 1) (aIh s 0 2) (aBh s 0 3) (aIh s 0 4) (aRh s 0 5) (aRh s 0 6) (aRh s 0 7) (aIh s 0 8) (aIh s 0 9) (aRh s 0 10) (aRh s 0 11) (aRh s 0 12) (aRh s 0 13) (aRh s 0 14) (aRh s 0 15))
theorem run47 (zr zk zm : Int) (zl : Bool) (zs : Int) (ze zc zd : LL) (zj zi : Int) (zf zb za zo zg zh : LL) : fcall TT TU GL0 C103 ownF true L47 Tryz.f47 [(.agg [(i64 zr), (i64 zk), (i64 zm), (bo zl), (.sc (.int .u64 zs)), (.ro 19 ze), (.ro 6 zc), (.ro 8 zd), (i64 zj), (i64 zi), (.ro 3 zf), (.ro 6 zb), (.ro 12 za), (.ro 9 zo), (.ro 3 zg), (.ro 4 zh)])] = (F_skirmishref21_Validate zr zk zm zl zs ze zc zd zj zi zf zb za zo zg zh).bind fun t => some (enc47 t) :=
 Eq.trans (by kernel_rfl) (nd rfl rfl (nb fun t => (nd rfl rfl (nb fun t1 => (nd rfl rfl (nb fun t2 => (nd rfl rfl (nb fun t3 => (nd rfl rfl (nb fun t4 => (nu (show ((((true && (verEq t4.length t4.length)) && true) && true) && true) = true from (n_andL (n_andL (n_andL (n_andL rfl (verEq_rfl _)) rfl) rfl) rfl)) (nu (vr t4) (nb fun t5 => (nd rfl rfl rfl))))))))))))))
theorem lib47 : Lib Tryz.prog GL0 C47 :=
 Lib.fn lib103 mixed TT_ok Tryz.func47 (by decide +kernel) (by kernel_rfl) true L47 (loops_of 3 (by kernel_rfl) (belowS (belowS (belowS below0 okL47_0) okL47_1) okL47_2)) ks47 (F := A47) (fun us => rfl) (fun us => run47 _ _ _ _ _ _ _ _ _ _ _ _ _ _ _ _) (fun t => rfl)
noncomputable def W22_0 : Ex → List Bool
 | .ret => (false :: false :: true :: (e4 (e4 (e4 (e64 [false, false, false])))))
 | .exit n => bif Nat.beq n 0 then (e16 (e64 [false, false])) else []
 | .normal => []
noncomputable def G_skirmishref22_Sound_0 (b0_11 : LL) : Nat → Int → Option (Bool)
 | 0, _ => none
 | m + 1, i => bif (decide (i < (Int.ofNat b0_11.length))) then bif (decide ((0 : Int) ≤ i)) then Option.bind (b0_11[i.toNat]?) fun r => bif (chk y7 r) then bif (decide ((cI r 0) < (1 : Int))) then some true else bif (decide ((cI r 0) > (6 : Int))) then some true else bif (decide (i > (0 : Int))) then bif (decide ((0 : Int) ≤ (wr (i - (1 : Int))))) then Option.bind (b0_11[(wr (i - (1 : Int))).toNat]?) fun r1 => bif (chk y7 r1) then bif (decide ((cI r 0) ≤ (cI r1 0))) then some true else bif (decide ((cI r 2) < (0 : Int))) then some true else bif (decide ((cI r 2) > (1000000 : Int))) then some true else bif (decide ((cI r 3) < (0 : Int))) then some true else bif (decide ((cI r 3) > (1000000 : Int))) then some true else
 G_skirmishref22_Sound_0 b0_11 m (wr (i + (1 : Int))) else none else none else bif (decide ((cI r 2) < (0 : Int))) then some true else bif (decide ((cI r 2) > (1000000 : Int))) then some true else bif (decide ((cI r 3) < (0 : Int))) then some true else bif (decide ((cI r 3) > (1000000 : Int))) then some true else
 G_skirmishref22_Sound_0 b0_11 m (wr (i + (1 : Int))) else none else none else some false
noncomputable def E22_0 (i b0_0 b0_1 b0_2 : Int) (b0_3 : Bool) (b0_4 : Int) (b0_5 b0_6 b0_7 : LL) (b0_8 b0_9 : Int) (b0_10 b0_11 b0_12 b0_13 b0_14 b0_15 : LL) : St := ⟨(.dead :: (.ref 16000 1 0 0) :: .dead :: (i64 i) :: (d4 (d4 (d4 (d64 [.dead, .dead]))))), [(16000, ⟨.box, 37, 16, [[(i64 b0_0), (i64 b0_1), (i64 b0_2), (bo b0_3), (.sc (.int .u64 b0_4)), (.ro 19 b0_5), (.ro 6 b0_6), (.ro 8 b0_7), (i64 b0_8), (i64 b0_9), (.ro 3 b0_10), (.ro 6 b0_11), (.ro 12 b0_12), (.ro 9 b0_13), (.ro 3 b0_14), (.ro 4 b0_15)]]⟩)]⟩
noncomputable def X22_0 (k : Ex → St → Option CR) (t : Bool) : Option CR := bif t then k .ret ⟨(.dead :: .dead :: (bo false) :: (d4 (d4 (d4 (d64 [.dead, .dead, .dead]))))), []⟩ else k (.exit 0) ⟨(d16 (d64 [.dead, .dead])), []⟩
noncomputable def ks22_0 : List SK := (.f .dead :: .f (.ref 16000 1 0 0) :: .f .dead :: .f (.int .i64) :: (f4 (f4 (f4 (f64 [.f .dead, .f .dead])))))
noncomputable def hs22_0 : List HK := [⟨16000, .box, 37, 16, some [.int .i64, .int .i64, .int .i64, .bool, .int .u64, .ro 19, .ro 6, .ro 8, .int .i64, .int .i64, .ro 3, .ro 6, .ro 12, .ro 9, .ro 3, .ro 4]⟩]
noncomputable def Lm22_0 (s : St) (k : Ex → St → Option CR) : Option CR := bif chkS ks22_0 hs22_0 s then (G_skirmishref22_Sound_0 (aRh s 0 11) FU (sI s 3)).bind (X22_0 k) else none
noncomputable def L22_0 (s : St) (k : Ex → St → Option CR) : Option CR := Lm22_0 (maskS (maskOf ks22_0) s) k
noncomputable def L22 : LT' := fun i s k => bif Nat.beq i 0 then L22_0 s k else none
noncomputable def F_skirmishref22_Sound (zr zk zm : Int) (zl : Bool) (zs : Int) (ze zc zd : LL) (zj zi : Int) (zf zb za zo zg zh : LL) : Option (Bool) := Option.bind (F_skirmishref09_Validate ze zc zd) fun t => bif (t != (0 : Int)) then some false else Option.bind (F_skirmishref07_Valid zj zi zf) fun t1 => bif (!t1) then some false else bif (decide ((Int.ofNat zb.length) > (6 : Int))) then some false else Option.bind (F_skirmishref21_Validate zr zk zm zl zs ze zc zd zj zi zf zb za zo zg zh) fun t2 => bif (t2 != (0 : Int)) then some false else Option.bind (G_skirmishref22_Sound_0 zb FU (0 : Int)) fun t3 => bif t3 then some false else some true
noncomputable def enc22 (t : Bool) : CR := ⟨true, (bo t), [], []⟩
noncomputable def ks22 : List SK := [.agg [.int .i64, .int .i64, .int .i64, .bool, .int .u64, .ro 19, .ro 6, .ro 8, .int .i64, .int .i64, .ro 3, .ro 6, .ro 12, .ro 9, .ro 3, .ro 4]]
noncomputable def A22 (us : List AVal) := F_skirmishref22_Sound (aI us 0 0) (aI us 0 1) (aI us 0 2) (aB us 0 3) (aI us 0 4) (aR us 0 5) (aR us 0 6) (aR us 0 7) (aI us 0 8) (aI us 0 9) (aR us 0 10) (aR us 0 11) (aR us 0 12) (aR us 0 13) (aR us 0 14) (aR us 0 15)
noncomputable def S22 (us : List AVal) : Call := bif chkA ks22 us then Call.of (A22 us) enc22 else Call.none
noncomputable def C22 := AI.ext 22 S22 C47
@[reducible] noncomputable def B22_0 := bodyOf TT TU GL0 C47 ownF L22 (lp Tryz.f22 0)
@[reducible] noncomputable def K22_0 (k : Ex → St → Option CR) : Ex → St → Option CR := fun e s => k e (maskS (W22_0 e) s)
theorem spec22_0 (k : Ex → St → Option CR) : ∀ (m : Nat) (i b0_0 b0_1 b0_2 : Int) (b0_3 : Bool) (b0_4 : Int) (b0_5 b0_6 b0_7 : LL) (b0_8 b0_9 : Int) (b0_10 b0_11 b0_12 b0_13 b0_14 b0_15 : LL), loopN B22_0 m (E22_0 i b0_0 b0_1 b0_2 b0_3 b0_4 b0_5 b0_6 b0_7 b0_8 b0_9 b0_10 b0_11 b0_12 b0_13 b0_14 b0_15) (K22_0 k) = (G_skirmishref22_Sound_0 b0_11 m i).bind (X22_0 k)
 | 0, _, _, _, _, _, _, _, _, _, _, _, _, _, _, _, _, _ => rfl
 | m + 1, i, b0_0, b0_1, b0_2, b0_3, b0_4, b0_5, b0_6, b0_7, b0_8, b0_9, b0_10, b0_11, b0_12, b0_13, b0_14, b0_15 =>
 Eq.trans (by kernel_rfl) (nd rfl (nd rfl (nb fun r => (nd rfl (nd rfl rfl (nd rfl rfl (nd rfl (nd rfl (nb fun r1 => (nd rfl (nd rfl rfl (nd rfl rfl (nd rfl rfl (nd rfl rfl (nd rfl rfl (spec22_0 k m (wr (i + (1 : Int))) b0_0 b0_1 b0_2 b0_3 b0_4 b0_5 b0_6 b0_7 b0_8 b0_9 b0_10 b0_11 b0_12 b0_13 b0_14 b0_15)))))) rfl)) rfl) (nd rfl rfl (nd rfl rfl (nd rfl rfl (nd rfl rfl (spec22_0 k m (wr (i + (1 : Int))) b0_0 b0_1 b0_2 b0_3 b0_4 b0_5 b0_6 b0_7 b0_8 b0_9 b0_10 b0_11 b0_12 b0_13 b0_14 b0_15)))))))) rfl)) rfl) rfl)
theorem okL22_0 : LoopOk TT TU GL0 C47 ownF L22 (lp Tryz.f22 0) :=
 loopOk_of ks22_0 hs22_0 W22_0 FU _ (fun s k => by kernel_rfl) (fun s k => spec22_0 k FU (sI s 3) (aIh s 0 0) (aIh s 0 1) (aIh s 0 2) (aBh s 0 3) (aIh s 0 4) (aRh s 0 5) (aRh s 0 6) (aRh s 0 7) (aIh s 0 8) (aIh s 0 9) (aRh s 0 10) (aRh s 0 11) (aRh s 0 12) (aRh s 0 13) (aRh s 0 14) (aRh s 0 15))
theorem run22 (zr zk zm : Int) (zl : Bool) (zs : Int) (ze zc zd : LL) (zj zi : Int) (zf zb za zo zg zh : LL) : fcall TT TU GL0 C47 ownF true L22 Tryz.f22 [(.agg [(i64 zr), (i64 zk), (i64 zm), (bo zl), (.sc (.int .u64 zs)), (.ro 19 ze), (.ro 6 zc), (.ro 8 zd), (i64 zj), (i64 zi), (.ro 3 zf), (.ro 6 zb), (.ro 12 za), (.ro 9 zo), (.ro 3 zg), (.ro 4 zh)])] = (F_skirmishref22_Sound zr zk zm zl zs ze zc zd zj zi zf zb za zo zg zh).bind fun t => some (enc22 t) :=
 Eq.trans (by kernel_rfl) (nb fun t => (nd rfl rfl (nb fun t1 => (nd rfl rfl (nd rfl rfl (nb fun t2 => (nd rfl rfl (nb fun t3 => (nd rfl rfl rfl)))))))))
theorem lib22 : Lib Tryz.prog GL0 C22 :=
 Lib.fn lib47 mixed TT_ok Tryz.func22 (by decide +kernel) (by kernel_rfl) true L22 (loops_of 1 (by kernel_rfl) (belowS below0 okL22_0)) ks22 (F := A22) (fun us => rfl) (fun us => run22 _ _ _ _ _ _ _ _ _ _ _ _ _ _ _ _) (fun t => rfl)
noncomputable def W8_0 : Ex → List Bool
 | .ret => (false :: false :: true :: (e4 (e4 (e4 (e16 (e64 [false]))))))
 | .exit n => bif Nat.beq n 0 then (false :: true :: (e4 (e4 (e4 (e16 (e64 [false, false])))))) else []
 | .normal => []
noncomputable def G_skirmishlaw22_Small_0 (b0_11 : LL) : Nat → Int → Option (Bool)
 | 0, _ => none
 | m + 1, i => bif (decide (i < (Int.ofNat b0_11.length))) then bif (decide ((0 : Int) ≤ i)) then Option.bind (b0_11[i.toNat]?) fun r => bif (chk y7 r) then bif (decide ((Int.ofNat (cR r 4).length) > (40 : Int))) then some true else Option.bind (b0_11[i.toNat]?) fun r1 => bif (chk y7 r1) then Option.bind (F_skirmishlaw22_huge (roRows (AVal.ro 1 (cR r1 4)))) fun t => bif t then some true else
 G_skirmishlaw22_Small_0 b0_11 m (wr (i + (1 : Int))) else none else none else none else some false
noncomputable def E8_0 (i b0_0 b0_1 b0_2 : Int) (b0_3 : Bool) (b0_4 : Int) (b0_5 b0_6 b0_7 : LL) (b0_8 b0_9 : Int) (b0_10 b0_11 b0_12 b0_13 b0_14 b0_15 : LL) : St := ⟨(.dead :: (.ref 16000 1 0 0) :: .dead :: (i64 i) :: (d4 (d4 (d4 (d16 (d64 [])))))), [(16000, ⟨.box, 37, 16, [[(i64 b0_0), (i64 b0_1), (i64 b0_2), (bo b0_3), (.sc (.int .u64 b0_4)), (.ro 19 b0_5), (.ro 6 b0_6), (.ro 8 b0_7), (i64 b0_8), (i64 b0_9), (.ro 3 b0_10), (.ro 6 b0_11), (.ro 12 b0_12), (.ro 9 b0_13), (.ro 3 b0_14), (.ro 4 b0_15)]]⟩)]⟩
noncomputable def X8_0 (b0_0 b0_1 b0_2 : Int) (b0_3 : Bool) (b0_4 : Int) (b0_5 b0_6 b0_7 : LL) (b0_8 b0_9 : Int) (b0_10 b0_11 b0_12 b0_13 b0_14 b0_15 : LL) (k : Ex → St → Option CR) (t : Bool) : Option CR := bif t then k .ret ⟨(.dead :: .dead :: (bo false) :: (d4 (d4 (d4 (d16 (d64 [.dead])))))), []⟩ else k (.exit 0) ⟨(.dead :: (.ref 16000 1 0 0) :: (d4 (d4 (d4 (d16 (d64 [.dead, .dead])))))), [(16000, ⟨.box, 37, 16, [[(i64 b0_0), (i64 b0_1), (i64 b0_2), (bo b0_3), (.sc (.int .u64 b0_4)), (.ro 19 b0_5), (.ro 6 b0_6), (.ro 8 b0_7), (i64 b0_8), (i64 b0_9), (.ro 3 b0_10), (.ro 6 b0_11), (.ro 12 b0_12), (.ro 9 b0_13), (.ro 3 b0_14), (.ro 4 b0_15)]]⟩)]⟩
noncomputable def ks8_0 : List SK := (.f .dead :: .f (.ref 16000 1 0 0) :: .f .dead :: .f (.int .i64) :: (f4 (f4 (f4 (f16 (f64 []))))))
noncomputable def hs8_0 : List HK := [⟨16000, .box, 37, 16, some [.int .i64, .int .i64, .int .i64, .bool, .int .u64, .ro 19, .ro 6, .ro 8, .int .i64, .int .i64, .ro 3, .ro 6, .ro 12, .ro 9, .ro 3, .ro 4]⟩]
noncomputable def Lm8_0 (s : St) (k : Ex → St → Option CR) : Option CR := bif chkS ks8_0 hs8_0 s then (G_skirmishlaw22_Small_0 (aRh s 0 11) FU (sI s 3)).bind (X8_0 (aIh s 0 0) (aIh s 0 1) (aIh s 0 2) (aBh s 0 3) (aIh s 0 4) (aRh s 0 5) (aRh s 0 6) (aRh s 0 7) (aIh s 0 8) (aIh s 0 9) (aRh s 0 10) (aRh s 0 11) (aRh s 0 12) (aRh s 0 13) (aRh s 0 14) (aRh s 0 15) k) else none
noncomputable def L8_0 (s : St) (k : Ex → St → Option CR) : Option CR := Lm8_0 (maskS (maskOf ks8_0) s) k
noncomputable def W8_1 : Ex → List Bool
 | .ret => (false :: false :: true :: (e4 (e4 (e4 (e16 (e64 [false]))))))
 | .exit n => bif Nat.beq n 2 then (false :: true :: (e4 (e4 (e4 (e16 (e64 [false, false])))))) else []
 | .normal => []
noncomputable def G_skirmishlaw22_Small_1 (b0_12 : LL) : Nat → Int → Option (Bool)
 | 0, _ => none
 | m + 1, i => bif (decide (i < (Int.ofNat b0_12.length))) then bif (decide ((0 : Int) ≤ i)) then Option.bind (b0_12[i.toNat]?) fun r => bif (chk y6 r) then bif (decide ((Int.ofNat (cR r 10).length) > (20 : Int))) then some true else Option.bind (b0_12[i.toNat]?) fun r1 => bif (chk y6 r1) then bif (decide ((Int.ofNat (cR r1 11).length) > (20 : Int))) then some true else
 G_skirmishlaw22_Small_1 b0_12 m (wr (i + (1 : Int))) else none else none else none else some false
noncomputable def E8_1 (i b0_0 b0_1 b0_2 : Int) (b0_3 : Bool) (b0_4 : Int) (b0_5 b0_6 b0_7 : LL) (b0_8 b0_9 : Int) (b0_10 b0_11 b0_12 b0_13 b0_14 b0_15 : LL) : St := ⟨(.dead :: (.ref 16000 1 0 0) :: .dead :: .dead :: (i64 i) :: (d4 (d4 (d16 (d64 [.dead, .dead, .dead]))))), [(16000, ⟨.box, 37, 16, [[(i64 b0_0), (i64 b0_1), (i64 b0_2), (bo b0_3), (.sc (.int .u64 b0_4)), (.ro 19 b0_5), (.ro 6 b0_6), (.ro 8 b0_7), (i64 b0_8), (i64 b0_9), (.ro 3 b0_10), (.ro 6 b0_11), (.ro 12 b0_12), (.ro 9 b0_13), (.ro 3 b0_14), (.ro 4 b0_15)]]⟩)]⟩
noncomputable def X8_1 (b0_0 b0_1 b0_2 : Int) (b0_3 : Bool) (b0_4 : Int) (b0_5 b0_6 b0_7 : LL) (b0_8 b0_9 : Int) (b0_10 b0_11 b0_12 b0_13 b0_14 b0_15 : LL) (k : Ex → St → Option CR) (t : Bool) : Option CR := bif t then k .ret ⟨(.dead :: .dead :: (bo false) :: (d4 (d4 (d4 (d16 (d64 [.dead])))))), []⟩ else k (.exit 2) ⟨(.dead :: (.ref 16000 1 0 0) :: (d4 (d4 (d4 (d16 (d64 [.dead, .dead])))))), [(16000, ⟨.box, 37, 16, [[(i64 b0_0), (i64 b0_1), (i64 b0_2), (bo b0_3), (.sc (.int .u64 b0_4)), (.ro 19 b0_5), (.ro 6 b0_6), (.ro 8 b0_7), (i64 b0_8), (i64 b0_9), (.ro 3 b0_10), (.ro 6 b0_11), (.ro 12 b0_12), (.ro 9 b0_13), (.ro 3 b0_14), (.ro 4 b0_15)]]⟩)]⟩
noncomputable def ks8_1 : List SK := (.f .dead :: .f (.ref 16000 1 0 0) :: .f .dead :: .f .dead :: .f (.int .i64) :: (f4 (f4 (f16 (f64 [.f .dead, .f .dead, .f .dead])))))
noncomputable def hs8_1 : List HK := [⟨16000, .box, 37, 16, some [.int .i64, .int .i64, .int .i64, .bool, .int .u64, .ro 19, .ro 6, .ro 8, .int .i64, .int .i64, .ro 3, .ro 6, .ro 12, .ro 9, .ro 3, .ro 4]⟩]
noncomputable def Lm8_1 (s : St) (k : Ex → St → Option CR) : Option CR := bif chkS ks8_1 hs8_1 s then (G_skirmishlaw22_Small_1 (aRh s 0 12) FU (sI s 4)).bind (X8_1 (aIh s 0 0) (aIh s 0 1) (aIh s 0 2) (aBh s 0 3) (aIh s 0 4) (aRh s 0 5) (aRh s 0 6) (aRh s 0 7) (aIh s 0 8) (aIh s 0 9) (aRh s 0 10) (aRh s 0 11) (aRh s 0 12) (aRh s 0 13) (aRh s 0 14) (aRh s 0 15) k) else none
noncomputable def L8_1 (s : St) (k : Ex → St → Option CR) : Option CR := Lm8_1 (maskS (maskOf ks8_1) s) k
noncomputable def L8 : LT' := fun i s k => bif Nat.beq i 0 then L8_0 s k else bif Nat.beq i 2 then L8_1 s k else none
noncomputable def F_skirmishlaw22_Small (zr zk zm : Int) (zl : Bool) (zs : Int) (ze zc zd : LL) (zj zi : Int) (zf zb za zo zg zh : LL) : Option (Bool) := bif (decide ((Int.ofNat zf.length) > (400 : Int))) then some false else bif (decide ((Int.ofNat za.length) > (24 : Int))) then some false else bif (decide ((Int.ofNat zb.length) > (6 : Int))) then some false else bif (decide ((Int.ofNat zo.length) > (100 : Int))) then some false else bif (decide ((Int.ofNat zg.length) > (20 : Int))) then some false else bif (decide ((Int.ofNat zh.length) > (20 : Int))) then some false else Option.bind (F_skirmishlaw10_Huge ze zc zd) fun t => bif t then some false else Option.bind (G_skirmishlaw22_Small_0 zb FU (0 : Int)) fun t1 => bif t1 then some false else Option.bind (G_skirmishlaw22_Small_1 za FU (0 : Int)) fun t2 => bif t2 then some false else Option.bind (F_skirmishref22_Sound zr zk zm zl zs ze zc zd zj zi zf zb za zo zg zh) fun t3 => some t3
noncomputable def enc8 (t : Bool) : CR := ⟨true, (bo t), [], []⟩
noncomputable def ks8 : List SK := [.agg [.int .i64, .int .i64, .int .i64, .bool, .int .u64, .ro 19, .ro 6, .ro 8, .int .i64, .int .i64, .ro 3, .ro 6, .ro 12, .ro 9, .ro 3, .ro 4]]
noncomputable def A8 (us : List AVal) := F_skirmishlaw22_Small (aI us 0 0) (aI us 0 1) (aI us 0 2) (aB us 0 3) (aI us 0 4) (aR us 0 5) (aR us 0 6) (aR us 0 7) (aI us 0 8) (aI us 0 9) (aR us 0 10) (aR us 0 11) (aR us 0 12) (aR us 0 13) (aR us 0 14) (aR us 0 15)
noncomputable def S8 (us : List AVal) : Call := bif chkA ks8 us then Call.of (A8 us) enc8 else Call.none
noncomputable def C8 := AI.ext 8 S8 C22
@[reducible] noncomputable def B8_0 := bodyOf TT TU GL0 C22 ownF L8 (lp Tryz.f8 0)
@[reducible] noncomputable def K8_0 (k : Ex → St → Option CR) : Ex → St → Option CR := fun e s => k e (maskS (W8_0 e) s)
theorem spec8_0 (k : Ex → St → Option CR) : ∀ (m : Nat) (i b0_0 b0_1 b0_2 : Int) (b0_3 : Bool) (b0_4 : Int) (b0_5 b0_6 b0_7 : LL) (b0_8 b0_9 : Int) (b0_10 b0_11 b0_12 b0_13 b0_14 b0_15 : LL), loopN B8_0 m (E8_0 i b0_0 b0_1 b0_2 b0_3 b0_4 b0_5 b0_6 b0_7 b0_8 b0_9 b0_10 b0_11 b0_12 b0_13 b0_14 b0_15) (K8_0 k) = (G_skirmishlaw22_Small_0 b0_11 m i).bind (X8_0 b0_0 b0_1 b0_2 b0_3 b0_4 b0_5 b0_6 b0_7 b0_8 b0_9 b0_10 b0_11 b0_12 b0_13 b0_14 b0_15 k)
 | 0, _, _, _, _, _, _, _, _, _, _, _, _, _, _, _, _, _ => rfl
 | m + 1, i, b0_0, b0_1, b0_2, b0_3, b0_4, b0_5, b0_6, b0_7, b0_8, b0_9, b0_10, b0_11, b0_12, b0_13, b0_14, b0_15 =>
 Eq.trans (by kernel_rfl) (nd rfl (nc rfl (fun h1 => (nb fun r => (nd rfl (nd rfl rfl (nu h1 (nb fun r1 => (nd rfl (nb fun t => (nd rfl rfl (spec8_0 k m (wr (i + (1 : Int))) b0_0 b0_1 b0_2 b0_3 b0_4 b0_5 b0_6 b0_7 b0_8 b0_9 b0_10 b0_11 b0_12 b0_13 b0_14 b0_15))) rfl)))) rfl))) fun h1 => rfl) rfl)
theorem okL8_0 : LoopOk TT TU GL0 C22 ownF L8 (lp Tryz.f8 0) :=
 loopOk_of ks8_0 hs8_0 W8_0 FU _ (fun s k => by kernel_rfl) (fun s k => spec8_0 k FU (sI s 3) (aIh s 0 0) (aIh s 0 1) (aIh s 0 2) (aBh s 0 3) (aIh s 0 4) (aRh s 0 5) (aRh s 0 6) (aRh s 0 7) (aIh s 0 8) (aIh s 0 9) (aRh s 0 10) (aRh s 0 11) (aRh s 0 12) (aRh s 0 13) (aRh s 0 14) (aRh s 0 15))
@[reducible] noncomputable def B8_1 := bodyOf TT TU GL0 C22 ownF L8 (lp Tryz.f8 1)
@[reducible] noncomputable def K8_1 (k : Ex → St → Option CR) : Ex → St → Option CR := fun e s => k e (maskS (W8_1 e) s)
theorem spec8_1 (k : Ex → St → Option CR) : ∀ (m : Nat) (i b0_0 b0_1 b0_2 : Int) (b0_3 : Bool) (b0_4 : Int) (b0_5 b0_6 b0_7 : LL) (b0_8 b0_9 : Int) (b0_10 b0_11 b0_12 b0_13 b0_14 b0_15 : LL), loopN B8_1 m (E8_1 i b0_0 b0_1 b0_2 b0_3 b0_4 b0_5 b0_6 b0_7 b0_8 b0_9 b0_10 b0_11 b0_12 b0_13 b0_14 b0_15) (K8_1 k) = (G_skirmishlaw22_Small_1 b0_12 m i).bind (X8_1 b0_0 b0_1 b0_2 b0_3 b0_4 b0_5 b0_6 b0_7 b0_8 b0_9 b0_10 b0_11 b0_12 b0_13 b0_14 b0_15 k)
 | 0, _, _, _, _, _, _, _, _, _, _, _, _, _, _, _, _, _ => rfl
 | m + 1, i, b0_0, b0_1, b0_2, b0_3, b0_4, b0_5, b0_6, b0_7, b0_8, b0_9, b0_10, b0_11, b0_12, b0_13, b0_14, b0_15 =>
 Eq.trans (by kernel_rfl) (nd rfl (nc rfl (fun h1 => (nb fun r => (nd rfl (nd rfl rfl (nu h1 (nb fun r1 => (nd rfl (nd rfl rfl (spec8_1 k m (wr (i + (1 : Int))) b0_0 b0_1 b0_2 b0_3 b0_4 b0_5 b0_6 b0_7 b0_8 b0_9 b0_10 b0_11 b0_12 b0_13 b0_14 b0_15)) rfl)))) rfl))) fun h1 => rfl) rfl)
theorem okL8_1 : LoopOk TT TU GL0 C22 ownF L8 (lp Tryz.f8 1) :=
 loopOk_of ks8_1 hs8_1 W8_1 FU _ (fun s k => by kernel_rfl) (fun s k => spec8_1 k FU (sI s 4) (aIh s 0 0) (aIh s 0 1) (aIh s 0 2) (aBh s 0 3) (aIh s 0 4) (aRh s 0 5) (aRh s 0 6) (aRh s 0 7) (aIh s 0 8) (aIh s 0 9) (aRh s 0 10) (aRh s 0 11) (aRh s 0 12) (aRh s 0 13) (aRh s 0 14) (aRh s 0 15))
theorem run8 (zr zk zm : Int) (zl : Bool) (zs : Int) (ze zc zd : LL) (zj zi : Int) (zf zb za zo zg zh : LL) : fcall TT TU GL0 C22 ownF true L8 Tryz.f8 [(.agg [(i64 zr), (i64 zk), (i64 zm), (bo zl), (.sc (.int .u64 zs)), (.ro 19 ze), (.ro 6 zc), (.ro 8 zd), (i64 zj), (i64 zi), (.ro 3 zf), (.ro 6 zb), (.ro 12 za), (.ro 9 zo), (.ro 3 zg), (.ro 4 zh)])] = (F_skirmishlaw22_Small zr zk zm zl zs ze zc zd zj zi zf zb za zo zg zh).bind fun t => some (enc8 t) :=
 Eq.trans (by kernel_rfl) (nd rfl rfl (nd rfl rfl (nd rfl rfl (nd rfl rfl (nd rfl rfl (nd rfl rfl (nb fun t => (nd rfl rfl (nb fun t1 => (nd rfl rfl (nb fun t2 => (nd rfl rfl (nb fun t3 => rfl)))))))))))))
theorem lib8 : Lib Tryz.prog GL0 C8 :=
 Lib.fn lib22 mixed TT_ok Tryz.func8 (by decide +kernel) (by kernel_rfl) true L8 (loops_of 2 (by kernel_rfl) (belowS (belowS below0 okL8_0) okL8_1)) ks8 (F := A8) (fun us => rfl) (fun us => run8 _ _ _ _ _ _ _ _ _ _ _ _ _ _ _ _) (fun t => rfl)
noncomputable def W48_0 : Ex → List Bool
 | .ret => (e4 (true :: (e16 [false, false, false])))
 | .exit n => bif Nat.beq n 0 then (e4 (true :: true :: (e16 [false, false]))) else []
 | .normal => []
noncomputable def G_skirmishlaw13_Flat_0 (w h : Int) : Nat → LL → Int → Option (LL)
 | 0, _, _ => none
 | m + 1, R2, i => bif (decide (i < (wr (w * h)))) then bif (roomOk (R2.length + 1) 24) then
 G_skirmishlaw13_Flat_0 w h m (R2 ++ [[(i64 (1 : Int)), (i64 (0 : Int)), (i64 (0 : Int))]]) (wr (i + (1 : Int))) else none else some R2
noncomputable def E48_0 (R0 R2 : LL) (w h i b1_0 b1_1 b3_0 b3_1 : Int) : St := ⟨((i64 w) :: (i64 h) :: .dead :: .dead :: (.ref 16000 1 0 0) :: (.ref 19248 1 0 0) :: (i64 i) :: (d16 [.dead])), [(16003, ⟨.arr, 54, 3, R0⟩), (16000, ⟨.box, 30, 3, [[(i64 b1_0), (i64 b1_1), (.slc 16003 (R0).length)]]⟩), (19234, ⟨.arr, 54, 3, R2⟩), (19248, ⟨.box, 30, 3, [[(i64 b3_0), (i64 b3_1), (.slc 19234 (R2).length)]]⟩)]⟩
noncomputable def X48_0 (R0 : LL) (b1_0 b1_1 b3_0 b3_1 : Int) (k : Ex → St → Option CR) (t : LL) : Option CR := k (.exit 0) ⟨(d4 ((.ref 16000 1 0 0) :: (.ref 19248 1 0 0) :: (d16 [.dead, .dead]))), [(16003, ⟨.arr, 54, 3, R0⟩), (16000, ⟨.box, 30, 3, [[(i64 b1_0), (i64 b1_1), (.slc 16003 (R0).length)]]⟩), (19234, ⟨.arr, 54, 3, t⟩), (19248, ⟨.box, 30, 3, [[(i64 b3_0), (i64 b3_1), (.slc 19234 (t).length)]]⟩)]⟩
noncomputable def ks48_0 : List SK := (.f (.int .i64) :: .f (.int .i64) :: .f .dead :: .f .dead :: .f (.ref 16000 1 0 0) :: .f (.ref 19248 1 0 0) :: .f (.int .i64) :: (f16 [.f .dead]))
noncomputable def hs48_0 : List HK := [⟨16003, .arr, 54, 3, none⟩, ⟨16000, .box, 30, 3, some [.int .i64, .int .i64, .slc 16003 0]⟩, ⟨19234, .arr, 54, 3, none⟩, ⟨19248, .box, 30, 3, some [.int .i64, .int .i64, .slc 19234 2]⟩]
noncomputable def Lm48_0 (s : St) (k : Ex → St → Option CR) : Option CR := bif chkS ks48_0 hs48_0 s then (G_skirmishlaw13_Flat_0 (sI s 0) (sI s 1) FU (blkAt s.heap 2).2.rows (sI s 6)).bind (X48_0 (blkAt s.heap 0).2.rows (aIh s 1 0) (aIh s 1 1) (aIh s 3 0) (aIh s 3 1) k) else none
noncomputable def L48_0 (s : St) (k : Ex → St → Option CR) : Option CR := Lm48_0 (maskS (maskOf ks48_0) s) k
noncomputable def L48 : LT' := fun i s k => bif Nat.beq i 0 then L48_0 s k else none
noncomputable def F_skirmishlaw13_Flat (w h : Int) : Option (LL × Int × Int) := Option.bind (G_skirmishlaw13_Flat_0 w h FU [] (0 : Int)) fun t => some (t, w, h)
noncomputable def enc48 (t : LL × Int × Int) : CR := ⟨true, (.agg [(.sc (.int .i64 t.2.1)), (.sc (.int .i64 t.2.2)), (.slc 0 (t.1).length)]), [], [⟨.arr, 54, 3, t.1⟩]⟩
noncomputable def ks48 : List SK := [.f (.int .i64), .f (.int .i64)]
noncomputable def A48 (us : List AVal) := F_skirmishlaw13_Flat (toI (cIa us 0)) (toI (cIa us 1))
noncomputable def S48 (us : List AVal) : Call := bif chkA ks48 us then Call.of (A48 us) enc48 else Call.none
noncomputable def C48 := AI.ext 48 S48 C8
@[reducible] noncomputable def B48_0 := bodyOf TT TU GL0 C8 ownE L48 (lp Tryz.f48 0)
@[reducible] noncomputable def K48_0 (k : Ex → St → Option CR) : Ex → St → Option CR := fun e s => k e (maskS (W48_0 e) s)
theorem spec48_0 (k : Ex → St → Option CR) : ∀ (m : Nat) (R0 R2 : LL) (w h i b1_0 b1_1 b3_0 b3_1 : Int), loopN B48_0 m (E48_0 R0 R2 w h i b1_0 b1_1 b3_0 b3_1) (K48_0 k) = (G_skirmishlaw13_Flat_0 w h m R2 i).bind (X48_0 R0 b1_0 b1_1 b3_0 b3_1 k)
 | 0, _, _, _, _, _, _, _, _, _ => rfl
 | m + 1, R0, R2, w, h, i, b1_0, b1_1, b3_0, b3_1 =>
 Eq.trans (by kernel_rfl) (nd rfl (nd (show ((((verEq R2.length R2.length) && true) && (roomOk (R2.length + 1) 24))) = _ from (n_andL (n_andL (verEq_rfl _) rfl) rfl)) (spec48_0 k m R0 (R2 ++ [[(i64 (1 : Int)), (i64 (0 : Int)), (i64 (0 : Int))]]) w h (wr (i + (1 : Int))) b1_0 b1_1 b3_0 b3_1) rfl) rfl)
theorem okL48_0 : LoopOk TT TU GL0 C8 ownE L48 (lp Tryz.f48 0) :=
 loopOk_of ks48_0 hs48_0 W48_0 FU _ (fun s k => by kernel_rfl) (fun s k => spec48_0 k FU (blkAt s.heap 0).2.rows (blkAt s.heap 2).2.rows (sI s 0) (sI s 1) (sI s 6) (aIh s 1 0) (aIh s 1 1) (aIh s 3 0) (aIh s 3 1))
theorem run48 (w h : Int) : fcall TT TU GL0 C8 ownE true L48 Tryz.f48 [(i64 w), (i64 h)] = (F_skirmishlaw13_Flat w h).bind fun t => some (enc48 t) :=
 Eq.trans (by kernel_rfl) (nb fun t => (nu (vr t) rfl))
theorem lib48 : Lib Tryz.prog GL0 C48 :=
 Lib.fn lib8 mixed TT_ok Tryz.func48 (by decide +kernel) (by kernel_rfl) true L48 (loops_of 1 (by kernel_rfl) (belowS below0 okL48_0)) ks48 (F := A48) (fun us => rfl) (fun us => run48 _ _) (fun t => rfl)
noncomputable def F_skirmishlaw28_Mine : Option (LL × LL × LL × LL × LL × LL × LL × LL × LL × Int × Int × Int × Bool × Int × Int × Int) := Option.bind (F_skirmishlaw13_Flat (4 : Int) (4 : Int)) fun t => bif (decide ((6 : Int) < (Int.ofNat t.1.length))) then some ([[(AVal.sc (Value.string (ByteArray.mk (Array.mk [98, 97, 115, 101])))), (bo true), (bo true), (i64 (0 : Int)), (i64 (2 : Int)), (i64 (2 : Int)), (i64 (0 : Int)), (i64 (0 : Int)), (i64 (4 : Int)), (i64 (90 : Int)), (i64 (0 : Int)), (i64 (0 : Int)), (AVal.sc (Value.string (ByteArray.mk (Array.mk [])))), (i64 (0 : Int)), (i64 (0 : Int)), (i64 (0 : Int)), (AVal.ro 0 []), (AVal.ro 1 [[(AVal.sc (Value.string (ByteArray.mk (Array.mk [119, 111, 114, 107, 101, 114]))))]]), (AVal.ro 0 [])], [(AVal.sc (Value.string (ByteArray.mk (Array.mk [119, 111, 114, 107, 101, 114])))), (bo false), (bo false), (i64 (1 : Int)), (i64 (0 : Int)), (i64 (0 : Int)), (i64 (40 : Int)), (i64 (90 : Int)), (i64 (4 : Int)), (i64 (20 : Int)), (i64 (0 : Int)), (i64 (12 : Int)), (AVal.sc (Value.string (ByteArray.mk (Array.mk [])))), (i64 (50 : Int)), (i64 (0 : Int)), (i64 (3 : Int)), (AVal.ro 0 []), (AVal.ro 0 []), (AVal.ro 0 [])]], [], [], (List.set t.1 (6 : Int).toNat [(i64 (5 : Int)), (i64 (0 : Int)), (i64 (9 : Int))]), [[(i64 (1 : Int)), (i64 (1 : Int)), (i64 (60 : Int)), (i64 (0 : Int)), (AVal.ro 0 []), (bo false)]], [[(i64 (1 : Int)), (i64 (1 : Int)), (AVal.sc (Value.string (ByteArray.mk (Array.mk [98, 97, 115, 101])))), (i64 (256 : Int)), (i64 (256 : Int)), (i64 (90 : Int)), (i64 (0 : Int)), (i64 (0 : Int)), (i64 (0 : Int)), (i64 (0 : Int)), (AVal.ro 0 []), (AVal.ro 0 [])], [(i64 (2 : Int)), (i64 (1 : Int)), (AVal.sc (Value.string (ByteArray.mk (Array.mk [119, 111, 114, 107, 101, 114])))), (i64 (640 : Int)), (i64 (128 : Int)), (i64 (20 : Int)), (i64 (0 : Int)), (i64 (0 : Int)), (i64 (10 : Int)), (i64 (0 : Int)), (AVal.ro 5 [[(i64 (3 : Int)), (i64 (640 : Int)), (i64 (384 : Int)), (i64 (0 : Int)), (AVal.sc (Value.string (ByteArray.mk (Array.mk []))))]]), (AVal.ro 0 [])]], [], [], [], (0 : Int), (3 : Int), (0 : Int), false, (0 : Int), t.2.1, t.2.2) else none
noncomputable def enc23 (t : LL × LL × LL × LL × LL × LL × LL × LL × LL × Int × Int × Int × Bool × Int × Int × Int) : CR := ⟨true, (.agg [(.sc (.int .i64 t.2.2.2.2.2.2.2.2.2.1)), (.sc (.int .i64 t.2.2.2.2.2.2.2.2.2.2.1)), (.sc (.int .i64 t.2.2.2.2.2.2.2.2.2.2.2.1)), (.sc (.bool t.2.2.2.2.2.2.2.2.2.2.2.2.1)), (.sc (.int .u64 t.2.2.2.2.2.2.2.2.2.2.2.2.2.1)), (.slc 0 (t.1).length), (.slc 1 (t.2.1).length), (.slc 2 (t.2.2.1).length), (.sc (.int .i64 t.2.2.2.2.2.2.2.2.2.2.2.2.2.2.1)), (.sc (.int .i64 t.2.2.2.2.2.2.2.2.2.2.2.2.2.2.2)), (.slc 3 (t.2.2.2.1).length), (.slc 4 (t.2.2.2.2.1).length), (.slc 5 (t.2.2.2.2.2.1).length), (.slc 6 (t.2.2.2.2.2.2.1).length), (.slc 7 (t.2.2.2.2.2.2.2.1).length), (.slc 8 (t.2.2.2.2.2.2.2.2.1).length)]), [], [⟨.arr, 65, 19, t.1⟩, ⟨.arr, 96, 6, t.2.1⟩, ⟨.arr, 98, 8, t.2.2.1⟩, ⟨.arr, 54, 3, t.2.2.2.1⟩, ⟨.arr, 70, 6, t.2.2.2.2.1⟩, ⟨.arr, 60, 12, t.2.2.2.2.2.1⟩, ⟨.arr, 75, 9, t.2.2.2.2.2.2.1⟩, ⟨.arr, 116, 3, t.2.2.2.2.2.2.2.1⟩, ⟨.arr, 125, 4, t.2.2.2.2.2.2.2.2.1⟩]⟩
noncomputable def ks23 : List SK := []
noncomputable def S23 (us : List AVal) : Call := bif chkA ks23 us then Call.of (F_skirmishlaw28_Mine) enc23 else Call.none
noncomputable def C23 := AI.ext 23 S23 C48
theorem run23 : fcall TT TU GL0 C48 ownF true noL Tryz.f23 [] = (F_skirmishlaw28_Mine).bind fun t => some (enc23 t) :=
 Eq.trans (by kernel_rfl) (nb fun t => (nu (show ((((true && (verEq t.1.length t.1.length)) && true) && true) && true) = true from (n_andL (n_andL (n_andL (n_andL rfl (verEq_rfl _)) rfl) rfl) rfl)) (nd (show ((((verEq t.1.length t.1.length) && (decide ((0 : Int) ≤ (6 : Int)))) && (decide ((6 : Int) < (Int.ofNat t.1.length))))) = _ from (n_andL (n_andL (verEq_rfl _) (by kernel_rfl)) rfl)) (nu (show ((((verEq t.1.length t.1.length) && true) && true) && true) = true from (n_andL (n_andL (n_andL (verEq_rfl _) rfl) rfl) rfl)) (nu (show (verEq (Blk.rows (Blk.mk BKind.arr 54 3 (List.set t.1 (6 : Int).toNat [(i64 (5 : Int)), (i64 (0 : Int)), (i64 (9 : Int))]))).length t.1.length) = true from (by first | exact verEq_of rfl | simp [verEq, blkLen, blkAt])) rfl)) rfl)))
theorem lib23 : Lib Tryz.prog GL0 C23 :=
 Lib.fn lib48 mixed TT_ok Tryz.func23 (by decide +kernel) (by kernel_rfl) true noL (loops_of 0 (by kernel_rfl) below0) ks23 (F := fun us => F_skirmishlaw28_Mine) (fun us => rfl) (fun us => run23) (fun t => rfl)
noncomputable def F_slices_Clone_Player_ne (s1 : LL) : Option (LL) := bif (List.isEmpty s1) then none else bif (roomOk (0 + s1.length) 64) then some s1 else none
noncomputable def F_slices_Clone_Player (s1 : LL) : Option (LL) := bif s1.isEmpty then some [] else F_slices_Clone_Player_ne s1
noncomputable def enc51 (t : LL) : CR := ⟨true, (.slc 0 (t).length), [], [⟨.arr, 70, 6, t⟩]⟩
noncomputable def S51 (us : List AVal) : Call := bif chkA [.f (.ro 6)] us then Call.of (F_slices_Clone_Player (roRows (cIa us 0))) enc51 else Call.none
noncomputable def C51 := AI.ext 51 S51 C23
theorem run51 (s1 : LL) : fcall TT TU GL0 C23 ownF true noL Tryz.f51 [(.ro 6 s1)] = (F_slices_Clone_Player_ne s1).bind fun t => some (enc51 t) :=
 Eq.trans (by kernel_rfl) (nd rfl rfl (nd rfl (nu (vr s1) rfl) rfl))
theorem lib51 : Lib Tryz.prog GL0 C51 :=
 Lib.clone lib23 mixed TT_ok Tryz.func51 (by decide +kernel) (by kernel_rfl) true noL (loops_of 0 (by kernel_rfl) below0)  6 (fun us => rfl) run51 (fun a cap => by cases a <;> kernel_rfl) (fun t => rfl)
noncomputable def F_slices_Clone_Entity_ne (s1 : LL) : Option (LL) := bif (List.isEmpty s1) then none else bif (roomOk (0 + s1.length) 136) then some s1 else none
noncomputable def F_slices_Clone_Entity (s1 : LL) : Option (LL) := bif s1.isEmpty then some [] else F_slices_Clone_Entity_ne s1
noncomputable def enc52 (t : LL) : CR := ⟨true, (.slc 0 (t).length), [], [⟨.arr, 60, 12, t⟩]⟩
noncomputable def S52 (us : List AVal) : Call := bif chkA [.f (.ro 12)] us then Call.of (F_slices_Clone_Entity (roRows (cIa us 0))) enc52 else Call.none
noncomputable def C52 := AI.ext 52 S52 C51
theorem run52 (s1 : LL) : fcall TT TU GL0 C51 ownF true noL Tryz.f52 [(.ro 12 s1)] = (F_slices_Clone_Entity_ne s1).bind fun t => some (enc52 t) :=
 Eq.trans (by kernel_rfl) (nd rfl rfl (nd rfl (nu (vr s1) rfl) rfl))
theorem lib52 : Lib Tryz.prog GL0 C52 :=
 Lib.clone lib51 mixed TT_ok Tryz.func52 (by decide +kernel) (by kernel_rfl) true noL (loops_of 0 (by kernel_rfl) below0)  12 (fun us => rfl) run52 (fun a cap => by cases a <;> kernel_rfl) (fun t => rfl)
noncomputable def F_economy_clone (zr zk zm : Int) (zl : Bool) (zs : Int) (ze zc zd : LL) (zj zi : Int) (zf zb za zo zg zh : LL) : Option (LL × LL × Int × Int × Int × Bool × Int × LL × LL × LL × Int × Int × LL × LL × LL × LL) := Option.bind (F_slices_Clone_Player zb) fun t => Option.bind (F_slices_Clone_Entity za) fun t1 => some (t, t1, zr, zk, zm, zl, zs, ze, zc, zd, zj, zi, zf, zo, zg, zh)
noncomputable def enc26 (t : LL × LL × Int × Int × Int × Bool × Int × LL × LL × LL × Int × Int × LL × LL × LL × LL) : CR := ⟨true, (.agg [(.sc (.int .i64 t.2.2.1)), (.sc (.int .i64 t.2.2.2.1)), (.sc (.int .i64 t.2.2.2.2.1)), (.sc (.bool t.2.2.2.2.2.1)), (.sc (.int .u64 t.2.2.2.2.2.2.1)), (.ro 19 t.2.2.2.2.2.2.2.1), (.ro 6 t.2.2.2.2.2.2.2.2.1), (.ro 8 t.2.2.2.2.2.2.2.2.2.1), (.sc (.int .i64 t.2.2.2.2.2.2.2.2.2.2.1)), (.sc (.int .i64 t.2.2.2.2.2.2.2.2.2.2.2.1)), (.ro 3 t.2.2.2.2.2.2.2.2.2.2.2.2.1), (.slc 0 (t.1).length), (.slc 1 (t.2.1).length), (.ro 9 t.2.2.2.2.2.2.2.2.2.2.2.2.2.1), (.ro 3 t.2.2.2.2.2.2.2.2.2.2.2.2.2.2.1), (.ro 4 t.2.2.2.2.2.2.2.2.2.2.2.2.2.2.2)]), [], [⟨.arr, 70, 6, t.1⟩, ⟨.arr, 60, 12, t.2.1⟩]⟩
noncomputable def ks26 : List SK := [.agg [.int .i64, .int .i64, .int .i64, .bool, .int .u64, .ro 19, .ro 6, .ro 8, .int .i64, .int .i64, .ro 3, .ro 6, .ro 12, .ro 9, .ro 3, .ro 4]]
noncomputable def A26 (us : List AVal) := F_economy_clone (aI us 0 0) (aI us 0 1) (aI us 0 2) (aB us 0 3) (aI us 0 4) (aR us 0 5) (aR us 0 6) (aR us 0 7) (aI us 0 8) (aI us 0 9) (aR us 0 10) (aR us 0 11) (aR us 0 12) (aR us 0 13) (aR us 0 14) (aR us 0 15)
noncomputable def S26 (us : List AVal) : Call := bif chkA ks26 us then Call.of (A26 us) enc26 else Call.none
noncomputable def C26 := AI.ext 26 S26 C52
theorem run26 (zr zk zm : Int) (zl : Bool) (zs : Int) (ze zc zd : LL) (zj zi : Int) (zf zb za zo zg zh : LL) : fcall TT TU GL0 C52 ownF true noL Tryz.f26 [(.agg [(i64 zr), (i64 zk), (i64 zm), (bo zl), (.sc (.int .u64 zs)), (.ro 19 ze), (.ro 6 zc), (.ro 8 zd), (i64 zj), (i64 zi), (.ro 3 zf), (.ro 6 zb), (.ro 12 za), (.ro 9 zo), (.ro 3 zg), (.ro 4 zh)])] = (F_economy_clone zr zk zm zl zs ze zc zd zj zi zf zb za zo zg zh).bind fun t => some (enc26 t) :=
 Eq.trans (by kernel_rfl) (nb fun t => (nu (show ((((true && (verEq t.length t.length)) && true) && true) && true) = true from (n_andL (n_andL (n_andL (n_andL rfl (verEq_rfl _)) rfl) rfl) rfl)) (nb fun t1 => (nu (show ((((true && (verEq t1.length t1.length)) && true) && true) && true) = true from (n_andL (n_andL (n_andL (n_andL rfl (verEq_rfl _)) rfl) rfl) rfl)) (nu (vr t) (nu (vr t1) rfl))))))
theorem lib26 : Lib Tryz.prog GL0 C26 :=
 Lib.fn lib52 mixed TT_ok Tryz.func26 (by decide +kernel) (by kernel_rfl) true noL (loops_of 0 (by kernel_rfl) below0) ks26 (F := A26) (fun us => rfl) (fun us => run26 _ _ _ _ _ _ _ _ _ _ _ _ _ _ _ _) (fun t => rfl)
noncomputable def F_rules_unitName (z3 : ByteArray) (zP zZ : Bool) (zW zam zal zT zX z0 zaa zY z2 : Int) (zV : ByteArray) (z6 z5 z4 : Int) (z1 zU zL : LL) : Option (ByteArray) := some z3
noncomputable def enc64 (t : ByteArray) : CR := ⟨true, (.sc (.string t)), [], []⟩
noncomputable def ks64 : List SK := [.agg [.str, .bool, .bool, .int .i64, .int .i64, .int .i64, .int .i64, .int .i64, .int .i64, .int .i64, .int .i64, .int .i64, .str, .int .i64, .int .i64, .int .i64, .ro 1, .ro 1, .ro 1]]
noncomputable def A64 (us : List AVal) := F_rules_unitName (aS us 0 0) (aB us 0 1) (aB us 0 2) (aI us 0 3) (aI us 0 4) (aI us 0 5) (aI us 0 6) (aI us 0 7) (aI us 0 8) (aI us 0 9) (aI us 0 10) (aI us 0 11) (aS us 0 12) (aI us 0 13) (aI us 0 14) (aI us 0 15) (aR us 0 16) (aR us 0 17) (aR us 0 18)
noncomputable def S64 (us : List AVal) : Call := bif chkA ks64 us then Call.of (A64 us) enc64 else Call.none
noncomputable def C64 := AI.ext 64 S64 C26
theorem run64 (z3 : ByteArray) (zP zZ : Bool) (zW zam zal zT zX z0 zaa zY z2 : Int) (zV : ByteArray) (z6 z5 z4 : Int) (z1 zU zL : LL) : fcall TT TU GL0 C26 ownF true noL Tryz.f64 [(.agg [(.sc (.string z3)), (bo zP), (bo zZ), (i64 zW), (i64 zam), (i64 zal), (i64 zT), (i64 zX), (i64 z0), (i64 zaa), (i64 zY), (i64 z2), (.sc (.string zV)), (i64 z6), (i64 z5), (i64 z4), (.ro 1 z1), (.ro 1 zU), (.ro 1 zL)])] = (F_rules_unitName z3 zP zZ zW zam zal zT zX z0 zaa zY z2 zV z6 z5 z4 z1 zU zL).bind fun t => some (enc64 t) :=
 Eq.trans (by kernel_rfl) rfl
theorem lib64 : Lib Tryz.prog GL0 C64 :=
 Lib.fn lib26 mixed TT_ok Tryz.func64 (by decide +kernel) (by kernel_rfl) true noL (loops_of 0 (by kernel_rfl) below0) ks64 (F := A64) (fun us => rfl) (fun us => run64 _ _ _ _ _ _ _ _ _ _ _ _ _ _ _ _ _ _ _) (fun t => rfl)
noncomputable def W63_0 : Ex → List Bool
 | .ret => (e4 (false :: false :: (true :: true :: (e16 [false]))))
 | .exit n => bif Nat.beq n 0 then (e4 (false :: false :: (true :: (e16 [false, false])))) else []
 | .normal => []
noncomputable def G_rules_find_UnitType_0 (want : ByteArray) (x11 : LL) (x12 : Int) : Nat → Int → Option (Bool × ByteArray × Bool × Bool × Int × Int × Int × Int × Int × Int × Int × Int × Int × ByteArray × Int × Int × Int × LL × LL × LL)
 | 0, _ => none
 | m + 1, x13 => bif (decide (x13 < x12)) then bif (decide ((0 : Int) ≤ x13)) then Option.bind (x11[x13.toNat]?) fun r => bif (chk y0 r) then Option.bind (F_rules_unitName (cS r 0) (cB r 1) (cB r 2) (cI r 3) (cI r 4) (cI r 5) (cI r 6) (cI r 7) (cI r 8) (cI r 9) (cI r 10) (cI r 11) (cS r 12) (cI r 13) (cI r 14) (cI r 15) (roRows (AVal.ro 1 (cR r 16))) (roRows (AVal.ro 1 (cR r 17))) (roRows (AVal.ro 1 (cR r 18)))) fun t => bif (List.beq (ByteArray.toList t) (ByteArray.toList want)) then some (true, (cS r 0), (cB r 1), (cB r 2), (cI r 3), (cI r 4), (cI r 5), (cI r 6), (cI r 7), (cI r 8), (cI r 9), (cI r 10), (cI r 11), (cS r 12), (cI r 13), (cI r 14), (cI r 15), (cR r 16), (cR r 17), (cR r 18)) else
 G_rules_find_UnitType_0 want x11 x12 m (wr (x13 + (1 : Int))) else none else none else some (false, ⟨#[]⟩, false, false, 0, 0, 0, 0, 0, 0, 0, 0, 0, ⟨#[]⟩, 0, 0, 0, [], [], [])
noncomputable def E63_0 (want : ByteArray) (x11 : LL) (x12 x13 : Int) (b0_0 : ByteArray) (b0_1 b0_2 : Bool) (b0_3 b0_4 b0_5 b0_6 b0_7 b0_8 b0_9 b0_10 b0_11 : Int) (b0_12 : ByteArray) (b0_13 b0_14 b0_15 : Int) : St := ⟨(.dead :: (.clo 64 []) :: (.sc (.string want)) :: .dead :: .dead :: .dead :: (.ref 16000 1 0 0) :: (d4 ((.ro 19 x11) :: (i64 x12) :: (i64 x13) :: (d4 (d4 [.dead, .dead, .dead]))))), [(16000, ⟨.box, 65, 19, [[(.sc (.string b0_0)), (bo b0_1), (bo b0_2), (i64 b0_3), (i64 b0_4), (i64 b0_5), (i64 b0_6), (i64 b0_7), (i64 b0_8), (i64 b0_9), (i64 b0_10), (i64 b0_11), (.sc (.string b0_12)), (i64 b0_13), (i64 b0_14), (i64 b0_15), .emp, .emp, .emp]]⟩)]⟩
noncomputable def X63_0 (b0_0 : ByteArray) (b0_1 b0_2 : Bool) (b0_3 b0_4 b0_5 b0_6 b0_7 b0_8 b0_9 b0_10 b0_11 : Int) (b0_12 : ByteArray) (b0_13 b0_14 b0_15 : Int) (k : Ex → St → Option CR) (t : Bool × ByteArray × Bool × Bool × Int × Int × Int × Int × Int × Int × Int × Int × Int × ByteArray × Int × Int × Int × LL × LL × LL) : Option CR := bif t.1 then k .ret ⟨(d4 (.dead :: .dead :: ((.ref 16000 1 0 0) :: (bo true) :: (d16 [.dead])))), [(16000, ⟨.box, 65, 19, [[(.sc (.string t.2.1)), (.sc (.bool t.2.2.1)), (.sc (.bool t.2.2.2.1)), (.sc (.int .i64 t.2.2.2.2.1)), (.sc (.int .i64 t.2.2.2.2.2.1)), (.sc (.int .i64 t.2.2.2.2.2.2.1)), (.sc (.int .i64 t.2.2.2.2.2.2.2.1)), (.sc (.int .i64 t.2.2.2.2.2.2.2.2.1)), (.sc (.int .i64 t.2.2.2.2.2.2.2.2.2.1)), (.sc (.int .i64 t.2.2.2.2.2.2.2.2.2.2.1)), (.sc (.int .i64 t.2.2.2.2.2.2.2.2.2.2.2.1)), (.sc (.int .i64 t.2.2.2.2.2.2.2.2.2.2.2.2.1)), (.sc (.string t.2.2.2.2.2.2.2.2.2.2.2.2.2.1)), (.sc (.int .i64 t.2.2.2.2.2.2.2.2.2.2.2.2.2.2.1)), (.sc (.int .i64 t.2.2.2.2.2.2.2.2.2.2.2.2.2.2.2.1)), (.sc (.int .i64 t.2.2.2.2.2.2.2.2.2.2.2.2.2.2.2.2.1)), (.ro 1 t.2.2.2.2.2.2.2.2.2.2.2.2.2.2.2.2.2.1), (.ro 1 t.2.2.2.2.2.2.2.2.2.2.2.2.2.2.2.2.2.2.1), (.ro 1 t.2.2.2.2.2.2.2.2.2.2.2.2.2.2.2.2.2.2.2)]]⟩)]⟩ else k (.exit 0) ⟨(d4 (.dead :: .dead :: ((.ref 16000 1 0 0) :: (d16 [.dead, .dead])))), [(16000, ⟨.box, 65, 19, [[(.sc (.string b0_0)), (bo b0_1), (bo b0_2), (i64 b0_3), (i64 b0_4), (i64 b0_5), (i64 b0_6), (i64 b0_7), (i64 b0_8), (i64 b0_9), (i64 b0_10), (i64 b0_11), (.sc (.string b0_12)), (i64 b0_13), (i64 b0_14), (i64 b0_15), .emp, .emp, .emp]]⟩)]⟩
noncomputable def ks63_0 : List SK := (.f .dead :: .f (.clo 64 []) :: .f (.str) :: .f .dead :: .f .dead :: .f .dead :: .f (.ref 16000 1 0 0) :: (f4 (.f (.ro 19) :: .f (.int .i64) :: .f (.int .i64) :: (f4 (f4 [.f .dead, .f .dead, .f .dead])))))
noncomputable def hs63_0 : List HK := [⟨16000, .box, 65, 19, some [.str, .bool, .bool, .int .i64, .int .i64, .int .i64, .int .i64, .int .i64, .int .i64, .int .i64, .int .i64, .int .i64, .str, .int .i64, .int .i64, .int .i64, .emp, .emp, .emp]⟩]
noncomputable def Lm63_0 (s : St) (k : Ex → St → Option CR) : Option CR := bif chkS ks63_0 hs63_0 s then (G_rules_find_UnitType_0 (sS s 2) (sR s 11) (sI s 12) FU (sI s 13)).bind (X63_0 (aSh s 0 0) (aBh s 0 1) (aBh s 0 2) (aIh s 0 3) (aIh s 0 4) (aIh s 0 5) (aIh s 0 6) (aIh s 0 7) (aIh s 0 8) (aIh s 0 9) (aIh s 0 10) (aIh s 0 11) (aSh s 0 12) (aIh s 0 13) (aIh s 0 14) (aIh s 0 15) k) else none
noncomputable def L63_0 (s : St) (k : Ex → St → Option CR) : Option CR := Lm63_0 (maskS (maskOf ks63_0) s) k
noncomputable def L63 : LT' := fun i s k => bif Nat.beq i 0 then L63_0 s k else none
noncomputable def F_rules_find_UnitType (l : LL) (want : ByteArray) : Option (ByteArray × Bool × Bool × Int × Int × Int × Int × Int × Int × Int × Int × Int × ByteArray × Int × Int × Int × LL × LL × LL × Bool) := Option.bind (G_rules_find_UnitType_0 want l (Int.ofNat l.length) FU (0 : Int)) fun t => bif t.1 then some (t.2.1, t.2.2.1, t.2.2.2.1, t.2.2.2.2.1, t.2.2.2.2.2.1, t.2.2.2.2.2.2.1, t.2.2.2.2.2.2.2.1, t.2.2.2.2.2.2.2.2.1, t.2.2.2.2.2.2.2.2.2.1, t.2.2.2.2.2.2.2.2.2.2.1, t.2.2.2.2.2.2.2.2.2.2.2.1, t.2.2.2.2.2.2.2.2.2.2.2.2.1, t.2.2.2.2.2.2.2.2.2.2.2.2.2.1, t.2.2.2.2.2.2.2.2.2.2.2.2.2.2.1, t.2.2.2.2.2.2.2.2.2.2.2.2.2.2.2.1, t.2.2.2.2.2.2.2.2.2.2.2.2.2.2.2.2.1, t.2.2.2.2.2.2.2.2.2.2.2.2.2.2.2.2.2.1, t.2.2.2.2.2.2.2.2.2.2.2.2.2.2.2.2.2.2.1, t.2.2.2.2.2.2.2.2.2.2.2.2.2.2.2.2.2.2.2, true) else some ((ByteArray.mk (Array.mk [])), false, false, (0 : Int), (0 : Int), (0 : Int), (0 : Int), (0 : Int), (0 : Int), (0 : Int), (0 : Int), (0 : Int), (ByteArray.mk (Array.mk [])), (0 : Int), (0 : Int), (0 : Int), [], [], [], false)
noncomputable def enc63 (t : ByteArray × Bool × Bool × Int × Int × Int × Int × Int × Int × Int × Int × Int × ByteArray × Int × Int × Int × LL × LL × LL × Bool) : CR := ⟨true, (.tup [(.agg [(.sc (.string t.1)), (.sc (.bool t.2.1)), (.sc (.bool t.2.2.1)), (.sc (.int .i64 t.2.2.2.1)), (.sc (.int .i64 t.2.2.2.2.1)), (.sc (.int .i64 t.2.2.2.2.2.1)), (.sc (.int .i64 t.2.2.2.2.2.2.1)), (.sc (.int .i64 t.2.2.2.2.2.2.2.1)), (.sc (.int .i64 t.2.2.2.2.2.2.2.2.1)), (.sc (.int .i64 t.2.2.2.2.2.2.2.2.2.1)), (.sc (.int .i64 t.2.2.2.2.2.2.2.2.2.2.1)), (.sc (.int .i64 t.2.2.2.2.2.2.2.2.2.2.2.1)), (.sc (.string t.2.2.2.2.2.2.2.2.2.2.2.2.1)), (.sc (.int .i64 t.2.2.2.2.2.2.2.2.2.2.2.2.2.1)), (.sc (.int .i64 t.2.2.2.2.2.2.2.2.2.2.2.2.2.2.1)), (.sc (.int .i64 t.2.2.2.2.2.2.2.2.2.2.2.2.2.2.2.1)), (.ro 1 t.2.2.2.2.2.2.2.2.2.2.2.2.2.2.2.2.1), (.ro 1 t.2.2.2.2.2.2.2.2.2.2.2.2.2.2.2.2.2.1), (.ro 1 t.2.2.2.2.2.2.2.2.2.2.2.2.2.2.2.2.2.2.1)]), (.sc (.bool t.2.2.2.2.2.2.2.2.2.2.2.2.2.2.2.2.2.2.2))]), [], []⟩
noncomputable def ks63 : List SK := [.f (.ro 19), .f (.clo 64 []), .f (.str)]
noncomputable def A63 (us : List AVal) := F_rules_find_UnitType (roRows (cIa us 0)) (toS (cIa us 2))
noncomputable def S63 (us : List AVal) : Call := bif chkA ks63 us then Call.of (A63 us) enc63 else Call.none
noncomputable def C63 := AI.ext 63 S63 C64
@[reducible] noncomputable def B63_0 := bodyOf TT TU GL0 C64 ownF L63 (lp Tryz.f63 0)
@[reducible] noncomputable def K63_0 (k : Ex → St → Option CR) : Ex → St → Option CR := fun e s => k e (maskS (W63_0 e) s)
theorem spec63_0 (k : Ex → St → Option CR) : ∀ (m : Nat) (want : ByteArray) (x11 : LL) (x12 x13 : Int) (b0_0 : ByteArray) (b0_1 b0_2 : Bool) (b0_3 b0_4 b0_5 b0_6 b0_7 b0_8 b0_9 b0_10 b0_11 : Int) (b0_12 : ByteArray) (b0_13 b0_14 b0_15 : Int), loopN B63_0 m (E63_0 want x11 x12 x13 b0_0 b0_1 b0_2 b0_3 b0_4 b0_5 b0_6 b0_7 b0_8 b0_9 b0_10 b0_11 b0_12 b0_13 b0_14 b0_15) (K63_0 k) = (G_rules_find_UnitType_0 want x11 x12 m x13).bind (X63_0 b0_0 b0_1 b0_2 b0_3 b0_4 b0_5 b0_6 b0_7 b0_8 b0_9 b0_10 b0_11 b0_12 b0_13 b0_14 b0_15 k)
 | 0, _, _, _, _, _, _, _, _, _, _, _, _, _, _, _, _, _, _, _, _ => rfl
 | m + 1, want, x11, x12, x13, b0_0, b0_1, b0_2, b0_3, b0_4, b0_5, b0_6, b0_7, b0_8, b0_9, b0_10, b0_11, b0_12, b0_13, b0_14, b0_15 =>
 Eq.trans (by kernel_rfl) (nd rfl (nd rfl (nb fun r => (nd rfl (nb fun t => (nd rfl rfl (spec63_0 k m want x11 x12 (wr (x13 + (1 : Int))) b0_0 b0_1 b0_2 b0_3 b0_4 b0_5 b0_6 b0_7 b0_8 b0_9 b0_10 b0_11 b0_12 b0_13 b0_14 b0_15))) rfl)) rfl) rfl)
theorem okL63_0 : LoopOk TT TU GL0 C64 ownF L63 (lp Tryz.f63 0) :=
 loopOk_of ks63_0 hs63_0 W63_0 FU _ (fun s k => by kernel_rfl) (fun s k => spec63_0 k FU (sS s 2) (sR s 11) (sI s 12) (sI s 13) (aSh s 0 0) (aBh s 0 1) (aBh s 0 2) (aIh s 0 3) (aIh s 0 4) (aIh s 0 5) (aIh s 0 6) (aIh s 0 7) (aIh s 0 8) (aIh s 0 9) (aIh s 0 10) (aIh s 0 11) (aSh s 0 12) (aIh s 0 13) (aIh s 0 14) (aIh s 0 15))
theorem run63 (l : LL) (want : ByteArray) : fcall TT TU GL0 C64 ownF false L63 Tryz.f63 [(.ro 19 l), (.clo 64 []), (.sc (.string want))] = (F_rules_find_UnitType l want).bind fun t => some (enc63 t) :=
 Eq.trans (by kernel_rfl) (nb fun t => (nd rfl rfl rfl))
theorem lib63 : Lib Tryz.prog GL0 C63 :=
 Lib.fn lib64 mixed TT_ok Tryz.func63 (by decide +kernel) (by kernel_rfl) false L63 (loops_of 1 (by kernel_rfl) (belowS below0 okL63_0)) ks63 (F := A63) (fun us => rfl) (fun us => run63 _ _) (fun t => rfl)
noncomputable def F_slices_Clone_string_ne (s1 : LL) : Option (LL) := bif (List.isEmpty s1) then none else bif (roomOk (0 + s1.length) 16) then some s1 else none
noncomputable def F_slices_Clone_string (s1 : LL) : Option (LL) := bif s1.isEmpty then some [] else F_slices_Clone_string_ne s1
noncomputable def enc111 (t : LL) : CR := ⟨true, (.slc 0 (t).length), [], [⟨.arr, 9, 1, t⟩]⟩
noncomputable def S111 (us : List AVal) : Call := bif chkA [.f (.ro 1)] us then Call.of (F_slices_Clone_string (roRows (cIa us 0))) enc111 else Call.none
noncomputable def C111 := AI.ext 111 S111 C63
theorem run111 (s1 : LL) : fcall TT TU GL0 C63 ownF true noL Tryz.f111 [(.ro 1 s1)] = (F_slices_Clone_string_ne s1).bind fun t => some (enc111 t) :=
 Eq.trans (by kernel_rfl) (nd rfl rfl (nd rfl (nu (vr s1) rfl) rfl))
theorem lib111 : Lib Tryz.prog GL0 C111 :=
 Lib.clone lib63 mixed TT_ok Tryz.func111 (by decide +kernel) (by kernel_rfl) true noL (loops_of 0 (by kernel_rfl) below0)  1 (fun us => rfl) run111 (fun a cap => by cases a <;> kernel_rfl) (fun t => rfl)
noncomputable def F_rules_cloneUnit (z3 : ByteArray) (zP zZ : Bool) (zW zam zal zT zX z0 zaa zY z2 : Int) (zV : ByteArray) (z6 z5 z4 : Int) (z1 zU zL : LL) : Option (LL × LL × LL × ByteArray × Bool × Bool × Int × Int × Int × Int × Int × Int × Int × Int × Int × ByteArray × Int × Int × Int) := Option.bind (F_slices_Clone_string z1) fun t => Option.bind (F_slices_Clone_string zU) fun t1 => Option.bind (F_slices_Clone_string zL) fun t2 => some (t, t1, t2, z3, zP, zZ, zW, zam, zal, zT, zX, z0, zaa, zY, z2, zV, z6, z5, z4)
noncomputable def enc65 (t : LL × LL × LL × ByteArray × Bool × Bool × Int × Int × Int × Int × Int × Int × Int × Int × Int × ByteArray × Int × Int × Int) : CR := ⟨true, (.agg [(.sc (.string t.2.2.2.1)), (.sc (.bool t.2.2.2.2.1)), (.sc (.bool t.2.2.2.2.2.1)), (.sc (.int .i64 t.2.2.2.2.2.2.1)), (.sc (.int .i64 t.2.2.2.2.2.2.2.1)), (.sc (.int .i64 t.2.2.2.2.2.2.2.2.1)), (.sc (.int .i64 t.2.2.2.2.2.2.2.2.2.1)), (.sc (.int .i64 t.2.2.2.2.2.2.2.2.2.2.1)), (.sc (.int .i64 t.2.2.2.2.2.2.2.2.2.2.2.1)), (.sc (.int .i64 t.2.2.2.2.2.2.2.2.2.2.2.2.1)), (.sc (.int .i64 t.2.2.2.2.2.2.2.2.2.2.2.2.2.1)), (.sc (.int .i64 t.2.2.2.2.2.2.2.2.2.2.2.2.2.2.1)), (.sc (.string t.2.2.2.2.2.2.2.2.2.2.2.2.2.2.2.1)), (.sc (.int .i64 t.2.2.2.2.2.2.2.2.2.2.2.2.2.2.2.2.1)), (.sc (.int .i64 t.2.2.2.2.2.2.2.2.2.2.2.2.2.2.2.2.2.1)), (.sc (.int .i64 t.2.2.2.2.2.2.2.2.2.2.2.2.2.2.2.2.2.2)), (.slc 0 (t.1).length), (.slc 1 (t.2.1).length), (.slc 2 (t.2.2.1).length)]), [], [⟨.arr, 9, 1, t.1⟩, ⟨.arr, 9, 1, t.2.1⟩, ⟨.arr, 9, 1, t.2.2.1⟩]⟩
noncomputable def ks65 : List SK := [.agg [.str, .bool, .bool, .int .i64, .int .i64, .int .i64, .int .i64, .int .i64, .int .i64, .int .i64, .int .i64, .int .i64, .str, .int .i64, .int .i64, .int .i64, .ro 1, .ro 1, .ro 1]]
noncomputable def A65 (us : List AVal) := F_rules_cloneUnit (aS us 0 0) (aB us 0 1) (aB us 0 2) (aI us 0 3) (aI us 0 4) (aI us 0 5) (aI us 0 6) (aI us 0 7) (aI us 0 8) (aI us 0 9) (aI us 0 10) (aI us 0 11) (aS us 0 12) (aI us 0 13) (aI us 0 14) (aI us 0 15) (aR us 0 16) (aR us 0 17) (aR us 0 18)
noncomputable def S65 (us : List AVal) : Call := bif chkA ks65 us then Call.of (A65 us) enc65 else Call.none
noncomputable def C65 := AI.ext 65 S65 C111
theorem run65 (z3 : ByteArray) (zP zZ : Bool) (zW zam zal zT zX z0 zaa zY z2 : Int) (zV : ByteArray) (z6 z5 z4 : Int) (z1 zU zL : LL) : fcall TT TU GL0 C111 ownF true noL Tryz.f65 [(.agg [(.sc (.string z3)), (bo zP), (bo zZ), (i64 zW), (i64 zam), (i64 zal), (i64 zT), (i64 zX), (i64 z0), (i64 zaa), (i64 zY), (i64 z2), (.sc (.string zV)), (i64 z6), (i64 z5), (i64 z4), (.ro 1 z1), (.ro 1 zU), (.ro 1 zL)])] = (F_rules_cloneUnit z3 zP zZ zW zam zal zT zX z0 zaa zY z2 zV z6 z5 z4 z1 zU zL).bind fun t => some (enc65 t) :=
 Eq.trans (by kernel_rfl) (nb fun t => (nu (show ((((true && (verEq t.length t.length)) && true) && true) && true) = true from (n_andL (n_andL (n_andL (n_andL rfl (verEq_rfl _)) rfl) rfl) rfl)) (nb fun t1 => (nu (show ((((true && (verEq t1.length t1.length)) && true) && true) && true) = true from (n_andL (n_andL (n_andL (n_andL rfl (verEq_rfl _)) rfl) rfl) rfl)) (nb fun t2 => (nu (show ((((true && (verEq t2.length t2.length)) && true) && true) && true) = true from (n_andL (n_andL (n_andL (n_andL rfl (verEq_rfl _)) rfl) rfl) rfl)) (nu (vr t) (nu (vr t1) (nu (vr t2) rfl)))))))))
theorem lib65 : Lib Tryz.prog GL0 C65 :=
 Lib.fn lib111 mixed TT_ok Tryz.func65 (by decide +kernel) (by kernel_rfl) true noL (loops_of 0 (by kernel_rfl) below0) ks65 (F := A65) (fun us => rfl) (fun us => run65 _ _ _ _ _ _ _ _ _ _ _ _ _ _ _ _ _ _ _) (fun t => rfl)
noncomputable def F_rules_Unit (zp zn zq : LL) (name : ByteArray) : Option (LL × LL × LL × ByteArray × Bool × Bool × Int × Int × Int × Int × Int × Int × Int × Int × Int × ByteArray × Int × Int × Int × Bool) := Option.bind (F_rules_find_UnitType zp name) fun t => Option.bind (F_rules_cloneUnit t.1 t.2.1 t.2.2.1 t.2.2.2.1 t.2.2.2.2.1 t.2.2.2.2.2.1 t.2.2.2.2.2.2.1 t.2.2.2.2.2.2.2.1 t.2.2.2.2.2.2.2.2.1 t.2.2.2.2.2.2.2.2.2.1 t.2.2.2.2.2.2.2.2.2.2.1 t.2.2.2.2.2.2.2.2.2.2.2.1 t.2.2.2.2.2.2.2.2.2.2.2.2.1 t.2.2.2.2.2.2.2.2.2.2.2.2.2.1 t.2.2.2.2.2.2.2.2.2.2.2.2.2.2.1 t.2.2.2.2.2.2.2.2.2.2.2.2.2.2.2.1 t.2.2.2.2.2.2.2.2.2.2.2.2.2.2.2.2.1 t.2.2.2.2.2.2.2.2.2.2.2.2.2.2.2.2.2.1 t.2.2.2.2.2.2.2.2.2.2.2.2.2.2.2.2.2.2.1) fun t1 => some (t1.1, t1.2.1, t1.2.2.1, t1.2.2.2.1, t1.2.2.2.2.1, t1.2.2.2.2.2.1, t1.2.2.2.2.2.2.1, t1.2.2.2.2.2.2.2.1, t1.2.2.2.2.2.2.2.2.1, t1.2.2.2.2.2.2.2.2.2.1, t1.2.2.2.2.2.2.2.2.2.2.1, t1.2.2.2.2.2.2.2.2.2.2.2.1, t1.2.2.2.2.2.2.2.2.2.2.2.2.1, t1.2.2.2.2.2.2.2.2.2.2.2.2.2.1, t1.2.2.2.2.2.2.2.2.2.2.2.2.2.2.1, t1.2.2.2.2.2.2.2.2.2.2.2.2.2.2.2.1, t1.2.2.2.2.2.2.2.2.2.2.2.2.2.2.2.2.1, t1.2.2.2.2.2.2.2.2.2.2.2.2.2.2.2.2.2.1, t1.2.2.2.2.2.2.2.2.2.2.2.2.2.2.2.2.2.2, t.2.2.2.2.2.2.2.2.2.2.2.2.2.2.2.2.2.2.2)
noncomputable def enc35 (t : LL × LL × LL × ByteArray × Bool × Bool × Int × Int × Int × Int × Int × Int × Int × Int × Int × ByteArray × Int × Int × Int × Bool) : CR := ⟨true, (.tup [(.agg [(.sc (.string t.2.2.2.1)), (.sc (.bool t.2.2.2.2.1)), (.sc (.bool t.2.2.2.2.2.1)), (.sc (.int .i64 t.2.2.2.2.2.2.1)), (.sc (.int .i64 t.2.2.2.2.2.2.2.1)), (.sc (.int .i64 t.2.2.2.2.2.2.2.2.1)), (.sc (.int .i64 t.2.2.2.2.2.2.2.2.2.1)), (.sc (.int .i64 t.2.2.2.2.2.2.2.2.2.2.1)), (.sc (.int .i64 t.2.2.2.2.2.2.2.2.2.2.2.1)), (.sc (.int .i64 t.2.2.2.2.2.2.2.2.2.2.2.2.1)), (.sc (.int .i64 t.2.2.2.2.2.2.2.2.2.2.2.2.2.1)), (.sc (.int .i64 t.2.2.2.2.2.2.2.2.2.2.2.2.2.2.1)), (.sc (.string t.2.2.2.2.2.2.2.2.2.2.2.2.2.2.2.1)), (.sc (.int .i64 t.2.2.2.2.2.2.2.2.2.2.2.2.2.2.2.2.1)), (.sc (.int .i64 t.2.2.2.2.2.2.2.2.2.2.2.2.2.2.2.2.2.1)), (.sc (.int .i64 t.2.2.2.2.2.2.2.2.2.2.2.2.2.2.2.2.2.2.1)), (.slc 0 (t.1).length), (.slc 1 (t.2.1).length), (.slc 2 (t.2.2.1).length)]), (.sc (.bool t.2.2.2.2.2.2.2.2.2.2.2.2.2.2.2.2.2.2.2))]), [], [⟨.arr, 9, 1, t.1⟩, ⟨.arr, 9, 1, t.2.1⟩, ⟨.arr, 9, 1, t.2.2.1⟩]⟩
noncomputable def ks35 : List SK := [.agg [.ro 19, .ro 6, .ro 8], .f (.str)]
noncomputable def A35 (us : List AVal) := F_rules_Unit (aR us 0 0) (aR us 0 1) (aR us 0 2) (toS (cIa us 1))
noncomputable def S35 (us : List AVal) : Call := bif chkA ks35 us then Call.of (A35 us) enc35 else Call.none
noncomputable def C35 := AI.ext 35 S35 C65
theorem run35 (zp zn zq : LL) (name : ByteArray) : fcall TT TU GL0 C65 ownF true noL Tryz.f35 [(.agg [(.ro 19 zp), (.ro 6 zn), (.ro 8 zq)]), (.sc (.string name))] = (F_rules_Unit zp zn zq name).bind fun t => some (enc35 t) :=
 Eq.trans (by kernel_rfl) (nb fun t => (nb fun t1 => (nu (show ((((true && (verEq t1.1.length t1.1.length)) && true) && true) && true) = true from (n_andL (n_andL (n_andL (n_andL rfl (verEq_rfl _)) rfl) rfl) rfl)) (nu (show ((((true && (verEq t1.2.1.length t1.2.1.length)) && true) && true) && true) = true from (n_andL (n_andL (n_andL (n_andL rfl (verEq_rfl _)) rfl) rfl) rfl)) (nu (show ((((true && (verEq t1.2.2.1.length t1.2.2.1.length)) && true) && true) && true) = true from (n_andL (n_andL (n_andL (n_andL rfl (verEq_rfl _)) rfl) rfl) rfl)) (nu (show (verEq t1.1.length t1.1.length) = true from (verEq_rfl _)) (nu (show (verEq t1.2.1.length t1.2.1.length) = true from (verEq_rfl _)) (nu (show (verEq t1.2.2.1.length t1.2.2.1.length) = true from (verEq_rfl _)) rfl))))))))
theorem lib35 : Lib Tryz.prog GL0 C35 :=
 Lib.fn lib65 mixed TT_ok Tryz.func35 (by decide +kernel) (by kernel_rfl) true noL (loops_of 0 (by kernel_rfl) below0) ks35 (F := A35) (fun us => rfl) (fun us => run35 _ _ _ _) (fun t => rfl)
noncomputable def F_orders_Current (l : LL) : Option (Int × Int × Int × Int × ByteArray × Bool) := bif ((Int.ofNat l.length) == (0 : Int)) then some ((0 : Int), (0 : Int), (0 : Int), (0 : Int), (ByteArray.mk (Array.mk [])), false) else Option.bind (l[(0 : Int).toNat]?) fun r => bif (chk y4 r) then some ((cI r 0), (cI r 1), (cI r 2), (cI r 3), (cS r 4), true) else none
noncomputable def enc120 (t : Int × Int × Int × Int × ByteArray × Bool) : CR := ⟨true, (.tup [(.agg [(.sc (.int .i64 t.1)), (.sc (.int .i64 t.2.1)), (.sc (.int .i64 t.2.2.1)), (.sc (.int .i64 t.2.2.2.1)), (.sc (.string t.2.2.2.2.1))]), (.sc (.bool t.2.2.2.2.2))]), [], []⟩
noncomputable def ks120 : List SK := [.f (.ro 5)]
noncomputable def A120 (us : List AVal) := F_orders_Current (roRows (cIa us 0))
noncomputable def S120 (us : List AVal) : Call := bif chkA ks120 us then Call.of (A120 us) enc120 else Call.none
noncomputable def C120 := AI.ext 120 S120 C35
theorem run120 (l : LL) : fcall TT TU GL0 C35 ownF true noL Tryz.f120 [(.ro 5 l)] = (F_orders_Current l).bind fun t => some (enc120 t) :=
 Eq.trans (by kernel_rfl) (nd rfl rfl (nb fun r => (nd rfl rfl rfl)))
theorem lib120 : Lib Tryz.prog GL0 C120 :=
 Lib.fn lib35 mixed TT_ok Tryz.func120 (by decide +kernel) (by kernel_rfl) true noL (loops_of 0 (by kernel_rfl) below0) ks120 (F := A120) (fun us => rfl) (fun us => run120 _) (fun t => rfl)
noncomputable def F_entity_Ready (zE zw : Int) (zy : ByteArray) (zu zv zH zC zA zD zB : Int) (zt zz : LL) : Option (Bool) := some (zA == (0 : Int))
noncomputable def enc36 (t : Bool) : CR := ⟨true, (bo t), [], []⟩
noncomputable def ks36 : List SK := [.agg [.int .i64, .int .i64, .str, .int .i64, .int .i64, .int .i64, .int .i64, .int .i64, .int .i64, .int .i64, .ro 5, .ro 3]]
noncomputable def A36 (us : List AVal) := F_entity_Ready (aI us 0 0) (aI us 0 1) (aS us 0 2) (aI us 0 3) (aI us 0 4) (aI us 0 5) (aI us 0 6) (aI us 0 7) (aI us 0 8) (aI us 0 9) (aR us 0 10) (aR us 0 11)
noncomputable def S36 (us : List AVal) : Call := bif chkA ks36 us then Call.of (A36 us) enc36 else Call.none
noncomputable def C36 := AI.ext 36 S36 C120
theorem run36 (zE zw : Int) (zy : ByteArray) (zu zv zH zC zA zD zB : Int) (zt zz : LL) : fcall TT TU GL0 C120 ownF true noL Tryz.f36 [(.agg [(i64 zE), (i64 zw), (.sc (.string zy)), (i64 zu), (i64 zv), (i64 zH), (i64 zC), (i64 zA), (i64 zD), (i64 zB), (.ro 5 zt), (.ro 3 zz)])] = (F_entity_Ready zE zw zy zu zv zH zC zA zD zB zt zz).bind fun t => some (enc36 t) :=
 Eq.trans (by kernel_rfl) rfl
theorem lib36 : Lib Tryz.prog GL0 C36 :=
 Lib.fn lib120 mixed TT_ok Tryz.func36 (by decide +kernel) (by kernel_rfl) true noL (loops_of 0 (by kernel_rfl) below0) ks36 (F := A36) (fun us => rfl) (fun us => run36 _ _ _ _ _ _ _ _ _ _ _ _) (fun t => rfl)
noncomputable def F_num_Cell (x : Int) : Option (Int) := some (Int.fdiv x ((2 : Int) ^ (Min.min (8 : Int).toNat 64)))
noncomputable def enc121 (t : Int) : CR := ⟨true, (i64 t), [], []⟩
noncomputable def ks121 : List SK := [.f (.int .i64)]
noncomputable def A121 (us : List AVal) := F_num_Cell (toI (cIa us 0))
noncomputable def S121 (us : List AVal) : Call := bif chkA ks121 us then Call.of (A121 us) enc121 else Call.none
noncomputable def C121 := AI.ext 121 S121 C36
theorem run121 (x : Int) : fcall TT TU GL0 C36 ownF true noL Tryz.f121 [(i64 x)] = (F_num_Cell x).bind fun t => some (enc121 t) :=
 Eq.trans (by kernel_rfl) rfl
theorem lib121 : Lib Tryz.prog GL0 C121 :=
 Lib.fn lib36 mixed TT_ok Tryz.func121 (by decide +kernel) (by kernel_rfl) true noL (loops_of 0 (by kernel_rfl) below0) ks121 (F := A121) (fun us => rfl) (fun us => run121 _) (fun t => rfl)
noncomputable def F_economy_field (zr zk zm : Int) (zl : Bool) (zs : Int) (ze zc zd : LL) (zj zi : Int) (zf zb za zo zg zh : LL) (zE zw : Int) (zy : ByteArray) (zu zv zH zC zA zD zB : Int) (zt zz : LL) : Option (Int × Int × Int × Bool) := Option.bind (F_rules_Unit ze zc zd zy) fun t => Option.bind (F_orders_Current zt) fun t1 => bif (!t.2.2.2.2.2.2.2.2.2.2.2.2.2.2.2.2.2.2.2) then some ((0 : Int), (0 : Int), (0 : Int), false) else bif (!t1.2.2.2.2.2) then some ((0 : Int), (0 : Int), (0 : Int), false) else Option.bind (F_entity_Ready zE zw zy zu zv zH zC zA zD zB zt zz) fun t2 => bif (!t2) then some ((0 : Int), (0 : Int), (0 : Int), false) else bif t.2.2.2.2.1 then some ((0 : Int), (0 : Int), (0 : Int), false) else bif (decide (t.2.2.2.2.2.2.2.2.2.2.2.2.2.2.1 ≤ (0 : Int))) then some ((0 : Int), (0 : Int), (0 : Int), false) else bif (t1.1 != (3 : Int)) then some ((0 : Int), (0 : Int), (0 : Int), false) else Option.bind (F_num_Cell t1.2.1) fun t3 => Option.bind (F_num_Cell t1.2.2.1) fun t4 => some (t3, t4, t.2.2.2.2.2.2.2.2.2.2.2.2.2.2.1, true)
noncomputable def enc70 (t : Int × Int × Int × Bool) : CR := ⟨true, (.tup [(.agg [(.sc (.int .i64 t.1)), (.sc (.int .i64 t.2.1))]), (.sc (.int .i64 t.2.2.1)), (.sc (.bool t.2.2.2))]), [], []⟩
noncomputable def ks70 : List SK := [.agg [.int .i64, .int .i64, .int .i64, .bool, .int .u64, .ro 19, .ro 6, .ro 8, .int .i64, .int .i64, .ro 3, .ro 6, .ro 12, .ro 9, .ro 3, .ro 4], .agg [.int .i64, .int .i64, .str, .int .i64, .int .i64, .int .i64, .int .i64, .int .i64, .int .i64, .int .i64, .ro 5, .ro 3]]
noncomputable def A70 (us : List AVal) := F_economy_field (aI us 0 0) (aI us 0 1) (aI us 0 2) (aB us 0 3) (aI us 0 4) (aR us 0 5) (aR us 0 6) (aR us 0 7) (aI us 0 8) (aI us 0 9) (aR us 0 10) (aR us 0 11) (aR us 0 12) (aR us 0 13) (aR us 0 14) (aR us 0 15) (aI us 1 0) (aI us 1 1) (aS us 1 2) (aI us 1 3) (aI us 1 4) (aI us 1 5) (aI us 1 6) (aI us 1 7) (aI us 1 8) (aI us 1 9) (aR us 1 10) (aR us 1 11)
noncomputable def S70 (us : List AVal) : Call := bif chkA ks70 us then Call.of (A70 us) enc70 else Call.none
noncomputable def C70 := AI.ext 70 S70 C121
theorem run70 (zr zk zm : Int) (zl : Bool) (zs : Int) (ze zc zd : LL) (zj zi : Int) (zf zb za zo zg zh : LL) (zE zw : Int) (zy : ByteArray) (zu zv zH zC zA zD zB : Int) (zt zz : LL) : fcall TT TU GL0 C121 ownF true noL Tryz.f70 [(.agg [(i64 zr), (i64 zk), (i64 zm), (bo zl), (.sc (.int .u64 zs)), (.ro 19 ze), (.ro 6 zc), (.ro 8 zd), (i64 zj), (i64 zi), (.ro 3 zf), (.ro 6 zb), (.ro 12 za), (.ro 9 zo), (.ro 3 zg), (.ro 4 zh)]), (.agg [(i64 zE), (i64 zw), (.sc (.string zy)), (i64 zu), (i64 zv), (i64 zH), (i64 zC), (i64 zA), (i64 zD), (i64 zB), (.ro 5 zt), (.ro 3 zz)])] = (F_economy_field zr zk zm zl zs ze zc zd zj zi zf zb za zo zg zh zE zw zy zu zv zH zC zA zD zB zt zz).bind fun t => some (enc70 t) :=
 Eq.trans (by kernel_rfl) (nb fun t => (nu (show ((((true && (verEq t.1.length t.1.length)) && true) && true) && true) = true from (n_andL (n_andL (n_andL (n_andL rfl (verEq_rfl _)) rfl) rfl) rfl)) (nu (show ((((true && (verEq t.2.1.length t.2.1.length)) && true) && true) && true) = true from (n_andL (n_andL (n_andL (n_andL rfl (verEq_rfl _)) rfl) rfl) rfl)) (nu (show ((((true && (verEq t.2.2.1.length t.2.2.1.length)) && true) && true) && true) = true from (n_andL (n_andL (n_andL (n_andL rfl (verEq_rfl _)) rfl) rfl) rfl)) (nb fun t1 => (nd rfl rfl (nd rfl rfl (nb fun t2 => (nd rfl rfl (nd rfl rfl (nd rfl rfl (nd rfl rfl (nb fun t3 => (nb fun t4 => rfl))))))))))))))
theorem lib70 : Lib Tryz.prog GL0 C70 :=
 Lib.fn lib121 mixed TT_ok Tryz.func70 (by decide +kernel) (by kernel_rfl) true noL (loops_of 0 (by kernel_rfl) below0) ks70 (F := A70) (fun us => rfl) (fun us => run70 _ _ _ _ _ _ _ _ _ _ _ _ _ _ _ _ _ _ _ _ _ _ _ _ _ _ _ _) (fun t => rfl)
noncomputable def F_grid_Valid (w h : Int) : Option (Bool) := bif (decide (w ≥ (1 : Int))) then bif (decide (w ≤ (32 : Int))) then bif (decide (h ≥ (1 : Int))) then some (decide (h ≤ (32 : Int))) else some false else some false else some false
noncomputable def enc188 (t : Bool) : CR := ⟨true, (bo t), [], []⟩
noncomputable def ks188 : List SK := [.f (.int .i64), .f (.int .i64)]
noncomputable def A188 (us : List AVal) := F_grid_Valid (toI (cIa us 0)) (toI (cIa us 1))
noncomputable def S188 (us : List AVal) : Call := bif chkA ks188 us then Call.of (A188 us) enc188 else Call.none
noncomputable def C188 := AI.ext 188 S188 C70
theorem run188 (w h : Int) : fcall TT TU GL0 C70 ownF true noL Tryz.f188 [(i64 w), (i64 h)] = (F_grid_Valid w h).bind fun t => some (enc188 t) :=
 Eq.trans (by kernel_rfl) (nd rfl (nd rfl (nd rfl rfl rfl) rfl) rfl)
theorem lib188 : Lib Tryz.prog GL0 C188 :=
 Lib.fn lib70 mixed TT_ok Tryz.func188 (by decide +kernel) (by kernel_rfl) true noL (loops_of 0 (by kernel_rfl) below0) ks188 (F := A188) (fun us => rfl) (fun us => run188 _ _) (fun t => rfl)
noncomputable def F_terrain_formed (zM zN : Int) (zx : LL) : Option (Bool) := Option.bind (F_grid_Valid zM zN) fun t => bif t then some ((Int.ofNat zx.length) == (wr (zM * zN))) else some false
noncomputable def enc166 (t : Bool) : CR := ⟨true, (bo t), [], []⟩
noncomputable def ks166 : List SK := [.agg [.int .i64, .int .i64, .ro 3]]
noncomputable def A166 (us : List AVal) := F_terrain_formed (aI us 0 0) (aI us 0 1) (aR us 0 2)
noncomputable def S166 (us : List AVal) : Call := bif chkA ks166 us then Call.of (A166 us) enc166 else Call.none
noncomputable def C166 := AI.ext 166 S166 C188
theorem run166 (zM zN : Int) (zx : LL) : fcall TT TU GL0 C188 ownF true noL Tryz.f166 [(.agg [(i64 zM), (i64 zN), (.ro 3 zx)])] = (F_terrain_formed zM zN zx).bind fun t => some (enc166 t) :=
 Eq.trans (by kernel_rfl) (nb fun t => (nd rfl rfl rfl))
theorem lib166 : Lib Tryz.prog GL0 C166 :=
 Lib.fn lib188 mixed TT_ok Tryz.func166 (by decide +kernel) (by kernel_rfl) true noL (loops_of 0 (by kernel_rfl) below0) ks166 (F := A166) (fun us => rfl) (fun us => run166 _ _ _) (fun t => rfl)
noncomputable def F_grid_In (w h zI zJ : Int) : Option (Bool) := bif (decide (zI ≥ (0 : Int))) then bif (decide (zI < w)) then bif (decide (zJ ≥ (0 : Int))) then some (decide (zJ < h)) else some false else some false else some false
noncomputable def enc167 (t : Bool) : CR := ⟨true, (bo t), [], []⟩
noncomputable def ks167 : List SK := [.f (.int .i64), .f (.int .i64), .agg [.int .i64, .int .i64]]
noncomputable def A167 (us : List AVal) := F_grid_In (toI (cIa us 0)) (toI (cIa us 1)) (aI us 2 0) (aI us 2 1)
noncomputable def S167 (us : List AVal) : Call := bif chkA ks167 us then Call.of (A167 us) enc167 else Call.none
noncomputable def C167 := AI.ext 167 S167 C166
theorem run167 (w h zI zJ : Int) : fcall TT TU GL0 C166 ownF true noL Tryz.f167 [(i64 w), (i64 h), (.agg [(i64 zI), (i64 zJ)])] = (F_grid_In w h zI zJ).bind fun t => some (enc167 t) :=
 Eq.trans (by kernel_rfl) (nd rfl (nd rfl (nd rfl rfl rfl) rfl) rfl)
theorem lib167 : Lib Tryz.prog GL0 C167 :=
 Lib.fn lib166 mixed TT_ok Tryz.func167 (by decide +kernel) (by kernel_rfl) true noL (loops_of 0 (by kernel_rfl) below0) ks167 (F := A167) (fun us => rfl) (fun us => run167 _ _ _ _) (fun t => rfl)
noncomputable def F_terrain_inside (zM zN : Int) (zx : LL) (zI zJ : Int) : Option (Bool) := Option.bind (F_terrain_formed zM zN zx) fun t => bif t then Option.bind (F_grid_In zM zN zI zJ) fun t1 => some t1 else some false
noncomputable def enc122 (t : Bool) : CR := ⟨true, (bo t), [], []⟩
noncomputable def ks122 : List SK := [.agg [.int .i64, .int .i64, .ro 3], .agg [.int .i64, .int .i64]]
noncomputable def A122 (us : List AVal) := F_terrain_inside (aI us 0 0) (aI us 0 1) (aR us 0 2) (aI us 1 0) (aI us 1 1)
noncomputable def S122 (us : List AVal) : Call := bif chkA ks122 us then Call.of (A122 us) enc122 else Call.none
noncomputable def C122 := AI.ext 122 S122 C167
theorem run122 (zM zN : Int) (zx : LL) (zI zJ : Int) : fcall TT TU GL0 C167 ownF true noL Tryz.f122 [(.agg [(i64 zM), (i64 zN), (.ro 3 zx)]), (.agg [(i64 zI), (i64 zJ)])] = (F_terrain_inside zM zN zx zI zJ).bind fun t => some (enc122 t) :=
 Eq.trans (by kernel_rfl) (nb fun t => (nd rfl (nb fun t1 => rfl) rfl))
theorem lib122 : Lib Tryz.prog GL0 C122 :=
 Lib.fn lib167 mixed TT_ok Tryz.func122 (by decide +kernel) (by kernel_rfl) true noL (loops_of 0 (by kernel_rfl) below0) ks122 (F := A122) (fun us => rfl) (fun us => run122 _ _ _ _ _) (fun t => rfl)
noncomputable def F_num_Clamp (n lo hi : Int) : Option (Int) := some (maxI lo (minI n hi))
noncomputable def enc87 (t : Int) : CR := ⟨true, (i64 t), [], []⟩
noncomputable def ks87 : List SK := [.f (.int .i64), .f (.int .i64), .f (.int .i64)]
noncomputable def A87 (us : List AVal) := F_num_Clamp (toI (cIa us 0)) (toI (cIa us 1)) (toI (cIa us 2))
noncomputable def S87 (us : List AVal) : Call := bif chkA ks87 us then Call.of (A87 us) enc87 else Call.none
noncomputable def C87 := AI.ext 87 S87 C122
theorem run87 (n lo hi : Int) : fcall TT TU GL0 C122 ownF true noL Tryz.f87 [(i64 n), (i64 lo), (i64 hi)] = (F_num_Clamp n lo hi).bind fun t => some (enc87 t) :=
 Eq.trans (by kernel_rfl) rfl
theorem lib87 : Lib Tryz.prog GL0 C87 :=
 Lib.fn lib122 mixed TT_ok Tryz.func87 (by decide +kernel) (by kernel_rfl) true noL (loops_of 0 (by kernel_rfl) below0) ks87 (F := A87) (fun us => rfl) (fun us => run87 _ _ _) (fun t => rfl)
noncomputable def F_grid_near (n : Int) : Option (Int) := Option.bind (F_num_Clamp n (-(1048576 : Int)) (1048576 : Int)) fun t => some t
noncomputable def enc169 (t : Int) : CR := ⟨true, (i64 t), [], []⟩
noncomputable def ks169 : List SK := [.f (.int .i64)]
noncomputable def A169 (us : List AVal) := F_grid_near (toI (cIa us 0))
noncomputable def S169 (us : List AVal) : Call := bif chkA ks169 us then Call.of (A169 us) enc169 else Call.none
noncomputable def C169 := AI.ext 169 S169 C87
theorem run169 (n : Int) : fcall TT TU GL0 C87 ownF true noL Tryz.f169 [(i64 n)] = (F_grid_near n).bind fun t => some (enc169 t) :=
 Eq.trans (by kernel_rfl) (nb fun t => rfl)
theorem lib169 : Lib Tryz.prog GL0 C169 :=
 Lib.fn lib87 mixed TT_ok Tryz.func169 (by decide +kernel) (by kernel_rfl) true noL (loops_of 0 (by kernel_rfl) below0) ks169 (F := A169) (fun us => rfl) (fun us => run169 _) (fun t => rfl)
noncomputable def F_grid_pos (zI zJ : Int) : Option (Int × Int) := Option.bind (F_grid_near zI) fun t => Option.bind (F_grid_near zJ) fun t1 => some (t, t1)
noncomputable def enc168 (t : Int × Int) : CR := ⟨true, (.agg [(.sc (.int .i64 t.1)), (.sc (.int .i64 t.2))]), [], []⟩
noncomputable def ks168 : List SK := [.agg [.int .i64, .int .i64]]
noncomputable def A168 (us : List AVal) := F_grid_pos (aI us 0 0) (aI us 0 1)
noncomputable def S168 (us : List AVal) : Call := bif chkA ks168 us then Call.of (A168 us) enc168 else Call.none
noncomputable def C168 := AI.ext 168 S168 C169
theorem run168 (zI zJ : Int) : fcall TT TU GL0 C169 ownF true noL Tryz.f168 [(.agg [(i64 zI), (i64 zJ)])] = (F_grid_pos zI zJ).bind fun t => some (enc168 t) :=
 Eq.trans (by kernel_rfl) (nb fun t => (nb fun t1 => rfl))
theorem lib168 : Lib Tryz.prog GL0 C168 :=
 Lib.fn lib169 mixed TT_ok Tryz.func168 (by decide +kernel) (by kernel_rfl) true noL (loops_of 0 (by kernel_rfl) below0) ks168 (F := A168) (fun us => rfl) (fun us => run168 _ _) (fun t => rfl)
noncomputable def F_grid_Index (w zI zJ : Int) : Option (Int) := Option.bind (F_grid_pos zI zJ) fun t => Option.bind (F_grid_near w) fun t1 => some (wr ((wr (t.2 * t1)) + t.1))
noncomputable def enc123 (t : Int) : CR := ⟨true, (i64 t), [], []⟩
noncomputable def ks123 : List SK := [.f (.int .i64), .agg [.int .i64, .int .i64]]
noncomputable def A123 (us : List AVal) := F_grid_Index (toI (cIa us 0)) (aI us 1 0) (aI us 1 1)
noncomputable def S123 (us : List AVal) : Call := bif chkA ks123 us then Call.of (A123 us) enc123 else Call.none
noncomputable def C123 := AI.ext 123 S123 C168
theorem run123 (w zI zJ : Int) : fcall TT TU GL0 C168 ownF true noL Tryz.f123 [(i64 w), (.agg [(i64 zI), (i64 zJ)])] = (F_grid_Index w zI zJ).bind fun t => some (enc123 t) :=
 Eq.trans (by kernel_rfl) (nb fun t => (nb fun t1 => rfl))
theorem lib123 : Lib Tryz.prog GL0 C123 :=
 Lib.fn lib168 mixed TT_ok Tryz.func123 (by decide +kernel) (by kernel_rfl) true noL (loops_of 0 (by kernel_rfl) below0) ks123 (F := A123) (fun us => rfl) (fun us => run123 _ _ _) (fun t => rfl)
noncomputable def F_terrain_Get (zM zN : Int) (zx : LL) (zI zJ : Int) : Option (Int × Int × Int × Bool) := Option.bind (F_terrain_inside zM zN zx zI zJ) fun t => bif (!t) then some ((0 : Int), (0 : Int), (0 : Int), false) else Option.bind (F_grid_Index zM zI zJ) fun t1 => bif (decide ((0 : Int) ≤ t1)) then Option.bind (zx[t1.toNat]?) fun r => bif (chk y3 r) then some ((cI r 0), (cI r 1), (cI r 2), true) else none else none
noncomputable def enc71 (t : Int × Int × Int × Bool) : CR := ⟨true, (.tup [(.agg [(.sc (.int .i64 t.1)), (.sc (.int .i64 t.2.1)), (.sc (.int .i64 t.2.2.1))]), (.sc (.bool t.2.2.2))]), [], []⟩
noncomputable def ks71 : List SK := [.agg [.int .i64, .int .i64, .ro 3], .agg [.int .i64, .int .i64]]
noncomputable def A71 (us : List AVal) := F_terrain_Get (aI us 0 0) (aI us 0 1) (aR us 0 2) (aI us 1 0) (aI us 1 1)
noncomputable def S71 (us : List AVal) : Call := bif chkA ks71 us then Call.of (A71 us) enc71 else Call.none
noncomputable def C71 := AI.ext 71 S71 C123
theorem run71 (zM zN : Int) (zx : LL) (zI zJ : Int) : fcall TT TU GL0 C123 ownF true noL Tryz.f71 [(.agg [(i64 zM), (i64 zN), (.ro 3 zx)]), (.agg [(i64 zI), (i64 zJ)])] = (F_terrain_Get zM zN zx zI zJ).bind fun t => some (enc71 t) :=
 Eq.trans (by kernel_rfl) (nb fun t => (nd rfl rfl (nb fun t1 => (nd rfl (nb fun r => (nd rfl rfl rfl)) rfl))))
theorem lib71 : Lib Tryz.prog GL0 C71 :=
 Lib.fn lib123 mixed TT_ok Tryz.func71 (by decide +kernel) (by kernel_rfl) true noL (loops_of 0 (by kernel_rfl) below0) ks71 (F := A71) (fun us => rfl) (fun us => run71 _ _ _ _ _) (fun t => rfl)
noncomputable def F_num_Center (c : Int) : Option (Int) := bif (decide (c > (36028797018963967 : Int))) then some (9223372036854775807 : Int) else bif (decide (c < (-(36028797018963968 : Int)))) then some (-(9223372036854775808 : Int)) else some (wr ((wr (c * (256 : Int))) + (128 : Int)))
noncomputable def enc72 (t : Int) : CR := ⟨true, (i64 t), [], []⟩
noncomputable def ks72 : List SK := [.f (.int .i64)]
noncomputable def A72 (us : List AVal) := F_num_Center (toI (cIa us 0))
noncomputable def S72 (us : List AVal) : Call := bif chkA ks72 us then Call.of (A72 us) enc72 else Call.none
noncomputable def C72 := AI.ext 72 S72 C71
theorem run72 (c : Int) : fcall TT TU GL0 C71 ownF true noL Tryz.f72 [(i64 c)] = (F_num_Center c).bind fun t => some (enc72 t) :=
 Eq.trans (by kernel_rfl) (nd rfl rfl (nd rfl rfl rfl))
theorem lib72 : Lib Tryz.prog GL0 C72 :=
 Lib.fn lib71 mixed TT_ok Tryz.func72 (by decide +kernel) (by kernel_rfl) true noL (loops_of 0 (by kernel_rfl) below0) ks72 (F := A72) (fun us => rfl) (fun us => run72 _) (fun t => rfl)
noncomputable def F_vec_near (n : Int) : Option (Int) := Option.bind (F_num_Clamp n (-(1048576 : Int)) (1048576 : Int)) fun t => some t
noncomputable def enc124 (t : Int) : CR := ⟨true, (i64 t), [], []⟩
noncomputable def ks124 : List SK := [.f (.int .i64)]
noncomputable def A124 (us : List AVal) := F_vec_near (toI (cIa us 0))
noncomputable def S124 (us : List AVal) : Call := bif chkA ks124 us then Call.of (A124 us) enc124 else Call.none
noncomputable def C124 := AI.ext 124 S124 C72
theorem run124 (n : Int) : fcall TT TU GL0 C72 ownF true noL Tryz.f124 [(i64 n)] = (F_vec_near n).bind fun t => some (enc124 t) :=
 Eq.trans (by kernel_rfl) (nb fun t => rfl)
theorem lib124 : Lib Tryz.prog GL0 C124 :=
 Lib.fn lib72 mixed TT_ok Tryz.func124 (by decide +kernel) (by kernel_rfl) true noL (loops_of 0 (by kernel_rfl) below0) ks124 (F := A124) (fun us => rfl) (fun us => run124 _) (fun t => rfl)
noncomputable def F_vec_nearest (zF zG : Int) : Option (Int × Int) := Option.bind (F_vec_near zF) fun t => Option.bind (F_vec_near zG) fun t1 => some (t, t1)
noncomputable def enc126 (t : Int × Int) : CR := ⟨true, (.agg [(.sc (.int .i64 t.1)), (.sc (.int .i64 t.2))]), [], []⟩
noncomputable def ks126 : List SK := [.agg [.int .i64, .int .i64]]
noncomputable def A126 (us : List AVal) := F_vec_nearest (aI us 0 0) (aI us 0 1)
noncomputable def S126 (us : List AVal) : Call := bif chkA ks126 us then Call.of (A126 us) enc126 else Call.none
noncomputable def C126 := AI.ext 126 S126 C124
theorem run126 (zF zG : Int) : fcall TT TU GL0 C124 ownF true noL Tryz.f126 [(.agg [(i64 zF), (i64 zG)])] = (F_vec_nearest zF zG).bind fun t => some (enc126 t) :=
 Eq.trans (by kernel_rfl) (nb fun t => (nb fun t1 => rfl))
theorem lib126 : Lib Tryz.prog GL0 C126 :=
 Lib.fn lib124 mixed TT_ok Tryz.func126 (by decide +kernel) (by kernel_rfl) true noL (loops_of 0 (by kernel_rfl) below0) ks126 (F := A126) (fun us => rfl) (fun us => run126 _ _) (fun t => rfl)
noncomputable def F_vec_dot (zF zG zR zS : Int) : Option (Int) := some (wr ((wr (zF * zR)) + (wr (zG * zS))))
noncomputable def enc170 (t : Int) : CR := ⟨true, (i64 t), [], []⟩
noncomputable def ks170 : List SK := [.agg [.int .i64, .int .i64], .agg [.int .i64, .int .i64]]
noncomputable def A170 (us : List AVal) := F_vec_dot (aI us 0 0) (aI us 0 1) (aI us 1 0) (aI us 1 1)
noncomputable def S170 (us : List AVal) : Call := bif chkA ks170 us then Call.of (A170 us) enc170 else Call.none
noncomputable def C170 := AI.ext 170 S170 C126
theorem run170 (zF zG zR zS : Int) : fcall TT TU GL0 C126 ownF true noL Tryz.f170 [(.agg [(i64 zF), (i64 zG)]), (.agg [(i64 zR), (i64 zS)])] = (F_vec_dot zF zG zR zS).bind fun t => some (enc170 t) :=
 Eq.trans (by kernel_rfl) rfl
theorem lib170 : Lib Tryz.prog GL0 C170 :=
 Lib.fn lib126 mixed TT_ok Tryz.func170 (by decide +kernel) (by kernel_rfl) true noL (loops_of 0 (by kernel_rfl) below0) ks170 (F := A170) (fun us => rfl) (fun us => run170 _ _ _ _) (fun t => rfl)
noncomputable def F_vec_apart (zF zG zR zS : Int) : Option (Int × Int × Int) := Option.bind (F_vec_dot (wr (zR - zF)) (wr (zS - zG)) (wr (zR - zF)) (wr (zS - zG))) fun t => some ((wr (zR - zF)), (wr (zS - zG)), t)
noncomputable def enc125 (t : Int × Int × Int) : CR := ⟨true, (.tup [(.agg [(.sc (.int .i64 t.1)), (.sc (.int .i64 t.2.1))]), (.sc (.int .i64 t.2.2))]), [], []⟩
noncomputable def ks125 : List SK := [.agg [.int .i64, .int .i64], .agg [.int .i64, .int .i64]]
noncomputable def A125 (us : List AVal) := F_vec_apart (aI us 0 0) (aI us 0 1) (aI us 1 0) (aI us 1 1)
noncomputable def S125 (us : List AVal) : Call := bif chkA ks125 us then Call.of (A125 us) enc125 else Call.none
noncomputable def C125 := AI.ext 125 S125 C170
theorem run125 (zF zG zR zS : Int) : fcall TT TU GL0 C170 ownF true noL Tryz.f125 [(.agg [(i64 zF), (i64 zG)]), (.agg [(i64 zR), (i64 zS)])] = (F_vec_apart zF zG zR zS).bind fun t => some (enc125 t) :=
 Eq.trans (by kernel_rfl) (nb fun t => rfl)
theorem lib125 : Lib Tryz.prog GL0 C125 :=
 Lib.fn lib170 mixed TT_ok Tryz.func125 (by decide +kernel) (by kernel_rfl) true noL (loops_of 0 (by kernel_rfl) below0) ks125 (F := A125) (fun us => rfl) (fun us => run125 _ _ _ _) (fun t => rfl)
noncomputable def F_vec_Within (zF zG zR zS r1 : Int) : Option (Bool) := Option.bind (F_vec_near r1) fun t => Option.bind (F_vec_nearest zF zG) fun t1 => Option.bind (F_vec_nearest zR zS) fun t2 => Option.bind (F_vec_apart t1.1 t1.2 t2.1 t2.2) fun t3 => bif (decide (t ≥ (0 : Int))) then some (decide (t3.2.2 ≤ (wr (t * t)))) else some false
noncomputable def enc73 (t : Bool) : CR := ⟨true, (bo t), [], []⟩
noncomputable def ks73 : List SK := [.agg [.int .i64, .int .i64], .agg [.int .i64, .int .i64], .f (.int .i64)]
noncomputable def A73 (us : List AVal) := F_vec_Within (aI us 0 0) (aI us 0 1) (aI us 1 0) (aI us 1 1) (toI (cIa us 2))
noncomputable def S73 (us : List AVal) : Call := bif chkA ks73 us then Call.of (A73 us) enc73 else Call.none
noncomputable def C73 := AI.ext 73 S73 C125
theorem run73 (zF zG zR zS r1 : Int) : fcall TT TU GL0 C125 ownF true noL Tryz.f73 [(.agg [(i64 zF), (i64 zG)]), (.agg [(i64 zR), (i64 zS)]), (i64 r1)] = (F_vec_Within zF zG zR zS r1).bind fun t => some (enc73 t) :=
 Eq.trans (by kernel_rfl) (nb fun t => (nb fun t1 => (nb fun t2 => (nb fun t3 => (nd rfl rfl rfl)))))
theorem lib73 : Lib Tryz.prog GL0 C73 :=
 Lib.fn lib125 mixed TT_ok Tryz.func73 (by decide +kernel) (by kernel_rfl) true noL (loops_of 0 (by kernel_rfl) below0) ks73 (F := A73) (fun us => rfl) (fun us => run73 _ _ _ _ _) (fun t => rfl)
noncomputable def F_terrain_validCell (zQ zO zK : Int) : Option (Bool) := bif (decide (zQ < (1 : Int))) then some false else bif (decide (zQ > (5 : Int))) then some false else bif (decide (zO < (0 : Int))) then some false else bif (decide (zO > (3 : Int))) then some false else bif (decide (zK < (0 : Int))) then some false else bif (decide (zK > (1000000 : Int))) then some false else bif (zQ == (4 : Int)) then some ((decide (zK > (0 : Int))) == true) else some ((decide (zK > (0 : Int))) == (zQ == (5 : Int)))
noncomputable def enc173 (t : Bool) : CR := ⟨true, (bo t), [], []⟩
noncomputable def ks173 : List SK := [.agg [.int .i64, .int .i64, .int .i64]]
noncomputable def A173 (us : List AVal) := F_terrain_validCell (aI us 0 0) (aI us 0 1) (aI us 0 2)
noncomputable def S173 (us : List AVal) : Call := bif chkA ks173 us then Call.of (A173 us) enc173 else Call.none
noncomputable def C173 := AI.ext 173 S173 C73
theorem run173 (zQ zO zK : Int) : fcall TT TU GL0 C73 ownF true noL Tryz.f173 [(.agg [(i64 zQ), (i64 zO), (i64 zK)])] = (F_terrain_validCell zQ zO zK).bind fun t => some (enc173 t) :=
 Eq.trans (by kernel_rfl) (nd rfl rfl (nd rfl rfl (nd rfl rfl (nd rfl rfl (nd rfl rfl (nd rfl rfl (nd rfl rfl rfl)))))))
theorem lib173 : Lib Tryz.prog GL0 C173 :=
 Lib.fn lib73 mixed TT_ok Tryz.func173 (by decide +kernel) (by kernel_rfl) true noL (loops_of 0 (by kernel_rfl) below0) ks173 (F := A173) (fun us => rfl) (fun us => run173 _ _ _) (fun t => rfl)
noncomputable def F_terrain_Valid_1 (zQ zO zK : Int) : Option (Bool) := Option.bind (F_terrain_validCell zQ zO zK) fun t => some (!t)
noncomputable def enc172 (t : Bool) : CR := ⟨true, (bo t), [], []⟩
noncomputable def ks172 : List SK := [.agg [.int .i64, .int .i64, .int .i64]]
noncomputable def A172 (us : List AVal) := F_terrain_Valid_1 (aI us 0 0) (aI us 0 1) (aI us 0 2)
noncomputable def S172 (us : List AVal) : Call := bif chkA ks172 us then Call.of (A172 us) enc172 else Call.none
noncomputable def C172 := AI.ext 172 S172 C173
theorem run172 (zQ zO zK : Int) : fcall TT TU GL0 C173 ownF true noL Tryz.f172 [(.agg [(i64 zQ), (i64 zO), (i64 zK)])] = (F_terrain_Valid_1 zQ zO zK).bind fun t => some (enc172 t) :=
 Eq.trans (by kernel_rfl) (nb fun t => rfl)
theorem lib172 : Lib Tryz.prog GL0 C172 :=
 Lib.fn lib173 mixed TT_ok Tryz.func172 (by decide +kernel) (by kernel_rfl) true noL (loops_of 0 (by kernel_rfl) below0) ks172 (F := A172) (fun us => rfl) (fun us => run172 _ _ _) (fun t => rfl)
noncomputable def W189_0 : Ex → List Bool
 | .ret => (e4 (true :: (e4 (e4 (e4 [false, false])))))
 | .exit n => bif Nat.beq n 0 then (e16 [false, false, false]) else []
 | .normal => []
noncomputable def G_slices_IndexFunc_Cell_0 (s1 : LL) (x7 : Int) : Nat → Int → Option (Bool × Int)
 | 0, _ => none
 | m + 1, x8 => bif (decide (x8 < x7)) then bif (decide ((0 : Int) ≤ x8)) then Option.bind (s1[x8.toNat]?) fun r => bif (chk y3 r) then Option.bind (F_terrain_Valid_1 (cI r 0) (cI r 1) (cI r 2)) fun t => bif t then some (true, x8) else
 G_slices_IndexFunc_Cell_0 s1 x7 m (wr (x8 + (1 : Int))) else none else none else some (false, 0)
noncomputable def E189_0 (s1 : LL) (x7 x8 : Int) : St := ⟨((.ro 3 s1) :: (.clo 172 []) :: (d4 (.dead :: ((i64 x7) :: (i64 x8) :: (d4 (d4 [.dead, .dead])))))), []⟩
noncomputable def X189_0 (k : Ex → St → Option CR) (t : Bool × Int) : Option CR := bif t.1 then k .ret ⟨(d4 ((.sc (.int .i64 t.2)) :: (d4 (d4 (d4 [.dead, .dead]))))), []⟩ else k (.exit 0) ⟨(d16 [.dead, .dead, .dead]), []⟩
noncomputable def ks189_0 : List SK := (.f (.ro 3) :: .f (.clo 172 []) :: (f4 (.f .dead :: (.f (.int .i64) :: .f (.int .i64) :: (f4 (f4 [.f .dead, .f .dead]))))))
noncomputable def hs189_0 : List HK := []
noncomputable def Lm189_0 (s : St) (k : Ex → St → Option CR) : Option CR := bif chkS ks189_0 hs189_0 s then (G_slices_IndexFunc_Cell_0 (sR s 0) (sI s 7) FU (sI s 8)).bind (X189_0 k) else none
noncomputable def L189_0 (s : St) (k : Ex → St → Option CR) : Option CR := Lm189_0 (maskS (maskOf ks189_0) s) k
noncomputable def L189 : LT' := fun i s k => bif Nat.beq i 0 then L189_0 s k else none
noncomputable def F_slices_IndexFunc_Cell (s1 : LL) : Option (Int) := Option.bind (G_slices_IndexFunc_Cell_0 s1 (Int.ofNat s1.length) FU (0 : Int)) fun t => bif t.1 then some t.2 else some (-(1 : Int))
noncomputable def enc189 (t : Int) : CR := ⟨true, (i64 t), [], []⟩
noncomputable def ks189 : List SK := [.f (.ro 3), .f (.clo 172 [])]
noncomputable def A189 (us : List AVal) := F_slices_IndexFunc_Cell (roRows (cIa us 0))
noncomputable def S189 (us : List AVal) : Call := bif chkA ks189 us then Call.of (A189 us) enc189 else Call.none
noncomputable def C189 := AI.ext 189 S189 C172
@[reducible] noncomputable def B189_0 := bodyOf TT TU GL0 C172 ownF L189 (lp Tryz.f189 0)
@[reducible] noncomputable def K189_0 (k : Ex → St → Option CR) : Ex → St → Option CR := fun e s => k e (maskS (W189_0 e) s)
theorem spec189_0 (k : Ex → St → Option CR) : ∀ (m : Nat) (s1 : LL) (x7 x8 : Int), loopN B189_0 m (E189_0 s1 x7 x8) (K189_0 k) = (G_slices_IndexFunc_Cell_0 s1 x7 m x8).bind (X189_0 k)
 | 0, _, _, _ => rfl
 | m + 1, s1, x7, x8 =>
 Eq.trans (by kernel_rfl) (nd rfl (nd rfl (nb fun r => (nd rfl (nb fun t => (nd rfl rfl (spec189_0 k m s1 x7 (wr (x8 + (1 : Int)))))) rfl)) rfl) rfl)
theorem okL189_0 : LoopOk TT TU GL0 C172 ownF L189 (lp Tryz.f189 0) :=
 loopOk_of ks189_0 hs189_0 W189_0 FU _ (fun s k => by kernel_rfl) (fun s k => spec189_0 k FU (sR s 0) (sI s 7) (sI s 8))
theorem run189 (s1 : LL) : fcall TT TU GL0 C172 ownF false L189 Tryz.f189 [(.ro 3 s1), (.clo 172 [])] = (F_slices_IndexFunc_Cell s1).bind fun t => some (enc189 t) :=
 Eq.trans (by kernel_rfl) (nb fun t => (nd rfl rfl rfl))
theorem lib189 : Lib Tryz.prog GL0 C189 :=
 Lib.fn lib172 mixed TT_ok Tryz.func189 (by decide +kernel) (by kernel_rfl) false L189 (loops_of 1 (by kernel_rfl) (belowS below0 okL189_0)) ks189 (F := A189) (fun us => rfl) (fun us => run189 _) (fun t => rfl)
noncomputable def F_slices_ContainsFunc_Cell (s1 : LL) : Option (Bool) := Option.bind (F_slices_IndexFunc_Cell s1) fun t => some (decide (t ≥ (0 : Int)))
noncomputable def enc171 (t : Bool) : CR := ⟨true, (bo t), [], []⟩
noncomputable def ks171 : List SK := [.f (.ro 3), .f (.clo 172 [])]
noncomputable def A171 (us : List AVal) := F_slices_ContainsFunc_Cell (roRows (cIa us 0))
noncomputable def S171 (us : List AVal) : Call := bif chkA ks171 us then Call.of (A171 us) enc171 else Call.none
noncomputable def C171 := AI.ext 171 S171 C189
theorem run171 (s1 : LL) : fcall TT TU GL0 C189 ownF false noL Tryz.f171 [(.ro 3 s1), (.clo 172 [])] = (F_slices_ContainsFunc_Cell s1).bind fun t => some (enc171 t) :=
 Eq.trans (by kernel_rfl) (nb fun t => rfl)
theorem lib171 : Lib Tryz.prog GL0 C171 :=
 Lib.fn lib189 mixed TT_ok Tryz.func171 (by decide +kernel) (by kernel_rfl) false noL (loops_of 0 (by kernel_rfl) below0) ks171 (F := A171) (fun us => rfl) (fun us => run171 _) (fun t => rfl)
noncomputable def F_terrain_Valid (zM zN : Int) (zx : LL) : Option (Bool) := Option.bind (F_terrain_formed zM zN zx) fun t => bif t then Option.bind (F_slices_ContainsFunc_Cell zx) fun t1 => some (!t1) else some false
noncomputable def enc127 (t : Bool) : CR := ⟨true, (bo t), [], []⟩
noncomputable def ks127 : List SK := [.agg [.int .i64, .int .i64, .ro 3]]
noncomputable def A127 (us : List AVal) := F_terrain_Valid (aI us 0 0) (aI us 0 1) (aR us 0 2)
noncomputable def S127 (us : List AVal) : Call := bif chkA ks127 us then Call.of (A127 us) enc127 else Call.none
noncomputable def C127 := AI.ext 127 S127 C171
theorem run127 (zM zN : Int) (zx : LL) : fcall TT TU GL0 C171 ownF true noL Tryz.f127 [(.agg [(i64 zM), (i64 zN), (.ro 3 zx)])] = (F_terrain_Valid zM zN zx).bind fun t => some (enc127 t) :=
 Eq.trans (by kernel_rfl) (nb fun t => (nd rfl (nb fun t1 => rfl) rfl))
theorem lib127 : Lib Tryz.prog GL0 C127 :=
 Lib.fn lib171 mixed TT_ok Tryz.func127 (by decide +kernel) (by kernel_rfl) true noL (loops_of 0 (by kernel_rfl) below0) ks127 (F := A127) (fun us => rfl) (fun us => run127 _ _ _) (fun t => rfl)
noncomputable def F_slices_Clone_Cell_ne (s1 : LL) : Option (LL) := bif (List.isEmpty s1) then none else bif (roomOk (0 + s1.length) 24) then some s1 else none
noncomputable def F_slices_Clone_Cell (s1 : LL) : Option (LL) := bif s1.isEmpty then some [] else F_slices_Clone_Cell_ne s1
noncomputable def enc174 (t : LL) : CR := ⟨true, (.slc 0 (t).length), [], [⟨.arr, 54, 3, t⟩]⟩
noncomputable def S174 (us : List AVal) : Call := bif chkA [.f (.ro 3)] us then Call.of (F_slices_Clone_Cell (roRows (cIa us 0))) enc174 else Call.none
noncomputable def C174 := AI.ext 174 S174 C127
theorem run174 (s1 : LL) : fcall TT TU GL0 C127 ownF true noL Tryz.f174 [(.ro 3 s1)] = (F_slices_Clone_Cell_ne s1).bind fun t => some (enc174 t) :=
 Eq.trans (by kernel_rfl) (nd rfl rfl (nd rfl (nu (vr s1) rfl) rfl))
theorem lib174 : Lib Tryz.prog GL0 C174 :=
 Lib.clone lib127 mixed TT_ok Tryz.func174 (by decide +kernel) (by kernel_rfl) true noL (loops_of 0 (by kernel_rfl) below0)  3 (fun us => rfl) run174 (fun a cap => by cases a <;> kernel_rfl) (fun t => rfl)
noncomputable def F_terrain_with (zM zN : Int) (zx : LL) (zI zJ zQ zO zK : Int) : Option (LL × Int × Int) := Option.bind (F_slices_Clone_Cell zx) fun t => Option.bind (F_grid_Index zM zI zJ) fun t1 => bif ((decide ((0 : Int) ≤ t1)) && (decide (t1 < (Int.ofNat t.length)))) then some ((List.set t t1.toNat [(i64 zQ), (i64 zO), (i64 zK)]), zM, zN) else none
noncomputable def enc128 (t : LL × Int × Int) : CR := ⟨true, (.agg [(.sc (.int .i64 t.2.1)), (.sc (.int .i64 t.2.2)), (.slc 0 (t.1).length)]), [], [⟨.arr, 54, 3, t.1⟩]⟩
noncomputable def ks128 : List SK := [.agg [.int .i64, .int .i64, .ro 3], .agg [.int .i64, .int .i64], .agg [.int .i64, .int .i64, .int .i64]]
noncomputable def A128 (us : List AVal) := F_terrain_with (aI us 0 0) (aI us 0 1) (aR us 0 2) (aI us 1 0) (aI us 1 1) (aI us 2 0) (aI us 2 1) (aI us 2 2)
noncomputable def S128 (us : List AVal) : Call := bif chkA ks128 us then Call.of (A128 us) enc128 else Call.none
noncomputable def C128 := AI.ext 128 S128 C174
theorem run128 (zM zN : Int) (zx : LL) (zI zJ zQ zO zK : Int) : fcall TT TU GL0 C174 ownF true noL Tryz.f128 [(.agg [(i64 zM), (i64 zN), (.ro 3 zx)]), (.agg [(i64 zI), (i64 zJ)]), (.agg [(i64 zQ), (i64 zO), (i64 zK)])] = (F_terrain_with zM zN zx zI zJ zQ zO zK).bind fun t => some (enc128 t) :=
 Eq.trans (by kernel_rfl) (nb fun t => (nu (show ((((true && (verEq t.length t.length)) && true) && true) && true) = true from (n_andL (n_andL (n_andL (n_andL rfl (verEq_rfl _)) rfl) rfl) rfl)) (nb fun t1 => (nd (show ((((verEq t.length t.length) && (decide ((0 : Int) ≤ t1))) && (decide (t1 < (Int.ofNat t.length))))) = _ from (n_and (n_andL (verEq_rfl _) rfl) rfl)) (nu (show ((((verEq t.length t.length) && true) && true) && true) = true from (n_andL (n_andL (n_andL (verEq_rfl _) rfl) rfl) rfl)) (nu (show (verEq (Blk.rows (Blk.mk BKind.arr 54 3 (List.set t t1.toNat [(i64 zQ), (i64 zO), (i64 zK)]))).length t.length) = true from (by first | exact verEq_of rfl | simp [verEq, blkLen, blkAt])) rfl)) rfl))))
theorem lib128 : Lib Tryz.prog GL0 C128 :=
 Lib.fn lib174 mixed TT_ok Tryz.func128 (by decide +kernel) (by kernel_rfl) true noL (loops_of 0 (by kernel_rfl) below0) ks128 (F := A128) (fun us => rfl) (fun us => run128 _ _ _ _ _ _ _ _) (fun t => rfl)
noncomputable def F_terrain_Take (zM zN : Int) (zx : LL) (zI zJ n : Int) : Option (LL × Int × Int × Int × Int) := Option.bind (F_terrain_Valid zM zN zx) fun t => bif (!t) then some ([], (0 : Int), (0 : Int), (0 : Int), (1 : Int)) else bif (decide (n < (1 : Int))) then some ([], (0 : Int), (0 : Int), (0 : Int), (1 : Int)) else Option.bind (F_terrain_Get zM zN zx zI zJ) fun t1 => bif (!t1.2.2.2) then some ([], (0 : Int), (0 : Int), (0 : Int), (8 : Int)) else bif (t1.2.2.1 == (0 : Int)) then some ([], (0 : Int), (0 : Int), (0 : Int), (8 : Int)) else bif ((wr (t1.2.2.1 - (minI n t1.2.2.1))) == (0 : Int)) then Option.bind (F_terrain_with zM zN zx zI zJ (1 : Int) t1.2.1 (wr (t1.2.2.1 - (minI n t1.2.2.1)))) fun t2 => some (t2.1, t2.2.1, t2.2.2, (minI n t1.2.2.1), (0 : Int)) else Option.bind (F_terrain_with zM zN zx zI zJ t1.1 t1.2.1 (wr (t1.2.2.1 - (minI n t1.2.2.1)))) fun t3 => some (t3.1, t3.2.1, t3.2.2, (minI n t1.2.2.1), (0 : Int))
noncomputable def enc74 (t : LL × Int × Int × Int × Int) : CR := ⟨true, (.tup [(.agg [(.sc (.int .i64 t.2.1)), (.sc (.int .i64 t.2.2.1)), (.slc 0 (t.1).length)]), (.sc (.int .i64 t.2.2.2.1)), (.sc (.int .i64 t.2.2.2.2))]), [], [⟨.arr, 54, 3, t.1⟩]⟩
noncomputable def ks74 : List SK := [.agg [.int .i64, .int .i64, .ro 3], .agg [.int .i64, .int .i64], .f (.int .i64)]
noncomputable def A74 (us : List AVal) := F_terrain_Take (aI us 0 0) (aI us 0 1) (aR us 0 2) (aI us 1 0) (aI us 1 1) (toI (cIa us 2))
noncomputable def S74 (us : List AVal) : Call := bif chkA ks74 us then Call.of (A74 us) enc74 else Call.none
noncomputable def C74 := AI.ext 74 S74 C128
theorem run74 (zM zN : Int) (zx : LL) (zI zJ n : Int) : fcall TT TU GL0 C128 ownF true noL Tryz.f74 [(.agg [(i64 zM), (i64 zN), (.ro 3 zx)]), (.agg [(i64 zI), (i64 zJ)]), (i64 n)] = (F_terrain_Take zM zN zx zI zJ n).bind fun t => some (enc74 t) :=
 Eq.trans (by kernel_rfl) (nb fun t => (nd rfl rfl (nd rfl rfl (nb fun t1 => (nd rfl rfl (nd rfl rfl (nd rfl (nb fun t2 => (nu (show ((((true && (verEq t2.1.length t2.1.length)) && true) && true) && true) = true from (n_andL (n_andL (n_andL (n_andL rfl (verEq_rfl _)) rfl) rfl) rfl)) (nu (show (verEq t2.1.length t2.1.length) = true from (verEq_rfl _)) rfl))) (nb fun t3 => (nu (show ((((true && (verEq t3.1.length t3.1.length)) && true) && true) && true) = true from (n_andL (n_andL (n_andL (n_andL rfl (verEq_rfl _)) rfl) rfl) rfl)) (nu (show (verEq t3.1.length t3.1.length) = true from (verEq_rfl _)) rfl))))))))))
theorem lib74 : Lib Tryz.prog GL0 C74 :=
 Lib.fn lib128 mixed TT_ok Tryz.func74 (by decide +kernel) (by kernel_rfl) true noL (loops_of 0 (by kernel_rfl) below0) ks74 (F := A74) (fun us => rfl) (fun us => run74 _ _ _ _ _ _) (fun t => rfl)
noncomputable def F_entity_find_1 (zE zw : Int) (zy : ByteArray) (zu zv zH zC zA zD zB : Int) (zt zz : LL) (a1 : Int) : Option (Bool) := some (zE == a1)
noncomputable def enc108 (t : Bool) : CR := ⟨true, (bo t), [], []⟩
noncomputable def ks108 : List SK := [.agg [.int .i64, .int .i64, .str, .int .i64, .int .i64, .int .i64, .int .i64, .int .i64, .int .i64, .int .i64, .ro 5, .ro 3], .rptr [.int .i64]]
noncomputable def A108 (us : List AVal) := F_entity_find_1 (aI us 0 0) (aI us 0 1) (aS us 0 2) (aI us 0 3) (aI us 0 4) (aI us 0 5) (aI us 0 6) (aI us 0 7) (aI us 0 8) (aI us 0 9) (aR us 0 10) (aR us 0 11) (toI (cIa (rptrL (cIa us 1)) 0))
noncomputable def S108 (us : List AVal) : Call := bif chkA ks108 us then Call.of (A108 us) enc108 else Call.none
noncomputable def C108 := AI.ext 108 S108 C74
theorem run108 (zE zw : Int) (zy : ByteArray) (zu zv zH zC zA zD zB : Int) (zt zz : LL) (a1 : Int) : fcall TT TU GL0 C74 ownF true noL Tryz.f108 [(.agg [(i64 zE), (i64 zw), (.sc (.string zy)), (i64 zu), (i64 zv), (i64 zH), (i64 zC), (i64 zA), (i64 zD), (i64 zB), (.ro 5 zt), (.ro 3 zz)]), (.rptr [(i64 a1)])] = (F_entity_find_1 zE zw zy zu zv zH zC zA zD zB zt zz a1).bind fun t => some (enc108 t) :=
 Eq.trans (by kernel_rfl) rfl
theorem lib108 : Lib Tryz.prog GL0 C108 :=
 Lib.fn lib74 mixed TT_ok Tryz.func108 (by decide +kernel) (by kernel_rfl) true noL (loops_of 0 (by kernel_rfl) below0) ks108 (F := A108) (fun us => rfl) (fun us => run108 _ _ _ _ _ _ _ _ _ _ _ _ _) (fun t => rfl)
noncomputable def W107_0 : Ex → List Bool
 | .ret => (e4 (true :: (e4 (e4 (e4 [false, false])))))
 | .exit n => bif Nat.beq n 0 then (e16 [false, false, false]) else []
 | .normal => []
noncomputable def G_slices_IndexFunc_Entity_0 (s1 : LL) (f_0_0 x7 : Int) : Nat → Int → Option (Bool × Int)
 | 0, _ => none
 | m + 1, x8 => bif (decide (x8 < x7)) then bif (decide ((0 : Int) ≤ x8)) then Option.bind (s1[x8.toNat]?) fun r => bif (chk y6 r) then Option.bind (F_entity_find_1 (cI r 0) (cI r 1) (cS r 2) (cI r 3) (cI r 4) (cI r 5) (cI r 6) (cI r 7) (cI r 8) (cI r 9) (roRows (AVal.ro 5 (cR r 10))) (roRows (AVal.ro 3 (cR r 11))) f_0_0) fun t => bif t then some (true, x8) else
 G_slices_IndexFunc_Entity_0 s1 f_0_0 x7 m (wr (x8 + (1 : Int))) else none else none else some (false, 0)
noncomputable def E107_0 (s1 : LL) (f_0_0 x7 x8 : Int) : St := ⟨((.ro 12 s1) :: (.clo 108 [(.rptr [(i64 f_0_0)])]) :: (d4 (.dead :: ((i64 x7) :: (i64 x8) :: (d4 (d4 [.dead, .dead])))))), []⟩
noncomputable def X107_0 (k : Ex → St → Option CR) (t : Bool × Int) : Option CR := bif t.1 then k .ret ⟨(d4 ((.sc (.int .i64 t.2)) :: (d4 (d4 (d4 [.dead, .dead]))))), []⟩ else k (.exit 0) ⟨(d16 [.dead, .dead, .dead]), []⟩
noncomputable def ks107_0 : List SK := (.f (.ro 12) :: .f (.clo 108 [[.int .i64]]) :: (f4 (.f .dead :: (.f (.int .i64) :: .f (.int .i64) :: (f4 (f4 [.f .dead, .f .dead]))))))
noncomputable def hs107_0 : List HK := []
noncomputable def Lm107_0 (s : St) (k : Ex → St → Option CR) : Option CR := bif chkS ks107_0 hs107_0 s then (G_slices_IndexFunc_Entity_0 (sR s 0) (toI (cIa (rptrL (cIa (cloL (cIa s.tmps 1)) 0)) 0)) (sI s 7) FU (sI s 8)).bind (X107_0 k) else none
noncomputable def L107_0 (s : St) (k : Ex → St → Option CR) : Option CR := Lm107_0 (maskS (maskOf ks107_0) s) k
noncomputable def L107 : LT' := fun i s k => bif Nat.beq i 0 then L107_0 s k else none
noncomputable def F_slices_IndexFunc_Entity (s1 : LL) (f_0 : Int) : Option (Int) := Option.bind (G_slices_IndexFunc_Entity_0 s1 f_0 (Int.ofNat s1.length) FU (0 : Int)) fun t => bif t.1 then some t.2 else some (-(1 : Int))
noncomputable def enc107 (t : Int) : CR := ⟨true, (i64 t), [], []⟩
noncomputable def ks107 : List SK := [.f (.ro 12), .f (.clo 108 [[.int .i64]])]
noncomputable def A107 (us : List AVal) := F_slices_IndexFunc_Entity (roRows (cIa us 0)) (toI (cIa (rptrL (cIa (cloL (cIa us 1)) 0)) 0))
noncomputable def S107 (us : List AVal) : Call := bif chkA ks107 us then Call.of (A107 us) enc107 else Call.none
noncomputable def C107 := AI.ext 107 S107 C108
@[reducible] noncomputable def B107_0 := bodyOf TT TU GL0 C108 ownF L107 (lp Tryz.f107 0)
@[reducible] noncomputable def K107_0 (k : Ex → St → Option CR) : Ex → St → Option CR := fun e s => k e (maskS (W107_0 e) s)
theorem spec107_0 (k : Ex → St → Option CR) : ∀ (m : Nat) (s1 : LL) (f_0_0 x7 x8 : Int), loopN B107_0 m (E107_0 s1 f_0_0 x7 x8) (K107_0 k) = (G_slices_IndexFunc_Entity_0 s1 f_0_0 x7 m x8).bind (X107_0 k)
 | 0, _, _, _, _ => rfl
 | m + 1, s1, f_0_0, x7, x8 =>
 Eq.trans (by kernel_rfl) (nd rfl (nd rfl (nb fun r => (nd rfl (nb fun t => (nd rfl rfl (spec107_0 k m s1 f_0_0 x7 (wr (x8 + (1 : Int)))))) rfl)) rfl) rfl)
theorem okL107_0 : LoopOk TT TU GL0 C108 ownF L107 (lp Tryz.f107 0) :=
 loopOk_of ks107_0 hs107_0 W107_0 FU _ (fun s k => by kernel_rfl) (fun s k => spec107_0 k FU (sR s 0) (toI (cIa (rptrL (cIa (cloL (cIa s.tmps 1)) 0)) 0)) (sI s 7) (sI s 8))
theorem run107 (s1 : LL) (f_0 : Int) : fcall TT TU GL0 C108 ownF false L107 Tryz.f107 [(.ro 12 s1), (.clo 108 [(.rptr [(i64 f_0)])])] = (F_slices_IndexFunc_Entity s1 f_0).bind fun t => some (enc107 t) :=
 Eq.trans (by kernel_rfl) (nb fun t => (nd rfl rfl rfl))
theorem lib107 : Lib Tryz.prog GL0 C107 :=
 Lib.fn lib108 mixed TT_ok Tryz.func107 (by decide +kernel) (by kernel_rfl) false L107 (loops_of 1 (by kernel_rfl) (belowS below0 okL107_0)) ks107 (F := A107) (fun us => rfl) (fun us => run107 _ _) (fun t => rfl)
noncomputable def F_entity_find (l : LL) (id : Int) : Option (Int) := Option.bind (F_slices_IndexFunc_Entity l id) fun t => some t
noncomputable def enc61 (t : Int) : CR := ⟨true, (i64 t), [], []⟩
noncomputable def ks61 : List SK := [.f (.ro 12), .f (.int .i64)]
noncomputable def A61 (us : List AVal) := F_entity_find (roRows (cIa us 0)) (toI (cIa us 1))
noncomputable def S61 (us : List AVal) : Call := bif chkA ks61 us then Call.of (A61 us) enc61 else Call.none
noncomputable def C61 := AI.ext 61 S61 C107
theorem run61 (l : LL) (id : Int) : fcall TT TU GL0 C107 ownRo false noL Tryz.f61 [(.ro 12 l), (i64 id)] = (F_entity_find l id).bind fun t => some (enc61 t) :=
 Eq.trans (by kernel_rfl) (nb fun t => rfl)
theorem lib61 : Lib Tryz.prog GL0 C61 :=
 Lib.fn lib107 mixed TT_ok Tryz.func61 (by decide +kernel) (by kernel_rfl) false noL (loops_of 0 (by kernel_rfl) below0) ks61 (F := A61) (fun us => rfl) (fun us => run61 _ _) (fun t => rfl)
noncomputable def F_slices_Clone_Order_ne (s1 : LL) : Option (LL) := bif (List.isEmpty s1) then none else bif (roomOk (0 + s1.length) 48) then some s1 else none
noncomputable def F_slices_Clone_Order (s1 : LL) : Option (LL) := bif s1.isEmpty then some [] else F_slices_Clone_Order_ne s1
noncomputable def enc109 (t : LL) : CR := ⟨true, (.slc 0 (t).length), [], [⟨.arr, 104, 5, t⟩]⟩
noncomputable def S109 (us : List AVal) : Call := bif chkA [.f (.ro 5)] us then Call.of (F_slices_Clone_Order (roRows (cIa us 0))) enc109 else Call.none
noncomputable def C109 := AI.ext 109 S109 C61
theorem run109 (s1 : LL) : fcall TT TU GL0 C61 ownF true noL Tryz.f109 [(.ro 5 s1)] = (F_slices_Clone_Order_ne s1).bind fun t => some (enc109 t) :=
 Eq.trans (by kernel_rfl) (nd rfl rfl (nd rfl (nu (vr s1) rfl) rfl))
theorem lib109 : Lib Tryz.prog GL0 C109 :=
 Lib.clone lib61 mixed TT_ok Tryz.func109 (by decide +kernel) (by kernel_rfl) true noL (loops_of 0 (by kernel_rfl) below0)  5 (fun us => rfl) run109 (fun a cap => by cases a <;> kernel_rfl) (fun t => rfl)
noncomputable def F_slices_Clone_Job_ne (s1 : LL) : Option (LL) := bif (List.isEmpty s1) then none else bif (roomOk (0 + s1.length) 32) then some s1 else none
noncomputable def F_slices_Clone_Job (s1 : LL) : Option (LL) := bif s1.isEmpty then some [] else F_slices_Clone_Job_ne s1
noncomputable def enc110 (t : LL) : CR := ⟨true, (.slc 0 (t).length), [], [⟨.arr, 163, 3, t⟩]⟩
noncomputable def S110 (us : List AVal) : Call := bif chkA [.f (.ro 3)] us then Call.of (F_slices_Clone_Job (roRows (cIa us 0))) enc110 else Call.none
noncomputable def C110 := AI.ext 110 S110 C109
theorem run110 (s1 : LL) : fcall TT TU GL0 C109 ownF true noL Tryz.f110 [(.ro 3 s1)] = (F_slices_Clone_Job_ne s1).bind fun t => some (enc110 t) :=
 Eq.trans (by kernel_rfl) (nd rfl rfl (nd rfl (nu (vr s1) rfl) rfl))
theorem lib110 : Lib Tryz.prog GL0 C110 :=
 Lib.clone lib109 mixed TT_ok Tryz.func110 (by decide +kernel) (by kernel_rfl) true noL (loops_of 0 (by kernel_rfl) below0)  3 (fun us => rfl) run110 (fun a cap => by cases a <;> kernel_rfl) (fun t => rfl)
noncomputable def F_entity_clone (zE zw : Int) (zy : ByteArray) (zu zv zH zC zA zD zB : Int) (zt zz : LL) : Option (LL × LL × Int × Int × ByteArray × Int × Int × Int × Int × Int × Int × Int) := Option.bind (F_slices_Clone_Order zt) fun t => Option.bind (F_slices_Clone_Job zz) fun t1 => some (t, t1, zE, zw, zy, zu, zv, zH, zC, zA, zD, zB)
noncomputable def enc62 (t : LL × LL × Int × Int × ByteArray × Int × Int × Int × Int × Int × Int × Int) : CR := ⟨true, (.agg [(.sc (.int .i64 t.2.2.1)), (.sc (.int .i64 t.2.2.2.1)), (.sc (.string t.2.2.2.2.1)), (.sc (.int .i64 t.2.2.2.2.2.1)), (.sc (.int .i64 t.2.2.2.2.2.2.1)), (.sc (.int .i64 t.2.2.2.2.2.2.2.1)), (.sc (.int .i64 t.2.2.2.2.2.2.2.2.1)), (.sc (.int .i64 t.2.2.2.2.2.2.2.2.2.1)), (.sc (.int .i64 t.2.2.2.2.2.2.2.2.2.2.1)), (.sc (.int .i64 t.2.2.2.2.2.2.2.2.2.2.2)), (.slc 0 (t.1).length), (.slc 1 (t.2.1).length)]), [], [⟨.arr, 104, 5, t.1⟩, ⟨.arr, 163, 3, t.2.1⟩]⟩
noncomputable def ks62 : List SK := [.agg [.int .i64, .int .i64, .str, .int .i64, .int .i64, .int .i64, .int .i64, .int .i64, .int .i64, .int .i64, .ro 5, .ro 3]]
noncomputable def A62 (us : List AVal) := F_entity_clone (aI us 0 0) (aI us 0 1) (aS us 0 2) (aI us 0 3) (aI us 0 4) (aI us 0 5) (aI us 0 6) (aI us 0 7) (aI us 0 8) (aI us 0 9) (aR us 0 10) (aR us 0 11)
noncomputable def S62 (us : List AVal) : Call := bif chkA ks62 us then Call.of (A62 us) enc62 else Call.none
noncomputable def C62 := AI.ext 62 S62 C110
theorem run62 (zE zw : Int) (zy : ByteArray) (zu zv zH zC zA zD zB : Int) (zt zz : LL) : fcall TT TU GL0 C110 ownF true noL Tryz.f62 [(.agg [(i64 zE), (i64 zw), (.sc (.string zy)), (i64 zu), (i64 zv), (i64 zH), (i64 zC), (i64 zA), (i64 zD), (i64 zB), (.ro 5 zt), (.ro 3 zz)])] = (F_entity_clone zE zw zy zu zv zH zC zA zD zB zt zz).bind fun t => some (enc62 t) :=
 Eq.trans (by kernel_rfl) (nb fun t => (nu (show ((((true && (verEq t.length t.length)) && true) && true) && true) = true from (n_andL (n_andL (n_andL (n_andL rfl (verEq_rfl _)) rfl) rfl) rfl)) (nb fun t1 => (nu (show ((((true && (verEq t1.length t1.length)) && true) && true) && true) = true from (n_andL (n_andL (n_andL (n_andL rfl (verEq_rfl _)) rfl) rfl) rfl)) (nu (vr t) (nu (vr t1) rfl))))))
theorem lib62 : Lib Tryz.prog GL0 C62 :=
 Lib.fn lib110 mixed TT_ok Tryz.func62 (by decide +kernel) (by kernel_rfl) true noL (loops_of 0 (by kernel_rfl) below0) ks62 (F := A62) (fun us => rfl) (fun us => run62 _ _ _ _ _ _ _ _ _ _ _ _) (fun t => rfl)
noncomputable def F_entity_Find (l : LL) (id : Int) : Option (LL × LL × Int × Int × ByteArray × Int × Int × Int × Int × Int × Int × Int × Bool) := Option.bind (F_entity_find l id) fun t => bif (decide (t < (0 : Int))) then some ([], [], (0 : Int), (0 : Int), (ByteArray.mk (Array.mk [])), (0 : Int), (0 : Int), (0 : Int), (0 : Int), (0 : Int), (0 : Int), (0 : Int), false) else bif (decide ((0 : Int) ≤ t)) then Option.bind (l[t.toNat]?) fun r => bif (chk y6 r) then Option.bind (F_entity_clone (cI r 0) (cI r 1) (cS r 2) (cI r 3) (cI r 4) (cI r 5) (cI r 6) (cI r 7) (cI r 8) (cI r 9) (roRows (AVal.ro 5 (cR r 10))) (roRows (AVal.ro 3 (cR r 11)))) fun t1 => some (t1.1, t1.2.1, t1.2.2.1, t1.2.2.2.1, t1.2.2.2.2.1, t1.2.2.2.2.2.1, t1.2.2.2.2.2.2.1, t1.2.2.2.2.2.2.2.1, t1.2.2.2.2.2.2.2.2.1, t1.2.2.2.2.2.2.2.2.2.1, t1.2.2.2.2.2.2.2.2.2.2.1, t1.2.2.2.2.2.2.2.2.2.2.2, true) else none else none
noncomputable def enc34 (t : LL × LL × Int × Int × ByteArray × Int × Int × Int × Int × Int × Int × Int × Bool) : CR := ⟨true, (.tup [(.agg [(.sc (.int .i64 t.2.2.1)), (.sc (.int .i64 t.2.2.2.1)), (.sc (.string t.2.2.2.2.1)), (.sc (.int .i64 t.2.2.2.2.2.1)), (.sc (.int .i64 t.2.2.2.2.2.2.1)), (.sc (.int .i64 t.2.2.2.2.2.2.2.1)), (.sc (.int .i64 t.2.2.2.2.2.2.2.2.1)), (.sc (.int .i64 t.2.2.2.2.2.2.2.2.2.1)), (.sc (.int .i64 t.2.2.2.2.2.2.2.2.2.2.1)), (.sc (.int .i64 t.2.2.2.2.2.2.2.2.2.2.2.1)), (.slc 0 (t.1).length), (.slc 1 (t.2.1).length)]), (.sc (.bool t.2.2.2.2.2.2.2.2.2.2.2.2))]), [], [⟨.arr, 104, 5, t.1⟩, ⟨.arr, 163, 3, t.2.1⟩]⟩
noncomputable def ks34 : List SK := [.f (.ro 12), .f (.int .i64)]
noncomputable def A34 (us : List AVal) := F_entity_Find (roRows (cIa us 0)) (toI (cIa us 1))
noncomputable def S34 (us : List AVal) : Call := bif chkA ks34 us then Call.of (A34 us) enc34 else Call.none
noncomputable def C34 := AI.ext 34 S34 C62
theorem run34 (l : LL) (id : Int) : fcall TT TU GL0 C62 ownF true noL Tryz.f34 [(.ro 12 l), (i64 id)] = (F_entity_Find l id).bind fun t => some (enc34 t) :=
 Eq.trans (by kernel_rfl) (nb fun t => (nd rfl rfl (nd rfl (nb fun r => (nd rfl (nb fun t1 => (nu (show ((((true && (verEq t1.1.length t1.1.length)) && true) && true) && true) = true from (n_andL (n_andL (n_andL (n_andL rfl (verEq_rfl _)) rfl) rfl) rfl)) (nu (show ((((true && (verEq t1.2.1.length t1.2.1.length)) && true) && true) && true) = true from (n_andL (n_andL (n_andL (n_andL rfl (verEq_rfl _)) rfl) rfl) rfl)) (nu (show (verEq t1.1.length t1.1.length) = true from (verEq_rfl _)) (nu (show (verEq t1.2.1.length t1.2.1.length) = true from (verEq_rfl _)) rfl))))) rfl)) rfl)))
theorem lib34 : Lib Tryz.prog GL0 C34 :=
 Lib.fn lib62 mixed TT_ok Tryz.func34 (by decide +kernel) (by kernel_rfl) true noL (loops_of 0 (by kernel_rfl) below0) ks34 (F := A34) (fun us => rfl) (fun us => run34 _ _) (fun t => rfl)
noncomputable def F_vec_minus (zF zG : Int) : Option (Int × Int) := some ((wr ((0 : Int) - zF)), (wr ((0 : Int) - zG)))
noncomputable def enc163 (t : Int × Int) : CR := ⟨true, (.agg [(.sc (.int .i64 t.1)), (.sc (.int .i64 t.2))]), [], []⟩
noncomputable def ks163 : List SK := [.agg [.int .i64, .int .i64]]
noncomputable def A163 (us : List AVal) := F_vec_minus (aI us 0 0) (aI us 0 1)
noncomputable def S163 (us : List AVal) : Call := bif chkA ks163 us then Call.of (A163 us) enc163 else Call.none
noncomputable def C163 := AI.ext 163 S163 C34
theorem run163 (zF zG : Int) : fcall TT TU GL0 C34 ownF true noL Tryz.f163 [(.agg [(i64 zF), (i64 zG)])] = (F_vec_minus zF zG).bind fun t => some (enc163 t) :=
 Eq.trans (by kernel_rfl) rfl
theorem lib163 : Lib Tryz.prog GL0 C163 :=
 Lib.fn lib34 mixed TT_ok Tryz.func163 (by decide +kernel) (by kernel_rfl) true noL (loops_of 0 (by kernel_rfl) below0) ks163 (F := A163) (fun us => rfl) (fun us => run163 _ _) (fun t => rfl)
noncomputable def W162_0 : Ex → List Bool
 | .ret => (false :: false :: true :: (e4 (e4 (e16 []))))
 | .exit n => bif Nat.beq n 0 then (false :: false :: true :: true :: (e4 (e16 [false, false, false]))) else []
 | .normal => []
noncomputable def G_vec_sum_0 (x6 : LL) (x7 : Int) : Nat → Int → Int → Int → Option (Int × Int)
 | 0, _, _, _ => none
 | m + 1, x8, b1_0, b1_1 => bif (decide (x8 < x7)) then bif (decide ((0 : Int) ≤ x8)) then Option.bind (x6[x8.toNat]?) fun r => bif (chk y9 r) then
 G_vec_sum_0 x6 x7 m (wr (x8 + (1 : Int))) (wr (b1_0 + (cI r 0))) (wr (b1_1 + (cI r 1))) else none else none else some (b1_0, b1_1)
noncomputable def E162_0 (x6 : LL) (x7 x8 b0_0 b0_1 b1_0 b1_1 : Int) : St := ⟨(.dead :: .dead :: (.ref 16000 1 0 0) :: (.ref 19200 1 0 0) :: .dead :: .dead :: (.ro 2 x6) :: (i64 x7) :: (i64 x8) :: (d16 [.dead, .dead])), [(16000, ⟨.box, 56, 2, [[(i64 b0_0), (i64 b0_1)]]⟩), (19200, ⟨.box, 56, 2, [[(i64 b1_0), (i64 b1_1)]]⟩)]⟩
noncomputable def X162_0 (b0_0 b0_1 : Int) (k : Ex → St → Option CR) (t : Int × Int) : Option CR := k (.exit 0) ⟨(.dead :: .dead :: (.ref 16000 1 0 0) :: (.ref 19200 1 0 0) :: (d4 (d16 [.dead, .dead, .dead]))), [(16000, ⟨.box, 56, 2, [[(i64 b0_0), (i64 b0_1)]]⟩), (19200, ⟨.box, 56, 2, [[(.sc (.int .i64 t.1)), (.sc (.int .i64 t.2))]]⟩)]⟩
noncomputable def ks162_0 : List SK := (.f .dead :: .f .dead :: .f (.ref 16000 1 0 0) :: .f (.ref 19200 1 0 0) :: .f .dead :: .f .dead :: .f (.ro 2) :: .f (.int .i64) :: .f (.int .i64) :: (f16 [.f .dead, .f .dead]))
noncomputable def hs162_0 : List HK := [⟨16000, .box, 56, 2, some [.int .i64, .int .i64]⟩, ⟨19200, .box, 56, 2, some [.int .i64, .int .i64]⟩]
noncomputable def Lm162_0 (s : St) (k : Ex → St → Option CR) : Option CR := bif chkS ks162_0 hs162_0 s then (G_vec_sum_0 (sR s 6) (sI s 7) FU (sI s 8) (aIh s 1 0) (aIh s 1 1)).bind (X162_0 (aIh s 0 0) (aIh s 0 1) k) else none
noncomputable def L162_0 (s : St) (k : Ex → St → Option CR) : Option CR := Lm162_0 (maskS (maskOf ks162_0) s) k
noncomputable def L162 : LT' := fun i s k => bif Nat.beq i 0 then L162_0 s k else none
noncomputable def F_vec_sum (terms : LL) : Option (Int × Int) := Option.bind (G_vec_sum_0 terms (Int.ofNat terms.length) FU (0 : Int) (0 : Int) (0 : Int)) fun t => Option.bind (F_vec_nearest t.1 t.2) fun t1 => some (t1.1, t1.2)
noncomputable def enc162 (t : Int × Int) : CR := ⟨true, (.agg [(.sc (.int .i64 t.1)), (.sc (.int .i64 t.2))]), [], []⟩
noncomputable def ks162 : List SK := [.f (.ro 2)]
noncomputable def A162 (us : List AVal) := F_vec_sum (roRows (cIa us 0))
noncomputable def S162 (us : List AVal) : Call := bif chkA ks162 us then Call.of (A162 us) enc162 else Call.none
noncomputable def C162 := AI.ext 162 S162 C163
@[reducible] noncomputable def B162_0 := bodyOf TT TU GL0 C163 ownF L162 (lp Tryz.f162 0)
@[reducible] noncomputable def K162_0 (k : Ex → St → Option CR) : Ex → St → Option CR := fun e s => k e (maskS (W162_0 e) s)
theorem spec162_0 (k : Ex → St → Option CR) : ∀ (m : Nat) (x6 : LL) (x7 x8 b0_0 b0_1 b1_0 b1_1 : Int), loopN B162_0 m (E162_0 x6 x7 x8 b0_0 b0_1 b1_0 b1_1) (K162_0 k) = (G_vec_sum_0 x6 x7 m x8 b1_0 b1_1).bind (X162_0 b0_0 b0_1 k)
 | 0, _, _, _, _, _, _, _ => rfl
 | m + 1, x6, x7, x8, b0_0, b0_1, b1_0, b1_1 =>
 Eq.trans (by kernel_rfl) (nd rfl (nd rfl (nb fun r => (nd rfl (spec162_0 k m x6 x7 (wr (x8 + (1 : Int))) b0_0 b0_1 (wr (b1_0 + (cI r 0))) (wr (b1_1 + (cI r 1)))) rfl)) rfl) rfl)
theorem okL162_0 : LoopOk TT TU GL0 C163 ownF L162 (lp Tryz.f162 0) :=
 loopOk_of ks162_0 hs162_0 W162_0 FU _ (fun s k => by kernel_rfl) (fun s k => spec162_0 k FU (sR s 6) (sI s 7) (sI s 8) (aIh s 0 0) (aIh s 0 1) (aIh s 1 0) (aIh s 1 1))
theorem run162 (terms : LL) : fcall TT TU GL0 C163 ownF true L162 Tryz.f162 [(.ro 2 terms)] = (F_vec_sum terms).bind fun t => some (enc162 t) :=
 Eq.trans (by kernel_rfl) (nb fun t => (nb fun t1 => rfl))
theorem lib162 : Lib Tryz.prog GL0 C162 :=
 Lib.fn lib163 mixed TT_ok Tryz.func162 (by decide +kernel) (by kernel_rfl) true L162 (loops_of 1 (by kernel_rfl) (belowS below0 okL162_0)) ks162 (F := A162) (fun us => rfl) (fun us => run162 _) (fun t => rfl)
noncomputable def F_vec_Sub (zF zG zR zS : Int) : Option (Int × Int) := Option.bind (F_vec_nearest zF zG) fun t => Option.bind (F_vec_nearest zR zS) fun t1 => Option.bind (F_vec_minus t1.1 t1.2) fun t2 => Option.bind (F_vec_sum [[(i64 t.1), (i64 t.2)], [(i64 t2.1), (i64 t2.2)]]) fun t3 => some (t3.1, t3.2)
noncomputable def enc113 (t : Int × Int) : CR := ⟨true, (.agg [(.sc (.int .i64 t.1)), (.sc (.int .i64 t.2))]), [], []⟩
noncomputable def ks113 : List SK := [.agg [.int .i64, .int .i64], .agg [.int .i64, .int .i64]]
noncomputable def A113 (us : List AVal) := F_vec_Sub (aI us 0 0) (aI us 0 1) (aI us 1 0) (aI us 1 1)
noncomputable def S113 (us : List AVal) : Call := bif chkA ks113 us then Call.of (A113 us) enc113 else Call.none
noncomputable def C113 := AI.ext 113 S113 C162
theorem run113 (zF zG zR zS : Int) : fcall TT TU GL0 C162 ownF true noL Tryz.f113 [(.agg [(i64 zF), (i64 zG)]), (.agg [(i64 zR), (i64 zS)])] = (F_vec_Sub zF zG zR zS).bind fun t => some (enc113 t) :=
 Eq.trans (by kernel_rfl) (nb fun t => (nb fun t1 => (nb fun t2 => (nb fun t3 => rfl))))
theorem lib113 : Lib Tryz.prog GL0 C113 :=
 Lib.fn lib162 mixed TT_ok Tryz.func113 (by decide +kernel) (by kernel_rfl) true noL (loops_of 0 (by kernel_rfl) below0) ks113 (F := A113) (fun us => rfl) (fun us => run113 _ _ _ _) (fun t => rfl)
noncomputable def F_entity_corner (z3 : ByteArray) (zP zZ : Bool) (zW zam zal zT zX z0 zaa zY z2 : Int) (zV : ByteArray) (z6 z5 z4 : Int) (z1 zU zL : LL) (z8 z9 : Int) : Option (Int × Int) := Option.bind (F_vec_Sub z8 z9 (wr (Int.tdiv (wr (zam * (256 : Int))) (2 : Int))) (wr (Int.tdiv (wr (zal * (256 : Int))) (2 : Int)))) fun t => some (t.1, t.2)
noncomputable def enc187 (t : Int × Int) : CR := ⟨true, (.agg [(.sc (.int .i64 t.1)), (.sc (.int .i64 t.2))]), [], []⟩
noncomputable def ks187 : List SK := [.agg [.str, .bool, .bool, .int .i64, .int .i64, .int .i64, .int .i64, .int .i64, .int .i64, .int .i64, .int .i64, .int .i64, .str, .int .i64, .int .i64, .int .i64, .ro 1, .ro 1, .ro 1], .agg [.int .i64, .int .i64]]
noncomputable def A187 (us : List AVal) := F_entity_corner (aS us 0 0) (aB us 0 1) (aB us 0 2) (aI us 0 3) (aI us 0 4) (aI us 0 5) (aI us 0 6) (aI us 0 7) (aI us 0 8) (aI us 0 9) (aI us 0 10) (aI us 0 11) (aS us 0 12) (aI us 0 13) (aI us 0 14) (aI us 0 15) (aR us 0 16) (aR us 0 17) (aR us 0 18) (aI us 1 0) (aI us 1 1)
noncomputable def S187 (us : List AVal) : Call := bif chkA ks187 us then Call.of (A187 us) enc187 else Call.none
noncomputable def C187 := AI.ext 187 S187 C113
theorem run187 (z3 : ByteArray) (zP zZ : Bool) (zW zam zal zT zX z0 zaa zY z2 : Int) (zV : ByteArray) (z6 z5 z4 : Int) (z1 zU zL : LL) (z8 z9 : Int) : fcall TT TU GL0 C113 ownF true noL Tryz.f187 [(.agg [(.sc (.string z3)), (bo zP), (bo zZ), (i64 zW), (i64 zam), (i64 zal), (i64 zT), (i64 zX), (i64 z0), (i64 zaa), (i64 zY), (i64 z2), (.sc (.string zV)), (i64 z6), (i64 z5), (i64 z4), (.ro 1 z1), (.ro 1 zU), (.ro 1 zL)]), (.agg [(i64 z8), (i64 z9)])] = (F_entity_corner z3 zP zZ zW zam zal zT zX z0 zaa zY z2 zV z6 z5 z4 z1 zU zL z8 z9).bind fun t => some (enc187 t) :=
 Eq.trans (by kernel_rfl) (nb fun t => rfl)
theorem lib187 : Lib Tryz.prog GL0 C187 :=
 Lib.fn lib113 mixed TT_ok Tryz.func187 (by decide +kernel) (by kernel_rfl) true noL (loops_of 0 (by kernel_rfl) below0) ks187 (F := A187) (fun us => rfl) (fun us => run187 _ _ _ _ _ _ _ _ _ _ _ _ _ _ _ _ _ _ _ _ _) (fun t => rfl)
noncomputable def F_entity_cell (za1 za2 : Int) : Option (Int × Int) := Option.bind (F_num_Cell za1) fun t => Option.bind (F_num_Cell za2) fun t1 => some (t, t1)
noncomputable def enc186 (t : Int × Int) : CR := ⟨true, (.agg [(.sc (.int .i64 t.1)), (.sc (.int .i64 t.2))]), [], []⟩
noncomputable def ks186 : List SK := [.agg [.int .i64, .int .i64]]
noncomputable def A186 (us : List AVal) := F_entity_cell (aI us 0 0) (aI us 0 1)
noncomputable def S186 (us : List AVal) : Call := bif chkA ks186 us then Call.of (A186 us) enc186 else Call.none
noncomputable def C186 := AI.ext 186 S186 C187
theorem run186 (za1 za2 : Int) : fcall TT TU GL0 C187 ownF true noL Tryz.f186 [(.agg [(i64 za1), (i64 za2)])] = (F_entity_cell za1 za2).bind fun t => some (enc186 t) :=
 Eq.trans (by kernel_rfl) (nb fun t => (nb fun t1 => rfl))
theorem lib186 : Lib Tryz.prog GL0 C186 :=
 Lib.fn lib187 mixed TT_ok Tryz.func186 (by decide +kernel) (by kernel_rfl) true noL (loops_of 0 (by kernel_rfl) below0) ks186 (F := A186) (fun us => rfl) (fun us => run186 _ _) (fun t => rfl)
noncomputable def F_entity_Rect (zp zn zq : LL) (zE zw : Int) (zy : ByteArray) (zu zv zH zC zA zD zB : Int) (zt zz : LL) : Option (Int × Int × Int × Int × Bool) := Option.bind (F_rules_Unit zp zn zq zy) fun t => bif (!t.2.2.2.2.2.2.2.2.2.2.2.2.2.2.2.2.2.2.2) then some ((0 : Int), (0 : Int), (0 : Int), (0 : Int), false) else bif (!t.2.2.2.2.1) then some ((0 : Int), (0 : Int), (0 : Int), (0 : Int), false) else bif (decide (t.2.2.2.2.2.2.2.1 < (1 : Int))) then some ((0 : Int), (0 : Int), (0 : Int), (0 : Int), false) else bif (decide (t.2.2.2.2.2.2.2.1 > (4 : Int))) then some ((0 : Int), (0 : Int), (0 : Int), (0 : Int), false) else bif (decide (t.2.2.2.2.2.2.2.2.1 < (1 : Int))) then some ((0 : Int), (0 : Int), (0 : Int), (0 : Int), false) else bif (decide (t.2.2.2.2.2.2.2.2.1 > (4 : Int))) then some ((0 : Int), (0 : Int), (0 : Int), (0 : Int), false) else Option.bind (F_entity_corner t.2.2.2.1 t.2.2.2.2.1 t.2.2.2.2.2.1 t.2.2.2.2.2.2.1 t.2.2.2.2.2.2.2.1 t.2.2.2.2.2.2.2.2.1 t.2.2.2.2.2.2.2.2.2.1 t.2.2.2.2.2.2.2.2.2.2.1 t.2.2.2.2.2.2.2.2.2.2.2.1 t.2.2.2.2.2.2.2.2.2.2.2.2.1 t.2.2.2.2.2.2.2.2.2.2.2.2.2.1 t.2.2.2.2.2.2.2.2.2.2.2.2.2.2.1 t.2.2.2.2.2.2.2.2.2.2.2.2.2.2.2.1 t.2.2.2.2.2.2.2.2.2.2.2.2.2.2.2.2.1 t.2.2.2.2.2.2.2.2.2.2.2.2.2.2.2.2.2.1 t.2.2.2.2.2.2.2.2.2.2.2.2.2.2.2.2.2.2.1 t.1 t.2.1 t.2.2.1 zu zv) fun t1 => Option.bind (F_entity_cell t1.1 t1.2) fun t2 => some (t2.1, t2.2, t.2.2.2.2.2.2.2.1, t.2.2.2.2.2.2.2.2.1, true)
noncomputable def enc164 (t : Int × Int × Int × Int × Bool) : CR := ⟨true, (.tup [(.agg [(.sc (.int .i64 t.1)), (.sc (.int .i64 t.2.1)), (.sc (.int .i64 t.2.2.1)), (.sc (.int .i64 t.2.2.2.1))]), (.sc (.bool t.2.2.2.2))]), [], []⟩
noncomputable def ks164 : List SK := [.agg [.ro 19, .ro 6, .ro 8], .agg [.int .i64, .int .i64, .str, .int .i64, .int .i64, .int .i64, .int .i64, .int .i64, .int .i64, .int .i64, .ro 5, .ro 3]]
noncomputable def A164 (us : List AVal) := F_entity_Rect (aR us 0 0) (aR us 0 1) (aR us 0 2) (aI us 1 0) (aI us 1 1) (aS us 1 2) (aI us 1 3) (aI us 1 4) (aI us 1 5) (aI us 1 6) (aI us 1 7) (aI us 1 8) (aI us 1 9) (aR us 1 10) (aR us 1 11)
noncomputable def S164 (us : List AVal) : Call := bif chkA ks164 us then Call.of (A164 us) enc164 else Call.none
noncomputable def C164 := AI.ext 164 S164 C186
theorem run164 (zp zn zq : LL) (zE zw : Int) (zy : ByteArray) (zu zv zH zC zA zD zB : Int) (zt zz : LL) : fcall TT TU GL0 C186 ownF true noL Tryz.f164 [(.agg [(.ro 19 zp), (.ro 6 zn), (.ro 8 zq)]), (.agg [(i64 zE), (i64 zw), (.sc (.string zy)), (i64 zu), (i64 zv), (i64 zH), (i64 zC), (i64 zA), (i64 zD), (i64 zB), (.ro 5 zt), (.ro 3 zz)])] = (F_entity_Rect zp zn zq zE zw zy zu zv zH zC zA zD zB zt zz).bind fun t => some (enc164 t) :=
 Eq.trans (by kernel_rfl) (nb fun t => (nu (show ((((true && (verEq t.1.length t.1.length)) && true) && true) && true) = true from (n_andL (n_andL (n_andL (n_andL rfl (verEq_rfl _)) rfl) rfl) rfl)) (nu (show ((((true && (verEq t.2.1.length t.2.1.length)) && true) && true) && true) = true from (n_andL (n_andL (n_andL (n_andL rfl (verEq_rfl _)) rfl) rfl) rfl)) (nu (show ((((true && (verEq t.2.2.1.length t.2.2.1.length)) && true) && true) && true) = true from (n_andL (n_andL (n_andL (n_andL rfl (verEq_rfl _)) rfl) rfl) rfl)) (nd rfl rfl (nd rfl rfl (nd rfl rfl (nd rfl rfl (nd rfl rfl (nd rfl rfl (nu (show (verEq t.1.length t.1.length) = true from (verEq_rfl _)) (nu (show (verEq t.2.1.length t.2.1.length) = true from (verEq_rfl _)) (nu (show (verEq t.2.2.1.length t.2.2.1.length) = true from (verEq_rfl _)) (nb fun t1 => (nb fun t2 => rfl)))))))))))))))
theorem lib164 : Lib Tryz.prog GL0 C164 :=
 Lib.fn lib186 mixed TT_ok Tryz.func164 (by decide +kernel) (by kernel_rfl) true noL (loops_of 0 (by kernel_rfl) below0) ks164 (F := A164) (fun us => rfl) (fun us => run164 _ _ _ _ _ _ _ _ _ _ _ _ _ _ _) (fun t => rfl)
noncomputable def F_target_nearest (zr zk zm : Int) (zl : Bool) (zs : Int) (ze zc zd : LL) (zj zi : Int) (zf zb za zo zg zh : LL) (zE zw : Int) (zy : ByteArray) (zu zv zH zC zA zD zB : Int) (zt zz : LL) (z8 z9 : Int) : Option (Int × Int) := Option.bind (F_entity_Rect ze zc zd zE zw zy zu zv zH zC zA zD zB zt zz) fun t => bif (!t.2.2.2.2) then some (zu, zv) else Option.bind (F_num_Clamp z8 (wr (t.1 * (256 : Int))) (wr ((wr (t.1 + t.2.2.1)) * (256 : Int)))) fun t1 => Option.bind (F_num_Clamp z9 (wr (t.2.1 * (256 : Int))) (wr ((wr (t.2.1 + t.2.2.2.1)) * (256 : Int)))) fun t2 => some (t1, t2)
noncomputable def enc114 (t : Int × Int) : CR := ⟨true, (.agg [(.sc (.int .i64 t.1)), (.sc (.int .i64 t.2))]), [], []⟩
noncomputable def ks114 : List SK := [.agg [.int .i64, .int .i64, .int .i64, .bool, .int .u64, .ro 19, .ro 6, .ro 8, .int .i64, .int .i64, .ro 3, .ro 6, .ro 12, .ro 9, .ro 3, .ro 4], .agg [.int .i64, .int .i64, .str, .int .i64, .int .i64, .int .i64, .int .i64, .int .i64, .int .i64, .int .i64, .ro 5, .ro 3], .agg [.int .i64, .int .i64]]
noncomputable def A114 (us : List AVal) := F_target_nearest (aI us 0 0) (aI us 0 1) (aI us 0 2) (aB us 0 3) (aI us 0 4) (aR us 0 5) (aR us 0 6) (aR us 0 7) (aI us 0 8) (aI us 0 9) (aR us 0 10) (aR us 0 11) (aR us 0 12) (aR us 0 13) (aR us 0 14) (aR us 0 15) (aI us 1 0) (aI us 1 1) (aS us 1 2) (aI us 1 3) (aI us 1 4) (aI us 1 5) (aI us 1 6) (aI us 1 7) (aI us 1 8) (aI us 1 9) (aR us 1 10) (aR us 1 11) (aI us 2 0) (aI us 2 1)
noncomputable def S114 (us : List AVal) : Call := bif chkA ks114 us then Call.of (A114 us) enc114 else Call.none
noncomputable def C114 := AI.ext 114 S114 C164
theorem run114 (zr zk zm : Int) (zl : Bool) (zs : Int) (ze zc zd : LL) (zj zi : Int) (zf zb za zo zg zh : LL) (zE zw : Int) (zy : ByteArray) (zu zv zH zC zA zD zB : Int) (zt zz : LL) (z8 z9 : Int) : fcall TT TU GL0 C164 ownF true noL Tryz.f114 [(.agg [(i64 zr), (i64 zk), (i64 zm), (bo zl), (.sc (.int .u64 zs)), (.ro 19 ze), (.ro 6 zc), (.ro 8 zd), (i64 zj), (i64 zi), (.ro 3 zf), (.ro 6 zb), (.ro 12 za), (.ro 9 zo), (.ro 3 zg), (.ro 4 zh)]), (.agg [(i64 zE), (i64 zw), (.sc (.string zy)), (i64 zu), (i64 zv), (i64 zH), (i64 zC), (i64 zA), (i64 zD), (i64 zB), (.ro 5 zt), (.ro 3 zz)]), (.agg [(i64 z8), (i64 z9)])] = (F_target_nearest zr zk zm zl zs ze zc zd zj zi zf zb za zo zg zh zE zw zy zu zv zH zC zA zD zB zt zz z8 z9).bind fun t => some (enc114 t) :=
 Eq.trans (by kernel_rfl) (nb fun t => (nd rfl rfl (nb fun t1 => (nb fun t2 => rfl))))
theorem lib114 : Lib Tryz.prog GL0 C114 :=
 Lib.fn lib164 mixed TT_ok Tryz.func114 (by decide +kernel) (by kernel_rfl) true noL (loops_of 0 (by kernel_rfl) below0) ks114 (F := A114) (fun us => rfl) (fun us => run114 _ _ _ _ _ _ _ _ _ _ _ _ _ _ _ _ _ _ _ _ _ _ _ _ _ _ _ _ _ _) (fun t => rfl)
noncomputable def F_vec_Dot (zF zG zR zS : Int) : Option (Int) := Option.bind (F_vec_nearest zF zG) fun t => Option.bind (F_vec_nearest zR zS) fun t1 => Option.bind (F_vec_dot t.1 t.2 t1.1 t1.2) fun t2 => some t2
noncomputable def enc185 (t : Int) : CR := ⟨true, (i64 t), [], []⟩
noncomputable def ks185 : List SK := [.agg [.int .i64, .int .i64], .agg [.int .i64, .int .i64]]
noncomputable def A185 (us : List AVal) := F_vec_Dot (aI us 0 0) (aI us 0 1) (aI us 1 0) (aI us 1 1)
noncomputable def S185 (us : List AVal) : Call := bif chkA ks185 us then Call.of (A185 us) enc185 else Call.none
noncomputable def C185 := AI.ext 185 S185 C114
theorem run185 (zF zG zR zS : Int) : fcall TT TU GL0 C114 ownF true noL Tryz.f185 [(.agg [(i64 zF), (i64 zG)]), (.agg [(i64 zR), (i64 zS)])] = (F_vec_Dot zF zG zR zS).bind fun t => some (enc185 t) :=
 Eq.trans (by kernel_rfl) (nb fun t => (nb fun t1 => (nb fun t2 => rfl)))
theorem lib185 : Lib Tryz.prog GL0 C185 :=
 Lib.fn lib114 mixed TT_ok Tryz.func185 (by decide +kernel) (by kernel_rfl) true noL (loops_of 0 (by kernel_rfl) below0) ks185 (F := A185) (fun us => rfl) (fun us => run185 _ _ _ _) (fun t => rfl)
noncomputable def F_vec_Len2 (zF zG : Int) : Option (Int) := Option.bind (F_vec_Dot zF zG zF zG) fun t => some t
noncomputable def enc161 (t : Int) : CR := ⟨true, (i64 t), [], []⟩
noncomputable def ks161 : List SK := [.agg [.int .i64, .int .i64]]
noncomputable def A161 (us : List AVal) := F_vec_Len2 (aI us 0 0) (aI us 0 1)
noncomputable def S161 (us : List AVal) : Call := bif chkA ks161 us then Call.of (A161 us) enc161 else Call.none
noncomputable def C161 := AI.ext 161 S161 C185
theorem run161 (zF zG : Int) : fcall TT TU GL0 C185 ownF true noL Tryz.f161 [(.agg [(i64 zF), (i64 zG)])] = (F_vec_Len2 zF zG).bind fun t => some (enc161 t) :=
 Eq.trans (by kernel_rfl) (nb fun t => rfl)
theorem lib161 : Lib Tryz.prog GL0 C161 :=
 Lib.fn lib185 mixed TT_ok Tryz.func161 (by decide +kernel) (by kernel_rfl) true noL (loops_of 0 (by kernel_rfl) below0) ks161 (F := A161) (fun us => rfl) (fun us => run161 _ _) (fun t => rfl)
noncomputable def W160_0 : Ex → List Bool
 | .ret => (false :: false :: true :: (e16 [false, false, false]))
 | .exit n => bif Nat.beq n 0 then (false :: false :: false :: true :: (e16 [false, false])) else []
 | .normal => []
noncomputable def G_num_Isqrt_0 (n : Int) : Nat → Int → Int → Option (Int)
 | 0, _, _ => none
 | m + 1, r1, bit => bif (decide (bit > (0 : Int))) then bif ((wr (Int.ofNat (BitVec.toNat (HOr.hOr (BitVec.ofInt 64 r1) (BitVec.ofInt 64 bit))))) == (0 : Int)) then none else bif (decide ((wr (Int.ofNat (BitVec.toNat (HOr.hOr (BitVec.ofInt 64 r1) (BitVec.ofInt 64 bit))))) ≤ (wr (Int.tdiv n (wr (Int.ofNat (BitVec.toNat (HOr.hOr (BitVec.ofInt 64 r1) (BitVec.ofInt 64 bit))))))))) then
 G_num_Isqrt_0 n m (wr (Int.ofNat (BitVec.toNat (HOr.hOr (BitVec.ofInt 64 r1) (BitVec.ofInt 64 bit))))) (Int.fdiv bit ((2 : Int) ^ (Min.min (1 : Int).toNat 64))) else
 G_num_Isqrt_0 n m r1 (Int.fdiv bit ((2 : Int) ^ (Min.min (1 : Int).toNat 64))) else some r1
noncomputable def E160_0 (n r1 bit : Int) : St := ⟨((i64 n) :: .dead :: .dead :: (i64 r1) :: (i64 bit) :: (d16 [.dead])), []⟩
noncomputable def X160_0 (k : Ex → St → Option CR) (t : Int) : Option CR := k (.exit 0) ⟨(.dead :: .dead :: .dead :: (i64 t) :: (d16 [.dead, .dead])), []⟩
noncomputable def ks160_0 : List SK := (.f (.int .i64) :: .f .dead :: .f .dead :: .f (.int .i64) :: .f (.int .i64) :: (f16 [.f .dead]))
noncomputable def hs160_0 : List HK := []
noncomputable def Lm160_0 (s : St) (k : Ex → St → Option CR) : Option CR := bif chkS ks160_0 hs160_0 s then (G_num_Isqrt_0 (sI s 0) FU (sI s 3) (sI s 4)).bind (X160_0 k) else none
noncomputable def L160_0 (s : St) (k : Ex → St → Option CR) : Option CR := Lm160_0 (maskS (maskOf ks160_0) s) k
noncomputable def L160 : LT' := fun i s k => bif Nat.beq i 0 then L160_0 s k else none
noncomputable def F_num_Isqrt (n : Int) : Option (Int) := bif (decide (n ≤ (0 : Int))) then some (0 : Int) else Option.bind (G_num_Isqrt_0 n FU (0 : Int) (2147483648 : Int)) fun t => some t
noncomputable def enc160 (t : Int) : CR := ⟨true, (i64 t), [], []⟩
noncomputable def ks160 : List SK := [.f (.int .i64)]
noncomputable def A160 (us : List AVal) := F_num_Isqrt (toI (cIa us 0))
noncomputable def S160 (us : List AVal) : Call := bif chkA ks160 us then Call.of (A160 us) enc160 else Call.none
noncomputable def C160 := AI.ext 160 S160 C161
@[reducible] noncomputable def B160_0 := bodyOf TT TU GL0 C161 ownF L160 (lp Tryz.f160 0)
@[reducible] noncomputable def K160_0 (k : Ex → St → Option CR) : Ex → St → Option CR := fun e s => k e (maskS (W160_0 e) s)
theorem spec160_0 (k : Ex → St → Option CR) : ∀ (m : Nat) (n r1 bit : Int), loopN B160_0 m (E160_0 n r1 bit) (K160_0 k) = (G_num_Isqrt_0 n m r1 bit).bind (X160_0 k)
 | 0, _, _, _ => rfl
 | m + 1, n, r1, bit =>
 Eq.trans (by kernel_rfl) (nd rfl (nd rfl rfl (nd rfl (spec160_0 k m n (wr (Int.ofNat (BitVec.toNat (HOr.hOr (BitVec.ofInt 64 r1) (BitVec.ofInt 64 bit))))) (Int.fdiv bit ((2 : Int) ^ (Min.min (1 : Int).toNat 64)))) (spec160_0 k m n r1 (Int.fdiv bit ((2 : Int) ^ (Min.min (1 : Int).toNat 64)))))) rfl)
theorem okL160_0 : LoopOk TT TU GL0 C161 ownF L160 (lp Tryz.f160 0) :=
 loopOk_of ks160_0 hs160_0 W160_0 FU _ (fun s k => by kernel_rfl) (fun s k => spec160_0 k FU (sI s 0) (sI s 3) (sI s 4))
theorem run160 (n : Int) : fcall TT TU GL0 C161 ownF true L160 Tryz.f160 [(i64 n)] = (F_num_Isqrt n).bind fun t => some (enc160 t) :=
 Eq.trans (by kernel_rfl) (nd rfl rfl (nb fun t => rfl))
theorem lib160 : Lib Tryz.prog GL0 C160 :=
 Lib.fn lib161 mixed TT_ok Tryz.func160 (by decide +kernel) (by kernel_rfl) true L160 (loops_of 1 (by kernel_rfl) (belowS below0 okL160_0)) ks160 (F := A160) (fun us => rfl) (fun us => run160 _) (fun t => rfl)
noncomputable def F_vec_Len (zF zG : Int) : Option (Int) := Option.bind (F_vec_Len2 zF zG) fun t => Option.bind (F_num_Isqrt t) fun t1 => some t1
noncomputable def enc112 (t : Int) : CR := ⟨true, (i64 t), [], []⟩
noncomputable def ks112 : List SK := [.agg [.int .i64, .int .i64]]
noncomputable def A112 (us : List AVal) := F_vec_Len (aI us 0 0) (aI us 0 1)
noncomputable def S112 (us : List AVal) : Call := bif chkA ks112 us then Call.of (A112 us) enc112 else Call.none
noncomputable def C112 := AI.ext 112 S112 C160
theorem run112 (zF zG : Int) : fcall TT TU GL0 C160 ownF true noL Tryz.f112 [(.agg [(i64 zF), (i64 zG)])] = (F_vec_Len zF zG).bind fun t => some (enc112 t) :=
 Eq.trans (by kernel_rfl) (nb fun t => (nb fun t1 => rfl))
theorem lib112 : Lib Tryz.prog GL0 C112 :=
 Lib.fn lib160 mixed TT_ok Tryz.func112 (by decide +kernel) (by kernel_rfl) true noL (loops_of 0 (by kernel_rfl) below0) ks112 (F := A112) (fun us => rfl) (fun us => run112 _ _) (fun t => rfl)
noncomputable def F_target_distance (zr zk zm : Int) (zl : Bool) (zs : Int) (ze zc zd : LL) (zj zi : Int) (zf zb za zo zg zh : LL) (zaE zaP : Int) (zaU : ByteArray) (zab zac zaY zaR zaT zaW zaV : Int) (zaF zaS : LL) (zay zaD : Int) (zaN : ByteArray) (zah zai zaX zaK zaM zaQ zaO : Int) (zat zaL : LL) : Option (Int) := Option.bind (F_target_nearest zr zk zm zl zs ze zc zd zj zi zf zb za zo zg zh zay zaD zaN zah zai zaX zaK zaM zaQ zaO zat zaL zab zac) fun t => Option.bind (F_vec_Sub t.1 t.2 zab zac) fun t1 => Option.bind (F_vec_Len t1.1 t1.2) fun t2 => some t2
noncomputable def enc66 (t : Int) : CR := ⟨true, (i64 t), [], []⟩
noncomputable def ks66 : List SK := [.agg [.int .i64, .int .i64, .int .i64, .bool, .int .u64, .ro 19, .ro 6, .ro 8, .int .i64, .int .i64, .ro 3, .ro 6, .ro 12, .ro 9, .ro 3, .ro 4], .agg [.int .i64, .int .i64, .str, .int .i64, .int .i64, .int .i64, .int .i64, .int .i64, .int .i64, .int .i64, .ro 5, .ro 3], .agg [.int .i64, .int .i64, .str, .int .i64, .int .i64, .int .i64, .int .i64, .int .i64, .int .i64, .int .i64, .ro 5, .ro 3]]
noncomputable def A66 (us : List AVal) := F_target_distance (aI us 0 0) (aI us 0 1) (aI us 0 2) (aB us 0 3) (aI us 0 4) (aR us 0 5) (aR us 0 6) (aR us 0 7) (aI us 0 8) (aI us 0 9) (aR us 0 10) (aR us 0 11) (aR us 0 12) (aR us 0 13) (aR us 0 14) (aR us 0 15) (aI us 1 0) (aI us 1 1) (aS us 1 2) (aI us 1 3) (aI us 1 4) (aI us 1 5) (aI us 1 6) (aI us 1 7) (aI us 1 8) (aI us 1 9) (aR us 1 10) (aR us 1 11) (aI us 2 0) (aI us 2 1) (aS us 2 2) (aI us 2 3) (aI us 2 4) (aI us 2 5) (aI us 2 6) (aI us 2 7) (aI us 2 8) (aI us 2 9) (aR us 2 10) (aR us 2 11)
noncomputable def S66 (us : List AVal) : Call := bif chkA ks66 us then Call.of (A66 us) enc66 else Call.none
noncomputable def C66 := AI.ext 66 S66 C112
theorem run66 (zr zk zm : Int) (zl : Bool) (zs : Int) (ze zc zd : LL) (zj zi : Int) (zf zb za zo zg zh : LL) (zaE zaP : Int) (zaU : ByteArray) (zab zac zaY zaR zaT zaW zaV : Int) (zaF zaS : LL) (zay zaD : Int) (zaN : ByteArray) (zah zai zaX zaK zaM zaQ zaO : Int) (zat zaL : LL) : fcall TT TU GL0 C112 ownF true noL Tryz.f66 [(.agg [(i64 zr), (i64 zk), (i64 zm), (bo zl), (.sc (.int .u64 zs)), (.ro 19 ze), (.ro 6 zc), (.ro 8 zd), (i64 zj), (i64 zi), (.ro 3 zf), (.ro 6 zb), (.ro 12 za), (.ro 9 zo), (.ro 3 zg), (.ro 4 zh)]), (.agg [(i64 zaE), (i64 zaP), (.sc (.string zaU)), (i64 zab), (i64 zac), (i64 zaY), (i64 zaR), (i64 zaT), (i64 zaW), (i64 zaV), (.ro 5 zaF), (.ro 3 zaS)]), (.agg [(i64 zay), (i64 zaD), (.sc (.string zaN)), (i64 zah), (i64 zai), (i64 zaX), (i64 zaK), (i64 zaM), (i64 zaQ), (i64 zaO), (.ro 5 zat), (.ro 3 zaL)])] = (F_target_distance zr zk zm zl zs ze zc zd zj zi zf zb za zo zg zh zaE zaP zaU zab zac zaY zaR zaT zaW zaV zaF zaS zay zaD zaN zah zai zaX zaK zaM zaQ zaO zat zaL).bind fun t => some (enc66 t) :=
 Eq.trans (by kernel_rfl) (nb fun t => (nb fun t1 => (nb fun t2 => rfl)))
theorem lib66 : Lib Tryz.prog GL0 C66 :=
 Lib.fn lib112 mixed TT_ok Tryz.func66 (by decide +kernel) (by kernel_rfl) true noL (loops_of 0 (by kernel_rfl) below0) ks66 (F := A66) (fun us => rfl) (fun us => run66 _ _ _ _ _ _ _ _ _ _ _ _ _ _ _ _ _ _ _ _ _ _ _ _ _ _ _ _ _ _ _ _ _ _ _ _ _ _ _ _) (fun t => rfl)
noncomputable def F_target_Distance (zr zk zm : Int) (zl : Bool) (zs : Int) (ze zc zd : LL) (zj zi : Int) (zf zb za zo zg zh : LL) (a b : Int) : Option (Int × Bool) := Option.bind (F_entity_Find za a) fun t => Option.bind (F_entity_Find za b) fun t1 => bif (!t.2.2.2.2.2.2.2.2.2.2.2.2) then some ((0 : Int), false) else bif (!t1.2.2.2.2.2.2.2.2.2.2.2.2) then some ((0 : Int), false) else Option.bind (F_target_distance zr zk zm zl zs ze zc zd zj zi zf zb za zo zg zh t.2.2.1 t.2.2.2.1 t.2.2.2.2.1 t.2.2.2.2.2.1 t.2.2.2.2.2.2.1 t.2.2.2.2.2.2.2.1 t.2.2.2.2.2.2.2.2.1 t.2.2.2.2.2.2.2.2.2.1 t.2.2.2.2.2.2.2.2.2.2.1 t.2.2.2.2.2.2.2.2.2.2.2.1 t.1 t.2.1 t1.2.2.1 t1.2.2.2.1 t1.2.2.2.2.1 t1.2.2.2.2.2.1 t1.2.2.2.2.2.2.1 t1.2.2.2.2.2.2.2.1 t1.2.2.2.2.2.2.2.2.1 t1.2.2.2.2.2.2.2.2.2.1 t1.2.2.2.2.2.2.2.2.2.2.1 t1.2.2.2.2.2.2.2.2.2.2.2.1 t1.1 t1.2.1) fun t2 => some (t2, true)
noncomputable def enc37 (t : Int × Bool) : CR := ⟨true, (.tup [(.sc (.int .i64 t.1)), (.sc (.bool t.2))]), [], []⟩
noncomputable def ks37 : List SK := [.agg [.int .i64, .int .i64, .int .i64, .bool, .int .u64, .ro 19, .ro 6, .ro 8, .int .i64, .int .i64, .ro 3, .ro 6, .ro 12, .ro 9, .ro 3, .ro 4], .f (.int .i64), .f (.int .i64)]
noncomputable def A37 (us : List AVal) := F_target_Distance (aI us 0 0) (aI us 0 1) (aI us 0 2) (aB us 0 3) (aI us 0 4) (aR us 0 5) (aR us 0 6) (aR us 0 7) (aI us 0 8) (aI us 0 9) (aR us 0 10) (aR us 0 11) (aR us 0 12) (aR us 0 13) (aR us 0 14) (aR us 0 15) (toI (cIa us 1)) (toI (cIa us 2))
noncomputable def S37 (us : List AVal) : Call := bif chkA ks37 us then Call.of (A37 us) enc37 else Call.none
noncomputable def C37 := AI.ext 37 S37 C66
theorem run37 (zr zk zm : Int) (zl : Bool) (zs : Int) (ze zc zd : LL) (zj zi : Int) (zf zb za zo zg zh : LL) (a b : Int) : fcall TT TU GL0 C66 ownF true noL Tryz.f37 [(.agg [(i64 zr), (i64 zk), (i64 zm), (bo zl), (.sc (.int .u64 zs)), (.ro 19 ze), (.ro 6 zc), (.ro 8 zd), (i64 zj), (i64 zi), (.ro 3 zf), (.ro 6 zb), (.ro 12 za), (.ro 9 zo), (.ro 3 zg), (.ro 4 zh)]), (i64 a), (i64 b)] = (F_target_Distance zr zk zm zl zs ze zc zd zj zi zf zb za zo zg zh a b).bind fun t => some (enc37 t) :=
 Eq.trans (by kernel_rfl) (nb fun t => (nu (show ((((true && (verEq t.1.length t.1.length)) && true) && true) && true) = true from (n_andL (n_andL (n_andL (n_andL rfl (verEq_rfl _)) rfl) rfl) rfl)) (nu (show ((((true && (verEq t.2.1.length t.2.1.length)) && true) && true) && true) = true from (n_andL (n_andL (n_andL (n_andL rfl (verEq_rfl _)) rfl) rfl) rfl)) (nb fun t1 => (nu (show ((((true && (verEq t1.1.length t1.1.length)) && true) && true) && true) = true from (n_andL (n_andL (n_andL (n_andL rfl (verEq_rfl _)) rfl) rfl) rfl)) (nu (show ((((true && (verEq t1.2.1.length t1.2.1.length)) && true) && true) && true) = true from (n_andL (n_andL (n_andL (n_andL rfl (verEq_rfl _)) rfl) rfl) rfl)) (nd rfl rfl (nd rfl rfl (nu (show (verEq t.1.length t.1.length) = true from (verEq_rfl _)) (nu (show (verEq t.2.1.length t.2.1.length) = true from (verEq_rfl _)) (nu (show (verEq t1.1.length t1.1.length) = true from (verEq_rfl _)) (nu (show (verEq t1.2.1.length t1.2.1.length) = true from (verEq_rfl _)) (nb fun t2 => rfl)))))))))))))
theorem lib37 : Lib Tryz.prog GL0 C37 :=
 Lib.fn lib66 mixed TT_ok Tryz.func37 (by decide +kernel) (by kernel_rfl) true noL (loops_of 0 (by kernel_rfl) below0) ks37 (F := A37) (fun us => rfl) (fun us => run37 _ _ _ _ _ _ _ _ _ _ _ _ _ _ _ _ _ _) (fun t => rfl)
noncomputable def W13_0 : Ex → List Bool
 | .ret => (e4 (true :: (e4 (e4 (e4 (e16 (e64 [])))))))
 | .exit n => bif Nat.beq n 0 then (e4 (false :: false :: false :: (true :: (e4 (e4 (e16 (e64 [false]))))))) else []
 | .normal => []
noncomputable def G_economy_Depot_0 (id : Int) (x25 : LL) (x26 b0_0 b0_1 b0_2 : Int) (b0_3 : Bool) (b0_4 : Int) (b0_5 b0_6 b0_7 : LL) (b0_8 b0_9 : Int) (b0_10 b0_11 b0_12 b0_13 b0_14 b0_15 : LL) (b3_1 : Int) : Nat → Int → Int → Int → Option (Int)
 | 0, _, _, _ => none
 | m + 1, best, least, x27 => bif (decide (x27 < x26)) then bif (decide ((0 : Int) ≤ x27)) then Option.bind (x25[x27.toNat]?) fun r => bif (chk y6 r) then Option.bind (F_rules_Unit b0_5 b0_6 b0_7 (cS r 2)) fun t => bif ((cI r 1) != b3_1) then
 G_economy_Depot_0 id x25 x26 b0_0 b0_1 b0_2 b0_3 b0_4 b0_5 b0_6 b0_7 b0_8 b0_9 b0_10 b0_11 b0_12 b0_13 b0_14 b0_15 b3_1 m best least (wr (x27 + (1 : Int))) else Option.bind (F_entity_Ready (cI r 0) (cI r 1) (cS r 2) (cI r 3) (cI r 4) (cI r 5) (cI r 6) (cI r 7) (cI r 8) (cI r 9) (roRows (AVal.ro 5 (cR r 10))) (roRows (AVal.ro 3 (cR r 11)))) fun t1 => bif (!t1) then
 G_economy_Depot_0 id x25 x26 b0_0 b0_1 b0_2 b0_3 b0_4 b0_5 b0_6 b0_7 b0_8 b0_9 b0_10 b0_11 b0_12 b0_13 b0_14 b0_15 b3_1 m best least (wr (x27 + (1 : Int))) else bif (!t.2.2.2.2.2.2.2.2.2.2.2.2.2.2.2.2.2.2.2) then
 G_economy_Depot_0 id x25 x26 b0_0 b0_1 b0_2 b0_3 b0_4 b0_5 b0_6 b0_7 b0_8 b0_9 b0_10 b0_11 b0_12 b0_13 b0_14 b0_15 b3_1 m best least (wr (x27 + (1 : Int))) else bif (!t.2.2.2.2.1) then
 G_economy_Depot_0 id x25 x26 b0_0 b0_1 b0_2 b0_3 b0_4 b0_5 b0_6 b0_7 b0_8 b0_9 b0_10 b0_11 b0_12 b0_13 b0_14 b0_15 b3_1 m best least (wr (x27 + (1 : Int))) else bif (!t.2.2.2.2.2.1) then
 G_economy_Depot_0 id x25 x26 b0_0 b0_1 b0_2 b0_3 b0_4 b0_5 b0_6 b0_7 b0_8 b0_9 b0_10 b0_11 b0_12 b0_13 b0_14 b0_15 b3_1 m best least (wr (x27 + (1 : Int))) else Option.bind (F_target_Distance b0_0 b0_1 b0_2 b0_3 b0_4 b0_5 b0_6 b0_7 b0_8 b0_9 b0_10 b0_11 b0_12 b0_13 b0_14 b0_15 id (cI r 0)) fun t2 => bif t2.2 then bif (best == (0 : Int)) then
 G_economy_Depot_0 id x25 x26 b0_0 b0_1 b0_2 b0_3 b0_4 b0_5 b0_6 b0_7 b0_8 b0_9 b0_10 b0_11 b0_12 b0_13 b0_14 b0_15 b3_1 m (cI r 0) t2.1 (wr (x27 + (1 : Int))) else bif (decide (t2.1 < least)) then
 G_economy_Depot_0 id x25 x26 b0_0 b0_1 b0_2 b0_3 b0_4 b0_5 b0_6 b0_7 b0_8 b0_9 b0_10 b0_11 b0_12 b0_13 b0_14 b0_15 b3_1 m (cI r 0) t2.1 (wr (x27 + (1 : Int))) else bif (t2.1 == least) then bif (decide ((cI r 0) < best)) then
 G_economy_Depot_0 id x25 x26 b0_0 b0_1 b0_2 b0_3 b0_4 b0_5 b0_6 b0_7 b0_8 b0_9 b0_10 b0_11 b0_12 b0_13 b0_14 b0_15 b3_1 m (cI r 0) t2.1 (wr (x27 + (1 : Int))) else
 G_economy_Depot_0 id x25 x26 b0_0 b0_1 b0_2 b0_3 b0_4 b0_5 b0_6 b0_7 b0_8 b0_9 b0_10 b0_11 b0_12 b0_13 b0_14 b0_15 b3_1 m best least (wr (x27 + (1 : Int))) else
 G_economy_Depot_0 id x25 x26 b0_0 b0_1 b0_2 b0_3 b0_4 b0_5 b0_6 b0_7 b0_8 b0_9 b0_10 b0_11 b0_12 b0_13 b0_14 b0_15 b3_1 m best least (wr (x27 + (1 : Int))) else
 G_economy_Depot_0 id x25 x26 b0_0 b0_1 b0_2 b0_3 b0_4 b0_5 b0_6 b0_7 b0_8 b0_9 b0_10 b0_11 b0_12 b0_13 b0_14 b0_15 b3_1 m best least (wr (x27 + (1 : Int))) else none else none else some best
noncomputable def E13_0 (R1 R2 : LL) (id best least : Int) (x25 : LL) (x26 x27 b0_0 b0_1 b0_2 : Int) (b0_3 : Bool) (b0_4 : Int) (b0_5 b0_6 b0_7 : LL) (b0_8 b0_9 : Int) (b0_10 b0_11 b0_12 b0_13 b0_14 b0_15 : LL) (b3_0 b3_1 : Int) (b3_2 : ByteArray) (b3_3 b3_4 b3_5 b3_6 b3_7 b3_8 b3_9 : Int) : St := ⟨(.dead :: (i64 id) :: (.ref 16000 1 0 0) :: .dead :: .dead :: (.ref 19312 1 0 0) :: .dead :: (i64 best) :: (i64 least) :: (d16 ((.ro 12 x25) :: (i64 x26) :: (i64 x27) :: (d4 (d64 [.dead]))))), [(16000, ⟨.box, 37, 16, [[(i64 b0_0), (i64 b0_1), (i64 b0_2), (bo b0_3), (.sc (.int .u64 b0_4)), (.ro 19 b0_5), (.ro 6 b0_6), (.ro 8 b0_7), (i64 b0_8), (i64 b0_9), (.ro 3 b0_10), (.ro 6 b0_11), (.ro 12 b0_12), (.ro 9 b0_13), (.ro 3 b0_14), (.ro 4 b0_15)]]⟩), (19248, ⟨.arr, 104, 5, R1⟩), (19249, ⟨.arr, 163, 3, R2⟩), (19312, ⟨.box, 60, 12, [[(i64 b3_0), (i64 b3_1), (.sc (.string b3_2)), (i64 b3_3), (i64 b3_4), (i64 b3_5), (i64 b3_6), (i64 b3_7), (i64 b3_8), (i64 b3_9), (.slc 19248 (R1).length), (.slc 19249 (R2).length)]]⟩)]⟩
noncomputable def X13_0 (k : Ex → St → Option CR) (t : Int) : Option CR := k (.exit 0) ⟨(d4 (.dead :: .dead :: .dead :: ((i64 t) :: (d4 (d4 (d16 (d64 [.dead]))))))), []⟩
noncomputable def ks13_0 : List SK := (.f .dead :: .f (.int .i64) :: .f (.ref 16000 1 0 0) :: .f .dead :: .f .dead :: .f (.ref 19312 1 0 0) :: .f .dead :: .f (.int .i64) :: .f (.int .i64) :: (f16 (.f (.ro 12) :: .f (.int .i64) :: .f (.int .i64) :: (f4 (f64 [.f .dead])))))
noncomputable def hs13_0 : List HK := [⟨16000, .box, 37, 16, some [.int .i64, .int .i64, .int .i64, .bool, .int .u64, .ro 19, .ro 6, .ro 8, .int .i64, .int .i64, .ro 3, .ro 6, .ro 12, .ro 9, .ro 3, .ro 4]⟩, ⟨19248, .arr, 104, 5, none⟩, ⟨19249, .arr, 163, 3, none⟩, ⟨19312, .box, 60, 12, some [.int .i64, .int .i64, .str, .int .i64, .int .i64, .int .i64, .int .i64, .int .i64, .int .i64, .int .i64, .slc 19248 1, .slc 19249 2]⟩]
noncomputable def Lm13_0 (s : St) (k : Ex → St → Option CR) : Option CR := bif chkS ks13_0 hs13_0 s then (G_economy_Depot_0 (sI s 1) (sR s 25) (sI s 26) (aIh s 0 0) (aIh s 0 1) (aIh s 0 2) (aBh s 0 3) (aIh s 0 4) (aRh s 0 5) (aRh s 0 6) (aRh s 0 7) (aIh s 0 8) (aIh s 0 9) (aRh s 0 10) (aRh s 0 11) (aRh s 0 12) (aRh s 0 13) (aRh s 0 14) (aRh s 0 15) (aIh s 3 1) FU (sI s 7) (sI s 8) (sI s 27)).bind (X13_0 k) else none
noncomputable def L13_0 (s : St) (k : Ex → St → Option CR) : Option CR := Lm13_0 (maskS (maskOf ks13_0) s) k
noncomputable def L13 : LT' := fun i s k => bif Nat.beq i 0 then L13_0 s k else none
noncomputable def F_economy_Depot (zr zk zm : Int) (zl : Bool) (zs : Int) (ze zc zd : LL) (zj zi : Int) (zf zb za zo zg zh : LL) (id : Int) : Option (Int) := Option.bind (F_entity_Find za id) fun t => bif (!t.2.2.2.2.2.2.2.2.2.2.2.2) then some (0 : Int) else Option.bind (G_economy_Depot_0 id za (Int.ofNat za.length) zr zk zm zl zs ze zc zd zj zi zf zb za zo zg zh t.2.2.2.1 FU (0 : Int) (0 : Int) (0 : Int)) fun t1 => some t1
noncomputable def enc13 (t : Int) : CR := ⟨true, (i64 t), [], []⟩
noncomputable def ks13 : List SK := [.agg [.int .i64, .int .i64, .int .i64, .bool, .int .u64, .ro 19, .ro 6, .ro 8, .int .i64, .int .i64, .ro 3, .ro 6, .ro 12, .ro 9, .ro 3, .ro 4], .f (.int .i64)]
noncomputable def A13 (us : List AVal) := F_economy_Depot (aI us 0 0) (aI us 0 1) (aI us 0 2) (aB us 0 3) (aI us 0 4) (aR us 0 5) (aR us 0 6) (aR us 0 7) (aI us 0 8) (aI us 0 9) (aR us 0 10) (aR us 0 11) (aR us 0 12) (aR us 0 13) (aR us 0 14) (aR us 0 15) (toI (cIa us 1))
noncomputable def S13 (us : List AVal) : Call := bif chkA ks13 us then Call.of (A13 us) enc13 else Call.none
noncomputable def C13 := AI.ext 13 S13 C37
@[reducible] noncomputable def B13_0 := bodyOf TT TU GL0 C37 ownF L13 (lp Tryz.f13 0)
@[reducible] noncomputable def K13_0 (k : Ex → St → Option CR) : Ex → St → Option CR := fun e s => k e (maskS (W13_0 e) s)
theorem spec13_0 (k : Ex → St → Option CR) : ∀ (m : Nat) (R1 R2 : LL) (id best least : Int) (x25 : LL) (x26 x27 b0_0 b0_1 b0_2 : Int) (b0_3 : Bool) (b0_4 : Int) (b0_5 b0_6 b0_7 : LL) (b0_8 b0_9 : Int) (b0_10 b0_11 b0_12 b0_13 b0_14 b0_15 : LL) (b3_0 b3_1 : Int) (b3_2 : ByteArray) (b3_3 b3_4 b3_5 b3_6 b3_7 b3_8 b3_9 : Int), loopN B13_0 m (E13_0 R1 R2 id best least x25 x26 x27 b0_0 b0_1 b0_2 b0_3 b0_4 b0_5 b0_6 b0_7 b0_8 b0_9 b0_10 b0_11 b0_12 b0_13 b0_14 b0_15 b3_0 b3_1 b3_2 b3_3 b3_4 b3_5 b3_6 b3_7 b3_8 b3_9) (K13_0 k) = (G_economy_Depot_0 id x25 x26 b0_0 b0_1 b0_2 b0_3 b0_4 b0_5 b0_6 b0_7 b0_8 b0_9 b0_10 b0_11 b0_12 b0_13 b0_14 b0_15 b3_1 m best least x27).bind (X13_0 k)
 | 0, _, _, _, _, _, _, _, _, _, _, _, _, _, _, _, _, _, _, _, _, _, _, _, _, _, _, _, _, _, _, _, _, _, _ => rfl
 | m + 1, R1, R2, id, best, least, x25, x26, x27, b0_0, b0_1, b0_2, b0_3, b0_4, b0_5, b0_6, b0_7, b0_8, b0_9, b0_10, b0_11, b0_12, b0_13, b0_14, b0_15, b3_0, b3_1, b3_2, b3_3, b3_4, b3_5, b3_6, b3_7, b3_8, b3_9 =>
 Eq.trans (by kernel_rfl) (nd rfl (nd rfl (nb fun r => (nd rfl (nb fun t => (nu (show ((((true && (verEq t.1.length t.1.length)) && true) && true) && true) = true from (n_andL (n_andL (n_andL (n_andL rfl (verEq_rfl _)) rfl) rfl) rfl)) (nu (show ((((true && (verEq t.2.1.length t.2.1.length)) && true) && true) && true) = true from (n_andL (n_andL (n_andL (n_andL rfl (verEq_rfl _)) rfl) rfl) rfl)) (nu (show ((((true && (verEq t.2.2.1.length t.2.2.1.length)) && true) && true) && true) = true from (n_andL (n_andL (n_andL (n_andL rfl (verEq_rfl _)) rfl) rfl) rfl)) (nd rfl (spec13_0 k m R1 R2 id best least x25 x26 (wr (x27 + (1 : Int))) b0_0 b0_1 b0_2 b0_3 b0_4 b0_5 b0_6 b0_7 b0_8 b0_9 b0_10 b0_11 b0_12 b0_13 b0_14 b0_15 b3_0 b3_1 b3_2 b3_3 b3_4 b3_5 b3_6 b3_7 b3_8 b3_9) (nb fun t1 => (nd rfl (spec13_0 k m R1 R2 id best least x25 x26 (wr (x27 + (1 : Int))) b0_0 b0_1 b0_2 b0_3 b0_4 b0_5 b0_6 b0_7 b0_8 b0_9 b0_10 b0_11 b0_12 b0_13 b0_14 b0_15 b3_0 b3_1 b3_2 b3_3 b3_4 b3_5 b3_6 b3_7 b3_8 b3_9) (nd rfl (spec13_0 k m R1 R2 id best least x25 x26 (wr (x27 + (1 : Int))) b0_0 b0_1 b0_2 b0_3 b0_4 b0_5 b0_6 b0_7 b0_8 b0_9 b0_10 b0_11 b0_12 b0_13 b0_14 b0_15 b3_0 b3_1 b3_2 b3_3 b3_4 b3_5 b3_6 b3_7 b3_8 b3_9) (nd rfl (spec13_0 k m R1 R2 id best least x25 x26 (wr (x27 + (1 : Int))) b0_0 b0_1 b0_2 b0_3 b0_4 b0_5 b0_6 b0_7 b0_8 b0_9 b0_10 b0_11 b0_12 b0_13 b0_14 b0_15 b3_0 b3_1 b3_2 b3_3 b3_4 b3_5 b3_6 b3_7 b3_8 b3_9) (nd rfl (spec13_0 k m R1 R2 id best least x25 x26 (wr (x27 + (1 : Int))) b0_0 b0_1 b0_2 b0_3 b0_4 b0_5 b0_6 b0_7 b0_8 b0_9 b0_10 b0_11 b0_12 b0_13 b0_14 b0_15 b3_0 b3_1 b3_2 b3_3 b3_4 b3_5 b3_6 b3_7 b3_8 b3_9) (nb fun t2 => (nd rfl (nd rfl (spec13_0 k m R1 R2 id (cI r 0) t2.1 x25 x26 (wr (x27 + (1 : Int))) b0_0 b0_1 b0_2 b0_3 b0_4 b0_5 b0_6 b0_7 b0_8 b0_9 b0_10 b0_11 b0_12 b0_13 b0_14 b0_15 b3_0 b3_1 b3_2 b3_3 b3_4 b3_5 b3_6 b3_7 b3_8 b3_9) (nd rfl (spec13_0 k m R1 R2 id (cI r 0) t2.1 x25 x26 (wr (x27 + (1 : Int))) b0_0 b0_1 b0_2 b0_3 b0_4 b0_5 b0_6 b0_7 b0_8 b0_9 b0_10 b0_11 b0_12 b0_13 b0_14 b0_15 b3_0 b3_1 b3_2 b3_3 b3_4 b3_5 b3_6 b3_7 b3_8 b3_9) (nd rfl (nd rfl (spec13_0 k m R1 R2 id (cI r 0) t2.1 x25 x26 (wr (x27 + (1 : Int))) b0_0 b0_1 b0_2 b0_3 b0_4 b0_5 b0_6 b0_7 b0_8 b0_9 b0_10 b0_11 b0_12 b0_13 b0_14 b0_15 b3_0 b3_1 b3_2 b3_3 b3_4 b3_5 b3_6 b3_7 b3_8 b3_9) (spec13_0 k m R1 R2 id best least x25 x26 (wr (x27 + (1 : Int))) b0_0 b0_1 b0_2 b0_3 b0_4 b0_5 b0_6 b0_7 b0_8 b0_9 b0_10 b0_11 b0_12 b0_13 b0_14 b0_15 b3_0 b3_1 b3_2 b3_3 b3_4 b3_5 b3_6 b3_7 b3_8 b3_9)) (spec13_0 k m R1 R2 id best least x25 x26 (wr (x27 + (1 : Int))) b0_0 b0_1 b0_2 b0_3 b0_4 b0_5 b0_6 b0_7 b0_8 b0_9 b0_10 b0_11 b0_12 b0_13 b0_14 b0_15 b3_0 b3_1 b3_2 b3_3 b3_4 b3_5 b3_6 b3_7 b3_8 b3_9)))) (spec13_0 k m R1 R2 id best least x25 x26 (wr (x27 + (1 : Int))) b0_0 b0_1 b0_2 b0_3 b0_4 b0_5 b0_6 b0_7 b0_8 b0_9 b0_10 b0_11 b0_12 b0_13 b0_14 b0_15 b3_0 b3_1 b3_2 b3_3 b3_4 b3_5 b3_6 b3_7 b3_8 b3_9))))))))))))) rfl)) rfl) rfl)
theorem okL13_0 : LoopOk TT TU GL0 C37 ownF L13 (lp Tryz.f13 0) :=
 loopOk_of ks13_0 hs13_0 W13_0 FU _ (fun s k => by kernel_rfl) (fun s k => spec13_0 k FU (blkAt s.heap 1).2.rows (blkAt s.heap 2).2.rows (sI s 1) (sI s 7) (sI s 8) (sR s 25) (sI s 26) (sI s 27) (aIh s 0 0) (aIh s 0 1) (aIh s 0 2) (aBh s 0 3) (aIh s 0 4) (aRh s 0 5) (aRh s 0 6) (aRh s 0 7) (aIh s 0 8) (aIh s 0 9) (aRh s 0 10) (aRh s 0 11) (aRh s 0 12) (aRh s 0 13) (aRh s 0 14) (aRh s 0 15) (aIh s 3 0) (aIh s 3 1) (aSh s 3 2) (aIh s 3 3) (aIh s 3 4) (aIh s 3 5) (aIh s 3 6) (aIh s 3 7) (aIh s 3 8) (aIh s 3 9))
theorem run13 (zr zk zm : Int) (zl : Bool) (zs : Int) (ze zc zd : LL) (zj zi : Int) (zf zb za zo zg zh : LL) (id : Int) : fcall TT TU GL0 C37 ownF true L13 Tryz.f13 [(.agg [(i64 zr), (i64 zk), (i64 zm), (bo zl), (.sc (.int .u64 zs)), (.ro 19 ze), (.ro 6 zc), (.ro 8 zd), (i64 zj), (i64 zi), (.ro 3 zf), (.ro 6 zb), (.ro 12 za), (.ro 9 zo), (.ro 3 zg), (.ro 4 zh)]), (i64 id)] = (F_economy_Depot zr zk zm zl zs ze zc zd zj zi zf zb za zo zg zh id).bind fun t => some (enc13 t) :=
 Eq.trans (by kernel_rfl) (nb fun t => (nu (show ((((true && (verEq t.1.length t.1.length)) && true) && true) && true) = true from (n_andL (n_andL (n_andL (n_andL rfl (verEq_rfl _)) rfl) rfl) rfl)) (nu (show ((((true && (verEq t.2.1.length t.2.1.length)) && true) && true) && true) = true from (n_andL (n_andL (n_andL (n_andL rfl (verEq_rfl _)) rfl) rfl) rfl)) (nd rfl rfl (nu (show (((true && (verEq t.1.length (blkLen [(Prod.mk 16000 (Blk.mk BKind.box 37 16 [[(i64 zr), (i64 zk), (i64 zm), (bo zl), (AVal.sc (Value.int IntKind.u64 zs)), (AVal.ro 19 ze), (AVal.ro 6 zc), (AVal.ro 8 zd), (i64 zj), (i64 zi), (AVal.ro 3 zf), (AVal.ro 6 zb), (AVal.ro 12 za), (AVal.ro 9 zo), (AVal.ro 3 zg), (AVal.ro 4 zh)]])), (Prod.mk 19248 (Blk.mk BKind.arr 104 5 t.1)), (Prod.mk 19249 (Blk.mk BKind.arr 163 3 t.2.1)), (Prod.mk 19312 (Blk.mk BKind.box 60 12 [[(i64 t.2.2.1), (i64 t.2.2.2.1), (AVal.sc (Value.string t.2.2.2.2.1)), (i64 t.2.2.2.2.2.1), (i64 t.2.2.2.2.2.2.1), (i64 t.2.2.2.2.2.2.2.1), (i64 t.2.2.2.2.2.2.2.2.1), (i64 t.2.2.2.2.2.2.2.2.2.1), (i64 t.2.2.2.2.2.2.2.2.2.2.1), (i64 t.2.2.2.2.2.2.2.2.2.2.2.1), (AVal.slc 19248 t.1.length), (AVal.slc 19249 t.2.1.length)]]))] 1))) && ((true && (verEq t.2.1.length (blkLen [(Prod.mk 16000 (Blk.mk BKind.box 37 16 [[(i64 zr), (i64 zk), (i64 zm), (bo zl), (AVal.sc (Value.int IntKind.u64 zs)), (AVal.ro 19 ze), (AVal.ro 6 zc), (AVal.ro 8 zd), (i64 zj), (i64 zi), (AVal.ro 3 zf), (AVal.ro 6 zb), (AVal.ro 12 za), (AVal.ro 9 zo), (AVal.ro 3 zg), (AVal.ro 4 zh)]])), (Prod.mk 19248 (Blk.mk BKind.arr 104 5 t.1)), (Prod.mk 19249 (Blk.mk BKind.arr 163 3 t.2.1)), (Prod.mk 19312 (Blk.mk BKind.box 60 12 [[(i64 t.2.2.1), (i64 t.2.2.2.1), (AVal.sc (Value.string t.2.2.2.2.1)), (i64 t.2.2.2.2.2.1), (i64 t.2.2.2.2.2.2.1), (i64 t.2.2.2.2.2.2.2.1), (i64 t.2.2.2.2.2.2.2.2.1), (i64 t.2.2.2.2.2.2.2.2.2.1), (i64 t.2.2.2.2.2.2.2.2.2.2.1), (i64 t.2.2.2.2.2.2.2.2.2.2.2.1), (AVal.slc 19248 t.1.length), (AVal.slc 19249 t.2.1.length)]]))] 2))) && true)) && true) = true from (n_andL (n_andL (n_andL rfl (by first | exact verEq_of rfl | simp [verEq, blkLen, blkAt])) (n_andL (n_andL rfl (by first | exact verEq_of rfl | simp [verEq, blkLen, blkAt])) rfl)) rfl)) (nb fun t1 => rfl))))))
theorem lib13 : Lib Tryz.prog GL0 C13 :=
 Lib.fn lib37 mixed TT_ok Tryz.func13 (by decide +kernel) (by kernel_rfl) true L13 (loops_of 1 (by kernel_rfl) (belowS below0 okL13_0)) ks13 (F := A13) (fun us => rfl) (fun us => run13 _ _ _ _ _ _ _ _ _ _ _ _ _ _ _ _ _) (fun t => rfl)
noncomputable def F_economy_find_1 (zaA zap zaq zao : Int) (zan : LL) (zau : Bool) (a1 : Int) : Option (Bool) := some (zaA == a1)
noncomputable def enc50 (t : Bool) : CR := ⟨true, (bo t), [], []⟩
noncomputable def ks50 : List SK := [.agg [.int .i64, .int .i64, .int .i64, .int .i64, .ro 1, .bool], .rptr [.int .i64]]
noncomputable def A50 (us : List AVal) := F_economy_find_1 (aI us 0 0) (aI us 0 1) (aI us 0 2) (aI us 0 3) (aR us 0 4) (aB us 0 5) (toI (cIa (rptrL (cIa us 1)) 0))
noncomputable def S50 (us : List AVal) : Call := bif chkA ks50 us then Call.of (A50 us) enc50 else Call.none
noncomputable def C50 := AI.ext 50 S50 C13
theorem run50 (zaA zap zaq zao : Int) (zan : LL) (zau : Bool) (a1 : Int) : fcall TT TU GL0 C13 ownF true noL Tryz.f50 [(.agg [(i64 zaA), (i64 zap), (i64 zaq), (i64 zao), (.ro 1 zan), (bo zau)]), (.rptr [(i64 a1)])] = (F_economy_find_1 zaA zap zaq zao zan zau a1).bind fun t => some (enc50 t) :=
 Eq.trans (by kernel_rfl) rfl
theorem lib50 : Lib Tryz.prog GL0 C50 :=
 Lib.fn lib13 mixed TT_ok Tryz.func50 (by decide +kernel) (by kernel_rfl) true noL (loops_of 0 (by kernel_rfl) below0) ks50 (F := A50) (fun us => rfl) (fun us => run50 _ _ _ _ _ _ _) (fun t => rfl)
noncomputable def W49_0 : Ex → List Bool
 | .ret => (e4 (true :: (e4 (e4 (e4 [false, false])))))
 | .exit n => bif Nat.beq n 0 then (e16 [false, false, false]) else []
 | .normal => []
noncomputable def G_slices_IndexFunc_Player_0 (s1 : LL) (f_0_0 x7 : Int) : Nat → Int → Option (Bool × Int)
 | 0, _ => none
 | m + 1, x8 => bif (decide (x8 < x7)) then bif (decide ((0 : Int) ≤ x8)) then Option.bind (s1[x8.toNat]?) fun r => bif (chk y7 r) then Option.bind (F_economy_find_1 (cI r 0) (cI r 1) (cI r 2) (cI r 3) (roRows (AVal.ro 1 (cR r 4))) (cB r 5) f_0_0) fun t => bif t then some (true, x8) else
 G_slices_IndexFunc_Player_0 s1 f_0_0 x7 m (wr (x8 + (1 : Int))) else none else none else some (false, 0)
noncomputable def E49_0 (s1 : LL) (f_0_0 x7 x8 : Int) : St := ⟨((.ro 6 s1) :: (.clo 50 [(.rptr [(i64 f_0_0)])]) :: (d4 (.dead :: ((i64 x7) :: (i64 x8) :: (d4 (d4 [.dead, .dead])))))), []⟩
noncomputable def X49_0 (k : Ex → St → Option CR) (t : Bool × Int) : Option CR := bif t.1 then k .ret ⟨(d4 ((.sc (.int .i64 t.2)) :: (d4 (d4 (d4 [.dead, .dead]))))), []⟩ else k (.exit 0) ⟨(d16 [.dead, .dead, .dead]), []⟩
noncomputable def ks49_0 : List SK := (.f (.ro 6) :: .f (.clo 50 [[.int .i64]]) :: (f4 (.f .dead :: (.f (.int .i64) :: .f (.int .i64) :: (f4 (f4 [.f .dead, .f .dead]))))))
noncomputable def hs49_0 : List HK := []
noncomputable def Lm49_0 (s : St) (k : Ex → St → Option CR) : Option CR := bif chkS ks49_0 hs49_0 s then (G_slices_IndexFunc_Player_0 (sR s 0) (toI (cIa (rptrL (cIa (cloL (cIa s.tmps 1)) 0)) 0)) (sI s 7) FU (sI s 8)).bind (X49_0 k) else none
noncomputable def L49_0 (s : St) (k : Ex → St → Option CR) : Option CR := Lm49_0 (maskS (maskOf ks49_0) s) k
noncomputable def L49 : LT' := fun i s k => bif Nat.beq i 0 then L49_0 s k else none
noncomputable def F_slices_IndexFunc_Player (s1 : LL) (f_0 : Int) : Option (Int) := Option.bind (G_slices_IndexFunc_Player_0 s1 f_0 (Int.ofNat s1.length) FU (0 : Int)) fun t => bif t.1 then some t.2 else some (-(1 : Int))
noncomputable def enc49 (t : Int) : CR := ⟨true, (i64 t), [], []⟩
noncomputable def ks49 : List SK := [.f (.ro 6), .f (.clo 50 [[.int .i64]])]
noncomputable def A49 (us : List AVal) := F_slices_IndexFunc_Player (roRows (cIa us 0)) (toI (cIa (rptrL (cIa (cloL (cIa us 1)) 0)) 0))
noncomputable def S49 (us : List AVal) : Call := bif chkA ks49 us then Call.of (A49 us) enc49 else Call.none
noncomputable def C49 := AI.ext 49 S49 C50
@[reducible] noncomputable def B49_0 := bodyOf TT TU GL0 C50 ownF L49 (lp Tryz.f49 0)
@[reducible] noncomputable def K49_0 (k : Ex → St → Option CR) : Ex → St → Option CR := fun e s => k e (maskS (W49_0 e) s)
theorem spec49_0 (k : Ex → St → Option CR) : ∀ (m : Nat) (s1 : LL) (f_0_0 x7 x8 : Int), loopN B49_0 m (E49_0 s1 f_0_0 x7 x8) (K49_0 k) = (G_slices_IndexFunc_Player_0 s1 f_0_0 x7 m x8).bind (X49_0 k)
 | 0, _, _, _, _ => rfl
 | m + 1, s1, f_0_0, x7, x8 =>
 Eq.trans (by kernel_rfl) (nd rfl (nd rfl (nb fun r => (nd rfl (nb fun t => (nd rfl rfl (spec49_0 k m s1 f_0_0 x7 (wr (x8 + (1 : Int)))))) rfl)) rfl) rfl)
theorem okL49_0 : LoopOk TT TU GL0 C50 ownF L49 (lp Tryz.f49 0) :=
 loopOk_of ks49_0 hs49_0 W49_0 FU _ (fun s k => by kernel_rfl) (fun s k => spec49_0 k FU (sR s 0) (toI (cIa (rptrL (cIa (cloL (cIa s.tmps 1)) 0)) 0)) (sI s 7) (sI s 8))
theorem run49 (s1 : LL) (f_0 : Int) : fcall TT TU GL0 C50 ownF true L49 Tryz.f49 [(.ro 6 s1), (.clo 50 [(.rptr [(i64 f_0)])])] = (F_slices_IndexFunc_Player s1 f_0).bind fun t => some (enc49 t) :=
 Eq.trans (by kernel_rfl) (nb fun t => (nd rfl rfl rfl))
theorem lib49 : Lib Tryz.prog GL0 C49 :=
 Lib.fn lib50 mixed TT_ok Tryz.func49 (by decide +kernel) (by kernel_rfl) true L49 (loops_of 1 (by kernel_rfl) (belowS below0 okL49_0)) ks49 (F := A49) (fun us => rfl) (fun us => run49 _ _) (fun t => rfl)
noncomputable def F_economy_find (zr zk zm : Int) (zl : Bool) (zs : Int) (ze zc zd : LL) (zj zi : Int) (zf zb za zo zg zh : LL) (player : Int) : Option (Int) := Option.bind (F_slices_IndexFunc_Player zb player) fun t => some t
noncomputable def enc25 (t : Int) : CR := ⟨true, (i64 t), [], []⟩
noncomputable def ks25 : List SK := [.agg [.int .i64, .int .i64, .int .i64, .bool, .int .u64, .ro 19, .ro 6, .ro 8, .int .i64, .int .i64, .ro 3, .ro 6, .ro 12, .ro 9, .ro 3, .ro 4], .f (.int .i64)]
noncomputable def A25 (us : List AVal) := F_economy_find (aI us 0 0) (aI us 0 1) (aI us 0 2) (aB us 0 3) (aI us 0 4) (aR us 0 5) (aR us 0 6) (aR us 0 7) (aI us 0 8) (aI us 0 9) (aR us 0 10) (aR us 0 11) (aR us 0 12) (aR us 0 13) (aR us 0 14) (aR us 0 15) (toI (cIa us 1))
noncomputable def S25 (us : List AVal) : Call := bif chkA ks25 us then Call.of (A25 us) enc25 else Call.none
noncomputable def C25 := AI.ext 25 S25 C49
theorem run25 (zr zk zm : Int) (zl : Bool) (zs : Int) (ze zc zd : LL) (zj zi : Int) (zf zb za zo zg zh : LL) (player : Int) : fcall TT TU GL0 C49 ownRo false noL Tryz.f25 [(.agg [(i64 zr), (i64 zk), (i64 zm), (bo zl), (.sc (.int .u64 zs)), (.ro 19 ze), (.ro 6 zc), (.ro 8 zd), (i64 zj), (i64 zi), (.ro 3 zf), (.ro 6 zb), (.ro 12 za), (.ro 9 zo), (.ro 3 zg), (.ro 4 zh)]), (i64 player)] = (F_economy_find zr zk zm zl zs ze zc zd zj zi zf zb za zo zg zh player).bind fun t => some (enc25 t) :=
 Eq.trans (by kernel_rfl) (nb fun t => rfl)
theorem lib25 : Lib Tryz.prog GL0 C25 :=
 Lib.fn lib49 mixed TT_ok Tryz.func25 (by decide +kernel) (by kernel_rfl) false noL (loops_of 0 (by kernel_rfl) below0) ks25 (F := A25) (fun us => rfl) (fun us => run25 _ _ _ _ _ _ _ _ _ _ _ _ _ _ _ _ _) (fun t => rfl)
noncomputable def F_economy_pair_plus1 (a b a2 : Int) : Option (Int) := bif (decide (a > (wr (a2 - b)))) then some a2 else some (wr (a + b))
noncomputable def enc86 (t : Int) : CR := ⟨true, (i64 t), [], []⟩
noncomputable def ks86 : List SK := [.f (.int .i64), .f (.int .i64), .rptr [.int .i64]]
noncomputable def A86 (us : List AVal) := F_economy_pair_plus1 (toI (cIa us 0)) (toI (cIa us 1)) (toI (cIa (rptrL (cIa us 2)) 0))
noncomputable def S86 (us : List AVal) : Call := bif chkA ks86 us then Call.of (A86 us) enc86 else Call.none
noncomputable def C86 := AI.ext 86 S86 C25
theorem run86 (a b a2 : Int) : fcall TT TU GL0 C25 ownF true noL Tryz.f86 [(i64 a), (i64 b), (.rptr [(i64 a2)])] = (F_economy_pair_plus1 a b a2).bind fun t => some (enc86 t) :=
 Eq.trans (by kernel_rfl) (nd rfl rfl rfl)
theorem lib86 : Lib Tryz.prog GL0 C86 :=
 Lib.fn lib25 mixed TT_ok Tryz.func86 (by decide +kernel) (by kernel_rfl) true noL (loops_of 0 (by kernel_rfl) below0) ks86 (F := A86) (fun us => rfl) (fun us => run86 _ _ _) (fun t => rfl)
noncomputable def F_economy_pair_plus (p_ore p_wood q_ore q_wood most : Int) : Option (Int × Int) := Option.bind (F_economy_pair_plus1 p_ore q_ore most) fun t => Option.bind (F_economy_pair_plus1 p_wood q_wood most) fun t1 => some (t, t1)
noncomputable def enc42 (t : Int × Int) : CR := ⟨true, (.agg [(.sc (.int .i64 t.1)), (.sc (.int .i64 t.2))]), [], []⟩
noncomputable def ks42 : List SK := [.agg [.int .i64, .int .i64], .agg [.int .i64, .int .i64], .f (.int .i64)]
noncomputable def A42 (us : List AVal) := F_economy_pair_plus (aI us 0 0) (aI us 0 1) (aI us 1 0) (aI us 1 1) (toI (cIa us 2))
noncomputable def S42 (us : List AVal) : Call := bif chkA ks42 us then Call.of (A42 us) enc42 else Call.none
noncomputable def C42 := AI.ext 42 S42 C86
theorem run42 (p_ore p_wood q_ore q_wood most : Int) : fcall TT TU GL0 C86 ownRo false noL Tryz.f42 [(.agg [(i64 p_ore), (i64 p_wood)]), (.agg [(i64 q_ore), (i64 q_wood)]), (i64 most)] = (F_economy_pair_plus p_ore p_wood q_ore q_wood most).bind fun t => some (enc42 t) :=
 Eq.trans (by kernel_rfl) (nb fun t => (nb fun t1 => rfl))
theorem lib42 : Lib Tryz.prog GL0 C42 :=
 Lib.fn lib86 mixed TT_ok Tryz.func42 (by decide +kernel) (by kernel_rfl) false noL (loops_of 0 (by kernel_rfl) below0) ks42 (F := A42) (fun us => rfl) (fun us => run42 _ _ _ _ _) (fun t => rfl)
noncomputable def F_economy_receive (zr zk zm : Int) (zl : Bool) (zs : Int) (ze zc zd : LL) (zj zi : Int) (zf zb za zo zg zh : LL) (k1 x_ore x_wood : Int) : Option (LL) := bif ((decide ((0 : Int) ≤ k1)) && (decide (k1 < (Int.ofNat zb.length)))) then Option.bind (zb[k1.toNat]?) fun r => bif (chk y7 r) then Option.bind (zb[k1.toNat]?) fun r1 => bif (chk y7 r1) then Option.bind (F_economy_pair_plus (cI r 2) (cI r1 3) x_ore x_wood (1000000 : Int)) fun t => some (Blk.rows (Blk.mk BKind.arr 70 6 (List.set (Blk.rows (Blk.mk BKind.arr 70 6 (List.set zb k1.toNat (splice (List.getD zb k1.toNat []) 2 [(i64 t.1)])))) k1.toNat (splice (List.getD (Blk.rows (Blk.mk BKind.arr 70 6 (List.set zb k1.toNat (splice (List.getD zb k1.toNat []) 2 [(i64 t.1)])))) k1.toNat []) 3 [(i64 t.2)])))) else none else none else none
noncomputable def enc33 (zr zk zm : Int) (zl : Bool) (zs : Int) (ze zc zd : LL) (zj zi : Int) (zf zb za zo zg zh : LL) (k1 x_ore x_wood : Int) (t : LL) : CR := ⟨true, (.tup []), [[[(i64 zr), (i64 zk), (i64 zm), (bo zl), (.sc (.int .u64 zs)), (.ro 19 ze), (.ro 6 zc), (.ro 8 zd), (i64 zj), (i64 zi), (.ro 3 zf), (.slc 1 (t).length), (.slc 2 (za).length), (.ro 9 zo), (.ro 3 zg), (.ro 4 zh)]], t, za], []⟩
noncomputable def ks33 : List SK := [.f (.ref 0 1 0 0), .f (.int .i64), .agg [.int .i64, .int .i64]]
noncomputable def hs33 : List HK := [⟨0, .box, 37, 16, some [.int .i64, .int .i64, .int .i64, .bool, .int .u64, .ro 19, .ro 6, .ro 8, .int .i64, .int .i64, .ro 3, .slc 1 1, .slc 2 2, .ro 9, .ro 3, .ro 4]⟩, ⟨1, .arr, 70, 6, none⟩, ⟨2, .arr, 60, 12, none⟩]
noncomputable def S33 (us : List AVal) (bs : List Blk) : Call := Call.guard (chkS ks33 hs33 ⟨us, numK 0 bs⟩) (Call.of (F_economy_receive (toI (cIa (rows0 (blkAt (numK 0 bs) 0).2) 0)) (toI (cIa (rows0 (blkAt (numK 0 bs) 0).2) 1)) (toI (cIa (rows0 (blkAt (numK 0 bs) 0).2) 2)) (toB (cIa (rows0 (blkAt (numK 0 bs) 0).2) 3)) (toI (cIa (rows0 (blkAt (numK 0 bs) 0).2) 4)) (roRows (cIa (rows0 (blkAt (numK 0 bs) 0).2) 5)) (roRows (cIa (rows0 (blkAt (numK 0 bs) 0).2) 6)) (roRows (cIa (rows0 (blkAt (numK 0 bs) 0).2) 7)) (toI (cIa (rows0 (blkAt (numK 0 bs) 0).2) 8)) (toI (cIa (rows0 (blkAt (numK 0 bs) 0).2) 9)) (roRows (cIa (rows0 (blkAt (numK 0 bs) 0).2) 10)) (blkAt (numK 0 bs) 1).2.rows (blkAt (numK 0 bs) 2).2.rows (roRows (cIa (rows0 (blkAt (numK 0 bs) 0).2) 13)) (roRows (cIa (rows0 (blkAt (numK 0 bs) 0).2) 14)) (roRows (cIa (rows0 (blkAt (numK 0 bs) 0).2) 15)) (toI (cIa us 1)) (aI us 2 0) (aI us 2 1)) (enc33 (toI (cIa (rows0 (blkAt (numK 0 bs) 0).2) 0)) (toI (cIa (rows0 (blkAt (numK 0 bs) 0).2) 1)) (toI (cIa (rows0 (blkAt (numK 0 bs) 0).2) 2)) (toB (cIa (rows0 (blkAt (numK 0 bs) 0).2) 3)) (toI (cIa (rows0 (blkAt (numK 0 bs) 0).2) 4)) (roRows (cIa (rows0 (blkAt (numK 0 bs) 0).2) 5)) (roRows (cIa (rows0 (blkAt (numK 0 bs) 0).2) 6)) (roRows (cIa (rows0 (blkAt (numK 0 bs) 0).2) 7)) (toI (cIa (rows0 (blkAt (numK 0 bs) 0).2) 8)) (toI (cIa (rows0 (blkAt (numK 0 bs) 0).2) 9)) (roRows (cIa (rows0 (blkAt (numK 0 bs) 0).2) 10)) (blkAt (numK 0 bs) 1).2.rows (blkAt (numK 0 bs) 2).2.rows (roRows (cIa (rows0 (blkAt (numK 0 bs) 0).2) 13)) (roRows (cIa (rows0 (blkAt (numK 0 bs) 0).2) 14)) (roRows (cIa (rows0 (blkAt (numK 0 bs) 0).2) 15)) (toI (cIa us 1)) (aI us 2 0) (aI us 2 1)))
noncomputable def C33 := AI.extH 33 S33 C42
theorem run33 (zr zk zm : Int) (zl : Bool) (zs : Int) (ze zc zd : LL) (zj zi : Int) (zf zb za zo zg zh : LL) (k1 x_ore x_wood : Int) : fcallH TT TU GL0 C42 ownF noL Tryz.f33 [(.ref 0 1 0 0), (i64 k1), (.agg [(i64 x_ore), (i64 x_wood)])] [(0, (⟨.box, 37, 16, [[(i64 zr), (i64 zk), (i64 zm), (bo zl), (.sc (.int .u64 zs)), (.ro 19 ze), (.ro 6 zc), (.ro 8 zd), (i64 zj), (i64 zi), (.ro 3 zf), (.slc 1 (List.length zb)), (.slc 2 (List.length za)), (.ro 9 zo), (.ro 3 zg), (.ro 4 zh)]]⟩ : Blk)), (1, (⟨.arr, 70, 6, zb⟩ : Blk)), (2, (⟨.arr, 60, 12, za⟩ : Blk))] = (F_economy_receive zr zk zm zl zs ze zc zd zj zi zf zb za zo zg zh k1 x_ore x_wood).bind fun t => some (enc33 zr zk zm zl zs ze zc zd zj zi zf zb za zo zg zh k1 x_ore x_wood t) :=
 Eq.trans (by kernel_rfl) (nd (show ((((verEq zb.length zb.length) && (decide ((0 : Int) ≤ k1))) && (decide (k1 < (Int.ofNat zb.length))))) = _ from (n_and (n_andL (verEq_rfl _) rfl) rfl)) (nu (vr zb) (nu (vr zb) (nu (vr zb) (nb fun r => (nd rfl (nu (vr zb) (nu (vr zb) (nu (vr zb) (nb fun r1 => (nd rfl (nb fun t => (nu (vr zb) (nu (vr zb) (nu (show ((((verEq zb.length zb.length) && true) && true) && true) = true from (n_andL (n_andL (n_andL (verEq_rfl _) rfl) rfl) rfl)) (nu (show (verEq (Blk.rows (Blk.mk BKind.arr 70 6 (List.set zb k1.toNat (splice (List.getD zb k1.toNat []) 2 [(i64 t.1)])))).length zb.length) = true from (by first | exact verEq_of rfl | simp [verEq, blkLen, blkAt])) (nu (show (verEq (Blk.rows (Blk.mk BKind.arr 70 6 (List.set zb k1.toNat (splice (List.getD zb k1.toNat []) 2 [(i64 t.1)])))).length zb.length) = true from (by first | exact verEq_of rfl | simp [verEq, blkLen, blkAt])) (nu (show ((((verEq (Blk.rows (Blk.mk BKind.arr 70 6 (List.set zb k1.toNat (splice (List.getD zb k1.toNat []) 2 [(i64 t.1)])))).length zb.length) && true) && true) && true) = true from (n_andL (n_andL (n_andL (by first | exact verEq_of rfl | simp [verEq, blkLen, blkAt]) rfl) rfl) rfl)) (nu (show (verEq (Blk.rows (Blk.mk BKind.arr 70 6 (List.set (Blk.rows (Blk.mk BKind.arr 70 6 (List.set zb k1.toNat (splice (List.getD zb k1.toNat []) 2 [(i64 t.1)])))) k1.toNat (splice (List.getD (Blk.rows (Blk.mk BKind.arr 70 6 (List.set zb k1.toNat (splice (List.getD zb k1.toNat []) 2 [(i64 t.1)])))) k1.toNat []) 3 [(i64 t.2)])))).length zb.length) = true from (by first | exact verEq_of rfl | simp [verEq, blkLen, blkAt])) (nu (vr za) rfl))))))))) rfl))))) rfl))))) rfl)
theorem lib33 : Lib Tryz.prog GL0 C33 :=
 Lib.fnH lib42 mixed TT_ok Tryz.func33 (by decide +kernel) (by kernel_rfl) noL (loops_of 0 (by kernel_rfl) below0) ks33 hs33 (by kernel_rfl) (F := fun us H => F_economy_receive (toI (cIa (rows0 (blkAt H 0).2) 0)) (toI (cIa (rows0 (blkAt H 0).2) 1)) (toI (cIa (rows0 (blkAt H 0).2) 2)) (toB (cIa (rows0 (blkAt H 0).2) 3)) (toI (cIa (rows0 (blkAt H 0).2) 4)) (roRows (cIa (rows0 (blkAt H 0).2) 5)) (roRows (cIa (rows0 (blkAt H 0).2) 6)) (roRows (cIa (rows0 (blkAt H 0).2) 7)) (toI (cIa (rows0 (blkAt H 0).2) 8)) (toI (cIa (rows0 (blkAt H 0).2) 9)) (roRows (cIa (rows0 (blkAt H 0).2) 10)) (blkAt H 1).2.rows (blkAt H 2).2.rows (roRows (cIa (rows0 (blkAt H 0).2) 13)) (roRows (cIa (rows0 (blkAt H 0).2) 14)) (roRows (cIa (rows0 (blkAt H 0).2) 15)) (toI (cIa us 1)) (aI us 2 0) (aI us 2 1)) (enc := fun us H => enc33 (toI (cIa (rows0 (blkAt H 0).2) 0)) (toI (cIa (rows0 (blkAt H 0).2) 1)) (toI (cIa (rows0 (blkAt H 0).2) 2)) (toB (cIa (rows0 (blkAt H 0).2) 3)) (toI (cIa (rows0 (blkAt H 0).2) 4)) (roRows (cIa (rows0 (blkAt H 0).2) 5)) (roRows (cIa (rows0 (blkAt H 0).2) 6)) (roRows (cIa (rows0 (blkAt H 0).2) 7)) (toI (cIa (rows0 (blkAt H 0).2) 8)) (toI (cIa (rows0 (blkAt H 0).2) 9)) (roRows (cIa (rows0 (blkAt H 0).2) 10)) (blkAt H 1).2.rows (blkAt H 2).2.rows (roRows (cIa (rows0 (blkAt H 0).2) 13)) (roRows (cIa (rows0 (blkAt H 0).2) 14)) (roRows (cIa (rows0 (blkAt H 0).2) 15)) (toI (cIa us 1)) (aI us 2 0) (aI us 2 1)) (fun us bs => rfl) (fun us H => run33 (toI (cIa (rows0 (blkAt H 0).2) 0)) (toI (cIa (rows0 (blkAt H 0).2) 1)) (toI (cIa (rows0 (blkAt H 0).2) 2)) (toB (cIa (rows0 (blkAt H 0).2) 3)) (toI (cIa (rows0 (blkAt H 0).2) 4)) (roRows (cIa (rows0 (blkAt H 0).2) 5)) (roRows (cIa (rows0 (blkAt H 0).2) 6)) (roRows (cIa (rows0 (blkAt H 0).2) 7)) (toI (cIa (rows0 (blkAt H 0).2) 8)) (toI (cIa (rows0 (blkAt H 0).2) 9)) (roRows (cIa (rows0 (blkAt H 0).2) 10)) (blkAt H 1).2.rows (blkAt H 2).2.rows (roRows (cIa (rows0 (blkAt H 0).2) 13)) (roRows (cIa (rows0 (blkAt H 0).2) 14)) (roRows (cIa (rows0 (blkAt H 0).2) 15)) (toI (cIa us 1)) (aI us 2 0) (aI us 2 1))
noncomputable def F_orders_Done (l : LL) : Option (LL) := bif ((Int.ofNat l.length) == (0 : Int)) then some [] else bif ((decide ((1 : Int) ≤ (Int.ofNat l.length))) && (decide ((Int.ofNat l.length) ≤ (Int.ofNat l.length)))) then Option.bind (F_slices_Clone_Order (roRows (AVal.ro 5 (List.drop (1 : Int).toNat (List.take (Int.ofNat l.length).toNat l))))) fun t => Option.bind (l[(0 : Int).toNat]?) fun r => bif (chk y4 r) then bif ((cI r 0) == (6 : Int)) then Option.bind (l[(0 : Int).toNat]?) fun r1 => bif (chk y4 r1) then bif (roomOk (t.length + 1) 48) then some (t ++ [[(i64 (cI r1 0)), (i64 (cI r1 1)), (i64 (cI r1 2)), (i64 (cI r1 3)), (AVal.sc (Value.string (cS r1 4)))]]) else none else none else some t else none else none
noncomputable def enc75 (t : LL) : CR := ⟨true, (.slc 0 (t).length), [], [⟨.arr, 104, 5, t⟩]⟩
noncomputable def ks75 : List SK := [.f (.ro 5)]
noncomputable def A75 (us : List AVal) := F_orders_Done (roRows (cIa us 0))
noncomputable def S75 (us : List AVal) : Call := bif chkA ks75 us then Call.of (A75 us) enc75 else Call.none
noncomputable def C75 := AI.ext 75 S75 C33
theorem run75 (l : LL) : fcall TT TU GL0 C33 ownF true noL Tryz.f75 [(.ro 5 l)] = (F_orders_Done l).bind fun t => some (enc75 t) :=
 Eq.trans (by kernel_rfl) (nd rfl rfl (nd (show (((((decide ((0 : Int) ≤ (1 : Int))) && (decide ((1 : Int) ≤ (Int.ofNat l.length)))) && (decide ((Int.ofNat l.length) ≤ (Int.ofNat l.length)))) && true)) = _ from (n_andR (n_and (n_andL (by kernel_rfl) rfl) rfl) rfl)) (nb fun t => (nu (show ((((true && (verEq t.length t.length)) && true) && true) && true) = true from (n_andL (n_andL (n_andL (n_andL rfl (verEq_rfl _)) rfl) rfl) rfl)) (nb fun r => (nd rfl (nd rfl (nb fun r1 => (nd rfl (nd (show ((((verEq t.length t.length) && true) && (roomOk (t.length + 1) 48))) = _ from (n_andL (n_andL (verEq_rfl _) rfl) rfl)) (nu (show (verEq (Blk.rows (Blk.mk BKind.arr 104 5 (t ++ [[(i64 (cI r1 0)), (i64 (cI r1 1)), (i64 (cI r1 2)), (i64 (cI r1 3)), (AVal.sc (Value.string (cS r1 4)))]]))).length (t ++ [[(i64 (cI r1 0)), (i64 (cI r1 1)), (i64 (cI r1 2)), (i64 (cI r1 3)), (AVal.sc (Value.string (cS r1 4)))]]).length) = true from (by first | exact verEq_of rfl | simp [verEq, blkLen, blkAt])) rfl) rfl) rfl)) (nu (vr t) rfl)) rfl)))) rfl))
theorem lib75 : Lib Tryz.prog GL0 C75 :=
 Lib.fn lib33 mixed TT_ok Tryz.func75 (by decide +kernel) (by kernel_rfl) true noL (loops_of 0 (by kernel_rfl) below0) ks75 (F := A75) (fun us => rfl) (fun us => run75 _) (fun t => rfl)
noncomputable def F_economy_work (zr zk zm : Int) (zl : Bool) (zs : Int) (ze zc zd : LL) (zj zi : Int) (zf zb za zo zg zh : LL) (i : Int) : Option (LL × LL × Int × Int × LL) := bif ((decide ((0 : Int) ≤ i)) && (decide (i < (Int.ofNat za.length)))) then Option.bind (za[i.toNat]?) fun r => bif (chk y6 r) then Option.bind (F_economy_field zr zk zm zl zs ze zc zd zj zi zf zb za zo zg zh (cI r 0) (cI r 1) (cS r 2) (cI r 3) (cI r 4) (cI r 5) (cI r 6) (cI r 7) (cI r 8) (cI r 9) (roRows (AVal.ro 5 (cR r 10))) (roRows (AVal.ro 3 (cR r 11)))) fun t => bif (!t.2.2.2) then some (zb, za, zj, zi, zf) else Option.bind (F_terrain_Get zj zi zf t.1 t.2.1) fun t1 => bif t1.2.2.2 then Option.bind (za[i.toNat]?) fun r1 => bif (chk y6 r1) then Option.bind (za[i.toNat]?) fun r2 => bif (chk y6 r2) then Option.bind (F_num_Center t.1) fun t2 => Option.bind (F_num_Center t.2.1) fun t3 => bif (decide ((wr ((cI r1 8) + (cI r2 9))) < t.2.2.1)) then bif (decide (t1.2.2.1 > (0 : Int))) then Option.bind (za[i.toNat]?) fun r3 => bif (chk y6 r3) then Option.bind (F_vec_Within (cI r3 3) (cI r3 4) t2 t3 (384 : Int)) fun t4 => bif t4 then Option.bind (F_terrain_Take zj zi zf t.1 t.2.1 (minI (5 : Int) (wr (t.2.2.1 - (wr ((cI r1 8) + (cI r2 9))))))) fun t5 => bif (t5.2.2.2.2 != (0 : Int)) then some (zb, za, zj, zi, zf) else bif (t1.1 == (4 : Int)) then Option.bind (za[i.toNat]?) fun r4 => bif (chk y6 r4) then some (zb, (Blk.rows (Blk.mk BKind.arr 60 12 (List.set za i.toNat (splice (List.getD za i.toNat []) 9 [(i64 (wr ((cI r4 9) + t5.2.2.2.1)))])))), t5.2.1, t5.2.2.1, t5.1) else none else Option.bind (za[i.toNat]?) fun r5 => bif (chk y6 r5) then some (zb, (Blk.rows (Blk.mk BKind.arr 60 12 (List.set za i.toNat (splice (List.getD za i.toNat []) 8 [(i64 (wr ((cI r5 8) + t5.2.2.2.1)))])))), t5.2.1, t5.2.2.1, t5.1) else none else bif (decide ((wr ((cI r1 8) + (cI r2 9))) > (0 : Int))) then Option.bind (za[i.toNat]?) fun r6 => bif (chk y6 r6) then Option.bind (F_economy_Depot zr zk zm zl zs ze zc zd zj zi zf zb za zo zg zh (cI r6 0)) fun t6 => Option.bind (za[i.toNat]?) fun r7 => bif (chk y6 r7) then Option.bind (F_target_Distance zr zk zm zl zs ze zc zd zj zi zf zb za zo zg zh (cI r7 0) t6) fun t7 => bif (t6 != (0 : Int)) then bif t7.2 then bif (decide (t7.1 ≤ (256 : Int))) then Option.bind (za[i.toNat]?) fun r8 => bif (chk y6 r8) then Option.bind (F_economy_find zr zk zm zl zs ze zc zd zj zi zf zb za zo zg zh (cI r8 1)) fun t8 => bif (decide (t8 ≥ (0 : Int))) then Option.bind (za[i.toNat]?) fun r9 => bif (chk y6 r9) then Option.bind (za[i.toNat]?) fun r10 => bif (chk y6 r10) then Option.bind (F_economy_receive zr zk zm zl zs ze zc zd zj zi zf zb za zo zg zh t8 (cI r9 8) (cI r10 9)) fun t9 => some (t9, (Blk.rows (Blk.mk BKind.arr 60 12 (List.set (Blk.rows (Blk.mk BKind.arr 60 12 (List.set za i.toNat (splice (List.getD za i.toNat []) 8 [(i64 (0 : Int))])))) i.toNat (splice (List.getD (Blk.rows (Blk.mk BKind.arr 60 12 (List.set za i.toNat (splice (List.getD za i.toNat []) 8 [(i64 (0 : Int))])))) i.toNat []) 9 [(i64 (0 : Int))])))), zj, zi, zf) else none else none else some (zb, (Blk.rows (Blk.mk BKind.arr 60 12 (List.set (Blk.rows (Blk.mk BKind.arr 60 12 (List.set za i.toNat (splice (List.getD za i.toNat []) 8 [(i64 (0 : Int))])))) i.toNat (splice (List.getD (Blk.rows (Blk.mk BKind.arr 60 12 (List.set za i.toNat (splice (List.getD za i.toNat []) 8 [(i64 (0 : Int))])))) i.toNat []) 9 [(i64 (0 : Int))])))), zj, zi, zf) else none else some (zb, za, zj, zi, zf) else some (zb, za, zj, zi, zf) else some (zb, za, zj, zi, zf) else none else none else some (zb, za, zj, zi, zf) else none else bif (decide ((wr ((cI r1 8) + (cI r2 9))) > (0 : Int))) then Option.bind (za[i.toNat]?) fun r12 => bif (chk y6 r12) then Option.bind (F_economy_Depot zr zk zm zl zs ze zc zd zj zi zf zb za zo zg zh (cI r12 0)) fun t11 => Option.bind (za[i.toNat]?) fun r13 => bif (chk y6 r13) then Option.bind (F_target_Distance zr zk zm zl zs ze zc zd zj zi zf zb za zo zg zh (cI r13 0) t11) fun t12 => bif (t11 != (0 : Int)) then bif t12.2 then bif (decide (t12.1 ≤ (256 : Int))) then Option.bind (za[i.toNat]?) fun r14 => bif (chk y6 r14) then Option.bind (F_economy_find zr zk zm zl zs ze zc zd zj zi zf zb za zo zg zh (cI r14 1)) fun t13 => bif (decide (t13 ≥ (0 : Int))) then Option.bind (za[i.toNat]?) fun r15 => bif (chk y6 r15) then Option.bind (za[i.toNat]?) fun r16 => bif (chk y6 r16) then Option.bind (F_economy_receive zr zk zm zl zs ze zc zd zj zi zf zb za zo zg zh t13 (cI r15 8) (cI r16 9)) fun t14 => some (t14, (Blk.rows (Blk.mk BKind.arr 60 12 (List.set (Blk.rows (Blk.mk BKind.arr 60 12 (List.set za i.toNat (splice (List.getD za i.toNat []) 8 [(i64 (0 : Int))])))) i.toNat (splice (List.getD (Blk.rows (Blk.mk BKind.arr 60 12 (List.set za i.toNat (splice (List.getD za i.toNat []) 8 [(i64 (0 : Int))])))) i.toNat []) 9 [(i64 (0 : Int))])))), zj, zi, zf) else none else none else some (zb, (Blk.rows (Blk.mk BKind.arr 60 12 (List.set (Blk.rows (Blk.mk BKind.arr 60 12 (List.set za i.toNat (splice (List.getD za i.toNat []) 8 [(i64 (0 : Int))])))) i.toNat (splice (List.getD (Blk.rows (Blk.mk BKind.arr 60 12 (List.set za i.toNat (splice (List.getD za i.toNat []) 8 [(i64 (0 : Int))])))) i.toNat []) 9 [(i64 (0 : Int))])))), zj, zi, zf) else none else some (zb, za, zj, zi, zf) else some (zb, za, zj, zi, zf) else some (zb, za, zj, zi, zf) else none else none else Option.bind (za[i.toNat]?) fun r17 => bif (chk y6 r17) then Option.bind (F_orders_Done (roRows (AVal.ro 5 (cR r17 10)))) fun t15 => some (zb, (Blk.rows (Blk.mk BKind.arr 60 12 (List.set za i.toNat (splice (List.getD za i.toNat []) 10 [(AVal.ro 5 t15)])))), zj, zi, zf) else none else bif (decide ((wr ((cI r1 8) + (cI r2 9))) > (0 : Int))) then Option.bind (za[i.toNat]?) fun r18 => bif (chk y6 r18) then Option.bind (F_economy_Depot zr zk zm zl zs ze zc zd zj zi zf zb za zo zg zh (cI r18 0)) fun t16 => Option.bind (za[i.toNat]?) fun r19 => bif (chk y6 r19) then Option.bind (F_target_Distance zr zk zm zl zs ze zc zd zj zi zf zb za zo zg zh (cI r19 0) t16) fun t17 => bif (t16 != (0 : Int)) then bif t17.2 then bif (decide (t17.1 ≤ (256 : Int))) then Option.bind (za[i.toNat]?) fun r20 => bif (chk y6 r20) then Option.bind (F_economy_find zr zk zm zl zs ze zc zd zj zi zf zb za zo zg zh (cI r20 1)) fun t18 => bif (decide (t18 ≥ (0 : Int))) then Option.bind (za[i.toNat]?) fun r21 => bif (chk y6 r21) then Option.bind (za[i.toNat]?) fun r22 => bif (chk y6 r22) then Option.bind (F_economy_receive zr zk zm zl zs ze zc zd zj zi zf zb za zo zg zh t18 (cI r21 8) (cI r22 9)) fun t19 => some (t19, (Blk.rows (Blk.mk BKind.arr 60 12 (List.set (Blk.rows (Blk.mk BKind.arr 60 12 (List.set za i.toNat (splice (List.getD za i.toNat []) 8 [(i64 (0 : Int))])))) i.toNat (splice (List.getD (Blk.rows (Blk.mk BKind.arr 60 12 (List.set za i.toNat (splice (List.getD za i.toNat []) 8 [(i64 (0 : Int))])))) i.toNat []) 9 [(i64 (0 : Int))])))), zj, zi, zf) else none else none else some (zb, (Blk.rows (Blk.mk BKind.arr 60 12 (List.set (Blk.rows (Blk.mk BKind.arr 60 12 (List.set za i.toNat (splice (List.getD za i.toNat []) 8 [(i64 (0 : Int))])))) i.toNat (splice (List.getD (Blk.rows (Blk.mk BKind.arr 60 12 (List.set za i.toNat (splice (List.getD za i.toNat []) 8 [(i64 (0 : Int))])))) i.toNat []) 9 [(i64 (0 : Int))])))), zj, zi, zf) else none else some (zb, za, zj, zi, zf) else some (zb, za, zj, zi, zf) else some (zb, za, zj, zi, zf) else none else none else bif (!(decide (t1.2.2.1 > (0 : Int)))) then Option.bind (za[i.toNat]?) fun r23 => bif (chk y6 r23) then Option.bind (F_orders_Done (roRows (AVal.ro 5 (cR r23 10)))) fun t20 => some (zb, (Blk.rows (Blk.mk BKind.arr 60 12 (List.set za i.toNat (splice (List.getD za i.toNat []) 10 [(AVal.ro 5 t20)])))), zj, zi, zf) else none else some (zb, za, zj, zi, zf) else none else none else Option.bind (za[i.toNat]?) fun r24 => bif (chk y6 r24) then Option.bind (za[i.toNat]?) fun r25 => bif (chk y6 r25) then Option.bind (F_num_Center t.1) fun t21 => Option.bind (F_num_Center t.2.1) fun t22 => bif (decide ((wr ((cI r24 8) + (cI r25 9))) < t.2.2.1)) then bif (decide ((wr ((cI r24 8) + (cI r25 9))) > (0 : Int))) then Option.bind (za[i.toNat]?) fun r26 => bif (chk y6 r26) then Option.bind (F_economy_Depot zr zk zm zl zs ze zc zd zj zi zf zb za zo zg zh (cI r26 0)) fun t23 => Option.bind (za[i.toNat]?) fun r27 => bif (chk y6 r27) then Option.bind (F_target_Distance zr zk zm zl zs ze zc zd zj zi zf zb za zo zg zh (cI r27 0) t23) fun t24 => bif (t23 != (0 : Int)) then bif t24.2 then bif (decide (t24.1 ≤ (256 : Int))) then Option.bind (za[i.toNat]?) fun r28 => bif (chk y6 r28) then Option.bind (F_economy_find zr zk zm zl zs ze zc zd zj zi zf zb za zo zg zh (cI r28 1)) fun t25 => bif (decide (t25 ≥ (0 : Int))) then Option.bind (za[i.toNat]?) fun r29 => bif (chk y6 r29) then Option.bind (za[i.toNat]?) fun r30 => bif (chk y6 r30) then Option.bind (F_economy_receive zr zk zm zl zs ze zc zd zj zi zf zb za zo zg zh t25 (cI r29 8) (cI r30 9)) fun t26 => some (t26, (Blk.rows (Blk.mk BKind.arr 60 12 (List.set (Blk.rows (Blk.mk BKind.arr 60 12 (List.set za i.toNat (splice (List.getD za i.toNat []) 8 [(i64 (0 : Int))])))) i.toNat (splice (List.getD (Blk.rows (Blk.mk BKind.arr 60 12 (List.set za i.toNat (splice (List.getD za i.toNat []) 8 [(i64 (0 : Int))])))) i.toNat []) 9 [(i64 (0 : Int))])))), zj, zi, zf) else none else none else some (zb, (Blk.rows (Blk.mk BKind.arr 60 12 (List.set (Blk.rows (Blk.mk BKind.arr 60 12 (List.set za i.toNat (splice (List.getD za i.toNat []) 8 [(i64 (0 : Int))])))) i.toNat (splice (List.getD (Blk.rows (Blk.mk BKind.arr 60 12 (List.set za i.toNat (splice (List.getD za i.toNat []) 8 [(i64 (0 : Int))])))) i.toNat []) 9 [(i64 (0 : Int))])))), zj, zi, zf) else none else some (zb, za, zj, zi, zf) else some (zb, za, zj, zi, zf) else some (zb, za, zj, zi, zf) else none else none else Option.bind (za[i.toNat]?) fun r31 => bif (chk y6 r31) then Option.bind (F_orders_Done (roRows (AVal.ro 5 (cR r31 10)))) fun t27 => some (zb, (Blk.rows (Blk.mk BKind.arr 60 12 (List.set za i.toNat (splice (List.getD za i.toNat []) 10 [(AVal.ro 5 t27)])))), zj, zi, zf) else none else bif (decide ((wr ((cI r24 8) + (cI r25 9))) > (0 : Int))) then Option.bind (za[i.toNat]?) fun r32 => bif (chk y6 r32) then Option.bind (F_economy_Depot zr zk zm zl zs ze zc zd zj zi zf zb za zo zg zh (cI r32 0)) fun t28 => Option.bind (za[i.toNat]?) fun r33 => bif (chk y6 r33) then Option.bind (F_target_Distance zr zk zm zl zs ze zc zd zj zi zf zb za zo zg zh (cI r33 0) t28) fun t29 => bif (t28 != (0 : Int)) then bif t29.2 then bif (decide (t29.1 ≤ (256 : Int))) then Option.bind (za[i.toNat]?) fun r34 => bif (chk y6 r34) then Option.bind (F_economy_find zr zk zm zl zs ze zc zd zj zi zf zb za zo zg zh (cI r34 1)) fun t30 => bif (decide (t30 ≥ (0 : Int))) then Option.bind (za[i.toNat]?) fun r35 => bif (chk y6 r35) then Option.bind (za[i.toNat]?) fun r36 => bif (chk y6 r36) then Option.bind (F_economy_receive zr zk zm zl zs ze zc zd zj zi zf zb za zo zg zh t30 (cI r35 8) (cI r36 9)) fun t31 => some (t31, (Blk.rows (Blk.mk BKind.arr 60 12 (List.set (Blk.rows (Blk.mk BKind.arr 60 12 (List.set za i.toNat (splice (List.getD za i.toNat []) 8 [(i64 (0 : Int))])))) i.toNat (splice (List.getD (Blk.rows (Blk.mk BKind.arr 60 12 (List.set za i.toNat (splice (List.getD za i.toNat []) 8 [(i64 (0 : Int))])))) i.toNat []) 9 [(i64 (0 : Int))])))), zj, zi, zf) else none else none else some (zb, (Blk.rows (Blk.mk BKind.arr 60 12 (List.set (Blk.rows (Blk.mk BKind.arr 60 12 (List.set za i.toNat (splice (List.getD za i.toNat []) 8 [(i64 (0 : Int))])))) i.toNat (splice (List.getD (Blk.rows (Blk.mk BKind.arr 60 12 (List.set za i.toNat (splice (List.getD za i.toNat []) 8 [(i64 (0 : Int))])))) i.toNat []) 9 [(i64 (0 : Int))])))), zj, zi, zf) else none else some (zb, za, zj, zi, zf) else some (zb, za, zj, zi, zf) else some (zb, za, zj, zi, zf) else none else none else Option.bind (za[i.toNat]?) fun r37 => bif (chk y6 r37) then Option.bind (F_orders_Done (roRows (AVal.ro 5 (cR r37 10)))) fun t32 => some (zb, (Blk.rows (Blk.mk BKind.arr 60 12 (List.set za i.toNat (splice (List.getD za i.toNat []) 10 [(AVal.ro 5 t32)])))), zj, zi, zf) else none else none else none else none else none
noncomputable def enc39 (zr zk zm : Int) (zl : Bool) (zs : Int) (ze zc zd : LL) (zj zi : Int) (zf zb za zo zg zh : LL) (i : Int) (t : LL × LL × Int × Int × LL) : CR := ⟨true, (.tup []), [[[(i64 zr), (i64 zk), (i64 zm), (bo zl), (.sc (.int .u64 zs)), (.ro 19 ze), (.ro 6 zc), (.ro 8 zd), (.sc (.int .i64 t.2.2.1)), (.sc (.int .i64 t.2.2.2.1)), (.ro 3 t.2.2.2.2), (.slc 1 (t.1).length), (.slc 2 (t.2.1).length), (.ro 9 zo), (.ro 3 zg), (.ro 4 zh)]], t.1, t.2.1], []⟩
noncomputable def ks39 : List SK := [.f (.ref 0 1 0 0), .f (.int .i64)]
noncomputable def hs39 : List HK := [⟨0, .box, 37, 16, some [.int .i64, .int .i64, .int .i64, .bool, .int .u64, .ro 19, .ro 6, .ro 8, .int .i64, .int .i64, .ro 3, .slc 1 1, .slc 2 2, .ro 9, .ro 3, .ro 4]⟩, ⟨1, .arr, 70, 6, none⟩, ⟨2, .arr, 60, 12, none⟩]
noncomputable def S39 (us : List AVal) (bs : List Blk) : Call := Call.guard (chkS ks39 hs39 ⟨us, numK 0 bs⟩) (Call.of (F_economy_work (toI (cIa (rows0 (blkAt (numK 0 bs) 0).2) 0)) (toI (cIa (rows0 (blkAt (numK 0 bs) 0).2) 1)) (toI (cIa (rows0 (blkAt (numK 0 bs) 0).2) 2)) (toB (cIa (rows0 (blkAt (numK 0 bs) 0).2) 3)) (toI (cIa (rows0 (blkAt (numK 0 bs) 0).2) 4)) (roRows (cIa (rows0 (blkAt (numK 0 bs) 0).2) 5)) (roRows (cIa (rows0 (blkAt (numK 0 bs) 0).2) 6)) (roRows (cIa (rows0 (blkAt (numK 0 bs) 0).2) 7)) (toI (cIa (rows0 (blkAt (numK 0 bs) 0).2) 8)) (toI (cIa (rows0 (blkAt (numK 0 bs) 0).2) 9)) (roRows (cIa (rows0 (blkAt (numK 0 bs) 0).2) 10)) (blkAt (numK 0 bs) 1).2.rows (blkAt (numK 0 bs) 2).2.rows (roRows (cIa (rows0 (blkAt (numK 0 bs) 0).2) 13)) (roRows (cIa (rows0 (blkAt (numK 0 bs) 0).2) 14)) (roRows (cIa (rows0 (blkAt (numK 0 bs) 0).2) 15)) (toI (cIa us 1))) (enc39 (toI (cIa (rows0 (blkAt (numK 0 bs) 0).2) 0)) (toI (cIa (rows0 (blkAt (numK 0 bs) 0).2) 1)) (toI (cIa (rows0 (blkAt (numK 0 bs) 0).2) 2)) (toB (cIa (rows0 (blkAt (numK 0 bs) 0).2) 3)) (toI (cIa (rows0 (blkAt (numK 0 bs) 0).2) 4)) (roRows (cIa (rows0 (blkAt (numK 0 bs) 0).2) 5)) (roRows (cIa (rows0 (blkAt (numK 0 bs) 0).2) 6)) (roRows (cIa (rows0 (blkAt (numK 0 bs) 0).2) 7)) (toI (cIa (rows0 (blkAt (numK 0 bs) 0).2) 8)) (toI (cIa (rows0 (blkAt (numK 0 bs) 0).2) 9)) (roRows (cIa (rows0 (blkAt (numK 0 bs) 0).2) 10)) (blkAt (numK 0 bs) 1).2.rows (blkAt (numK 0 bs) 2).2.rows (roRows (cIa (rows0 (blkAt (numK 0 bs) 0).2) 13)) (roRows (cIa (rows0 (blkAt (numK 0 bs) 0).2) 14)) (roRows (cIa (rows0 (blkAt (numK 0 bs) 0).2) 15)) (toI (cIa us 1))))
noncomputable def C39 := AI.extH 39 S39 C75
end Go.Proofs.YtoiimiohobollaaGreat.AI
