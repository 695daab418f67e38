/- The plain law EconomyPhases and what it needs: what both programs answer is told and compared, with no program in sight. -/
import Derived.Test.YtoiimiohobollaaGreatHQ1
namespace Go.Proofs.YtoiimiohobollaaGreat.AI
open Go.RowKit
set_option linter.unusedVariables false
set_option linter.unusedSimpArgs false
set_option maxRecDepth 20000
def dpF (us es : LL) (id ow : Int) (k : Nat) (s : Int × Int) : (Int × Int) ⊕ Int :=
  let r := es.getD k []
  let u := uV us (cS r 2)
  .inl (bif cI r 1 != ow then s else bif !(cI r 7 == 0) then s else bif !u.2.2.2.2.2.2.2.2.2.2.2.2.2.2.2.2.2.2.2 then s else bif !u.2.1 then s else bif !u.2.2.1 then s else
    bif s.1 == 0 then (cI r 0, (dsV us es id (cI r 0)).1) else bif decide ((dsV us es id (cI r 0)).1 < s.2) then (cI r 0, (dsV us es id (cI r 0)).1) else
    bif (dsV us es id (cI r 0)).1 == s.2 then (bif decide (cI r 0 < s.1) then (cI r 0, (dsV us es id (cI r 0)).1) else s) else s)
def dpV (us es : LL) (id : Int) : Int :=
  bif !okE (enV es id) then 0 else iter (dpF us es id (enV es id).2.1) (fun s => s.1) es.length 0 (0, 0)
section
variable (T0 T1 T2 : Int) (T3 : Bool) (T4 : Int) (us ws ts : LL) (T5 T6 : Int) (Tc ps es Ts Tm Tq : LL)
theorem distance_g (h1 : TyUnits us) (he : TyEnts es) (a b : Int) : F_target_Distance T0 T1 T2 T3 T4 us ws ts T5 T6 Tc ps es Ts Tm Tq a b = some (dsV us es a b) := by
  simp only [F_target_Distance, ent_g es _ he, Option.bind_some]
  unfold dsV
  generalize enV es a = x
  generalize enV es b = y
  obtain ⟨x1, x2, x3, x4, x5, x6, x7, x8, x9, x10, x11, x12, x13⟩ := x
  obtain ⟨y1, y2, y3, y4, y5, y6, y7, y8, y9, y10, y11, y12, y13⟩ := y
  simp only [gE]
  cases x13 with
  | false => rfl
  | true =>
    cases y13 with
    | false => rfl
    | true =>
      simp only [Bool.not_true, cond_false, F_target_distance, F_target_nearest, rect_g us ws ts h1, Option.bind_some, clamp_g, bind_bif, Sub_v, Len_v, nrs]
      cases (rcV us y3 y4 y5).2.2.2.2 <;> rfl
theorem distance_r (h1 : TyUnits us) (he : TyEnts es) (a b : Int) : F_r25_Distance T0 T1 T2 T3 T4 us ws ts T5 T6 Tc ps es Ts Tm Tq a b = some (dsV us es a b) := by
  simp only [F_r25_Distance, ent_r es _ he, Option.bind_some]
  unfold dsV
  generalize enV es a = x
  generalize enV es b = y
  obtain ⟨x1, x2, x3, x4, x5, x6, x7, x8, x9, x10, x11, x12, x13⟩ := x
  obtain ⟨y1, y2, y3, y4, y5, y6, y7, y8, y9, y10, y11, y12, y13⟩ := y
  simp only
  cases x13 with
  | false => rfl
  | true =>
    cases y13 with
    | false => rfl
    | true =>
      simp only [Bool.not_true, cond_false, F_r25_nearest, rect_r us ws ts h1, Option.bind_some, clamp_r, bind_bif, Sub_w, Len_w, nrs]
      cases (rcV us y3 y4 y5).2.2.2.2 <;> rfl
theorem depot_g (h1 : TyUnits us) (he : TyEnts es) (id : Int) : F_economy_Depot T0 T1 T2 T3 T4 us ws ts T5 T6 Tc ps es Ts Tm Tq id = some (dpV us es id) := by
  have hm : maxLen = 9223372036854775807 := by decide
  have hl := (ty_rows he).1
  have e1 : (gE (enV es id)).2.2.2.2.2.2.2.2.2.2.2.2 = okE (enV es id) := by
    generalize enV es id = x
    obtain ⟨x1, x2, x3, x4, x5, x6, x7, x8, x9, x10, x11, x12, x13⟩ := x
    rfl
  have e2 : (gE (enV es id)).2.2.2.1 = (enV es id).2.1 := by
    generalize enV es id = x
    obtain ⟨x1, x2, x3, x4, x5, x6, x7, x8, x9, x10, x11, x12, x13⟩ := x
    rfl
  simp only [F_economy_Depot, ent_g es id he, Option.bind_some, e1, e2, dpV]
  cases ho : okE (enV es id) with
  | false => rfl
  | true =>
    have key := run_loop (fun m (s : Int × Int) i => G_economy_Depot_0 id es es.length T0 T1 T2 T3 T4 us ws ts T5 T6 Tc ps es Ts Tm Tq (enV es id).2.1 m s.1 s.2 i) (dpF us es id (enV es id).2.1) (fun s => s.1) es.length (fun _ _ => True)
      (fun m k s hk _ => by
        obtain ⟨q1, q2, q3⟩ := okR_get (okEnts he) hk
        have d1 : (k : Int) < es.length := by omega
        have d2 : (0 : Int) ≤ k := by omega
        have hd := dsV_here (us := us) ho hk
        have g1 : (gOf (uV us (cS (es.getD k []) 2))).2.2.2.2.2.2.2.2.2.2.2.2.2.2.2.2.2.2.2 = (uV us (cS (es.getD k []) 2)).2.2.2.2.2.2.2.2.2.2.2.2.2.2.2.2.2.2.2 := by
          generalize uV us (cS (es.getD k []) 2) = x
          obtain ⟨n, b, d, c, w, h', r, sp, si, hp, ar, lo, we, ore, wo, ti, ne, tr, re, ok⟩ := x
          rfl
        have g2 : (gOf (uV us (cS (es.getD k []) 2))).2.2.2.2.1 = (uV us (cS (es.getD k []) 2)).2.1 := by
          generalize uV us (cS (es.getD k []) 2) = x
          obtain ⟨n, b, d, c, w, h', r, sp, si, hp, ar, lo, we, ore, wo, ti, ne, tr, re, ok⟩ := x
          rfl
        have g3 : (gOf (uV us (cS (es.getD k []) 2))).2.2.2.2.2.1 = (uV us (cS (es.getD k []) 2)).2.2.1 := by
          generalize uV us (cS (es.getD k []) 2) = x
          obtain ⟨n, b, d, c, w, h', r, sp, si, hp, ar, lo, we, ore, wo, ti, ne, tr, re, ok⟩ := x
          rfl
        simp only [G_economy_Depot_0, d1, d2, decide_true, cond_true, Int.toNat_natCast, q1, q2, Option.bind_some, wr_next hk (by omega), rules_unit us ws ts _ h1, F_entity_Ready, g1, g2, g3, distance_g T0 T1 T2 T3 T4 us ws ts T5 T6 Tc ps es Ts Tm Tq h1 he, hd, dpF]
        cases cI (es.getD k []) 1 != (enV es id).2.1 <;> cases cI (es.getD k []) 7 == 0 <;> cases (uV us (cS (es.getD k []) 2)).2.2.2.2.2.2.2.2.2.2.2.2.2.2.2.2.2.2.2 <;> cases (uV us (cS (es.getD k []) 2)).2.1 <;> cases (uV us (cS (es.getD k []) 2)).2.2.1 <;> try rfl
        cases s.1 == 0 <;> cases decide ((dsV us es id (cI (es.getD k []) 0)).1 < s.2) <;> cases (dsV us es id (cI (es.getD k []) 0)).1 == s.2 <;> cases decide (cI (es.getD k []) 0 < s.1) <;> rfl)
      (fun _ _ _ _ _ _ => trivial)
      (fun m s _ => by
        have d1 : ¬ (es.length : Int) < es.length := by omega
        simp only [G_economy_Depot_0, d1, decide_false, cond_false]) es.length FU 0 (0, 0) (by omega) (by unfold FU; omega) trivial
    have key' : G_economy_Depot_0 id es es.length T0 T1 T2 T3 T4 us ws ts T5 T6 Tc ps es Ts Tm Tq (enV es id).2.1 FU 0 0 0 = _ := key
    simp only [Bool.not_true, cond_false, Int.ofNat_eq_natCast, key', Option.bind_some]
theorem depot_r (h1 : TyUnits us) (he : TyEnts es) (id : Int) : F_r28_Depot T0 T1 T2 T3 T4 us ws ts T5 T6 Tc ps es Ts Tm Tq id = some (dpV us es id) := by
  have hm : maxLen = 9223372036854775807 := by decide
  have hl := (ty_rows he).1
  have e1 : (enV es id).2.2.2.2.2.2.2.2.2.2.2.2 = okE (enV es id) := rfl
  simp only [F_r28_Depot, ent_r es id he, Option.bind_some, e1, dpV]
  cases ho : okE (enV es id) with
  | false => rfl
  | true =>
    have key := run_loop (fun m (s : Int × Int) i => G_r28_Depot_0 id T0 T1 T2 T3 T4 us ws ts T5 T6 Tc ps es Ts Tm Tq (enV es id).2.1 m s.1 s.2 i) (dpF us es id (enV es id).2.1) (fun s => s.1) es.length (fun _ _ => True)
      (fun m k s hk _ => by
        obtain ⟨q1, q2, q3⟩ := okR_get (okEnts he) hk
        have d1 : (k : Int) < es.length := by omega
        have d2 : (0 : Int) ≤ k := by omega
        have b7 : (cI (es.getD k []) 7 != 0) = !(cI (es.getD k []) 7 == 0) := rfl
        simp only [G_r28_Depot_0, Int.ofNat_eq_natCast, d1, d2, decide_true, cond_true, Int.toNat_natCast, q1, q2, Option.bind_some, wr_next hk (by omega), unit_r us ws ts _ h1, distance_r T0 T1 T2 T3 T4 us ws ts T5 T6 Tc ps es Ts Tm Tq h1 he, dpF, b7]
        cases cI (es.getD k []) 1 != (enV es id).2.1 <;> cases cI (es.getD k []) 7 == 0 <;> cases (uV us (cS (es.getD k []) 2)).2.2.2.2.2.2.2.2.2.2.2.2.2.2.2.2.2.2.2 <;> cases (uV us (cS (es.getD k []) 2)).2.1 <;> cases (uV us (cS (es.getD k []) 2)).2.2.1 <;> try rfl
        cases s.1 == 0 <;> cases decide ((dsV us es id (cI (es.getD k []) 0)).1 < s.2) <;> cases (dsV us es id (cI (es.getD k []) 0)).1 == s.2 <;> cases decide (cI (es.getD k []) 0 < s.1) <;> rfl)
      (fun _ _ _ _ _ _ => trivial)
      (fun m s _ => by
        have d1 : ¬ (es.length : Int) < es.length := by omega
        simp only [G_r28_Depot_0, Int.ofNat_eq_natCast, d1, decide_false, cond_false]) es.length FU 0 (0, 0) (by omega) (by unfold FU; omega) trivial
    have key' : G_r28_Depot_0 id T0 T1 T2 T3 T4 us ws ts T5 T6 Tc ps es Ts Tm Tq (enV es id).2.1 FU 0 0 0 = _ := key
    simp only [Bool.not_true, cond_false, key', Option.bind_some]
end
theorem tyL_mk {P : Program} {t : LT} {ts : List LT} {v : AVal} {l : List AVal} (h : Ty P t v) (hs : TyL P ts l) : TyL P (t :: ts) (v :: l) := by
  refine ⟨by simp [hs.1], fun j t' v' p q => ?_⟩
  cases j with
  | zero =>
    simp only [List.getElem?_cons_zero, Option.some.injEq] at p q
    subst p q
    exact h
  | succ j => exact hs.2 j t' v' (by simpa using p) (by simpa using q)
theorem tyL_nil' {P : Program} : TyL P [] [] := ⟨rfl, fun j t v p q => by simp at p⟩
theorem ty_i {P : Program} {n : Int} (h1 : -9223372036854775808 ≤ n) (h2 : n ≤ 9223372036854775807) : Ty P (.int .i64) (i64 n) := .int _ _ (by
  simp only [Lit.wf, IntKind.min, IntKind.max, IntKind.bits, IntKind.signed]
  simp
  omega)
def enRow (r : List AVal) (o w : Int) (os : LL) : List AVal := [i64 (cI r 0), i64 (cI r 1), .sc (.string (cS r 2)), i64 (cI r 3), i64 (cI r 4), i64 (cI r 5), i64 (cI r 6), i64 (cI r 7), i64 o, i64 w, .ro 5 os, .ro 3 (cR r 11)]
theorem row_en {r : List AVal} (h : TyL Tryz.prog entT r) : r = enRow r (cI r 8) (cI r 9) (cR r 10) ∧ TyOrders (cR r 10) ∧ TyJobs (cR r 11) := by
  refine ⟨?_, tyL_sl h (j := 10) rfl, tyL_sl h (j := 11) rfl⟩
  obtain ⟨v0, l0, rfl, y0, t0⟩ := tyL_cons h
  obtain ⟨x0, rfl, w0⟩ := ty_int y0
  obtain ⟨v1, l1, rfl, y1, t1⟩ := tyL_cons t0
  obtain ⟨x1, rfl, w1⟩ := ty_int y1
  obtain ⟨v2, l2, rfl, y2, t2⟩ := tyL_cons t1
  obtain ⟨x2, rfl, w2⟩ := ty_str y2
  obtain ⟨v3, l3, rfl, y3, t3⟩ := tyL_cons t2
  obtain ⟨x3, rfl, w3⟩ := ty_int y3
  obtain ⟨v4, l4, rfl, y4, t4⟩ := tyL_cons t3
  obtain ⟨x4, rfl, w4⟩ := ty_int y4
  obtain ⟨v5, l5, rfl, y5, t5⟩ := tyL_cons t4
  obtain ⟨x5, rfl, w5⟩ := ty_int y5
  obtain ⟨v6, l6, rfl, y6, t6⟩ := tyL_cons t5
  obtain ⟨x6, rfl, w6⟩ := ty_int y6
  obtain ⟨v7, l7, rfl, y7, t7⟩ := tyL_cons t6
  obtain ⟨x7, rfl, w7⟩ := ty_int y7
  obtain ⟨v8, l8, rfl, y8, t8⟩ := tyL_cons t7
  obtain ⟨x8, rfl, w8⟩ := ty_int y8
  obtain ⟨v9, l9, rfl, y9, t9⟩ := tyL_cons t8
  obtain ⟨x9, rfl, w9⟩ := ty_int y9
  obtain ⟨va, la, rfl, ya, ta⟩ := tyL_cons t9
  obtain ⟨xa, rfl, wa⟩ := ty_sl ya
  obtain ⟨vb, lb, rfl, yb, tb⟩ := tyL_cons ta
  obtain ⟨xb, rfl, wb⟩ := ty_sl yb
  obtain rfl := tyL_nil tb
  rfl
theorem ty_enRow {r : List AVal} (h : TyL Tryz.prog entT r) {o w : Int} {os : LL} (ho : 0 ≤ o ∧ o ≤ 1000000) (hw : 0 ≤ w ∧ w ≤ 1000000) (hos : TyOrders os) : TyL Tryz.prog entT (enRow r o w os) := by
  have i (j : Nat) (hj : entT[j]? = some (.int .i64)) := tyL_int h hj
  have hs : Ty Tryz.prog .str (.sc (.string (cS r 2))) := by
    obtain ⟨s, e, hb⟩ := ty_str (tyL_get h (j := 2) rfl)
    have e' : cS r 2 = s := by unfold cS; rw [e]; rfl
    rw [e']
    rw [← e]
    exact tyL_get h (j := 2) rfl
  exact tyL_mk (ty_i (i 0 rfl).1 (i 0 rfl).2) <| tyL_mk (ty_i (i 1 rfl).1 (i 1 rfl).2) <| tyL_mk hs <| tyL_mk (ty_i (i 3 rfl).1 (i 3 rfl).2) <| tyL_mk (ty_i (i 4 rfl).1 (i 4 rfl).2) <| tyL_mk (ty_i (i 5 rfl).1 (i 5 rfl).2) <|
    tyL_mk (ty_i (i 6 rfl).1 (i 6 rfl).2) <| tyL_mk (ty_i (i 7 rfl).1 (i 7 rfl).2) <| tyL_mk (ty_i (by omega) (by omega)) <| tyL_mk (ty_i (by omega) (by omega)) <| tyL_mk hos <| tyL_mk (tyL_sl h (j := 11) rfl) tyL_nil'
theorem sp8 {r : List AVal} (h : TyL Tryz.prog entT r) (o : Int) : splice r 8 [i64 o] = enRow r o (cI r 9) (cR r 10) := by
  exact (congrArg (fun q => splice q 8 [i64 o]) (row_en h).1).trans rfl
theorem sp9 {r : List AVal} (h : TyL Tryz.prog entT r) (w : Int) : splice r 9 [i64 w] = enRow r (cI r 8) w (cR r 10) := by
  exact (congrArg (fun q => splice q 9 [i64 w]) (row_en h).1).trans rfl
theorem sp10 {r : List AVal} (h : TyL Tryz.prog entT r) (os : LL) : splice r 10 [.ro 5 os] = enRow r (cI r 8) (cI r 9) os := by
  exact (congrArg (fun q => splice q 10 [.ro 5 os]) (row_en h).1).trans rfl
theorem sp9' (r : List AVal) (o w w' : Int) (os : LL) : splice (enRow r o w os) 9 [i64 w'] = enRow r o w' os := rfl
theorem ty_set {P : Program} {T E : Nat} {l : LL} (h : Ty P (.sl T E) (.ro E l)) {r : List AVal} (hr : TyL P (leafOf P 8 T) r) (k : Nat) : Ty P (.sl T E) (.ro E (l.set k r)) := by
  obtain ⟨h1, h2, h3⟩ := ty_rows h
  refine .sl _ _ _ (by rw [List.length_set]; exact h1) (by rw [List.length_set]; exact h3) (fun q hq => ?_) (fun q hq => ?_)
  · rcases List.mem_or_eq_of_mem_set hq with hq | rfl
    · exact (h2 q hq).1
    · exact hr.1
  · rcases List.mem_or_eq_of_mem_set hq with hq | rfl
    · exact (h2 q hq).2
    · exact hr.2
theorem ty_sub {P : Program} {T E : Nat} {l l' : LL} (h : Ty P (.sl T E) (.ro E l)) (hs : ∀ r ∈ l', r ∈ l) (hn : l'.length ≤ l.length) : Ty P (.sl T E) (.ro E l') := by
  obtain ⟨h1, h2, h3⟩ := ty_rows h
  exact .sl _ _ _ (Nat.le_trans hn h1) (Nat.le_trans (Nat.mul_le_mul_right _ hn) h3) (fun q hq => (h2 q (hs q hq)).1) (fun q hq => (h2 q (hs q hq)).2)
theorem ents_set {es : LL} (h : TyEnts es) {r : List AVal} (hr : TyL Tryz.prog entT r) (k : Nat) : TyEnts (es.set k r) := ty_set h (by rwa [show leafOf Tryz.prog 8 60 = entT by kernel_rfl]) k
theorem drop1_ty {os : LL} (h : TyOrders os) : TyOrders (os.drop 1) := ty_sub h (fun r hr => List.mem_of_mem_drop hr) (by simp)
def curV (os : LL) : Int × Int × Int × Int × ByteArray × Bool := match os with
  | [] => (0, 0, 0, 0, ⟨#[]⟩, false)
  | o :: _ => (cI o 0, cI o 1, cI o 2, cI o 3, cS o 4, true)
theorem cur_g {os : LL} (h : okR ordT os) : F_orders_Current os = some (curV os) := by
  cases os with
  | nil => rfl
  | cons o os =>
    have := h o (.head _)
    have e : ((Int.ofNat (o :: os).length) == 0) = false := by simp; omega
    simp only [F_orders_Current, e, cond_false, Int.toNat_zero, List.getElem?_cons_zero, Option.bind_some, this, cond_true, curV]
theorem cur_r {os : LL} (h : okR ordT os) : F_r20_Current os = some (curV os) := by
  cases os with
  | nil => rfl
  | cons o os =>
    have := h o (.head _)
    have e : ((Int.ofNat (o :: os).length) == 0) = false := by simp; omega
    simp only [F_r20_Current, e, cond_false, Int.toNat_zero, List.getElem?_cons_zero, Option.bind_some, this, cond_true, curV]
theorem room48 {n : Nat} (h : n ≤ 1000) : roomOk n 48 = true := by simp [roomOk]; omega
theorem done_g {os : LL} (h : TyOrders os) (hk : (curV os).2.2.2.2.2 = true) (h3 : ((curV os).1 == 3) = true) : F_orders_Done os = some (os.drop 1) := by
  cases os with
  | nil => cases hk
  | cons o os =>
    have ho := okOrders h o (.head _)
    have e : ((Int.ofNat (o :: os).length) == 0) = false := by simp; omega
    have e1 : (decide ((1 : Int) ≤ Int.ofNat (o :: os).length)) = true := by simp; omega
    have e2 : (decide (Int.ofNat (o :: os).length ≤ Int.ofNat (o :: os).length)) = true := by simp
    have e3 : List.drop (1 : Int).toNat (List.take (Int.ofNat (o :: os).length).toNat (o :: os)) = os := by
      simp [Int.toNat]
    have h6 : (cI o 0 == 6) = false := by
      have : cI o 0 = 3 := eq_of_beq h3
      rw [this]; rfl
    have ht : TyOrders os := drop1_ty h
    simp only [F_orders_Done, e, e1, e2, Bool.and_self, cond_false, cond_true, e3, roRows, clone_o ht, Int.toNat_zero, List.getElem?_cons_zero, Option.bind_some, ho, h6, List.drop_succ_cons, List.drop_zero]
theorem done_r {os : LL} (h : TyOrders os) (hn : os.length ≤ 1000) (hk : (curV os).2.2.2.2.2 = true) (h3 : ((curV os).1 == 3) = true) : F_r20_Done os = some (os.drop 1) := by
  cases os with
  | nil => cases hk
  | cons o os =>
    have ho := okOrders h o (.head _)
    have e : ((Int.ofNat (o :: os).length) == 0) = false := by simp; omega
    have e1 : (decide ((1 : Int) ≤ Int.ofNat (o :: os).length)) = true := by simp; omega
    have e2 : (decide (Int.ofNat (o :: os).length ≤ Int.ofNat (o :: os).length)) = true := by simp
    have e3 : List.drop (1 : Int).toNat (List.take (Int.ofNat (o :: os).length).toNat (o :: os)) = os := by
      simp [Int.toNat]
    have h6 : (cI o 0 == 6) = false := by
      have : cI o 0 = 3 := eq_of_beq h3
      rw [this]; rfl
    have r : roomOk (0 + os.length) 48 = true := room48 (by simp at hn; omega)
    simp only [F_r20_Done, e, e1, e2, Bool.and_self, cond_false, cond_true, e3, r, Int.toNat_zero, List.getElem?_cons_zero, Option.bind_some, ho, h6, List.nil_append, List.drop_succ_cons, List.drop_zero]
def cenV (c : Int) : Int := bif decide (c > 36028797018963967) then 9223372036854775807 else bif decide (c < (-(36028797018963968 : Int))) then (-(9223372036854775808 : Int)) else wr (wr (c * 256) + 128)
theorem cen_g (c : Int) : F_num_Center c = some (cenV c) := by
  unfold F_num_Center cenV
  cases decide (c > 36028797018963967) <;> cases decide (c < (-(36028797018963968 : Int))) <;> rfl
theorem cen_r (c : Int) : F_r01_Center c = some (cenV c) := by
  unfold F_r01_Center cenV
  cases decide (c > 36028797018963967) <;> cases decide (c < (-(36028797018963968 : Int))) <;> rfl
def isG (us : LL) (r : List AVal) : Bool :=
  let u := uV us (cS r 2)
  let o := curV (cR r 10)
  u.2.2.2.2.2.2.2.2.2.2.2.2.2.2.2.2.2.2.2 && (o.2.2.2.2.2 && ((cI r 7 == 0) && (!u.2.1 && (decide (0 < u.2.2.2.2.2.2.2.2.2.2.2.1) && (o.1 == 3)))))
def sumN' (a b : Int) : Int := if a > 1000000 - b then 1000000 else a + b
def rcP (ps : LL) (id o w : Int) : LL := match ps.findIdx? (fun r => cI r 0 == id) with
  | none => ps
  | some k => ps.set k (plRow (ps.getD k []) (sumN' (cI (ps.getD k []) 2) o) (sumN' (cI (ps.getD k []) 3) w))
abbrev W3 := LL × LL × LL
def wkV (us : LL) (W H : Int) (s : W3) (i : Nat) : W3 :=
  let ps := s.1
  let es := s.2.1
  let Tc := s.2.2
  let r := es.getD i []
  let os := cR r 10
  bif !isG us r then s else
  let px := (curV os).2.1 / 256
  let py := (curV os).2.2.1 / 256
  let c := gt W H Tc px py
  let ld := cI r 8 + cI r 9
  let cap := (uV us (cS r 2)).2.2.2.2.2.2.2.2.2.2.2.1
  bif decide (ld < cap) && (c.2.2.2 && (decide (c.2.2.1 > 0) && withinN (cI r 3) (cI r 4) (cenV px) (cenV py) 384)) then
    let m := min (min 5 (cap - ld)) c.2.2.1
    (ps, es.set i (bif c.1 == 4 then enRow r (cI r 8) (cI r 9 + m) os else enRow r (cI r 8 + m) (cI r 9) os), wth W Tc px py (bif (c.2.2.1 - m == 0) then 1 else c.1) c.2.1 (c.2.2.1 - m))
  else bif decide (ld > 0) then
    bif (dpV us es (cI r 0) != 0) && ((dsV us es (cI r 0) (dpV us es (cI r 0))).2 && decide ((dsV us es (cI r 0) (dpV us es (cI r 0))).1 ≤ 256)) then (rcP ps (cI r 1) (cI r 8) (cI r 9), es.set i (enRow r 0 0 os), Tc) else s
  else bif !(c.2.2.2 && decide (c.2.2.1 > 0)) then (ps, es.set i (enRow r (cI r 8) (cI r 9) (os.drop 1)), Tc) else s
structure W28 (us : LL) (W H : Int) (s : W3) : Prop where
  gu : ∀ k, k < us.length → goodU (us.getD k [])
  tp : TyPlayers s.1
  te : TyEnts s.2.1
  tc : TyCells s.2.2
  vm : vmap W H s.2.2 = true
  sm : s.2.1.length ≤ 24
  sn : s.2.2.length ≤ 400
  ids : ∀ j k, j < k → k < s.2.1.length → cI (s.2.1.getD j []) 0 < cI (s.2.1.getD k []) 0
  am : ∀ k, k < s.2.1.length → (0 ≤ cI (s.2.1.getD k []) 8 ∧ cI (s.2.1.getD k []) 8 ≤ 100000) ∧ (0 ≤ cI (s.2.1.getD k []) 9 ∧ cI (s.2.1.getD k []) 9 ≤ 100000) ∧ (cR (s.2.1.getD k []) 10).length ≤ 20
  pa : ∀ k, k < s.1.length → (0 ≤ cI (s.1.getD k []) 2 ∧ cI (s.1.getD k []) 2 ≤ 1000000) ∧ (0 ≤ cI (s.1.getD k []) 3 ∧ cI (s.1.getD k []) 3 ≤ 1000000)
theorem uV_load {us : LL} (h : ∀ k, k < us.length → goodU (us.getD k [])) (t : ByteArray) : 0 ≤ (uV us t).2.2.2.2.2.2.2.2.2.2.2.1 ∧ (uV us t).2.2.2.2.2.2.2.2.2.2.2.1 ≤ 100000 := by
  unfold uV fdV
  cases hf : us.findIdx? (fun r => seq (cS r 0) t) with
  | none => exact (show (0 : Int) ≤ 0 ∧ (0 : Int) ≤ 100000 by omega)
  | some k => exact (h k (fd_lt hf).1).2.2.2.2
theorem take_here {W H : Int} {Tc : LL} {x y n : Int} (hv : vmap W H Tc = true) (hi : ins W H Tc.length x y = true) (ha : cI (cel W Tc x y) 2 > 0) (hn : 1 ≤ n) :
    takeN W H Tc x y n = (wth W Tc x y (bif (cI (cel W Tc x y) 2 - min n (cI (cel W Tc x y) 2) == 0) then 1 else cI (cel W Tc x y) 0) (cI (cel W Tc x y) 1) (cI (cel W Tc x y) 2 - min n (cI (cel W Tc x y) 2)), W, H, min n (cI (cel W Tc x y) 2), 0) := by
  have d1 : ¬ n < 1 := by omega
  have d2 : (cI (cel W Tc x y) 2 == 0) = false := by rw [beq_eq_false_iff_ne]; omega
  simp only [takeN, hv, hi, d1, d2, Bool.not_true, decide_false, Bool.or_self, cond_false]
section
variable (T0 T1 T2 : Int) (T3 : Bool) (T4 : Int) (us ws ts : LL) (T5 T6 : Int) (Tc ps es Ts Tm Tq : LL)
theorem field_g (h1 : TyUnits us) {r : List AVal} (hr : TyL Tryz.prog entT r) : F_economy_field T0 T1 T2 T3 T4 us ws ts T5 T6 Tc ps es Ts Tm Tq (cI r 0) (cI r 1) (cS r 2) (cI r 3) (cI r 4) (cI r 5) (cI r 6) (cI r 7) (cI r 8) (cI r 9) (cR r 10) (cR r 11) =
    some (bif isG us r then ((curV (cR r 10)).2.1 / 256, (curV (cR r 10)).2.2.1 / 256, (uV us (cS r 2)).2.2.2.2.2.2.2.2.2.2.2.1, true) else (0, 0, 0, false)) := by
  simp only [F_economy_field, rules_unit us ws ts _ h1, cur_g (okOrders (row_en hr).2.1), F_entity_Ready, cell_g, Option.bind_some, isG]
  generalize uV us (cS r 2) = x
  obtain ⟨n, b, d, c, w, h', ra, sp, si, hp, ar, lo, we, ore, wo, ti, ne, tr, re, ok⟩ := x
  simp only [gOf]
  have e3 : ((curV (cR r 10)).1 != 3) = !((curV (cR r 10)).1 == 3) := rfl
  rw [e3]
  by_cases hlo : lo ≤ 0
  · have h0 : ¬ 0 < lo := by omega
    simp only [hlo, h0, decide_true, decide_false]
    cases ok <;> cases (curV (cR r 10)).2.2.2.2.2 <;> cases cI r 7 == 0 <;> cases b <;> cases (curV (cR r 10)).1 == 3 <;> rfl
  · have h0 : 0 < lo := by omega
    simp only [hlo, h0, decide_true, decide_false]
    cases ok <;> cases (curV (cR r 10)).2.2.2.2.2 <;> cases cI r 7 == 0 <;> cases b <;> cases (curV (cR r 10)).1 == 3 <;> rfl
theorem plus_in {a b : Int} (ha : 0 ≤ a ∧ a ≤ 1000000) (hb : 0 ≤ b ∧ b ≤ 1000000) : F_r28_sum a b = some (sumN' a b) := by
  have w1 : wr (1000000 - b) = 1000000 - b := wr_in (by omega) (by omega)
  have w2 : wr (a + b) = a + b := wr_in (by omega) (by omega)
  simp only [F_r28_sum, w1, w2, sumN']
  by_cases h : a > 1000000 - b
  · simp [h]
  · simp [h]
theorem plus_in' {a b : Int} (ha : 0 ≤ a ∧ a ≤ 1000000) (hb : 0 ≤ b ∧ b ≤ 1000000) : F_economy_pair_plus1 a b 1000000 = some (sumN' a b) := by
  have w1 : wr (1000000 - b) = 1000000 - b := wr_in (by omega) (by omega)
  have w2 : wr (a + b) = a + b := wr_in (by omega) (by omega)
  simp only [F_economy_pair_plus1, w1, w2, sumN']
  by_cases h : a > 1000000 - b
  · simp [h]
  · simp [h]
theorem receive_g (hp : TyPlayers ps) {k : Nat} (hk : k < ps.length) {o w : Int} (a1 : 0 ≤ cI (ps.getD k []) 2 ∧ cI (ps.getD k []) 2 ≤ 1000000) (a2 : 0 ≤ cI (ps.getD k []) 3 ∧ cI (ps.getD k []) 3 ≤ 1000000) (ho : 0 ≤ o ∧ o ≤ 1000000) (hw : 0 ≤ w ∧ w ≤ 1000000) :
    F_economy_receive T0 T1 T2 T3 T4 us ws ts T5 T6 Tc ps es Ts Tm Tq (k : Int) o w = some (ps.set k (plRow (ps.getD k []) (sumN' (cI (ps.getD k []) 2) o) (sumN' (cI (ps.getD k []) 3) w))) := by
  obtain ⟨q1, q2, q3⟩ := okR_get (okPlayers hp) hk
  have hr := pl_row (us := ps) hp q3
  have d1 : (k : Int) < ps.length := by omega
  have d2 : (0 : Int) ≤ k := by omega
  simp only [F_economy_receive, Int.ofNat_eq_natCast, d1, d2, decide_true, Bool.and_self, cond_true, Int.toNat_natCast, q1, q2, Option.bind_some, F_economy_pair_plus, plus_in' a1 ho, plus_in' a2 hw, sp2 hr, getD_set hk, sp3, set_set]
theorem work_g (h1 : TyUnits us) (I : W28 us T5 T6 (ps, es, Tc)) {i : Nat} (hi : i < es.length) :
    F_economy_work T0 T1 T2 T3 T4 us ws ts T5 T6 Tc ps es Ts Tm Tq (i : Int) = some ((wkV us T5 T6 (ps, es, Tc) i).1, (wkV us T5 T6 (ps, es, Tc) i).2.1, T5, T6, (wkV us T5 T6 (ps, es, Tc) i).2.2) := by
  have he : TyEnts es := I.te
  have hp : TyPlayers ps := I.tp
  have hc : okCs Tc := okCs_of (by kernel_rfl) I.tc
  obtain ⟨q1, q2, q3⟩ := okR_get (okEnts he) hi
  have hr := ent_row he q3
  obtain ⟨r1, r2, r3⟩ := row_en hr
  have d1 : (i : Int) < es.length := by omega
  have d2 : (0 : Int) ≤ i := by omega
  obtain ⟨a1, a2, a3⟩ := I.am i hi
  simp only at a1 a2 a3
  have hcap := uV_load I.gu (cS (es.getD i []) 2)
  have w1 : wr (cI (es.getD i []) 8 + cI (es.getD i []) 9) = cI (es.getD i []) 8 + cI (es.getD i []) 9 := wr_in (by omega) (by omega)
  simp only [F_economy_work, Int.ofNat_eq_natCast, d1, d2, decide_true, Bool.and_self, cond_true, Int.toNat_natCast, q1, q2, Option.bind_some, roRows, field_g T0 T1 T2 T3 T4 us ws ts T5 T6 Tc ps es Ts Tm Tq h1 hr, wkV]
  cases hG : isG us (es.getD i []) with
  | false => rfl
  | true =>
    have hcu : (curV (cR (es.getD i []) 10)).2.2.2.2.2 = true ∧ ((curV (cR (es.getD i []) 10)).1 == 3) = true := by
      unfold isG at hG
      simp only [Bool.and_eq_true] at hG
      exact ⟨hG.2.1, hG.2.2.2.2.2⟩
    simp only [cond_true, cond_false, Bool.not_true, get_g T5 T6 Tc hc, cen_g, Option.bind_some, w1, Within_v, depot_g T0 T1 T2 T3 T4 us ws ts T5 T6 Tc ps es Ts Tm Tq h1 he, distance_g T0 T1 T2 T3 T4 us ws ts T5 T6 Tc ps es Ts Tm Tq h1 he,
      find_g T0 T1 T2 T3 T4 us ws ts T5 T6 Tc ps es Ts Tm Tq _ hp, done_g r2 hcu.1 hcu.2, Take_g T5 T6 Tc hc, sp8 hr, sp9 hr, sp10 hr, getD_set hi, sp9', set_set]
    generalize hpx : (curV (cR (es.getD i []) 10)).2.1 / 256 = px
    generalize hpy : (curV (cR (es.getD i []) 10)).2.2.1 / 256 = py
    generalize hdp : dpV us es (cI (es.getD i []) 0) = dp
    generalize hds : dsV us es (cI (es.getD i []) 0) dp = ds
    have hrc : (bif decide (piV ps (cI (es.getD i []) 1) ≥ 0) then (F_economy_receive T0 T1 T2 T3 T4 us ws ts T5 T6 Tc ps es Ts Tm Tq (piV ps (cI (es.getD i []) 1)) (cI (es.getD i []) 8) (cI (es.getD i []) 9)).bind fun t => some (t, es.set i (enRow (es.getD i []) 0 0 (cR (es.getD i []) 10)), T5, T6, Tc)
        else some (ps, es.set i (enRow (es.getD i []) 0 0 (cR (es.getD i []) 10)), T5, T6, Tc)) = some (rcP ps (cI (es.getD i []) 1) (cI (es.getD i []) 8) (cI (es.getD i []) 9), es.set i (enRow (es.getD i []) 0 0 (cR (es.getD i []) 10)), T5, T6, Tc) := by
      unfold piV fdV rcP
      cases hf : ps.findIdx? (fun r => cI r 0 == cI (es.getD i []) 1) with
      | none => rfl
      | some k =>
        have hk := (fd_lt hf).1
        obtain ⟨p1, p2⟩ := I.pa k hk
        have d3 : (k : Int) ≥ 0 := by omega
        simp only [d3, decide_true, cond_true, receive_g T0 T1 T2 T3 T4 us ws ts T5 T6 Tc ps es Ts Tm Tq hp hk p1 p2 (show 0 ≤ cI (es.getD i []) 8 ∧ cI (es.getD i []) 8 ≤ 1000000 by omega) (show 0 ≤ cI (es.getD i []) 9 ∧ cI (es.getD i []) 9 ≤ 1000000 by omega), Option.bind_some]
    simp only [hrc]
    by_cases hA : cI (es.getD i []) 8 + cI (es.getD i []) 9 < (uV us (cS (es.getD i []) 2)).2.2.2.2.2.2.2.2.2.2.2.1 ∧ (gt T5 T6 Tc px py).2.2.2 = true ∧ (gt T5 T6 Tc px py).2.2.1 > 0 ∧ withinN (cI (es.getD i []) 3) (cI (es.getD i []) 4) (cenV px) (cenV py) 384 = true
    · obtain ⟨b1, b2, b3, b4⟩ := hA
      have hins : ins T5 T6 Tc.length px py = true := by
        unfold gt at b2
        cases hh : ins T5 T6 Tc.length px py with
        | true => rfl
        | false => rw [hh] at b2; cases b2
      have hgt := gt_ins hins
      rw [hgt] at b3 ⊢
      simp only at b3
      have hn : 1 ≤ min 5 ((uV us (cS (es.getD i []) 2)).2.2.2.2.2.2.2.2.2.2.2.1 - (cI (es.getD i []) 8 + cI (es.getD i []) 9)) := by omega
      have w2 : wr ((uV us (cS (es.getD i []) 2)).2.2.2.2.2.2.2.2.2.2.2.1 - (cI (es.getD i []) 8 + cI (es.getD i []) 9)) = (uV us (cS (es.getD i []) 2)).2.2.2.2.2.2.2.2.2.2.2.1 - (cI (es.getD i []) 8 + cI (es.getD i []) 9) := wr_in (by omega) (by omega)
      have w3 : wr (cI (es.getD i []) 8 + min (min 5 ((uV us (cS (es.getD i []) 2)).2.2.2.2.2.2.2.2.2.2.2.1 - (cI (es.getD i []) 8 + cI (es.getD i []) 9))) (cI (cel T5 Tc px py) 2)) = cI (es.getD i []) 8 + min (min 5 ((uV us (cS (es.getD i []) 2)).2.2.2.2.2.2.2.2.2.2.2.1 - (cI (es.getD i []) 8 + cI (es.getD i []) 9))) (cI (cel T5 Tc px py) 2) := wr_in (by omega) (by omega)
      have w4 : wr (cI (es.getD i []) 9 + min (min 5 ((uV us (cS (es.getD i []) 2)).2.2.2.2.2.2.2.2.2.2.2.1 - (cI (es.getD i []) 8 + cI (es.getD i []) 9))) (cI (cel T5 Tc px py) 2)) = cI (es.getD i []) 9 + min (min 5 ((uV us (cS (es.getD i []) 2)).2.2.2.2.2.2.2.2.2.2.2.1 - (cI (es.getD i []) 8 + cI (es.getD i []) 9))) (cI (cel T5 Tc px py) 2) := wr_in (by omega) (by omega)
      simp only [b1, b3, b4, decide_true, cond_true, Bool.and_self, minI_eq, w2, take_here I.vm hins b3 hn, bne_self_eq_false, cond_false, w3, w4, hgt]
      cases (cI (cel T5 Tc px py) 0 == 4) <;> rfl
    · have hB : (decide (cI (es.getD i []) 8 + cI (es.getD i []) 9 < (uV us (cS (es.getD i []) 2)).2.2.2.2.2.2.2.2.2.2.2.1) && ((gt T5 T6 Tc px py).2.2.2 && (decide ((gt T5 T6 Tc px py).2.2.1 > 0) && withinN (cI (es.getD i []) 3) (cI (es.getD i []) 4) (cenV px) (cenV py) 384))) = false := by
        rw [Bool.eq_false_iff]
        intro hx
        simp only [Bool.and_eq_true, decide_eq_true_eq] at hx
        exact hA hx
      simp only [hB, cond_false]
      generalize (gt T5 T6 Tc px py).2.2.2 = c4 at hB ⊢
      generalize decide (cI (es.getD i []) 8 + cI (es.getD i []) 9 < (uV us (cS (es.getD i []) 2)).2.2.2.2.2.2.2.2.2.2.2.1) = c1 at hB ⊢
      generalize decide ((gt T5 T6 Tc px py).2.2.1 > 0) = c2 at hB ⊢
      generalize withinN (cI (es.getD i []) 3) (cI (es.getD i []) 4) (cenV px) (cenV py) 384 = c3 at hB ⊢
      generalize decide (cI (es.getD i []) 8 + cI (es.getD i []) 9 > 0) = c5
      generalize (dp != 0) = c6
      generalize decide (ds.1 ≤ 256) = c7
      cases c5 with
      | true =>
        cases c6 <;> cases ds.2 <;> cases c7 <;> cases c4 <;> cases c1 <;> cases c2 <;> cases c3 <;> first | rfl | cases hB
      | false =>
        cases c4 <;> cases c1 <;> cases c2 <;> cases c3 <;> first | rfl | cases hB
end
theorem ba_self (a : ByteArray) : (a == a) = true := by
  obtain ⟨d⟩ := a
  exact beq_self_eq_true d
abbrev i64T : LT := .int IntKind.i64
abbrev shT : List LT := [i64T, i64T, i64T, .str, i64T, i64T, i64T, i64T, i64T]
abbrev meT : List LT := [i64T, .sl 4 1, .sl 166 6]
abbrev seT : List LT := [i64T, i64T, .str, i64T, i64T, i64T]
abbrev scT : List LT := [i64T, .sl 168 3, .sl 170 4, .sl 173 5]
abbrev entrT : List LT := [.str, i64T, i64T]
abbrev insT : List LT := [i64T, i64T, i64T, .str]
abbrev taT : List LT := [i64T, i64T, i64T, .sl 2 1, .sl 2 1]
theorem row_of {T E : Nat} {ts : List LT} {l : LL} (hl : leafOf Tryz.prog 8 T = ts) (h : Ty Tryz.prog (.sl T E) (.ro E l)) {q : List AVal} (hq : q ∈ l) : TyL Tryz.prog ts q := by
  have := (ty_rows h).2.1 q hq
  rwa [hl] at this
theorem same_units {us : LL} (h : TyUnits us) : G_r09_Same_0 us us FU 0 = some false := by
  rw [run_r09_Same_0 _ _ (ty_rows h).1, anyO_false]
  intro k hk
  obtain ⟨q1, q2, q3⟩ := okR_get (okUnits h) hk
  have d2 : (0 : Int) ≤ k := by omega
  have hr := unit_row (r := us) h q3
  have su := same_u (cS (us.getD k []) 0) (cB (us.getD k []) 1) (cB (us.getD k []) 2) (cI (us.getD k []) 3) (cI (us.getD k []) 4) (cI (us.getD k []) 5) (cI (us.getD k []) 6) (cI (us.getD k []) 7) (cI (us.getD k []) 8) (cI (us.getD k []) 9) (cI (us.getD k []) 10) (cI (us.getD k []) 11) (cS (us.getD k []) 12) (cI (us.getD k []) 13) (cI (us.getD k []) 14) (cI (us.getD k []) 15) _ _ _ (tyL_sl hr (j := 16) rfl) (tyL_sl hr (j := 17) rfl) (tyL_sl hr (j := 18) rfl)
  simp only [S_r09_Same_0, d2, decide_true, cond_true, Int.toNat_natCast, q1, q2, Option.bind_some, roRows, su, Bool.not_true, cond_false]
theorem same_weapons {ws : LL} (h : TyWeapons ws) : G_r09_Same_1 ws ws FU 0 = some false := by
  rw [run_r09_Same_1 _ _ (ty_rows h).1, anyO_false]
  intro k hk
  obtain ⟨q1, q2, q3⟩ := okR_get (okWeapons h) hk
  have d2 : (0 : Int) ≤ k := by omega
  simp only [S_r09_Same_1, d2, decide_true, cond_true, Int.toNat_natCast, q1, q2, Option.bind_some, beq_self_eq_true, ba_self, Bool.and_self, Bool.not_true, cond_false]
theorem same_t (a : ByteArray) (b c d : Int) (e : ByteArray) (f g : Int) (x : LL) (hx : TyNames x) : F_r09_SameTech a x b c d e f g a x b c d e f g = some true := by
  simp only [F_r09_SameTech, beq_self_eq_true, seq_self, ba_self, same_n x hx, Option.bind_some, cond_true]
theorem same_techs {ts : LL} (h : TyTechs ts) : G_r09_Same_2 ts ts FU 0 = some false := by
  rw [run_r09_Same_2 _ _ (ty_rows h).1, anyO_false]
  intro k hk
  obtain ⟨q1, q2, q3⟩ := okR_get (okTechs h) hk
  have d2 : (0 : Int) ≤ k := by omega
  have st := fun a b c d e f g => same_t a b c d e f g _ (tyL_sl (tech_row h q3) (j := 1) rfl)
  simp only [S_r09_Same_2, d2, decide_true, cond_true, Int.toNat_natCast, q1, q2, Option.bind_some, roRows, st, Bool.not_true, cond_false]
theorem same_rules {us ws ts : LL} (h1 : TyUnits us) (h2 : TyWeapons ws) (h3 : TyTechs ts) : F_r09_Same us ws ts us ws ts = some true := by
  simp only [F_r09_Same, bne_self_eq_false, cond_false, same_units h1, same_weapons h2, same_techs h3, Option.bind_some]
theorem same_o {l : LL} (h : TyOrders l) : F_r21_SameOrders l l = some true := by
  have key : G_r21_SameOrders_0 l l FU 0 = some false := by
    rw [run_r21_SameOrders_0 _ _ (ty_rows h).1, anyO_false]
    intro k hk
    obtain ⟨q1, q2, q3⟩ := okR_get (okOrders h) hk
    have d2 : (0 : Int) ≤ k := by omega
    simp only [S_r21_SameOrders_0, d2, decide_true, cond_true, Int.toNat_natCast, q1, q2, Option.bind_some, beq_self_eq_true, ba_self, Bool.and_self, Bool.not_true, cond_false]
  simp only [F_r21_SameOrders, bne_self_eq_false, cond_false, key, Option.bind_some]
theorem same_j {l : LL} (h : TyJobs l) : G_r21_Same_0 l l FU 0 = some false := by
  rw [run_r21_Same_0 _ _ (ty_rows h).1, anyO_false]
  intro k hk
  obtain ⟨q1, q2, q3⟩ := okR_get (okJobs h) hk
  have d2 : (0 : Int) ≤ k := by omega
  simp only [S_r21_Same_0, d2, decide_true, cond_true, Int.toNat_natCast, q1, q2, Option.bind_some, beq_self_eq_true, ba_self, Bool.and_self, Bool.not_true, cond_false]
theorem same_e (a b : Int) (c : ByteArray) (x y d e f g h : Int) {os js : LL} (ho : TyOrders os) (hj : TyJobs js) : F_r21_Same a b c x y d e f g h os js a b c x y d e f g h os js = some true := by
  simp only [F_r21_Same, bne_self_eq_false, beq_self_eq_true, ba_self, seq_self, Bool.and_self, cond_false, cond_true, same_j hj, same_o ho, Option.bind_some]
theorem same_es {l : LL} (h : TyEnts l) : F_r21_SameAll l l = some true := by
  have key : G_r21_SameAll_0 l l FU 0 = some false := by
    rw [run_r21_SameAll_0 _ _ (ty_rows h).1, anyO_false]
    intro k hk
    obtain ⟨q1, q2, q3⟩ := okR_get (okEnts h) hk
    obtain ⟨_, r2, r3⟩ := row_en (ent_row h q3)
    have d2 : (0 : Int) ≤ k := by omega
    simp only [S_r21_SameAll_0, d2, decide_true, cond_true, Int.toNat_natCast, q1, q2, Option.bind_some, roRows, fun a b c x y d e f g h => same_e a b c x y d e f g h r2 r3, Bool.not_true, cond_false]
  simp only [F_r21_SameAll, bne_self_eq_false, cond_false, key, Option.bind_some]
theorem same_cells {l : LL} (h : Ty Tryz.prog (.sl 4 1) (.ro 1 l)) : F_r23_SameCells l l = some true := by
  have ok : okR [.bool] l := okR_of (by kernel_rfl) h
  have key : G_r23_SameCells_0 l l FU 0 = some false := by
    rw [run_r23_SameCells_0 _ _ (ty_rows h).1, anyO_false]
    intro k hk
    obtain ⟨q1, q2, q3⟩ := okR_get ok hk
    have d2 : (0 : Int) ≤ k := by omega
    simp only [S_r23_SameCells_0, d2, decide_true, cond_true, Int.toNat_natCast, q1, q2, Option.bind_some, beq_self_eq_true, Bool.not_true, cond_false]
  simp only [F_r23_SameCells, bne_self_eq_false, cond_false, key, Option.bind_some]
theorem same_seen {l : LL} (h : Ty Tryz.prog (.sl 166 6) (.ro 6 l)) : F_r23_SameSeen l l = some true := by
  have ok : okR seT l := okR_of (by kernel_rfl) h
  have key : G_r23_SameSeen_0 l l FU 0 = some false := by
    rw [run_r23_SameSeen_0 _ _ (ty_rows h).1, anyO_false]
    intro k hk
    obtain ⟨q1, q2, q3⟩ := okR_get ok hk
    have d2 : (0 : Int) ≤ k := by omega
    simp only [S_r23_SameSeen_0, d2, decide_true, cond_true, Int.toNat_natCast, q1, q2, Option.bind_some, beq_self_eq_true, ba_self, Bool.and_self, Bool.not_true, cond_false]
  simp only [F_r23_SameSeen, bne_self_eq_false, cond_false, key, Option.bind_some]
theorem same_mems {l : LL} (h : Ty Tryz.prog (.sl 116 3) (.ro 3 l)) : F_r23_Memories l l = some true := by
  have ok : okR meT l := okR_of (by kernel_rfl) h
  have key : G_r23_Memories_0 l l FU 0 = some false := by
    rw [run_r23_Memories_0 _ _ (ty_rows h).1, anyO_false]
    intro k hk
    obtain ⟨q1, q2, q3⟩ := okR_get ok hk
    have hr := row_of (ts := meT) (by kernel_rfl) h q3
    have d2 : (0 : Int) ≤ k := by omega
    simp only [S_r23_Memories_0, d2, decide_true, cond_true, Int.toNat_natCast, q1, q2, Option.bind_some, bne_self_eq_false, roRows, same_cells (tyL_sl hr (j := 1) rfl), same_seen (tyL_sl hr (j := 2) rfl), Bool.not_true, cond_false]
  simp only [F_r23_Memories, bne_self_eq_false, cond_false, key, Option.bind_some]
theorem same_code {a b : LL} (h : Ty Tryz.prog (.sl 168 3) (.ro 3 a)) (h' : Ty Tryz.prog (.sl 170 4) (.ro 4 b)) : F_r25_SameCode a b a b = some true := by
  have ok : okR entrT a := okR_of (by kernel_rfl) h
  have ok' : okR insT b := okR_of (by kernel_rfl) h'
  have k0 : G_r25_SameCode_0 a a FU 0 = some false := by
    rw [run_r25_SameCode_0 _ _ (ty_rows h).1, anyO_false]
    intro k hk
    obtain ⟨q1, q2, q3⟩ := okR_get ok hk
    have d2 : (0 : Int) ≤ k := by omega
    simp only [S_r25_SameCode_0, d2, decide_true, cond_true, Int.toNat_natCast, q1, q2, Option.bind_some, beq_self_eq_true, ba_self, Bool.and_self, Bool.not_true, cond_false]
  have k1 : G_r25_SameCode_1 b b FU 0 = some false := by
    rw [run_r25_SameCode_1 _ _ (ty_rows h').1, anyO_false]
    intro k hk
    obtain ⟨q1, q2, q3⟩ := okR_get ok' hk
    have d2 : (0 : Int) ≤ k := by omega
    simp only [S_r25_SameCode_1, d2, decide_true, cond_true, Int.toNat_natCast, q1, q2, Option.bind_some, beq_self_eq_true, ba_self, Bool.and_self, Bool.not_true, cond_false]
  simp only [F_r25_SameCode, bne_self_eq_false, cond_false, k0, k1, Option.bind_some]
theorem same_nums {l : LL} (h : Ty Tryz.prog (.sl 2 1) (.ro 1 l)) : F_r25_sameNumbers l l = some true := by
  have ok : okR [i64T] l := okR_of (by kernel_rfl) h
  have key : G_r25_sameNumbers_0 l l FU 0 = some false := by
    rw [run_r25_sameNumbers_0 _ _ (ty_rows h).1, anyO_false]
    intro k hk
    obtain ⟨q1, q2, q3⟩ := okR_get ok hk
    have d2 : (0 : Int) ≤ k := by omega
    simp only [S_r25_sameNumbers_0, d2, decide_true, cond_true, Int.toNat_natCast, q1, q2, Option.bind_some, bne_self_eq_false, cond_false]
  simp only [F_r25_sameNumbers, bne_self_eq_false, cond_false, key, Option.bind_some]
theorem same_tasks {l : LL} (h : Ty Tryz.prog (.sl 173 5) (.ro 5 l)) : F_r25_SameTasks l l = some true := by
  have ok : okR taT l := okR_of (by kernel_rfl) h
  have key : G_r25_SameTasks_0 l l FU 0 = some false := by
    rw [run_r25_SameTasks_0 _ _ (ty_rows h).1, anyO_false]
    intro k hk
    obtain ⟨q1, q2, q3⟩ := okR_get ok hk
    have hr := row_of (ts := taT) (by kernel_rfl) h q3
    have d2 : (0 : Int) ≤ k := by omega
    simp only [S_r25_SameTasks_0, d2, decide_true, cond_true, Int.toNat_natCast, q1, q2, Option.bind_some, bne_self_eq_false, roRows, same_nums (tyL_sl hr (j := 3) rfl), same_nums (tyL_sl hr (j := 4) rfl), Bool.not_true, cond_false]
  simp only [F_r25_SameTasks, bne_self_eq_false, cond_false, key, Option.bind_some]
theorem same_scripts {l : LL} (h : Ty Tryz.prog (.sl 125 4) (.ro 4 l)) : F_r25_SameScripts l l = some true := by
  have ok : okR scT l := okR_of (by kernel_rfl) h
  have key : G_r25_SameScripts_0 l l FU 0 = some false := by
    rw [run_r25_SameScripts_0 _ _ (ty_rows h).1, anyO_false]
    intro k hk
    obtain ⟨q1, q2, q3⟩ := okR_get ok hk
    have hr := row_of (ts := scT) (by kernel_rfl) h q3
    have d2 : (0 : Int) ≤ k := by omega
    simp only [S_r25_SameScripts_0, d2, decide_true, cond_true, Int.toNat_natCast, q1, q2, Option.bind_some, bne_self_eq_false, roRows, same_code (tyL_sl hr (j := 1) rfl) (tyL_sl hr (j := 2) rfl), same_tasks (tyL_sl hr (j := 3) rfl), Bool.not_true, cond_false]
  simp only [F_r25_SameScripts, bne_self_eq_false, cond_false, key, Option.bind_some]
theorem same_game (T0 T1 T2 : Int) (T3 : Bool) (T4 : Int) {us ws ts : LL} (T5 T6 : Int) {Tc ps es Ts Tm Tq : LL} (h1 : TyUnits us) (h2 : TyWeapons ws) (h3 : TyTechs ts) (hc : TyCells Tc) (hcn : Tc.length ≤ 1000000)
    (hp : TyPlayers ps) (he : TyEnts es) (w13 : Ty Tryz.prog (.sl 75 9) (.ro 9 Ts)) (w14 : Ty Tryz.prog (.sl 116 3) (.ro 3 Tm)) (w15 : Ty Tryz.prog (.sl 125 4) (.ro 4 Tq)) :
    F_r25_SameGame T0 T1 T2 T3 T4 us ws ts T5 T6 Tc ps es Ts Tm Tq T0 T1 T2 T3 T4 us ws ts T5 T6 Tc ps es Ts Tm Tq = some true := by
  have hc' : okCs Tc := okCs_of (by kernel_rfl) hc
  have ok : okR shT Ts := okR_of (by kernel_rfl) w13
  have key : G_r25_SameGame_0 Ts Ts FU 0 = some false := by
    rw [run_r25_SameGame_0 _ _ (ty_rows w13).1, anyO_false]
    intro k hk
    obtain ⟨q1, q2, q3⟩ := okR_get ok hk
    have d2 : (0 : Int) ≤ k := by omega
    simp only [S_r25_SameGame_0, d2, decide_true, cond_true, Int.toNat_natCast, q1, q2, Option.bind_some, beq_self_eq_true, ba_self, Bool.and_self, Bool.not_true, cond_false]
  simp only [F_r25_SameGame, bne_self_eq_false, beq_self_eq_true, Bool.not_true, cond_false, cond_true, key, Option.bind_some, same_rules h1 h2 h3, Same_r _ _ _ _ _ _ hc' hc' hcn, sameN_self, same_pl ps (okPl_of hp), same_es he, same_mems w14, same_scripts w15]
theorem le0_not (x : Int) : decide (x ≤ 0) = !decide (0 < x) := by
  by_cases h : x ≤ 0
  · have : ¬ 0 < x := by omega
    simp only [h, this, decide_true, decide_false, Bool.not_false]
  · have : 0 < x := by omega
    simp only [h, this, decide_true, decide_false, Bool.not_true]
theorem eq0_not {x : Int} (hx : 0 ≤ x) : (x == 0) = !decide (x > 0) := by
  by_cases h : x > 0
  · have : (x == 0) = false := by rw [beq_eq_false_iff_ne]; omega
    rw [this]; simp only [h, decide_true, Bool.not_true]
  · have : x = 0 := by omega
    subst this; rfl
def Asc (es : LL) : Prop := ∀ j k, j < k → k < es.length → cI (es.getD j []) 0 < cI (es.getD k []) 0
theorem find_here {es : LL} (h : Asc es) {i : Nat} (hi : i < es.length) : es.findIdx? (fun r => cI r 0 == cI (es.getD i []) 0) = some i := by
  rw [List.findIdx?_eq_some_iff_getElem]
  refine ⟨hi, by simp [List.getD, hi], fun j hj => ?_⟩
  have := h j i hj hi
  have hjl : j < es.length := by omega
  have e : es.getD j [] = es[j] := by simp [List.getD, hjl]
  rw [e] at this
  simp only [Bool.not_eq_true, beq_eq_false_iff_ne, ne_eq]
  omega
theorem enV_at {es : LL} (h : Asc es) {i : Nat} (hi : i < es.length) : enV es (cI (es.getD i []) 0) = enT (es.getD i []) := by
  unfold enV fdV
  rw [find_here h hi]
theorem put_v {es : LL} (he : TyEnts es) (h : Asc es) (hn : es.length ≤ 1000) {i : Nat} (hi : i < es.length) (o w : Int) (os : LL) :
    F_r21_Put es (cI (es.getD i []) 0) (cI (es.getD i []) 1) (cS (es.getD i []) 2) (cI (es.getD i []) 3) (cI (es.getD i []) 4) (cI (es.getD i []) 5) (cI (es.getD i []) 6) (cI (es.getD i []) 7) o w os (cR (es.getD i []) 11) = some (es.set i (enRow (es.getD i []) o w os)) := by
  have room (n : Nat) (h : n ≤ 2000) : roomOk n 136 = true := by simp [roomOk]; omega
  have ht : (enV es (cI (es.getD i []) 0)).2.2.2.2.2.2.2.2.2.2.2.2 = true := by rw [enV_at h hi]; rfl
  have key := run_loop (fun m (s : LL × Bool) x => G_r21_Put_0 es true (cI (es.getD i []) 0) (cI (es.getD i []) 1) (cS (es.getD i []) 2) (cI (es.getD i []) 3) (cI (es.getD i []) 4) (cI (es.getD i []) 5) (cI (es.getD i []) 6) (cI (es.getD i []) 7) o w os (cR (es.getD i []) 11) m s.1 s.2 x)
    (fun k s => .inl (if k = i then (s.1 ++ [enRow (es.getD i []) o w os], true) else (s.1 ++ [es.getD k []], s.2))) id es.length (fun k s => s.1.length = k ∧ s.2 = decide (i < k))
    (fun m k s hk hI => by
      obtain ⟨q1, q2, q3⟩ := okR_get (okEnts he) hk
      have d1 : (k : Int) < es.length := by omega
      have d2 : (0 : Int) ≤ k := by omega
      have rm : roomOk (s.1.length + 1) 136 = true := room _ (by omega)
      have hrow := (row_en (ent_row he q3)).1
      unfold enRow at hrow
      rcases Nat.lt_trichotomy k i with hlt | heq | hgt
      · have hs : s.2 = false := by rw [hI.2]; simp; omega
        have hne : ¬ k = i := by omega
        have hid : (cI (es.getD k []) 0 == cI (es.getD i []) 0) = false := by
          rw [beq_eq_false_iff_ne]
          have := h k i hlt hi
          omega
        simp only [G_r21_Put_0, Int.ofNat_eq_natCast, d1, d2, hs, hid, decide_true, cond_true, cond_false, Bool.not_false, Int.toNat_natCast, q1, q2, Option.bind_some, rm, wr_next hk (by omega), hne, if_false, ← hrow]
      · subst heq
        have hs : s.2 = false := by rw [hI.2]; simp
        simp only [G_r21_Put_0, Int.ofNat_eq_natCast, d1, d2, hs, beq_self_eq_true, decide_true, cond_true, cond_false, Bool.not_false, Int.toNat_natCast, q1, q2, Option.bind_some, rm, wr_next hk (by omega), if_true, enRow]
      · have hs : s.2 = true := by rw [hI.2]; simp; omega
        have hne : ¬ k = i := by omega
        simp only [G_r21_Put_0, Int.ofNat_eq_natCast, d1, d2, hs, decide_true, cond_true, cond_false, Bool.not_true, Int.toNat_natCast, q1, q2, Option.bind_some, rm, wr_next hk (by omega), hne, if_false, ← hrow])
    (fun k s s' hk hI he' => by
      simp only [Sum.inl.injEq] at he'
      subst he'
      by_cases hki : k = i
      · rw [if_pos hki]
        exact ⟨by simp [hI.1], by simp; omega⟩
      · rw [if_neg hki]
        refine ⟨by simp [hI.1], ?_⟩
        simp only [hI.2]
        rw [Bool.eq_iff_iff, decide_eq_true_eq, decide_eq_true_eq]
        omega)
    (fun m s _ => by
      have d1 : ¬ (es.length : Int) < es.length := by omega
      simp only [G_r21_Put_0, Int.ofNat_eq_natCast, d1, decide_false, cond_false]
      rfl) es.length FU 0 ([], false) (by omega) (by unfold FU; omega) ⟨rfl, by simp⟩
  have hs : ∀ k, k < es.length → (es.set i (enRow (es.getD i []) o w os)).take (k + 1) = (es.set i (enRow (es.getD i []) o w os)).take k ++ [if k = i then enRow (es.getD i []) o w os else es.getD k []] := fun k hk => by
    have hkl : k < (es.set i (enRow (es.getD i []) o w os)).length := by rw [List.length_set]; exact hk
    rw [List.take_add_one, List.getElem?_eq_getElem hkl]
    congr 1
    simp only [Option.toList_some, List.cons.injEq, and_true, List.getElem_set]
    by_cases e : i = k
    · subst e; simp
    · have e' : ¬ k = i := fun h => e h.symm
      simp [e, e', List.getD, hk]
  have hv := iter_inv (f := fun k (s : LL × Bool) => (.inl (if k = i then (s.1 ++ [enRow (es.getD i []) o w os], true) else (s.1 ++ [es.getD k []], s.2)) : (LL × Bool) ⊕ (LL × Bool))) (e := id) (fun t => t = (es.set i (enRow (es.getD i []) o w os), true)) es.length (fun k s => s.1 = (es.set i (enRow (es.getD i []) o w os)).take k ∧ s.2 = decide (i < k))
    (fun k s s' hk hI he' => by
      simp only [Sum.inl.injEq] at he'
      subst he'
      by_cases hki : k = i
      · rw [if_pos hki, hs k hk, if_pos hki, hI.1]
        exact ⟨rfl, by simp; omega⟩
      · rw [if_neg hki, hs k hk, if_neg hki, hI.1]
        refine ⟨rfl, ?_⟩
        simp only [hI.2]
        rw [Bool.eq_iff_iff, decide_eq_true_eq, decide_eq_true_eq]
        omega)
    (fun k s t hk hI he' => by cases he')
    (fun s hI => by
      obtain ⟨a, b⟩ := hI
      have hl : (es.set i (enRow (es.getD i []) o w os)).length = es.length := List.length_set
      rw [← hl, List.take_length] at a
      show s = _
      rw [Prod.ext_iff]
      exact ⟨a, by rw [b]; simpa using hi⟩) es.length 0 ([], false) (by omega) ⟨by simp, by simp⟩
  have key' : G_r21_Put_0 es true (cI (es.getD i []) 0) (cI (es.getD i []) 1) (cS (es.getD i []) 2) (cI (es.getD i []) 3) (cI (es.getD i []) 4) (cI (es.getD i []) 5) (cI (es.getD i []) 6) (cI (es.getD i []) 7) o w os (cR (es.getD i []) 11) FU [] false 0 = _ := key
  simp only [F_r21_Put, ent_r es _ he, Option.bind_some, ht, key', hv, Bool.not_true, cond_false]
theorem dp_near (us es : LL) (id : Int) : dpV us es id = 0 ∨ (dsV us es id (dpV us es id)).2 = true := by
  cases ho : okE (enV es id) with
  | false => exact .inl (by unfold dpV; rw [ho]; rfl)
  | true =>
    have hv : dpV us es id = 0 ∨ ∃ k, k < es.length ∧ dpV us es id = cI (es.getD k []) 0 := by
      unfold dpV
      rw [ho]
      simp only [Bool.not_true, cond_false]
      refine iter_inv (fun t => t = 0 ∨ ∃ k, k < es.length ∧ t = cI (es.getD k []) 0) es.length (fun _ s => s.1 = 0 ∨ ∃ k, k < es.length ∧ s.1 = cI (es.getD k []) 0) (fun k s s' hk hI he' => ?_) (fun k s t hk hI he' => ?_) (fun s hI => hI) es.length 0 (0, 0) (by omega) (.inl rfl)
      · unfold dpF at he'
        simp only [Sum.inl.injEq] at he'
        have hrow : ∃ j, j < es.length ∧ cI (es.getD k []) 0 = cI (es.getD j []) 0 := ⟨k, hk, rfl⟩
        revert he'
        generalize (cI (es.getD k []) 1 != (enV es id).2.1) = b1
        generalize (!(cI (es.getD k []) 7 == 0)) = b2
        generalize (!(uV us (cS (es.getD k []) 2)).2.2.2.2.2.2.2.2.2.2.2.2.2.2.2.2.2.2.2) = b3
        generalize (!(uV us (cS (es.getD k []) 2)).2.1) = b4
        generalize (!(uV us (cS (es.getD k []) 2)).2.2.1) = b5
        generalize (dsV us es id (cI (es.getD k []) 0)).1 = dd
        intro he'
        subst he'
        cases b1 <;> cases b2 <;> cases b3 <;> cases b4 <;> cases b5 <;> simp only [cond_true, cond_false] <;> first
          | exact hI
          | (cases s.1 == 0 <;> cases decide (dd < s.2) <;> cases dd == s.2 <;> cases decide (cI (es.getD k []) 0 < s.1) <;> simp only [cond_true, cond_false] <;> first | exact hI | exact .inr hrow)
      · unfold dpF at he'
        cases he'
    rcases hv with hv | ⟨k, hk, hv⟩
    · exact .inl hv
    · right
      rw [hv]
      exact dsV_here ho hk
section
variable (T0 T1 T2 : Int) (T3 : Bool) (T4 : Int) (us ws ts : LL) (T5 T6 : Int) (Tc ps es Ts Tm Tq : LL)
theorem refund_rc (hp : TyPlayers ps) (id : Int) {o w : Int} (pa : ∀ k, k < ps.length → (0 ≤ cI (ps.getD k []) 2 ∧ cI (ps.getD k []) 2 ≤ 1000000) ∧ (0 ≤ cI (ps.getD k []) 3 ∧ cI (ps.getD k []) 3 ≤ 1000000)) (ho : 0 ≤ o ∧ o ≤ 1000000) (hw : 0 ≤ w ∧ w ≤ 1000000) :
    F_r28_Refund T0 T1 T2 T3 T4 us ws ts T5 T6 Tc ps es Ts Tm Tq id o w = some (T0, T1, T2, T3, T4, us, ws, ts, T5, T6, Tc, rcP ps id o w, es, Ts, Tm, Tq) := by
  have o1 : ¬ o < 0 := by omega
  have o2 : ¬ w < 0 := by omega
  simp only [F_r28_Refund, find_r T0 T1 T2 T3 T4 us ws ts T5 T6 Tc ps es Ts Tm Tq id hp, Option.bind_some, o1, o2, decide_false, cond_false]
  unfold piV fdV rcP
  cases hf : ps.findIdx? (fun r => cI r 0 == id) with
  | none => rfl
  | some k =>
    have hk := (fd_lt hf).1
    obtain ⟨q1, q2, q3⟩ := okR_get (okPlayers hp) hk
    obtain ⟨p1, p2⟩ := pa k hk
    have d0 : ¬ (k : Int) < 0 := by omega
    have d2 : (0 : Int) ≤ k := by omega
    simp only [d0, d2, decide_false, decide_true, cond_false, cond_true, Int.toNat_natCast, q1, q2, Option.bind_some, roRows, plus_in p1 ho, plus_in p2 hw, set_r T0 T1 T2 T3 T4 us ws ts T5 T6 Tc ps es Ts Tm Tq hp k hk]
    rfl
theorem work_r (h1 : TyUnits us) (I : W28 us T5 T6 (ps, es, Tc)) {i : Nat} (hi : i < es.length) :
    F_r28_work T0 T1 T2 T3 T4 us ws ts T5 T6 Tc ps es Ts Tm Tq (cI (es.getD i []) 0) = some (T0, T1, T2, T3, T4, us, ws, ts, T5, T6, (wkV us T5 T6 (ps, es, Tc) i).2.2, (wkV us T5 T6 (ps, es, Tc) i).1, (wkV us T5 T6 (ps, es, Tc) i).2.1, Ts, Tm, Tq) := by
  have he : TyEnts es := I.te
  have hp : TyPlayers ps := I.tp
  have hc : okCs Tc := okCs_of (by kernel_rfl) I.tc
  have hasc : Asc es := I.ids
  have hsm : es.length ≤ 24 := I.sm
  obtain ⟨q1, q2, q3⟩ := okR_get (okEnts he) hi
  have hr := ent_row he q3
  obtain ⟨r1, r2, r3⟩ := row_en hr
  obtain ⟨a1, a2, a3⟩ := I.am i hi
  simp only at a1 a2 a3
  have hcap := uV_load I.gu (cS (es.getD i []) 2)
  have w1 : wr (cI (es.getD i []) 8 + cI (es.getD i []) 9) = cI (es.getD i []) 8 + cI (es.getD i []) 9 := wr_in (by omega) (by omega)
  have hen : enV es (cI (es.getD i []) 0) = enT (es.getD i []) := enV_at hasc hi
  have oi (j : Nat) (hj : ordT[j]? = some (.int .i64)) (q : List AVal) (hq : q ∈ cR (es.getD i []) 10) := tyL_int (ord_row r2 hq) hj
  have hcx : -9223372036854775808 ≤ (curV (cR (es.getD i []) 10)).2.1 ∧ (curV (cR (es.getD i []) 10)).2.1 ≤ 9223372036854775807 := by
    cases ho' : cR (es.getD i []) 10 with
    | nil => exact ⟨by decide, by decide⟩
    | cons q l => exact oi 1 rfl q (by rw [ho']; exact .head _)
  have hcy : -9223372036854775808 ≤ (curV (cR (es.getD i []) 10)).2.2.1 ∧ (curV (cR (es.getD i []) 10)).2.2.1 ≤ 9223372036854775807 := by
    cases ho' : cR (es.getD i []) 10 with
    | nil => exact ⟨by decide, by decide⟩
    | cons q l => exact oi 2 rfl q (by rw [ho']; exact .head _)
  simp only [F_r28_work, ent_r es _ he, hen, enT, Option.bind_some, unit_r us ws ts _ h1, cur_r (okOrders r2), F_r21_Ready, wkV]
  have e3 : ((curV (cR (es.getD i []) 10)).1 != 3) = !((curV (cR (es.getD i []) 10)).1 == 3) := rfl
  have e4 := le0_not (uV us (cS (es.getD i []) 2)).2.2.2.2.2.2.2.2.2.2.2.1
  rw [e3, e4]
  cases hG : isG us (es.getD i []) with
  | false =>
    unfold isG at hG
    simp only at hG
    revert hG
    generalize (uV us (cS (es.getD i []) 2)).2.2.2.2.2.2.2.2.2.2.2.2.2.2.2.2.2.2.2 = c1
    generalize (curV (cR (es.getD i []) 10)).2.2.2.2.2 = c2
    generalize (cI (es.getD i []) 7 == 0) = c3
    generalize (uV us (cS (es.getD i []) 2)).2.1 = c4
    generalize decide (0 < (uV us (cS (es.getD i []) 2)).2.2.2.2.2.2.2.2.2.2.2.1) = c5
    generalize ((curV (cR (es.getD i []) 10)).1 == 3) = c6
    intro hG
    cases c1 <;> cases c2 <;> cases c3 <;> cases c4 <;> cases c5 <;> cases c6 <;> first | rfl | cases hG
  | true =>
    have hcu : (curV (cR (es.getD i []) 10)).2.2.2.2.2 = true ∧ ((curV (cR (es.getD i []) 10)).1 == 3) = true := by
      unfold isG at hG
      simp only [Bool.and_eq_true] at hG
      exact ⟨hG.2.1, hG.2.2.2.2.2⟩
    unfold isG at hG
    simp only [Bool.and_eq_true, Bool.not_eq_true'] at hG
    obtain ⟨g1, g2, g3, g4, g5, g6⟩ := hG
    simp only [g1, g2, g3, g4, g5, g6, Bool.not_true, cond_true, cond_false, F_r19_CellOf, cell_r _ hcx.1 hcx.2, cell_r _ hcy.1 hcy.2, get_r T5 T6 Tc hc, F_r19_CenterOf, cen_r, Option.bind_some, w1, Within_w, depot_r T0 T1 T2 T3 T4 us ws ts T5 T6 Tc ps es Ts Tm Tq h1 he, distance_r T0 T1 T2 T3 T4 us ws ts T5 T6 Tc ps es Ts Tm Tq h1 he,
      refund_rc T0 T1 T2 T3 T4 us ws ts T5 T6 Tc ps es Ts Tm Tq hp _ I.pa (show 0 ≤ cI (es.getD i []) 8 ∧ cI (es.getD i []) 8 ≤ 1000000 by omega) (show 0 ≤ cI (es.getD i []) 9 ∧ cI (es.getD i []) 9 ≤ 1000000 by omega), done_r r2 (show _ ≤ 1000 by omega) hcu.1 hcu.2, Take_r T5 T6 Tc hc, put_v he hasc (show _ ≤ 1000 by omega) hi]
    generalize hpx : (curV (cR (es.getD i []) 10)).2.1 / 256 = px
    generalize hpy : (curV (cR (es.getD i []) 10)).2.2.1 / 256 = py
    have hnear := dp_near us es (cI (es.getD i []) 0)
    generalize hdp : dpV us es (cI (es.getD i []) 0) = dp at hnear ⊢
    generalize hds : dsV us es (cI (es.getD i []) 0) dp = ds at hnear ⊢
    have hB : ((dp != 0) && (ds.2 && decide (ds.1 ≤ 256))) = ((dp != 0) && decide (ds.1 ≤ 256)) := by
      rcases hnear with h0 | h0
      · rw [h0]; rfl
      · rw [h0]; rfl
    rw [hB]
    by_cases hA : cI (es.getD i []) 8 + cI (es.getD i []) 9 < (uV us (cS (es.getD i []) 2)).2.2.2.2.2.2.2.2.2.2.2.1 ∧ (gt T5 T6 Tc px py).2.2.2 = true ∧ (gt T5 T6 Tc px py).2.2.1 > 0 ∧ withinN (cI (es.getD i []) 3) (cI (es.getD i []) 4) (cenV px) (cenV py) 384 = true
    · obtain ⟨b1, b2, b3, b4⟩ := hA
      have hins : ins T5 T6 Tc.length px py = true := by
        unfold gt at b2
        cases hh : ins T5 T6 Tc.length px py with
        | true => rfl
        | false => rw [hh] at b2; cases b2
      have hgt := gt_ins hins
      rw [hgt] at b3 ⊢
      simp only at b3
      have hn : 1 ≤ min 5 ((uV us (cS (es.getD i []) 2)).2.2.2.2.2.2.2.2.2.2.2.1 - (cI (es.getD i []) 8 + cI (es.getD i []) 9)) := by omega
      have w2 : wr ((uV us (cS (es.getD i []) 2)).2.2.2.2.2.2.2.2.2.2.2.1 - (cI (es.getD i []) 8 + cI (es.getD i []) 9)) = (uV us (cS (es.getD i []) 2)).2.2.2.2.2.2.2.2.2.2.2.1 - (cI (es.getD i []) 8 + cI (es.getD i []) 9) := wr_in (by omega) (by omega)
      have w3 : wr (cI (es.getD i []) 8 + min (min 5 ((uV us (cS (es.getD i []) 2)).2.2.2.2.2.2.2.2.2.2.2.1 - (cI (es.getD i []) 8 + cI (es.getD i []) 9))) (cI (cel T5 Tc px py) 2)) = cI (es.getD i []) 8 + min (min 5 ((uV us (cS (es.getD i []) 2)).2.2.2.2.2.2.2.2.2.2.2.1 - (cI (es.getD i []) 8 + cI (es.getD i []) 9))) (cI (cel T5 Tc px py) 2) := wr_in (by omega) (by omega)
      have w4 : wr (cI (es.getD i []) 9 + min (min 5 ((uV us (cS (es.getD i []) 2)).2.2.2.2.2.2.2.2.2.2.2.1 - (cI (es.getD i []) 8 + cI (es.getD i []) 9))) (cI (cel T5 Tc px py) 2)) = cI (es.getD i []) 9 + min (min 5 ((uV us (cS (es.getD i []) 2)).2.2.2.2.2.2.2.2.2.2.2.1 - (cI (es.getD i []) 8 + cI (es.getD i []) 9))) (cI (cel T5 Tc px py) 2) := wr_in (by omega) (by omega)
      simp only [b1, b3, b4, decide_true, cond_true, Bool.and_self, minI_eq, w2, take_here I.vm hins b3 hn, bne_self_eq_false, cond_false, w3, w4, hgt, put_v he hasc (show _ ≤ 1000 by omega) hi, Option.bind_some]
      cases (cI (cel T5 Tc px py) 0 == 4) <;> rfl
    · have hC : (decide (cI (es.getD i []) 8 + cI (es.getD i []) 9 < (uV us (cS (es.getD i []) 2)).2.2.2.2.2.2.2.2.2.2.2.1) && ((gt T5 T6 Tc px py).2.2.2 && (decide ((gt T5 T6 Tc px py).2.2.1 > 0) && withinN (cI (es.getD i []) 3) (cI (es.getD i []) 4) (cenV px) (cenV py) 384))) = false := by
        rw [Bool.eq_false_iff]
        intro hx
        simp only [Bool.and_eq_true, decide_eq_true_eq] at hx
        exact hA hx
      have hld := eq0_not (x := cI (es.getD i []) 8 + cI (es.getD i []) 9) (by omega)
      simp only [hC, hld, cond_false]
      generalize (gt T5 T6 Tc px py).2.2.2 = c4 at hC ⊢
      generalize decide (cI (es.getD i []) 8 + cI (es.getD i []) 9 < (uV us (cS (es.getD i []) 2)).2.2.2.2.2.2.2.2.2.2.2.1) = c1 at hC ⊢
      generalize decide ((gt T5 T6 Tc px py).2.2.1 > 0) = c2 at hC ⊢
      generalize withinN (cI (es.getD i []) 3) (cI (es.getD i []) 4) (cenV px) (cenV py) 384 = c3 at hC ⊢
      generalize decide (cI (es.getD i []) 8 + cI (es.getD i []) 9 > 0) = c5
      generalize (dp != 0) = c6
      generalize decide (ds.1 ≤ 256) = c7
      cases c5 with
      | true =>
        cases c6 <;> cases c7 <;> cases c4 <;> cases c1 <;> cases c2 <;> cases c3 <;> first | rfl | cases hC
      | false =>
        cases c6 <;> cases c7 <;> cases c4 <;> cases c1 <;> cases c2 <;> cases c3 <;> first | rfl | cases hC
end
theorem getD_set' {l : LL} {i : Nat} (hi : i < l.length) (x : List AVal) (k : Nat) : (l.set i x).getD k [] = if k = i then x else l.getD k [] := by
  by_cases h : k = i
  · subst h; rw [if_pos rfl]; simp [List.getD, hi]
  · rw [if_neg h]
    have h' : ¬ i = k := fun e => h e.symm
    simp [List.getD, List.getElem?_set, h']
theorem wk_cases {us : LL} {W H : Int} {s : W3} (I : W28 us W H s) {i : Nat} (hi : i < s.2.1.length) {r : List AVal} (hr : r = s.2.1.getD i []) :
    wkV us W H s i = s ∨
    (∃ x y m o w, isG us r = true ∧ ins W H s.2.2.length x y = true ∧ 1 ≤ m ∧ m ≤ cI (cel W s.2.2 x y) 2 ∧ o + w ≤ (uV us (cS r 2)).2.2.2.2.2.2.2.2.2.2.2.1 ∧
      ((cI (cel W s.2.2 x y) 0 = 4 ∧ o = cI r 8 ∧ w = cI r 9 + m) ∨ (cI (cel W s.2.2 x y) 0 ≠ 4 ∧ o = cI r 8 + m ∧ w = cI r 9)) ∧
      wkV us W H s i = (s.1, s.2.1.set i (enRow r o w (cR r 10)), wth W s.2.2 x y (bif (cI (cel W s.2.2 x y) 2 - m == 0) then 1 else cI (cel W s.2.2 x y) 0) (cI (cel W s.2.2 x y) 1) (cI (cel W s.2.2 x y) 2 - m))) ∨
    (isG us r = true ∧ wkV us W H s i = (rcP s.1 (cI r 1) (cI r 8) (cI r 9), s.2.1.set i (enRow r 0 0 (cR r 10)), s.2.2)) ∨
    (isG us r = true ∧ wkV us W H s i = (s.1, s.2.1.set i (enRow r (cI r 8) (cI r 9) ((cR r 10).drop 1)), s.2.2)) := by
  subst hr
  obtain ⟨a1, a2, a3⟩ := I.am i hi
  have hcap := uV_load I.gu (cS (s.2.1.getD i []) 2)
  unfold wkV
  simp only
  cases hG : isG us (s.2.1.getD i []) with
  | false => exact .inl rfl
  | true =>
    simp only [Bool.not_true, cond_false]
    generalize hpx : (curV (cR (s.2.1.getD i []) 10)).2.1 / 256 = px
    generalize hpy : (curV (cR (s.2.1.getD i []) 10)).2.2.1 / 256 = py
    by_cases hA : (decide (cI (s.2.1.getD i []) 8 + cI (s.2.1.getD i []) 9 < (uV us (cS (s.2.1.getD i []) 2)).2.2.2.2.2.2.2.2.2.2.2.1) && ((gt W H s.2.2 px py).2.2.2 && (decide ((gt W H s.2.2 px py).2.2.1 > 0) && withinN (cI (s.2.1.getD i []) 3) (cI (s.2.1.getD i []) 4) (cenV px) (cenV py) 384))) = true
    · rw [hA]
      simp only [Bool.and_eq_true, decide_eq_true_eq] at hA
      obtain ⟨b1, b2, b3, b4⟩ := hA
      have hins : ins W H s.2.2.length px py = true := by
        unfold gt at b2
        cases hh : ins W H s.2.2.length px py with
        | true => rfl
        | false => rw [hh] at b2; cases b2
      have hgt := gt_ins hins
      rw [hgt] at b3 ⊢
      simp only at b3
      simp only [cond_true]
      right; left
      cases h4 : (cI (cel W s.2.2 px py) 0 == 4) with
      | true =>
        exact ⟨px, py, _, _, _, trivial, hins, (by omega), (by omega), (by omega), .inl ⟨eq_of_beq h4, rfl, rfl⟩, rfl⟩
      | false =>
        exact ⟨px, py, _, _, _, trivial, hins, (by omega), (by omega), (by omega), .inr ⟨by simpa using h4, rfl, rfl⟩, rfl⟩
    · rw [Bool.not_eq_true] at hA
      rw [hA]
      simp only [cond_false]
      cases decide (cI (s.2.1.getD i []) 8 + cI (s.2.1.getD i []) 9 > 0) with
      | true =>
        simp only [cond_true]
        cases ((dpV us s.2.1 (cI (s.2.1.getD i []) 0) != 0) && ((dsV us s.2.1 (cI (s.2.1.getD i []) 0) (dpV us s.2.1 (cI (s.2.1.getD i []) 0))).2 && decide ((dsV us s.2.1 (cI (s.2.1.getD i []) 0) (dpV us s.2.1 (cI (s.2.1.getD i []) 0))).1 ≤ 256))) with
        | true => exact .inr (.inr (.inl ⟨trivial, rfl⟩))
        | false => exact .inl rfl
      | false =>
        simp only [cond_false]
        cases (!((gt W H s.2.2 px py).2.2.2 && decide ((gt W H s.2.2 px py).2.2.1 > 0))) with
        | true => exact .inr (.inr (.inr ⟨trivial, rfl⟩))
        | false => exact .inl rfl
theorem ty_plRow {r : List AVal} (h : TyL Tryz.prog plT r) {o w : Int} (ho : 0 ≤ o ∧ o ≤ 1000000) (hw : 0 ≤ w ∧ w ≤ 1000000) : TyL Tryz.prog plT (plRow r o w) := by
  have i (j : Nat) (hj : plT[j]? = some (.int .i64)) := tyL_int h hj
  exact tyL_mk (ty_i (i 0 rfl).1 (i 0 rfl).2) <| tyL_mk (ty_i (i 1 rfl).1 (i 1 rfl).2) <| tyL_mk (ty_i (by omega) (by omega)) <| tyL_mk (ty_i (by omega) (by omega)) <| tyL_mk (tyL_sl h (j := 4) rfl) <| tyL_mk (.bool _) tyL_nil'
theorem players_set {ps : LL} (h : TyPlayers ps) {r : List AVal} (hr : TyL Tryz.prog plT r) (k : Nat) : TyPlayers (ps.set k r) := ty_set h (by rwa [show leafOf Tryz.prog 8 70 = plT by kernel_rfl]) k
theorem cells_set {Tc : LL} (h : TyCells Tc) {x y z : Int} (hx : rng x) (hy : rng y) (hz : rng z) (k : Nat) : TyCells (Tc.set k [i64 x, i64 y, i64 z]) :=
  ty_set h (by
    rw [show leafOf Tryz.prog 8 54 = celT by kernel_rfl]
    exact tyL_mk (ty_i hx.1 hx.2) <| tyL_mk (ty_i hy.1 hy.2) <| tyL_mk (ty_i hz.1 hz.2) tyL_nil') k
theorem sumN'_in {a b : Int} (ha : 0 ≤ a ∧ a ≤ 1000000) (hb : 0 ≤ b ∧ b ≤ 1000000) : 0 ≤ sumN' a b ∧ sumN' a b ≤ 1000000 := by unfold sumN'; split <;> omega
theorem rcP_len (ps : LL) (id o w : Int) : (rcP ps id o w).length = ps.length := by
  unfold rcP
  split <;> simp
theorem rcP_row {ps : LL} {id o w : Int} (pa : ∀ k, k < ps.length → (0 ≤ cI (ps.getD k []) 2 ∧ cI (ps.getD k []) 2 ≤ 1000000) ∧ (0 ≤ cI (ps.getD k []) 3 ∧ cI (ps.getD k []) 3 ≤ 1000000)) (ho : 0 ≤ o ∧ o ≤ 1000000) (hw : 0 ≤ w ∧ w ≤ 1000000) (k : Nat) (hk : k < ps.length) :
    cI ((rcP ps id o w).getD k []) 0 = cI (ps.getD k []) 0 ∧ cR ((rcP ps id o w).getD k []) 4 = cR (ps.getD k []) 4 ∧ (0 ≤ cI ((rcP ps id o w).getD k []) 2 ∧ cI ((rcP ps id o w).getD k []) 2 ≤ 1000000) ∧ (0 ≤ cI ((rcP ps id o w).getD k []) 3 ∧ cI ((rcP ps id o w).getD k []) 3 ≤ 1000000) := by
  unfold rcP
  cases hf : ps.findIdx? (fun r => cI r 0 == id) with
  | none => exact ⟨rfl, rfl, pa k hk⟩
  | some j =>
    have hj := (fd_lt hf).1
    simp only
    rw [getD_set' hj]
    by_cases h : k = j
    · subst h
      rw [if_pos rfl]
      obtain ⟨p1, p2⟩ := pa k hk
      exact ⟨rfl, rfl, sumN'_in p1 ho, sumN'_in p2 hw⟩
    · rw [if_neg h]
      exact ⟨rfl, rfl, pa k hk⟩
theorem rcP_ty {ps : LL} (hp : TyPlayers ps) {id o w : Int} (pa : ∀ k, k < ps.length → (0 ≤ cI (ps.getD k []) 2 ∧ cI (ps.getD k []) 2 ≤ 1000000) ∧ (0 ≤ cI (ps.getD k []) 3 ∧ cI (ps.getD k []) 3 ≤ 1000000)) (ho : 0 ≤ o ∧ o ≤ 1000000) (hw : 0 ≤ w ∧ w ≤ 1000000) : TyPlayers (rcP ps id o w) := by
  unfold rcP
  cases hf : ps.findIdx? (fun r => cI r 0 == id) with
  | none => exact hp
  | some j =>
    have hj := (fd_lt hf).1
    obtain ⟨p1, p2⟩ := pa j hj
    exact players_set hp (ty_plRow (pl_row (us := ps) hp (okR_get (okPlayers hp) hj).2.2) (sumN'_in p1 ho) (sumN'_in p2 hw)) j
theorem cell_after {W H : Int} {Tc : LL} {x y m : Int} (hv : vmap W H Tc = true) (hi : ins W H Tc.length x y = true) (h1 : 1 ≤ m) (h2 : m ≤ cI (cel W Tc x y) 2) :
    vcell (bif (cI (cel W Tc x y) 2 - m == 0) then 1 else cI (cel W Tc x y) 0) (cI (cel W Tc x y) 1) (cI (cel W Tc x y) 2 - m) = true ∧ (cI (cel W Tc x y) 0 = 4 ∨ cI (cel W Tc x y) 0 = 5) ∧ (0 ≤ cI (cel W Tc x y) 2 ∧ cI (cel W Tc x y) 2 ≤ 1000000) := by
  have hr := vmap_cell hv hi
  unfold vrow vcell at hr
  rw [Bool.and_eq_true, decide_eq_true_eq] at hr
  obtain ⟨⟨k1, k2, k3, k4, k5, k6⟩, k7⟩ := hr
  have hpos : decide (cI (cel W Tc x y) 2 > 0) = true := by rw [decide_eq_true_eq]; omega
  rw [hpos] at k7
  have h45 : cI (cel W Tc x y) 0 = 4 ∨ cI (cel W Tc x y) 0 = 5 := by simpa using k7
  refine ⟨?_, h45, by omega⟩
  unfold vcell
  by_cases h0 : cI (cel W Tc x y) 2 - m = 0
  · have e0 : (cI (cel W Tc x y) 2 - m == 0) = true := by rw [h0]; rfl
    rw [e0, h0]
    simp only [cond_true]
    have : (1 ≤ (1 : Int) ∧ (1 : Int) ≤ 5 ∧ 0 ≤ cI (cel W Tc x y) 1 ∧ cI (cel W Tc x y) 1 ≤ 3 ∧ 0 ≤ (0 : Int) ∧ (0 : Int) ≤ 1000000) := by omega
    rw [decide_eq_true this]
    rfl
  · have e0 : (cI (cel W Tc x y) 2 - m == 0) = false := by simpa using h0
    rw [e0]
    simp only [cond_false]
    have : (1 ≤ cI (cel W Tc x y) 0 ∧ cI (cel W Tc x y) 0 ≤ 5 ∧ 0 ≤ cI (cel W Tc x y) 1 ∧ cI (cel W Tc x y) 1 ≤ 3 ∧ 0 ≤ cI (cel W Tc x y) 2 - m ∧ cI (cel W Tc x y) 2 - m ≤ 1000000) := by omega
    rw [decide_eq_true this]
    have hp : decide (cI (cel W Tc x y) 2 - m > 0) = true := by rw [decide_eq_true_eq]; omega
    rw [hp, Bool.true_and]
    rcases h45 with h | h <;> rw [h] <;> rfl
theorem wk_inv {us : LL} {W H : Int} {s : W3} (I : W28 us W H s) {i : Nat} (hi : i < s.2.1.length) : W28 us W H (wkV us W H s i) ∧ (wkV us W H s i).2.1.length = s.2.1.length ∧ (wkV us W H s i).2.2.length = s.2.2.length ∧ (wkV us W H s i).1.length = s.1.length := by
  have hrow := ent_row I.te (okR_get (okEnts I.te) hi).2.2
  obtain ⟨r1, r2, r3⟩ := row_en hrow
  obtain ⟨a1, a2, a3⟩ := I.am i hi
  have hcap := uV_load I.gu (cS (s.2.1.getD i []) 2)
  have ids' : ∀ (o w : Int) (os : LL) (j k : Nat), j < k → k < (s.2.1.set i (enRow (s.2.1.getD i []) o w os)).length → cI ((s.2.1.set i (enRow (s.2.1.getD i []) o w os)).getD j []) 0 < cI ((s.2.1.set i (enRow (s.2.1.getD i []) o w os)).getD k []) 0 := by
    intro o w os j k hjk hk
    rw [List.length_set] at hk
    have e : ∀ q, cI ((s.2.1.set i (enRow (s.2.1.getD i []) o w os)).getD q []) 0 = cI (s.2.1.getD q []) 0 := fun q => by
      rw [getD_set' hi]
      by_cases h : q = i
      · rw [if_pos h, h]; rfl
      · rw [if_neg h]
    rw [e, e]
    exact I.ids j k hjk hk
  have am' : ∀ (o w : Int) (os : LL), (0 ≤ o ∧ o ≤ 100000) → (0 ≤ w ∧ w ≤ 100000) → os.length ≤ 20 → ∀ k, k < (s.2.1.set i (enRow (s.2.1.getD i []) o w os)).length →
      (0 ≤ cI ((s.2.1.set i (enRow (s.2.1.getD i []) o w os)).getD k []) 8 ∧ cI ((s.2.1.set i (enRow (s.2.1.getD i []) o w os)).getD k []) 8 ≤ 100000) ∧ (0 ≤ cI ((s.2.1.set i (enRow (s.2.1.getD i []) o w os)).getD k []) 9 ∧ cI ((s.2.1.set i (enRow (s.2.1.getD i []) o w os)).getD k []) 9 ≤ 100000) ∧ (cR ((s.2.1.set i (enRow (s.2.1.getD i []) o w os)).getD k []) 10).length ≤ 20 := by
    intro o w os ho hw hos k hk
    rw [List.length_set] at hk
    rw [getD_set' hi]
    by_cases h : k = i
    · rw [if_pos h]; exact ⟨ho, hw, hos⟩
    · rw [if_neg h]; exact I.am k hk
  rcases wk_cases I hi rfl with e | ⟨x, y, m, o, w, g, hins, m1, m2, hle, hk, e⟩ | ⟨g, e⟩ | ⟨g, e⟩
  · rw [e]; exact ⟨I, rfl, rfl, rfl⟩
  · rw [e]
    obtain ⟨vc, _, va⟩ := cell_after I.vm hins m1 m2
    obtain ⟨g1, g2, g3⟩ := vcell_rng vc
    have ho : 0 ≤ o ∧ o ≤ 100000 := by rcases hk with ⟨_, h1, h2⟩ | ⟨_, h1, h2⟩ <;> omega
    have hw : 0 ≤ w ∧ w ≤ 100000 := by rcases hk with ⟨_, h1, h2⟩ | ⟨_, h1, h2⟩ <;> omega
    exact ⟨⟨I.gu, I.tp, ents_set I.te (ty_enRow hrow (by omega) (by omega) r2) i, cells_set I.tc g1 g2 g3 _, wth_vmap I.vm vc, by simp only [List.length_set]; exact I.sm, by rw [wth_len]; exact I.sn, ids' _ _ _, am' _ _ _ ho hw a3, I.pa⟩,
      by simp, wth_len _ _ _ _ _ _ _, rfl⟩
  · rw [e]
    have ho : 0 ≤ cI (s.2.1.getD i []) 8 ∧ cI (s.2.1.getD i []) 8 ≤ 1000000 := by omega
    have hw : 0 ≤ cI (s.2.1.getD i []) 9 ∧ cI (s.2.1.getD i []) 9 ≤ 1000000 := by omega
    exact ⟨⟨I.gu, rcP_ty I.tp I.pa ho hw, ents_set I.te (ty_enRow hrow (by omega) (by omega) r2) i, I.tc, I.vm, by simp only [List.length_set]; exact I.sm, I.sn, ids' _ _ _, am' _ _ _ (by omega) (by omega) a3, fun k hk => (rcP_row I.pa ho hw k (by rw [rcP_len] at hk; exact hk)).2.2⟩,
      by simp, rfl, rcP_len _ _ _ _⟩
  · rw [e]
    exact ⟨⟨I.gu, I.tp, ents_set I.te (ty_enRow hrow (by omega) (by omega) (drop1_ty r2)) i, I.tc, I.vm, by simp only [List.length_set]; exact I.sm, I.sn, ids' _ _ _, am' _ _ _ a1 a2 (by rw [List.length_drop]; omega), I.pa⟩,
      by simp, rfl, rfl⟩
def phV (us : LL) (W H : Int) (n : Nat) (s : W3) : W3 := iter (fun k s => (.inl (wkV us W H s k) : W3 ⊕ W3)) id n 0 s
theorem ph_inv {us : LL} {W H : Int} {n : Nat} (P : W3 → Prop) (hP : ∀ s k, k < n → P s → P (wkV us W H s k)) {s : W3} (h : P s) : P (phV us W H n s) :=
  iter_inv P n (fun _ s => P s) (fun k s s' hk hI he => by
    simp only [Sum.inl.injEq] at he
    subst he
    exact hP s k hk hI) (fun k s t hk hI he => by cases he) (fun s h => h) n 0 s (by omega) h
theorem ph_w28 {us : LL} {W H : Int} {s : W3} (I : W28 us W H s) : W28 us W H (phV us W H s.2.1.length s) ∧ (phV us W H s.2.1.length s).2.1.length = s.2.1.length ∧ (phV us W H s.2.1.length s).2.2.length = s.2.2.length ∧ (phV us W H s.2.1.length s).1.length = s.1.length :=
  ph_inv (fun t => W28 us W H t ∧ t.2.1.length = s.2.1.length ∧ t.2.2.length = s.2.2.length ∧ t.1.length = s.1.length) (fun t k hk ⟨a, b, c, d⟩ => by
    obtain ⟨a', b', c', d'⟩ := wk_inv a (i := k) (by omega)
    exact ⟨a', by omega, by omega, by omega⟩) ⟨I, rfl, rfl, rfl⟩
section
variable (T0 T1 T2 : Int) (T3 : Bool) (T4 : Int) (us ws ts : LL) (T5 T6 : Int) (Tc ps es Ts Tm Tq : LL)
theorem phase_g (h1 : TyUnits us) (I : W28 us T5 T6 (ps, es, Tc)) : F_economy_Phase T0 T1 T2 T3 T4 us ws ts T5 T6 Tc ps es Ts Tm Tq =
    some (T0, T1, T2, T3, T4, us, ws, ts, T5, T6, (phV us T5 T6 es.length (ps, es, Tc)).2.2, (phV us T5 T6 es.length (ps, es, Tc)).1, (phV us T5 T6 es.length (ps, es, Tc)).2.1, Ts, Tm, Tq) := by
  have hsm : es.length ≤ 24 := I.sm
  have key := run_loop (fun m (s : W3) x => (G_economy_Phase_0 es.length T0 T1 T2 T3 T4 us ws ts Ts Tm Tq m s.1 s.2.1 x T5 T6 s.2.2)) (fun k s => .inl (wkV us T5 T6 s k)) (fun s => (s.1, s.2.1, T5, T6, s.2.2)) es.length (fun _ s => W28 us T5 T6 s ∧ s.2.1.length = es.length)
    (fun m k s hk hI => by
      obtain ⟨a, b⟩ := hI
      have d1 : (k : Int) < es.length := by omega
      have hw := work_g T0 T1 T2 T3 T4 us ws ts T5 T6 s.2.2 s.1 s.2.1 Ts Tm Tq h1 a (i := k) (by omega)
      simp only [G_economy_Phase_0, d1, decide_true, cond_true, hw, Option.bind_some, wr_next hk (by omega)])
    (fun k s s' hk hI he => by
      simp only [Sum.inl.injEq] at he
      subst he
      obtain ⟨a, b⟩ := hI
      obtain ⟨a', b', _⟩ := wk_inv a (i := k) (by omega)
      exact ⟨a', by omega⟩)
    (fun m s _ => by
      have d1 : ¬ (es.length : Int) < es.length := by omega
      simp only [G_economy_Phase_0, d1, decide_false, cond_false]) es.length FU 0 (ps, es, Tc) (by omega) (by unfold FU; omega) ⟨I, rfl⟩
  have hv : ∀ r k (s : W3), iter (fun k s => (.inl (wkV us T5 T6 s k) : W3 ⊕ (LL × LL × Int × Int × LL))) (fun s => (s.1, s.2.1, T5, T6, s.2.2)) r k s =
      ((iter (fun k s => (.inl (wkV us T5 T6 s k) : W3 ⊕ W3)) id r k s).1, (iter (fun k s => (.inl (wkV us T5 T6 s k) : W3 ⊕ W3)) id r k s).2.1, T5, T6, (iter (fun k s => (.inl (wkV us T5 T6 s k) : W3 ⊕ W3)) id r k s).2.2) := by
    intro r
    induction r with
    | zero => intro k s; rfl
    | succ r ih => intro k s; exact ih (k + 1) _
  have key' : G_economy_Phase_0 es.length T0 T1 T2 T3 T4 us ws ts Ts Tm Tq FU ps es 0 T5 T6 Tc = _ := key.trans (congrArg some (hv _ _ _))
  simp only [F_economy_Phase, F_economy_clone, clone_p I.tp, clone_e I.te, Option.bind_some, Int.ofNat_eq_natCast, key']
  rfl
theorem phase_r (h1 : TyUnits us) (I : W28 us T5 T6 (ps, es, Tc)) : F_r28_Phase T0 T1 T2 T3 T4 us ws ts T5 T6 Tc ps es Ts Tm Tq =
    some (T0, T1, T2, T3, T4, us, ws, ts, T5, T6, (phV us T5 T6 es.length (ps, es, Tc)).2.2, (phV us T5 T6 es.length (ps, es, Tc)).1, (phV us T5 T6 es.length (ps, es, Tc)).2.1, Ts, Tm, Tq) := by
  have hsm : es.length ≤ 24 := I.sm
  have key := run_loop (fun m (s : W3) x => (G_r28_Phase_0 m x T0 T1 T2 T3 T4 us ws ts T5 T6 s.2.2 s.1 s.2.1 Ts Tm Tq)) (fun k s => .inl (wkV us T5 T6 s k)) (fun s => (T0, T1, T2, T3, T4, us, ws, ts, T5, T6, s.2.2, s.1, s.2.1, Ts, Tm, Tq)) es.length (fun _ s => W28 us T5 T6 s ∧ s.2.1.length = es.length)
    (fun m k s hk hI => by
      obtain ⟨a, b⟩ := hI
      have d1 : (k : Int) < s.2.1.length := by omega
      have d2 : (0 : Int) ≤ k := by omega
      obtain ⟨q1, q2, q3⟩ := okR_get (okEnts a.te) (k := k) (by omega)
      have hw := work_r T0 T1 T2 T3 T4 us ws ts T5 T6 s.2.2 s.1 s.2.1 Ts Tm Tq h1 a (i := k) (by omega)
      simp only [G_r28_Phase_0, Int.ofNat_eq_natCast, d1, d2, decide_true, cond_true, Int.toNat_natCast, q1, q2, hw, Option.bind_some, wr_next hk (by omega)])
    (fun k s s' hk hI he => by
      simp only [Sum.inl.injEq] at he
      subst he
      obtain ⟨a, b⟩ := hI
      obtain ⟨a', b', _⟩ := wk_inv a (i := k) (by omega)
      exact ⟨a', by omega⟩)
    (fun m s hI => by
      have d1 : ¬ (es.length : Int) < s.2.1.length := by rw [hI.2]; omega
      simp only [G_r28_Phase_0, Int.ofNat_eq_natCast, d1, decide_false, cond_false]) es.length FU 0 (ps, es, Tc) (by omega) (by unfold FU; omega) ⟨I, rfl⟩
  have hv : ∀ r k (s : W3), iter (fun k s => (.inl (wkV us T5 T6 s k) : W3 ⊕ GameT)) (fun s => (T0, T1, T2, T3, T4, us, ws, ts, T5, T6, s.2.2, s.1, s.2.1, Ts, Tm, Tq)) r k s =
      (T0, T1, T2, T3, T4, us, ws, ts, T5, T6, (iter (fun k s => (.inl (wkV us T5 T6 s k) : W3 ⊕ W3)) id r k s).2.2, (iter (fun k s => (.inl (wkV us T5 T6 s k) : W3 ⊕ W3)) id r k s).1, (iter (fun k s => (.inl (wkV us T5 T6 s k) : W3 ⊕ W3)) id r k s).2.1, Ts, Tm, Tq) := by
    intro r
    induction r with
    | zero => intro k s; rfl
    | succ r ih => intro k s; exact ih (k + 1) _
  have key' : G_r28_Phase_0 FU 0 T0 T1 T2 T3 T4 us ws ts T5 T6 Tc ps es Ts Tm Tq = _ := key.trans (congrArg some (hv _ _ _))
  simp only [F_r28_Phase, key', Option.bind_some]
  rfl
theorem w28_of (h1 : TyUnits us) (h2 : TyWeapons ws) (h3 : TyTechs ts) (hp : TyPlayers ps) (hc : TyCells Tc) (he : TyEnts es) (S : Sm28 T1 us ws ts T5 T6 Tc ps es Ts Tm Tq) : W28 us T5 T6 (ps, es, Tc) := by
  obtain ⟨b1, e1, l1⟩ := huge10 h1 h2 h3
  have hb : b1 = false := by
    have := S.hu
    rw [e1] at this
    simpa using this
  obtain ⟨m1, m2, m3⟩ := l1 hb
  obtain ⟨v, ev, hv⟩ := validate_s us ws ts h1 h2 h3 m1 m2 m3
  have hz : v = 0 := by
    have := S.va
    rw [ev] at this
    simpa using this
  have asc : ∀ k, k < es.length → ∀ j, j < k → cI (es.getD j []) 0 < cI (es.getD k []) 0 := by
    intro k
    induction k with
    | zero => intro _ j hj; omega
    | succ k ih =>
      intro hk j hj
      have h0 := (S.fm (k + 1) hk).1
      have e : prevId es (k + 1) = cI (es.getD k []) 0 := rfl
      rw [e] at h0
      by_cases hjk : j = k
      · rw [hjk]; exact h0
      · exact Int.lt_trans (ih (by omega) j (by omega)) h0
  refine ⟨(hv hz).2.1, hp, he, hc, S.vm, S.n2, S.n1, fun j k hjk hk => asc k hk j hjk, fun k hk => ?_, fun k hk => ⟨(S.sd k hk).2.2.1, (S.sd k hk).2.2.2⟩⟩
  have hnm := (S.fm k hk).2.2
  unfold nmR at hnm
  rw [nm_iff] at hnm
  exact ⟨hnm.2.2.2.2.1, hnm.2.2.2.2.2.1, (S.oj k hk).1⟩
theorem pure_EconomyPhases (w0 : wf .i64 T0) (w1 : wf .i64 T1) (w2 : wf .i64 T2) (w4 : wf .u64 T4) (h1 : TyUnits us) (h2 : TyWeapons ws) (h3 : TyTechs ts) (w8 : wf .i64 T5) (w9 : wf .i64 T6) (hc : TyCells Tc)
    (hp : TyPlayers ps) (he : TyEnts es) (w13 : Ty Tryz.prog (.sl 75 9) (.ro 9 Ts)) (w14 : Ty Tryz.prog (.sl 116 3) (.ro 3 Tm)) (w15 : Ty Tryz.prog (.sl 125 4) (.ro 4 Tq)) :
    F_l28_EconomyPhases T0 T1 T2 T3 T4 us ws ts T5 T6 Tc ps es Ts Tm Tq = some true := by
  have hc' : okCs Tc := okCs_of (by kernel_rfl) hc
  obtain ⟨b, hb⟩ := small_s T0 T1 T2 T3 T4 us ws ts T5 T6 Tc ps es Ts Tm Tq h1 h2 h3 hp hc' he
  cases b with
  | false => simp only [F_l28_EconomyPhases, hb, Option.bind_some, awake28, Bool.not_false, cond_true]
  | true =>
    have S := (small_iff T0 T1 T2 T3 T4 us ws ts T5 T6 Tc ps es Ts Tm Tq h1 hp hc' he).1 hb
    have I := w28_of T1 us ws ts T5 T6 Tc ps es Ts Tm Tq h1 h2 h3 hp hc he S
    have J := (ph_w28 I).1
    have hn : (phV us T5 T6 es.length (ps, es, Tc)).2.2.length ≤ 1000000 := by have : (phV us T5 T6 es.length (ps, es, Tc)).2.2.length ≤ 400 := J.sn; omega
    simp only [F_l28_EconomyPhases, hb, Option.bind_some, awake28, Bool.not_true, cond_false, phase_g T0 T1 T2 T3 T4 us ws ts T5 T6 Tc ps es Ts Tm Tq h1 I, phase_r T0 T1 T2 T3 T4 us ws ts T5 T6 Tc ps es Ts Tm Tq h1 I,
      same_game T0 T1 T2 T3 T4 T5 T6 h1 h2 h3 J.tc hn J.tp J.te w13 w14 w15, cond_true]
end
section
variable (T0 T1 T2 : Int) (T3 : Bool) (T4 : Int) (us ws ts : LL) (T5 T6 : Int) (Tc ps es Ts Tm Tq : LL)
end
section
variable (T0 T1 T2 : Int) (T3 : Bool) (T4 : Int) (us ws ts : LL) (T5 T6 : Int) (Tc ps es Ts Tm Tq : LL)
end
end Go.Proofs.YtoiimiohobollaaGreat.AI
