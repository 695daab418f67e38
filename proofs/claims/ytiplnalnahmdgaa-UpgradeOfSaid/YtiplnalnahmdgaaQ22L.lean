/- Chapter 22: the laws on bonuses. -/
import Derived.Test.YtiplnalnahmdgaaQ22
namespace Go.Proofs.Ytiplnalnahmdgaa.AI
open Go.RowKit
set_option linter.unusedVariables false
set_option linter.unusedSimpArgs false
theorem awake22 : F_skirmishlaw22_awake = some true := by kernel_rfl

/-! ### Sizes -/
abbrev unitT : List LT := [LT.str, LT.bool, LT.bool, (LT.int IntKind.i64), (LT.int IntKind.i64), (LT.int IntKind.i64), (LT.int IntKind.i64), (LT.int IntKind.i64), (LT.int IntKind.i64), (LT.int IntKind.i64), (LT.int IntKind.i64), (LT.int IntKind.i64), LT.str, (LT.int IntKind.i64), (LT.int IntKind.i64), (LT.int IntKind.i64), (LT.sl 9 1), (LT.sl 9 1), (LT.sl 9 1)]
abbrev weapT : List LT := [LT.str, (LT.int IntKind.i64), (LT.int IntKind.i64), (LT.int IntKind.i64), (LT.int IntKind.i64), (LT.int IntKind.i64)]
abbrev TyUnits (us : List (List AVal)) : Prop := Ty Try.prog (.sl 43 19) (.ro 19 us)
abbrev TyWeapons (ws : List (List AVal)) : Prop := Ty Try.prog (.sl 52 6) (.ro 6 ws)
abbrev TyTechs (ts : List (List AVal)) : Prop := Ty Try.prog (.sl 39 8) (.ro 8 ts)
abbrev TyNames (l : List (List AVal)) : Prop := Ty Try.prog (.sl 9 1) (.ro 1 l)
theorem okNames {l : List (List AVal)} (h : TyNames l) : okR [.str] l ∧ l.length ≤ maxLen := ⟨okR_of (by kernel_rfl) h, (ty_rows h).1⟩
theorem okUnits {l : List (List AVal)} (h : TyUnits l) : okR unitT l := okR_of (by kernel_rfl) h
theorem okWeapons {l : List (List AVal)} (h : TyWeapons l) : okR weapT l := okR_of (by kernel_rfl) h
theorem okTechs {l : List (List AVal)} (h : TyTechs l) : okR techT l := okR_of (by kernel_rfl) h
theorem unit_row {us r : List (List AVal)} {q : List AVal} (h : TyUnits us) (hq : q ∈ us) : TyL Try.prog unitT q := by
  have := (ty_rows h).2.1 q hq
  rwa [show leafOf Try.prog 8 43 = unitT by kernel_rfl] at this
theorem tech_row {ts : List (List AVal)} {q : List AVal} (h : TyTechs ts) (hq : q ∈ ts) : TyL Try.prog techT q := by
  have := (ty_rows h).2.1 q hq
  rwa [show leafOf Try.prog 8 39 = techT by kernel_rfl] at this
theorem names_some (l : List (List AVal)) (hl : okR [.str] l) (hn : l.length ≤ maxLen) : ∃ n, F_skirmishlaw10_names l = some n := by
  have hm : maxLen ≤ 9223372036854775807 := by simp [maxLen]
  obtain ⟨t, ht⟩ := loop_some (fun m n i => G_skirmishlaw10_names_0 l m n i) l.length
    (fun k s hk => by
      obtain ⟨q1, q2, _⟩ := okR_get hl hk
      have d1 : (k : Int) < l.length := by omega
      have d2 : (0 : Int) ≤ k := by omega
      exact .inl ⟨_, fun m => by simp only [G_skirmishlaw10_names_0, Int.ofNat_eq_natCast, d1, d2, decide_true, cond_true, Int.toNat_natCast, q1, q2, Option.bind_some, wr_next hk (by omega)]; rfl⟩)
    (fun s => ⟨s, fun m => by
      have d1 : ¬ (l.length : Int) < l.length := by omega
      simp only [G_skirmishlaw10_names_0, Int.ofNat_eq_natCast, d1, decide_false, cond_false]⟩)
    l.length FU 0 (l.length : Int) (by omega) (by unfold FU; omega)
  have ht' : G_skirmishlaw10_names_0 l FU l.length 0 = some t := ht
  exact ⟨t, by simp only [F_skirmishlaw10_names, Int.ofNat_eq_natCast, ht', Option.bind_some]⟩
theorem okR_strs (l : List ByteArray) : okR [.str] (l.map fun s => [AVal.sc (.string s)]) := fun r hr => by
  obtain ⟨s, _, rfl⟩ := List.mem_map.1 hr
  rfl
theorem names2_some (a b : ByteArray) : ∃ n, F_skirmishlaw10_names [[(AVal.sc (Value.string a))], [(AVal.sc (Value.string b))]] = some n := names_some _ (okR_strs [a, b]) (by simp [maxLen])
theorem names1_some (a : ByteArray) : ∃ n, F_skirmishlaw10_names [[(AVal.sc (Value.string a))]] = some n := names_some _ (okR_strs [a]) (by simp [maxLen])
theorem huge10 {us ws ts : List (List AVal)} (h1 : TyUnits us) (h2 : TyWeapons ws) (h3 : TyTechs ts) : ∃ b, F_skirmishlaw10_Huge us ws ts = some b ∧ (b = false → us.length ≤ 100 ∧ ws.length ≤ 100 ∧ ts.length ≤ 100) := by
  simp only [F_skirmishlaw10_Huge, Int.ofNat_eq_natCast]
  by_cases n1 : (us.length : Int) > 100
  · exact ⟨true, by simp only [n1, decide_true, cond_true], fun h => by cases h⟩
  by_cases n2 : (ws.length : Int) > 100
  · exact ⟨true, by simp only [n1, n2, decide_true, decide_false, cond_true, cond_false], fun h => by cases h⟩
  by_cases n3 : (ts.length : Int) > 100
  · exact ⟨true, by simp only [n1, n2, n3, decide_true, decide_false, cond_true, cond_false], fun h => by cases h⟩
  simp only [n1, n2, n3, decide_false, cond_false]
  obtain ⟨t1, e1⟩ := loop_some (fun m n i => G_skirmishlaw10_Huge_0 us m n i) us.length
    (fun k s hk => by
      obtain ⟨q1, q2, q3⟩ := okR_get (okUnits h1) hk
      have d1 : (k : Int) < us.length := by omega
      have d2 : (0 : Int) ≤ k := by omega
      have hr := unit_row (r := us) h1 q3
      obtain ⟨p1, p2⟩ := okNames (tyL_sl hr (j := 16) rfl)
      obtain ⟨p3, p4⟩ := okNames (tyL_sl hr (j := 17) rfl)
      obtain ⟨p5, p6⟩ := okNames (tyL_sl hr (j := 18) rfl)
      obtain ⟨a0, f0⟩ := names2_some (cS (us.getD k []) 0) (cS (us.getD k []) 12)
      obtain ⟨a1, f1⟩ := names_some _ p1 p2
      obtain ⟨a2, f2⟩ := names_some _ p3 p4
      obtain ⟨a3, f3⟩ := names_some _ p5 p6
      exact .inl ⟨_, fun m => by simp only [G_skirmishlaw10_Huge_0, Int.ofNat_eq_natCast, d1, d2, decide_true, cond_true, Int.toNat_natCast, q1, q2, Option.bind_some, wr_next hk (by omega), roRows, f0, f1, f2, f3]; rfl⟩)
    (fun s => ⟨s, fun m => by
      have d1 : ¬ (us.length : Int) < us.length := by omega
      simp only [G_skirmishlaw10_Huge_0, Int.ofNat_eq_natCast, d1, decide_false, cond_false]⟩)
    us.length FU 0 0 (by omega) (by unfold FU; omega)
  obtain ⟨t2, e2⟩ := loop_some (fun m n i => G_skirmishlaw10_Huge_1 ws m n i) ws.length
    (fun k s hk => by
      obtain ⟨q1, q2, q3⟩ := okR_get (okWeapons h2) hk
      have d1 : (k : Int) < ws.length := by omega
      have d2 : (0 : Int) ≤ k := by omega
      obtain ⟨a0, f0⟩ := names1_some (cS (ws.getD k []) 0)
      exact .inl ⟨_, fun m => by simp only [G_skirmishlaw10_Huge_1, Int.ofNat_eq_natCast, d1, d2, decide_true, cond_true, Int.toNat_natCast, q1, q2, Option.bind_some, wr_next hk (by omega), f0]; rfl⟩)
    (fun s => ⟨s, fun m => by
      have d1 : ¬ (ws.length : Int) < ws.length := by omega
      simp only [G_skirmishlaw10_Huge_1, Int.ofNat_eq_natCast, d1, decide_false, cond_false]⟩)
    ws.length FU 0 t1 (by omega) (by unfold FU; omega)
  obtain ⟨t3, e3⟩ := loop_some (fun m n i => G_skirmishlaw10_Huge_2 ts m n i) ts.length
    (fun k s hk => by
      obtain ⟨q1, q2, q3⟩ := okR_get (okTechs h3) hk
      have d1 : (k : Int) < ts.length := by omega
      have d2 : (0 : Int) ≤ k := by omega
      obtain ⟨p1, p2⟩ := okNames (tyL_sl (tech_row h3 q3) (j := 1) rfl)
      obtain ⟨a0, f0⟩ := names2_some (cS (ts.getD k []) 0) (cS (ts.getD k []) 5)
      obtain ⟨a1, f1⟩ := names_some _ p1 p2
      exact .inl ⟨_, fun m => by simp only [G_skirmishlaw10_Huge_2, Int.ofNat_eq_natCast, d1, d2, decide_true, cond_true, Int.toNat_natCast, q1, q2, Option.bind_some, wr_next hk (by omega), roRows, f0, f1]; rfl⟩)
    (fun s => ⟨s, fun m => by
      have d1 : ¬ (ts.length : Int) < ts.length := by omega
      simp only [G_skirmishlaw10_Huge_2, Int.ofNat_eq_natCast, d1, decide_false, cond_false]⟩)
    ts.length FU 0 t2 (by omega) (by unfold FU; omega)
  have e1' : G_skirmishlaw10_Huge_0 us FU 0 0 = some t1 := e1
  have e2' : G_skirmishlaw10_Huge_1 ws FU t1 0 = some t2 := e2
  have e3' : G_skirmishlaw10_Huge_2 ts FU t2 0 = some t3 := e3
  simp only [e1', e2', e3', Option.bind_some]
  exact ⟨_, rfl, fun _ => by omega⟩

/-! ### The laws -/
section
variable (us ws ts techs : List (List AVal))
theorem pure_UpgradeStats (u : ByteArray) (st : Int) (h1 : TyUnits us) (h2 : TyWeapons ws) (h3 : TyTechs ts) (h4 : TyNames techs) (h5 : u.size ≤ reachBytes) (h6 : wf .i64 st) : F_skirmishlaw22_UpgradeStats us ws ts techs u st = some true := by
  obtain ⟨b1, e1, l1⟩ := huge10 h1 h2 h3
  obtain ⟨o1, o2⟩ := okNames h4
  obtain ⟨b2, e2, l2⟩ := huge_l techs o1 o2
  simp only [F_skirmishlaw22_UpgradeStats, e1, e2, Option.bind_some, awake22]
  cases b1 with
  | true => rfl
  | false =>
    cases b2 with
    | true => rfl
    | false => simp only [cond_false, stat_g us ws ts techs u st (okTechs h3) (by have := l1 rfl; omega) o1 o2, stat_r us ws ts techs u st (okTechs h3) (by have := l1 rfl; omega) o1 o2, Option.bind_some, beq_self_eq_true, cond_true]
theorem okR_snoc {l : List (List AVal)} (h : okR [.str] l) (s : ByteArray) : okR [.str] (l ++ [[AVal.sc (.string s)]]) := fun r hr => by
  rcases List.mem_append.1 hr with hr | hr
  · exact h r hr
  · rw [List.mem_singleton.1 hr]; rfl
theorem hasN_snoc (l : List (List AVal)) (s x : ByteArray) : hasN (l ++ [[AVal.sc (.string s)]]) x = (hasN l x || seq s x) := by
  unfold hasN
  rw [List.any_append]
  congr 1
  exact Bool.or_false _
def taddS (x u : ByteArray) (st : Int) (r : List AVal) : Int := bif seq (cS r 0) x && (seq (cS r 5) u && (cI r 6 == st)) then cl (cI r 7) else 0
def sumS (x u : ByteArray) (st : Int) (ts : List (List AVal)) (k : Nat) : Int := ((ts.take k).map (taddS x u st)).foldl (· + ·) 0
theorem sumS_succ (x u : ByteArray) (st : Int) (ts : List (List AVal)) {k : Nat} (hk : k < ts.length) : sumS x u st ts (k + 1) = sumS x u st ts k + taddS x u st (ts.getD k []) := by
  unfold sumS
  rw [List.take_add_one, List.getElem?_eq_getElem hk, List.map_append, List.foldl_append]
  simp [List.getD, hk]
theorem sums_diff (x u : ByteArray) (st : Int) (hx : hasN techs x = false) : ∀ k, k ≤ ts.length → sumN (hasN (techs ++ [[AVal.sc (.string x)]])) u st ts k = sumN (hasN techs) u st ts k + sumS x u st ts k
  | 0, _ => rfl
  | k + 1, h => by
    rw [sumN_succ _ _ _ _ (by omega), sumN_succ _ _ _ _ (by omega), sumS_succ _ _ _ _ (by omega), sums_diff x u st hx k (by omega)]
    have key : tadd (hasN (techs ++ [[AVal.sc (.string x)]])) u st (ts.getD k []) = tadd (hasN techs) u st (ts.getD k []) + taddS x u st (ts.getD k []) := by
      unfold tadd taddS
      rw [hasN_snoc]
      cases hs : seq (cS (ts.getD k []) 0) x with
      | true =>
        have h0 : hasN techs (cS (ts.getD k []) 0) = false := by
          rw [← hx]
          unfold hasN
          congr 1
          funext r
          rw [seq_comm (cS r 0), seq_comm (cS r 0), seq_left hs]
        rw [h0, seq_comm x, hs]
        cases seq (cS (ts.getD k []) 5) u <;> cases (cI (ts.getD k []) 6 == st) <;> simp
      | false =>
        rw [seq_comm x, hs]
        simp
    omega
theorem sumS_in (x u : ByteArray) (st : Int) : ∀ k, k ≤ ts.length → -(100000 * (k : Int)) ≤ sumS x u st ts k ∧ sumS x u st ts k ≤ 100000 * (k : Int)
  | 0, _ => by show -(100000 * ((0 : Nat) : Int)) ≤ 0 ∧ (0 : Int) ≤ _; omega
  | k + 1, h => by
    have ih := sumS_in x u st k (by omega)
    have ht : -100000 ≤ taddS x u st (ts.getD k []) ∧ taddS x u st (ts.getD k []) ≤ 100000 := by
      unfold taddS
      have := cl_in (cI (ts.getD k []) 7)
      generalize (seq (cS (ts.getD k []) 0) x && (seq (cS (ts.getD k []) 5) u && (cI (ts.getD k []) 6 == st))) = bb
      cases bb
      · simp only [cond_false]; omega
      · simp only [cond_true]; omega
    rw [sumS_succ _ _ _ _ (by omega)]
    simp only [Int.natCast_add, Int.natCast_one]
    omega
theorem adds_G (x u : ByteArray) (st : Int) (hts : okR techT ts) (hn : ts.length ≤ 1000000) : G_skirmishlaw22_UpgradeAdds_0 ts x u st FU 0 0 = some (sumS x u st ts ts.length) := by
  have key := run_loop (fun m s i => G_skirmishlaw22_UpgradeAdds_0 ts x u st m s i) (fun k s => .inl (s + taddS x u st (ts.getD k []))) id ts.length (fun k s => s = sumS x u st ts k)
    (fun m k s hk hi => by
      have hb := sumS_in ts x u st k (by omega)
      obtain ⟨q1, q2, _⟩ := okR_get hts hk
      have d1 : (k : Int) < ts.length := by omega
      have d2 : (0 : Int) ≤ k := by omega
      have hc := cl_in (cI (ts.getD k []) 7)
      have e1 : max (-100000) (min (cI (ts.getD k []) 7) 100000) = cl (cI (ts.getD k []) 7) := rfl
      simp only [G_skirmishlaw22_UpgradeAdds_0, Int.ofNat_eq_natCast, d1, d2, decide_true, cond_true, Int.toNat_natCast, q1, q2, Option.bind_some, wr_next hk (by omega), clamp_r, e1]
      rw [wr_in (n := s + cl (cI (ts.getD k []) 7)) (by omega) (by omega)]
      show (bif seq (cS (ts.getD k []) 0) x then (bif seq (cS (ts.getD k []) 5) u then _ else _) else _) = _
      unfold taddS
      cases seq (cS (ts.getD k []) 0) x <;> cases seq (cS (ts.getD k []) 5) u <;> cases (cI (ts.getD k []) 6 == st) <;> simp)
    (fun k s s' hk hi h => by
      simp only [Sum.inl.injEq] at h
      rw [sumS_succ x u st ts hk, ← h, hi])
    (fun m s _ => by
      have d1 : ¬ (ts.length : Int) < ts.length := by omega
      simp only [G_skirmishlaw22_UpgradeAdds_0, Int.ofNat_eq_natCast, d1, decide_false, cond_false, id]) ts.length FU 0 0 (by omega) (by unfold FU; omega) rfl
  have hv := iter_inv (f := fun k (s : Int) => (.inl (s + taddS x u st (ts.getD k [])) : Int ⊕ Int)) (e := id) (fun t => t = sumS x u st ts ts.length) ts.length (fun k s => s = sumS x u st ts k)
    (fun k s s' hk hi h => by
      simp only [Sum.inl.injEq] at h
      rw [sumS_succ x u st ts hk, ← h, hi])
    (fun k s t hk hi h => by cases h) (fun s h => h) ts.length 0 0 (by omega) rfl
  exact key.trans (congrArg some hv)
theorem pure_UpgradeAdds (x u : ByteArray) (st : Int) (h1 : TyUnits us) (h2 : TyWeapons ws) (h3 : TyTechs ts) (h4 : TyNames techs) (h5 : x.size ≤ reachBytes) (h6 : u.size ≤ reachBytes) (h7 : wf .i64 st) : F_skirmishlaw22_UpgradeAdds us ws ts techs x u st = some true := by
  obtain ⟨b1, e1, l1⟩ := huge10 h1 h2 h3
  obtain ⟨o1, o2⟩ := okNames h4
  obtain ⟨b2, e2, l2⟩ := huge_l techs o1 o2
  simp only [F_skirmishlaw22_UpgradeAdds, e1, e2, Option.bind_some, awake22, has_9 techs x o1 o2]
  cases b1 with
  | true => rfl
  | false =>
    cases b2 with
    | true => rfl
    | false =>
      cases hx : hasN techs x with
      | true => rfl
      | false =>
        have l1 := l1 rfl
        have l2 := l2 rfl
        have r1 : roomOk (0 + techs.length) 16 = true := by simp [roomOk]; omega
        have r2 : roomOk (techs.length + 1) 16 = true := by simp [roomOk]; omega
        have hm : maxLen = 9223372036854775807 := by decide
        have b1 := sumN_in (hasN techs) u st ts ts.length (by omega)
        have b2 := sumN_in (hasN (techs ++ [[AVal.sc (.string x)]])) u st ts ts.length (by omega)
        have hd := sums_diff ts techs x u st hx ts.length (by omega)
        simp only [cond_false, r1, r2, cond_true, adds_G ts x u st (okTechs h3) (by omega), Option.bind_some, roRows, stat_g us ws ts techs u st (okTechs h3) (by omega) o1 o2,
          stat_g us ws ts (techs ++ [[AVal.sc (.string x)]]) u st (okTechs h3) (by omega) (okR_snoc o1 x) (by rw [List.length_append]; simp only [List.length_singleton]; omega)]
        rw [wr_in (by omega) (by omega), hd, show ∀ a b : Int, a + b - a = b by omega]
        simp
theorem sumN_congr {h g : ByteArray → Bool} (e : ∀ s, h s = g s) (u : ByteArray) (st : Int) (k : Nat) : sumN h u st ts k = sumN g u st ts k := by
  rw [funext e]
/-- The names again, from behind, with repetitions. -/
theorem order_G (hl : okR [.str] techs) (hn : techs.length ≤ 1000) : ∀ (m r : Nat) (R : List (List AVal)), r ≤ techs.length → r < m → okR [.str] R → R.length = 2 * (techs.length - r) →
    ∃ R', G_skirmishlaw22_UpgradeOrder_0 techs m R ((r : Int) - 1) = some R' ∧ okR [.str] R' ∧ R'.length ≤ 2000 ∧ ∀ s, hasN R' s = (hasN R s || (techs.take r).any fun q => seq (cS q 0) s)
  | 0, r, R, h0, h1, h2, h3 => by omega
  | m + 1, 0, R, h0, h1, h2, h3 => by
    have d1 : ¬ (((0 : Nat) : Int) - 1 ≥ 0) := by omega
    refine ⟨R, by simp only [G_skirmishlaw22_UpgradeOrder_0, d1, decide_false, cond_false], h2, by omega, fun s => ?_⟩
    simp
  | m + 1, r + 1, R, h0, h1, h2, h3 => by
    have e0 : ((r + 1 : Nat) : Int) - 1 = (r : Int) := by omega
    obtain ⟨q1, q2, q3⟩ := okR_get hl (k := r) (by omega)
    obtain ⟨p1, p2, p3⟩ := okR_get hl (k := r / 2) (by omega)
    have d1 : (r : Int) ≥ 0 := by omega
    have d2 : (0 : Int) ≤ r := by omega
    have w1 : wr (Int.tdiv (r : Int) 2) = ((r / 2 : Nat) : Int) := by
      rw [Int.tdiv_eq_ediv_of_nonneg (by omega), wr_in (by omega) (by omega)]
      omega
    have w2 : wr ((r : Int) - 1) = (r : Int) - 1 := wr_in (by omega) (by omega)
    have d3 : (0 : Int) ≤ ((r / 2 : Nat) : Int) := by omega
    have rm : roomOk (R.length + 1 + 1) 16 = true := by simp [roomOk]; omega
    obtain ⟨R', f1, f2, f3, f4⟩ := order_G hl hn m r (R ++ [[(AVal.sc (Value.string (cS (techs.getD r []) 0)))], [(AVal.sc (Value.string (cS (techs.getD (r / 2) []) 0)))]]) (by omega) (by omega) (fun q hq => by
      rcases List.mem_append.1 hq with hq | hq
      · exact h2 q hq
      · simp only [List.mem_cons, List.not_mem_nil, or_false] at hq
        rcases hq with rfl | rfl <;> rfl) (by rw [List.length_append]; simp only [List.length_cons, List.length_nil]; omega)
    refine ⟨R', ?_, f2, f3, fun s => ?_⟩
    · rw [e0]
      simp only [G_skirmishlaw22_UpgradeOrder_0, d1, d2, decide_true, cond_true, Int.toNat_natCast, q1, q2, Option.bind_some, w1, d3, p1, p2, rm, w2]
      exact f1
    · rw [f4]
      have hin : seq (cS (techs.getD (r / 2) []) 0) s = true → ((techs.take r).any fun q => seq (cS q 0) s) = true ∨ seq (cS (techs.getD r []) 0) s = true := fun hq => by
        by_cases hr : r = 0
        · subst hr; exact .inr hq
        · refine .inl (List.any_eq_true.2 ⟨_, ?_, hq⟩)
          rw [List.mem_take_iff_getElem]
          have hd : techs.getD (r / 2) [] = techs[r / 2]'(by omega) := by simp [List.getD, show r / 2 < techs.length by omega]
          exact ⟨r / 2, by omega, hd.symm⟩
      have ht : techs.take (r + 1) = techs.take r ++ [techs.getD r []] := by
        rw [List.take_add_one, q1]
        rfl
      unfold hasN
      rw [List.any_append, ht, List.any_append]
      have c1 : ∀ a b : ByteArray, ([[(AVal.sc (Value.string a))], [(AVal.sc (Value.string b))]] : List (List AVal)).any (fun q => seq (cS q 0) s) = (seq a s || seq b s) := fun a b => by
        show (seq a s || (seq b s || false)) = _
        rw [Bool.or_false]
      rw [c1]
      have c2 : ([techs.getD r []] : List (List AVal)).any (fun q => seq (cS q 0) s) = seq (cS (techs.getD r []) 0) s := by
        show (seq (cS (techs.getD r []) 0) s || false) = _
        rw [Bool.or_false]
      rw [c2]
      cases hb : seq (cS (techs.getD (r / 2) []) 0) s with
      | false => cases (R.any fun r => seq (cS r 0) s) <;> cases seq (cS (techs.getD r []) 0) s <;> cases ((techs.take r).any fun q => seq (cS q 0) s) <;> rfl
      | true =>
        rcases hin hb with h | h <;> rw [h] <;> cases (R.any fun r => seq (cS r 0) s) <;> (try cases seq (cS (techs.getD r []) 0) s) <;> (try cases ((techs.take r).any fun q => seq (cS q 0) s)) <;> rfl
theorem pure_UpgradeOrder (u : ByteArray) (st : Int) (h1 : TyUnits us) (h2 : TyWeapons ws) (h3 : TyTechs ts) (h4 : TyNames techs) (h5 : u.size ≤ reachBytes) (h6 : wf .i64 st) : F_skirmishlaw22_UpgradeOrder us ws ts techs u st = some true := by
  obtain ⟨b1, e1, l1⟩ := huge10 h1 h2 h3
  obtain ⟨o1, o2⟩ := okNames h4
  obtain ⟨b2, e2, l2⟩ := huge_l techs o1 o2
  simp only [F_skirmishlaw22_UpgradeOrder, e1, e2, Option.bind_some, awake22]
  cases b1 with
  | true => rfl
  | false =>
    cases b2 with
    | true => rfl
    | false =>
      have l1 := l1 rfl
      have l2 := l2 rfl
      have hm : maxLen = 9223372036854775807 := by decide
      obtain ⟨R', f1, f2, f3, f4⟩ := order_G techs o1 (by omega) FU techs.length [] (by omega) (by unfold FU; omega) (fun q hq => by cases hq) (by simp)
      have w : wr ((techs.length : Int) - 1) = (techs.length : Int) - 1 := wr_in (by omega) (by omega)
      have same : ∀ s, hasN R' s = hasN techs s := fun s => by
        rw [f4, List.take_length]
        rfl
      simp only [cond_false, Int.ofNat_eq_natCast, w, f1, Option.bind_some, stat_g us ws ts R' u st (okTechs h3) (by omega) f2 (by omega), stat_g us ws ts techs u st (okTechs h3) (by omega) o1 o2, sumN_congr ts same, beq_self_eq_true, cond_true]
end
end Go.Proofs.Ytiplnalnahmdgaa.AI
