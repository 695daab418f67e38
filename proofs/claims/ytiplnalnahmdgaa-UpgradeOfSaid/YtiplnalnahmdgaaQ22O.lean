/- Chapter 22: 'Validate' of chapter 09 always answers; where it answers 0 the numbers are in their ranges. -/
import Derived.Test.YtiplnalnahmdgaaQ22N
namespace Go.Proofs.Ytiplnalnahmdgaa.AI
open Go.RowKit
set_option linter.unusedVariables false
set_option linter.unusedSimpArgs false

/-! ### Numbers -/
theorem within_v (n lo hi : Int) : F_skirmishref09_within n lo hi = some (decide (n ≥ lo) && decide (n ≤ hi)) := by
  simp only [F_skirmishref09_within]
  cases decide (n ≥ lo) <;> rfl
theorem stat_v (n : Int) : F_skirmishref09_stat n = some (decide (n ≥ 0) && decide (n ≤ 100000)) := by
  simp only [F_skirmishref09_stat, within_v, Option.bind_some]
theorem in_of {n lo hi : Int} (h : (decide (n ≥ lo) && decide (n ≤ hi)) = true) : lo ≤ n ∧ n ≤ hi := by
  simp only [Bool.and_eq_true, decide_eq_true_eq] at h
  omega
theorem shaped_v (a : ByteArray) (b c : Bool) (d e f g h i j k l : Int) (w : ByteArray) (o p q : Int) (x y z : List (List AVal)) :
    ∃ t, F_skirmishref09_shaped a b c d e f g h i j k l w o p q x y z = some t ∧ (t = true → (0 ≤ i ∧ i ≤ 16) ∧ (1 ≤ j ∧ j ≤ 100000) ∧ (0 ≤ k ∧ k ≤ 100000) ∧ (0 ≤ h ∧ h ≤ 256)) := by
  simp only [F_skirmishref09_shaped, within_v, stat_v, Option.bind_some]
  cases h1 : (decide (i ≥ 0) && decide (i ≤ 16)) with
  | false => exact ⟨false, rfl, fun h => by cases h⟩
  | true =>
  cases h2 : (decide (j ≥ 1) && decide (j ≤ 100000)) with
  | false => exact ⟨false, rfl, fun h => by cases h⟩
  | true =>
  cases h3 : (decide (k ≥ 0) && decide (k ≤ 100000)) with
  | false => exact ⟨false, rfl, fun h => by cases h⟩
  | true =>
  have i1 := in_of h1
  have i2 := in_of h2
  have i3 := in_of h3
  simp only [Bool.not_true, cond_false]
  cases (decide (o ≥ 0) && decide (o ≤ 100000)) with
  | false => exact ⟨false, rfl, fun h => by cases h⟩
  | true =>
  cases (decide (p ≥ 0) && decide (p ≤ 100000)) with
  | false => exact ⟨false, rfl, fun h => by cases h⟩
  | true =>
  cases (decide (q ≥ 0) && decide (q ≤ 100000)) with
  | false => exact ⟨false, rfl, fun h => by cases h⟩
  | true =>
  simp only [Bool.not_true, cond_false]
  cases b with
  | true =>
    simp only [cond_true]
    cases h4 : (h == 0) with
    | false =>
      cases (d == 0) <;> cases (decide (e ≥ 1) && decide (e ≤ 4)) <;> cases (decide (f ≥ 1) && decide (f ≤ 4)) <;> cases (g == 0) <;> exact ⟨false, rfl, fun h => by cases h⟩
    | true =>
      have i4 : h = 0 := by simpa using h4
      cases (d == 0) <;> cases (decide (e ≥ 1) && decide (e ≤ 4)) <;> cases (decide (f ≥ 1) && decide (f ≤ 4)) <;> cases (g == 0) <;> exact ⟨_, rfl, fun _ => ⟨i1, i2, i3, by omega⟩⟩
  | false =>
    simp only [cond_false]
    cases h4 : (decide (h ≥ 0) && decide (h ≤ 256)) with
    | false =>
      cases (decide (d ≥ 1) && decide (d ≤ 3)) <;> cases (e == 0) <;> cases (f == 0) <;> cases (decide (g ≥ 16) && decide (g ≤ 128)) <;> exact ⟨false, rfl, fun h => by cases h⟩
    | true =>
      have i4 := in_of h4
      cases (decide (d ≥ 1) && decide (d ≤ 3)) <;> cases (e == 0) <;> cases (f == 0) <;> cases (decide (g ≥ 16) && decide (g ≤ 128)) <;> cases (decide (l ≥ 0) && decide (l ≤ 100000)) <;> exact ⟨_, rfl, fun _ => ⟨i1, i2, i3, i4⟩⟩
def goodU (r : List AVal) : Prop := (0 ≤ cI r 8 ∧ cI r 8 ≤ 16) ∧ (1 ≤ cI r 9 ∧ cI r 9 ≤ 100000) ∧ (0 ≤ cI r 10 ∧ cI r 10 ≤ 100000) ∧ (0 ≤ cI r 7 ∧ cI r 7 ≤ 256)
def goodW (r : List AVal) : Prop := (0 ≤ cI r 1 ∧ cI r 1 ≤ 8192) ∧ (0 ≤ cI r 2 ∧ cI r 2 ≤ 100000)
noncomputable def shp (r : List AVal) : Option Bool := F_skirmishref09_shaped (cS r 0) (cB r 1) (cB r 2) (cI r 3) (cI r 4) (cI r 5) (cI r 6) (cI r 7) (cI r 8) (cI r 9) (cI r 10) (cI r 11) (cS r 12) (cI r 13) (cI r 14) (cI r 15) (cR r 16) (cR r 17) (cR r 18)
theorem numbers_s (us ws ts : List (List AVal)) (h1 : TyUnits us) (h2 : TyWeapons ws) (h3 : TyTechs ts) (n1 : us.length ≤ 100) (n2 : ws.length ≤ 100) (n3 : ts.length ≤ 100) :
    ∃ b, F_skirmishref09_numbers us ws ts = some b ∧ (b = true → (∀ k, k < us.length → goodU (us.getD k [])) ∧ ∀ k, k < ws.length → goodW (ws.getD k [])) := by
  have hm : maxLen = 9223372036854775807 := by decide
  obtain ⟨b0, e0, l0⟩ := and_loop (fun m ok i => G_skirmishref09_numbers_0 us m ok i) us.length (by omega) (fun k => (shp (us.getD k [])).getD false)
    (fun m k ok hk => by
      obtain ⟨q1, q2, q3⟩ := okR_get (okUnits h1) hk
      have d1 : (k : Int) < us.length := by omega
      have d2 : (0 : Int) ≤ k := by omega
      have hv : ∃ t, shp (us.getD k []) = some t := by
        obtain ⟨t, ht, _⟩ := shaped_v (cS (us.getD k []) 0) (cB (us.getD k []) 1) (cB (us.getD k []) 2) (cI (us.getD k []) 3) (cI (us.getD k []) 4) (cI (us.getD k []) 5) (cI (us.getD k []) 6) (cI (us.getD k []) 7) (cI (us.getD k []) 8) (cI (us.getD k []) 9) (cI (us.getD k []) 10) (cI (us.getD k []) 11) (cS (us.getD k []) 12) (cI (us.getD k []) 13) (cI (us.getD k []) 14) (cI (us.getD k []) 15) (cR (us.getD k []) 16) (cR (us.getD k []) 17) (cR (us.getD k []) 18)
        exact ⟨t, ht⟩
      obtain ⟨t, ht⟩ := hv
      have ht' := ht
      unfold shp at ht'
      simp only [G_skirmishref09_numbers_0, Int.ofNat_eq_natCast, d1, d2, decide_true, cond_true, Int.toNat_natCast, q1, q2, Option.bind_some, wr_next hk (by omega), roRows, ht, ht', Option.getD_some]
      cases ok <;> rfl)
    (fun m ok => by
      have d1 : ¬ (us.length : Int) < us.length := by omega
      simp only [G_skirmishref09_numbers_0, Int.ofNat_eq_natCast, d1, decide_false, cond_false]) true
  obtain ⟨b1, e1, l1⟩ := and_loop (fun m ok i => G_skirmishref09_numbers_1 ws m ok i) ws.length (by omega) (fun k => let r := ws.getD k []; (decide (cI r 1 ≥ 0) && decide (cI r 1 ≤ 8192)) && ((decide (cI r 2 ≥ 0) && decide (cI r 2 ≤ 100000)) && ((decide (cI r 3 ≥ 0) && decide (cI r 3 ≤ 100000)) && ((decide (cI r 4 ≥ 0) && decide (cI r 4 ≤ 512)) && (decide (cI r 5 ≥ 0) && decide (cI r 5 ≤ 1024))))))
    (fun m k ok hk => by
      obtain ⟨q1, q2, q3⟩ := okR_get (okWeapons h2) hk
      have d1 : (k : Int) < ws.length := by omega
      have d2 : (0 : Int) ≤ k := by omega
      simp only [G_skirmishref09_numbers_1, Int.ofNat_eq_natCast, d1, d2, decide_true, cond_true, Int.toNat_natCast, q1, q2, Option.bind_some, wr_next hk (by omega), within_v, stat_v]
      generalize (decide (cI (ws.getD k []) 1 ≥ 0) && decide (cI (ws.getD k []) 1 ≤ 8192)) = c1
      generalize (decide (cI (ws.getD k []) 2 ≥ 0) && decide (cI (ws.getD k []) 2 ≤ 100000)) = c2
      generalize (decide (cI (ws.getD k []) 3 ≥ 0) && decide (cI (ws.getD k []) 3 ≤ 100000)) = c3
      generalize (decide (cI (ws.getD k []) 4 ≥ 0) && decide (cI (ws.getD k []) 4 ≤ 512)) = c4
      generalize (decide (cI (ws.getD k []) 5 ≥ 0) && decide (cI (ws.getD k []) 5 ≤ 1024)) = c5
      cases ok <;> cases c1 <;> cases c2 <;> cases c3 <;> cases c4 <;> rfl)
    (fun m ok => by
      have d1 : ¬ (ws.length : Int) < ws.length := by omega
      simp only [G_skirmishref09_numbers_1, Int.ofNat_eq_natCast, d1, decide_false, cond_false]) b0
  obtain ⟨b2, e2, l2⟩ := and_loop (fun m ok i => G_skirmishref09_numbers_2 ts m ok i) ts.length (by omega) (fun k => let r := ts.getD k []; (decide (cI r 2 ≥ 0) && decide (cI r 2 ≤ 100000)) && ((decide (cI r 3 ≥ 0) && decide (cI r 3 ≤ 100000)) && ((decide (cI r 4 ≥ 0) && decide (cI r 4 ≤ 100000)) && ((decide (cI r 7 ≥ 0) && decide (cI r 7 ≤ 100000)) && (decide (cI r 6 ≥ 1) && decide (cI r 6 ≤ 6))))))
    (fun m k ok hk => by
      obtain ⟨q1, q2, q3⟩ := okR_get (okTechs h3) hk
      have d1 : (k : Int) < ts.length := by omega
      have d2 : (0 : Int) ≤ k := by omega
      simp only [G_skirmishref09_numbers_2, Int.ofNat_eq_natCast, d1, d2, decide_true, cond_true, Int.toNat_natCast, q1, q2, Option.bind_some, wr_next hk (by omega), within_v, stat_v]
      generalize (decide (cI (ts.getD k []) 2 ≥ 0) && decide (cI (ts.getD k []) 2 ≤ 100000)) = c1
      generalize (decide (cI (ts.getD k []) 3 ≥ 0) && decide (cI (ts.getD k []) 3 ≤ 100000)) = c2
      generalize (decide (cI (ts.getD k []) 4 ≥ 0) && decide (cI (ts.getD k []) 4 ≤ 100000)) = c3
      generalize (decide (cI (ts.getD k []) 7 ≥ 0) && decide (cI (ts.getD k []) 7 ≤ 100000)) = c4
      generalize (decide (cI (ts.getD k []) 6 ≥ 1) && decide (cI (ts.getD k []) 6 ≤ 6)) = c5
      cases ok <;> cases c1 <;> cases c2 <;> cases c3 <;> cases c4 <;> rfl)
    (fun m ok => by
      have d1 : ¬ (ts.length : Int) < ts.length := by omega
      simp only [G_skirmishref09_numbers_2, Int.ofNat_eq_natCast, d1, decide_false, cond_false]) b1
  have e0' : G_skirmishref09_numbers_0 us FU true 0 = some b0 := e0
  have e1' : G_skirmishref09_numbers_1 ws FU b0 0 = some b1 := e1
  have e2' : G_skirmishref09_numbers_2 ts FU b1 0 = some b2 := e2
  refine ⟨b2, by simp only [F_skirmishref09_numbers, e0', e1', e2', Option.bind_some], fun h => ?_⟩
  obtain ⟨p1, _⟩ := l2 h
  obtain ⟨p2, p3⟩ := l1 p1
  obtain ⟨_, p4⟩ := l0 p2
  refine ⟨fun k hk => ?_, fun k hk => ?_⟩
  · have h4 := p4 k hk
    obtain ⟨t, ht, hg⟩ := shaped_v (cS (us.getD k []) 0) (cB (us.getD k []) 1) (cB (us.getD k []) 2) (cI (us.getD k []) 3) (cI (us.getD k []) 4) (cI (us.getD k []) 5) (cI (us.getD k []) 6) (cI (us.getD k []) 7) (cI (us.getD k []) 8) (cI (us.getD k []) 9) (cI (us.getD k []) 10) (cI (us.getD k []) 11) (cS (us.getD k []) 12) (cI (us.getD k []) 13) (cI (us.getD k []) 14) (cI (us.getD k []) 15) (cR (us.getD k []) 16) (cR (us.getD k []) 17) (cR (us.getD k []) 18)
    have ht' : shp (us.getD k []) = some t := ht
    rw [ht'] at h4
    exact hg h4
  · have h4 := p3 k hk
    simp only [Bool.and_eq_true, decide_eq_true_eq] at h4
    unfold goodW
    omega

/-! ### Names found, types -/
theorem found_s (us ws ts : List (List AVal)) (h1 : TyUnits us) (h2 : TyWeapons ws) (h3 : TyTechs ts) (n1 : us.length ≤ 100) (n2 : ws.length ≤ 100) (n3 : ts.length ≤ 100) :
    ∃ b, F_skirmishref09_found us ws ts = some b := by
  have hm : maxLen = 9223372036854775807 := by decide
  have l1 : (namesOf us).length = us.length := by simp [namesOf]
  have l2 : (namesOf ws).length = ws.length := by simp [namesOf]
  have l3 : (namesOf ts).length = ts.length := by simp [namesOf]
  have l4 : (namesOf us ++ namesOf ts).length = us.length + ts.length := by rw [List.length_append, l1, l3]
  have ok4 := okR_app (okR_names us) (okR_names ts)
  have al (l inn : List (List AVal)) (h : TyNames l) (h' : okR [.str] inn) (hn : inn.length ≤ maxLen) : F_skirmishref09_all l inn = some ((F_skirmishref09_all l inn).getD false) := by
    obtain ⟨o1, o2⟩ := okNames h
    obtain ⟨b, e⟩ := all_s _ _ o1 h' o2 hn
    rw [e]; rfl
  obtain ⟨t3, e3⟩ := some_loop (fun m i => G_skirmishref09_found_0 (namesOf us) (namesOf ws) (namesOf ts) (namesOf us ++ namesOf ts) us m i) us.length (by omega)
    (fun k hk => by
      obtain ⟨q1, q2, q3⟩ := okR_get (okUnits h1) hk
      have d1 : (k : Int) < us.length := by omega
      have d2 : (0 : Int) ≤ k := by omega
      have hr := unit_row (r := us) h1 q3
      have a1 := al _ _ (tyL_sl hr (j := 16) rfl) ok4 (by omega)
      have a2 := al _ _ (tyL_sl hr (j := 17) rfl) (okR_names us) (by omega)
      have a3 := al _ _ (tyL_sl hr (j := 18) rfl) (okR_names ts) (by omega)
      generalize (F_skirmishref09_all (cR (us.getD k []) 16) (namesOf us ++ namesOf ts)).getD false = c1 at *
      generalize (F_skirmishref09_all (cR (us.getD k []) 17) (namesOf us)).getD false = c2 at *
      generalize (F_skirmishref09_all (cR (us.getD k []) 18) (namesOf ts)).getD false = c3 at *
      simp only [G_skirmishref09_found_0, Int.ofNat_eq_natCast, d1, d2, decide_true, cond_true, Int.toNat_natCast, q1, q2, Option.bind_some, wr_next hk (by omega), roRows, a1, a2, a3, has_9 (namesOf ws) _ (okR_names ws) (by omega)]
      generalize hasN (namesOf ws) (cS (us.getD k []) 12) = c4
      generalize List.beq (ByteArray.toList (cS (us.getD k []) 12)) (ByteArray.toList (ByteArray.mk (Array.mk []))) = c5
      cases c5 <;> cases c4 <;> cases c1 <;> cases c2 <;> cases c3 <;> first | exact .inl fun m => rfl | exact .inr ⟨_, fun m => rfl⟩)
    ⟨false, fun m => by
      have d1 : ¬ (us.length : Int) < us.length := by omega
      simp only [G_skirmishref09_found_0, Int.ofNat_eq_natCast, d1, decide_false, cond_false]⟩
  obtain ⟨t4, e4⟩ := some_loop (fun m i => G_skirmishref09_found_1 (namesOf us) (namesOf us ++ namesOf ts) ts m i) ts.length (by omega)
    (fun k hk => by
      obtain ⟨q1, q2, q3⟩ := okR_get (okTechs h3) hk
      have d1 : (k : Int) < ts.length := by omega
      have d2 : (0 : Int) ≤ k := by omega
      have hr := tech_row h3 q3
      have a1 := al _ _ (tyL_sl hr (j := 1) rfl) ok4 (by omega)
      generalize (F_skirmishref09_all (cR (ts.getD k []) 1) (namesOf us ++ namesOf ts)).getD false = c1 at *
      simp only [G_skirmishref09_found_1, Int.ofNat_eq_natCast, d1, d2, decide_true, cond_true, Int.toNat_natCast, q1, q2, Option.bind_some, wr_next hk (by omega), roRows, a1, has_9 (namesOf us) _ (okR_names us) (by omega)]
      generalize hasN (namesOf us) (cS (ts.getD k []) 5) = c4
      cases c4 <;> cases c1 <;> first | exact .inl fun m => rfl | exact .inr ⟨_, fun m => rfl⟩)
    ⟨false, fun m => by
      have d1 : ¬ (ts.length : Int) < ts.length := by omega
      simp only [G_skirmishref09_found_1, Int.ofNat_eq_natCast, d1, decide_false, cond_false]⟩
  have e3' : G_skirmishref09_found_0 (namesOf us) (namesOf ws) (namesOf ts) (namesOf us ++ namesOf ts) us FU 0 = some t3 := e3
  have e4' : G_skirmishref09_found_1 (namesOf us) (namesOf us ++ namesOf ts) ts FU 0 = some t4 := e4
  have r1 : roomOk (0 + (namesOf us).length) 16 = true := room16 (by omega)
  have r2 : roomOk ((namesOf us).length + (namesOf ts).length) 16 = true := room16 (by omega)
  simp only [F_skirmishref09_found, units_n us ws ts h1 (by omega), weapons_n us ws ts h2 (by omega), techs_n us ws ts h3 (by omega), Option.bind_some, r1, r2, cond_true, e3', e4']
  cases t3 <;> cases t4 <;> exact ⟨_, rfl⟩
theorem needed_s (us ws ts l : List (List AVal)) (h1 : TyUnits us) (h : TyNames l) : ∃ b, F_skirmishref09_needed us ws ts l = some b := by
  have hm : maxLen = 9223372036854775807 := by decide
  obtain ⟨o1, o2⟩ := okNames h
  obtain ⟨t, ht⟩ := some_loop (fun m i => G_skirmishref09_needed_0 l us ws ts m i) l.length o2
    (fun k hk => by
      obtain ⟨q1, q2, q3⟩ := okR_get o1 hk
      have d1 : (k : Int) < l.length := by omega
      have d2 : (0 : Int) ≤ k := by omega
      simp only [G_skirmishref09_needed_0, Int.ofNat_eq_natCast, d1, d2, decide_true, cond_true, Int.toNat_natCast, q1, q2, Option.bind_some, wr_next hk (by omega), unit_r us ws ts _ h1]
      cases (uV us (cS (l.getD k []) 0)).2.2.2.2.2.2.2.2.2.2.2.2.2.2.2.2.2.2.2 <;> cases (uV us (cS (l.getD k []) 0)).2.1 <;> first | exact .inl fun m => rfl | exact .inr ⟨_, fun m => rfl⟩)
    ⟨false, fun m => by
      have d1 : ¬ (l.length : Int) < l.length := by omega
      simp only [G_skirmishref09_needed_0, Int.ofNat_eq_natCast, d1, decide_false, cond_false]⟩
  have ht' : G_skirmishref09_needed_0 l us ws ts FU 0 = some t := ht
  simp only [F_skirmishref09_needed, ht', Option.bind_some]
  cases t <;> exact ⟨_, rfl⟩
theorem trains_s (us ws ts l : List (List AVal)) (b : Bool) (h1 : TyUnits us) (h : TyNames l) : ∃ t, G_skirmishref09_typed_1 us ws ts b l FU 0 = some t := by
  have hm : maxLen = 9223372036854775807 := by decide
  obtain ⟨o1, o2⟩ := okNames h
  exact some_loop (fun m i => G_skirmishref09_typed_1 us ws ts b l m i) l.length o2
    (fun k hk => by
      obtain ⟨q1, q2, q3⟩ := okR_get o1 hk
      have d1 : (k : Int) < l.length := by omega
      have d2 : (0 : Int) ≤ k := by omega
      simp only [G_skirmishref09_typed_1, Int.ofNat_eq_natCast, d1, d2, decide_true, cond_true, Int.toNat_natCast, q1, q2, Option.bind_some, wr_next hk (by omega), unit_r us ws ts _ h1]
      cases ((uV us (cS (l.getD k []) 0)).2.1 == b) <;> first | exact .inl fun m => rfl | exact .inr ⟨_, fun m => rfl⟩)
    ⟨false, fun m => by
      have d1 : ¬ (l.length : Int) < l.length := by omega
      simp only [G_skirmishref09_typed_1, Int.ofNat_eq_natCast, d1, decide_false, cond_false]⟩
theorem typed_s (us ws ts : List (List AVal)) (h1 : TyUnits us) (h2 : TyWeapons ws) (h3 : TyTechs ts) (n1 : us.length ≤ 100) (n3 : ts.length ≤ 100) :
    ∃ b, F_skirmishref09_typed us ws ts = some b := by
  have hm : maxLen = 9223372036854775807 := by decide
  have a (l : List (List AVal)) (h : TyNames l) : F_skirmishref09_needed us ws ts l = some ((F_skirmishref09_needed us ws ts l).getD false) := by
    obtain ⟨b, e⟩ := needed_s us ws ts l h1 h
    rw [e]; rfl
  have tr (l : List (List AVal)) (b : Bool) (h : TyNames l) : G_skirmishref09_typed_1 us ws ts b l FU 0 = some ((G_skirmishref09_typed_1 us ws ts b l FU 0).getD false) := by
    obtain ⟨b, e⟩ := trains_s us ws ts l b h1 h
    rw [e]; rfl
  obtain ⟨t1, e1⟩ := some_loop (fun m i => G_skirmishref09_typed_0 us ws ts m i) us.length (by omega)
    (fun k hk => by
      obtain ⟨q1, q2, q3⟩ := okR_get (okUnits h1) hk
      have d1 : (k : Int) < us.length := by omega
      have d2 : (0 : Int) ≤ k := by omega
      have hr := unit_row (r := us) h1 q3
      have a1 := a _ (tyL_sl hr (j := 16) rfl)
      have a2 := tr _ (cB (us.getD k []) 1) (tyL_sl hr (j := 17) rfl)
      have a3 := a2
      have a4 := a2
      generalize (F_skirmishref09_needed us ws ts (cR (us.getD k []) 16)).getD false = c1 at *
      cases hb : cB (us.getD k []) 1 with
      | true =>
        rw [hb] at a2
        generalize (G_skirmishref09_typed_1 us ws ts true (cR (us.getD k []) 17) FU 0).getD false = c2 at *
        simp only [G_skirmishref09_typed_0, Int.ofNat_eq_natCast, d1, d2, decide_true, cond_true, Int.toNat_natCast, q1, q2, Option.bind_some, wr_next hk (by omega), roRows, a1, a2, hb]
        cases c1 <;> cases c2 <;> cases decide (((cR (us.getD k []) 18).length : Int) > 0) <;> first | exact .inl fun m => rfl | exact .inr ⟨_, fun m => rfl⟩
      | false =>
        rw [hb] at a2
        generalize (G_skirmishref09_typed_1 us ws ts false (cR (us.getD k []) 17) FU 0).getD false = c2 at *
        simp only [G_skirmishref09_typed_0, Int.ofNat_eq_natCast, d1, d2, decide_true, cond_true, Int.toNat_natCast, q1, q2, Option.bind_some, wr_next hk (by omega), roRows, a1, a2, hb]
        cases c1 <;> cases c2 <;> cases decide (((cR (us.getD k []) 18).length : Int) > 0) <;> first | exact .inl fun m => rfl | exact .inr ⟨_, fun m => rfl⟩)
    ⟨false, fun m => by
      have d1 : ¬ (us.length : Int) < us.length := by omega
      simp only [G_skirmishref09_typed_0, Int.ofNat_eq_natCast, d1, decide_false, cond_false]⟩
  obtain ⟨t2, e2⟩ := some_loop (fun m i => G_skirmishref09_typed_2 us ws ts m i) ts.length (by omega)
    (fun k hk => by
      obtain ⟨q1, q2, q3⟩ := okR_get (okTechs h3) hk
      have d1 : (k : Int) < ts.length := by omega
      have d2 : (0 : Int) ≤ k := by omega
      have hr := tech_row h3 q3
      have a1 := a _ (tyL_sl hr (j := 1) rfl)
      generalize (F_skirmishref09_needed us ws ts (cR (ts.getD k []) 1)).getD false = c1 at *
      simp only [G_skirmishref09_typed_2, Int.ofNat_eq_natCast, d1, d2, decide_true, cond_true, Int.toNat_natCast, q1, q2, Option.bind_some, wr_next hk (by omega), roRows, a1]
      cases c1 <;> first | exact .inl fun m => rfl | exact .inr ⟨_, fun m => rfl⟩)
    ⟨false, fun m => by
      have d1 : ¬ (ts.length : Int) < ts.length := by omega
      simp only [G_skirmishref09_typed_2, Int.ofNat_eq_natCast, d1, decide_false, cond_false]⟩
  have e1' : G_skirmishref09_typed_0 us ws ts FU 0 = some t1 := e1
  have e2' : G_skirmishref09_typed_2 us ws ts FU 0 = some t2 := e2
  simp only [F_skirmishref09_typed, e1', e2', Option.bind_some]
  cases t1 <;> cases t2 <;> exact ⟨_, rfl⟩

/-! ### The sequence -/
theorem tech_s (us ws ts : List (List AVal)) (n : ByteArray) (h3 : TyTechs ts) : ∃ t, F_skirmishref09_Tech us ws ts n = some t ∧ TyNames t.2.1 := by
  have hm : maxLen = 9223372036854775807 := by decide
  have key := find_loop (fun m i => G_skirmishref09_Tech_0 n ts m i) ts (fun r => seq (cS r 0) n) (fun k => let r := ts.getD k []; (true, cS r 0, cR r 1, cI r 2, cI r 3, cI r 4, cS r 5, cI r 6, cI r 7)) (false, ⟨#[]⟩, [], 0, 0, 0, ⟨#[]⟩, 0, 0) (ty_rows h3).1
    (fun m k hk => by
      obtain ⟨q1, q2, _⟩ := okR_get (okTechs h3) hk
      have hl := (ty_rows h3).1
      have d1 : (k : Int) < ts.length := by omega
      have d2 : (0 : Int) ≤ k := by omega
      simp only [G_skirmishref09_Tech_0, Int.ofNat_eq_natCast, d1, d2, decide_true, cond_true, Int.toNat_natCast, q1, q2, Option.bind_some, wr_next hk (by omega)]
      rfl)
    (fun m => by
      have d1 : ¬ (ts.length : Int) < ts.length := by omega
      simp only [G_skirmishref09_Tech_0, Int.ofNat_eq_natCast, d1, decide_false, cond_false])
  have key' : G_skirmishref09_Tech_0 n ts FU 0 = _ := key
  simp only [F_skirmishref09_Tech, key', Option.bind_some]
  unfold fdV
  cases hf : ts.findIdx? (fun r => seq (cS r 0) n) with
  | none => exact ⟨_, rfl, names_nil⟩
  | some k =>
    obtain ⟨_, _, q3⟩ := okR_get (okTechs h3) (fd_lt hf).1
    exact ⟨_, rfl, tyL_sl (tech_row h3 q3) (j := 1) rfl⟩
theorem uV_names (us : List (List AVal)) (n : ByteArray) (h1 : TyUnits us) : TyNames (uV us n).2.2.2.2.2.2.2.2.2.2.2.2.2.2.2.2.1 ∧ TyNames (uV us n).2.2.2.2.2.2.2.2.2.2.2.2.2.2.2.2.2.1 ∧ TyNames (uV us n).2.2.2.2.2.2.2.2.2.2.2.2.2.2.2.2.2.2.1 := by
  unfold uV fdV
  cases hf : us.findIdx? (fun r => seq (cS r 0) n) with
  | none => exact ⟨names_nil, names_nil, names_nil⟩
  | some k =>
    obtain ⟨_, _, q3⟩ := okR_get (okUnits h1) (fd_lt hf).1
    have hr := unit_row (r := us) h1 q3
    exact ⟨tyL_sl hr (j := 16) rfl, tyL_sl hr (j := 17) rfl, tyL_sl hr (j := 18) rfl⟩
theorem needs_s (us ws ts : List (List AVal)) (n : ByteArray) (h1 : TyUnits us) (h3 : TyTechs ts) : ∃ t, F_skirmishref09_Needs us ws ts n = some t ∧ TyNames t := by
  obtain ⟨t, ht, hn⟩ := tech_s us ws ts n h3
  have hu := (uV_names us n h1).1
  simp only [F_skirmishref09_Needs, unit_r us ws ts n h1, ht, Option.bind_some]
  cases (uV us n).2.2.2.2.2.2.2.2.2.2.2.2.2.2.2.2.2.2.2 with
  | true => exact ⟨_, rfl, hu⟩
  | false => exact ⟨_, rfl, hn⟩
/-- What one round picks: nothing, or a name that is not yet there. -/
theorem pick_s (us ws ts R1 R2 : List (List AVal)) (h1 : TyUnits us) (h3 : TyTechs ts) (o1 : okR [.str] R1) (o2 : okR [.str] R2) (n1 : R1.length ≤ maxLen) (n2 : R2.length ≤ maxLen) :
    ∃ t, G_skirmishref09_sequence_1 R1 R2 us ws ts FU ⟨#[]⟩ 0 = some t ∧ (seq t ⟨#[]⟩ = true ∨ ∃ k, k < R1.length ∧ t = cS (R1.getD k []) 0 ∧ hasN R2 t = false) := by
  have hm : maxLen = 9223372036854775807 := by decide
  let P : ByteArray → Prop := fun t => seq t ⟨#[]⟩ = true ∨ ∃ k, k < R1.length ∧ t = cS (R1.getD k []) 0 ∧ hasN R2 t = false
  have step : ∀ k s, k < R1.length → P s → ∃ s', P s' ∧ ∀ m, G_skirmishref09_sequence_1 R1 R2 us ws ts (m + 1) s (k : Int) = G_skirmishref09_sequence_1 R1 R2 us ws ts m s' ((k + 1 : Nat) : Int) := fun k s hk hs => by
    obtain ⟨q1, q2, q3⟩ := okR_get o1 hk
    have d1 : (k : Int) < R1.length := by omega
    have d2 : (0 : Int) ≤ k := by omega
    obtain ⟨nd, e1, t1⟩ := needs_s us ws ts (cS (R1.getD k []) 0) h1 h3
    obtain ⟨p1, p2⟩ := okNames t1
    obtain ⟨al, e2⟩ := all_s nd R2 p1 o2 p2 n2
    simp only [G_skirmishref09_sequence_1, Int.ofNat_eq_natCast, d1, d2, decide_true, Bool.and_true, cond_true, Int.toNat_natCast, q1, q2, Option.bind_some, wr_next hk (by omega), has_9 R2 _ o2 n2, e1, e2]
    cases hb : hasN R2 (cS (R1.getD k []) 0) with
    | true => exact ⟨s, hs, fun m => rfl⟩
    | false =>
      have hnew : P (cS (R1.getD k []) 0) := .inr ⟨k, hk, rfl, hb⟩
      cases al with
      | false => exact ⟨s, hs, fun m => rfl⟩
      | true =>
        simp only [Bool.not_false, cond_true]
        generalize List.beq (ByteArray.toList s) (ByteArray.toList (ByteArray.mk (Array.mk []))) = c1
        generalize Op.bytesLess (ByteArray.toList (cS (R1.getD k []) 0)) (ByteArray.toList s) = c2
        cases c1 with
        | true => exact ⟨_, hnew, fun m => rfl⟩
        | false =>
          cases c2 with
          | true => exact ⟨_, hnew, fun m => rfl⟩
          | false => exact ⟨s, hs, fun m => rfl⟩
  have loop : ∀ (r m k : Nat) (s : ByteArray), k + r = R1.length → r < m → P s → ∃ t, G_skirmishref09_sequence_1 R1 R2 us ws ts m s (k : Int) = some t ∧ P t := by
    intro r
    induction r with
    | zero =>
      intro m k s e1 e2 hs
      obtain ⟨m, rfl⟩ : ∃ q, m = q + 1 := ⟨m - 1, by omega⟩
      have d1 : ¬ (k : Int) < R1.length := by omega
      exact ⟨s, by simp only [G_skirmishref09_sequence_1, Int.ofNat_eq_natCast, d1, decide_false, cond_false], hs⟩
    | succ r ih =>
      intro m k s e1 e2 hs
      obtain ⟨m, rfl⟩ : ∃ q, m = q + 1 := ⟨m - 1, by omega⟩
      obtain ⟨s', hs', hst⟩ := step k s (by omega) hs
      rw [hst m]
      exact ih m (k + 1) s' (by omega) (by omega) hs'
  exact loop R1.length FU 0 ⟨#[]⟩ (by omega) (by unfold FU; omega) (.inl (seq_rfl _))
/-- How many names are not yet there. -/
def leftN (R1 R2 : List (List AVal)) : Nat := R1.countP fun r => !hasN R2 (cS r 0)
theorem left_lt {R1 R2 : List (List AVal)} {t : ByteArray} {k : Nat} (hk : k < R1.length) (ht : t = cS (R1.getD k []) 0) (hn : hasN R2 t = false) : leftN R1 (R2 ++ [nm t]) < leftN R1 R2 := by
  have hsnoc : ∀ s, hasN (R2 ++ [nm t]) s = (hasN R2 s || seq t s) := hasN_snoc R2 t
  have hle : ∀ l : List (List AVal), leftN l (R2 ++ [nm t]) ≤ leftN l R2 := fun l => by
    unfold leftN
    refine List.countP_mono_left fun r _ h => ?_
    rw [hsnoc] at h
    cases hb : hasN R2 (cS r 0) with
    | true => rw [hb] at h; exact h
    | false => rfl
  have e : R1 = R1.take k ++ R1.getD k [] :: R1.drop (k + 1) := by
    rw [show R1.getD k [] = R1[k] by simp [List.getD, hk], ← List.drop_eq_getElem_cons hk, List.take_append_drop]
  have h1 := hle (R1.take k)
  have h2 := hle (R1.drop (k + 1))
  have cut : ∀ R, leftN R1 R = leftN (R1.take k) R + ((if (!hasN R (cS (R1.getD k []) 0)) = true then 1 else 0) + leftN (R1.drop (k + 1)) R) := fun R => by
    unfold leftN
    conv => lhs; rw [e]
    rw [List.countP_append, List.countP_cons]
    omega
  rw [cut, cut, hsnoc, ← ht, hn, seq_rfl]
  simp
  omega
theorem seq_s (us ws ts R1 : List (List AVal)) (h1 : TyUnits us) (h3 : TyTechs ts) (o1 : okR [.str] R1) (n1 : R1.length ≤ 1000) : ∀ (c m : Nat) (R2 : List (List AVal)), leftN R1 R2 ≤ c → c < m → R2.length + c ≤ 1000 → okR [.str] R2 → ∃ t, G_skirmishref09_sequence_0 R1 us ws ts m R2 = some t
  | c, 0, R2, a1, a2, a3, a4 => by omega
  | c, m + 1, R2, a1, a2, a3, a4 => by
    have hm : maxLen = 9223372036854775807 := by decide
    obtain ⟨t, e, ht⟩ := pick_s us ws ts R1 R2 h1 h3 o1 a4 (by omega) (by omega)
    have e' : G_skirmishref09_sequence_1 R1 R2 us ws ts FU (ByteArray.mk (Array.mk [])) 0 = some t := e
    simp only [G_skirmishref09_sequence_0, e', Option.bind_some]
    show ∃ q, (bif seq t ⟨#[]⟩ then some R2 else _) = some q
    cases hs : seq t ⟨#[]⟩ with
    | true => exact ⟨_, rfl⟩
    | false =>
      rcases ht with ht | ⟨k, hk, ht, hn⟩
      · rw [hs] at ht; cases ht
      have hl := left_lt (R2 := R2) hk ht hn
      have r : roomOk (R2.length + 1) 16 = true := room16 (by omega)
      simp only [cond_false, r, cond_true]
      exact seq_s us ws ts R1 h1 h3 o1 n1 (c - 1) m (R2 ++ [nm t]) (by omega) (by omega) (by rw [List.length_append]; show R2.length + 1 + (c - 1) ≤ 1000; omega) (okR_snoc a4 t)
theorem sequence_s (us ws ts : List (List AVal)) (h1 : TyUnits us) (h2 : TyWeapons ws) (h3 : TyTechs ts) (n1 : us.length ≤ 100) (n3 : ts.length ≤ 100) : ∃ t, F_skirmishref09_sequence us ws ts = some t := by
  have l1 : (namesOf us).length = us.length := by simp [namesOf]
  have l3 : (namesOf ts).length = ts.length := by simp [namesOf]
  have l4 : (namesOf us ++ namesOf ts).length = us.length + ts.length := by rw [List.length_append, l1, l3]
  have r : roomOk ((namesOf us).length + (namesOf ts).length) 16 = true := room16 (by omega)
  have hl : leftN (namesOf us ++ namesOf ts) [] ≤ 200 := by
    have := List.countP_le_length (p := fun r => !hasN [] (cS r 0)) (l := namesOf us ++ namesOf ts)
    unfold leftN
    omega
  obtain ⟨t, ht⟩ := seq_s us ws ts (namesOf us ++ namesOf ts) h1 h3 (okR_app (okR_names us) (okR_names ts)) (by omega) 200 FU [] hl (by unfold FU; omega) (by simp) (fun r hr => by cases hr)
  exact ⟨t, by simp only [F_skirmishref09_sequence, units_n us ws ts h1 (by omega), techs_n us ws ts h3 (by omega), Option.bind_some, r, cond_true, ht]⟩
theorem validate_s (us ws ts : List (List AVal)) (h1 : TyUnits us) (h2 : TyWeapons ws) (h3 : TyTechs ts) (n1 : us.length ≤ 100) (n2 : ws.length ≤ 100) (n3 : ts.length ≤ 100) :
    ∃ v, F_skirmishref09_Validate us ws ts = some v ∧ (v = 0 → (∀ r ∈ ws, 1 ≤ (cS r 0).size) ∧ (∀ k, k < us.length → goodU (us.getD k [])) ∧ ∀ k, k < ws.length → goodW (ws.getD k [])) := by
  have hm : maxLen = 9223372036854775807 := by decide
  have l3 : (namesOf ts).length = ts.length := by simp [namesOf]
  obtain ⟨b1, e1⟩ := limits_s us ws ts h1 h3
  obtain ⟨b2, e2, p2⟩ := named_s us ws ts h1 h2 h3 n1 n2 n3
  obtain ⟨b3, e3⟩ := ordered_s us ws ts h1 h2 h3 n1 n2 n3
  obtain ⟨b4, e4⟩ := dup_s us (namesOf ts) h1 (okR_names ts) (by omega)
  obtain ⟨b5, e5, p5⟩ := numbers_s us ws ts h1 h2 h3 n1 n2 n3
  obtain ⟨b6, e6⟩ := found_s us ws ts h1 h2 h3 n1 n2 n3
  obtain ⟨b7, e7⟩ := typed_s us ws ts h1 h2 h3 n1 n3
  obtain ⟨b8, e8⟩ := sequence_s us ws ts h1 h2 h3 n1 n3
  simp only [F_skirmishref09_Validate, e1, e2, e3, e4, e5, e6, e7, e8, techs_n us ws ts h3 (by omega), Option.bind_some]
  cases b1 with
  | false => exact ⟨2, rfl, fun h => by omega⟩
  | true =>
  cases b2 with
  | false => exact ⟨6, rfl, fun h => by omega⟩
  | true =>
  cases b3 with
  | false => exact ⟨13, rfl, fun h => by omega⟩
  | true =>
  cases b4 with
  | true => exact ⟨7, rfl, fun h => by omega⟩
  | false =>
  cases b5 with
  | false => exact ⟨1, rfl, fun h => by omega⟩
  | true =>
  cases b6 with
  | false => exact ⟨8, rfl, fun h => by omega⟩
  | true =>
  cases b7 with
  | false => exact ⟨18, rfl, fun h => by omega⟩
  | true =>
    have q2 := p2 rfl
    have q5 := p5 rfl
    simp only [Bool.not_true, cond_false]
    generalize decide (Int.ofNat b8.length < wr (Int.ofNat us.length + Int.ofNat ts.length)) = c
    cases c with
    | true => exact ⟨14, rfl, fun h => by omega⟩
    | false => exact ⟨0, rfl, fun _ => ⟨q2, q5⟩⟩
end Go.Proofs.Ytiplnalnahmdgaa.AI
