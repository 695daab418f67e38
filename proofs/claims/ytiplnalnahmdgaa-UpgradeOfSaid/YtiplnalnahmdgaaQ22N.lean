/- Chapter 22: what 'Validate' of chapter 09 answers, as far as the laws need it. -/
import Derived.Test.YtiplnalnahmdgaaQ22M
namespace Go.Proofs.Ytiplnalnahmdgaa.AI
open Go.RowKit
set_option linter.unusedVariables false
set_option linter.unusedSimpArgs false
theorem toList_len (b : ByteArray) : ∀ (n i : Nat) (r : List UInt8), n = b.size - i → (ByteArray.toList.loop b i r).length = r.length + n
  | 0, i, r, h => by
    unfold ByteArray.toList.loop
    rw [if_neg (by omega), List.length_reverse, Nat.add_zero]
  | n + 1, i, r, h => by
    unfold ByteArray.toList.loop
    rw [if_pos (by omega), toList_len b n (i + 1) _ (by omega), List.length_cons]
    omega
theorem seq_size {a b : ByteArray} (h : seq a b = true) : a.size = b.size := by
  have e := congrArg List.length (seq_iff.1 h)
  unfold ByteArray.toList at e
  rw [toList_len a _ 0 [] rfl, toList_len b _ 0 [] rfl] at e
  simpa using e

/-! ### Lists of names -/
def nm (s : ByteArray) : List AVal := [AVal.sc (.string s)]
def namesOf (l : List (List AVal)) : List (List AVal) := l.map fun r => nm (cS r 0)
theorem okR_names (l : List (List AVal)) : okR [.str] (namesOf l) := fun r hr => by
  obtain ⟨s, _, rfl⟩ := List.mem_map.1 hr
  rfl
theorem okR_app {a b : List (List AVal)} (ha : okR [.str] a) (hb : okR [.str] b) : okR [.str] (a ++ b) := fun r hr => by
  rcases List.mem_append.1 hr with hr | hr
  · exact ha r hr
  · exact hb r hr
theorem names_loop (G : Nat → List (List AVal) → Int → Option (List (List AVal))) (l : List (List AVal)) (hn : l.length ≤ 1000)
    (hstep : ∀ m k R, k < l.length → R.length = k → G (m + 1) R (k : Int) = G m (R ++ [nm (cS (l.getD k []) 0)]) ((k + 1 : Nat) : Int))
    (hexit : ∀ m R, G (m + 1) R (l.length : Int) = some R) : G FU [] 0 = some (namesOf l) := by
  have hs : ∀ k, k < l.length → namesOf (l.take (k + 1)) = namesOf (l.take k) ++ [nm (cS (l.getD k []) 0)] := fun k hk => by
    unfold namesOf
    rw [List.take_add_one, List.getElem?_eq_getElem hk, List.map_append]
    simp [List.getD, hk]
  have hl : ∀ k, k ≤ l.length → (namesOf (l.take k)).length = k := fun k hk => by simp [namesOf]; omega
  have key := run_loop (fun m R i => G m R i) (fun k R => .inl (R ++ [nm (cS (l.getD k []) 0)])) id l.length (fun k R => R = namesOf (l.take k))
    (fun m k R hk hi => hstep m k R hk (by rw [hi]; exact hl k (by omega)))
    (fun k s s' hk hi h => by
      simp only [Sum.inl.injEq] at h
      rw [hs k hk, ← h, hi])
    (fun m s _ => hexit m s) l.length FU 0 [] (by omega) (by unfold FU; omega) rfl
  have hv := iter_inv (f := fun k (R : List (List AVal)) => (.inl (R ++ [nm (cS (l.getD k []) 0)]) : List (List AVal) ⊕ List (List AVal))) (e := id) (fun t => t = namesOf l) l.length (fun k R => R = namesOf (l.take k))
    (fun k s s' hk hi h => by
      simp only [Sum.inl.injEq] at h
      rw [hs k hk, ← h, hi])
    (fun k s t hk hi h => by cases h) (fun s h => by rw [h, List.take_length]; rfl) l.length 0 [] (by omega) rfl
  exact key.trans (congrArg some hv)
theorem room16 {n : Nat} (h : n ≤ 100000) : roomOk n 16 = true := by simp [roomOk]; omega
theorem units_n (us ws ts : List (List AVal)) (h : TyUnits us) (hn : us.length ≤ 1000) : F_skirmishref09_Units us ws ts = some (namesOf us) := by
  have key := names_loop (fun m R i => G_skirmishref09_Units_0 us m R i) us hn
    (fun m k R hk hR => by
      obtain ⟨q1, q2, _⟩ := okR_get (okUnits h) hk
      have d1 : (k : Int) < us.length := by omega
      have d2 : (0 : Int) ≤ k := by omega
      simp only [G_skirmishref09_Units_0, Int.ofNat_eq_natCast, d1, d2, decide_true, cond_true, Int.toNat_natCast, q1, q2, Option.bind_some, wr_next hk (by omega), room16 (n := R.length + 1) (by omega)]
      rfl)
    (fun m R => by
      have d1 : ¬ (us.length : Int) < us.length := by omega
      simp only [G_skirmishref09_Units_0, Int.ofNat_eq_natCast, d1, decide_false, cond_false])
  have key' : G_skirmishref09_Units_0 us FU [] 0 = some (namesOf us) := key
  simp only [F_skirmishref09_Units, key', Option.bind_some]
theorem weapons_n (us ws ts : List (List AVal)) (h : TyWeapons ws) (hn : ws.length ≤ 1000) : F_skirmishref09_Weapons us ws ts = some (namesOf ws) := by
  have key := names_loop (fun m R i => G_skirmishref09_Weapons_0 ws m R i) ws hn
    (fun m k R hk hR => by
      obtain ⟨q1, q2, _⟩ := okR_get (okWeapons h) hk
      have d1 : (k : Int) < ws.length := by omega
      have d2 : (0 : Int) ≤ k := by omega
      simp only [G_skirmishref09_Weapons_0, Int.ofNat_eq_natCast, d1, d2, decide_true, cond_true, Int.toNat_natCast, q1, q2, Option.bind_some, wr_next hk (by omega), room16 (n := R.length + 1) (by omega)]
      rfl)
    (fun m R => by
      have d1 : ¬ (ws.length : Int) < ws.length := by omega
      simp only [G_skirmishref09_Weapons_0, Int.ofNat_eq_natCast, d1, decide_false, cond_false])
  have key' : G_skirmishref09_Weapons_0 ws FU [] 0 = some (namesOf ws) := key
  simp only [F_skirmishref09_Weapons, key', Option.bind_some]
theorem techs_n (us ws ts : List (List AVal)) (h : TyTechs ts) (hn : ts.length ≤ 1000) : F_skirmishref09_Techs us ws ts = some (namesOf ts) := by
  have key := names_loop (fun m R i => G_skirmishref09_Techs_0 ts m R i) ts hn
    (fun m k R hk hR => by
      obtain ⟨q1, q2, _⟩ := okR_get (okTechs h) hk
      have d1 : (k : Int) < ts.length := by omega
      have d2 : (0 : Int) ≤ k := by omega
      simp only [G_skirmishref09_Techs_0, Int.ofNat_eq_natCast, d1, d2, decide_true, cond_true, Int.toNat_natCast, q1, q2, Option.bind_some, wr_next hk (by omega), room16 (n := R.length + 1) (by omega)]
      rfl)
    (fun m R => by
      have d1 : ¬ (ts.length : Int) < ts.length := by omega
      simp only [G_skirmishref09_Techs_0, Int.ofNat_eq_natCast, d1, decide_false, cond_false])
  have key' : G_skirmishref09_Techs_0 ts FU [] 0 = some (namesOf ts) := key
  simp only [F_skirmishref09_Techs, key', Option.bind_some]

/-! ### Loops of yes and no -/
/-- A loop without a state that ends, whatever it answers: each step goes on, or answers. -/
theorem some_loop {T : Type} (G : Nat → Int → Option T) (n : Nat) (hn : n ≤ maxLen)
    (hstep : ∀ k, k < n → (∀ m, G (m + 1) (k : Int) = G m ((k + 1 : Nat) : Int)) ∨ ∃ t, ∀ m, G (m + 1) (k : Int) = some t)
    (hexit : ∃ t, ∀ m, G (m + 1) (n : Int) = some t) : ∃ t, G FU 0 = some t := by
  have hm : maxLen = 9223372036854775807 := by decide
  exact loop_some (fun m (_ : Unit) i => G m i) n (fun k _ hk => (hstep k hk).imp (fun h => ⟨(), h⟩) id) (fun _ => hexit) n FU 0 () (by omega) (by unfold FU; omega)
/-- A loop that keeps one answer. -/
theorem and_loop (G : Nat → Bool → Int → Option Bool) (n : Nat) (hn : n ≤ maxLen) (g : Nat → Bool)
    (hstep : ∀ m k ok, k < n → G (m + 1) ok (k : Int) = G m (ok && g k) ((k + 1 : Nat) : Int)) (hexit : ∀ m ok, G (m + 1) ok (n : Int) = some ok) (ok : Bool) :
    ∃ b, G FU ok 0 = some b ∧ (b = true → ok = true ∧ ∀ k, k < n → g k = true) := by
  have hm : maxLen = 9223372036854775807 := by decide
  have key := run_loop (fun m s i => G m s i) (fun k s => .inl (s && g k)) id n (fun _ _ => True) (fun m k s hk _ => hstep m k s hk) (fun _ _ _ _ _ _ => trivial) (fun m s _ => hexit m s) n FU 0 ok (by omega) (by unfold FU; omega) trivial
  have hv := iter_inv (f := fun k (s : Bool) => (.inl (s && g k) : Bool ⊕ Bool)) (e := id) (fun b => b = true → ok = true ∧ ∀ k, k < n → g k = true) n (fun k s => s = true → ok = true ∧ ∀ j, j < k → g j = true)
    (fun k s s' hk hi h => by
      simp only [Sum.inl.injEq] at h
      intro hs
      rw [← h, Bool.and_eq_true] at hs
      refine ⟨(hi hs.1).1, fun j hj => ?_⟩
      by_cases e : j = k
      · rw [e]; exact hs.2
      · exact (hi hs.1).2 j (by omega))
    (fun k s t hk hi h => by cases h) (fun s h => h) n 0 ok (by omega) (fun h => ⟨h, fun j hj => by omega⟩)
  exact ⟨_, key, hv⟩
theorem all_s (l inn : List (List AVal)) (h1 : okR [.str] l) (h2 : okR [.str] inn) (n1 : l.length ≤ maxLen) (n2 : inn.length ≤ maxLen) : ∃ b, F_skirmishref09_all l inn = some b := by
  have hm : maxLen = 9223372036854775807 := by decide
  obtain ⟨t, ht⟩ := some_loop (fun m i => G_skirmishref09_all_0 l inn m i) l.length n1
    (fun k hk => by
      obtain ⟨q1, q2, _⟩ := okR_get h1 hk
      have d1 : (k : Int) < l.length := by omega
      have d2 : (0 : Int) ≤ k := by omega
      cases hb : hasN inn (cS (l.getD k []) 0) with
      | true => exact .inl fun m => by simp only [G_skirmishref09_all_0, Int.ofNat_eq_natCast, d1, d2, decide_true, cond_true, Int.toNat_natCast, q1, q2, Option.bind_some, wr_next hk (by omega), has_9 inn _ h2 n2, hb, Bool.not_true, cond_false]
      | false => exact .inr ⟨_, fun m => by simp only [G_skirmishref09_all_0, Int.ofNat_eq_natCast, d1, d2, decide_true, cond_true, Int.toNat_natCast, q1, q2, Option.bind_some, has_9 inn _ h2 n2, hb, Bool.not_false]; rfl⟩)
    ⟨false, fun m => by
      have d1 : ¬ (l.length : Int) < l.length := by omega
      simp only [G_skirmishref09_all_0, Int.ofNat_eq_natCast, d1, decide_false, cond_false]⟩
  have ht' : G_skirmishref09_all_0 l inn FU 0 = some t := ht
  simp only [F_skirmishref09_all, ht', Option.bind_some]
  cases t <;> exact ⟨_, rfl⟩
theorem asc_s (l : List (List AVal)) (h1 : okR [.str] l) (n1 : l.length ≤ maxLen) : ∃ b, F_skirmishref09_ascending l = some b := by
  have hm : maxLen = 9223372036854775807 := by decide
  have hx : ∃ t, G_skirmishref09_ascending_0 l FU 1 = some t := by
    by_cases h0 : l.length = 0
    · obtain ⟨m, hF⟩ : ∃ m, FU = m + 1 := ⟨FU - 1, by unfold FU; omega⟩
      rw [hF]
      have d1 : ¬ (1 : Int) < l.length := by omega
      exact ⟨false, by simp only [G_skirmishref09_ascending_0, Int.ofNat_eq_natCast, d1, decide_false, cond_false]⟩
    · have key := loop_some (fun m (_ : Unit) i => G_skirmishref09_ascending_0 l m (i + 1)) (l.length - 1)
        (fun k _ hk => by
          obtain ⟨q1, q2, _⟩ := okR_get h1 (k := k) (by omega)
          obtain ⟨p1, p2, _⟩ := okR_get h1 (k := k + 1) (by omega)
          have e1 : (k : Int) + 1 = ((k + 1 : Nat) : Int) := by omega
          have d1 : ((k + 1 : Nat) : Int) < l.length := by omega
          have d2 : (0 : Int) ≤ k := by omega
          have d3 : (0 : Int) ≤ ((k + 1 : Nat) : Int) := by omega
          have w1 : wr (((k + 1 : Nat) : Int) - 1) = k := by rw [wr_in (by omega) (by omega)]; omega
          have w2 : wr (((k + 1 : Nat) : Int) + 1) = ((k + 1 : Nat) : Int) + 1 := wr_in (by omega) (by omega)
          cases hb : Op.bytesLess (ByteArray.toList (cS (l.getD k []) 0)) (ByteArray.toList (cS (l.getD (k + 1) []) 0)) with
          | true => exact .inl ⟨(), fun m => by
              show G_skirmishref09_ascending_0 l (m + 1) ((k : Int) + 1) = G_skirmishref09_ascending_0 l m (((k + 1 : Nat) : Int) + 1)
              rw [e1]
              simp only [G_skirmishref09_ascending_0, Int.ofNat_eq_natCast, w1, w2, d1, d2, d3, decide_true, cond_true, Int.toNat_natCast, q1, q2, p1, p2, Option.bind_some, hb, Bool.not_true, cond_false]⟩
          | false => exact .inr ⟨true, fun m => by
              show G_skirmishref09_ascending_0 l (m + 1) ((k : Int) + 1) = _
              rw [e1]
              simp only [G_skirmishref09_ascending_0, Int.ofNat_eq_natCast, w1, d1, d2, d3, decide_true, cond_true, Int.toNat_natCast, q1, q2, p1, p2, Option.bind_some, hb, Bool.not_false]⟩)
        (fun _ => ⟨false, fun m => by
          show G_skirmishref09_ascending_0 l (m + 1) (((l.length - 1 : Nat) : Int) + 1) = _
          have d1 : ¬ (((l.length - 1 : Nat) : Int) + 1) < l.length := by omega
          simp only [G_skirmishref09_ascending_0, Int.ofNat_eq_natCast, d1, decide_false, cond_false]⟩) (l.length - 1) FU 0 () (by omega) (by unfold FU; omega)
      exact key
  obtain ⟨t, ht⟩ := hx
  simp only [F_skirmishref09_ascending, ht, Option.bind_some]
  cases t <;> exact ⟨_, rfl⟩

/-! ### Sizes, names, order -/
theorem limits_s (us ws ts : List (List AVal)) (h1 : TyUnits us) (h3 : TyTechs ts) : ∃ b, F_skirmishref09_limits us ws ts = some b := by
  have hm : maxLen = 9223372036854775807 := by decide
  obtain ⟨t1, e1⟩ := some_loop (fun m i => G_skirmishref09_limits_0 us m i) us.length (ty_rows h1).1
    (fun k hk => by
      obtain ⟨q1, q2, _⟩ := okR_get (okUnits h1) hk
      have hl := (ty_rows h1).1
      have d1 : (k : Int) < us.length := by omega
      have d2 : (0 : Int) ≤ k := by omega
      by_cases n1 : ((cR (us.getD k []) 16).length : Int) > 4
      · exact .inr ⟨true, fun m => by simp only [G_skirmishref09_limits_0, Int.ofNat_eq_natCast, d1, d2, decide_true, cond_true, Int.toNat_natCast, q1, q2, Option.bind_some, n1]⟩
      by_cases n2 : ((cR (us.getD k []) 17).length : Int) > 4
      · exact .inr ⟨true, fun m => by simp only [G_skirmishref09_limits_0, Int.ofNat_eq_natCast, d1, d2, decide_true, cond_true, Int.toNat_natCast, q1, q2, Option.bind_some, n1, n2, decide_false, cond_false]⟩
      by_cases n3 : ((cR (us.getD k []) 18).length : Int) > 4
      · exact .inr ⟨true, fun m => by simp only [G_skirmishref09_limits_0, Int.ofNat_eq_natCast, d1, d2, decide_true, cond_true, Int.toNat_natCast, q1, q2, Option.bind_some, n1, n2, n3, decide_false, cond_false]⟩
      · exact .inl fun m => by simp only [G_skirmishref09_limits_0, Int.ofNat_eq_natCast, d1, d2, decide_true, cond_true, Int.toNat_natCast, q1, q2, Option.bind_some, n1, n2, n3, decide_false, cond_false, wr_next hk (by omega)])
    ⟨false, fun m => by
      have d1 : ¬ (us.length : Int) < us.length := by omega
      simp only [G_skirmishref09_limits_0, Int.ofNat_eq_natCast, d1, decide_false, cond_false]⟩
  obtain ⟨t2, e2⟩ := some_loop (fun m i => G_skirmishref09_limits_1 ts m i) ts.length (ty_rows h3).1
    (fun k hk => by
      obtain ⟨q1, q2, _⟩ := okR_get (okTechs h3) hk
      have hl := (ty_rows h3).1
      have d1 : (k : Int) < ts.length := by omega
      have d2 : (0 : Int) ≤ k := by omega
      by_cases n1 : ((cR (ts.getD k []) 1).length : Int) > 4
      · exact .inr ⟨true, fun m => by simp only [G_skirmishref09_limits_1, Int.ofNat_eq_natCast, d1, d2, decide_true, cond_true, Int.toNat_natCast, q1, q2, Option.bind_some, n1]⟩
      · exact .inl fun m => by simp only [G_skirmishref09_limits_1, Int.ofNat_eq_natCast, d1, d2, decide_true, cond_true, Int.toNat_natCast, q1, q2, Option.bind_some, n1, decide_false, cond_false, wr_next hk (by omega)])
    ⟨false, fun m => by
      have d1 : ¬ (ts.length : Int) < ts.length := by omega
      simp only [G_skirmishref09_limits_1, Int.ofNat_eq_natCast, d1, decide_false, cond_false]⟩
  have e1' : G_skirmishref09_limits_0 us FU 0 = some t1 := e1
  have e2' : G_skirmishref09_limits_1 ts FU 0 = some t2 := e2
  simp only [F_skirmishref09_limits, e1', e2', Option.bind_some]
  cases decide (Int.ofNat us.length > 16) <;> cases decide (Int.ofNat ws.length > 8) <;> cases decide (Int.ofNat ts.length > 12) <;> cases t1 <;> cases t2 <;> exact ⟨_, rfl⟩
theorem name_s (s : ByteArray) (hs : s.size ≤ reachBytes) : ∃ b, F_skirmishref09_Name s = some b ∧ (b = true → 1 ≤ s.size) := by
  have hr : reachBytes = 140737488351232 := rfl
  have hm : maxLen = 9223372036854775807 := by decide
  obtain ⟨t, ht⟩ := some_loop (fun m i => G_skirmishref09_Name_0 s m i) s.size (by omega)
    (fun k hk => by
      have d1 : (k : Int) < s.size := by omega
      have d2 : (0 : Int) ≤ k := by omega
      simp only [G_skirmishref09_Name_0, Int.ofNat_eq_natCast, d1, d2, decide_true, cond_true, wr_next hk (by omega)]
      cases decide (byteA s k ≥ 97) <;> cases decide (byteA s k ≤ 122) <;> cases decide (byteA s k ≥ 48) <;> cases decide (byteA s k ≤ 57) <;> cases (byteA s k != 95) <;> first | exact .inl fun m => rfl | exact .inr ⟨_, fun m => rfl⟩)
    ⟨false, fun m => by
      have d1 : ¬ (s.size : Int) < s.size := by omega
      simp only [G_skirmishref09_Name_0, Int.ofNat_eq_natCast, d1, decide_false, cond_false]⟩
  have ht' : G_skirmishref09_Name_0 s FU 0 = some t := ht
  simp only [F_skirmishref09_Name, Int.ofNat_eq_natCast, ht', Option.bind_some]
  by_cases n1 : (s.size : Int) < 1
  · exact ⟨false, by simp only [n1, decide_true, cond_true], fun h => by cases h⟩
  · have d2 : (0 : Int) < s.size := by omega
    simp only [n1, d2, decide_false, decide_true, cond_false, cond_true]
    cases decide ((s.size : Int) > 12) <;> cases decide (byteA s 0 < 97) <;> cases decide (byteA s 0 > 122) <;> cases t <;> exact ⟨_, rfl, fun _ => by omega⟩
theorem named_s (us ws ts : List (List AVal)) (h1 : TyUnits us) (h2 : TyWeapons ws) (h3 : TyTechs ts) (n1 : us.length ≤ 100) (n2 : ws.length ≤ 100) (n3 : ts.length ≤ 100) :
    ∃ b, F_skirmishref09_named us ws ts = some b ∧ (b = true → ∀ r ∈ ws, 1 ≤ (cS r 0).size) := by
  have hm : maxLen = 9223372036854775807 := by decide
  have hl : (namesOf us ++ namesOf ws ++ namesOf ts).length = us.length + ws.length + ts.length := by simp [namesOf]; omega
  have ok := okR_app (okR_app (okR_names us) (okR_names ws)) (okR_names ts)
  have hsz : ∀ q ∈ namesOf us ++ namesOf ws ++ namesOf ts, (cS q 0).size ≤ reachBytes := fun q hq => by
    have f : ∀ (l : List (List AVal)), (∀ r ∈ l, (cS r 0).size ≤ reachBytes) → q ∈ namesOf l → (cS q 0).size ≤ reachBytes := fun l hl hq => by
      obtain ⟨r, hr, rfl⟩ := List.mem_map.1 hq
      exact hl r hr
    rcases List.mem_append.1 hq with hq | hq
    · rcases List.mem_append.1 hq with hq | hq
      · exact f us (fun r hr => tyL_str (unit_row (r := us) h1 hr) rfl) hq
      · exact f ws (fun r hr => tyL_str (by have := (ty_rows h2).2.1 r hr; rwa [show leafOf Try.prog 8 52 = weapT by kernel_rfl] at this) rfl) hq
    · exact f ts (fun r hr => tyL_str (tech_row h3 hr) rfl) hq
  have key := find_loop (fun m i => G_skirmishref09_named_0 (namesOf us ++ namesOf ws ++ namesOf ts) m i) (namesOf us ++ namesOf ws ++ namesOf ts) (fun r => !((F_skirmishref09_Name (cS r 0)).getD false)) (fun _ => true) false (by omega)
    (fun m k hk => by
      obtain ⟨q1, q2, q3⟩ := okR_get ok hk
      have d1 : (k : Int) < (namesOf us ++ namesOf ws ++ namesOf ts).length := by omega
      have d2 : (0 : Int) ≤ k := by omega
      obtain ⟨b, hb, _⟩ := name_s _ (hsz _ q3)
      simp only [G_skirmishref09_named_0, Int.ofNat_eq_natCast, d1, d2, decide_true, Bool.and_true, cond_true, Int.toNat_natCast, q1, q2, Option.bind_some, wr_next hk (by omega), hb, Option.getD_some])
    (fun m => by
      have d1 : ¬ ((namesOf us ++ namesOf ws ++ namesOf ts).length : Int) < (namesOf us ++ namesOf ws ++ namesOf ts).length := by omega
      simp only [G_skirmishref09_named_0, Int.ofNat_eq_natCast, d1, decide_false, cond_false])
  have key' : G_skirmishref09_named_0 (namesOf us ++ namesOf ws ++ namesOf ts) FU 0 = _ := key
  have l1 : (namesOf us).length = us.length := by simp [namesOf]
  have l2 : (namesOf ws).length = ws.length := by simp [namesOf]
  have l3 : (namesOf ts).length = ts.length := by simp [namesOf]
  have r1 : roomOk ((namesOf us).length + (namesOf ws).length) 16 = true := room16 (by omega)
  have r2 : roomOk ((namesOf us ++ namesOf ws).length + (namesOf ts).length) 16 = true := room16 (by rw [List.length_append]; omega)
  simp only [F_skirmishref09_named, units_n us ws ts h1 (by omega), weapons_n us ws ts h2 (by omega), techs_n us ws ts h3 (by omega), Option.bind_some, r1, r2, cond_true, key']
  unfold fdV
  cases hf : (namesOf us ++ namesOf ws ++ namesOf ts).findIdx? (fun r => !((F_skirmishref09_Name (cS r 0)).getD false)) with
  | some k => exact ⟨false, rfl, fun h => by cases h⟩
  | none =>
    refine ⟨true, rfl, fun _ r hr => ?_⟩
    have hin : nm (cS r 0) ∈ namesOf us ++ namesOf ws ++ namesOf ts := List.mem_append_left _ (List.mem_append_right _ (List.mem_map.2 ⟨r, hr, rfl⟩))
    have := List.findIdx?_eq_none_iff.1 hf _ hin
    obtain ⟨b, hb, hb2⟩ := name_s _ (hsz _ hin)
    rw [hb] at this
    simp only [Option.getD_some, Bool.not_eq_false', Bool.not_eq_true'] at this
    have hb3 : b = true := by cases b <;> simp_all
    exact hb2 hb3
theorem ordered_s (us ws ts : List (List AVal)) (h1 : TyUnits us) (h2 : TyWeapons ws) (h3 : TyTechs ts) (n1 : us.length ≤ 100) (n2 : ws.length ≤ 100) (n3 : ts.length ≤ 100) :
    ∃ b, F_skirmishref09_ordered us ws ts = some b := by
  have hm : maxLen = 9223372036854775807 := by decide
  have l1 : (namesOf us).length = us.length := by simp [namesOf]
  have l2 : (namesOf ws).length = ws.length := by simp [namesOf]
  have l3 : (namesOf ts).length = ts.length := by simp [namesOf]
  obtain ⟨b1, e1⟩ := asc_s _ (okR_names us) (by omega)
  obtain ⟨b2, e2⟩ := asc_s _ (okR_names ws) (by omega)
  obtain ⟨b3, e3⟩ := asc_s _ (okR_names ts) (by omega)
  have a (l : List (List AVal)) (h : TyNames l) : F_skirmishref09_ascending l = some ((F_skirmishref09_ascending l).getD false) := by
    obtain ⟨o1, o2⟩ := okNames h
    obtain ⟨b, e⟩ := asc_s _ o1 o2
    rw [e]; rfl
  have g0 : ∀ ok, ∃ b, G_skirmishref09_ordered_0 us FU ok 0 = some b := fun ok => by
    obtain ⟨b, hb, _⟩ := and_loop (fun m ok i => G_skirmishref09_ordered_0 us m ok i) us.length (by omega) (fun k => let r := us.getD k []; (F_skirmishref09_ascending (cR r 16)).getD false && ((F_skirmishref09_ascending (cR r 17)).getD false && (F_skirmishref09_ascending (cR r 18)).getD false))
      (fun m k ok hk => by
        obtain ⟨q1, q2, q3⟩ := okR_get (okUnits h1) hk
        have d1 : (k : Int) < us.length := by omega
        have d2 : (0 : Int) ≤ k := by omega
        have hr := unit_row (r := us) h1 q3
        have a1 := a _ (tyL_sl hr (j := 16) rfl)
        have a2 := a _ (tyL_sl hr (j := 17) rfl)
        have a3 := a _ (tyL_sl hr (j := 18) rfl)
        generalize (F_skirmishref09_ascending (cR (us.getD k []) 16)).getD false = c1 at *
        generalize (F_skirmishref09_ascending (cR (us.getD k []) 17)).getD false = c2 at *
        generalize (F_skirmishref09_ascending (cR (us.getD k []) 18)).getD false = c3 at *
        simp only [G_skirmishref09_ordered_0, Int.ofNat_eq_natCast, d1, d2, decide_true, cond_true, Int.toNat_natCast, q1, q2, Option.bind_some, wr_next hk (by omega), roRows, a1, a2, a3]
        cases ok <;> cases c1 <;> cases c2 <;> rfl)
      (fun m ok => by
        have d1 : ¬ (us.length : Int) < us.length := by omega
        simp only [G_skirmishref09_ordered_0, Int.ofNat_eq_natCast, d1, decide_false, cond_false]) ok
    exact ⟨b, hb⟩
  have g1 : ∀ ok, ∃ b, G_skirmishref09_ordered_1 ts FU ok 0 = some b := fun ok => by
    obtain ⟨b, hb, _⟩ := and_loop (fun m ok i => G_skirmishref09_ordered_1 ts m ok i) ts.length (by omega) (fun k => let r := ts.getD k []; (F_skirmishref09_ascending (cR r 1)).getD false)
      (fun m k ok hk => by
        obtain ⟨q1, q2, q3⟩ := okR_get (okTechs h3) hk
        have d1 : (k : Int) < ts.length := by omega
        have d2 : (0 : Int) ≤ k := by omega
        have hr := tech_row h3 q3
        have a1 := a _ (tyL_sl hr (j := 1) rfl)
        generalize (F_skirmishref09_ascending (cR (ts.getD k []) 1)).getD false = c1 at *
        simp only [G_skirmishref09_ordered_1, Int.ofNat_eq_natCast, d1, d2, decide_true, cond_true, Int.toNat_natCast, q1, q2, Option.bind_some, wr_next hk (by omega), roRows, a1]
        cases ok <;> cases c1 <;> rfl)
      (fun m ok => by
        have d1 : ¬ (ts.length : Int) < ts.length := by omega
        simp only [G_skirmishref09_ordered_1, Int.ofNat_eq_natCast, d1, decide_false, cond_false]) ok
    exact ⟨b, hb⟩
  simp only [F_skirmishref09_ordered, units_n us ws ts h1 (by omega), weapons_n us ws ts h2 (by omega), techs_n us ws ts h3 (by omega), Option.bind_some, e1, e2, e3]
  obtain ⟨f, hf⟩ := g0 false
  obtain ⟨f', hf'⟩ := g1 f
  cases b1 with
  | false => exact ⟨f', by simp only [cond_false, hf, hf', Option.bind_some]⟩
  | true =>
    cases b2 with
    | false => exact ⟨f', by simp only [cond_true, cond_false, hf, hf', Option.bind_some]⟩
    | true =>
      obtain ⟨g, hg⟩ := g0 b3
      obtain ⟨g', hg'⟩ := g1 g
      exact ⟨g', by simp only [cond_true, hg, hg', Option.bind_some]⟩
theorem dup_s (us : List (List AVal)) (R : List (List AVal)) (h1 : TyUnits us) (hR : okR [.str] R) (hn : R.length ≤ maxLen) : ∃ b, G_skirmishref09_Validate_0 R us FU 0 = some b := by
  have hm : maxLen = 9223372036854775807 := by decide
  have hl := (ty_rows h1).1
  exact some_loop (fun m i => G_skirmishref09_Validate_0 R us m i) us.length hl
    (fun k hk => by
      obtain ⟨q1, q2, _⟩ := okR_get (okUnits h1) hk
      have d1 : (k : Int) < us.length := by omega
      have d2 : (0 : Int) ≤ k := by omega
      cases hb : hasN R (cS (us.getD k []) 0) with
      | false => exact .inl fun m => by simp only [G_skirmishref09_Validate_0, Int.ofNat_eq_natCast, d1, d2, decide_true, cond_true, Int.toNat_natCast, q1, q2, Option.bind_some, wr_next hk (by omega), has_9 R _ hR hn, hb, cond_false]
      | true => exact .inr ⟨_, fun m => by simp only [G_skirmishref09_Validate_0, Int.ofNat_eq_natCast, d1, d2, decide_true, cond_true, Int.toNat_natCast, q1, q2, Option.bind_some, has_9 R _ hR hn, hb]; rfl⟩)
    ⟨false, fun m => by
      have d1 : ¬ (us.length : Int) < us.length := by omega
      simp only [G_skirmishref09_Validate_0, Int.ofNat_eq_natCast, d1, decide_false, cond_false]⟩
end Go.Proofs.Ytiplnalnahmdgaa.AI
