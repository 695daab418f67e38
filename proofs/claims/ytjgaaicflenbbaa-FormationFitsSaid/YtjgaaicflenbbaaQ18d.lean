/- Chapter 18: Cost and Fit. -/
import Derived.Test.YtjgaaicflenbbaaQ18c
namespace Go.Proofs.Ytjgaaicflenbbaa.AI
open Go.RowKit
set_option linter.unusedVariables false
set_option linter.unusedSimpArgs false

theorem rI_of {P : Program} {T E : Nat} {rows : List (List AVal)} (hl : leafOf P 8 T = [.int .i64]) (h : Ty P (.sl T E) (.ro E rows)) : ∃ L, rows = rI L := by
  cases h with
  | sl _ _ _ h1 h2 h3 =>
    rw [hl] at h2 h3
    clear h1
    induction rows with
    | nil => exact ⟨[], rfl⟩
    | cons r rows ih =>
      obtain ⟨L, hL⟩ := ih (fun q hq => h2 q (List.mem_cons_of_mem _ hq)) (fun q hq => h3 q (List.mem_cons_of_mem _ hq))
      have k1 := h2 r List.mem_cons_self
      have k2 := h3 r List.mem_cons_self
      match r, k1 with
      | [a], _ =>
        obtain ⟨x, rfl, _⟩ := ty_int (k2 0 _ _ rfl rfl)
        exact ⟨x :: L, by rw [hL]; rfl⟩

/-! ### Cost -/
/-- What is wrong with an assignment. -/
def Bad (L : List Int) (K N : Nat) : Prop := ∃ a, a < N ∧ (L.getD a 0 < -1 ∨ (K : Int) ≤ L.getD a 0 ∨ (0 ≤ L.getD a 0 ∧ ∃ i, i < a ∧ L.getD i 0 = L.getD a 0))
open Classical in
theorem dup_r (L : List Int) (a : Nat) (ha : a < L.length) (hL : L.length ≤ 64) (v : Int) : ∀ (m r j : Nat), j + r = a → r < m → G_skirmishref18_Cost_1 (rI L) a v m j = some (decide (0 ≤ v ∧ ∃ i, j ≤ i ∧ i < a ∧ L.getD i 0 = v))
  | 0, r, j, h1, h2 => by omega
  | m + 1, 0, j, h1, h2 => by
    have : ¬ ((j : Int) < a) := by omega
    simp only [G_skirmishref18_Cost_1, this, decide_false, cond_false]
    congr 1
    symm
    refine decide_eq_false ?_
    rintro ⟨_, i, q1, q2, _⟩
    omega
  | m + 1, r + 1, j, h1, h2 => by
    have hj : (j : Int) < a := by omega
    have h0 : (0 : Int) ≤ j := by omega
    have ih := dup_r L a ha hL v m r (j + 1) (by omega) (by omega)
    simp only [G_skirmishref18_Cost_1, hj, h0, decide_true, cond_true, Int.toNat_natCast, rI_get L j (by omega), Option.bind_some, chk_i, cI_i, wr_succ j (by omega), ih]
    by_cases hv : 0 ≤ v
    · have hv' : v ≥ 0 := hv
      simp only [hv', decide_true, cond_true, hv, true_and]
      by_cases e : L.getD j 0 = v
      · simp only [e, beq_self_eq_true, cond_true]
        congr 1
        symm
        exact decide_eq_true ⟨j, by omega, by omega, e⟩
      · have e' : (L.getD j 0 == v) = false := by simpa using e
        simp only [e', cond_false]
        congr 1
        refine decide_eq_decide.2 ⟨fun ⟨i, q1, q2, q3⟩ => ⟨i, by omega, q2, q3⟩, fun ⟨i, q1, q2, q3⟩ => ⟨i, ?_, q2, q3⟩⟩
        rcases Nat.lt_or_ge j i with h | h
        · omega
        · have : i = j := by omega
          subst this
          exact absurd q3 e
    · have hv' : ¬ v ≥ 0 := hv
      simp only [hv', decide_false, cond_false, hv, false_and]

open Classical in
theorem cost_G (units slots : List (List AVal)) (hu : okV units) (hs : okV slots) (L : List Int) (hU : units.length ≤ 64) (hK : slots.length ≤ 64) (hL : L.length = units.length) :
    ∀ (m m' r a : Nat) (T : List Bool) (sum : Int), a + r = L.length → r < m → r < m' → T.length = slots.length → (∀ k, k < slots.length → (T.getD k false = true ↔ ∃ i, i < a ∧ L.getD i 0 = k)) →
      (∃ s T', G_formation_Cost_0 units slots (rI L) L.length m (rB T) sum a = some (false, T', s, []) ∧ G_skirmishref18_Cost_0 units slots (rI L) m' sum a = some (false, s)) ∨
      (∃ T', G_formation_Cost_0 units slots (rI L) L.length m (rB T) sum a = some (true, [], 0, T') ∧ G_skirmishref18_Cost_0 units slots (rI L) m' sum a = some (true, 0) ∧ Bad L slots.length L.length)
  | 0, m', r, a, T, sum, h1, h2, h3, h4, h5 => by omega
  | m + 1, 0, r, a, T, sum, h1, h2, h3, h4, h5 => by omega
  | m + 1, m' + 1, 0, a, T, sum, h1, h2, h3, h4, h5 => by
    have : ¬ ((a : Int) < L.length) := by omega
    simp only [G_formation_Cost_0, G_skirmishref18_Cost_0, Int.ofNat_eq_natCast, rI_len, this, decide_false, cond_false]
    exact .inl ⟨_, _, rfl, rfl⟩
  | m + 1, m' + 1, r + 1, a, T, sum, h1, h2, h3, h4, h5 => by
    have ha : (a : Int) < L.length := by omega
    have ha' : a < L.length := by omega
    have h0 : (0 : Int) ≤ a := by omega
    obtain ⟨g3, g4⟩ := okV_get hu a (by omega)
    have hd := dup_r L a ha' (by omega) (L.getD a 0) FU a 0 (by omega) (by unfold FU; omega)
    have hd' : G_skirmishref18_Cost_1 (rI L) a (L.getD a 0) FU 0 = some (decide (0 ≤ L.getD a 0 ∧ ∃ i, 0 ≤ i ∧ i < a ∧ L.getD i 0 = L.getD a 0)) := hd
    simp only [G_formation_Cost_0, G_skirmishref18_Cost_0, Int.ofNat_eq_natCast, rI_len, rB_len, ha, h0, decide_true, cond_true, Int.toNat_natCast, rI_get L a ha', Option.bind_some, chk_i, cI_i, g3, g4, wr_succ a (by omega), hd']
    by_cases e1 : L.getD a 0 = -1
    · have e2 : ¬ ((-1 : Int) < -1) := by omega
      have e3 : ¬ ((-1 : Int) ≥ slots.length) := by omega
      have e4 : ¬ ((0 : Int) ≤ -1 ∧ ∃ i, 0 ≤ i ∧ i < a ∧ L.getD i 0 = -1) := by omega
      have e5 : ¬ ((-1 : Int) ≥ 0) := by omega
      simp only [e1, beq_self_eq_true, cond_true, e2, e3, e4, e5, decide_false, cond_false]
      refine cost_G units slots hu hs L hU hK hL m m' r (a + 1) T sum (by omega) (by omega) (by omega) h4 fun k hk => (h5 k hk).trans ⟨fun ⟨i, q1, q2⟩ => ⟨i, by omega, q2⟩, fun ⟨i, q1, q2⟩ => ⟨i, ?_, q2⟩⟩
      rcases Nat.lt_or_ge i a with h | h
      · exact h
      · have : i = a := by omega
        subst this
        omega
    · have e1' : (L.getD a 0 == -1) = false := by simpa using e1
      simp only [e1', cond_false]
      by_cases e2 : L.getD a 0 < 0
      · have e3 : L.getD a 0 < -1 := by omega
        simp only [e2, e3, decide_true, cond_true]
        exact .inr ⟨_, rfl, by trivial, a, ha', .inl e3⟩
      · have e3 : ¬ L.getD a 0 < -1 := by omega
        simp only [e2, e3, decide_false, cond_false]
        by_cases e4 : L.getD a 0 ≥ slots.length
        · simp only [e4, decide_true, cond_true]
          exact .inr ⟨_, rfl, by trivial, a, ha', .inr (.inl e4)⟩
        · obtain ⟨k, hk⟩ := Int.eq_ofNat_of_zero_le (show 0 ≤ L.getD a 0 by omega)
          have hkK : k < slots.length := by omega
          obtain ⟨g5, g6⟩ := okV_get hs k hkK
          have c1 : (k : Int) < T.length := by omega
          have c2 : (0 : Int) ≤ k := by omega
          have c3 : ¬ ((k : Int) ≥ slots.length) := by omega
          have c4 : (k : Int) ≥ 0 := by omega
          simp only [hk, c1, c2, c3, c4, decide_true, decide_false, cond_true, cond_false, Bool.and_self, Int.toNat_natCast, rB_get T k (by omega), Option.bind_some, chk_b, cB_b, g5, g6, distance_g, distance_r, rB_set, true_and]
          cases hb : T.getD k false with
          | true =>
            obtain ⟨i, q1, q2⟩ := (h5 k hkK).1 hb
            have c5 : ∃ i, 0 ≤ i ∧ i < a ∧ L.getD i 0 = k := ⟨i, by omega, q1, q2⟩
            simp only [c5, decide_true, cond_true]
            exact .inr ⟨_, rfl, by trivial, a, ha', .inr (.inr ⟨by omega, i, q1, by rw [q2, hk]⟩)⟩
          | false =>
            have c5 : ¬ ∃ i, 0 ≤ i ∧ i < a ∧ L.getD i 0 = k := by
              rintro ⟨i, _, q1, q2⟩
              rw [(h5 k hkK).2 ⟨i, q1, q2⟩] at hb
              cases hb
            simp only [c5, decide_false, cond_false]
            refine cost_G units slots hu hs L hU hK hL m m' r (a + 1) (T.set k true) _ (by omega) (by omega) (by omega) (by simp [h4]) fun k' hk' => ?_
            rw [getD_set T k k' true false (by omega)]
            by_cases e : k' = k
            · subst e
              rw [if_pos rfl]
              exact ⟨fun _ => ⟨a, by omega, hk⟩, fun _ => rfl⟩
            · rw [if_neg e, h5 k' hk']
              constructor
              · rintro ⟨i, q1, q2⟩
                exact ⟨i, by omega, q2⟩
              · rintro ⟨i, q1, q2⟩
                refine ⟨i, ?_, q2⟩
                rcases Nat.lt_or_ge i a with h | h
                · exact h
                · have : i = a := by omega
                  subst this
                  omega

theorem cost_eq (units slots : List (List AVal)) (hu : okV units) (hs : okV slots) (L : List Int) :
    ∃ s e, F_formation_Cost units slots (rI L) = some (s, e) ∧ F_skirmishref18_Cost units slots (rI L) = some (s, e) ∧ (e = 0 ∨ 64 < units.length ∨ 64 < slots.length ∨ L.length ≠ units.length ∨ Bad L slots.length L.length) := by
  simp only [F_formation_Cost, F_skirmishref18_Cost, Int.ofNat_eq_natCast, rI_len]
  by_cases h1 : (units.length : Int) > 64
  · simp only [h1, decide_true, cond_true]
    exact ⟨_, _, rfl, rfl, .inr (.inl (by omega))⟩
  · simp only [h1, decide_false, cond_false]
    by_cases h2 : (slots.length : Int) > 64
    · simp only [h2, decide_true, cond_true]
      exact ⟨_, _, rfl, rfl, .inr (.inr (.inl (by omega)))⟩
    · simp only [h2, decide_false, cond_false]
      by_cases h4 : L.length = units.length
      · have h3 : ¬ ((L.length : Int) > 64) := by omega
        have h4' : ((L.length : Int) != units.length) = false := by simp [h4]
        simp only [h3, h4', decide_false, cond_false, decide_true, Bool.true_and, mk_ok slots.length 1 (by omega) (by omega) (by omega), cond_true, Int.toNat_natCast, rB_rep]
        have := cost_G units slots hu hs L (by omega) (by omega) h4 FU FU L.length 0 (List.replicate slots.length false) 0 (by omega) (by unfold FU; omega) (by unfold FU; omega) (by simp) (fun k hk => ⟨fun h => by simp [List.getD, hk] at h, fun ⟨i, q, _⟩ => by omega⟩)
        rcases this with ⟨s, T', q1, q2⟩ | ⟨T', q1, q2, q3⟩
        · have q1' : G_formation_Cost_0 units slots (rI L) L.length FU (rB (List.replicate slots.length false)) 0 0 = some (false, T', s, []) := q1
          have q2' : G_skirmishref18_Cost_0 units slots (rI L) FU 0 0 = some (false, s) := q2
          simp only [q1', q2', Option.bind_some, cond_false]
          exact ⟨_, _, rfl, rfl, .inl rfl⟩
        · have q1' : G_formation_Cost_0 units slots (rI L) L.length FU (rB (List.replicate slots.length false)) 0 0 = some (true, [], 0, T') := q1
          have q2' : G_skirmishref18_Cost_0 units slots (rI L) FU 0 0 = some (true, 0) := q2
          simp only [q1', q2', Option.bind_some, cond_true]
          exact ⟨_, _, rfl, rfl, .inr (.inr (.inr (.inr q3)))⟩
      · have h4' : ((L.length : Int) != units.length) = true := by simpa using (by omega : (L.length : Int) ≠ units.length)
        simp only [h4', cond_true]
        by_cases h3 : (L.length : Int) > 64
        · simp only [h3, decide_true, cond_true]
          exact ⟨_, _, rfl, rfl, .inr (.inr (.inr (.inl h4)))⟩
        · simp only [h3, decide_false, cond_false]
          exact ⟨_, _, rfl, rfl, .inr (.inr (.inr (.inl h4)))⟩

theorem pure_FormationCosts (units slots assigned : List (List AVal)) (hu : Ty Try.prog (.sl 23 2) (.ro 2 units)) (hs : Ty Try.prog (.sl 23 2) (.ro 2 slots)) (ha : Ty Try.prog (.sl 3 1) (.ro 1 assigned)) : F_skirmishlaw18_FormationCosts units slots assigned = some true := by
  have hu := (okV_of (by kernel_rfl) hu).1
  have hs := (okV_of (by kernel_rfl) hs).1
  obtain ⟨L, rfl⟩ := rI_of (by kernel_rfl) ha
  simp only [F_skirmishlaw18_FormationCosts, few_eq, Option.bind_some, awake18, Int.ofNat_eq_natCast, rI_len]
  by_cases h1 : (units.length : Int) ≤ 80
  · by_cases h2 : (slots.length : Int) ≤ 80
    · by_cases h3 : (L.length : Int) > 80
      · simp only [h1, h2, h3, decide_true, Bool.not_true, cond_false, cond_true]
      · simp only [h1, h2, h3, decide_true, decide_false, Bool.not_true, cond_false]
        obtain ⟨s, e, q1, q2, q3⟩ := cost_eq units slots hu hs L
        by_cases hb : 64 < units.length ∨ 64 < slots.length
        · obtain ⟨e1, e2⟩ := assign_big units slots hb
          obtain ⟨s', e', p1, p2, p3⟩ := cost_eq units slots hu hs []
          have p1' : F_formation_Cost units slots [] = some (s', e') := p1
          simp only [q1, q2, e1, p1', Option.bind_some, beq_self_eq_true, cond_true]
          by_cases h4 : (units.length : Int) ≤ 64
          · have h5 : ¬ ((slots.length : Int) ≤ 64) := by omega
            simp only [h4, h5, decide_true, decide_false, Bool.not_false, cond_true]
          · simp only [h4, decide_false, cond_false]
        · have h4 : (units.length : Int) ≤ 64 := by omega
          have h5 : (slots.length : Int) ≤ 64 := by omega
          obtain ⟨L', T, e1, e2, e3⟩ := assign_eq units slots hu hs (by omega) (by omega)
          obtain ⟨s', e', p1, p2, p3⟩ := cost_eq units slots hu hs L'
          have he : e' = 0 := by
            rcases p3 with p | p | p | p | ⟨a, a1, a2⟩
            · exact p
            · omega
            · omega
            · exact absurd e3.lenL p
            · rw [e3.lenL] at a1
              have := e3.low a a1
              rcases a2 with a2 | a2 | ⟨a2, i, a3, a4⟩
              · omega
              · omega
              · have := e3.inj a i a1 (by omega) a2 a4.symm
                omega
          simp only [q1, q2, e1, p1, Option.bind_some, beq_self_eq_true, cond_true, h4, h5, decide_true, Bool.not_true, cond_false, he]
    · simp only [h1, h2, decide_true, decide_false, Bool.not_true, Bool.not_false, cond_false, cond_true]
  · simp only [h1, decide_false, Bool.not_false, cond_true]

/-! ### Fit -/
def fit1 (W H : Int) (r : List AVal) : List AVal := [i64 (max 0 (min (cI r 0) (W * 256 - 1))), i64 (max 0 (min (cI r 1) (H * 256 - 1)))]
theorem fit_g (l : List (List AVal)) (hl : okV l) (hn : l.length ≤ 80) (W H : Int) (hW : 1 ≤ W ∧ W ≤ 32) (hH : 1 ≤ H ∧ H ≤ 32) : ∀ (m r k : Nat), k + r = l.length → r < m →
    G_formation_Fit_0 l l.length W H m ((l.take k).map (fit1 W H)) k = some (l.map (fit1 W H))
  | 0, r, k, h1, h2 => by omega
  | m + 1, 0, k, h1, h2 => by
    have : ¬ ((k : Int) < l.length) := by omega
    simp only [G_formation_Fit_0, this, decide_false, cond_false]
    rw [List.take_of_length_le (by omega)]
  | m + 1, r + 1, k, h1, h2 => by
    have hk : (k : Int) < l.length := by omega
    have h0 : (0 : Int) ≤ k := by omega
    obtain ⟨g1, g2⟩ := okV_get hl k (by omega)
    have hr : roomOk (((l.take k).map (fit1 W H)).length + 1) 16 = true := by simp [roomOk]; omega
    have e : (l.take k).map (fit1 W H) ++ [fit1 W H (l.getD k [])] = (l.take (k + 1)).map (fit1 W H) := by
      rw [List.take_succ_eq_append_getElem (show k < l.length by omega), List.map_append, List.getD_eq_getElem?_getD, List.getElem?_eq_getElem (show k < l.length by omega)]
      rfl
    simp only [G_formation_Fit_0, F_num_Clamp, maxI_eq, minI_eq, hk, h0, decide_true, cond_true, Int.toNat_natCast, g1, g2, Option.bind_some, hr, wr_succ k (by omega)]
    rw [wr_in (n := W * 256) (by omega) (by omega), wr_in (n := W * 256 - 1) (by omega) (by omega), wr_in (n := H * 256) (by omega) (by omega), wr_in (n := H * 256 - 1) (by omega) (by omega)]
    rw [show [i64 (max 0 (min (cI (l.getD k []) 0) (W * 256 - 1))), i64 (max 0 (min (cI (l.getD k []) 1) (H * 256 - 1)))] = fit1 W H (l.getD k []) from rfl, e]
    exact fit_g l hl hn W H hW hH m r (k + 1) (by omega) (by omega)
theorem fit_r (l : List (List AVal)) (hl : okV l) (hn : l.length ≤ 80) (W H : Int) (hW : 1 ≤ W ∧ W ≤ 32) (hH : 1 ≤ H ∧ H ≤ 32) : ∀ (m r k : Nat), k + r = l.length → r < m →
    G_skirmishref18_Fit_0 l W H m ((l.take k).map (fit1 W H)) k = some (l.map (fit1 W H))
  | 0, r, k, h1, h2 => by omega
  | m + 1, 0, k, h1, h2 => by
    have : ¬ ((k : Int) < l.length) := by omega
    simp only [G_skirmishref18_Fit_0, Int.ofNat_eq_natCast, this, decide_false, cond_false]
    rw [List.take_of_length_le (by omega)]
  | m + 1, r + 1, k, h1, h2 => by
    have hk : (k : Int) < l.length := by omega
    have h0 : (0 : Int) ≤ k := by omega
    obtain ⟨g1, g2⟩ := okV_get hl k (by omega)
    have hr : roomOk (((l.take k).map (fit1 W H)).length + 1) 16 = true := by simp [roomOk]; omega
    have e : (l.take k).map (fit1 W H) ++ [fit1 W H (l.getD k [])] = (l.take (k + 1)).map (fit1 W H) := by
      rw [List.take_succ_eq_append_getElem (show k < l.length by omega), List.map_append, List.getD_eq_getElem?_getD, List.getElem?_eq_getElem (show k < l.length by omega)]
      rfl
    simp only [G_skirmishref18_Fit_0, F_skirmishref18_near, Int.ofNat_eq_natCast, maxI_eq, minI_eq, hk, h0, decide_true, cond_true, Int.toNat_natCast, g1, g2, Option.bind_some, hr, wr_succ k (by omega)]
    rw [wr_in (n := W * 256) (by omega) (by omega), wr_in (n := W * 256 - 1) (by omega) (by omega), wr_in (n := H * 256) (by omega) (by omega), wr_in (n := H * 256 - 1) (by omega) (by omega)]
    rw [show [i64 (max 0 (min (cI (l.getD k []) 0) (W * 256 - 1))), i64 (max 0 (min (cI (l.getD k []) 1) (H * 256 - 1)))] = fit1 W H (l.getD k []) from rfl, e]
    exact fit_r l hl hn W H hW hH m r (k + 1) (by omega) (by omega)
theorem fit1_ok (W H : Int) (l : List (List AVal)) : okV (l.map (fit1 W H)) := by
  intro r hr
  obtain ⟨q, _, rfl⟩ := List.mem_map.1 hr
  rfl
theorem fit1_fit1 (W H : Int) (hW : 1 ≤ W) (hH : 1 ≤ H) (r : List AVal) : fit1 W H (fit1 W H r) = fit1 W H r := by
  show [i64 _, i64 _] = [i64 _, i64 _]
  have e : ∀ (x M : Int), 1 ≤ M → max 0 (min (max 0 (min x (M * 256 - 1))) (M * 256 - 1)) = max 0 (min x (M * 256 - 1)) := fun x M h => by omega
  have e1 := e (cI r 0) W hW
  have e2 := e (cI r 1) H hH
  have d1 : cI (fit1 W H r) 0 = max 0 (min (cI r 0) (W * 256 - 1)) := rfl
  have d2 : cI (fit1 W H r) 1 = max 0 (min (cI r 1) (H * 256 - 1)) := rfl
  rw [d1, d2, e1, e2]
theorem fits_G (l : List (List AVal)) (hn : l.length ≤ 80) (W H : Int) (hW : 1 ≤ W ∧ W ≤ 32) (hH : 1 ≤ H ∧ H ≤ 32) : ∀ (m r k : Nat), k + r = l.length → r < m →
    G_skirmishlaw18_FormationFits_0 (l.map (fit1 W H)) W H m k = some false
  | 0, r, k, h1, h2 => by omega
  | m + 1, 0, k, h1, h2 => by
    have : ¬ ((k : Int) < l.length) := by omega
    simp only [G_skirmishlaw18_FormationFits_0, Int.ofNat_eq_natCast, List.length_map, this, decide_false, cond_false]
  | m + 1, r + 1, k, h1, h2 => by
    have hk : (k : Int) < l.length := by omega
    have h0 : (0 : Int) ≤ k := by omega
    have g : (l.map (fit1 W H))[k]? = some (fit1 W H (l.getD k [])) := by
      simp [List.getD, show k < l.length by omega]
    have g2 : chk [.int .i64, .int .i64] (fit1 W H (l.getD k [])) = true := rfl
    have c0 : cI (fit1 W H (l.getD k [])) 0 = max 0 (min (cI (l.getD k []) 0) (W * 256 - 1)) := rfl
    have c1 : cI (fit1 W H (l.getD k [])) 1 = max 0 (min (cI (l.getD k []) 1) (H * 256 - 1)) := rfl
    have d1 : ¬ (max 0 (min (cI (l.getD k []) 0) (W * 256 - 1)) < 0) := by omega
    have d2 : ¬ (max 0 (min (cI (l.getD k []) 1) (H * 256 - 1)) < 0) := by omega
    have d3 : ¬ (max 0 (min (cI (l.getD k []) 0) (W * 256 - 1)) ≥ W * 256) := by omega
    have d4 : ¬ (max 0 (min (cI (l.getD k []) 1) (H * 256 - 1)) ≥ H * 256) := by omega
    have w1 : wr (W * 256) = W * 256 := wr_in (by omega) (by omega)
    have w2 : wr (H * 256) = H * 256 := wr_in (by omega) (by omega)
    simp only [G_skirmishlaw18_FormationFits_0, Int.ofNat_eq_natCast, List.length_map, hk, h0, decide_true, Bool.and_self, cond_true, Int.toNat_natCast, g, g2, Option.bind_some, c0, c1, w1, w2, d1, d2, d3, d4, decide_false, cond_false, wr_succ k (by omega)]
    exact fits_G l hn W H hW hH m r (k + 1) (by omega) (by omega)
theorem Fit_g (W H : Int) (cells l : List (List AVal)) (hl : okV l) (hn : l.length ≤ 80) : F_formation_Fit W H cells l = some (if 1 ≤ W ∧ W ≤ 32 ∧ 1 ≤ H ∧ H ≤ 32 then l.map (fit1 W H) else []) := by
  simp only [F_formation_Fit, Int.ofNat_eq_natCast]
  by_cases h : 1 ≤ W ∧ W ≤ 32 ∧ 1 ≤ H ∧ H ≤ 32
  · have := fit_g l hl hn W H (by omega) (by omega) FU l.length 0 (by omega) (by unfold FU; omega)
    have this' : G_formation_Fit_0 l l.length W H FU [] 0 = some (l.map (fit1 W H)) := this
    rw [if_pos h]
    simp only [show ¬ W < 1 by omega, show ¬ H < 1 by omega, show ¬ W > 32 by omega, show ¬ H > 32 by omega, decide_false, cond_false, this', Option.bind_some]
  · rw [if_neg h]
    by_cases h1 : W < 1
    · simp only [h1, decide_true, cond_true]
    by_cases h2 : H < 1
    · simp only [h1, h2, decide_true, decide_false, cond_false, cond_true]
    by_cases h3 : W > 32
    · simp only [h1, h2, h3, decide_true, decide_false, cond_false, cond_true]
    have h4 : H > 32 := by omega
    simp only [h1, h2, h3, h4, decide_true, decide_false, cond_false, cond_true]
theorem Fit_r (W H : Int) (cells l : List (List AVal)) (hl : okV l) (hn : l.length ≤ 80) : F_skirmishref18_Fit W H cells l = some (if 1 ≤ W ∧ W ≤ 32 ∧ 1 ≤ H ∧ H ≤ 32 then l.map (fit1 W H) else []) := by
  have hv : F_skirmishref06_Valid W H = some (decide (1 ≤ W ∧ W ≤ 32 ∧ 1 ≤ H ∧ H ≤ 32)) := by
    simp only [F_skirmishref06_Valid]
    by_cases h1 : W ≥ 1 <;> by_cases h2 : W ≤ 32 <;> by_cases h3 : H ≥ 1 <;> simp [h1, h2, h3] <;> omega
  simp only [F_skirmishref18_Fit, hv, Option.bind_some]
  by_cases h : 1 ≤ W ∧ W ≤ 32 ∧ 1 ≤ H ∧ H ≤ 32
  · have := fit_r l hl hn W H (by omega) (by omega) FU l.length 0 (by omega) (by unfold FU; omega)
    have this' : G_skirmishref18_Fit_0 l W H FU [] 0 = some (l.map (fit1 W H)) := this
    rw [if_pos h]
    simp only [h, and_self, decide_true, Bool.not_true, cond_false, this', Option.bind_some]
  · rw [if_neg h]
    simp only [h, decide_false, Bool.not_false, cond_true]
theorem pure_FormationFits (W H : Int) (cells l : List (List AVal)) (h1 : wf .i64 W) (h2 : wf .i64 H) (h3 : Ty Try.prog (.sl 72 3) (.ro 3 cells)) (h4 : Ty Try.prog (.sl 23 2) (.ro 2 l)) : F_skirmishlaw18_FormationFits W H cells l = some true := by
  have hl := (okV_of (by kernel_rfl) h4).1
  simp only [F_skirmishlaw18_FormationFits, few_eq, Option.bind_some, awake18]
  by_cases hn : (l.length : Int) ≤ 80
  · simp only [hn, decide_true, Bool.not_true, cond_false, Fit_g W H cells l hl (by omega), Fit_r W H cells l hl (by omega), Option.bind_some]
    by_cases h : 1 ≤ W ∧ W ≤ 32 ∧ 1 ≤ H ∧ H ≤ 32
    · simp only [if_pos h]
      have hm := fit1_ok W H l
      have hlen : (l.map (fit1 W H)).length ≤ 80 := by simp; omega
      have e1 : (l.map (fit1 W H)).map (fit1 W H) = l.map (fit1 W H) := by
        rw [List.map_map]
        exact List.map_congr_left fun r _ => fit1_fit1 W H (by omega) (by omega) r
      have q := fits_G l (by omega) W H (by omega) (by omega) FU l.length 0 (by omega) (by unfold FU; omega)
      have q' : G_skirmishlaw18_FormationFits_0 (l.map (fit1 W H)) W H FU 0 = some false := q
      simp only [vsame _ hm (by omega), Option.bind_some, Bool.not_true, cond_false, Fit_g W H cells _ hm hlen, if_pos h, e1, q']
    · simp only [if_neg h]
      have e0 : okV [] := fun r hr => by cases hr
      have q' : G_skirmishlaw18_FormationFits_0 [] W H FU 0 = some false := rfl
      simp only [vsame _ e0 (by simp), Option.bind_some, Bool.not_true, cond_false, Fit_g W H cells [] e0 (by simp), if_neg h, q']
  · simp only [hn, decide_false, Bool.not_false, cond_true]
end Go.Proofs.Ytjgaaicflenbbaa.AI
