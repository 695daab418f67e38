/- Chapter 18: Assign, and its theorem. -/
import Derived.Test.YtjgaaicflenbbaaQ18b
namespace Go.Proofs.Ytjgaaicflenbbaa.AI
open Go.RowKit
set_option linter.unusedVariables false
set_option linter.unusedSimpArgs false

theorem eq_rep {α : Type} (l : List α) (n : Nat) (v d : α) (hl : l.length = n) (h : ∀ i, i < n → l.getD i d = v) : l = List.replicate n v := by
  rw [List.eq_replicate_iff]
  refine ⟨hl, fun b hb => ?_⟩
  obtain ⟨i, hi, rfl⟩ := List.mem_iff_getElem.1 hb
  have := h i (by omega)
  simpa [List.getD, hi] using this
theorem wr_succ (k : Nat) (h : k ≤ 1000000000) : wr ((k : Int) + 1) = ((k + 1 : Nat) : Int) := by rw [wr_in (by omega) (by omega)]; simp

theorem assign0_g (n : Nat) (hn : n ≤ 64) : ∀ (m r k : Nat) (L : List Int), k + r = n → r < m → L.length = n → (∀ i, i < k → L.getD i 0 = -1) → G_formation_Assign_0 n m (rI L) k = some (rI (List.replicate n (-1)))
  | 0, r, k, L, h1, h2, h3, h4 => by omega
  | m + 1, 0, k, L, h1, h2, h3, h4 => by
    have : ¬ ((k : Int) < n) := by omega
    simp only [G_formation_Assign_0, this, decide_false, cond_false]
    rw [eq_rep L n (-1) 0 h3 fun i hi => h4 i (by omega)]
  | m + 1, r + 1, k, L, h1, h2, h3, h4 => by
    have hk : (k : Int) < n := by omega
    have h0 : (0 : Int) ≤ k := by omega
    simp only [G_formation_Assign_0, Int.ofNat_eq_natCast, rI_len, h3, hk, h0, decide_true, cond_true, Bool.and_self, Int.toNat_natCast, rI_set, wr_succ k (by omega)]
    refine assign0_g n hn m r (k + 1) _ (by omega) (by omega) (by simp [h3]) fun i hi => ?_
    rw [getD_set L k i (-1) 0 (by omega)]
    split
    · rfl
    · exact h4 i (by omega)
theorem assign0_r (units : List (List AVal)) (hn : units.length ≤ 64) : ∀ (m r k : Nat), k + r = units.length → r < m → G_skirmishref18_Assign_0 units m (rI (List.replicate k (-1))) k = some (rI (List.replicate units.length (-1)))
  | 0, r, k, h1, h2 => by omega
  | m + 1, 0, k, h1, h2 => by
    have : ¬ ((k : Int) < units.length) := by omega
    simp only [G_skirmishref18_Assign_0, Int.ofNat_eq_natCast, this, decide_false, cond_false]
    rw [show k = units.length by omega]
  | m + 1, r + 1, k, h1, h2 => by
    have hk : (k : Int) < units.length := by omega
    have hr : roomOk (k + 1) 8 = true := by simp [roomOk]; omega
    have e : rI (List.replicate k (-1)) ++ [[i64 (-1)]] = rI (List.replicate (k + 1) (-1)) := by
      rw [List.replicate_succ']
      simp [rI]
    simp only [G_skirmishref18_Assign_0, Int.ofNat_eq_natCast, hk, decide_true, cond_true, rI_len, List.length_replicate, hr, wr_succ k (by omega), e]
    exact assign0_r units hn m r (k + 1) (by omega) (by omega)

theorem mk_ok (n : Nat) (b : Int) (hb : 0 ≤ b) (h : b * n ≤ 140737488355328) (hn : n ≤ 140737488355328) : (((decide ((0 : Int) ≤ n))) && (decide ((n : Int) ≤ 9223372036854775807)) && (decide (b * n ≤ 140737488355328))) = true := by
  simp only [Bool.and_eq_true, decide_eq_true_eq]
  exact ⟨⟨by omega, by omega⟩, h⟩
theorem assign_big (units slots : List (List AVal)) (h : 64 < units.length ∨ 64 < slots.length) : F_formation_Assign units slots = some [] ∧ F_skirmishref18_Assign units slots = some [] := by
  simp only [F_formation_Assign, F_skirmishref18_Assign, Int.ofNat_eq_natCast]
  by_cases h1 : (units.length : Int) > 64
  · simp [h1]
  · have h2 : (slots.length : Int) > 64 := by omega
    simp [h1, h2]
theorem assign_eq (units slots : List (List AVal)) (hu : okV units) (hs : okV slots) (hU : units.length ≤ 64) (hK : slots.length ≤ 64) : ∃ L T, F_formation_Assign units slots = some (rI L) ∧ F_skirmishref18_Assign units slots = some (rI L) ∧ Inv (DD units slots) units.length slots.length (min units.length slots.length) L T := by
  have h1 : ¬ ((units.length : Int) > 64) := by omega
  have h2 : ¬ ((slots.length : Int) > 64) := by omega
  obtain ⟨L, T, r1, r2, r3⟩ := assign1_g units slots hu hs hU hK FU (min units.length slots.length) 0 _ _ (by omega) (by unfold FU; omega) (inv_zero (DD units slots) units.length slots.length)
  have r2' := r2 FU (by unfold FU; omega)
  have q1 := assign0_g units.length hU FU units.length 0 (List.replicate units.length 0) (by omega) (by unfold FU; omega) (by simp) (fun i hi => by omega)
  have q2 := assign0_r units hU FU units.length 0 (by omega) (by unfold FU; omega)
  have q1' : G_formation_Assign_0 units.length FU (rI (List.replicate units.length 0)) 0 = some (rI (List.replicate units.length (-1))) := q1
  have q2' : G_skirmishref18_Assign_0 units FU [] 0 = some (rI (List.replicate units.length (-1))) := q2
  have r1' : G_formation_Assign_1 units slots (min units.length slots.length : Nat) FU (rI (List.replicate units.length (-1))) (rB (List.replicate slots.length false)) 0 = some (rI L, rB T) := r1
  have hmin : minI (units.length : Int) slots.length = ((min units.length slots.length : Nat) : Int) := by rw [minI_eq]; omega
  refine ⟨L, T, ?_, ?_, r3⟩
  · simp only [F_formation_Assign, Int.ofNat_eq_natCast, h1, h2, decide_false, cond_false, decide_true, Bool.true_and, mk_ok units.length 8 (by omega) (by omega) (by omega), mk_ok slots.length 1 (by omega) (by omega) (by omega), cond_true, Int.toNat_natCast, rI_rep, rB_rep, rI_len, rB_len, List.length_replicate, q1', Option.bind_some, hmin, r1']
  · simp only [F_skirmishref18_Assign, Int.ofNat_eq_natCast, h1, h2, decide_false, cond_false, decide_true, Bool.true_and, mk_ok slots.length 1 (by omega) (by omega) (by omega), cond_true, Int.toNat_natCast, rB_rep, q2', Option.bind_some, r2']
theorem few_eq (l : List (List AVal)) : F_skirmishlaw18_few l = some (decide ((l.length : Int) ≤ 80)) := by simp only [F_skirmishlaw18_few, Int.ofNat_eq_natCast]

theorem okV_of {P : Program} {T E : Nat} {rows : List (List AVal)} (hl : leafOf P 8 T = [.int .i64, .int .i64]) (h : Ty P (.sl T E) (.ro E rows)) : okV rows ∧ rows.length ≤ maxLen := by
  cases h with
  | sl _ _ _ h1 h2 h3 =>
    refine ⟨fun r hr => ?_, h1⟩
    have k1 := h2 r hr
    have k2 := h3 r hr
    rw [hl] at k1 k2
    match r, k1 with
    | [a, b], _ =>
      obtain ⟨x, rfl, _⟩ := ty_int (k2 0 _ _ rfl rfl)
      obtain ⟨y, rfl, _⟩ := ty_int (k2 1 _ _ rfl rfl)
      rfl

theorem pure_FormationAssign (units slots : List (List AVal)) (hu : Ty Try.prog (.sl 23 2) (.ro 2 units)) (hs : Ty Try.prog (.sl 23 2) (.ro 2 slots)) : F_skirmishlaw18_FormationAssign units slots = some true := by
  have hu := (okV_of (by kernel_rfl) hu).1
  have hs := (okV_of (by kernel_rfl) hs).1
  simp only [F_skirmishlaw18_FormationAssign, few_eq, Option.bind_some, awake18]
  by_cases h1 : (units.length : Int) ≤ 80
  · simp only [h1, decide_true, Bool.not_true, cond_false]
    by_cases h2 : (slots.length : Int) ≤ 80
    · simp only [h2, decide_true, Bool.not_true, cond_false]
      by_cases hb : 64 < units.length ∨ 64 < slots.length
      · obtain ⟨e1, e2⟩ := assign_big units slots hb
        have := isame [] (by simp)
        have this' : F_skirmishlaw18_same [] [] = some true := this
        simp only [e1, e2, Option.bind_some, this', cond_true]
      · obtain ⟨L, T, e1, e2, e3⟩ := assign_eq units slots hu hs (by omega) (by omega)
        have := isame L (by rw [e3.lenL]; omega)
        simp only [e1, e2, Option.bind_some, this, cond_true]
    · simp only [h2, decide_false, Bool.not_false, cond_true]
  · simp only [h1, decide_false, Bool.not_false, cond_true]

/-! ### The theorem: owners -/
structure Own (L : List Int) (K a : Nat) (O : List Int) : Prop where
  len : O.length = K
  at' : ∀ k, k < K → (O.getD k 0 = 0 ∧ ∀ i, i < a → L.getD i 0 ≠ k) ∨ ∃ i, i < a ∧ L.getD i 0 = k ∧ O.getD k 0 = (i : Int) + 1
def cntTo (L : List Int) (a : Nat) : Nat := (L.take a).countP (fun v => decide (0 ≤ v))
theorem cntTo_succ (L : List Int) (a : Nat) (h : a < L.length) : cntTo L (a + 1) = cntTo L a + (if 0 ≤ L.getD a 0 then 1 else 0) := by
  unfold cntTo
  have : L.take (a + 1) = L.take a ++ [L.getD a 0] := by
    rw [List.take_succ_eq_append_getElem h]
    simp [List.getD, h]
  rw [this, List.countP_append]
  simp [List.countP_cons]

theorem owners_G (D : Nat → Nat → Int) (slots : List (List AVal)) (L : List Int) (T : List Bool) (N j : Nat) (hN : N ≤ 64) (hK : slots.length ≤ 64) (h : Inv D N slots.length j L T) :
    ∀ (m r a : Nat) (O : List Int), a + r = N → r < m → Own L slots.length a O → ∃ O' z, G_skirmishlaw18_FormationAssigns_0 (rI L) slots m (rI O) (cntTo L a) a = some (false, rI O', (cntTo L N : Int), z) ∧ Own L slots.length N O'
  | 0, r, a, O, h1, h2, h3 => by omega
  | m + 1, 0, a, O, h1, h2, h3 => by
    have ha : a = N := by omega
    have : ¬ ((a : Int) < L.length) := by rw [h.lenL]; omega
    simp only [G_skirmishlaw18_FormationAssigns_0, Int.ofNat_eq_natCast, rI_len, this, decide_false, cond_false]
    subst ha
    exact ⟨O, _, rfl, h3⟩
  | m + 1, r + 1, a, O, h1, h2, h3 => by
    have ha : (a : Int) < L.length := by rw [h.lenL]; omega
    have ha' : a < L.length := by omega
    have h0 : (0 : Int) ≤ a := by omega
    obtain ⟨l1, l2⟩ := h.low a (by omega)
    have c1 : ¬ L.getD a 0 < -1 := by omega
    have c2 : ¬ L.getD a 0 ≥ slots.length := by omega
    have hcl : cntTo L a ≤ 64 := by
      unfold cntTo
      have := List.countP_le_length (p := fun v => decide (0 ≤ v)) (l := L.take a)
      simp only [List.length_take] at this
      omega
    simp only [G_skirmishlaw18_FormationAssigns_0, Int.ofNat_eq_natCast, rI_len, ha, h0, decide_true, cond_true, Bool.and_self, Int.toNat_natCast, rI_get L a ha', Option.bind_some, chk_i, cI_i, c1, c2, decide_false, cond_false, wr_succ a (by omega)]
    by_cases hn : L.getD a 0 ≥ 0
    · have g1 : (0 : Int) ≤ L.getD a 0 := hn
      obtain ⟨k, hk⟩ := Int.eq_ofNat_of_zero_le hn
      have hkK : k < slots.length := by omega
      have g2 : (k : Int) < O.length := by rw [h3.len]; omega
      have hz : O.getD k 0 = 0 := by
        rcases h3.at' k hkK with ⟨q, _⟩ | ⟨i, q1, q2, q3⟩
        · exact q
        · have := h.inj i a (by omega) (by omega) (by omega) (by rw [q2, hk])
          omega
      have g3 : ¬ O.getD k 0 > 0 := by omega
      simp only [hk, show ((k : Nat) : Int) ≥ 0 by omega, decide_true, cond_true, show (0 : Int) ≤ ((k : Nat) : Int) by omega, g2, Bool.and_self, Int.toNat_natCast, rI_get O k (by omega), Option.bind_some, chk_i, cI_i, g3, decide_false, cond_false, rI_set]
      have hcs := cntTo_succ L a ha'
      rw [if_pos hn] at hcs
      rw [show wr ((cntTo L a : Int) + 1) = ((cntTo L (a + 1) : Nat) : Int) by rw [hcs]; exact wr_succ _ (by omega)]
      refine owners_G D slots L T N j hN hK h m r (a + 1) _ (by omega) (by omega) ⟨by simp [h3.len], fun k' hk' => ?_⟩
      rw [getD_set O k k' _ 0 (by omega)]
      by_cases e : k' = k
      · subst e
        rw [if_pos rfl]
        exact .inr ⟨a, by omega, hk, by simp⟩
      · rw [if_neg e]
        rcases h3.at' k' hk' with ⟨q, q'⟩ | ⟨i, q1, q2, q3⟩
        · refine .inl ⟨q, fun i hi => ?_⟩
          by_cases ei : i = a
          · subst ei; rw [hk]; omega
          · exact q' i (by omega)
        · exact .inr ⟨i, by omega, q2, q3⟩
    · have hcs := cntTo_succ L a ha'
      rw [if_neg (by omega)] at hcs
      simp only [hn, decide_false, cond_false]
      rw [show cntTo L a = cntTo L (a + 1) by omega]
      refine owners_G D slots L T N j hN hK h m r (a + 1) _ (by omega) (by omega) ⟨h3.len, fun k' hk' => ?_⟩
      rcases h3.at' k' hk' with ⟨q, q'⟩ | ⟨i, q1, q2, q3⟩
      · refine .inl ⟨q, fun i hi => ?_⟩
        by_cases ei : i = a
        · subst ei; omega
        · exact q' i (by omega)
      · exact .inr ⟨i, by omega, q2, q3⟩

theorem stable2_G (units slots : List (List AVal)) (hu : okV units) (hs : okV slots) (hU : units.length ≤ 64) (hK : slots.length ≤ 64) (L O : List Int) (T : List Bool) (h : Inv (DD units slots) units.length slots.length (min units.length slots.length) L T) (ho : Own L slots.length units.length O) (i : Nat) (hi : i < units.length) :
    ∀ (m r k : Nat), k + r = slots.length → r < m → G_skirmishlaw18_FormationAssigns_2 (rI L) (rI O) units slots i m k = some false
  | 0, r, k, h1, h2 => by omega
  | m + 1, 0, k, h1, h2 => by
    have : ¬ ((k : Int) < slots.length) := by omega
    simp only [G_skirmishlaw18_FormationAssigns_2, Int.ofNat_eq_natCast, this, decide_false, cond_false]
  | m + 1, r + 1, k, h1, h2 => by
    have hk : (k : Int) < slots.length := by omega
    have hk' : k < slots.length := by omega
    obtain ⟨g1, g2⟩ := okV_get hs k hk'
    obtain ⟨g3, g4⟩ := okV_get hu i hi
    have d1 : (i : Int) < L.length := by rw [h.lenL]; omega
    have d2 : (k : Int) < O.length := by rw [ho.len]; omega
    have d3 : (0 : Int) ≤ i := by omega
    have d4 : (0 : Int) ≤ k := by omega
    have ih := stable2_G units slots hu hs hU hK L O T h ho i hi m r (k + 1) (by omega) (by omega)
    simp only [G_skirmishlaw18_FormationAssigns_2, Int.ofNat_eq_natCast, rI_len, hk, d1, d2, d3, d4, decide_true, cond_true, Int.toNat_natCast, g1, g2, g3, g4, Option.bind_some, rI_get L i (by omega), rI_get O k (by omega), chk_i, cI_i, distance_r, wr_succ k (by omega), ih]
    have hD : dd (cI (units.getD i []) 0) (cI (units.getD i []) 1) (cI (slots.getD k []) 0) (cI (slots.getD k []) 1) = DD units slots i k := rfl
    rw [hD]
    -- who owns the place
    have hown : (O.getD k 0 = 0 ∧ ∀ i, i < units.length → L.getD i 0 ≠ k) ∨ ∃ i', i' < units.length ∧ L.getD i' 0 = k ∧ O.getD k 0 = (i' : Int) + 1 := ho.at' k hk'
    have hst := h.stable i k hi hk'
    by_cases hl : L.getD i 0 < 0
    · simp only [hl, decide_true, cond_true]
      rcases hown with ⟨o1, o2⟩ | ⟨i', o1, o2, o3⟩
      · -- nobody: then a pair was left
        exfalso
        have htf : T.getD k false = false := by
          cases hb : T.getD k false with
          | false => rfl
          | true =>
            obtain ⟨q, q1, q2⟩ := (h.tak k hk').1 hb
            exact absurd q2 (o2 q q1)
        rcases Nat.lt_or_ge slots.length units.length with hlt | hge
        · have hc := h.cntT
          have : T.countP id < T.length := by
            refine Nat.lt_of_le_of_ne List.countP_le_length fun heq => ?_
            have hall := (List.countP_eq_length.1 heq) (T[k]'(by rw [h.lenT]; exact hk')) (List.getElem_mem _)
            have hg : T.getD k false = T[k]'(by rw [h.lenT]; exact hk') := by simp [List.getD, h.lenT, hk']
            rw [← hg, htf] at hall
            cases hall
          rw [hc, h.lenT] at this
          omega
        · have hc := h.cntL
          have : L.countP (fun v => decide (0 ≤ v)) < L.length := by
            refine Nat.lt_of_le_of_ne List.countP_le_length fun heq => ?_
            have hall := (List.countP_eq_length.1 heq) (L[i]'(by rw [h.lenL]; exact hi)) (List.getElem_mem _)
            have hg : L.getD i 0 = L[i]'(by rw [h.lenL]; exact hi) := by simp [List.getD, h.lenL, hi]
            rw [← hg] at hall
            simp only [decide_eq_true_eq] at hall
            omega
          rw [hc, h.lenL] at this
          omega
      · obtain ⟨g5, g6⟩ := okV_get hu i' o1
        have e1 : ((i' : Int) + 1 == 0) = false := by simp; omega
        have e2 : wr ((i' : Int) + 1 - 1) = i' := by rw [wr_in (by omega) (by omega)]; omega
        have e3 : (0 : Int) ≤ i' := by omega
        have hlt : ¬ DD units slots i k < dd (cI (units.getD i' []) 0) (cI (units.getD i' []) 1) (cI (slots.getD k []) 0) (cI (slots.getD k []) 1) := by
          show ¬ DD units slots i k < DD units slots i' k
          rcases hst (.inr ((h.tak k hk').2 ⟨i', o1, o2⟩)) with ⟨q1, q2⟩ | ⟨i2, q1, q2, q3⟩
          · omega
          · have := h.inj i2 i' q1 o1 (by omega) (by rw [q2, o2])
            subst this
            omega
        simp only [o3, e1, cond_false, e2, e3, decide_true, cond_true, Int.toNat_natCast, g5, g6, Option.bind_some, hlt, decide_false]
    · have hl' : (0 : Int) ≤ L.getD i 0 := by omega
      obtain ⟨q, hq⟩ := Int.eq_ofNat_of_zero_le hl'
      have hqK : q < slots.length := by have := (h.low i hi).2; omega
      obtain ⟨g7, g8⟩ := okV_get hs q hqK
      simp only [hl, decide_false, cond_false, hl', decide_true, cond_true, hq, show (0 : Int) ≤ ((q : Nat) : Int) by omega, show ¬ ((q : Nat) : Int) < 0 by omega, Int.toNat_natCast, g7, g8, Option.bind_some]
      have hDq : dd (cI (units.getD i []) 0) (cI (units.getD i []) 1) (cI (slots.getD q []) 0) (cI (slots.getD q []) 1) = DD units slots i q := rfl
      rw [hDq]
      rcases hst (.inl hl') with ⟨q1, q2⟩ | ⟨i2, q1, q2, q3⟩
      · rw [hq, Int.toNat_natCast] at q2
        have hlt : ¬ DD units slots i k < DD units slots i q := by omega
        rcases hown with ⟨o1, o2⟩ | ⟨i', o1, o2, o3⟩
        · simp only [o1, beq_self_eq_true, cond_true, hlt, decide_false, cond_false]
        · obtain ⟨g5, g6⟩ := okV_get hu i' o1
          have e1 : ((i' : Int) + 1 == 0) = false := by simp; omega
          have e2 : wr ((i' : Int) + 1 - 1) = i' := by rw [wr_in (by omega) (by omega)]; omega
          have e3 : (0 : Int) ≤ i' := by omega
          simp only [o3, e1, cond_false, e2, e3, decide_true, cond_true, Int.toNat_natCast, g5, g6, Option.bind_some, hlt, decide_false]
      · rcases hown with ⟨o1, o2⟩ | ⟨i', o1, o2, o3⟩
        · exact absurd q2 (o2 i2 q1)
        · obtain ⟨g5, g6⟩ := okV_get hu i' o1
          have e1 : ((i' : Int) + 1 == 0) = false := by simp; omega
          have e2 : wr ((i' : Int) + 1 - 1) = i' := by rw [wr_in (by omega) (by omega)]; omega
          have e3 : (0 : Int) ≤ i' := by omega
          have := h.inj i2 i' q1 o1 (by omega) (by rw [q2, o2])
          subst this
          have hlt : ¬ DD units slots i k < dd (cI (units.getD i2 []) 0) (cI (units.getD i2 []) 1) (cI (slots.getD k []) 0) (cI (slots.getD k []) 1) := by
            show ¬ DD units slots i k < DD units slots i2 k
            omega
          simp only [o3, e1, cond_false, e2, e3, decide_true, cond_true, Int.toNat_natCast, g5, g6, Option.bind_some, hlt, decide_false]
          cases decide (DD units slots i k < DD units slots i q) <;> rfl
theorem stable1_G (units slots : List (List AVal)) (hu : okV units) (hs : okV slots) (hU : units.length ≤ 64) (hK : slots.length ≤ 64) (L O : List Int) (T : List Bool) (h : Inv (DD units slots) units.length slots.length (min units.length slots.length) L T) (ho : Own L slots.length units.length O) :
    ∀ (m r i : Nat), i + r = units.length → r < m → G_skirmishlaw18_FormationAssigns_1 (rI L) (rI O) units slots m i = some false
  | 0, r, i, h1, h2 => by omega
  | m + 1, 0, i, h1, h2 => by
    have : ¬ ((i : Int) < units.length) := by omega
    simp only [G_skirmishlaw18_FormationAssigns_1, Int.ofNat_eq_natCast, this, decide_false, cond_false]
  | m + 1, r + 1, i, h1, h2 => by
    have hi : (i : Int) < units.length := by omega
    have h2' := stable2_G units slots hu hs hU hK L O T h ho i (by omega) FU slots.length 0 (by omega) (by unfold FU; omega)
    have h2'' : G_skirmishlaw18_FormationAssigns_2 (rI L) (rI O) units slots i FU 0 = some false := h2'
    simp only [G_skirmishlaw18_FormationAssigns_1, Int.ofNat_eq_natCast, hi, decide_true, cond_true, h2'', Option.bind_some, cond_false, wr_succ i (by omega)]
    exact stable1_G units slots hu hs hU hK L O T h ho m r (i + 1) (by omega) (by omega)

theorem pure_FormationAssigns (units slots : List (List AVal)) (hu : Ty Try.prog (.sl 23 2) (.ro 2 units)) (hs : Ty Try.prog (.sl 23 2) (.ro 2 slots)) : F_skirmishlaw18_FormationAssigns units slots = some true := by
  have hu := (okV_of (by kernel_rfl) hu).1
  have hs := (okV_of (by kernel_rfl) hs).1
  simp only [F_skirmishlaw18_FormationAssigns, Int.ofNat_eq_natCast, awake18, Option.bind_some]
  by_cases hb : 64 < units.length ∨ 64 < slots.length
  · obtain ⟨e1, e2⟩ := assign_big units slots hb
    by_cases h1 : (units.length : Int) > 64
    · simp only [h1, decide_true, cond_true, e1, Option.bind_some]; rfl
    · have h2 : (slots.length : Int) > 64 := by omega
      simp only [h1, h2, decide_true, decide_false, cond_true, cond_false, e1, Option.bind_some]; rfl
  · have h1 : ¬ ((units.length : Int) > 64) := by omega
    have h2 : ¬ ((slots.length : Int) > 64) := by omega
    obtain ⟨L, T, e1, e2, e3⟩ := assign_eq units slots hu hs (by omega) (by omega)
    obtain ⟨O, z, o1, o2⟩ := owners_G (DD units slots) slots L T units.length _ (by omega) (by omega) e3 FU units.length 0 (List.replicate slots.length 0) (by omega) (by unfold FU; omega) ⟨by simp, fun k hk => .inl ⟨by simp [List.getD, hk], fun i hi => by omega⟩⟩
    have o1' : G_skirmishlaw18_FormationAssigns_0 (rI L) slots FU (rI (List.replicate slots.length 0)) 0 0 = some (false, rI O, (cntTo L units.length : Int), z) := o1
    have s1 := stable1_G units slots hu hs (by omega) (by omega) L O T e3 o2 FU units.length 0 (by omega) (by unfold FU; omega)
    have s1' : G_skirmishlaw18_FormationAssigns_1 (rI L) (rI O) units slots FU 0 = some false := s1
    have hc : (cntTo L units.length : Int) = minI units.length slots.length := by
      unfold cntTo
      rw [List.take_of_length_le (by rw [e3.lenL]; omega), e3.cntL, minI_eq]
      omega
    have hlen : ((rI L).length : Int) = units.length := by rw [rI_len, e3.lenL]
    simp only [h1, h2, decide_false, cond_false, e1, Option.bind_some, hlen, bne_self_eq_false, decide_true, Bool.true_and, mk_ok slots.length 8 (by omega) (by omega) (by omega), cond_true, Int.toNat_natCast, rI_rep, o1', s1', hc, beq_self_eq_true]
end Go.Proofs.Ytjgaaicflenbbaa.AI
