/- Chapter 18: the assignment: rounds, and what they keep. -/
import Derived.Test.YtjgaaicflenbbaaQ18
namespace Go.Proofs.Ytjgaaicflenbbaa.AI
open Go.RowKit
set_option linter.unusedVariables false
set_option linter.unusedSimpArgs false

/-- What a scan of the pairs in S has found. -/
def Found (L : List Int) (T : List Bool) (D : Nat → Nat → Int) (S : Nat → Nat → Prop) (a : Int × Int × Int) : Prop :=
  (a.1 < 0 ∧ ∀ i k, S i k → el L T i k = false) ∨ ∃ u p : Nat, a = ((u : Int), (p : Int), D u p) ∧ el L T u p = true ∧ S u p ∧ ∀ i k, S i k → el L T i k = true → D u p ≤ D i k
theorem found_step {L : List Int} {T : List Bool} {D : Nat → Nat → Int} {S : Nat → Nat → Prop} {a : Int × Int × Int} (h : Found L T D S a) (i k : Nat) :
    Found L T D (fun i' k' => S i' k' ∨ (i' = i ∧ k' = k)) (if el L T i k = true ∧ (a.1 < 0 ∨ D i k < a.2.2) then ((i : Int), (k : Int), D i k) else a) := by
  by_cases hc : el L T i k = true ∧ (a.1 < 0 ∨ D i k < a.2.2)
  · rw [if_pos hc]
    refine .inr ⟨i, k, rfl, hc.1, .inr ⟨rfl, rfl⟩, fun i' k' hs he => ?_⟩
    rcases hs with hs | ⟨rfl, rfl⟩
    · rcases h with ⟨h1, h2⟩ | ⟨u, p, rfl, h2, h3, h4⟩
      · rw [h2 i' k' hs] at he; cases he
      · have := h4 i' k' hs he
        rcases hc.2 with hc2 | hc2
        · simp only at hc2; omega
        · simp only at hc2; omega
    · exact Int.le_refl _
  · rw [if_neg hc]
    rcases h with ⟨h1, h2⟩ | ⟨u, p, rfl, h2, h3, h4⟩
    · refine .inl ⟨h1, fun i' k' hs => ?_⟩
      rcases hs with hs | ⟨rfl, rfl⟩
      · exact h2 i' k' hs
      · cases he : el L T i' k' with
        | false => rfl
        | true => exact absurd ⟨he, .inl h1⟩ hc
    · refine .inr ⟨u, p, rfl, h2, .inl h3, fun i' k' hs he => ?_⟩
      rcases hs with hs | ⟨rfl, rfl⟩
      · exact h4 i' k' hs he
      · by_cases hd : D i' k' < D u p
        · exact absurd ⟨he, .inr hd⟩ hc
        · omega
theorem found_cong {L : List Int} {T : List Bool} {D : Nat → Nat → Int} {S S' : Nat → Nat → Prop} {a : Int × Int × Int} (h : Found L T D S a) (hs : ∀ i k, S i k ↔ S' i k) : Found L T D S' a := by
  have : S = S' := by funext i k; exact propext (hs i k)
  rw [← this]; exact h
theorem s3_found {L : List Int} {T : List Bool} {D : Nat → Nat → Int} (i : Nat) : ∀ (n k : Nat) (S : Nat → Nat → Prop) (a : Int × Int × Int), Found L T D S a → Found L T D (fun i' k' => S i' k' ∨ (i' = i ∧ k ≤ k' ∧ k' < k + n)) (s3 L T D i n k a)
  | 0, k, S, a, h => found_cong h fun i' k' => ⟨.inl, fun h => h.elim id fun h => by omega⟩
  | n + 1, k, S, a, h => by
    refine found_cong (s3_found i n (k + 1) _ _ (found_step h i k)) fun i' k' => ?_
    constructor
    · rintro ((h | ⟨h1, h2⟩) | ⟨h1, h2, h3⟩)
      · exact .inl h
      · exact .inr ⟨h1, by omega, by omega⟩
      · exact .inr ⟨h1, by omega, by omega⟩
    · rintro (h | ⟨h1, h2, h3⟩)
      · exact .inl (.inl h)
      · by_cases hk : k' = k
        · exact .inl (.inr ⟨h1, hk⟩)
        · exact .inr ⟨h1, by omega, by omega⟩
theorem s2_found {L : List Int} {T : List Bool} {D : Nat → Nat → Int} (K : Nat) : ∀ (n i : Nat) (S : Nat → Nat → Prop) (a : Int × Int × Int), Found L T D S a → Found L T D (fun i' k' => S i' k' ∨ (i ≤ i' ∧ i' < i + n ∧ k' < K)) (s2 L T D K n i a)
  | 0, i, S, a, h => found_cong h fun i' k' => ⟨.inl, fun h => h.elim id fun h => by omega⟩
  | n + 1, i, S, a, h => by
    refine found_cong (s2_found K n (i + 1) _ _ (s3_found i K 0 S a h)) fun i' k' => ?_
    constructor
    · rintro ((h | ⟨h1, h2, h3⟩) | ⟨h1, h2, h3⟩)
      · exact .inl h
      · exact .inr ⟨by omega, by omega, by omega⟩
      · exact .inr ⟨by omega, by omega, h3⟩
    · rintro (h | ⟨h1, h2, h3⟩)
      · exact .inl (.inl h)
      · by_cases hk : i' = i
        · exact .inl (.inr ⟨hk, by omega, by omega⟩)
        · exact .inr ⟨by omega, by omega, h3⟩
/-- The pair of a round. -/
def pick (L : List Int) (T : List Bool) (D : Nat → Nat → Int) (N K : Nat) : Int × Int × Int := s2 L T D K N 0 (-1, -1, 0)
theorem pick_found (L : List Int) (T : List Bool) (D : Nat → Nat → Int) (N K : Nat) : Found L T D (fun i k => i < N ∧ k < K) (pick L T D N K) :=
  found_cong (s2_found K N 0 (fun _ _ => False) (-1, -1, 0) (.inl ⟨by decide, fun _ _ h => h.elim⟩)) fun i k => ⟨fun h => h.elim (fun h => h.elim) fun h => ⟨by omega, h.2.2⟩, fun h => .inr ⟨by omega, by omega, h.2⟩⟩

/-- What the rounds keep: 'j' units have a place. -/
structure Inv (D : Nat → Nat → Int) (N K j : Nat) (L : List Int) (T : List Bool) : Prop where
  lenL : L.length = N
  lenT : T.length = K
  cntL : L.countP (fun v => decide (0 ≤ v)) = j
  cntT : T.countP id = j
  low : ∀ i, i < N → -1 ≤ L.getD i 0 ∧ L.getD i 0 < K
  tak : ∀ k, k < K → (T.getD k false = true ↔ ∃ i, i < N ∧ L.getD i 0 = k)
  inj : ∀ i i', i < N → i' < N → 0 ≤ L.getD i 0 → L.getD i 0 = L.getD i' 0 → i = i'
  stable : ∀ i k, i < N → k < K → (0 ≤ L.getD i 0 ∨ T.getD k false = true) → (0 ≤ L.getD i 0 ∧ D i (L.getD i 0).toNat ≤ D i k) ∨ ∃ i', i' < N ∧ L.getD i' 0 = k ∧ D i' k ≤ D i k

theorem countP_all {α : Type} (p : α → Bool) : ∀ (l : List α) (d : α), (∀ i, i < l.length → p (l.getD i d) = true) → l.countP p = l.length
  | [], _, _ => rfl
  | x :: l, d, h => by
    rw [List.countP_cons, countP_all p l d (fun i hi => by have := h (i + 1) (by simpa using hi); simpa using this)]
    have := h 0 (by simp)
    simp only [List.getD_cons_zero] at this
    simp [this]
theorem free_unit {D : Nat → Nat → Int} {N K j : Nat} {L : List Int} {T : List Bool} (h : Inv D N K j L T) (hj : j < N) : ∃ i, i < N ∧ L.getD i 0 < 0 := by
  refine Classical.byContradiction fun hn => ?_
  have := countP_all (fun v => decide (0 ≤ v)) L 0 fun i hi => by
    refine decide_eq_true (Classical.byContradiction fun hh => hn ⟨i, by rw [← h.lenL]; exact hi, by omega⟩)
  rw [h.cntL, h.lenL] at this
  omega
theorem free_slot {D : Nat → Nat → Int} {N K j : Nat} {L : List Int} {T : List Bool} (h : Inv D N K j L T) (hj : j < K) : ∃ k, k < K ∧ T.getD k false = false := by
  refine Classical.byContradiction fun hn => ?_
  have := countP_all id T false fun i hi => by
    cases hb : T.getD i false with
    | true => rfl
    | false => exact absurd ⟨i, by rw [← h.lenT]; exact hi, hb⟩ hn
  rw [h.cntT, h.lenT] at this
  omega
theorem countP_set' {α : Type} (p : α → Bool) : ∀ (l : List α) (i : Nat) (v d : α), i < l.length → p (l.getD i d) = false → p v = true → (l.set i v).countP p = l.countP p + 1
  | [], _, _, _, h, _, _ => by simp at h
  | x :: l, 0, v, d, h, h1, h2 => by
    simp only [List.getD_cons_zero] at h1
    simp [List.set_cons_zero, List.countP_cons, h1, h2]
  | x :: l, i + 1, v, d, h, h1, h2 => by
    simp only [List.getD_cons_succ] at h1
    simp only [List.set_cons_succ, List.countP_cons, countP_set' p l i v d (by simpa using h) h1 h2]
    omega

/-- A round. -/
theorem inv_step {D : Nat → Nat → Int} {N K j : Nat} {L : List Int} {T : List Bool} (h : Inv D N K j L T) {u p : Nat} (hu : u < N) (hp : p < K) (he : el L T u p = true) (hmin : ∀ i k, i < N ∧ k < K → el L T i k = true → D u p ≤ D i k) :
    Inv D N K (j + 1) (L.set u p) (T.set p true) := by
  obtain ⟨e1, e2⟩ := el_iff.1 he
  have gL : ∀ i, (L.set u (p : Int)).getD i 0 = if i = u then (p : Int) else L.getD i 0 := fun i => getD_set L u i p 0 (by rw [h.lenL]; exact hu)
  have gT : ∀ k, (T.set p true).getD k false = if k = p then true else T.getD k false := fun k => getD_set T p k true false (by rw [h.lenT]; exact hp)
  have np : ∀ i, i < N → L.getD i 0 ≠ p := fun i hi hh => by
    have := (h.tak p hp).2 ⟨i, hi, hh⟩
    rw [e2] at this; cases this
  refine ⟨by simp [h.lenL], by simp [h.lenT], ?_, ?_, fun i hi => ?_, fun k hk => ?_, fun i i' hi hi' h0 hh => ?_, fun i k hi hk hor => ?_⟩
  · rw [countP_set' _ L u p 0 (by rw [h.lenL]; exact hu) (decide_eq_false (by omega)) (decide_eq_true (by omega)), h.cntL]
  · rw [countP_set' _ T p true false (by rw [h.lenT]; exact hp) (by simpa using e2) rfl, h.cntT]
  · rw [gL]
    split
    · omega
    · exact h.low i hi
  · rw [gT]
    by_cases hkp : k = p
    · subst hkp
      simp only [if_true, true_iff]
      exact ⟨u, hu, by rw [gL, if_pos rfl]⟩
    · rw [if_neg hkp, h.tak k hk]
      constructor
      · rintro ⟨i, hi, hh⟩
        have : i ≠ u := fun e => by subst e; omega
        exact ⟨i, hi, by rw [gL, if_neg this]; exact hh⟩
      · rintro ⟨i, hi, hh⟩
        rw [gL] at hh
        split at hh
        · omega
        · exact ⟨i, hi, hh⟩
  · rw [gL] at h0 hh
    rw [gL] at hh
    by_cases c1 : i = u <;> by_cases c2 : i' = u
    · rw [c1, c2]
    · rw [if_pos c1, if_neg c2] at hh
      exact absurd hh.symm (np i' hi')
    · rw [if_neg c1, if_pos c2] at hh
      exact absurd hh (np i hi)
    · rw [if_neg c1, if_neg c2] at hh
      rw [if_neg c1] at h0
      exact h.inj i i' hi hi' h0 hh
  · -- stable
    have old : (0 ≤ L.getD i 0 ∨ T.getD k false = true) → (0 ≤ (L.set u (p : Int)).getD i 0 ∧ D i ((L.set u (p : Int)).getD i 0).toNat ≤ D i k) ∨ ∃ i', i' < N ∧ (L.set u (p : Int)).getD i' 0 = k ∧ D i' k ≤ D i k := by
      intro hh
      rcases h.stable i k hi hk hh with ⟨q1, q2⟩ | ⟨i', q1, q2, q3⟩
      · have : i ≠ u := fun e => by subst e; omega
        rw [gL, if_neg this]
        exact .inl ⟨q1, q2⟩
      · have : i' ≠ u := fun e => by subst e; omega
        exact .inr ⟨i', q1, by rw [gL, if_neg this]; exact q2, q3⟩
    by_cases hh : 0 ≤ L.getD i 0 ∨ T.getD k false = true
    · exact old hh
    · have he' : el L T i k = true := el_iff.2 ⟨by omega, by
        cases hb : T.getD k false with
        | false => rfl
        | true => exact absurd (.inr hb) hh⟩
      have hm := hmin i k ⟨hi, hk⟩ he'
      rw [gL, gT] at hor
      by_cases c1 : i = u
      · rw [gL, if_pos c1]
        refine .inl ⟨by omega, ?_⟩
        rw [Int.toNat_natCast]
        subst c1
        exact hm
      · rw [if_neg c1] at hor
        by_cases c2 : k = p
        · subst c2
          exact .inr ⟨u, hu, by rw [gL, if_pos rfl], hm⟩
        · rw [if_neg c2] at hor
          exact absurd hor hh

theorem inv_zero (D : Nat → Nat → Int) (N K : Nat) : Inv D N K 0 (List.replicate N (-1)) (List.replicate K false) := by
  have g1 : ∀ i, i < N → (List.replicate N (-1 : Int)).getD i 0 = -1 := fun i hi => by simp [List.getD, hi]
  have g2 : ∀ k, (List.replicate K false).getD k false = false := fun k => by
    simp only [List.getD, List.getElem?_replicate]
    split <;> rfl
  refine ⟨by simp, by simp, by simp, by simp, fun i hi => by rw [g1 i hi]; omega, fun k hk => ?_, fun i i' hi _ h0 _ => by rw [g1 i hi] at h0; omega, fun i k hi hk hor => ?_⟩
  · rw [g2]
    constructor
    · intro h; cases h
    · rintro ⟨i, hi, hh⟩
      rw [g1 i hi] at hh
      omega
  · rw [g1 i hi, g2] at hor
    rcases hor with h | h
    · omega
    · cases h

theorem assign1_g (units slots : List (List AVal)) (hu : okV units) (hs : okV slots) (hU : units.length ≤ 64) (hK : slots.length ≤ 64) : ∀ (m n j : Nat) (L : List Int) (T : List Bool), j + n = min units.length slots.length → n < m → Inv (DD units slots) units.length slots.length j L T →
    ∃ L' T', G_formation_Assign_1 units slots (min units.length slots.length : Nat) m (rI L) (rB T) j = some (rI L', rB T') ∧ (∀ m', n < m' → G_skirmishref18_Assign_1 units slots m' (rI L) (rB T) = some (rI L', rB T')) ∧ Inv (DD units slots) units.length slots.length (min units.length slots.length) L' T'
  | 0, n, j, L, T, h1, h2, h => by omega
  | m + 1, 0, j, L, T, h1, h2, h => by
    have hj : j = min units.length slots.length := by omega
    have hn : ¬ ((j : Int) < (min units.length slots.length : Nat)) := by omega
    refine ⟨L, T, by simp only [G_formation_Assign_1, hn, decide_false, cond_false], fun m' hm' => ?_, by rw [← hj]; exact h⟩
    obtain ⟨q, rfl⟩ : ∃ q, m' = q + 1 := ⟨m' - 1, by omega⟩
    have h3 := assign2_r units slots hu hs L T h.lenT hK h.lenL (by rw [h.lenL]; exact hU) FU units.length 0 (-1, -1, 0) (by omega) (by unfold FU; omega)
    have hf := pick_found L T (DD units slots) units.length slots.length
    have hneg : (pick L T (DD units slots) units.length slots.length).1 < 0 := by
      rcases hf with ⟨h, _⟩ | ⟨u, p, he, hel, ⟨hu', hp'⟩, _⟩
      · exact h
      · exfalso
        obtain ⟨e1, e2⟩ := el_iff.1 hel
        rcases Nat.lt_or_ge slots.length units.length with hlt | hge
        · -- all places are taken
          have hjk : j = slots.length := by omega
          have hc := h.cntT
          have : T.countP id < T.length := by
            refine Nat.lt_of_le_of_ne List.countP_le_length fun heq => ?_
            have hall := (List.countP_eq_length.1 heq) (T[p]'(by rw [h.lenT]; exact hp')) (List.getElem_mem _)
            have hg : T.getD p false = T[p]'(by rw [h.lenT]; exact hp') := by simp [List.getD, h.lenT, hp']
            rw [← hg, e2] at hall
            cases hall
          rw [hc, h.lenT] at this
          omega
        · have hc := h.cntL
          have : L.countP (fun v => decide (0 ≤ v)) < L.length := by
            refine Nat.lt_of_le_of_ne List.countP_le_length fun heq => ?_
            have hall := (List.countP_eq_length.1 heq) (L[u]'(by rw [h.lenL]; exact hu')) (List.getElem_mem _)
            have hg : L.getD u 0 = L[u]'(by rw [h.lenL]; exact hu') := by simp [List.getD, h.lenL, hu']
            rw [← hg] at hall
            simp only [decide_eq_true_eq] at hall
            omega
          rw [hc, h.lenL] at this
          omega
    have h3' : G_skirmishref18_Assign_2 (rI L) (rB T) units slots FU (-1) (-1) 0 0 = some ((pick L T (DD units slots) units.length slots.length).1, (pick L T (DD units slots) units.length slots.length).2.1) := h3
    simp only [G_skirmishref18_Assign_1, h3', Option.bind_some, hneg, decide_true, cond_true]
  | m + 1, n + 1, j, L, T, h1, h2, h => by
    have hj : (j : Int) < (min units.length slots.length : Nat) := by omega
    have h3 := assign2_r units slots hu hs L T h.lenT hK h.lenL (by rw [h.lenL]; exact hU) FU units.length 0 (-1, -1, 0) (by omega) (by unfold FU; omega)
    have h4 := assign2_g units slots hu hs L T h.lenT hK h.lenL (by rw [h.lenL]; exact hU) FU units.length 0 (-1, -1, 0) (by omega) (by unfold FU; omega)
    have hf := pick_found L T (DD units slots) units.length slots.length
    obtain ⟨i0, hi0, hl0⟩ := free_unit h (by omega)
    obtain ⟨k0, hk0, ht0⟩ := free_slot h (by omega)
    rcases hf with ⟨_, hno⟩ | ⟨u, p, he, hel, ⟨hu', hp'⟩, hmin⟩
    · exact absurd (hno i0 k0 ⟨hi0, hk0⟩) (by rw [el_iff.2 ⟨hl0, ht0⟩]; simp)
    · have hinv := inv_step h hu' hp' hel hmin
      obtain ⟨L', T', r1, r2, r3⟩ := assign1_g units slots hu hs hU hK m n (j + 1) _ _ (by omega) (by omega) hinv
      unfold pick at he
      have hw : wr ((j : Int) + 1) = ((j + 1 : Nat) : Int) := by rw [wr_in (by omega) (by omega)]; simp
      simp only [he] at h3 h4
      have h3' : G_skirmishref18_Assign_2 (rI L) (rB T) units slots FU (-1) (-1) 0 0 = some ((u : Int), (p : Int)) := h3
      have h4' : G_formation_Assign_2 (rI L) (rB T) slots units units.length FU (-1) (-1) 0 0 = some ((u : Int), (p : Int)) := h4
      have d1 : (0 : Int) ≤ u := by omega
      have d2 : (u : Int) < units.length := by omega
      have d3 : (0 : Int) ≤ p := by omega
      have d4 : (p : Int) < slots.length := by omega
      have d5 : ¬ (u : Int) < 0 := by omega
      refine ⟨L', T', ?_, fun m' hm' => ?_, r3⟩
      · simp only [G_formation_Assign_1, Int.ofNat_eq_natCast, hj, decide_true, cond_true, h4', Option.bind_some, rI_len, rB_len, h.lenL, h.lenT, d1, d2, d3, d4, Bool.and_self, Int.toNat_natCast, rI_set, rB_set, hw]
        exact r1
      · obtain ⟨q, rfl⟩ : ∃ q, m' = q + 1 := ⟨m' - 1, by omega⟩
        simp only [G_skirmishref18_Assign_1, Int.ofNat_eq_natCast, rI_len, rB_len, h.lenL, h.lenT, h3', Option.bind_some, d5, decide_false, cond_false, d1, d2, d3, d4, decide_true, Bool.and_self, cond_true, Int.toNat_natCast, rI_set, rB_set]
        exact r2 q (by omega)
end Go.Proofs.Ytjgaaicflenbbaa.AI
