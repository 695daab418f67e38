/- Chapter 18: the places are distinct. -/
import Derived.Test.YtjgaaicflenbbaaQ18e
namespace Go.Proofs.Ytjgaaicflenbbaa.AI
open Go.RowKit
set_option linter.unusedVariables false
set_option linter.unusedSimpArgs false

theorem tdiv_gap {d a b : Int} (hd : 0 < d) : -(2 * d) < (a - b) - d * (a.tdiv d - b.tdiv d) ∧ (a - b) - d * (a.tdiv d - b.tdiv d) < 2 * d := by
  have h1 := Int.mul_tdiv_add_tmod a d
  have h2 := Int.mul_tdiv_add_tmod b d
  have h3 := Int.tmod_lt_of_pos a hd
  have h4 := Int.tmod_lt_of_pos b hd
  have h5 : -d < a.tmod d := by have := Int.lt_tmod_of_pos a hd; omega
  have h6 : -d < b.tmod d := by have := Int.lt_tmod_of_pos b hd; omega
  rw [Int.mul_sub]
  omega
theorem tdiv_le {d a B : Int} (hd : 0 < d) (h : -(d * B) ≤ a ∧ a ≤ d * B) : -B ≤ a.tdiv d ∧ a.tdiv d ≤ B := by
  have h1 := Int.mul_tdiv_add_tmod a d
  have h3 := Int.tmod_lt_of_pos a hd
  have h5 : -d < a.tmod d := by have := Int.lt_tmod_of_pos a hd; omega
  constructor
  · rcases Int.lt_or_le (a.tdiv d) (-B) with h' | h'
    · have := Int.mul_le_mul_of_nonneg_left (show a.tdiv d ≤ -B - 1 by omega) (show 0 ≤ d by omega)
      rw [show d * (-B - 1) = -(d * B) - d by grind] at this
      omega
    · exact h'
  · rcases Int.lt_or_le B (a.tdiv d) with h' | h'
    · have := Int.mul_le_mul_of_nonneg_left (show B + 1 ≤ a.tdiv d by omega) (show 0 ≤ d by omega)
      rw [show d * (B + 1) = d * B + d by grind] at this
      omega
    · exact h'
theorem abs_le {f z : Int} (hz : 0 ≤ z) (h : f * f ≤ z * z) : -z ≤ f ∧ f ≤ z := by
  constructor
  · rcases Int.lt_or_le f (-z) with h' | h'
    · have := Int.mul_le_mul (show z + 1 ≤ -f by omega) (show z + 1 ≤ -f by omega) (by omega) (by omega)
      rw [show (z + 1) * (z + 1) = z * z + 2 * z + 1 by grind, show -f * -f = f * f by grind] at this
      omega
    · exact h'
  · rcases Int.lt_or_le z f with h' | h'
    · have := Int.mul_le_mul (show z + 1 ≤ f by omega) (show z + 1 ≤ f by omega) (by omega) (by omega)
      rw [show (z + 1) * (z + 1) = z * z + 2 * z + 1 by grind] at this
      omega
    · exact h'
/-- A part, with nothing cut off. -/
theorem partN_id {x y n d B : Int} (hx : -65536 ≤ x ∧ x ≤ 65536) (hy : -65536 ≤ y ∧ y ≤ 65536) (hn : -65536 ≤ n ∧ n ≤ 65536) (hd : 1 ≤ d ∧ d ≤ 1048576) (hxd : -d ≤ x ∧ x ≤ d) (hyd : -d ≤ y ∧ y ≤ d) : partN x y n d = ((x * n).tdiv d, (y * n).tdiv d) ∧ -65536 ≤ (x * n).tdiv d ∧ (x * n).tdiv d ≤ 65536 ∧ -65536 ≤ (y * n).tdiv d ∧ (y * n).tdiv d ≤ 65536 := by
  have k1 := tdiv_le (show 0 < d by omega) (mul_bound hxd hn (by omega) (by omega))
  have k2 := tdiv_le (show 0 < d by omega) (mul_bound hyd hn (by omega) (by omega))
  refine ⟨?_, by omega, by omega, by omega, by omega⟩
  unfold partN
  rw [nr_id (n := d) (by omega) (by omega), nr_id (n := x) (by omega) (by omega), nr_id (n := y) (by omega) (by omega), nr_id (n := n) (by omega) (by omega), if_neg (by omega), nr_id (by omega) (by omega), nr_id (by omega) (by omega)]

theorem posN_id {ax ay fx fy s z : Int} {c i j : Nat} (ha : -524288 ≤ ax ∧ ax ≤ 524288) (hb : -524288 ≤ ay ∧ ay ≤ 524288) (hx : -65536 ≤ fx ∧ fx ≤ 65536) (hy : -65536 ≤ fy ∧ fy ≤ 65536) (hs : 0 ≤ s ∧ s ≤ 1024) (hz : 1 ≤ z ∧ z ≤ 100000) (hxz : -z ≤ fx ∧ fx ≤ z) (hyz : -z ≤ fy ∧ fy ≤ z) (hc : c ≤ 64) (hj : j < c) (hi : i ≤ 63) :
    posN ax ay fx fy s z c i j = (ax + (-fy * ((2 * j - (c - 1)) * s)).tdiv (2 * z) + (fx * ((0 - i) * s)).tdiv z, ay + (fx * ((2 * j - (c - 1)) * s)).tdiv (2 * z) + (fy * ((0 - i) * s)).tdiv z) := by
  have n1 := mul_bound (a := 2 * (j : Int) - (c - 1)) (b := s) (A := 63) (B := 1024) (by omega) (by omega) (by omega) (by omega)
  have n2 := mul_bound (a := 0 - (i : Int)) (b := s) (A := 63) (B := 1024) (by omega) (by omega) (by omega) (by omega)
  have p1 := partN_id (x := -fy) (y := fx) (n := (2 * j - (c - 1)) * s) (d := 2 * z) (B := 0) (by omega) (by omega) (by omega) (by omega) (by omega) (by omega)
  have p2 := partN_id (x := fx) (y := fy) (n := (0 - i) * s) (d := z) (B := 0) (by omega) (by omega) (by omega) (by omega) (by omega) (by omega)
  obtain ⟨p1, q1, q2, q3, q4⟩ := p1
  obtain ⟨p2, q5, q6, q7, q8⟩ := p2
  unfold posN
  rw [nr_id (n := fy) (by omega) (by omega), nr_id (n := fx) (by omega) (by omega), p1, p2]
  simp only
  have e : ∀ (a u v : Int), -524288 ≤ a ∧ a ≤ 524288 → -65536 ≤ u ∧ u ≤ 65536 → -65536 ≤ v ∧ v ≤ 65536 → nr (nr (nr (nr a + nr u)) + nr v) = a + u + v := by
    intro a u v h1 h2 h3
    rw [nr_id (n := a) (by omega) (by omega), nr_id (n := u) (by omega) (by omega), nr_id (n := v) (by omega) (by omega), nr_id (n := a + u) (by omega) (by omega), nr_id (n := a + u) (by omega) (by omega), nr_id (by omega) (by omega)]
  rw [e ax _ _ ha ⟨q1, q2⟩ ⟨q5, q6⟩, e ay _ _ hb ⟨q3, q4⟩ ⟨q7, q8⟩]

theorem lt_sq {P z : Int} (h1 : -(8 * z) < P) (h2 : P < 8 * z) : P * P < 64 * (z * z) := by
  have e : (8 * z - P) * (8 * z + P) = 64 * (z * z) - P * P := by grind
  have := Int.mul_pos (show 0 < 8 * z - P by omega) (show 0 < 8 * z + P by omega)
  omega
/-- The heart: two places at one spot. -/
theorem no_meet {fx fy s z u u' i i' : Int} (hs : 16 ≤ s) (hz : 1 ≤ z) (hF : 1 ≤ fx * fx + fy * fy) (hz2 : (z - 1) * (z - 1) < fx * fx + fy * fy) (hne : 4 ≤ (u - u') * (u - u') + 4 * ((i - i') * (i - i')))
    (hX : (-fy * (u * s)).tdiv (2 * z) + (fx * ((0 - i) * s)).tdiv z = (-fy * (u' * s)).tdiv (2 * z) + (fx * ((0 - i') * s)).tdiv z)
    (hY : (fx * (u * s)).tdiv (2 * z) + (fy * ((0 - i) * s)).tdiv z = (fx * (u' * s)).tdiv (2 * z) + (fy * ((0 - i') * s)).tdiv z) : False := by
  have gap : ∀ (a a' c c' : Int), a.tdiv (2 * z) + c.tdiv z = a'.tdiv (2 * z) + c'.tdiv z → -(8 * z) < (a - a') + 2 * (c - c') ∧ (a - a') + 2 * (c - c') < 8 * z := by
    intro a a' c c' h
    have g1 := tdiv_gap (a := a) (b := a') (show 0 < 2 * z by omega)
    have g2 := tdiv_gap (a := c) (b := c') (show 0 < z by omega)
    have e1 : a.tdiv (2 * z) - a'.tdiv (2 * z) = -(c.tdiv z - c'.tdiv z) := by omega
    rw [e1, show 2 * z * -(c.tdiv z - c'.tdiv z) = -2 * (z * (c.tdiv z - c'.tdiv z)) by grind] at g1
    omega
  obtain ⟨g1, g2⟩ := gap _ _ _ _ hX
  obtain ⟨g3, g4⟩ := gap _ _ _ _ hY
  have s1 := lt_sq g1 g2
  have s2 := lt_sq g3 g4
  have e : ((-fy * (u * s) - -fy * (u' * s)) + 2 * (fx * ((0 - i) * s) - fx * ((0 - i') * s))) * ((-fy * (u * s) - -fy * (u' * s)) + 2 * (fx * ((0 - i) * s) - fx * ((0 - i') * s))) + ((fx * (u * s) - fx * (u' * s)) + 2 * (fy * ((0 - i) * s) - fy * ((0 - i') * s))) * ((fx * (u * s) - fx * (u' * s)) + 2 * (fy * ((0 - i) * s) - fy * ((0 - i') * s))) = s * s * ((fx * fx + fy * fy) * ((u - u') * (u - u') + 4 * ((i - i') * (i - i')))) := by grind
  generalize fx * fx + fy * fy = F at *
  generalize (u - u') * (u - u') + 4 * ((i - i') * (i - i')) = G at *
  have f1 : F * 4 ≤ F * G := Int.mul_le_mul_of_nonneg_left hne (by omega)
  have f2 : 16 * 16 ≤ s * s := Int.mul_le_mul hs hs (by omega) (by omega)
  have f3 : 16 * 16 * (F * G) ≤ s * s * (F * G) := Int.mul_le_mul_of_nonneg_right f2 (by omega)
  have f4 : 8 * F < z * z := by omega
  have f5 : z * z = (z - 1) * (z - 1) + 2 * (z - 1) + 1 := by grind
  have f6 : z - 1 ≤ (z - 1) * (z - 1) := by
    rcases Int.lt_or_le 0 (z - 1) with h | h
    · have := Int.mul_le_mul_of_nonneg_left (show 1 ≤ z - 1 by omega) (show 0 ≤ z - 1 by omega)
      omega
    · have : z - 1 = 0 := by omega
      rw [this]; decide
  omega

/-- Places that come one after another. -/
def Aft (p q : Nat × Nat × Nat) : Prop := p.2.1 < q.2.1 ∨ (p.2.1 = q.2.1 ∧ p.1 = q.1 ∧ p.2.2 < q.2.2)
theorem places_aft (kind : Int) (n : Nat) (hn : 1 ≤ n ∧ n ≤ 64) : ∀ (f : Nat) (T : List (Nat × Nat × Nat)) (i : Nat), T.length ≤ n → i ≤ T.length → T.Pairwise Aft → (∀ p ∈ T, p.2.1 < i ∧ p.1 ≤ 64 ∧ p.2.2 < p.1 ∧ p.2.1 ≤ 63) →
    (allT kind n f T i).Pairwise Aft ∧ ∀ p ∈ allT kind n f T i, p.1 ≤ 64 ∧ p.2.2 < p.1 ∧ p.2.1 ≤ 63
  | 0, T, i, h1, h2, h3, h4 => ⟨h3, fun p hp => (h4 p hp).2⟩
  | f + 1, T, i, h1, h2, h3, h4 => by
    simp only [allT]
    by_cases hT : T.length < n
    · rw [if_pos hT]
      obtain ⟨c1, c2, c3⟩ := cw_in (kind := kind) (i := i) hn hT
      refine places_aft kind n hn f _ (i + 1) (by simp; omega) (by simp; omega) ?_ ?_
      · rw [List.pairwise_append]
        refine ⟨h3, ?_, ?_⟩
        · rw [List.pairwise_map]
          exact (List.pairwise_lt_range' (s := 0)).imp fun h => .inr ⟨rfl, rfl, h⟩
        · intro a ha b hb
          obtain ⟨j, _, rfl⟩ := List.mem_map.1 hb
          exact .inl (h4 a ha).1
      · intro p hp
        rcases List.mem_append.1 hp with h | h
        · have := h4 p h
          omega
        · obtain ⟨j, hj, rfl⟩ := List.mem_map.1 h
          have := List.mem_range'_1.1 hj
          simp only
          omega
    · rw [if_neg hT]
      exact ⟨h3, fun p hp => (h4 p hp).2⟩
theorem sP_ne {ax ay fx fy s z : Int} {p q : Nat × Nat × Nat} (ha : -524288 ≤ ax ∧ ax ≤ 524288) (hb : -524288 ≤ ay ∧ ay ≤ 524288) (hx : -65536 ≤ fx ∧ fx ≤ 65536) (hy : -65536 ≤ fy ∧ fy ≤ 65536) (hs : 16 ≤ s ∧ s ≤ 1024) (hz : 1 ≤ z ∧ z ≤ 100000) (hF : fx * fx + fy * fy ≤ z * z) (hF1 : 1 ≤ fx * fx + fy * fy) (hz2 : (z - 1) * (z - 1) < fx * fx + fy * fy)
    (hp : p.1 ≤ 64 ∧ p.2.2 < p.1 ∧ p.2.1 ≤ 63) (hq : q.1 ≤ 64 ∧ q.2.2 < q.1 ∧ q.2.1 ≤ 63) (h : Aft p q) : ¬ (cI (sP ax ay fx fy s z q) 0 = cI (sP ax ay fx fy s z p) 0 ∧ cI (sP ax ay fx fy s z q) 1 = cI (sP ax ay fx fy s z p) 1) := by
  have k1 := sq_nonneg' fx
  have k2 := sq_nonneg' fy
  have hxz := abs_le (f := fx) (z := z) (by omega) (by omega)
  have hyz := abs_le (f := fy) (z := z) (by omega) (by omega)
  obtain ⟨c, i, j⟩ := p
  obtain ⟨c', i', j'⟩ := q
  simp only [Aft] at hp hq h
  show ¬ ((posN ax ay fx fy s z c' i' j').1 = (posN ax ay fx fy s z c i j).1 ∧ (posN ax ay fx fy s z c' i' j').2 = (posN ax ay fx fy s z c i j).2)
  rw [posN_id ha hb hx hy (by omega) hz hxz hyz hp.1 hp.2.1 hp.2.2, posN_id ha hb hx hy (by omega) hz hxz hyz hq.1 hq.2.1 hq.2.2]
  simp only
  rintro ⟨hX, hY⟩
  refine no_meet (fx := fx) (fy := fy) (s := s) (z := z) (u := 2 * j' - (c' - 1)) (u' := 2 * j - (c - 1)) (i := i') (i' := i) hs.1 hz.1 hF1 hz2 ?_ (by omega) (by omega)
  have m1 := sq_nonneg' ((2 * (j' : Int) - (c' - 1)) - (2 * (j : Int) - (c - 1)))
  have m2 := sq_nonneg' ((i' : Int) - i)
  rcases h with h | ⟨h1, h2, h3⟩
  · have := Int.mul_le_mul (show (1 : Int) ≤ (i' : Int) - i by omega) (show (1 : Int) ≤ (i' : Int) - i by omega) (by omega) (by omega)
    omega
  · subst h1
    subst h2
    have := Int.mul_le_mul (show (2 : Int) ≤ (2 * (j' : Int) - (c - 1)) - (2 * (j : Int) - (c - 1)) by omega) (show (2 : Int) ≤ (2 * (j' : Int) - (c - 1)) - (2 * (j : Int) - (c - 1)) by omega) (by omega) (by omega)
    omega

theorem dist1_G (R : List (List AVal)) (hR : okV R) (hl : R.length ≤ 64) (i : Nat) (hi : i < R.length) (hne : ∀ k, k < i → ¬ (cI (R.getD i []) 0 = cI (R.getD k []) 0 ∧ cI (R.getD i []) 1 = cI (R.getD k []) 1)) : ∀ (m r k : Nat), k + r = i → r < m → G_skirmishlaw18_FormationDistinct_1 R i m k = some false
  | 0, r, k, h1, h2 => by omega
  | m + 1, 0, k, h1, h2 => by
    have : ¬ ((k : Int) < i) := by omega
    simp only [G_skirmishlaw18_FormationDistinct_1, this, decide_false, cond_false]
  | m + 1, r + 1, k, h1, h2 => by
    have d1 : (k : Int) < i := by omega
    have d2 : (k : Int) < R.length := by omega
    have d3 : (i : Int) < R.length := by omega
    have d4 : (0 : Int) ≤ k := by omega
    have d5 : (0 : Int) ≤ i := by omega
    obtain ⟨g1, g2⟩ := okV_get hR i hi
    obtain ⟨g3, g4⟩ := okV_get hR k (by omega)
    have e : (cI (R.getD i []) 0 == cI (R.getD k []) 0 && cI (R.getD i []) 1 == cI (R.getD k []) 1) = false := by
      rw [Bool.eq_false_iff]
      intro hh
      simp only [Bool.and_eq_true, beq_iff_eq] at hh
      exact hne k (by omega) hh
    simp only [G_skirmishlaw18_FormationDistinct_1, Int.ofNat_eq_natCast, d1, d2, d3, d4, d5, decide_true, Bool.and_self, cond_true, Int.toNat_natCast, g1, g2, g3, g4, Option.bind_some, e, cond_false, wr_succ k (by omega)]
    exact dist1_G R hR hl i hi hne m r (k + 1) (by omega) (by omega)
theorem dist0_G (R : List (List AVal)) (hR : okV R) (hl : R.length ≤ 64) (hne : ∀ i k, i < R.length → k < i → ¬ (cI (R.getD i []) 0 = cI (R.getD k []) 0 ∧ cI (R.getD i []) 1 = cI (R.getD k []) 1)) : ∀ (m r i : Nat), i + r = R.length → r < m → G_skirmishlaw18_FormationDistinct_0 R m i = some false
  | 0, r, i, h1, h2 => by omega
  | m + 1, 0, i, h1, h2 => by
    have : ¬ ((i : Int) < R.length) := by omega
    simp only [G_skirmishlaw18_FormationDistinct_0, Int.ofNat_eq_natCast, this, decide_false, cond_false]
  | m + 1, r + 1, i, h1, h2 => by
    have d1 : (i : Int) < R.length := by omega
    have h3 := dist1_G R hR hl i (by omega) (fun k hk => hne i k (by omega) hk) FU i 0 (by omega) (by unfold FU; omega)
    have h3' : G_skirmishlaw18_FormationDistinct_1 R i FU 0 = some false := h3
    simp only [G_skirmishlaw18_FormationDistinct_0, Int.ofNat_eq_natCast, d1, decide_true, cond_true, h3', Option.bind_some, cond_false, wr_succ i (by omega)]
    exact dist0_G R hR hl hne m r (i + 1) (by omega) (by omega)

theorem fac_sq (fx fy : Int) : dotN (fac fx fy).1 (fac fx fy).2 (fac fx fy).1 (fac fx fy).2 = (fac fx fy).1 * (fac fx fy).1 + (fac fx fy).2 * (fac fx fy).2 := by
  have := fac_in fx fy
  unfold dotN
  rw [nr_id (n := (fac fx fy).1) (by omega) (by omega), nr_id (n := (fac fx fy).2) (by omega) (by omega)]
theorem pure_FormationDistinct (kind n sp ax ay fx fy : Int) (h0 : wf .i64 kind) (h1 : wf .i64 n) (h2 : wf .i64 sp) (h3 : wf .i64 ax) (h4 : wf .i64 ay) (h5 : wf .i64 fx) (h6 : wf .i64 fy) : F_skirmishlaw18_FormationDistinct kind n sp ax ay fx fy = some true := by
  have hn := wf_i64 h1
  obtain ⟨l1, l2⟩ := places_len kind n sp fx fy
  have hlen : (slotsN kind n sp ax ay fx fy).length = (places kind n sp fx fy).length := by rw [slotsN, List.length_map]
  simp only [F_skirmishlaw18_FormationDistinct, Slots_g _ _ _ _ _ _ _ hn, Option.bind_some, Int.ofNat_eq_natCast, hlen, awake18]
  by_cases hok : 1 ≤ n ∧ 1 ≤ kind ∧ kind ≤ 4
  · have e := l2 hok
    simp only [show ¬ kind < 1 by omega, show ¬ kind > 4 by omega, show ¬ n < 1 by omega, decide_false, cond_false, e, minI_eq, maxI_eq, bne_self_eq_false]
    by_cases c1 : sp < 16
    · simp only [c1, decide_true, cond_true]
    by_cases c2 : max ax ay > 524288
    · simp only [c1, c2, decide_true, decide_false, cond_true, cond_false]
    by_cases c3 : min ax ay < -524288
    · simp only [c1, c2, c3, decide_true, decide_false, cond_true, cond_false]
    have hf := fac_in fx fy
    have hsq := fac_sq fx fy
    have hdot := dotN_nonneg (fac fx fy).1 (fac fx fy).2
    have q1 := mul_bound (a := (fac fx fy).1) (b := (fac fx fy).1) (A := 65536) (B := 65536) (by omega) (by omega) (by omega) (by omega)
    have q2 := mul_bound (a := (fac fx fy).2) (b := (fac fx fy).2) (A := 65536) (B := 65536) (by omega) (by omega) (by omega) (by omega)
    have hF1 : 1 ≤ (fac fx fy).1 * (fac fx fy).1 + (fac fx fy).2 * (fac fx fy).2 := by
      have r1 := sq_nonneg' (fac fx fy).1
      have r2 := sq_nonneg' (fac fx fy).2
      rcases hf.2.2.2.2 with h | h
      · have : (fac fx fy).1 * (fac fx fy).1 ≠ 0 := Int.mul_ne_zero h h
        omega
      · have : (fac fx fy).2 * (fac fx fy).2 ≠ 0 := Int.mul_ne_zero h h
        omega
    have hz1 : 1 ≤ ln fx fy := csq_pos1 (by omega) hdot.2
    have hF : (fac fx fy).1 * (fac fx fy).1 + (fac fx fy).2 * (fac fx fy).2 ≤ ln fx fy * ln fx fy := by
      have := (csq_spec hdot.1 hdot.2).2.2.1
      rw [hsq] at this
      unfold ln
      rw [hsq]
      exact this
    have hz2 : (ln fx fy - 1) * (ln fx fy - 1) < (fac fx fy).1 * (fac fx fy).1 + (fac fx fy).2 * (fac fx fy).2 := by
      have := csq_least (l := ln fx fy - 1) hdot.1 hdot.2 (by omega) (show ln fx fy - 1 < ln fx fy by omega)
      rw [hsq] at this
      exact this
    have hz3 : ln fx fy ≤ 100000 := by
      rcases Int.lt_or_le 100000 (ln fx fy) with h | h
      · have := Int.mul_le_mul (show (100000 : Int) ≤ ln fx fy - 1 by omega) (show (100000 : Int) ≤ ln fx fy - 1 by omega) (by omega) (by omega)
        omega
      · exact h
    have hpl := places_aft kind (min n 64).toNat (by omega) (min n 64).toNat [] 0 (by simp) (by simp) List.Pairwise.nil (fun p hp => by cases hp)
    have hpl' : (places kind n sp fx fy).Pairwise Aft ∧ ∀ p ∈ places kind n sp fx fy, p.1 ≤ 64 ∧ p.2.2 < p.1 ∧ p.2.1 ≤ 63 := by
      unfold places
      rw [if_pos hok]
      exact hpl
    have hs : 16 ≤ nsp sp ∧ nsp sp ≤ 1024 := by unfold nsp; omega
    have hd := dist0_G (slotsN kind n sp ax ay fx fy) (sP_ok _ _ _ _ _ _ _) (by omega) (fun i k hi hk => by
      have hi' : i < (places kind n sp fx fy).length := by omega
      have e1 : ∀ j, j < (places kind n sp fx fy).length → (slotsN kind n sp ax ay fx fy).getD j [] = sP ax ay (fac fx fy).1 (fac fx fy).2 (nsp sp) (ln fx fy) ((places kind n sp fx fy)[j]!) := by
        intro j hj
        rw [slotsN, List.getD_eq_getElem?_getD, List.getElem?_map, List.getElem?_eq_getElem hj]
        simp [hj]
      rw [e1 i hi', e1 k (by omega)]
      have hk' : k < (places kind n sp fx fy).length := by omega
      have g1 : (places kind n sp fx fy)[i]! = (places kind n sp fx fy)[i] := by simp [hi']
      have g2 : (places kind n sp fx fy)[k]! = (places kind n sp fx fy)[k] := by simp [hk']
      rw [g1, g2]
      exact sP_ne (by omega) (by omega) (by omega) (by omega) hs ⟨hz1, hz3⟩ hF hF1 hz2 (hpl'.2 _ (List.getElem_mem _)) (hpl'.2 _ (List.getElem_mem _)) (List.pairwise_iff_getElem.1 hpl'.1 k i hk' hi' hk))
      FU (slotsN kind n sp ax ay fx fy).length 0 (by omega) (by unfold FU; omega)
    have hd' : G_skirmishlaw18_FormationDistinct_0 (slotsN kind n sp ax ay fx fy) FU 0 = some false := hd
    simp only [c1, c2, c3, decide_false, cond_false, hd', Option.bind_some]
  · have e : (places kind n sp fx fy).length = 0 := by
      unfold places
      rw [if_neg hok]
      rfl
    simp only [e, Int.natCast_zero, beq_self_eq_true, cond_true]
    by_cases c1 : kind < 1
    · simp only [c1, decide_true, cond_true]
    by_cases c2 : kind > 4
    · simp only [c1, c2, decide_true, decide_false, cond_true, cond_false]
    have c3 : n < 1 := by omega
    simp only [c1, c2, c3, decide_true, decide_false, cond_true, cond_false]
end Go.Proofs.Ytjgaaicflenbbaa.AI
