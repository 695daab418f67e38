/- The laws of chapter 2, in plain words. -/
import Derived.Test.YtlgaiebfdheggaaQ02
namespace Go.Proofs.Ytlgaiebfdheggaa.AI
open Go.RowKit
set_option linter.unusedVariables false
set_option linter.unusedSimpArgs false
theorem alive02 : F_skirmishlaw02_alive = some true := by kernel_rfl

theorem pure_VecParts (x y n d : Int) (_ : wf .i64 x) (_ : wf .i64 y) (_ : wf .i64 n) (_ : wf .i64 d) : F_skirmishlaw02_VecParts x y n d = some true := by
  have h : ((partN x y n d).1 == nr (partN x y n d).1) = true ∧ ((partN x y n d).2 == nr (partN x y n d).2) = true := by
    unfold partN
    split
    · decide
    · simp [nr_nr]
  simp only [F_skirmishlaw02_VecParts, Part_v, Part_w, Option.bind_some, beq_self_eq_true, Bool.and_self, cond_true, Valid_v, h.1, h.2, alive02]
theorem pure_VecToward (ax ay bx b n : Int) (_ : wf .i64 ax) (_ : wf .i64 ay) (_ : wf .i64 bx) (_ : wf .i64 b) (_ : wf .i64 n) : F_skirmishlaw02_VecToward ax ay bx b n = some true := by
  simp only [F_skirmishlaw02_VecToward, Toward_v, Toward_w, Within_v, Within_w, Option.bind_some, beq_self_eq_true, Bool.and_self, cond_true, alive02]
theorem pure_VecSums (ax ay bx b : Int) (_ : wf .i64 ax) (_ : wf .i64 ay) (_ : wf .i64 bx) (_ : wf .i64 b) : F_skirmishlaw02_VecSums ax ay bx b = some true := by
  simp only [F_skirmishlaw02_VecSums, Add_v, Add_w, Sub_v, Sub_w, Side_v, Side_w, Valid_v, Valid_w, Option.bind_some, beq_self_eq_true, Bool.and_self, Bool.not_true, cond_false, cond_true, nr_nr, nr_neg, alive02]

theorem dotN_self (x y : Int) : 0 ≤ dotN x y x y ∧ dotN x y x y ≤ 2199023255552 := by
  have h1 := sq_nonneg' (nr x)
  have h2 := sq_nonneg' (nr y)
  have h3 := dotN_in x y x y
  refine ⟨?_, h3.2⟩
  unfold dotN
  omega
theorem pure_VecLengths (ax ay bx b : Int) (_ : wf .i64 ax) (_ : wf .i64 ay) (_ : wf .i64 bx) (_ : wf .i64 b) : F_skirmishlaw02_VecLengths ax ay bx b = some true := by
  have hq := dotN_self ax ay
  obtain ⟨k1, k2, k3⟩ := isq_spec hq.1 (by omega)
  have hle : v0isq (dotN ax ay ax ay) ≤ 4194304 := by
    have : v0isq (dotN ax ay ax ay) < 4194305 := sq_lt k1 (by omega) (by omega)
    omega
  have hv : F_vec_Len ax ay = some (v0isq (dotN ax ay ax ay)) := by simp only [F_vec_Len, Len2_v, Option.bind_some, isqrt_g _ (show dotN ax ay ax ay ≤ 9223372036854775807 by omega)]
  have hw : F_skirmishref02_Len ax ay = some (v0isq (dotN ax ay ax ay)) := by simp only [F_skirmishref02_Len, Len2_w, Option.bind_some, isqrt_r _ (show dotN ax ay ax ay ≤ 9223372036854775807 by omega)]
  have hs : dotN ax ay (-nr ay) (nr ax) = 0 := by
    unfold dotN
    rw [nr_neg, nr_nr, Int.mul_neg, Int.mul_comm (nr ay)]
    omega
  have hl : dotN (-nr ay) (nr ax) (-nr ay) (nr ax) = dotN ax ay ax ay := by
    unfold dotN
    rw [nr_neg, nr_nr, Int.neg_mul_neg]
    omega
  simp only [F_skirmishlaw02_VecLengths, Dot_v, Dot_w, Len2_v, Len2_w, hv, hw, Side_v, hs, hl, Option.bind_some, bne_self_eq_false, cond_false, beq_self_eq_true, cond_true]
  generalize dotN ax ay ax ay = q at *
  have hvv := mul_bound (a := v0isq q) (b := v0isq q) (A := 4194304) (B := 4194304) (by omega) (by omega) (by omega) (by omega)
  have hvw := mul_bound (a := v0isq q + 1) (b := v0isq q + 1) (A := 4194305) (B := 4194305) (by omega) (by omega) (by omega) (by omega)
  rw [wr_in (n := v0isq q * v0isq q) (by omega) (by omega), wr_in (n := v0isq q + 1) (by omega) (by omega), wr_in (n := (v0isq q + 1) * (v0isq q + 1)) (by omega) (by omega)]
  have g1 : decide (v0isq q * v0isq q ≤ q) = true := decide_eq_true k2
  have g2 : decide ((v0isq q + 1) * (v0isq q + 1) > q) = true := decide_eq_true k3
  simp only [g1, g2, cond_true, alive02, Option.bind_some]

/-! ### A step toward -/
theorem mul4 (a b c d : Int) : a * b * (c * d) = (a * c) * (b * d) := by rw [Int.mul_assoc, Int.mul_assoc, ← Int.mul_assoc b c d, Int.mul_comm b c, Int.mul_assoc c b d]
/-- How far a component moves: not past the goal, and at most so much of the speed as it has of the way. -/
theorem move {d s n : Int} (hs : 0 < s) (hsn : s < n) : (0 ≤ d → 0 ≤ (d * s).tdiv n ∧ (d * s).tdiv n ≤ d) ∧ (d ≤ 0 → d ≤ (d * s).tdiv n ∧ (d * s).tdiv n ≤ 0) ∧ ((d * s).tdiv n * n).natAbs ≤ (d * s).natAbs := by
  have h1 : ((d * s).tdiv n).natAbs = (d * s).natAbs / n.natAbs := Int.natAbs_tdiv _ _
  have h2 : (d * s).natAbs = d.natAbs * s.natAbs := Int.natAbs_mul _ _
  have h3 : (d * s).natAbs / n.natAbs ≤ d.natAbs := by
    rw [h2]
    have : d.natAbs * s.natAbs / n.natAbs ≤ d.natAbs * n.natAbs / n.natAbs := Nat.div_le_div_right (Nat.mul_le_mul_left _ (by omega))
    rwa [Nat.mul_div_cancel _ (by omega)] at this
  have h4 : ((d * s).tdiv n * n).natAbs = ((d * s).natAbs / n.natAbs) * n.natAbs := by rw [Int.natAbs_mul, h1]
  refine ⟨fun hd => ?_, fun hd => ?_, ?_⟩
  · have h0 : 0 ≤ d * s := Int.mul_nonneg hd (by omega)
    have : 0 ≤ (d * s).tdiv n := by rw [Int.tdiv_eq_ediv_of_nonneg h0]; exact Int.ediv_nonneg h0 (by omega)
    omega
  · have h0 : 0 ≤ (-d) * s := Int.mul_nonneg (by omega) (by omega)
    have e : (d * s).tdiv n = -(((-d) * s).tdiv n) := by rw [Int.neg_mul, Int.neg_tdiv]; omega
    have : 0 ≤ ((-d) * s).tdiv n := by rw [Int.tdiv_eq_ediv_of_nonneg h0]; exact Int.ediv_nonneg h0 (by omega)
    omega
  · rw [h4]
    exact Nat.div_mul_le_self _ _
theorem sq_le_of {a b : Int} (h : (0 ≤ b → 0 ≤ a ∧ a ≤ b) ∧ (b ≤ 0 → b ≤ a ∧ a ≤ 0)) : a * a ≤ b * b := by
  rcases Int.le_total 0 b with hb | hb
  · have := h.1 hb
    exact Int.mul_le_mul this.2 this.2 this.1 (by omega)
  · have := h.2 hb
    have k := Int.mul_le_mul (show -a ≤ -b by omega) (show -a ≤ -b by omega) (by omega) (by omega)
    rwa [Int.neg_mul_neg, Int.neg_mul_neg] at k
theorem sq_abs_le {a b : Int} (h : a.natAbs ≤ b.natAbs) : a * a ≤ b * b := by
  have := Nat.mul_le_mul h h
  have e1 : (a * a).natAbs = a.natAbs * a.natAbs := Int.natAbs_mul a a
  have e2 : (b * b).natAbs = b.natAbs * b.natAbs := Int.natAbs_mul b b
  have h1 := sq_nonneg' a
  have h2 := sq_nonneg' b
  omega
/-- What a step does. -/
theorem tow_spec {X Y U V S : Int} (h1 : -1048576 ≤ X ∧ X ≤ 1048576) (h2 : -1048576 ≤ Y ∧ Y ≤ 1048576) (h3 : -1048576 ≤ U ∧ U ≤ 1048576) (h4 : -1048576 ≤ V ∧ V ≤ 1048576) (h5 : -1048576 ≤ S ∧ S ≤ 1048576) :
    (-1048576 ≤ (tow X Y U V S).1 ∧ (tow X Y U V S).1 ≤ 1048576) ∧ (-1048576 ≤ (tow X Y U V S).2 ∧ (tow X Y U V S).2 ≤ 1048576) ∧
    farN (tow X Y U V S).1 (tow X Y U V S).2 U V ≤ farN X Y U V ∧
    (tow X Y U V S = (X, Y) ∨ farN (tow X Y U V S).1 (tow X Y U V S).2 U V < farN X Y U V) ∧
    (S ≤ 0 → tow X Y U V S = (X, Y)) ∧ (0 < S → farN X Y (tow X Y U V S).1 (tow X Y U V S).2 ≤ S * S ∧ (farN X Y U V ≤ S * S → tow X Y U V S = (U, V))) := by
  have hq := farN_in h1 h2 h3 h4
  by_cases g1 : S ≤ 0
  · have e : tow X Y U V S = (X, Y) := by unfold tow; rw [if_pos g1]
    rw [e]
    exact ⟨h1, h2, Int.le_refl _, .inl rfl, fun _ => rfl, fun h => by omega⟩
  by_cases g2 : farN X Y U V ≤ S * S
  · have e : tow X Y U V S = (U, V) := by unfold tow; rw [if_neg g1, if_pos g2]
    rw [e]
    have hz : farN U V U V = 0 := by unfold farN; simp
    refine ⟨h3, h4, by simp only [hz]; omega, ?_, fun h => by omega, fun _ => ⟨g2, fun _ => rfl⟩⟩
    simp only [hz]
    by_cases hd : farN X Y U V = 0
    · left
      have k1 := sq_nonneg' (U - X)
      have k2 := sq_nonneg' (V - Y)
      unfold farN at hd
      have z1 : (U - X) * (U - X) = 0 := by omega
      have z2 : (V - Y) * (V - Y) = 0 := by omega
      have z1 : U - X = 0 := (Int.mul_eq_zero.1 z1).elim id id
      have z2 : V - Y = 0 := (Int.mul_eq_zero.1 z2).elim id id
      rw [show U = X by omega, show V = Y by omega]
    · right; omega
  · have e : tow X Y U V S = (X + ((U - X) * S).tdiv (csq (farN X Y U V)), Y + ((V - Y) * S).tdiv (csq (farN X Y U V))) := by unfold tow; rw [if_neg g1, if_neg g2]
    obtain ⟨k1, k2, k3, k4, k5⟩ := csq_spec hq.1 hq.2
    have hpos := csq_pos (q := farN X Y U V) (s := S) (by omega) (by omega) hq.2
    rw [e]
    generalize csq (farN X Y U V) = n at *
    obtain ⟨m1, m2, m3⟩ := move (d := U - X) (s := S) (n := n) (by omega) hpos
    obtain ⟨m4, m5, m6⟩ := move (d := V - Y) (s := S) (n := n) (by omega) hpos
    have s1 := sq_abs_le m3
    have s2 := sq_abs_le m6
    generalize hA : ((U - X) * S).tdiv n = A at *
    generalize hB : ((V - Y) * S).tdiv n = B at *
    simp only
    have q1 : (U - (X + A)) * (U - (X + A)) ≤ (U - X) * (U - X) := sq_le_of ⟨fun h => by have := m1 (by omega); omega, fun h => by have := m2 (by omega); omega⟩
    have q2 : (V - (Y + B)) * (V - (Y + B)) ≤ (V - Y) * (V - Y) := sq_le_of ⟨fun h => by have := m4 (by omega); omega, fun h => by have := m5 (by omega); omega⟩
    have r1 : -1048576 ≤ X + A ∧ X + A ≤ 1048576 := by
      rcases Int.le_total 0 (U - X) with h | h
      · have := m1 h; omega
      · have := m2 h; omega
    have r2 : -1048576 ≤ Y + B ∧ Y + B ≤ 1048576 := by
      rcases Int.le_total 0 (V - Y) with h | h
      · have := m4 h; omega
      · have := m5 h; omega
    refine ⟨r1, r2, by unfold farN; omega, ?_, fun h => by omega, fun _ => ⟨?_, fun h => by omega⟩⟩
    · by_cases hz : A = 0 ∧ B = 0
      · left; rw [hz.1, hz.2]; simp
      · right
        have strict : ∀ (d a : Int), a ≠ 0 → (0 ≤ d → 0 ≤ a ∧ a ≤ d) → (d ≤ 0 → d ≤ a ∧ a ≤ 0) → (d - a) * (d - a) < d * d := by
          intro d a ha p1 p2
          rcases Int.le_total 0 d with h | h
          · have := p1 h
            have k := Int.mul_le_mul (show d - a ≤ d - 1 by omega) (show d - a ≤ d by omega) (by omega) (by omega)
            have : (d - 1) * d = d * d - d := by rw [Int.sub_mul, Int.one_mul]
            omega
          · have := p2 h
            have k := Int.mul_le_mul (show -(d - a) ≤ -d - 1 by omega) (show -(d - a) ≤ -d by omega) (by omega) (by omega)
            have e1 : -(d - a) * -(d - a) = (d - a) * (d - a) := Int.neg_mul_neg _ _
            have e2 : (-d - 1) * -d = d * d + d := by rw [Int.sub_mul, Int.neg_mul_neg, Int.one_mul]; omega
            omega
        have u1 : (U - (X + A)) = (U - X) - A := by omega
        have u2 : (V - (Y + B)) = (V - Y) - B := by omega
        unfold farN
        by_cases hA0 : A = 0
        · have := strict (V - Y) B (by omega) m4 m5
          rw [← u2] at this
          omega
        · have := strict (U - X) A hA0 m1 m2
          rw [← u1] at this
          omega
    · unfold farN
      have a1 : X + A - X = A := by omega
      have a2 : Y + B - Y = B := by omega
      rw [a1, a2]
      have e1 : A * n * (A * n) = (A * A) * (n * n) := by rw [mul4]
      have e2 : B * n * (B * n) = (B * B) * (n * n) := by rw [mul4]
      have e3 : (U - X) * S * ((U - X) * S) = ((U - X) * (U - X)) * (S * S) := by rw [mul4]
      have e4 : (V - Y) * S * ((V - Y) * S) = ((V - Y) * (V - Y)) * (S * S) := by rw [mul4]
      rw [e1, e3] at s1
      rw [e2, e4] at s2
      have hS := sq_nonneg' S
      have t1 : ((U - X) * (U - X) + (V - Y) * (V - Y)) * (S * S) ≤ (n * n) * (S * S) := Int.mul_le_mul_of_nonneg_right k3 hS
      have t2 : (A * A + B * B) * (n * n) ≤ (S * S) * (n * n) := by
        rw [Int.add_mul] at t1 ⊢
        rw [Int.mul_comm (S * S)]
        omega
      exact Int.le_of_mul_le_mul_right t2 (Int.mul_pos (by omega) (by omega))

theorem nr_idem {n : Int} (h : -1048576 ≤ n ∧ n ≤ 1048576) : nr n = n := nr_id h.1 h.2
theorem pure_VecTowardNear (ax ay bx b s : Int) (_ : wf .i64 ax) (_ : wf .i64 ay) (_ : wf .i64 bx) (_ : wf .i64 b) (_ : wf .i64 s) : F_skirmishlaw02_VecTowardNear ax ay bx b s = some true := by
  obtain ⟨t1, t2, t3, t4, t5, t6⟩ := tow_spec (nr_in ax) (nr_in ay) (nr_in bx) (nr_in b) (nr_in s)
  have hss := mul_bound (nr_in s) (nr_in s) (by omega) (by omega)
  simp only [F_skirmishlaw02_VecTowardNear, Toward_v, Valid_v, Far_w, near_w, nearvec_w, Option.bind_some]
  generalize tow (nr ax) (nr ay) (nr bx) (nr b) (nr s) = c at *
  obtain ⟨cx, cy⟩ := c
  simp only at *
  have n1 := nr_idem t1
  have n2 := nr_idem t2
  rw [wr_in (n := nr s * nr s) (by omega) (by omega)]
  have g1 : decide (farN cx cy (nr bx) (nr b) > farN (nr ax) (nr ay) (nr bx) (nr b)) = false := by simp; omega
  simp only [n1, n2, g1, beq_self_eq_true, Bool.and_self, Bool.not_true, cond_false, alive02, Option.bind_some]
  by_cases hs : nr s ≤ 0
  · have := t5 hs
    simp only [Prod.mk.injEq] at this
    obtain ⟨rfl, rfl⟩ := this
    simp only [hs, decide_true, cond_true, beq_self_eq_true, Bool.and_self]
  · obtain ⟨t7, t8⟩ := t6 (by omega)
    simp only [hs, decide_false, cond_false, t7, decide_true, cond_true]
    by_cases hf : farN (nr ax) (nr ay) (nr bx) (nr b) > nr s * nr s
    · simp only [hf, decide_true, cond_true]
    · have := t8 (by omega)
      simp only [Prod.mk.injEq] at this
      obtain ⟨rfl, rfl⟩ := this
      simp only [hf, decide_false, cond_false, beq_self_eq_true, Bool.and_self, cond_true]

theorem arrives_G (bx b s : Int) : ∀ (m : Nat) (i X Y : Int), 0 ≤ i → i ≤ 40 → 40 - i < m → (-1048576 ≤ X ∧ X ≤ 1048576) → (-1048576 ≤ Y ∧ Y ≤ 1048576) → ∃ u v w z u' v', G_skirmishlaw02_VecArrives_0 s bx b m i X Y = some (false, u, v, w, z, u', v')
  | 0, i, X, Y, h0, h1, h2, hX, hY => by omega
  | m + 1, i, X, Y, h0, h1, h2, hX, hY => by
    obtain ⟨t1, t2, t3, t4, t5, t6⟩ := tow_spec hX hY (nr_in bx) (nr_in b) (nr_in s)
    simp only [G_skirmishlaw02_VecArrives_0, Toward_v, Toward_w, Far_w, Option.bind_some, beq_self_eq_true, Bool.and_self, Bool.not_true, cond_false, nr_idem hX, nr_idem hY]
    by_cases hi : i < 40
    · simp only [hi, decide_true, cond_true]
      rw [wr_in (n := i + 1) (by omega) (by omega)]
      generalize tow X Y (nr bx) (nr b) (nr s) = c at *
      obtain ⟨cx, cy⟩ := c
      simp only at *
      have ih := arrives_G bx b s m (i + 1) cx cy (by omega) (by omega) (by omega) t1 t2
      simp only [nr_idem t1, nr_idem t2]
      cases hc : (!(cx == X && cy == Y)) with
      | false => simpa only [cond_false] using ih
      | true =>
        simp only [cond_true]
        have hne : ¬ ((cx, cy) = (X, Y)) := by
          intro h
          simp only [Prod.mk.injEq] at h
          rw [h.1, h.2] at hc
          simp at hc
        have hlt := t4.resolve_left hne
        have g : decide (farN cx cy (nr bx) (nr b) ≥ farN X Y (nr bx) (nr b)) = false := by simp; omega
        simp only [g, cond_false]
        exact ih
    · simp only [hi, decide_false, cond_false]
      exact ⟨_, _, _, _, _, _, rfl⟩
theorem pure_VecArrives (ax ay bx b s : Int) (_ : wf .i64 ax) (_ : wf .i64 ay) (_ : wf .i64 bx) (_ : wf .i64 b) (_ : wf .i64 s) : F_skirmishlaw02_VecArrives ax ay bx b s = some true := by
  obtain ⟨u, v, w, z, u', v', h⟩ := arrives_G bx b s FU 0 (nr ax) (nr ay) (by omega) (by omega) (by unfold FU; omega) (nr_in ax) (nr_in ay)
  simp only [F_skirmishlaw02_VecArrives, nearvec_w, Option.bind_some, h, cond_false, alive02]
end Go.Proofs.Ytlgaiebfdheggaa.AI
