/- What the functions of chapter 2 (vec) answer; whole square roots. -/
import Derived.Test.YtjgaaicflenbbaaP
import Derived.Test.YtjgaaicflenbbaaPl
import Derived.IntWalk
import Derived.Laws.BitsLemmas
namespace Go.Proofs.Ytjgaaicflenbbaa.AI
open Go.RowKit
set_option linter.unusedVariables false
set_option linter.unusedSimpArgs false

/-! ### Whole square roots -/
/-- 'j' rounds from 'r' on. -/
def v0isG (x : Int) : Nat → Int → Int
  | 0, r => r
  | j + 1, r => bif decide (r + 2 ^ j ≤ x / (r + 2 ^ j)) then v0isG x j (r + 2 ^ j) else v0isG x j r
def v0isq (x : Int) : Int := bif decide (x ≤ 0) then 0 else v0isG x 32 0
def bitOf : Nat → Int
  | 0 => 0
  | j + 1 => 2 ^ j

theorem bitOf_zero : bitOf 0 = 0 := rfl
theorem bitOf_succ (j : Nat) : bitOf (j + 1) = 2 ^ j := rfl
theorem v0isG_zero (x r : Int) : v0isG x 0 r = r := rfl

theorem bitOf_half (j : Nat) : Int.fdiv (2 ^ j) (2 ^ (min (Int.toNat 1) 64)) = bitOf j := by
  have : (2 : Int) ^ (min (Int.toNat 1) 64) = 2 := rfl
  rw [this]
  cases j with
  | zero => rfl
  | succ j =>
    rw [Int.fdiv_eq_ediv_of_nonneg _ (by omega)]
    simp only [bitOf, Int.pow_succ]
    omega

theorem pow_pos' (j : Nat) : (0 : Int) < 2 ^ j := Int.pow_pos (by omega)
theorem pow_le32 {j : Nat} (h : j ≤ 32) : (2 : Int) ^ j ≤ 4294967296 := by
  have : (2 : Int) ^ j ≤ 2 ^ 32 := by
    have := Nat.pow_le_pow_right (n := 2) (by omega) h
    exact_mod_cast this
  simpa using this

theorem bor_add {r : Int} {j : Nat} (hj : j ≤ 31) (hr0 : 0 ≤ r) (hr : r % 2 ^ (j + 1) = 0) (hb : r + 2 ^ (j + 1) ≤ 4294967296) :
    Int.ofNat (BitVec.toNat (BitVec.ofInt 64 r ||| BitVec.ofInt 64 (2 ^ j))) = r + 2 ^ j := by
  obtain ⟨n, rfl⟩ := Int.eq_ofNat_of_zero_le hr0
  have e1 : (2 : Int) ^ j = ((2 ^ j : Nat) : Int) := (Int.natCast_pow 2 j).symm
  have e2 : (2 : Int) ^ (j + 1) = ((2 ^ (j + 1) : Nat) : Int) := (Int.natCast_pow 2 (j + 1)).symm
  rw [e2] at hr hb
  have hn : n % 2 ^ (j + 1) = 0 := by exact_mod_cast hr
  generalize hP : 2 ^ (j + 1) = p at *
  have hlt : n + p ≤ 4294967296 := by omega
  have hp : 2 ^ j < p := by rw [← hP]; exact Nat.pow_lt_pow_right (by omega) (by omega)
  rw [e1]
  have b1 : (BitVec.ofInt 64 ((n : Nat) : Int)).toNat = n := by
    rw [BitVec.ofInt_natCast, BitVec.toNat_ofNat]
    exact Nat.mod_eq_of_lt (by omega)
  have b2 : (BitVec.ofInt 64 ((2 ^ j : Nat) : Int)).toNat = 2 ^ j := by
    rw [BitVec.ofInt_natCast, BitVec.toNat_ofNat]
    exact Nat.mod_eq_of_lt (by omega)
  rw [BitVec.toNat_or, b1, b2]
  have hq : n = p * (n / p) := by
    have := Nat.div_add_mod n p
    omega
  have := Nat.two_pow_add_eq_or_of_lt (i := j + 1) (b := 2 ^ j) (by rw [hP]; exact hp) (n / p)
  rw [hP, ← hq] at this
  show ((n ||| 2 ^ j : Nat) : Int) = _
  rw [← this]
  simp

/-- What the rounds keep: a root from below. -/
theorem v0isG_spec (x : Int) (hx : 0 < x) : ∀ (j : Nat) (r : Int), 0 ≤ r → r * r ≤ x → x < (r + 2 ^ j) * (r + 2 ^ j) → 0 ≤ v0isG x j r ∧ v0isG x j r * v0isG x j r ≤ x ∧ x < (v0isG x j r + 1) * (v0isG x j r + 1)
  | 0, r, h0, h1, h2 => by simpa [v0isG] using ⟨h0, h1, h2⟩
  | j + 1, r, h0, h1, h2 => by
    have hp := pow_pos' j
    have e : (2 : Int) ^ (j + 1) = 2 * 2 ^ j := by rw [Int.pow_succ]; omega
    generalize hP : (2 : Int) ^ j = p at *
    have ht : 0 < r + p := by omega
    have key : r + p ≤ x / (r + p) ↔ (r + p) * (r + p) ≤ x := Int.le_ediv_iff_mul_le ht
    simp only [v0isG, hP]
    by_cases hc : r + p ≤ x / (r + p)
    · simp only [hc, decide_true, cond_true]
      have := key.1 hc
      refine v0isG_spec x hx j (r + p) (by omega) this ?_
      rw [hP]
      rw [e] at h2
      have : r + p + p = r + 2 * p := by omega
      rw [this]; exact h2
    · simp only [hc, decide_false, cond_false]
      have : ¬ (r + p) * (r + p) ≤ x := fun h => hc (key.2 h)
      refine v0isG_spec x hx j r h0 h1 ?_
      rw [hP]; omega

theorem isq_spec {x : Int} (h0 : 0 ≤ x) (h1 : x < 18446744073709551616) : 0 ≤ v0isq x ∧ v0isq x * v0isq x ≤ x ∧ x < (v0isq x + 1) * (v0isq x + 1) := by
  unfold v0isq
  by_cases h : x ≤ 0
  · have : x = 0 := by omega
    subst this
    simp
  · simp only [h, decide_false, cond_false]
    refine v0isG_spec x (by omega) 32 0 (by omega) (by omega) ?_
    simpa using h1

theorem isqG_g (x : Int) (hx0 : 0 < x) (hx1 : x ≤ 9223372036854775807) : ∀ (m j : Nat) (r : Int), j ≤ 32 → j < m → 0 ≤ r → r % 2 ^ j = 0 → r + 2 ^ j ≤ 4294967296 → G_num_Isqrt_0 x m r (bitOf j) = some (v0isG x j r)
  | 0, j, r, hj, hm, h0, h1, h2 => by omega
  | m + 1, 0, r, hj, hm, h0, h1, h2 => rfl
  | m + 1, j + 1, r, hj, hm, h0, h1, h2 => by
    have hp := pow_pos' j
    have hb : decide ((2 : Int) ^ j > 0) = true := decide_eq_true hp
    have e := bor_add (r := r) (j := j) (by omega) h0 h1 h2
    have e1 : (2 : Int) ^ (j + 1) = 2 * 2 ^ j := by rw [Int.pow_succ]; omega
    have hw : wr (r + 2 ^ j) = r + 2 ^ j := wr_in (by omega) (by omega)
    have hz : (r + 2 ^ j == 0) = false := by simp; omega
    have hd : wr (Int.tdiv x (r + 2 ^ j)) = x / (r + 2 ^ j) := by
      have h3 : 0 ≤ x / (r + 2 ^ j) := Int.ediv_nonneg (by omega) (by omega)
      have h4 : x / (r + 2 ^ j) ≤ x := Int.ediv_le_self _ (by omega)
      rw [Int.tdiv_eq_ediv_of_nonneg (by omega)]
      exact wr_in (by omega) (by omega)
    have hm0 : r % 2 ^ j = 0 := by
      have : (2 : Int) ^ j ∣ r := Int.dvd_trans ⟨2, by omega⟩ (Int.dvd_of_emod_eq_zero h1)
      exact Int.emod_eq_zero_of_dvd this
    rw [bitOf_succ]
    simp only [G_num_Isqrt_0, hb, cond_true, e, hw, hd, hz, bitOf_half, cond_false, v0isG]
    cases hc : decide (r + 2 ^ j ≤ x / (r + 2 ^ j)) with
    | true => exact isqG_g x hx0 hx1 m j (r + 2 ^ j) (by omega) (by omega) (by omega) (by rw [Int.add_emod, hm0]; simp) (by omega)
    | false => exact isqG_g x hx0 hx1 m j r (by omega) (by omega) h0 hm0 (by omega)
theorem bit32 : (2147483648 : Int) = bitOf 32 := by decide
theorem isqrt_g (x : Int) (h : x ≤ 9223372036854775807) : F_num_Isqrt x = some (v0isq x) := by
  unfold F_num_Isqrt v0isq
  by_cases h0 : x ≤ 0
  · simp [h0]
  · simp only [h0, decide_false, cond_false]
    rw [bit32, isqG_g x (by omega) h FU 32 0 (by omega) (by unfold FU; omega) (by omega) (by decide) (by decide)]
    rfl
/-! ### Near vectors -/
theorem near_v (n : Int) : F_vec_near n = some (nr n) := by simp only [F_vec_near, F_num_Clamp, maxI_eq, minI_eq, Option.bind_some, nr]
theorem nearest_v (x y : Int) : F_vec_nearest x y = some (nr x, nr y) := by simp only [F_vec_nearest, near_v, Option.bind_some]
theorem near_w (n : Int) : F_skirmishref02_Near n = some (nr n) := by
  simp only [F_skirmishref02_Near, maxI_eq, minI_eq, nr]
  congr 1
  omega
theorem nearvec_w (x y : Int) : F_skirmishref02_NearVec x y = some (nr x, nr y) := by simp only [F_skirmishref02_NearVec, near_w, Option.bind_some]
/-- A product of small numbers. -/
theorem sq_nonneg' (a : Int) : 0 ≤ a * a := by
  rcases Int.le_total 0 a with h | h
  · exact Int.mul_nonneg h h
  · exact Int.mul_nonneg_of_nonpos_of_nonpos h h
theorem sq_bound {a b : Int} (ha : -2097152 ≤ a ∧ a ≤ 2097152) (hb : -2097152 ≤ b ∧ b ≤ 2097152) : -4398046511104 ≤ a * b ∧ a * b ≤ 4398046511104 := by
  have := mul_bound ha hb (by omega) (by omega)
  omega
theorem dot_v (ax ay bx b : Int) (h1 : -2097152 ≤ ax ∧ ax ≤ 2097152) (h2 : -2097152 ≤ ay ∧ ay ≤ 2097152) (h3 : -2097152 ≤ bx ∧ bx ≤ 2097152) (h4 : -2097152 ≤ b ∧ b ≤ 2097152) : F_vec_dot ax ay bx b = some (ax * bx + ay * b) := by
  have k1 := sq_bound h1 h3
  have k2 := sq_bound h2 h4
  simp only [F_vec_dot]
  rw [wr_in (n := ax * bx) (by omega) (by omega), wr_in (n := ay * b) (by omega) (by omega), wr_in (by omega) (by omega)]
def dotN (ax ay bx b : Int) : Int := nr ax * nr bx + nr ay * nr b
theorem Dot_v (ax ay bx b : Int) : F_vec_Dot ax ay bx b = some (dotN ax ay bx b) := by
  have h1 := nr_in ax
  have h2 := nr_in ay
  have h3 := nr_in bx
  have h4 := nr_in b
  simp only [F_vec_Dot, nearest_v, Option.bind_some]
  rw [dot_v _ _ _ _ (by omega) (by omega) (by omega) (by omega)]
  rfl
theorem dotN_in (ax ay bx b : Int) : -2199023255552 ≤ dotN ax ay bx b ∧ dotN ax ay bx b ≤ 2199023255552 := by
  have k1 := mul_bound (nr_in ax) (nr_in bx) (by omega) (by omega)
  have k2 := mul_bound (nr_in ay) (nr_in b) (by omega) (by omega)
  unfold dotN
  omega
theorem Dot_w (ax ay bx b : Int) : F_skirmishref02_Dot ax ay bx b = some (dotN ax ay bx b) := by
  have k1 := mul_bound (nr_in ax) (nr_in bx) (by omega) (by omega)
  have k2 := mul_bound (nr_in ay) (nr_in b) (by omega) (by omega)
  simp only [F_skirmishref02_Dot, nearvec_w, Option.bind_some]
  rw [wr_in (n := nr ax * nr bx) (by omega) (by omega), wr_in (n := nr ay * nr b) (by omega) (by omega), wr_in (by omega) (by omega)]
  rfl
theorem Len2_v (x y : Int) : F_vec_Len2 x y = some (dotN x y x y) := by simp only [F_vec_Len2, Dot_v, Option.bind_some]
theorem Len2_w (x y : Int) : F_skirmishref02_Len2 x y = some (dotN x y x y) := by simp only [F_skirmishref02_Len2, Dot_w, Option.bind_some]

/-! ### Sums -/
theorem sum2 (a b c d : Int) (h1 : -2097152 ≤ a ∧ a ≤ 2097152) (h2 : -2097152 ≤ b ∧ b ≤ 2097152) (h3 : -2097152 ≤ c ∧ c ≤ 2097152) (h4 : -2097152 ≤ d ∧ d ≤ 2097152) : F_vec_sum [[i64 a, i64 b], [i64 c, i64 d]] = some (nr (a + c), nr (b + d)) := by
  have key : G_vec_sum_0 [[i64 a, i64 b], [i64 c, i64 d]] (Int.ofNat 2) FU 0 0 0 = some (wr (wr (0 + a) + c), wr (wr (0 + b) + d)) := by kernel_rfl
  have key' : F_vec_sum [[i64 a, i64 b], [i64 c, i64 d]] = Option.bind (G_vec_sum_0 [[i64 a, i64 b], [i64 c, i64 d]] (Int.ofNat 2) FU 0 0 0) fun t => Option.bind (F_vec_nearest t.1 t.2) fun t1 => some (t1.1, t1.2) := rfl
  rw [key', key]
  simp only [Option.bind_some, nearest_v]
  rw [wr_in (n := 0 + a) (by omega) (by omega), wr_in (n := 0 + b) (by omega) (by omega), wr_in (by omega) (by omega), wr_in (by omega) (by omega)]
  simp
theorem Add_v (ax ay bx b : Int) : F_vec_Add ax ay bx b = some (nr (nr ax + nr bx), nr (nr ay + nr b)) := by
  have h1 := nr_in ax
  have h2 := nr_in ay
  have h3 := nr_in bx
  have h4 := nr_in b
  simp only [F_vec_Add, nearest_v, Option.bind_some, sum2 _ _ _ _ (show -2097152 ≤ nr ax ∧ nr ax ≤ 2097152 by omega) (show -2097152 ≤ nr ay ∧ nr ay ≤ 2097152 by omega) (show -2097152 ≤ nr bx ∧ nr bx ≤ 2097152 by omega) (show -2097152 ≤ nr b ∧ nr b ≤ 2097152 by omega)]
theorem Add_w (ax ay bx b : Int) : F_skirmishref02_Add ax ay bx b = some (nr (nr ax + nr bx), nr (nr ay + nr b)) := by
  have h1 := nr_in ax
  have h2 := nr_in ay
  have h3 := nr_in bx
  have h4 := nr_in b
  simp only [F_skirmishref02_Add, nearvec_w, Option.bind_some]
  rw [wr_in (n := nr ax + nr bx) (by omega) (by omega), wr_in (n := nr ay + nr b) (by omega) (by omega)]
theorem Sub_v (ax ay bx b : Int) : F_vec_Sub ax ay bx b = some (nr (nr ax - nr bx), nr (nr ay - nr b)) := by
  have h1 := nr_in ax
  have h2 := nr_in ay
  have h3 := nr_in bx
  have h4 := nr_in b
  simp only [F_vec_Sub, F_vec_minus, nearest_v, Option.bind_some]
  rw [wr_in (n := 0 - nr bx) (by omega) (by omega), wr_in (n := 0 - nr b) (by omega) (by omega), sum2 _ _ _ _ (by omega) (by omega) (by omega) (by omega)]
  simp only [Option.bind_some]
  rw [show nr ax + (0 - nr bx) = nr ax - nr bx by omega, show nr ay + (0 - nr b) = nr ay - nr b by omega]
theorem Sub_w (ax ay bx b : Int) : F_skirmishref02_Sub ax ay bx b = some (nr (nr ax - nr bx), nr (nr ay - nr b)) := by
  have h1 := nr_in ax
  have h2 := nr_in ay
  have h3 := nr_in bx
  have h4 := nr_in b
  simp only [F_skirmishref02_Sub, nearvec_w, Option.bind_some]
  rw [wr_in (n := nr ax - nr bx) (by omega) (by omega), wr_in (n := nr ay - nr b) (by omega) (by omega)]
theorem Side_v (x y : Int) : F_vec_Side x y = some (- nr y, nr x) := by
  have h2 := nr_in y
  simp only [F_vec_Side, nearest_v, Option.bind_some]
  rw [wr_in (by omega) (by omega), Int.zero_sub]
theorem Side_w (x y : Int) : F_skirmishref02_Side x y = some (- nr y, nr x) := by
  have h2 := nr_in y
  simp only [F_skirmishref02_Side, nearvec_w, Option.bind_some]
  rw [wr_in (by omega) (by omega), Int.zero_sub]
theorem nr_nr (n : Int) : nr (nr n) = nr n := by unfold nr; omega
theorem nr_neg (n : Int) : nr (- nr n) = - nr n := by unfold nr; omega

/-! ### Parts -/
theorem tdiv_in {a b : Int} {A : Int} (ha : -A ≤ a ∧ a ≤ A) : -A ≤ a.tdiv b ∧ a.tdiv b ≤ A := by
  have h1 : (a.tdiv b).natAbs = a.natAbs / b.natAbs := Int.natAbs_tdiv a b
  have h2 : a.natAbs / b.natAbs ≤ a.natAbs := Nat.div_le_self _ _
  omega
def partN (x y n d : Int) : Int × Int := if nr d = 0 then (0, 0) else (nr ((nr x * nr n).tdiv (nr d)), nr ((nr y * nr n).tdiv (nr d)))
theorem Part_v (x y n d : Int) : F_vec_Part x y n d = some (partN x y n d) := by
  have k1 := mul_bound (nr_in x) (nr_in n) (by omega) (by omega)
  have k2 := mul_bound (nr_in y) (nr_in n) (by omega) (by omega)
  have k3 := tdiv_in (b := nr d) k1
  have k4 := tdiv_in (b := nr d) k2
  simp only [F_vec_Part, nearest_v, near_v, Option.bind_some, partN]
  rw [wr_in (n := nr x * nr n) (by omega) (by omega), wr_in (n := nr y * nr n) (by omega) (by omega), wr_in (n := (nr x * nr n).tdiv (nr d)) (by omega) (by omega), wr_in (n := (nr y * nr n).tdiv (nr d)) (by omega) (by omega)]
  by_cases h : nr d = 0
  · simp [h]
  · have hz : (nr d == 0) = false := by simpa using h
    simp only [hz, cond_false, h, if_false]
theorem Part_w (x y n d : Int) : F_skirmishref02_Part x y n d = some (partN x y n d) := by
  have k1 := mul_bound (nr_in x) (nr_in n) (by omega) (by omega)
  have k2 := mul_bound (nr_in y) (nr_in n) (by omega) (by omega)
  have k3 := tdiv_in (b := nr d) k1
  have k4 := tdiv_in (b := nr d) k2
  simp only [F_skirmishref02_Part, nearvec_w, near_w, Option.bind_some, partN]
  rw [wr_in (n := nr x * nr n) (by omega) (by omega), wr_in (n := nr y * nr n) (by omega) (by omega), wr_in (n := (nr x * nr n).tdiv (nr d)) (by omega) (by omega), wr_in (n := (nr y * nr n).tdiv (nr d)) (by omega) (by omega)]
  by_cases h : nr d = 0
  · simp [h]
  · have hz : (nr d == 0) = false := by simpa using h
    simp only [hz, cond_false, h, if_false]
/-! ### Toward -/
def farN (ax ay bx b : Int) : Int := (bx - ax) * (bx - ax) + (b - ay) * (b - ay)
theorem farN_in {ax ay bx b : Int} (h1 : -1048576 ≤ ax ∧ ax ≤ 1048576) (h2 : -1048576 ≤ ay ∧ ay ≤ 1048576) (h3 : -1048576 ≤ bx ∧ bx ≤ 1048576) (h4 : -1048576 ≤ b ∧ b ≤ 1048576) : 0 ≤ farN ax ay bx b ∧ farN ax ay bx b ≤ 8796093022208 := by
  have k1 := sq_bound (a := bx - ax) (b := bx - ax) (by omega) (by omega)
  have k2 := sq_bound (a := b - ay) (b := b - ay) (by omega) (by omega)
  have k3 := sq_nonneg' (bx - ax)
  have k4 := sq_nonneg' (b - ay)
  unfold farN
  omega
/-- The least number whose square is not less. -/
def csq (q : Int) : Int := if v0isq q * v0isq q < q then v0isq q + 1 else v0isq q
theorem sq_lt {a b : Int} (ha : 0 ≤ a) (hb : 0 ≤ b) (h : a * a < b * b) : a < b := by
  by_cases hh : a < b
  · exact hh
  · have := Int.mul_le_mul (show b ≤ a by omega) (show b ≤ a by omega) hb ha
    omega
theorem csq_spec {q : Int} (h0 : 0 ≤ q) (h1 : q ≤ 8796093022208) : 0 ≤ v0isq q ∧ v0isq q ≤ 4194304 ∧ q ≤ csq q * csq q ∧ 0 ≤ csq q ∧ csq q ≤ 4194305 := by
  obtain ⟨k1, k2, k3⟩ := isq_spec h0 (by omega)
  have hle : v0isq q ≤ 4194304 := by
    have : v0isq q < 4194305 := sq_lt k1 (by omega) (by omega)
    omega
  refine ⟨k1, hle, ?_, ?_, ?_⟩
  · unfold csq
    split <;> omega
  · unfold csq
    split <;> omega
  · unfold csq
    split <;> omega
def tow (ax ay bx b s : Int) : Int × Int :=
  if s ≤ 0 then (ax, ay) else if farN ax ay bx b ≤ s * s then (bx, b)
  else (ax + ((bx - ax) * s).tdiv (csq (farN ax ay bx b)), ay + ((b - ay) * s).tdiv (csq (farN ax ay bx b)))
theorem csq_pos {q s : Int} (h0 : 0 < s) (hq : s * s < q) (h1 : q ≤ 8796093022208) : s < csq q := by
  have hs : 0 ≤ s * s := sq_nonneg' s
  obtain ⟨k1, k2, k3, k4, k5⟩ := csq_spec (q := q) (by omega) h1
  exact sq_lt (by omega) k4 (by omega)
theorem tow_tail {X d s q : Int} (hX : -1048576 ≤ X ∧ X ≤ 1048576) (hd : -2097152 ≤ d ∧ d ≤ 2097152) (hs : -1048576 ≤ s ∧ s ≤ 1048576) (n : Int) : wr (X + wr (Int.tdiv (wr (d * s)) n)) = X + (d * s).tdiv n := by
  have k1 := mul_bound hd hs (by omega) (by omega)
  have k2 := tdiv_in (b := n) k1
  rw [wr_in (n := d * s) (by omega) (by omega), wr_in (n := (d * s).tdiv n) (by omega) (by omega), wr_in (by omega) (by omega)]
def withinN (ax ay bx b r : Int) : Bool := decide (0 ≤ nr r) && decide (farN (nr ax) (nr ay) (nr bx) (nr b) ≤ nr r * nr r)
end Go.Proofs.Ytjgaaicflenbbaa.AI
