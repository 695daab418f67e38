/- Chapter 12: what the functions answer: an octant's line is clear; Sees. -/
import Derived.Test.YtonckcjkgdlmkaaQ12b
namespace Go.Proofs.Ytonckcjkgdlmkaa.AI
open Go.RowKit
set_option linter.unusedVariables false
set_option linter.unusedSimpArgs false

theorem oct1_g {x y k fx fy : Int} (h0 : 0 ≤ k) (h1 : k < 8) (hx : -1000 ≤ x ∧ x ≤ 1000) (hy : -1000 ≤ y ∧ y ≤ 1000) (h3 : sm fx) (h4 : sm fy) : F_shadow_octant_1 x y k fx fy = some (fx + (oc k x y).1, fy + (oc k x y).2) := by
  unfold sm at h3 h4
  have nx : wr (0 - x) = -x := by rw [wr_in (by omega) (by omega)]; omega
  have ny : wr (0 - y) = -y := by rw [wr_in (by omega) (by omega)]; omega
  have wa : ∀ u v : Int, -1000 ≤ u ∧ u ≤ 1000 → -1000 ≤ v ∧ v ≤ 1000 → (wr (fx + u), wr (fy + v)) = (fx + u, fy + v) := fun u v hu hv => by
    rw [wr_in (by omega) (by omega), wr_in (by omega) (by omega)]
  have nn : ∀ u : Int, -1000 ≤ u ∧ u ≤ 1000 → -1000 ≤ -u ∧ -u ≤ 1000 := fun u hu => by omega
  rcases oct8 h0 h1 with rfl | rfl | rfl | rfl | rfl | rfl | rfl | rfl
  · rw [show F_shadow_octant_1 x y 0 fx fy = some (wr (fx + x), wr (fy + y)) by kernel_rfl, wa _ _ hx hy]; rfl
  · rw [show F_shadow_octant_1 x y 1 fx fy = some (wr (fx + y), wr (fy + x)) by kernel_rfl, wa _ _ hy hx]; rfl
  · rw [show F_shadow_octant_1 x y 2 fx fy = some (wr (fx + wr (0 - x)), wr (fy + y)) by kernel_rfl, nx, wa _ _ (nn _ hx) hy]; rfl
  · rw [show F_shadow_octant_1 x y 3 fx fy = some (wr (fx + wr (0 - y)), wr (fy + x)) by kernel_rfl, ny, wa _ _ (nn _ hy) hx]; rfl
  · rw [show F_shadow_octant_1 x y 4 fx fy = some (wr (fx + x), wr (fy + wr (0 - y))) by kernel_rfl, ny, wa _ _ hx (nn _ hy)]; rfl
  · rw [show F_shadow_octant_1 x y 5 fx fy = some (wr (fx + y), wr (fy + wr (0 - x))) by kernel_rfl, nx, wa _ _ hy (nn _ hx)]; rfl
  · rw [show F_shadow_octant_1 x y 6 fx fy = some (wr (fx + wr (0 - x)), wr (fy + wr (0 - y))) by kernel_rfl, nx, ny, wa _ _ (nn _ hx) (nn _ hy)]; rfl
  · rw [show F_shadow_octant_1 x y 7 fx fy = some (wr (fx + wr (0 - y)), wr (fy + wr (0 - x))) by kernel_rfl, nx, ny, wa _ _ (nn _ hy) (nn _ hx)]; rfl
theorem oct_g (fx fy k : Int) : F_shadow_octant fx fy k = some (k, fx, fy) := rfl
theorem oc_big {k i j : Int} (h0 : 0 ≤ k) (h1 : k < 8) (hj : 0 ≤ j) (hij : j ≤ i) : i = max (max (oc k i j).1 (-(oc k i j).1)) (max (oc k i j).2 (-(oc k i j).2)) := by
  rcases oct8 h0 h1 with rfl | rfl | rfl | rfl | rfl | rfl | rfl | rfl <;> simp only [ocE0, ocE1, ocE2, ocE3, ocE4, ocE5, ocE6, ocE7] <;> omega
theorem oc_same {k i j x y : Int} (h0 : 0 ≤ k) (h1 : k < 8) (h : oc k i j = oc k x y) : i = x ∧ j = y := by
  rcases oct8 h0 h1 with rfl | rfl | rfl | rfl | rfl | rfl | rfl | rfl <;> simp only [ocE0, ocE1, ocE2, ocE3, ocE4, ocE5, ocE6, ocE7, Prod.mk.injEq] at h <;> omega
/-- The program's way to ask whether a cell of the octant meets the line. -/
theorem cl_cond {fx fy k i j x y : Int} (h0 : 0 ≤ k) (h1 : k < 8) (hj : 0 ≤ j) (hij : j ≤ i) (hi : 0 < i) (hx : 0 ≤ x) (hxi : x ≤ i) (hy : 0 ≤ y) (hyj : y ≤ j) :
    mts fx fy (fx + (oc k i j).1) (fy + (oc k i j).2) (fx + (oc k x y).1) (fy + (oc k x y).2) = (!decide (j * max (2 * x - 1) 0 ≥ (2 * y + 1) * i) && !decide (j * min (2 * x + 1) (2 * i) ≤ (2 * y - 1) * i)) := by
  rw [Bool.eq_iff_iff, oc_mts h0 h1 hj hij hx hxi hy hyj]
  simp only [Bool.and_eq_true, Bool.not_eq_true', decide_eq_false_iff_not]
  have e1 : (2 * y + 1) * i = 2 * (i * y) + i := by rw [Int.add_mul, Int.mul_assoc, Int.mul_comm y i, Int.one_mul]
  have e2 : (2 * y - 1) * i = 2 * (i * y) - i := by rw [Int.sub_mul, Int.mul_assoc, Int.mul_comm y i, Int.one_mul]
  have e3 : j * max (2 * x - 1) 0 = if x = 0 then 0 else 2 * (j * x) - j := by
    by_cases h : x = 0
    · rw [if_pos h, h, show max (2 * (0 : Int) - 1) 0 = 0 by decide, Int.mul_zero]
    · rw [if_neg h, show max (2 * x - 1) 0 = 2 * x - 1 by omega, Int.mul_sub, ← Int.mul_assoc, Int.mul_comm j 2, Int.mul_assoc, Int.mul_one]
  have e4 : j * min (2 * x + 1) (2 * i) = if x = i then 2 * (j * x) else 2 * (j * x) + j := by
    by_cases h : x = i
    · rw [if_pos h, h, show min (2 * i + 1) (2 * i) = 2 * i by omega, ← Int.mul_assoc, Int.mul_comm j 2, Int.mul_assoc]
    · rw [if_neg h, show min (2 * x + 1) (2 * i) = 2 * x + 1 by omega, Int.mul_add, ← Int.mul_assoc, Int.mul_comm j 2, Int.mul_assoc, Int.mul_one]
  have n1 : 0 ≤ i * y := Int.mul_nonneg (by omega) hy
  have n2 : x = 0 → j * x = 0 := fun h => by rw [h, Int.mul_zero]
  have n3 : x = i → i * y ≤ j * x := fun h => by rw [h, Int.mul_comm j i]; exact Int.mul_le_mul_of_nonneg_left hyj (by omega)
  rw [e1, e2, e3, e4]
  generalize i * y = p at *
  generalize j * x = q at *
  split <;> split <;> omega

section
variable {W H : Int} {cells : List (List AVal)} {fx fy k i j : Int}
theorem clear1_g (hc : okCs cells) (hv : vmap W H cells = true) (h0 : 0 ≤ k) (h1 : k < 8) (hj : 0 ≤ j) (hij : j ≤ i) (ha : inn W H fx fy = true) (hb : inn W H (fx + (oc k i j).1) (fy + (oc k i j).2) = true) {x : Int} (hx : 0 ≤ x) (hxi : x ≤ i) :
    ∀ (m r : Nat) (y : Int), 0 ≤ y → y + r = j + 1 → r < m → ∃ t, G_shadow_clear_1 k fx fy i j x (max (2 * x - 1) 0) (min (2 * x + 1) (2 * i)) (j + 1) W H cells fx fy (fx + (oc k i j).1) (fy + (oc k i j).2) m y = some t ∧
      (t = false ↔ ∀ y', y ≤ y' → y' ≤ j → blk W H cells fx fy (fx + (oc k i j).1) (fy + (oc k i j).2) (fx + (oc k x y').1) (fy + (oc k x y').2) = false)
  | 0, r, y, h2, h3, h4 => by omega
  | m + 1, 0, y, h2, h3, h4 => by
    have d1 : ¬ y < j + 1 := by omega
    refine ⟨false, by simp only [G_shadow_clear_1, d1, decide_false, cond_false], ?_⟩
    simp only [true_iff]
    intro y' q1 q2
    omega
  | m + 1, r + 1, y, h2, h3, h4 => by
    have d1 : y < j + 1 := by omega
    have hyj : y ≤ j := by omega
    obtain ⟨s1, s2⟩ := inn_sm (vld_of hv) ha
    obtain ⟨s3, s4⟩ := inn_sm (vld_of hv) hb
    have hbig := oc_big h0 h1 hj hij
    have k1 := s1
    have k2 := s2
    unfold sm at s3 s4 k1 k2
    have hi32 : i < 32 := by omega
    have hcc : inn W H (fx + (oc k x y).1) (fy + (oc k x y).2) = true := btw_inn ha hb (oc_btw h0 h1 hj hij hx hxi h2 hyj)
    have w1 : wr (y + 1) = y + 1 := wr_in (by omega) (by omega)
    have w2 : wr (2 * y) = 2 * y := wr_in (by omega) (by omega)
    have w3 : wr (2 * y + 1) = 2 * y + 1 := wr_in (by omega) (by omega)
    have w4 : wr (2 * y - 1) = 2 * y - 1 := wr_in (by omega) (by omega)
    have p1 := prod_in (a := j) (b := max (2 * x - 1) 0) (by omega) (by omega)
    have p2 := prod_in (a := j) (b := min (2 * x + 1) (2 * i)) (by omega) (by omega)
    have p3 := prod_in (a := 2 * y + 1) (b := i) (by omega) (by omega)
    have p4 := prod_in (a := 2 * y - 1) (b := i) (by omega) (by omega)
    have w7 : wr (j * max (2 * x - 1) 0) = j * max (2 * x - 1) 0 := wr_in (by omega) (by omega)
    have w8 : wr (j * min (2 * x + 1) (2 * i)) = j * min (2 * x + 1) (2 * i) := wr_in (by omega) (by omega)
    have w9 : wr ((2 * y + 1) * i) = (2 * y + 1) * i := wr_in (by omega) (by omega)
    have w10 : wr ((2 * y - 1) * i) = (2 * y - 1) * i := wr_in (by omega) (by omega)
    obtain ⟨t, e1, e2⟩ := clear1_g hc hv h0 h1 hj hij ha hb hx hxi m r (y + 1) (by omega) (by omega) (by omega)
    have skip : blk W H cells fx fy (fx + (oc k i j).1) (fy + (oc k i j).2) (fx + (oc k x y).1) (fy + (oc k x y).2) = false →
        (t = false ↔ ∀ y', y ≤ y' → y' ≤ j → blk W H cells fx fy (fx + (oc k i j).1) (fy + (oc k i j).2) (fx + (oc k x y').1) (fy + (oc k x y').2) = false) := fun hk =>
      e2.trans ⟨fun hq y' q1 q2 => by
        by_cases hy : y' = y
        · subst hy; exact hk
        · exact hq y' (by omega) q2, fun hq y' q1 q2 => hq y' (by omega) q2⟩
    simp only [G_shadow_clear_1, d1, decide_true, cond_true, oct1_g h0 h1 (show -1000 ≤ x ∧ x ≤ 1000 by omega) (show -1000 ≤ y ∧ y ≤ 1000 by omega) s1 s2, Option.bind_some, w1, w2, w3, w4, w7, w8, w9, w10,
      stops_g hc (ins_of hv ha) (ins_of hv hb) (ins_of hv hcc), e1]
    have hbd : blk W H cells fx fy (fx + (oc k i j).1) (fy + (oc k i j).2) (fx + (oc k x y).1) (fy + (oc k x y).2) = (!(fx + (oc k x y).1 == fx && fy + (oc k x y).2 == fy) && (!(fx + (oc k x y).1 == fx + (oc k i j).1 && fy + (oc k x y).2 == fy + (oc k i j).2) && (hid W H cells fx fy (fx + (oc k i j).1) (fy + (oc k i j).2) (fx + (oc k x y).1) (fy + (oc k x y).2) && mts fx fy (fx + (oc k i j).1) (fy + (oc k i j).2) (fx + (oc k x y).1) (fy + (oc k x y).2)))) := rfl
    cases q1 : (fx + (oc k x y).1 == fx && fy + (oc k x y).2 == fy) with
    | true => exact ⟨t, rfl, skip (by rw [hbd, q1]; rfl)⟩
    | false =>
      have hi0 : 0 < i := by
        rcases Int.lt_or_le 0 i with h | h
        · exact h
        · exfalso
          obtain rfl : x = 0 := by omega
          obtain rfl : y = 0 := by omega
          rw [oc_zero h0 h1] at q1
          simp at q1
      rw [cl_cond h0 h1 hj hij hi0 hx hxi h2 hyj] at hbd
      cases q2 : (fx + (oc k x y).1 == fx + (oc k i j).1 && fy + (oc k x y).2 == fy + (oc k i j).2) with
      | true => exact ⟨t, rfl, skip (by rw [hbd, q1, q2]; rfl)⟩
      | false =>
        rw [q1, q2] at hbd
        cases q3 : decide (j * max (2 * x - 1) 0 ≥ (2 * y + 1) * i) with
        | true => exact ⟨t, rfl, skip (by rw [hbd, q3]; simp)⟩
        | false =>
          cases q4 : decide (j * min (2 * x + 1) (2 * i) ≤ (2 * y - 1) * i) with
          | true => exact ⟨t, rfl, skip (by rw [hbd, q4]; simp)⟩
          | false =>
            rw [q3, q4] at hbd
            cases q5 : hid W H cells fx fy (fx + (oc k i j).1) (fy + (oc k i j).2) (fx + (oc k x y).1) (fy + (oc k x y).2) with
            | false => exact ⟨t, rfl, skip (by rw [hbd, q5]; rfl)⟩
            | true =>
              refine ⟨true, rfl, ?_⟩
              simp only [Bool.true_eq_false, false_iff]
              intro hq
              have := hq y (by omega) hyj
              rw [hbd, q5] at this
              cases this
theorem clear0_g (hc : okCs cells) (hv : vmap W H cells = true) (h0 : 0 ≤ k) (h1 : k < 8) (hj : 0 ≤ j) (hij : j ≤ i) (ha : inn W H fx fy = true) (hb : inn W H (fx + (oc k i j).1) (fy + (oc k i j).2) = true) :
    ∀ (m r : Nat) (x : Int), 0 ≤ x → x + r = i + 1 → r < m → ∃ t, G_shadow_clear_0 k fx fy i j (i + 1) W H cells fx fy (fx + (oc k i j).1) (fy + (oc k i j).2) m x = some t ∧
      (t = false ↔ ∀ x' y', x ≤ x' → x' ≤ i → 0 ≤ y' → y' ≤ j → blk W H cells fx fy (fx + (oc k i j).1) (fy + (oc k i j).2) (fx + (oc k x' y').1) (fy + (oc k x' y').2) = false)
  | 0, r, x, h2, h3, h4 => by omega
  | m + 1, 0, x, h2, h3, h4 => by
    have d1 : ¬ x < i + 1 := by omega
    refine ⟨false, by simp only [G_shadow_clear_0, d1, decide_false, cond_false], ?_⟩
    simp only [true_iff]
    intro x' y' q1 q2
    omega
  | m + 1, r + 1, x, h2, h3, h4 => by
    have d1 : x < i + 1 := by omega
    obtain ⟨s1, s2⟩ := inn_sm (vld_of hv) ha
    obtain ⟨s3, s4⟩ := inn_sm (vld_of hv) hb
    have hbig := oc_big h0 h1 hj hij
    unfold sm at s1 s2 s3 s4
    have hi32 : i < 32 := by omega
    have w1 : wr (x + 1) = x + 1 := wr_in (by omega) (by omega)
    have w2 : wr (2 * x) = 2 * x := wr_in (by omega) (by omega)
    have w3 : wr (2 * x + 1) = 2 * x + 1 := wr_in (by omega) (by omega)
    have w4 : wr (2 * x - 1) = 2 * x - 1 := wr_in (by omega) (by omega)
    have w5 : wr (2 * i) = 2 * i := wr_in (by omega) (by omega)
    have w6 : wr (j + 1) = j + 1 := wr_in (by omega) (by omega)
    obtain ⟨t, e1, e2⟩ := clear0_g hc hv h0 h1 hj hij ha hb m r (x + 1) (by omega) (by omega) (by omega)
    obtain ⟨u, f1, f2⟩ := clear1_g hc hv h0 h1 hj hij ha hb h2 (by omega) FU (j + 1).toNat 0 (by omega) (by omega) (by unfold FU; omega)
    simp only [G_shadow_clear_0, d1, decide_true, cond_true, w1, w2, w3, w4, w5, w6, maxI_eq, minI_eq, f1, Option.bind_some, e1]
    cases u with
    | true =>
      refine ⟨true, rfl, ?_⟩
      simp only [Bool.true_eq_false, false_iff] at f2 ⊢
      intro hq
      exact f2 fun y' q1 q2 => hq x y' (by omega) (by omega) q1 q2
    | false =>
      have f3 := f2.1 rfl
      refine ⟨t, rfl, e2.trans ⟨fun hq x' y' q1 q2 q3 q4 => ?_, fun hq x' y' q1 q2 q3 q4 => hq x' y' (by omega) q2 q3 q4⟩⟩
      by_cases hx : x' = x
      · subst hx; exact f3 y' q3 q4
      · exact hq x' y' (by omega) q2 q3 q4
theorem clear_g (hc : okCs cells) (hv : vmap W H cells = true) (h0 : 0 ≤ k) (h1 : k < 8) (hj : 0 ≤ j) (hij : j ≤ i) (ha : inn W H fx fy = true) (hb : inn W H (fx + (oc k i j).1) (fy + (oc k i j).2) = true) :
    F_shadow_clear W H cells k fx fy i j = some (seesN W H cells fx fy (fx + (oc k i j).1) (fy + (oc k i j).2)) := by
  obtain ⟨s1, s2⟩ := inn_sm (vld_of hv) ha
  obtain ⟨s3, s4⟩ := inn_sm (vld_of hv) hb
  have hbig := oc_big h0 h1 hj hij
  have k1 := s1
  have k2 := s2
  unfold sm at k1 k2 s3 s4
  have hi32 : i < 32 := by omega
  have w1 : wr (i + 1) = i + 1 := wr_in (by omega) (by omega)
  have z1 : ∀ n : Int, n + 0 = n := Int.add_zero
  obtain ⟨t, e1, e2⟩ := clear0_g hc hv h0 h1 hj hij ha hb FU (i + 1).toNat 0 (by omega) (by omega) (by unfold FU; omega)
  simp only [F_shadow_clear, oct1_g h0 h1 (show -1000 ≤ (0 : Int) ∧ (0 : Int) ≤ 1000 by omega) (show -1000 ≤ (0 : Int) ∧ (0 : Int) ≤ 1000 by omega) s1 s2, oct1_g h0 h1 (show -1000 ≤ i ∧ i ≤ 1000 by omega) (show -1000 ≤ j ∧ j ≤ 1000 by omega) s1 s2, oc_zero h0 h1, Option.bind_some, w1, z1, e1]
  have key : seesN W H cells fx fy (fx + (oc k i j).1) (fy + (oc k i j).2) = !t := by
    cases t with
    | false =>
      refine seesN_iff.2 fun cx cy => ?_
      cases hk : blk W H cells fx fy (fx + (oc k i j).1) (fy + (oc k i j).2) cx cy with
      | false => rfl
      | true =>
        obtain ⟨x, y, q1, q2, q3, q4, rfl, rfl⟩ := oc_inv h0 h1 hj hij (blk_btw hk)
        rw [← hk]
        exact e2.1 rfl x y q1 q2 q3 q4
    | true =>
      cases hs : seesN W H cells fx fy (fx + (oc k i j).1) (fy + (oc k i j).2) with
      | false => rfl
      | true =>
        have := e2.2 fun x' y' _ _ _ _ => seesN_iff.1 hs _ _
        cases this
  rw [key]
  cases t <;> rfl
end
theorem sees_g {W H : Int} {cells : List (List AVal)} (hc : okCs cells) (hv : vmap W H cells = true) {ax ay bx b : Int} (ha : inn W H ax ay = true) (hb : inn W H bx b = true) :
    F_shadow_sees W H cells ax ay bx b = some (seesN W H cells ax ay bx b) := by
  obtain ⟨s1, s2⟩ := inn_sm (vld_of hv) ha
  obtain ⟨s3, s4⟩ := inn_sm (vld_of hv) hb
  unfold sm at s1 s2 s3 s4
  have w1 : wr (bx - ax) = bx - ax := wr_in (by omega) (by omega)
  have w2 : wr (b - ay) = b - ay := wr_in (by omega) (by omega)
  have w3 : wr (0 - (bx - ax)) = ax - bx := by rw [wr_in (by omega) (by omega)]; omega
  have w4 : wr (0 - (b - ay)) = ay - b := by rw [wr_in (by omega) (by omega)]; omega
  have use : ∀ k i j, 0 ≤ k → k < 8 → 0 ≤ j → j ≤ i → oc k i j = (bx - ax, b - ay) → F_shadow_clear W H cells k ax ay i j = some (seesN W H cells ax ay bx b) := fun k i j h0 h1 h2 h3 he => by
    have e1 : ax + (oc k i j).1 = bx := by rw [he]; show ax + (bx - ax) = bx; omega
    have e2 : ay + (oc k i j).2 = b := by rw [he]; show ay + (b - ay) = b; omega
    have := clear_g hc hv h0 h1 h2 h3 ha (by rw [e1, e2]; exact hb)
    rw [e1, e2] at this
    exact this
  have n7 : (wr (Int.ofNat (BitVec.toNat (HOr.hOr (BitVec.ofInt 64 (6 : Int)) (BitVec.ofInt 64 (1 : Int)))))) = 7 := by decide +kernel
  have n6 : (wr (Int.ofNat (BitVec.toNat (HOr.hOr (BitVec.ofInt 64 (2 : Int)) (BitVec.ofInt 64 (4 : Int)))))) = 6 := by decide +kernel
  have n3 : (wr (Int.ofNat (BitVec.toNat (HOr.hOr (BitVec.ofInt 64 (2 : Int)) (BitVec.ofInt 64 (1 : Int)))))) = 3 := by decide +kernel
  have n5 : (wr (Int.ofNat (BitVec.toNat (HOr.hOr (BitVec.ofInt 64 (4 : Int)) (BitVec.ofInt 64 (1 : Int)))))) = 5 := by decide +kernel
  have n2 : (wr (Int.ofNat (BitVec.toNat (HOr.hOr (BitVec.ofInt 64 (0 : Int)) (BitVec.ofInt 64 (2 : Int)))))) = 2 := by decide +kernel
  have n4 : (wr (Int.ofNat (BitVec.toNat (HOr.hOr (BitVec.ofInt 64 (0 : Int)) (BitVec.ofInt 64 (4 : Int)))))) = 4 := by decide +kernel
  have n1 : (wr (Int.ofNat (BitVec.toNat (HOr.hOr (BitVec.ofInt 64 (0 : Int)) (BitVec.ofInt 64 (1 : Int)))))) = 1 := by decide +kernel
  simp only [F_shadow_sees, oct_g, Option.bind_some, w1, w2, w3, w4, n7, n6, n3, n2, n5, n4, n1]
  have p2 : ∀ {u v c d : Int}, u = c → v = d → (u, v) = (c, d) := fun h k => by rw [h, k]
  by_cases hx : bx - ax < 0
  · by_cases hy : b - ay < 0
    · by_cases hs : ay - b > ax - bx
      · simp only [hx, hy, hs, decide_true, cond_true, use 7 (ay - b) (ax - bx) (by omega) (by omega) (by omega) (by omega) (by rw [ocE7]; exact p2 (by omega) (by omega)), Option.bind_some]
      · simp only [hx, hy, hs, decide_true, decide_false, cond_true, cond_false, use 6 (ax - bx) (ay - b) (by omega) (by omega) (by omega) (by omega) (by rw [ocE6]; exact p2 (by omega) (by omega)), Option.bind_some]
    · by_cases hs : b - ay > ax - bx
      · simp only [hx, hy, hs, decide_true, decide_false, cond_true, cond_false, use 3 (b - ay) (ax - bx) (by omega) (by omega) (by omega) (by omega) (by rw [ocE3]; exact p2 (by omega) (by omega)), Option.bind_some]
      · simp only [hx, hy, hs, decide_true, decide_false, cond_true, cond_false, use 2 (ax - bx) (b - ay) (by omega) (by omega) (by omega) (by omega) (by rw [ocE2]; exact p2 (by omega) (by omega)), Option.bind_some]
  · by_cases hy : b - ay < 0
    · by_cases hs : ay - b > bx - ax
      · simp only [hx, hy, hs, decide_true, decide_false, cond_true, cond_false, use 5 (ay - b) (bx - ax) (by omega) (by omega) (by omega) (by omega) (by rw [ocE5]; exact p2 (by omega) (by omega)), Option.bind_some]
      · simp only [hx, hy, hs, decide_true, decide_false, cond_true, cond_false, use 4 (bx - ax) (ay - b) (by omega) (by omega) (by omega) (by omega) (by rw [ocE4]; exact p2 (by omega) (by omega)), Option.bind_some]
    · by_cases hs : b - ay > bx - ax
      · simp only [hx, hy, hs, decide_true, decide_false, cond_true, cond_false, use 1 (b - ay) (bx - ax) (by omega) (by omega) (by omega) (by omega) (by rw [ocE1]), Option.bind_some]
      · simp only [hx, hy, hs, decide_true, decide_false, cond_true, cond_false, use 0 (bx - ax) (b - ay) (by omega) (by omega) (by omega) (by omega) (by rw [ocE0]), Option.bind_some]
theorem Sees_g (W H : Int) (cells : List (List AVal)) (hc : okCs cells) (ax ay bx b : Int) : F_shadow_Sees W H cells ax ay bx b = some (SeesB W H cells ax ay bx b) := by
  simp only [F_shadow_Sees, Valid_g W H cells hc, ins12_g, Option.bind_some, SeesB]
  cases hv : vmap W H cells with
  | false => rfl
  | true =>
    cases ha : inn W H ax ay with
    | false => rfl
    | true =>
      cases hb : inn W H bx b with
      | false => rfl
      | true => simp only [Bool.not_true, cond_false, sees_g hc hv ha hb, Option.bind_some, Bool.true_and]
end Go.Proofs.Ytonckcjkgdlmkaa.AI
