/- Chapter 12: lines between cells; octants. Plain facts. -/
import Derived.Test.YtonckcjkgdlmkaaQ07c
import Derived.Test.YtonckcjkgdlmkaaLp
namespace Go.Proofs.Ytonckcjkgdlmkaa.AI
open Go.RowKit
set_option linter.unusedVariables false
set_option linter.unusedSimpArgs false

/-! ### Lines -/
def btw (ax ay bx b cx cy : Int) : Bool := decide (cx ≥ min ax bx) && (decide (cx ≤ max ax bx) && (decide (cy ≥ min ay b) && decide (cy ≤ max ay b)))
/-- On which side of the line a corner lies. -/
def sd (ax ay bx b x y : Int) : Int := (bx - ax) * (y - 2 * ay - 1) - (b - ay) * (x - 2 * ax - 1)
def mts (ax ay bx b cx cy : Int) : Bool :=
  btw ax ay bx b cx cy &&
  ((decide (sd ax ay bx b (2 * cx) (2 * cy) < 0) || (decide (sd ax ay bx b (2 * cx + 2) (2 * cy) < 0) || (decide (sd ax ay bx b (2 * cx) (2 * cy + 2) < 0) || decide (sd ax ay bx b (2 * cx + 2) (2 * cy + 2) < 0)))) &&
   (decide (sd ax ay bx b (2 * cx) (2 * cy) > 0) || (decide (sd ax ay bx b (2 * cx + 2) (2 * cy) > 0) || (decide (sd ax ay bx b (2 * cx) (2 * cy + 2) > 0) || decide (sd ax ay bx b (2 * cx + 2) (2 * cy + 2) > 0)))))
theorem btw_iff {ax ay bx b cx cy : Int} : btw ax ay bx b cx cy = true ↔ min ax bx ≤ cx ∧ cx ≤ max ax bx ∧ min ay b ≤ cy ∧ cy ≤ max ay b := by
  unfold btw
  simp only [Bool.and_eq_true, decide_eq_true_eq, ge_iff_le]
/-- The sides of the four corners, from the two products. -/
theorem sd_eq (ax ay bx b cx cy : Int) : ∃ B, B = 2 * ((bx - ax) * (cy - ay)) - 2 * ((b - ay) * (cx - ax)) ∧ sd ax ay bx b (2 * cx) (2 * cy) = B - (bx - ax) + (b - ay) ∧ sd ax ay bx b (2 * cx + 2) (2 * cy) = B - (bx - ax) - (b - ay) ∧
    sd ax ay bx b (2 * cx) (2 * cy + 2) = B + (bx - ax) + (b - ay) ∧ sd ax ay bx b (2 * cx + 2) (2 * cy + 2) = B + (bx - ax) - (b - ay) := by
  have e : ∀ d u : Int, d * (2 * u - 1) = 2 * (d * u) - d ∧ d * (2 * u + 1) = 2 * (d * u) + d := fun d u => by
    rw [Int.mul_sub, Int.mul_add, ← Int.mul_assoc, Int.mul_comm d 2, Int.mul_assoc, Int.mul_one]
    exact ⟨rfl, rfl⟩
  refine ⟨_, rfl, ?_, ?_, ?_, ?_⟩ <;> unfold sd
  · rw [show 2 * cy - 2 * ay - 1 = 2 * (cy - ay) - 1 by omega, show 2 * cx - 2 * ax - 1 = 2 * (cx - ax) - 1 by omega, (e _ _).1, (e _ _).1]; omega
  · rw [show 2 * cy - 2 * ay - 1 = 2 * (cy - ay) - 1 by omega, show 2 * cx + 2 - 2 * ax - 1 = 2 * (cx - ax) + 1 by omega, (e _ _).1, (e _ _).2]; omega
  · rw [show 2 * cy + 2 - 2 * ay - 1 = 2 * (cy - ay) + 1 by omega, show 2 * cx - 2 * ax - 1 = 2 * (cx - ax) - 1 by omega, (e _ _).2, (e _ _).1]; omega
  · rw [show 2 * cy + 2 - 2 * ay - 1 = 2 * (cy - ay) + 1 by omega, show 2 * cx + 2 - 2 * ax - 1 = 2 * (cx - ax) + 1 by omega, (e _ _).2, (e _ _).2]; omega
theorem mts_iff {ax ay bx b cx cy : Int} : mts ax ay bx b cx cy = true ↔ btw ax ay bx b cx cy = true ∧
    (2 * ((bx - ax) * (cy - ay)) - 2 * ((b - ay) * (cx - ax)) < max (bx - ax) (ax - bx) + max (b - ay) (ay - b)) ∧ (2 * ((b - ay) * (cx - ax)) - 2 * ((bx - ax) * (cy - ay)) < max (bx - ax) (ax - bx) + max (b - ay) (ay - b)) := by
  obtain ⟨B, hB, h1, h2, h3, h4⟩ := sd_eq ax ay bx b cx cy
  unfold mts
  simp only [Bool.and_eq_true, Bool.or_eq_true, decide_eq_true_eq, h1, h2, h3, h4]
  generalize (bx - ax) * (cy - ay) = p at *
  generalize (b - ay) * (cx - ax) = q at *
  constructor
  · rintro ⟨q1, q2, q3⟩
    exact ⟨q1, by omega, by omega⟩
  · rintro ⟨q1, q2, q3⟩
    exact ⟨q1, by omega, by omega⟩
theorem mts_comm (ax ay bx b cx cy : Int) : mts ax ay bx b cx cy = mts bx b ax ay cx cy := by
  rw [Bool.eq_iff_iff, mts_iff, mts_iff, btw_iff, btw_iff]
  have e1 : (ax - bx) * (cy - b) = (bx - ax) * (b - ay) - (bx - ax) * (cy - ay) := by
    rw [← Int.mul_sub, show ax - bx = -(bx - ax) by omega, Int.neg_mul, ← Int.mul_neg]
    congr 1; omega
  have e2 : (ay - b) * (cx - bx) = (bx - ax) * (b - ay) - (b - ay) * (cx - ax) := by
    rw [Int.mul_comm (bx - ax) (b - ay), ← Int.mul_sub, show ay - b = -(b - ay) by omega, Int.neg_mul, ← Int.mul_neg]
    congr 1; omega
  rw [e1, e2]
  generalize (bx - ax) * (cy - ay) = p
  generalize (b - ay) * (cx - ax) = q
  generalize (bx - ax) * (b - ay) = z
  constructor <;> rintro ⟨⟨q1, q2, q3, q4⟩, q5, q6⟩ <;> refine ⟨⟨?_, ?_, ?_, ?_⟩, ?_, ?_⟩ <;> omega

/-! ### Octants -/
def oc (k x y : Int) : Int × Int :=
  if k = 0 then (x, y) else if k = 1 then (y, x) else if k = 2 then (-x, y) else if k = 3 then (-y, x) else if k = 4 then (x, -y) else if k = 5 then (y, -x) else if k = 6 then (-x, -y) else (-y, -x)
theorem ocE0 (x y : Int) : oc 0 x y = (x, y) := rfl
theorem ocE1 (x y : Int) : oc 1 x y = (y, x) := rfl
theorem ocE2 (x y : Int) : oc 2 x y = (-x, y) := rfl
theorem ocE3 (x y : Int) : oc 3 x y = (-y, x) := rfl
theorem ocE4 (x y : Int) : oc 4 x y = (x, -y) := rfl
theorem ocE5 (x y : Int) : oc 5 x y = (y, -x) := rfl
theorem ocE6 (x y : Int) : oc 6 x y = (-x, -y) := rfl
theorem ocE7 (x y : Int) : oc 7 x y = (-y, -x) := rfl
theorem oct8 {k : Int} (h0 : 0 ≤ k) (h1 : k < 8) : k = 0 ∨ k = 1 ∨ k = 2 ∨ k = 3 ∨ k = 4 ∨ k = 5 ∨ k = 6 ∨ k = 7 := by omega
/-- In an octant, what meets the line. -/
theorem oc_mts {fx fy k i j x y : Int} (h0 : 0 ≤ k) (h1 : k < 8) (hj : 0 ≤ j) (hij : j ≤ i) (hx : 0 ≤ x) (hxi : x ≤ i) (hy : 0 ≤ y) (hyj : y ≤ j) :
    mts fx fy (fx + (oc k i j).1) (fy + (oc k i j).2) (fx + (oc k x y).1) (fy + (oc k x y).2) = true ↔ 2 * (i * y) - 2 * (j * x) < i + j ∧ 2 * (j * x) - 2 * (i * y) < i + j := by
  rw [mts_iff, btw_iff]
  have s1 : ∀ u : Int, fx + u - fx = u := fun u => by omega
  have s2 : ∀ u : Int, fy + u - fy = u := fun u => by omega
  rcases oct8 h0 h1 with rfl | rfl | rfl | rfl | rfl | rfl | rfl | rfl <;> simp only [ocE0, ocE1, ocE2, ocE3, ocE4, ocE5, ocE6, ocE7, s1, s2, Int.neg_mul, Int.mul_neg, Int.neg_neg] <;> generalize i * y = p at * <;> generalize j * x = q at * <;> omega
/-- What lies in the rectangle lies in the octant's. -/
theorem oc_inv {fx fy k i j cx cy : Int} (h0 : 0 ≤ k) (h1 : k < 8) (hj : 0 ≤ j) (hij : j ≤ i) (h : btw fx fy (fx + (oc k i j).1) (fy + (oc k i j).2) cx cy = true) :
    ∃ x y, 0 ≤ x ∧ x ≤ i ∧ 0 ≤ y ∧ y ≤ j ∧ cx = fx + (oc k x y).1 ∧ cy = fy + (oc k x y).2 := by
  rw [btw_iff] at h
  rcases oct8 h0 h1 with rfl | rfl | rfl | rfl | rfl | rfl | rfl | rfl
  · exact ⟨cx - fx, cy - fy, by simp [oc] at h ⊢; omega⟩
  · exact ⟨cy - fy, cx - fx, by simp [oc] at h ⊢; omega⟩
  · exact ⟨fx - cx, cy - fy, by simp [oc] at h ⊢; omega⟩
  · exact ⟨cy - fy, fx - cx, by simp [oc] at h ⊢; omega⟩
  · exact ⟨cx - fx, fy - cy, by simp [oc] at h ⊢; omega⟩
  · exact ⟨fy - cy, cx - fx, by simp [oc] at h ⊢; omega⟩
  · exact ⟨fx - cx, fy - cy, by simp [oc] at h ⊢; omega⟩
  · exact ⟨fy - cy, fx - cx, by simp [oc] at h ⊢; omega⟩
/-- Between two inside cells everything is inside. -/
theorem oc_btw {fx fy k i j x y : Int} (h0 : 0 ≤ k) (h1 : k < 8) (hj : 0 ≤ j) (hij : j ≤ i) (hx : 0 ≤ x) (hxi : x ≤ i) (hy : 0 ≤ y) (hyj : y ≤ j) : btw fx fy (fx + (oc k i j).1) (fy + (oc k i j).2) (fx + (oc k x y).1) (fy + (oc k x y).2) = true := by
  rw [btw_iff]
  rcases oct8 h0 h1 with rfl | rfl | rfl | rfl | rfl | rfl | rfl | rfl <;> simp [oc] <;> omega
theorem oc_bound {k i j : Int} (h0 : 0 ≤ k) (h1 : k < 8) (hj : 0 ≤ j) (hij : j ≤ i) : -i ≤ (oc k i j).1 ∧ (oc k i j).1 ≤ i ∧ -i ≤ (oc k i j).2 ∧ (oc k i j).2 ≤ i := by
  rcases oct8 h0 h1 with rfl | rfl | rfl | rfl | rfl | rfl | rfl | rfl <;> simp [oc] <;> omega
theorem oc_zero {k : Int} (h0 : 0 ≤ k) (h1 : k < 8) : oc k 0 0 = (0, 0) := by
  rcases oct8 h0 h1 with rfl | rfl | rfl | rfl | rfl | rfl | rfl | rfl <;> rfl
theorem oc_dist {k i j : Int} (h0 : 0 ≤ k) (h1 : k < 8) : (oc k i j).1 * (oc k i j).1 + (oc k i j).2 * (oc k i j).2 = i * i + j * j := by
  rcases oct8 h0 h1 with rfl | rfl | rfl | rfl | rfl | rfl | rfl | rfl <;> simp only [ocE0, ocE1, ocE2, ocE3, ocE4, ocE5, ocE6, ocE7, Int.neg_mul, Int.mul_neg, Int.neg_neg] <;> omega
/-- Every cell lies in an octant. -/
theorem oc_all (dx dy : Int) : ∃ k i j, 0 ≤ k ∧ k < 8 ∧ 0 ≤ j ∧ j ≤ i ∧ i = max (max dx (-dx)) (max dy (-dy)) ∧ oc k i j = (dx, dy) := by
  by_cases hx : dx < 0
  · by_cases hy : dy < 0
    · by_cases hs : -dy > -dx
      · exact ⟨7, -dy, -dx, by omega, by omega, by omega, by omega, by omega, by simp [oc]⟩
      · exact ⟨6, -dx, -dy, by omega, by omega, by omega, by omega, by omega, by simp [oc]⟩
    · by_cases hs : dy > -dx
      · exact ⟨3, dy, -dx, by omega, by omega, by omega, by omega, by omega, by simp [oc]⟩
      · exact ⟨2, -dx, dy, by omega, by omega, by omega, by omega, by omega, by simp [oc]⟩
  · by_cases hy : dy < 0
    · by_cases hs : -dy > dx
      · exact ⟨5, -dy, dx, by omega, by omega, by omega, by omega, by omega, by simp [oc]⟩
      · exact ⟨4, dx, -dy, by omega, by omega, by omega, by omega, by omega, by simp [oc]⟩
    · by_cases hs : dy > dx
      · exact ⟨1, dy, dx, by omega, by omega, by omega, by omega, by omega, by simp [oc]⟩
      · exact ⟨0, dx, dy, by omega, by omega, by omega, by omega, by omega, by simp [oc]⟩

/-! ### What hides, what is seen -/
section
variable (W H : Int) (cells : List (List AVal))
def hid (ax ay bx b cx cy : Int) : Bool := opq W H cells cx cy || decide (hgt W cells cx cy > max (hgt W cells ax ay) (hgt W cells bx b))
def blk (ax ay bx b cx cy : Int) : Bool := !(cx == ax && cy == ay) && (!(cx == bx && cy == b) && (hid W H cells ax ay bx b cx cy && mts ax ay bx b cx cy))
/-- Nothing blocks the line. -/
def SeesP (ax ay bx b : Int) : Prop := ∀ cx cy, blk W H cells ax ay bx b cx cy = false
open Classical in
noncomputable def seesN (ax ay bx b : Int) : Bool := decide (SeesP W H cells ax ay bx b)
end
theorem seesN_iff {W H : Int} {cells : List (List AVal)} {ax ay bx b : Int} : seesN W H cells ax ay bx b = true ↔ SeesP W H cells ax ay bx b := by
  unfold seesN
  exact @decide_eq_true_iff _ (Classical.propDecidable _)
theorem blk_comm (W H : Int) (cells : List (List AVal)) (ax ay bx b cx cy : Int) : blk W H cells ax ay bx b cx cy = blk W H cells bx b ax ay cx cy := by
  unfold blk hid
  rw [mts_comm, Int.max_comm]
  cases (cx == ax && cy == ay) <;> cases (cx == bx && cy == b) <;> rfl
theorem seesN_comm (W H : Int) (cells : List (List AVal)) (ax ay bx b : Int) : seesN W H cells ax ay bx b = seesN W H cells bx b ax ay := by
  rw [Bool.eq_iff_iff, seesN_iff, seesN_iff]
  constructor <;> intro h cx cy <;> rw [blk_comm] <;> exact h cx cy
theorem blk_btw {W H : Int} {cells : List (List AVal)} {ax ay bx b cx cy : Int} (h : blk W H cells ax ay bx b cx cy = true) : btw ax ay bx b cx cy = true := by
  unfold blk at h
  simp only [Bool.and_eq_true] at h
  exact (mts_iff.1 h.2.2.2).1
theorem seesN_self (W H : Int) (cells : List (List AVal)) (ax ay : Int) : seesN W H cells ax ay ax ay = true := by
  rw [seesN_iff]
  intro cx cy
  cases h : blk W H cells ax ay ax ay cx cy with
  | false => rfl
  | true =>
    have h1 := btw_iff.1 (blk_btw h)
    unfold blk at h
    obtain rfl : cx = ax := by omega
    obtain rfl : cy = ay := by omega
    simp at h
theorem seesN_false {W H : Int} {cells : List (List AVal)} {ax ay bx b cx cy : Int} (h : blk W H cells ax ay bx b cx cy = true) : seesN W H cells ax ay bx b = false := by
  cases hs : seesN W H cells ax ay bx b with
  | false => rfl
  | true => have := seesN_iff.1 hs cx cy; rw [h] at this; cases this
end Go.Proofs.Ytonckcjkgdlmkaa.AI
