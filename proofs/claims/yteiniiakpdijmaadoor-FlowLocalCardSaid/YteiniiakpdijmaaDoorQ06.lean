/- What the functions of chapter 6 (grid) answer. -/
import Derived.Test.YteiniiakpdijmaaDoorP
import Derived.Test.YteiniiakpdijmaaDoorPl
namespace Go.Proofs.YteiniiakpdijmaaDoor.AI
open Go.RowKit
set_option linter.unusedVariables false

theorem near_g (n : Int) : F_grid_near n = some (nr n) := by
  simp only [F_grid_near, F_num_Clamp, maxI_eq, minI_eq, Option.bind_some, nr]
theorem near_r (n : Int) : F_skirmishref06_near n = some (nr n) := by
  simp only [F_skirmishref06_near, maxI_eq, minI_eq, nr]
theorem pos_g (x y : Int) : F_grid_pos x y = some (nr x, nr y) := by simp only [F_grid_pos, near_g, Option.bind_some]
theorem pos_r (x y : Int) : F_skirmishref06_pos x y = some (nr x, nr y) := by simp only [F_skirmishref06_pos, near_r, Option.bind_some]

/-! ### Sizes, places -/
def vld (w h : Int) : Bool := decide (1 ≤ w) && (decide (w ≤ 32) && (decide (1 ≤ h) && decide (h ≤ 32)))
def inn (w h x y : Int) : Bool := decide (0 ≤ x) && (decide (x < w) && (decide (0 ≤ y) && decide (y < h)))
theorem vld_iff {w h : Int} : vld w h = true ↔ 1 ≤ w ∧ w ≤ 32 ∧ 1 ≤ h ∧ h ≤ 32 := by simp [vld]
theorem inn_iff {w h x y : Int} : inn w h x y = true ↔ 0 ≤ x ∧ x < w ∧ 0 ≤ y ∧ y < h := by simp [inn]
theorem valid_g (w h : Int) : F_grid_Valid w h = some (vld w h) := by
  simp only [F_grid_Valid, ge_iff_le, bif_and, vld]
theorem valid_r (w h : Int) : F_skirmishref06_Valid w h = some (vld w h) := by
  simp only [F_skirmishref06_Valid, ge_iff_le, bif_and, vld]
theorem in_g (w h x y : Int) : F_grid_In w h x y = some (inn w h x y) := by
  simp only [F_grid_In, ge_iff_le, bif_and, inn]
theorem in_r (w h x y : Int) : F_skirmishref06_In w h x y = some (inn w h x y) := by
  simp only [F_skirmishref06_In, ge_iff_le, bif_and, inn]
def idx (w x y : Int) : Int := nr y * nr w + nr x
theorem idx_in (w x y : Int) : -1099512676352 ≤ idx w x y ∧ idx w x y ≤ 1099512676352 := by
  have h := mul_bound (nr_in y) (nr_in w) (by omega) (by omega)
  have h2 := nr_in x
  unfold idx
  omega
theorem index_eq (w x y : Int) : wr (wr (nr y * nr w) + nr x) = idx w x y := by
  have h := mul_bound (nr_in y) (nr_in w) (by omega) (by omega)
  have h1 := idx_in w x y
  have h2 := nr_in x
  rw [wr_in (n := nr y * nr w) (by omega) (by omega)]
  exact wr_in (by unfold idx at h1; omega) (by unfold idx at h1; omega)
theorem index_g (w x y : Int) : F_grid_Index w x y = some (idx w x y) := by
  simp only [F_grid_Index, pos_g, near_g, Option.bind_some, index_eq]
theorem index_r (w x y : Int) : F_skirmishref06_Index w x y = some (idx w x y) := by
  simp only [F_skirmishref06_Index, pos_r, near_r, Option.bind_some, index_eq]
/-- The index of a place in a grid of a side of at most 32. -/
theorem idx_id {w h x y : Int} (hw : w ≤ 32) (hh : h ≤ 32) (hi : inn w h x y = true) : idx w x y = y * w + x := by
  rw [inn_iff] at hi
  unfold idx
  rw [nr_id (n := x) (by omega) (by omega), nr_id (n := y) (by omega) (by omega), nr_id (n := w) (by omega) (by omega)]
theorem idx_lt {w h x y : Int} (hi : inn w h x y = true) : 0 ≤ y * w + x ∧ y * w + x < w * h := by
  rw [inn_iff] at hi
  have h1 : 0 ≤ y * w := Int.mul_nonneg (by omega) (by omega)
  have h2 : (y + 1) * w ≤ h * w := Int.mul_le_mul_of_nonneg_right (by omega) (by omega)
  rw [Int.add_mul, Int.one_mul] at h2
  rw [Int.mul_comm w h]
  omega

/-- The place with an index. -/
def att (w i : Int) : Int × Int := if w < 1 ∨ i < 0 then (0, 0) else (i % w, i / w)
theorem at_eq (w i : Int) (hi : i ≤ 9223372036854775807) : (bif (decide (w < (1 : Int))) then some ((0 : Int), (0 : Int)) else bif (decide (i < (0 : Int))) then some ((0 : Int), (0 : Int)) else bif (w == (0 : Int)) then none else some ((Int.tmod i w), (wr (Int.tdiv i w)))) = some (att w i) := by
  unfold att
  by_cases h1 : w < 1
  · simp [h1]
  · by_cases h2 : i < 0
    · simp [h1, h2]
    · have h3 : (w == 0) = false := by simp; omega
      have h4 : i / w ≤ i := Int.ediv_le_self w (by omega)
      have h5 : 0 ≤ i / w := Int.ediv_nonneg (by omega) (by omega)
      simp only [h1, h2, decide_false, cond_false, h3, or_self, if_false, Int.tmod_eq_emod_of_nonneg (show 0 ≤ i by omega), Int.tdiv_eq_ediv_of_nonneg (show 0 ≤ i by omega), wr_in (n := i / w) (by omega) (by omega)]
theorem at_g (w i : Int) (hi : i ≤ 9223372036854775807) : F_grid_At w i = some (att w i) := at_eq w i hi
theorem att_in {w h i : Int} (h0 : 0 ≤ i) (h1 : i < w * h) (hw : 1 ≤ w) : inn w h (att w i).1 (att w i).2 = true := by
  unfold att
  rw [if_neg (by omega), inn_iff]
  refine ⟨Int.emod_nonneg _ (by omega), Int.emod_lt_of_pos _ (by omega), Int.ediv_nonneg h0 (by omega), ?_⟩
  exact Int.ediv_lt_of_lt_mul (by omega) (by rw [Int.mul_comm]; exact h1)
theorem att_idx {w i : Int} (h0 : 0 ≤ i) (hw : 1 ≤ w) : (att w i).2 * w + (att w i).1 = i := by
  unfold att
  rw [if_neg (by omega)]
  have := Int.emod_add_mul_ediv i w
  rw [Int.mul_comm] at this
  show i / w * w + i % w = i
  omega
theorem idx_att {w h x y : Int} (hi : inn w h x y = true) : att w (y * w + x) = (x, y) := by
  have hl := idx_lt hi
  rw [inn_iff] at hi
  unfold att
  rw [if_neg (by omega)]
  have h1 : (y * w + x) % w = x := by
    rw [Int.add_comm, Int.mul_comm, Int.add_mul_emod_self_left]
    exact Int.emod_eq_of_lt (by omega) (by omega)
  have h2 : (y * w + x) / w = y := by
    rw [Int.add_comm, Int.mul_comm, Int.add_mul_ediv_left _ _ (by omega)]
    rw [Int.ediv_eq_zero_of_lt (by omega) (by omega)]
    omega
  rw [h1, h2]

/-! ### Steps -/
def dX (d : Int) : Int := if d = 0 ∨ d = 1 ∨ d = 7 then 1 else if d = 3 ∨ d = 4 ∨ d = 5 then -1 else 0
def dY (d : Int) : Int := if d = 1 ∨ d = 2 ∨ d = 3 then 1 else if d = 5 ∨ d = 6 ∨ d = 7 then -1 else 0
def stp (x y d : Int) : Int × Int := if d < 0 ∨ 7 < d then (x, y) else (nr x + dX d, nr y + dY d)
theorem dX_in (d : Int) : -1 ≤ dX d ∧ dX d ≤ 1 := by unfold dX; split <;> (try split) <;> omega
theorem dY_in (d : Int) : -1 ≤ dY d ∧ dY d ≤ 1 := by unfold dY; split <;> (try split) <;> omega
theorem stp_wr (x y d : Int) : (wr (nr x + dX d), wr (nr y + dY d)) = (nr x + dX d, nr y + dY d) := by
  have h1 := nr_in x
  have h2 := nr_in y
  have h3 := dX_in d
  have h4 := dY_in d
  rw [wr_in (by omega) (by omega), wr_in (by omega) (by omega)]
theorem dirs {d : Int} (h1 : ¬ d < 0) (h2 : ¬ d > 7) : d = 0 ∨ d = 1 ∨ d = 2 ∨ d = 3 ∨ d = 4 ∨ d = 5 ∨ d = 6 ∨ d = 7 := by omega
theorem step_g (x y d : Int) : F_grid_Step x y d = some (stp x y d) := by
  by_cases h1 : d < 0
  · simp [F_grid_Step, stp, h1]
  · by_cases h2 : d > 7
    · simp [F_grid_Step, stp, h1, h2]
    · have key : F_grid_Step x y d = (F_grid_pos x y).bind fun t => some (wr (t.1 + dX d), wr (t.2 + dY d)) := by
        rcases dirs h1 h2 with rfl | rfl | rfl | rfl | rfl | rfl | rfl | rfl <;> kernel_rfl
      rw [key, pos_g, Option.bind_some, stp_wr]
      unfold stp
      rw [if_neg (by omega)]
theorem step_r (x y d : Int) : F_skirmishref06_Step x y d = some (stp x y d) := by
  by_cases h1 : d < 0
  · simp [F_skirmishref06_Step, stp, h1]
  · by_cases h2 : d > 7
    · simp [F_skirmishref06_Step, stp, h1, h2]
    · have key : F_skirmishref06_Step x y d = (F_skirmishref06_pos x y).bind fun t => some (wr (t.1 + dX d), wr (t.2 + dY d)) := by
        rcases dirs h1 h2 with rfl | rfl | rfl | rfl | rfl | rfl | rfl | rfl <;> kernel_rfl
      rw [key, pos_r, Option.bind_some, stp_wr]
      unfold stp
      rw [if_neg (by omega)]

/-! ### Distances -/
def dist (a b : Int) : Int := max (a - b) (b - a)
def oct (ax ay bx b : Int) : Int := 14 * min (dist (nr ax) (nr bx)) (dist (nr ay) (nr b)) + 10 * (max (dist (nr ax) (nr bx)) (dist (nr ay) (nr b)) - min (dist (nr ax) (nr bx)) (dist (nr ay) (nr b)))
def cheb (ax ay bx b : Int) : Int := max (dist (nr ax) (nr bx)) (dist (nr ay) (nr b))
theorem dist_in (a b : Int) : 0 ≤ dist (nr a) (nr b) ∧ dist (nr a) (nr b) ≤ 2097152 := by
  have h1 := nr_in a
  have h3 := nr_in b
  unfold dist
  omega
end Go.Proofs.YteiniiakpdijmaaDoor.AI
