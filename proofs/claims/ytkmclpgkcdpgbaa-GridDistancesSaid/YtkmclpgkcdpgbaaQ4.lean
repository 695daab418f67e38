/- What the functions of chapter 6 answer. -/
import Derived.Test.YtkmclpgkcdpgbaaP
import Derived.Test.YtkmclpgkcdpgbaaPl
namespace Go.Proofs.Ytkmclpgkcdpgbaa.AI
open Go.RowKit
set_option linter.unusedVariables false
theorem awake06 : F_skirmishlaw06_awake = some true := by kernel_rfl

/-- The nearest number. -/
def nr (n : Int) : Int := max (-1048576) (min n 1048576)
theorem nr_in (n : Int) : -1048576 ≤ nr n ∧ nr n ≤ 1048576 := by unfold nr; omega
theorem near_g (n : Int) : F_grid_near n = some (nr n) := by
  simp only [F_grid_near, F_num_Clamp, Option.bind_some, maxI_eq, minI_eq, nr]
theorem near_r (n : Int) : F_skirmishref06_near n = some (nr n) := by
  simp only [F_skirmishref06_near, maxI_eq, minI_eq, nr]
theorem pos_g (x y : Int) : F_grid_pos x y = some (nr x, nr y) := by simp only [F_grid_pos, near_g, Option.bind_some]
theorem pos_r (x y : Int) : F_skirmishref06_pos x y = some (nr x, nr y) := by simp only [F_skirmishref06_pos, near_r, Option.bind_some]

/-- Octile and Chebyshev of near numbers. -/
def dist (a b : Int) : Int := max (a - b) (b - a)
def oct (ax ay bx b : Int) : Int := 14 * min (dist (nr ax) (nr bx)) (dist (nr ay) (nr b)) + 10 * (max (dist (nr ax) (nr bx)) (dist (nr ay) (nr b)) - min (dist (nr ax) (nr bx)) (dist (nr ay) (nr b)))
def cheb (ax ay bx b : Int) : Int := max (dist (nr ax) (nr bx)) (dist (nr ay) (nr b))
theorem apart_g (ax ay bx b : Int) : F_grid_apart ax ay bx b = some (min (dist (nr ax) (nr bx)) (dist (nr ay) (nr b)), max (dist (nr ax) (nr bx)) (dist (nr ay) (nr b))) := by
  have h1 := nr_in ax
  have h2 := nr_in ay
  have h3 := nr_in bx
  have h4 := nr_in b
  simp only [F_grid_apart, pos_g, Option.bind_some, maxI_eq, minI_eq, dist]
  rw [wr_in (n := nr ax - nr bx) (by omega) (by omega), wr_in (n := nr ay - nr b) (by omega) (by omega), wr_in (n := 0 - (nr ax - nr bx)) (by omega) (by omega), wr_in (n := 0 - (nr ay - nr b)) (by omega) (by omega)]
  congr 2 <;> omega
theorem dist_in (a b : Int) : 0 ≤ dist (nr a) (nr b) ∧ dist (nr a) (nr b) ≤ 2097152 := by
  have h1 := nr_in a
  have h3 := nr_in b
  unfold dist
  omega
theorem octile_g (ax ay bx b : Int) : F_grid_Octile ax ay bx b = some (oct ax ay bx b) := by
  have h1 := dist_in ax bx
  have h2 := dist_in ay b
  simp only [F_grid_Octile, apart_g, Option.bind_some, oct]
  simp only [wr_eq]
  congr 1
  omega
theorem cheb_g (ax ay bx b : Int) : F_grid_Chebyshev ax ay bx b = some (cheb ax ay bx b) := by
  simp only [F_grid_Chebyshev, apart_g, Option.bind_some, cheb]
theorem abs_r (n : Int) (h1 : -9223372036854775807 ≤ n) (h2 : n ≤ 9223372036854775807) : F_skirmishref06_abs n = some (max n (-n)) := by
  simp only [F_skirmishref06_abs, maxI_eq]
  rw [wr_in (by omega) (by omega)]
  congr 1
  omega
theorem octile_r (ax ay bx b : Int) : F_skirmishref06_Octile ax ay bx b = some (oct ax ay bx b) := by
  have h1 := nr_in ax
  have h2 := nr_in ay
  have h3 := nr_in bx
  have h4 := nr_in b
  simp only [F_skirmishref06_Octile, pos_r, Option.bind_some, oct]
  rw [wr_in (n := nr ax - nr bx) (by omega) (by omega), wr_in (n := nr ay - nr b) (by omega) (by omega), abs_r _ (by omega) (by omega), abs_r _ (by omega) (by omega)]
  simp only [Option.bind_some, maxI_eq, minI_eq, wr_eq, dist]
  congr 1
  omega
theorem cheb_r (ax ay bx b : Int) : F_skirmishref06_Chebyshev ax ay bx b = some (cheb ax ay bx b) := by
  have h1 := nr_in ax
  have h2 := nr_in ay
  have h3 := nr_in bx
  have h4 := nr_in b
  simp only [F_skirmishref06_Chebyshev, pos_r, Option.bind_some, cheb]
  rw [wr_in (n := nr ax - nr bx) (by omega) (by omega), wr_in (n := nr ay - nr b) (by omega) (by omega), abs_r _ (by omega) (by omega), abs_r _ (by omega) (by omega)]
  simp only [Option.bind_some, maxI_eq, dist]
  congr 1
  omega

theorem pure_GridDistances (ax ay bx b : Int) (_ : wf .i64 ax) (_ : wf .i64 ay) (_ : wf .i64 bx) (_ : wf .i64 b) : F_skirmishlaw06_GridDistances ax ay bx b = some true := by
  simp only [F_skirmishlaw06_GridDistances, octile_g, octile_r, cheb_g, cheb_r, Option.bind_some, beq_self_eq_true, cond_true, awake06]
end Go.Proofs.Ytkmclpgkcdpgbaa.AI
