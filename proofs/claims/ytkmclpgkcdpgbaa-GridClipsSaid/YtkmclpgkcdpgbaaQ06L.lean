/- The laws of chapter 6, in plain words: steps, distances, places. -/
import Derived.Test.YtkmclpgkcdpgbaaQ06
namespace Go.Proofs.Ytkmclpgkcdpgbaa.AI
open Go.RowKit
set_option linter.unusedVariables false
set_option linter.unusedSimpArgs false
theorem awake06 : F_skirmishlaw06_awake = some true := by kernel_rfl

theorem apart_g (ax ay bx b : Int) : F_grid_apart ax ay bx b = some (min (dist (nr ax) (nr bx)) (dist (nr ay) (nr b)), max (dist (nr ax) (nr bx)) (dist (nr ay) (nr b))) := by
  have h1 := nr_in ax
  have h2 := nr_in ay
  have h3 := nr_in bx
  have h4 := nr_in b
  simp only [F_grid_apart, pos_g, Option.bind_some, maxI_eq, minI_eq, dist]
  rw [wr_in (n := nr ax - nr bx) (by omega) (by omega), wr_in (n := nr ay - nr b) (by omega) (by omega), wr_in (n := 0 - (nr ax - nr bx)) (by omega) (by omega), wr_in (n := 0 - (nr ay - nr b)) (by omega) (by omega)]
  congr 2 <;> omega
theorem octile_g (ax ay bx b : Int) : F_grid_Octile ax ay bx b = some (oct ax ay bx b) := by
  have h1 := dist_in ax bx
  have h2 := dist_in ay b
  simp only [F_grid_Octile, apart_g, Option.bind_some, oct]
  simp only [wr_eq]
  congr 1
  omega
theorem cheb_g (ax ay bx b : Int) : F_grid_Chebyshev ax ay bx b = some (cheb ax ay bx b) := by
  simp only [F_grid_Chebyshev, apart_g, Option.bind_some, cheb]
theorem abs_r (n : Int) (h1 : -9223372036854775807 ≤ n) (h2 : n ≤ 9223372036854775807) : F_skirmishref06_abs n = some (max n (-n)) := by
  simp only [F_skirmishref06_abs, maxI_eq]
  rw [wr_in (by omega) (by omega)]
  congr 1
  omega
theorem octile_r (ax ay bx b : Int) : F_skirmishref06_Octile ax ay bx b = some (oct ax ay bx b) := by
  have h1 := nr_in ax
  have h2 := nr_in ay
  have h3 := nr_in bx
  have h4 := nr_in b
  simp only [F_skirmishref06_Octile, pos_r, Option.bind_some, oct]
  rw [wr_in (n := nr ax - nr bx) (by omega) (by omega), wr_in (n := nr ay - nr b) (by omega) (by omega), abs_r _ (by omega) (by omega), abs_r _ (by omega) (by omega)]
  simp only [Option.bind_some, maxI_eq, minI_eq, wr_eq, dist]
  congr 1
  omega
theorem cheb_r (ax ay bx b : Int) : F_skirmishref06_Chebyshev ax ay bx b = some (cheb ax ay bx b) := by
  have h1 := nr_in ax
  have h2 := nr_in ay
  have h3 := nr_in bx
  have h4 := nr_in b
  simp only [F_skirmishref06_Chebyshev, pos_r, Option.bind_some, cheb]
  rw [wr_in (n := nr ax - nr bx) (by omega) (by omega), wr_in (n := nr ay - nr b) (by omega) (by omega), abs_r _ (by omega) (by omega), abs_r _ (by omega) (by omega)]
  simp only [Option.bind_some, maxI_eq, dist]
  congr 1
  omega

theorem pure_GridDistances (ax ay bx b : Int) (_ : wf .i64 ax) (_ : wf .i64 ay) (_ : wf .i64 bx) (_ : wf .i64 b) : F_skirmishlaw06_GridDistances ax ay bx b = some true := by
  simp only [F_skirmishlaw06_GridDistances, octile_g, octile_r, cheb_g, cheb_r, Option.bind_some, beq_self_eq_true, cond_true, awake06]

/-! ### Lists of places -/
def c2 : List LT := [.int .i64, .int .i64]
theorem same_self_G (a : List (List AVal)) (ha : ∀ r ∈ a, chk [.int .i64, .int .i64] r = true) (hl : a.length ≤ 4611686018427387904) : ∀ (m : Nat) (i : Int), 0 ≤ i → i ≤ a.length → (a.length : Int) - i < m → G_skirmishref06_Same_0 a a m i = some false
  | 0, i, h0, h1, h2 => by omega
  | m + 1, i, h0, h1, h2 => by
    simp only [G_skirmishref06_Same_0, Int.ofNat_eq_natCast]
    by_cases hi : i < a.length
    · have hlt : i.toNat < a.length := by omega
      have hr : a[i.toNat]? = some a[i.toNat] := List.getElem?_eq_getElem hlt
      have hc := ha _ (List.getElem_mem hlt)
      simp only [hi, h0, decide_true, cond_true, hr, Option.bind_some, hc, beq_self_eq_true, Bool.and_self, Bool.not_true, cond_false]
      rw [wr_in (by omega) (by omega)]
      exact same_self_G a ha hl m (i + 1) (by omega) (by omega) (by omega)
    · simp only [hi, decide_false, cond_false]
theorem same_self (a : List (List AVal)) (ha : ∀ r ∈ a, chk [.int .i64, .int .i64] r = true) (hl : a.length ≤ 4611686018427387904) : F_skirmishref06_Same a a = some true := by
  simp only [F_skirmishref06_Same, bne_self_eq_false, cond_false]
  rw [same_self_G a ha hl FU 0 (by omega) (by omega) (by unfold FU; omega)]
  rfl
theorem chk_row (x y : Int) : chk [.int .i64, .int .i64] [i64 x, i64 y] = true := rfl
theorem all_snoc {p : List AVal → Prop} {a : List (List AVal)} {r : List AVal} (ha : ∀ q ∈ a, p q) (hr : p r) : ∀ q ∈ a ++ [r], p q := fun q hq => by
  rcases List.mem_append.1 hq with h | h
  · exact ha q h
  · rw [List.mem_singleton.1 h]; exact hr
theorem room_ok {n b : Nat} (h1 : n ≤ 140737488355328) (h2 : n * b ≤ 140737488355328) : roomOk n b = true := by simp [roomOk, h1, h2]

theorem neighbors_G (w h x y : Int) (hv : vld w h = true) : ∀ (m : Nat) (R : List (List AVal)) (d : Int), 0 ≤ d → d ≤ 8 → 8 - d < m → (R.length : Int) ≤ d → (∀ r ∈ R, chk [.int .i64, .int .i64] r = true) →
    ∃ R', G_grid_Neighbors_0 w h x y m R d = some R' ∧ G_skirmishref06_Neighbors_0 w h x y m R d = some R' ∧ (∀ r ∈ R', chk [.int .i64, .int .i64] r = true) ∧ R'.length ≤ 8
  | 0, R, d, h0, h1, h2, h3, h4 => by omega
  | m + 1, R, d, h0, h1, h2, h3, h4 => by
    simp only [G_grid_Neighbors_0, G_skirmishref06_Neighbors_0, step_g, step_r, in_g, in_r, valid_r, Option.bind_some, hv, cond_true]
    by_cases hd : d < 8
    · simp only [hd, decide_true, cond_true]
      rw [wr_in (n := d + 1) (by omega) (by omega)]
      cases inn w h (stp x y d).1 (stp x y d).2 with
      | true =>
        simp only [cond_true]
        rw [room_ok (by omega) (by omega)]
        simp only [cond_true]
        exact neighbors_G w h x y hv m _ (d + 1) (by omega) (by omega) (by omega) (by simp; omega) (all_snoc h4 rfl)
      | false =>
        simp only [cond_false]
        exact neighbors_G w h x y hv m R (d + 1) (by omega) (by omega) (by omega) (by omega) h4
    · simp only [hd, decide_false, cond_false]
      exact ⟨R, rfl, rfl, h4, by omega⟩

theorem neighbors (w h x y : Int) : ∃ R, F_grid_Neighbors w h x y = some R ∧ F_skirmishref06_Neighbors w h x y = some R ∧ (∀ r ∈ R, chk [.int .i64, .int .i64] r = true) ∧ R.length ≤ 8 := by
  simp only [F_grid_Neighbors, F_skirmishref06_Neighbors, valid_g, Option.bind_some]
  cases hv : vld w h with
  | true =>
    obtain ⟨R, h1, h2, h3, h4⟩ := neighbors_G w h x y hv FU [] 0 (by omega) (by omega) (by unfold FU; omega) (by simp) (fun r hr => by cases hr)
    refine ⟨R, ?_, ?_, h3, h4⟩
    · simp only [Bool.not_true, cond_false, h1, Option.bind_some]
    · simp only [h2, Option.bind_some]
  | false =>
    refine ⟨[], rfl, ?_, (fun r hr => by cases hr), by simp⟩
    have : FU = (FU - 1) + 1 := by unfold FU; rfl
    rw [this]
    simp only [G_skirmishref06_Neighbors_0, valid_r, hv, Option.bind_some, cond_false, show decide ((0 : Int) < 8) = true from rfl, cond_true]

theorem steps_G (x y : Int) : ∀ (m : Nat) (d : Int), -1 ≤ d → d ≤ 9 → 9 - d < m → G_skirmishlaw06_GridSteps_0 x y m d = some false
  | 0, d, h0, h1, h2 => by omega
  | m + 1, d, h0, h1, h2 => by
    simp only [G_skirmishlaw06_GridSteps_0, step_g, step_r, Option.bind_some, beq_self_eq_true, Bool.and_self, Bool.not_true, cond_false]
    by_cases hd : d ≤ 8
    · simp only [hd, decide_true, cond_true]
      rw [wr_in (by omega) (by omega)]
      exact steps_G x y m (d + 1) (by omega) (by omega) (by omega)
    · simp only [hd, decide_false, cond_false]

theorem pure_GridSteps (w h x y : Int) (_ : wf .i64 w) (_ : wf .i64 h) (_ : wf .i64 x) (_ : wf .i64 y) : F_skirmishlaw06_GridSteps w h x y = some true := by
  obtain ⟨R, h1, h2, h3, h4⟩ := neighbors w h x y
  simp only [F_skirmishlaw06_GridSteps, steps_G x y FU (-1) (by omega) (by omega) (by unfold FU; omega), Option.bind_some, cond_false, step_g, step_r, beq_self_eq_true, Bool.and_self, cond_true, h1, h2, same_self R h3 (by omega), awake06]

theorem pure_GridBasics (w h x y : Int) (hw : wf .i64 w) (hh : wf .i64 h) (hx : wf .i64 x) (hy : wf .i64 y) : F_skirmishlaw06_GridBasics w h x y = some true := by
  have h1 := wf_i64 hh
  have h2 := wf_i64 hx
  simp only [F_skirmishlaw06_GridBasics, valid_g, valid_r, in_g, in_r, index_g, index_r, at_g w h h1.2, at_r w h h1.2, at_g h x h2.2, at_r h x h2.2, Option.bind_some, beq_self_eq_true, Bool.and_self, cond_true, awake06]

/-! ### Symmetry -/
theorem max_min_tri (u v u1 v1 u2 v2 : Int) (h1 : 0 ≤ u1) (h2 : 0 ≤ v1) (h3 : 0 ≤ u2) (h4 : 0 ≤ v2) (hu : u ≤ u1 + u2) (hv : v ≤ v1 + v2) :
    14 * min u v + 10 * (max u v - min u v) ≤ (14 * min u1 v1 + 10 * (max u1 v1 - min u1 v1)) + (14 * min u2 v2 + 10 * (max u2 v2 - min u2 v2)) := by omega
theorem dist_tri (a b c : Int) : dist a c ≤ dist a b + dist b c := by unfold dist; omega
theorem dist_nonneg (a b : Int) : 0 ≤ dist a b := by unfold dist; omega
theorem dist_symm (a b : Int) : dist a b = dist b a := by unfold dist; omega
theorem oct_symm (ax ay bx b : Int) : oct ax ay bx b = oct bx b ax ay := by unfold oct; rw [dist_symm (nr ax), dist_symm (nr ay)]
theorem cheb_symm (ax ay bx b : Int) : cheb ax ay bx b = cheb bx b ax ay := by unfold cheb; rw [dist_symm (nr ax), dist_symm (nr ay)]
theorem oct_tri (ax ay bx b cx cy : Int) : oct ax ay cx cy ≤ oct ax ay bx b + oct bx b cx cy :=
  max_min_tri _ _ _ _ _ _ (dist_nonneg _ _) (dist_nonneg _ _) (dist_nonneg _ _) (dist_nonneg _ _) (dist_tri _ _ _) (dist_tri _ _ _)
theorem cheb_tri (ax ay bx b cx cy : Int) : cheb ax ay cx cy ≤ cheb ax ay bx b + cheb bx b cx cy := by
  have h1 := dist_tri (nr ax) (nr bx) (nr cx)
  have h2 := dist_tri (nr ay) (nr b) (nr cy)
  unfold cheb
  omega
theorem oct_in (ax ay bx b : Int) : 0 ≤ oct ax ay bx b ∧ oct ax ay bx b ≤ 29360128 := by
  have h1 := dist_in ax bx
  have h2 := dist_in ay b
  unfold oct
  omega
theorem cheb_in (ax ay bx b : Int) : 0 ≤ cheb ax ay bx b ∧ cheb ax ay bx b ≤ 2097152 := by
  have h1 := dist_in ax bx
  have h2 := dist_in ay b
  unfold cheb
  omega

theorem sym_step (x y d : Int) (h0 : 0 ≤ d) (h1 : d < 8) (hx : -1000 ≤ x ∧ x ≤ 1000) (hy : -1000 ≤ y ∧ y ≤ 1000) :
    stp (stp x y d).1 (stp x y d).2 ((d + 4) % 8) = (x, y) ∧ oct x y (stp x y d).1 (stp x y d).2 = 10 + d % 2 * 4 ∧ cheb x y (stp x y d).1 (stp x y d).2 = 1 := by
  have hd := dirs (d := d) (by omega) (by omega)
  have hnx : nr x = x := nr_id (by omega) (by omega)
  have hny : nr y = y := nr_id (by omega) (by omega)
  have h3 := dX_in d
  have h4 := dY_in d
  have hs : stp x y d = (x + dX d, y + dY d) := by unfold stp; rw [if_neg (by omega), hnx, hny]
  rw [hs]
  have e1 : nr (x + dX d) = x + dX d := nr_id (by omega) (by omega)
  have e2 : nr (y + dY d) = y + dY d := nr_id (by omega) (by omega)
  refine ⟨?_, ?_, ?_⟩
  · unfold stp
    rw [if_neg (by omega)]
    show (nr (x + dX d) + _, nr (y + dY d) + _) = _
    rw [e1, e2]
    rcases hd with rfl | rfl | rfl | rfl | rfl | rfl | rfl | rfl <;> simp [dX, dY] <;> omega
  · unfold oct
    show 14 * min (dist (nr x) (nr (x + dX d))) (dist (nr y) (nr (y + dY d))) + _ = _
    rw [e1, e2, hnx, hny]
    rcases hd with rfl | rfl | rfl | rfl | rfl | rfl | rfl | rfl <;> simp [dX, dY, dist] <;> omega
  · unfold cheb
    show max (dist (nr x) (nr (x + dX d))) (dist (nr y) (nr (y + dY d))) = _
    rw [e1, e2, hnx, hny]
    rcases hd with rfl | rfl | rfl | rfl | rfl | rfl | rfl | rfl <;> simp [dX, dY, dist] <;> omega

theorem pure_GridSymmetric (ax ay bx b cx cy dir : Int) (_ : wf .i64 ax) (_ : wf .i64 ay) (_ : wf .i64 bx) (_ : wf .i64 b) (_ : wf .i64 cx) (_ : wf .i64 cy) (hd : wf .u8 dir) : F_skirmishlaw06_GridSymmetric ax ay bx b cx cy dir = some true := by
  have hd := wf_u8 hd
  have hm : Int.tmod dir 8 = dir % 8 := Int.tmod_eq_emod_of_nonneg (by omega)
  have hw : wr (dir % 8) = dir % 8 := wr_in (by omega) (by omega)
  have h0 : 0 ≤ dir % 8 := by omega
  have h8 : dir % 8 < 8 := by omega
  generalize hdd : dir % 8 = d at hm hw h0 h8
  have hw4 : wr (d + 4) = d + 4 := wr_in (by omega) (by omega)
  have hm4 : Int.tmod (d + 4) 8 = (d + 4) % 8 := Int.tmod_eq_emod_of_nonneg (by omega)
  have hm2 : Int.tmod d 2 = d % 2 := Int.tmod_eq_emod_of_nonneg (by omega)
  have hst : wr (10 + wr (d % 2 * 4)) = 10 + d % 2 * 4 := by rw [wr_in (n := d % 2 * 4) (by omega) (by omega), wr_in (by omega) (by omega)]
  have o1 := oct_in ax ay bx b
  have o2 := oct_in bx b cx cy
  have o3 := oct_tri ax ay bx b cx cy
  have q1 := cheb_in ax ay bx b
  have q2 := cheb_in bx b cx cy
  have q3 := cheb_tri ax ay bx b cx cy
  have hc1 : decide (oct ax ay cx cy > wr (oct ax ay bx b + oct bx b cx cy)) = false := by rw [wr_in (by omega) (by omega)]; simp; omega
  have hc2 : decide (cheb ax ay cx cy > wr (cheb ax ay bx b + cheb bx b cx cy)) = false := by rw [wr_in (by omega) (by omega)]; simp; omega
  simp only [F_skirmishlaw06_GridSymmetric, awake06, Option.bind_some]
  by_cases g1 : ax < -1000 <;> simp only [g1, decide_true, decide_false, cond_true, cond_false]
  by_cases g2 : ax > 1000 <;> simp only [g2, decide_true, decide_false, cond_true, cond_false]
  by_cases g3 : ay < -1000 <;> simp only [g3, decide_true, decide_false, cond_true, cond_false]
  by_cases g4 : ay > 1000 <;> simp only [g4, decide_true, decide_false, cond_true, cond_false]
  by_cases g5 : bx < -1000 <;> simp only [g5, decide_true, decide_false, cond_true, cond_false]
  by_cases g6 : bx > 1000 <;> simp only [g6, decide_true, decide_false, cond_true, cond_false]
  by_cases g7 : b < -1000 <;> simp only [g7, decide_true, decide_false, cond_true, cond_false]
  by_cases g8 : b > 1000 <;> simp only [g8, decide_true, decide_false, cond_true, cond_false]
  by_cases g9 : cx < -1000 <;> simp only [g9, decide_true, decide_false, cond_true, cond_false]
  by_cases ga : cx > 1000 <;> simp only [ga, decide_true, decide_false, cond_true, cond_false]
  by_cases gb : cy < -1000 <;> simp only [gb, decide_true, decide_false, cond_true, cond_false]
  by_cases gc : cy > 1000 <;> simp only [gc, decide_true, decide_false, cond_true, cond_false]
  obtain ⟨s1, s2, s3⟩ := sym_step ax ay d h0 h8 (by omega) (by omega)
  have hz : (oct ax ay bx b == 0) = ((ax == bx) && (ay == b)) := by
    have e1 : nr ax = ax := nr_id (by omega) (by omega)
    have e2 : nr ay = ay := nr_id (by omega) (by omega)
    have e3 : nr bx = bx := nr_id (by omega) (by omega)
    have e4 : nr b = b := nr_id (by omega) (by omega)
    rw [Bool.eq_iff_iff]
    simp only [Bool.and_eq_true, beq_iff_eq, oct, e1, e2, e3, e4, dist]
    omega
  simp only [hm, hw, hw4, hm4, hm2, hst, step_g, octile_g, cheb_g, Option.bind_some, oct_symm bx b ax ay, cheb_symm bx b ax ay, bne_self_eq_false, cond_false, hc1, hc2, s1, s2, s3, beq_self_eq_true, Bool.and_self, cond_true, hz]

/-! ### Indexes -/
theorem side_eq (w : Int) (hw : 0 ≤ w ∧ w ≤ 255) : wr (wr (Int.tmod w 32) + 1) = w % 32 + 1 := by
  rw [Int.tmod_eq_emod_of_nonneg hw.1, wr_in (n := w % 32) (by omega) (by omega), wr_in (by omega) (by omega)]
theorem area_in {w h : Int} (h1 : 1 ≤ w) (h2 : w ≤ 32) (h3 : 1 ≤ h) (h4 : h ≤ 32) : 1 ≤ w * h ∧ w * h ≤ 1024 := by
  have := mul_bound (a := w) (b := h) (A := 32) (B := 32) (by omega) (by omega) (by omega) (by omega)
  have := Int.mul_pos (a := w) (b := h) (by omega) (by omega)
  omega
theorem indexes_G (w h : Int) (h1 : 1 ≤ w) (h2 : w ≤ 32) (h3 : 1 ≤ h) (h4 : h ≤ 32) : ∀ (m : Nat) (i : Int), 0 ≤ i → i ≤ w * h → w * h - i < m → ∃ u v, G_skirmishlaw06_GridIndexes_0 w h m i = some (false, u, v)
  | 0, i, g0, g1, g2 => by omega
  | m + 1, i, g0, g1, g2 => by
    have ha := area_in h1 h2 h3 h4
    simp only [G_skirmishlaw06_GridIndexes_0]
    rw [wr_in (n := w * h) (by omega) (by omega)]
    by_cases hi : i < w * h
    · have hin := att_in g0 hi h1
      have hidx : idx w (att w i).1 (att w i).2 = i := by rw [idx_id h2 h4 hin, att_idx g0 h1]
      simp only [hi, decide_true, cond_true, at_g w i (by omega), Option.bind_some, in_g, hin, Bool.not_true, cond_false, index_g, hidx, bne_self_eq_false]
      rw [wr_in (by omega) (by omega)]
      exact indexes_G w h h1 h2 h3 h4 m (i + 1) (by omega) (by omega) (by omega)
    · simp only [hi, decide_false, cond_false]
      exact ⟨0, 0, rfl⟩
theorem pure_GridIndexes (w h x y : Int) (hw : wf .u8 w) (hh : wf .u8 h) (_ : wf .i64 x) (_ : wf .i64 y) : F_skirmishlaw06_GridIndexes w h x y = some true := by
  have hw := wf_u8 hw
  have hh := wf_u8 hh
  simp only [F_skirmishlaw06_GridIndexes, side_eq w hw, side_eq h hh]
  have h1 : 1 ≤ w % 32 + 1 := by omega
  have h2 : w % 32 + 1 ≤ 32 := by omega
  have h3 : 1 ≤ h % 32 + 1 := by omega
  have h4 : h % 32 + 1 ≤ 32 := by omega
  generalize w % 32 + 1 = W at *
  generalize h % 32 + 1 = H at *
  have ha := area_in h1 h2 h3 h4
  obtain ⟨u, v, hG⟩ := indexes_G W H h1 h2 h3 h4 FU 0 (by omega) (by omega) (by unfold FU; omega)
  simp only [hG, Option.bind_some, cond_false, in_g, awake06]
  cases hin : inn W H x y with
  | false => rfl
  | true =>
    have hl := idx_lt hin
    have hb : y * W + x ≤ 9223372036854775807 := by omega
    simp only [Bool.not_true, cond_false, index_g, idx_id h2 h4 hin, Option.bind_some, wr_in (n := W * H) (by omega) (by omega), ge_iff_le, hl.1, hl.2, decide_true, cond_true, at_g _ _ hb, idx_att hin, beq_self_eq_true, Bool.and_self]
end Go.Proofs.Ytkmclpgkcdpgbaa.AI
