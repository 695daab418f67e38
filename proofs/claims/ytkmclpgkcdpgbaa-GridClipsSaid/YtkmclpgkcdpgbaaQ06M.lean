/- The laws of chapter 6, in plain words: rectangles. -/
import Derived.Test.YtkmclpgkcdpgbaaQ06L
namespace Go.Proofs.Ytkmclpgkcdpgbaa.AI
open Go.RowKit
set_option linter.unusedVariables false
set_option linter.unusedSimpArgs false

theorem rect_g (x y w h : Int) : F_grid_rect x y w h = some (nr x, nr y, nr w, nr h) := by simp only [F_grid_rect, near_g, Option.bind_some]
theorem rect_r (x y w h : Int) : F_skirmishref06_rect x y w h = some (nr x, nr y, nr w, nr h) := by simp only [F_skirmishref06_rect, near_r, Option.bind_some]
/-- Near numbers. -/
def nn (n : Int) : Prop := -1048576 ≤ n ∧ n ≤ 1048576
theorem nr_nn (n : Int) : nn (nr n) := nr_in n
def ins (X Y W H x y : Int) : Bool := decide (X ≤ x) && (decide (x < X + W) && (decide (Y ≤ y) && decide (y < Y + H)))
theorem inside_g (X Y W H x y : Int) : F_grid_Inside X Y W H x y = some (ins (nr X) (nr Y) (nr W) (nr H) (nr x) (nr y)) := by
  have h1 := nr_in X
  have h2 := nr_in Y
  have h3 := nr_in W
  have h4 := nr_in H
  simp only [F_grid_Inside, rect_g, pos_g, Option.bind_some, ge_iff_le, bif_and, ins]
  rw [wr_in (n := nr X + nr W) (by omega) (by omega), wr_in (n := nr Y + nr H) (by omega) (by omega)]
theorem inside_r (X Y W H x y : Int) : F_skirmishref06_Inside X Y W H x y = some (ins (nr X) (nr Y) (nr W) (nr H) (nr x) (nr y)) := by
  have h1 := nr_in X
  have h2 := nr_in Y
  have h3 := nr_in W
  have h4 := nr_in H
  simp only [F_skirmishref06_Inside, rect_r, pos_r, Option.bind_some, ge_iff_le, bif_and, ins]
  rw [wr_in (n := nr X + nr W) (by omega) (by omega), wr_in (n := nr Y + nr H) (by omega) (by omega)]

/-- The common part. -/
def mt (ax ay aw ah bx b bw bh : Int) : Int × Int × Int × Int :=
  if aw < 1 ∨ ah < 1 ∨ bw < 1 ∨ bh < 1 ∨ min (ax + aw) (bx + bw) - max ax bx < 1 ∨ min (ay + ah) (b + bh) - max ay b < 1 then (0, 0, 0, 0)
  else (max ax bx, max ay b, min (ax + aw) (bx + bw) - max ax bx, min (ay + ah) (b + bh) - max ay b)
theorem meet_eq (ax ay aw ah bx b bw bh : Int) (h1 : nn ax) (h2 : nn ay) (h3 : nn aw) (h4 : nn ah) (h5 : nn bx) (h6 : nn b) (h7 : nn bw) (h8 : nn bh) : F_grid_meet ax ay aw ah bx b bw bh = some (mt ax ay aw ah bx b bw bh) := by
  unfold nn at *
  unfold mt
  simp only [F_grid_meet, maxI_eq, minI_eq]
  rw [wr_in (n := ax + aw) (by omega) (by omega), wr_in (n := bx + bw) (by omega) (by omega), wr_in (n := ay + ah) (by omega) (by omega), wr_in (n := b + bh) (by omega) (by omega)]
  rw [wr_in (n := min (ax + aw) (bx + bw) - max ax bx) (by omega) (by omega), wr_in (n := min (ay + ah) (b + bh) - max ay b) (by omega) (by omega)]
  by_cases g1 : aw < 1 <;> simp only [g1, decide_true, decide_false, cond_true, cond_false, true_or, false_or, or_true, or_false, if_true, if_false]
  by_cases g2 : ah < 1 <;> simp only [g2, decide_true, decide_false, cond_true, cond_false, true_or, false_or, or_true, or_false, if_true, if_false]
  by_cases g3 : bw < 1 <;> simp only [g3, decide_true, decide_false, cond_true, cond_false, true_or, false_or, or_true, or_false, if_true, if_false]
  by_cases g4 : bh < 1 <;> simp only [g4, decide_true, decide_false, cond_true, cond_false, true_or, false_or, or_true, or_false, if_true, if_false]
  by_cases g5 : min (ax + aw) (bx + bw) - max ax bx < 1 <;> simp only [g5, decide_true, decide_false, cond_true, cond_false, true_or, false_or, or_true, or_false, if_true, if_false]
  by_cases g6 : min (ay + ah) (b + bh) - max ay b < 1 <;> simp only [g6, decide_true, decide_false, cond_true, cond_false, true_or, false_or, or_true, or_false, if_true, if_false]
theorem common_eq : F_skirmishref06_common = F_grid_meet := rfl
theorem mt_symm (ax ay aw ah bx b bw bh : Int) : mt ax ay aw ah bx b bw bh = mt bx b bw bh ax ay aw ah := by
  unfold mt
  rw [Int.min_comm (ax + aw), Int.max_comm ax, Int.min_comm (ay + ah), Int.max_comm ay]
  split <;> split <;> first | rfl | omega
theorem clip_g (w h x y W H : Int) : F_grid_Clip w h x y W H = some (mt (nr x) (nr y) (nr W) (nr H) 0 0 (nr w) (nr h)) := by
  simp only [F_grid_Clip, rect_g, near_g, Option.bind_some, meet_eq _ _ _ _ _ _ _ _ (nr_nn x) (nr_nn y) (nr_nn W) (nr_nn H) (show nn 0 by unfold nn; omega) (show nn 0 by unfold nn; omega) (nr_nn w) (nr_nn h)]
theorem clip_r (w h x y W H : Int) : F_skirmishref06_Clip w h x y W H = some (mt (nr x) (nr y) (nr W) (nr H) 0 0 (nr w) (nr h)) := by
  have h0 : nr 0 = 0 := nr_id (by omega) (by omega)
  simp only [F_skirmishref06_Clip, rect_r, Option.bind_some, common_eq, h0, meet_eq _ _ _ _ _ _ _ _ (show nn 0 by unfold nn; omega) (show nn 0 by unfold nn; omega) (nr_nn w) (nr_nn h) (nr_nn x) (nr_nn y) (nr_nn W) (nr_nn H)]
  rw [mt_symm]
theorem meets_g (ax ay aw ah bx b bw bh : Int) : F_grid_Meet ax ay aw ah bx b bw bh = some (decide ((mt (nr ax) (nr ay) (nr aw) (nr ah) (nr bx) (nr b) (nr bw) (nr bh)).2.2.1 > 0)) := by
  simp only [F_grid_Meet, rect_g, Option.bind_some, meet_eq _ _ _ _ _ _ _ _ (nr_nn ax) (nr_nn ay) (nr_nn aw) (nr_nn ah) (nr_nn bx) (nr_nn b) (nr_nn bw) (nr_nn bh)]
theorem meets_r (ax ay aw ah bx b bw bh : Int) : F_skirmishref06_Meet ax ay aw ah bx b bw bh = some (decide ((mt (nr ax) (nr ay) (nr aw) (nr ah) (nr bx) (nr b) (nr bw) (nr bh)).2.2.1 > 0)) := by
  simp only [F_skirmishref06_Meet, rect_r, Option.bind_some, common_eq, meet_eq _ _ _ _ _ _ _ _ (nr_nn ax) (nr_nn ay) (nr_nn aw) (nr_nn ah) (nr_nn bx) (nr_nn b) (nr_nn bw) (nr_nn bh)]

/-! ### The cells of a rectangle -/
def crow (X Y j i : Int) : Nat → List (List AVal)
  | 0 => []
  | n + 1 => [i64 (X + i), i64 (Y + j)] :: crow X Y j (i + 1) n
def crows (X Y : Int) (W : Nat) (j : Int) : Nat → List (List AVal)
  | 0 => []
  | n + 1 => crow X Y j 0 W ++ crows X Y W (j + 1) n
theorem crow_len (X Y j : Int) : ∀ (n : Nat) (i : Int), (crow X Y j i n).length = n
  | 0, _ => rfl
  | n + 1, i => by simp [crow, crow_len X Y j n]
theorem crows_len (X Y : Int) (W : Nat) : ∀ (n : Nat) (j : Int), (crows X Y W j n).length = n * W
  | 0, _ => by simp [crows]
  | n + 1, j => by simp only [crows, List.length_append, crow_len, crows_len X Y W n]; rw [Nat.succ_mul]; omega
theorem crow_chk (X Y j : Int) : ∀ (n : Nat) (i : Int), ∀ r ∈ crow X Y j i n, chk [.int .i64, .int .i64] r = true
  | 0, _, r, h => by cases h
  | n + 1, i, r, h => by
    rcases List.mem_cons.1 h with rfl | h
    · rfl
    · exact crow_chk X Y j n (i + 1) r h
theorem crows_chk (X Y : Int) (W : Nat) : ∀ (n : Nat) (j : Int), ∀ r ∈ crows X Y W j n, chk [.int .i64, .int .i64] r = true
  | 0, _, r, h => by cases h
  | n + 1, j, r, h => by
    rcases List.mem_append.1 h with h | h
    · exact crow_chk X Y j W 0 r h
    · exact crows_chk X Y W n (j + 1) r h
theorem crow_mem (X Y j : Int) : ∀ (n : Nat) (i : Int) (r : List AVal), r ∈ crow X Y j i n ↔ ∃ k : Int, i ≤ k ∧ k < i + n ∧ r = [i64 (X + k), i64 (Y + j)]
  | 0, i, r => by simp [crow]; omega
  | n + 1, i, r => by
    simp only [crow, List.mem_cons, crow_mem X Y j n]
    constructor
    · rintro (rfl | ⟨k, h1, h2, rfl⟩)
      · exact ⟨i, by omega, by omega, rfl⟩
      · exact ⟨k, by omega, by omega, rfl⟩
    · rintro ⟨k, h1, h2, rfl⟩
      by_cases hk : k = i
      · subst hk; exact .inl rfl
      · exact .inr ⟨k, by omega, by omega, rfl⟩
theorem crows_mem (X Y : Int) (W : Nat) : ∀ (n : Nat) (j : Int) (r : List AVal), r ∈ crows X Y W j n ↔ ∃ i k : Int, 0 ≤ i ∧ i < W ∧ j ≤ k ∧ k < j + n ∧ r = [i64 (X + i), i64 (Y + k)]
  | 0, j, r => by simp [crows]; omega
  | n + 1, j, r => by
    simp only [crows, List.mem_append, crow_mem, crows_mem X Y W n]
    constructor
    · rintro (⟨i, h1, h2, rfl⟩ | ⟨i, k, h1, h2, h3, h4, rfl⟩)
      · exact ⟨i, j, by omega, by omega, by omega, by omega, rfl⟩
      · exact ⟨i, k, by omega, by omega, by omega, by omega, rfl⟩
    · rintro ⟨i, k, h1, h2, h3, h4, rfl⟩
      by_cases hk : k = j
      · subst hk; exact .inl ⟨i, by omega, by omega, rfl⟩
      · exact .inr ⟨i, k, by omega, by omega, by omega, by omega, rfl⟩

theorem cells1_g (j X Y W : Int) (hX : nn X) (hY : nn Y) (hj : 0 ≤ j ∧ j ≤ 1048576) (hW : 1 ≤ W ∧ W ≤ 1048576) : ∀ (m : Nat) (R : List (List AVal)) (i : Int) (n : Nat), 0 ≤ i → i + n = W → n < m → R.length + n ≤ 1048576 →
    G_grid_Cells_1 j W X Y m R i = some (R ++ crow X Y j i n)
  | 0, R, i, n, h0, h1, h2, h3 => by omega
  | m + 1, R, i, n, h0, h1, h2, h3 => by
    unfold nn at hX hY
    simp only [G_grid_Cells_1]
    cases n with
    | zero =>
      have : ¬ i < W := by omega
      simp only [this, decide_false, cond_false, crow, List.append_nil]
    | succ n =>
      have : i < W := by omega
      simp only [this, decide_true, cond_true]
      rw [room_ok (by omega) (by omega), wr_in (n := X + i) (by omega) (by omega), wr_in (n := Y + j) (by omega) (by omega), wr_in (n := i + 1) (by omega) (by omega)]
      simp only [cond_true]
      rw [cells1_g j X Y W hX hY hj hW m _ (i + 1) n (by omega) (by omega) (by omega) (by simp; omega)]
      simp [crow]
theorem cells1_r (j X Y W : Int) (hX : nn X) (hY : nn Y) (hj : 0 ≤ j ∧ j ≤ 1048576) (hW : 1 ≤ W ∧ W ≤ 1048576) : ∀ (m : Nat) (R : List (List AVal)) (i : Int) (n : Nat), 0 ≤ i → i + n = W → n < m → R.length + n ≤ 1048576 →
    G_skirmishref06_Cells_1 j X Y W m R i = some (R ++ crow X Y j i n)
  | 0, R, i, n, h0, h1, h2, h3 => by omega
  | m + 1, R, i, n, h0, h1, h2, h3 => by
    unfold nn at hX hY
    simp only [G_skirmishref06_Cells_1]
    cases n with
    | zero =>
      have : ¬ i < W := by omega
      simp only [this, decide_false, cond_false, crow, List.append_nil]
    | succ n =>
      have : i < W := by omega
      simp only [this, decide_true, cond_true]
      rw [room_ok (by omega) (by omega), wr_in (n := X + i) (by omega) (by omega), wr_in (n := Y + j) (by omega) (by omega), wr_in (n := i + 1) (by omega) (by omega)]
      simp only [cond_true]
      rw [cells1_r j X Y W hX hY hj hW m _ (i + 1) n (by omega) (by omega) (by omega) (by simp; omega)]
      simp [crow]
theorem cells0_g (X Y H : Int) (W : Nat) (hX : nn X) (hY : nn Y) (hW : 1 ≤ W ∧ W ≤ 1048576) (hH : 1 ≤ H ∧ H ≤ 1048576) : ∀ (m : Nat) (R : List (List AVal)) (j : Int) (n : Nat), 0 ≤ j → j + n = H → n < m → R.length + n * W ≤ 1048576 →
    G_grid_Cells_0 H X Y W m R j = some (R ++ crows X Y W j n)
  | 0, R, j, n, h0, h1, h2, h3 => by omega
  | m + 1, R, j, n, h0, h1, h2, h3 => by
    simp only [G_grid_Cells_0]
    cases n with
    | zero =>
      have : ¬ j < H := by omega
      simp only [this, decide_false, cond_false, crows, List.append_nil]
    | succ n =>
      have : j < H := by omega
      rw [Nat.succ_mul] at h3
      simp only [this, decide_true, cond_true]
      rw [cells1_g j X Y W hX hY ⟨by omega, by omega⟩ ⟨by omega, by omega⟩ FU R 0 W (by omega) (by omega) (by unfold FU; omega) (by omega)]
      simp only [Option.bind_some]
      rw [wr_in (n := j + 1) (by omega) (by omega), cells0_g X Y H W hX hY hW hH m _ (j + 1) n (by omega) (by omega) (by omega) (by simp [crow_len]; omega)]
      simp [crows]
theorem cells0_r (X Y H : Int) (W : Nat) (hX : nn X) (hY : nn Y) (hW : 1 ≤ W ∧ W ≤ 1048576) (hH : 1 ≤ H ∧ H ≤ 1048576) : ∀ (m : Nat) (R : List (List AVal)) (j : Int) (n : Nat), 0 ≤ j → j + n = H → n < m → R.length + n * W ≤ 1048576 →
    G_skirmishref06_Cells_0 X Y W H m R j = some (R ++ crows X Y W j n)
  | 0, R, j, n, h0, h1, h2, h3 => by omega
  | m + 1, R, j, n, h0, h1, h2, h3 => by
    simp only [G_skirmishref06_Cells_0]
    cases n with
    | zero =>
      have : ¬ j < H := by omega
      simp only [this, decide_false, cond_false, crows, List.append_nil]
    | succ n =>
      have : j < H := by omega
      rw [Nat.succ_mul] at h3
      simp only [this, decide_true, cond_true]
      rw [cells1_r j X Y W hX hY ⟨by omega, by omega⟩ ⟨by omega, by omega⟩ FU R 0 W (by omega) (by omega) (by unfold FU; omega) (by omega)]
      simp only [Option.bind_some]
      rw [wr_in (n := j + 1) (by omega) (by omega), cells0_r X Y H W hX hY hW hH m _ (j + 1) n (by omega) (by omega) (by omega) (by simp [crow_len]; omega)]
      simp [crows]

/-- The cells of a rectangle of near numbers. -/
def cells (X Y W H : Int) : List (List AVal) := if W < 1 ∨ H < 1 ∨ 1024 < W * H then [] else crows X Y W.toNat 0 H.toNat
theorem cells_eq (x y w h : Int) : F_grid_Cells x y w h = some (cells (nr x) (nr y) (nr w) (nr h)) ∧ F_skirmishref06_Cells x y w h = some (cells (nr x) (nr y) (nr w) (nr h)) := by
  have hX := nr_nn x
  have hY := nr_nn y
  have hW := nr_in w
  have hH := nr_in h
  simp only [F_grid_Cells, F_skirmishref06_Cells, rect_g, rect_r, Option.bind_some, cells]
  generalize nr x = X at *
  generalize nr y = Y at *
  generalize nr w = W at *
  generalize nr h = H at *
  have hb := mul_bound (a := W) (b := H) hW hH (by omega) (by omega)
  rw [wr_in (n := W * H) (by omega) (by omega)]
  by_cases g1 : W < 1
  · simp [g1]
  by_cases g2 : H < 1
  · simp [g2]
  by_cases g3 : W * H > 1024
  · have : 1024 < W * H := g3
    simp only [g1, g2, g3, decide_true, decide_false, cond_true, cond_false, this, or_true, if_true, and_self]
  · have g3' : ¬ 1024 < W * H := g3
    simp only [g1, g2, g3, g3', decide_false, cond_false, or_self, if_false]
    have e1 : W = (W.toNat : Int) := by omega
    have e3 : ((H.toNat * W.toNat : Nat) : Int) = W * H := by rw [Int.natCast_mul, Int.toNat_of_nonneg (by omega), Int.toNat_of_nonneg (by omega), Int.mul_comm]
    have k1 := cells0_g X Y H W.toNat hX hY ⟨by omega, by omega⟩ ⟨by omega, by omega⟩ FU [] 0 H.toNat (by omega) (by omega) (by unfold FU; omega) (by simp only [List.length_nil]; omega)
    have k2 := cells0_r X Y H W.toNat hX hY ⟨by omega, by omega⟩ ⟨by omega, by omega⟩ FU [] 0 H.toNat (by omega) (by omega) (by unfold FU; omega) (by simp only [List.length_nil]; omega)
    rw [← e1] at k1 k2
    rw [k1, k2]
    simp
theorem cells_chk (X Y W H : Int) : ∀ r ∈ cells X Y W H, chk [.int .i64, .int .i64] r = true := by
  unfold cells
  split
  · intro r hr; cases hr
  · exact crows_chk _ _ _ _ _
theorem cells_len (X Y W H : Int) (h : ¬ (W < 1 ∨ H < 1 ∨ 1024 < W * H)) : ((cells X Y W H).length : Int) = W * H := by
  unfold cells
  rw [if_neg h, crows_len, Int.natCast_mul, Int.toNat_of_nonneg (by omega), Int.toNat_of_nonneg (by omega), Int.mul_comm]
theorem cells_le (X Y W H : Int) : (cells X Y W H).length ≤ 1024 := by
  by_cases h : W < 1 ∨ H < 1 ∨ 1024 < W * H
  · unfold cells; rw [if_pos h]; simp
  · have := cells_len X Y W H h
    omega

theorem pure_GridRects (rx ry rw rh px py s0 s1 : Int) (_ : wf .i64 rx) (_ : wf .i64 ry) (_ : wf .i64 rw) (_ : wf .i64 rh) (_ : wf .i64 px) (_ : wf .i64 py) (_ : wf .i64 s0) (_ : wf .i64 s1) : F_skirmishlaw06_GridRects rx ry rw rh px py s0 s1 = some true := by
  obtain ⟨h1, h2⟩ := cells_eq rx ry rw rh
  have h3 := same_self (cells (nr rx) (nr ry) (nr rw) (nr rh)) (cells_chk _ _ _ _) (by have := cells_le (nr rx) (nr ry) (nr rw) (nr rh); omega)
  simp only [F_skirmishlaw06_GridRects, inside_g, inside_r, clip_g, clip_r, Option.bind_some, beq_self_eq_true, Bool.and_self, cond_true, h1, h2, h3, awake06]

/-! ### Meets -/
def insR (X Y W H : Int) (r : List AVal) : Bool := ins X Y W H (nr (cI r 0)) (nr (cI r 1))
theorem meets_G (R : List (List AVal)) (hR : ∀ r ∈ R, chk [.int .i64, .int .i64] r = true) (hl : R.length ≤ 1024) (x y w h : Int) : ∀ (m : Nat) (found : Bool) (i : Int), 0 ≤ i → i ≤ R.length → (R.length : Int) - i < m →
    G_skirmishlaw06_GridMeets_0 R x y w h m found i = some (found || (R.drop i.toNat).any (insR (nr x) (nr y) (nr w) (nr h)))
  | 0, found, i, h0, h1, h2 => by omega
  | m + 1, found, i, h0, h1, h2 => by
    simp only [G_skirmishlaw06_GridMeets_0, Int.ofNat_eq_natCast]
    by_cases hi : i < R.length
    · have hlt : i.toNat < R.length := by omega
      have hr : R[i.toNat]? = some R[i.toNat] := List.getElem?_eq_getElem hlt
      have hd : R.drop i.toNat = R[i.toNat] :: R.drop (i + 1).toNat := by
        rw [List.drop_eq_getElem_cons hlt]
        congr 2
        omega
      rw [hd]
      simp only [hi, h0, decide_true, cond_true, Bool.and_self, hr, Option.bind_some, hR _ (List.getElem_mem hlt), toI_i64, inside_g, List.any_cons]
      rw [wr_in (by omega) (by omega)]
      rw [meets_G R hR hl x y w h m true (i + 1) (by omega) (by omega) (by omega), meets_G R hR hl x y w h m _ (i + 1) (by omega) (by omega) (by omega)]
      cases found <;> simp [insR]
    · have : R.drop i.toNat = [] := List.drop_eq_nil_of_le (by omega)
      simp only [hi, decide_false, cond_false, this, List.any_nil, Bool.or_false]

theorem meet_cells (X Y W H x y w h : Int) (hX : nn X) (hY : nn Y) (hx : nn x) (hy : nn y) (hc : ¬ (W < 1 ∨ H < 1 ∨ 1024 < W * H)) :
    (cells X Y W H).any (insR x y w h) = decide ((mt X Y W H x y w h).2.2.1 > 0) := by
  unfold nn at *
  rw [Bool.eq_iff_iff, List.any_eq_true, decide_eq_true_eq]
  unfold cells
  rw [if_neg hc]
  constructor
  · rintro ⟨r, hr, hi⟩
    rw [crows_mem] at hr
    obtain ⟨i, k, h1, h2, h3, h4, rfl⟩ := hr
    have h2' : i < W := by omega
    have h4' : k < H := by omega
    simp only [insR, ins, cI, List.getD_cons_zero, List.getD_cons_succ, toI_i64, Bool.and_eq_true, decide_eq_true_eq, nr] at hi
    unfold mt
    rw [if_neg (by omega)]
    show min (X + W) (x + w) - max X x > 0
    omega
  · intro hm
    have hn : ¬ (W < 1 ∨ H < 1 ∨ w < 1 ∨ h < 1 ∨ min (X + W) (x + w) - max X x < 1 ∨ min (Y + H) (y + h) - max Y y < 1) := by
      intro hh
      unfold mt at hm
      rw [if_pos hh] at hm
      exact absurd hm (by simp)
    refine ⟨[i64 (X + (max X x - X)), i64 (Y + (max Y y - Y))], ?_, ?_⟩
    · rw [crows_mem]
      exact ⟨max X x - X, max Y y - Y, by omega, by omega, by omega, by omega, rfl⟩
    · simp only [insR, ins, cI, List.getD_cons_zero, List.getD_cons_succ, toI_i64, Bool.and_eq_true, decide_eq_true_eq, nr]
      omega

theorem pure_GridMeets (ax ay aw ah bx b bw bh : Int) (_ : wf .i64 ax) (_ : wf .i64 ay) (_ : wf .i64 aw) (_ : wf .i64 ah) (_ : wf .i64 bx) (_ : wf .i64 b) (_ : wf .i64 bw) (_ : wf .i64 bh) : F_skirmishlaw06_GridMeets ax ay aw ah bx b bw bh = some true := by
  have hs := mt_symm (nr bx) (nr b) (nr bw) (nr bh) (nr ax) (nr ay) (nr aw) (nr ah)
  simp only [F_skirmishlaw06_GridMeets, meets_g, meets_r, Option.bind_some, hs, beq_self_eq_true, Bool.not_true, cond_false, (cells_eq ax ay aw ah).1, awake06, Int.ofNat_eq_natCast]
  by_cases hc : nr aw < 1 ∨ nr ah < 1 ∨ 1024 < nr aw * nr ah
  · have : cells (nr ax) (nr ay) (nr aw) (nr ah) = [] := by unfold cells; rw [if_pos hc]
    rw [this]
    rfl
  · have hl := cells_len (nr ax) (nr ay) (nr aw) (nr ah) hc
    have hp : 0 < nr aw * nr ah := Int.mul_pos (by omega) (by omega)
    have hne : (((cells (nr ax) (nr ay) (nr aw) (nr ah)).length : Int) == 0) = false := by rw [hl]; simp; omega
    have hG := meets_G _ (cells_chk (nr ax) (nr ay) (nr aw) (nr ah)) (cells_le _ _ _ _) bx b bw bh FU false 0 (by omega) (by omega) (by have := cells_le (nr ax) (nr ay) (nr aw) (nr ah); unfold FU; omega)
    simp only [hne, cond_false, hG, Option.bind_some, Int.toNat_zero, List.drop_zero, Bool.false_or, meet_cells _ _ _ _ _ _ _ _ (nr_nn ax) (nr_nn ay) (nr_nn bx) (nr_nn b) hc, beq_self_eq_true, cond_true]
end Go.Proofs.Ytkmclpgkcdpgbaa.AI
