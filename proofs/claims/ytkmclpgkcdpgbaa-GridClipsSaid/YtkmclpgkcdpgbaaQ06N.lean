/- The laws of chapter 6, in plain words: GridClips. -/
import Derived.Test.YtkmclpgkcdpgbaaQ06M
namespace Go.Proofs.Ytkmclpgkcdpgbaa.AI
open Go.RowKit
set_option linter.unusedVariables false
set_option linter.unusedSimpArgs false

/-- How many of the first cells of a grid lie in a rectangle of it. -/
def clampTo (n hi : Int) : Int := max 0 (min n hi)
def cnt (w X Y W H i : Int) : Int := W * clampTo (i / w - Y) H + (if Y ≤ i / w ∧ i / w < Y + H then clampTo (i % w - X) W else 0)
theorem cnt_zero (w X Y W H : Int) (hX : 0 ≤ X) (hY : 0 ≤ Y) : cnt w X Y W H 0 = 0 := by
  unfold cnt clampTo
  rw [Int.zero_ediv, Int.zero_emod]
  have h1 : max 0 (min (0 - Y) H) = 0 := by omega
  have h2 : max 0 (min (0 - X) W) = 0 := by omega
  rw [h1, h2]
  simp
theorem cnt_succ (w X Y W H i : Int) (hw : 1 ≤ w) (hX : 0 ≤ X) (hY : 0 ≤ Y) (hW : 0 ≤ W) (hXW : X + W ≤ w) (hH : 0 ≤ H) (hi : 0 ≤ i) :
    cnt w X Y W H (i + 1) = cnt w X Y W H i + (if ins X Y W H (i % w) (i / w) = true then 1 else 0) := by
  have hm := Int.emod_nonneg i (show w ≠ 0 by omega)
  have hl := Int.emod_lt_of_pos i (show 0 < w by omega)
  have hq : 0 ≤ i / w := Int.ediv_nonneg hi (by omega)
  have he := Int.emod_add_mul_ediv i w
  simp only [ins, Bool.and_eq_true, decide_eq_true_eq]
  generalize hu : i % w = u at *
  generalize hv : i / w = v at *
  by_cases hend : u + 1 = w
  · -- the row ends
    have h1 : (i + 1) / w = v + 1 := by
      have : i + 1 = w * (v + 1) := by rw [Int.mul_add, Int.mul_one]; omega
      rw [this, Int.mul_ediv_cancel_left _ (by omega)]
    have h2 : (i + 1) % w = 0 := by
      have : i + 1 = w * (v + 1) := by rw [Int.mul_add, Int.mul_one]; omega
      rw [this, Int.mul_emod_right]
    unfold cnt
    rw [h1, h2, hu, hv]
    have e0 : (if Y ≤ v + 1 ∧ v + 1 < Y + H then clampTo (0 - X) W else 0) = 0 := by unfold clampTo; split <;> omega
    rw [e0]
    by_cases hin : Y ≤ v ∧ v < Y + H
    · have e1 : clampTo (v + 1 - Y) H = clampTo (v - Y) H + 1 := by unfold clampTo; omega
      rw [e1, Int.mul_add, Int.mul_one, if_pos hin]
      by_cases hx : X ≤ u ∧ u < X + W
      · rw [if_pos ⟨hx.1, hx.2, hin.1, hin.2⟩]
        have : clampTo (u - X) W = W - 1 := by unfold clampTo; omega
        omega
      · rw [if_neg (by omega)]
        have : clampTo (u - X) W = W := by unfold clampTo; omega
        omega
    · have e1 : clampTo (v + 1 - Y) H = clampTo (v - Y) H := by unfold clampTo; omega
      rw [e1, if_neg hin, if_neg (by omega)]
      omega
  · have h1 : (i + 1) / w = v := by
      have : i + 1 = (u + 1) + w * v := by omega
      rw [this, Int.add_mul_ediv_left _ _ (by omega), Int.ediv_eq_zero_of_lt (by omega) (by omega)]
      omega
    have h2 : (i + 1) % w = u + 1 := by
      have : i + 1 = (u + 1) + w * v := by omega
      rw [this, Int.add_mul_emod_self_left, Int.emod_eq_of_lt (by omega) (by omega)]
    unfold cnt
    rw [h1, h2, hu, hv]
    by_cases hin : Y ≤ v ∧ v < Y + H
    · rw [if_pos hin, if_pos hin]
      by_cases hx : X ≤ u ∧ u < X + W
      · rw [if_pos ⟨hx.1, hx.2, hin.1, hin.2⟩]
        have : clampTo (u + 1 - X) W = clampTo (u - X) W + 1 := by unfold clampTo; omega
        omega
      · rw [if_neg (by omega)]
        have : clampTo (u + 1 - X) W = clampTo (u - X) W := by unfold clampTo; omega
        omega
    · rw [if_neg hin, if_neg hin, if_neg (by omega)]
      omega
theorem cnt_all (w h X Y W H : Int) (hw : 1 ≤ w) (hY : 0 ≤ Y) (hH : 0 ≤ H) (hYH : Y + H ≤ h) (hX : 0 ≤ X) (hW : 0 ≤ W) : cnt w X Y W H (w * h) = W * H := by
  unfold cnt
  rw [Int.mul_ediv_cancel_left _ (by omega), Int.mul_emod_right]
  have e1 : clampTo (h - Y) H = H := by unfold clampTo; omega
  have e2 : clampTo (0 - X) W = 0 := by unfold clampTo; omega
  rw [e1, e2]
  split <;> omega

/-- The clipped rectangle: it lies in the grid, and holds the grid's cells that the rectangle holds. -/
theorem clip_in (w h X Y W H : Int) (hw : 1 ≤ w ∧ w ≤ 32) (hh : 1 ≤ h ∧ h ≤ 32) (c : Int × Int × Int × Int) (hc : c = mt X Y W H 0 0 w h) :
    0 ≤ c.1 ∧ 0 ≤ c.2.1 ∧ 0 ≤ c.2.2.1 ∧ 0 ≤ c.2.2.2 ∧ c.1 + c.2.2.1 ≤ w ∧ c.2.1 + c.2.2.2 ≤ h ∧ (c.2.2.1 < 1 ↔ c.2.2.2 < 1) ∧ ∀ x y, 0 ≤ x → x < w → 0 ≤ y → y < h → ins X Y W H x y = ins c.1 c.2.1 c.2.2.1 c.2.2.2 x y := by
  subst hc
  unfold mt
  split
  · rename_i hz
    refine ⟨by simp, by simp, by simp, by simp, by simp; omega, by simp; omega, by simp, fun x y h1 h2 h3 h4 => ?_⟩
    rw [Bool.eq_iff_iff]
    simp only [ins, Bool.and_eq_true, decide_eq_true_eq]
    omega
  · rename_i hz
    refine ⟨by simp only; omega, by simp only; omega, by simp only; omega, by simp only; omega, by simp only; omega, by simp only; omega, by simp only; omega, fun x y h1 h2 h3 h4 => ?_⟩
    rw [Bool.eq_iff_iff]
    simp only [ins, Bool.and_eq_true, decide_eq_true_eq]
    omega

theorem clips_G (w h rx ry rw rh cx cy cw ch : Int) (hw : 1 ≤ w ∧ w ≤ 32) (hh : 1 ≤ h ∧ h ≤ 32) (h1 : 0 ≤ cx) (h2 : 0 ≤ cy) (h3 : 0 ≤ cw) (h4 : 0 ≤ ch) (h5 : cx + cw ≤ w) (h6 : cy + ch ≤ h)
    (hi : ∀ x y, 0 ≤ x → x < w → 0 ≤ y → y < h → ins (nr rx) (nr ry) (nr rw) (nr rh) x y = ins cx cy cw ch x y) :
    ∀ (m : Nat) (i : Int), 0 ≤ i → i ≤ w * h → w * h - i < m → G_skirmishlaw06_GridClips_0 w h rx ry rw rh cx cy cw ch m (cnt w cx cy cw ch i) i = some (false, cw * ch)
  | 0, i, g0, g1, g2 => by omega
  | m + 1, i, g0, g1, g2 => by
    have ha := area_in hw.1 hw.2 hh.1 hh.2
    simp only [G_skirmishlaw06_GridClips_0]
    rw [wr_in (n := w * h) (by omega) (by omega)]
    by_cases hlt : i < w * h
    · have hin := att_in g0 hlt hw.1
      have hin' := inn_iff.1 hin
      have hat : att w i = (i % w, i / w) := by unfold att; rw [if_neg (by omega)]
      rw [hat] at hin'
      simp only at hin'
      have n1 : nr (i % w) = i % w := nr_id (by omega) (by omega)
      have n2 : nr (i / w) = i / w := nr_id (by omega) (by omega)
      have c1 : nr cx = cx := nr_id (by omega) (by omega)
      have c2 : nr cy = cy := nr_id (by omega) (by omega)
      have c3 : nr cw = cw := nr_id (by omega) (by omega)
      have c4 : nr ch = ch := nr_id (by omega) (by omega)
      have hs := hi (i % w) (i / w) hin'.1 hin'.2.1 hin'.2.2.1 hin'.2.2.2
      have hsucc := cnt_succ w cx cy cw ch i hw.1 h1 h2 h3 h5 h4 g0
      have hcb : 0 ≤ cnt w cx cy cw ch i ∧ cnt w cx cy cw ch i ≤ 2048 := by
        have hb := mul_bound (a := cw) (b := clampTo (i / w - cy) ch) (A := 32) (B := 32) (by omega) (by unfold clampTo; omega) (by omega) (by omega)
        have hn : 0 ≤ cw * clampTo (i / w - cy) ch := Int.mul_nonneg h3 (by unfold clampTo; omega)
        unfold cnt
        split
        · have : 0 ≤ clampTo (i % w - cx) cw ∧ clampTo (i % w - cx) cw ≤ 32 := by unfold clampTo; omega
          omega
        · omega
      simp only [hlt, decide_true, cond_true, at_g w i (by omega), hat, Option.bind_some, inside_g, n1, n2, c1, c2, c3, c4, hs, beq_self_eq_true, Bool.not_true, cond_false]
      rw [wr_in (n := cnt w cx cy cw ch i + 1) (by omega) (by omega), wr_in (n := i + 1) (by omega) (by omega)]
      have ih := clips_G w h rx ry rw rh cx cy cw ch hw hh h1 h2 h3 h4 h5 h6 hi m (i + 1) (by omega) (by omega) (by omega)
      rw [hsucc] at ih
      cases hb : ins cx cy cw ch (i % w) (i / w) with
      | true => rw [hb] at ih; simpa using ih
      | false => rw [hb] at ih; simpa using ih
    · have : i = w * h := by omega
      subst this
      simp only [hlt, decide_false, cond_false, cnt_all w h cx cy cw ch hw.1 h2 h4 h6 h1 h3]

theorem pure_GridClips (w h rx ry rw rh : Int) (hw : wf .u8 w) (hh : wf .u8 h) (_ : wf .i64 rx) (_ : wf .i64 ry) (_ : wf .i64 rw) (_ : wf .i64 rh) : F_skirmishlaw06_GridClips w h rx ry rw rh = some true := by
  have hw := wf_u8 hw
  have hh := wf_u8 hh
  simp only [F_skirmishlaw06_GridClips, side_eq w hw, side_eq h hh]
  have h1 : 1 ≤ w % 32 + 1 := by omega
  have h2 : w % 32 + 1 ≤ 32 := by omega
  have h3 : 1 ≤ h % 32 + 1 := by omega
  have h4 : h % 32 + 1 ≤ 32 := by omega
  generalize w % 32 + 1 = W at *
  generalize h % 32 + 1 = H at *
  have ha := area_in h1 h2 h3 h4
  have nW : nr W = W := nr_id (by omega) (by omega)
  have nH : nr H = H := nr_id (by omega) (by omega)
  simp only [clip_g, Option.bind_some, nW, nH]
  obtain ⟨c1, c2, c3, c4, c5, c6, c7, c8⟩ := clip_in W H (nr rx) (nr ry) (nr rw) (nr rh) ⟨h1, h2⟩ ⟨h3, h4⟩ _ rfl
  generalize mt (nr rx) (nr ry) (nr rw) (nr rh) 0 0 W H = c at *
  obtain ⟨cx, cy, cw, ch⟩ := c
  simp only at *
  have hG := clips_G W H rx ry rw rh cx cy cw ch ⟨h1, h2⟩ ⟨h3, h4⟩ c1 c2 c3 c4 c5 c6 c8 FU 0 (by omega) (by omega) (by unfold FU; omega)
  rw [cnt_zero W cx cy cw ch c1 c2] at hG
  have k1 : nr cx = cx := nr_id (by omega) (by omega)
  have k2 : nr cy = cy := nr_id (by omega) (by omega)
  have k3 : nr cw = cw := nr_id (by omega) (by omega)
  have k4 : nr ch = ch := nr_id (by omega) (by omega)
  have hlen : ((cells cx cy cw ch).length : Int) = cw * ch := by
    by_cases hz : cw < 1
    · have : cw = 0 := by omega
      subst this
      unfold cells
      rw [if_pos (by omega)]
      simp
    · refine cells_len _ _ _ _ ?_
      have := mul_bound (a := cw) (b := ch) (A := 32) (B := 32) (by omega) (by omega) (by omega) (by omega)
      omega
  simp only [hG, Option.bind_some, cond_false, (cells_eq cx cy cw ch).1, k1, k2, k3, k4, Int.ofNat_eq_natCast, hlen, beq_self_eq_true, cond_true, awake06]
end Go.Proofs.Ytkmclpgkcdpgbaa.AI
