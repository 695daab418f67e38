/- Chapter 12: what the functions answer: Blocks, Sees. -/
import Derived.Test.YtonckcjkgdlmkaaQ12a
namespace Go.Proofs.Ytonckcjkgdlmkaa.AI
open Go.RowKit
set_option linter.unusedVariables false
set_option linter.unusedSimpArgs false

/-- Cells of a map. -/
def sm (x : Int) : Prop := 0 ≤ x ∧ x < 32
theorem inn_sm {W H x y : Int} (hv : vld W H = true) (h : inn W H x y = true) : sm x ∧ sm y := by
  rw [vld_iff] at hv
  rw [inn_iff] at h
  unfold sm
  omega
theorem fmd_of {W H : Int} {cells : List (List AVal)} (h : vmap W H cells = true) : fmd W H cells.length = true := by
  unfold vmap at h
  rw [Bool.and_eq_true] at h
  exact h.1
theorem vld_of {W H : Int} {cells : List (List AVal)} (h : vmap W H cells = true) : vld W H = true := by
  have := fmd_of h
  unfold fmd at this
  rw [Bool.and_eq_true] at this
  exact this.1
theorem ins_of {W H : Int} {cells : List (List AVal)} {x y : Int} (h : vmap W H cells = true) (hi : inn W H x y = true) : ins W H cells.length x y = true := ins_iff.2 ⟨fmd_of h, hi⟩
theorem ins12_g (W H : Int) (cells : List (List AVal)) (x y : Int) : F_shadow_inside W H cells x y = some (inn W H x y) := by
  simp only [F_shadow_inside, in_g, Option.bind_some]
theorem ins12_r (W H : Int) (cells : List (List AVal)) (x y : Int) : F_skirmishref12_inside W H cells x y = some (inn W H x y) := by
  simp only [F_skirmishref12_inside, in_r, Option.bind_some]

/-! ### Which cells hide -/
theorem height_g {W H : Int} {cells : List (List AVal)} (hc : okCs cells) {x y : Int} (hi : ins W H cells.length x y = true) : F_shadow_height W H cells x y = some (hgt W cells x y) := by
  obtain ⟨a1, a2, a3, a4⟩ := cel_get hc hi
  simp only [F_shadow_height, index_g, Option.bind_some, a1, a2, a3, a4, decide_true, cond_true, hgt]
theorem stops_g {W H : Int} {cells : List (List AVal)} (hc : okCs cells) {ax ay bx b cx cy : Int} (ha : ins W H cells.length ax ay = true) (hb : ins W H cells.length bx b = true) (hcc : ins W H cells.length cx cy = true) :
    F_shadow_stops W H cells ax ay bx b cx cy = some (hid W H cells ax ay bx b cx cy) := by
  simp only [F_shadow_stops, opaque_g W H cells hc, height_g hc ha, height_g hc hb, height_g hc hcc, Option.bind_some, hid, maxI_eq]
  cases opq W H cells cx cy <;> rfl

/-! ### Lines -/
theorem wr2 {x : Int} (h : sm x) : wr (2 * x) = 2 * x := by unfold sm at h; exact wr_in (by omega) (by omega)
theorem prod_in {a b : Int} (ha : -100 ≤ a ∧ a ≤ 100) (hb : -100 ≤ b ∧ b ≤ 100) : -10000 ≤ a * b ∧ a * b ≤ 10000 := by
  have := mul_bound (A := 100) (B := 100) ha hb (by omega) (by omega)
  omega
theorem between_g (ax ay bx b cx cy : Int) : F_shadow_between ax ay bx b cx cy = some (btw ax ay bx b cx cy) := by
  simp only [F_shadow_between, btw, minI_eq, maxI_eq]
  cases decide (cx ≥ min ax bx) <;> cases decide (cx ≤ max ax bx) <;> cases decide (cy ≥ min ay b) <;> rfl
/-- The program's side of a corner. -/
theorem sd_wr {ax ay bx b x y : Int} (h1 : sm ax) (h2 : sm ay) (h3 : sm bx) (h4 : sm b) (h5 : 0 ≤ x ∧ x ≤ 64) (h6 : 0 ≤ y ∧ y ≤ 64) :
    wr ((wr ((wr (bx - ax)) * (wr ((wr (y - (wr (2 * ay)))) - 1)))) - (wr ((wr (b - ay)) * (wr ((wr (x - (wr (2 * ax)))) - 1))))) = sd ax ay bx b x y := by
  rw [wr2 h1, wr2 h2]
  unfold sm at *
  have p1 := prod_in (a := bx - ax) (b := y - 2 * ay - 1) (by omega) (by omega)
  have p2 := prod_in (a := b - ay) (b := x - 2 * ax - 1) (by omega) (by omega)
  rw [wr_in (n := bx - ax) (by omega) (by omega), wr_in (n := b - ay) (by omega) (by omega), wr_in (n := y - 2 * ay) (by omega) (by omega), wr_in (n := x - 2 * ax) (by omega) (by omega),
    wr_in (n := y - 2 * ay - 1) (by omega) (by omega), wr_in (n := x - 2 * ax - 1) (by omega) (by omega), wr_in (n := (bx - ax) * _) (by omega) (by omega), wr_in (n := (b - ay) * _) (by omega) (by omega), wr_in (by omega) (by omega)]
  rfl
theorem meets_g {ax ay bx b cx cy : Int} (h1 : sm ax) (h2 : sm ay) (h3 : sm bx) (h4 : sm b) (h5 : sm cx) (h6 : sm cy) : F_shadow_meets ax ay bx b cx cy = some (mts ax ay bx b cx cy) := by
  have k5 := h5
  have k6 := h6
  unfold sm at k5 k6
  have w1 : wr (2 * cx + 2) = 2 * cx + 2 := wr_in (by omega) (by omega)
  have w2 : wr (2 * cy + 2) = 2 * cy + 2 := wr_in (by omega) (by omega)
  simp only [F_shadow_meets, between_g, Option.bind_some, wr2 h5, wr2 h6, w1, w2, mts]
  cases btw ax ay bx b cx cy with
  | false => rfl
  | true =>
    have g0 : ∀ p q r s : List AVal, [p, q, r, s][(0 : Int).toNat]? = some p := fun _ _ _ _ => rfl
    have g1 : ∀ p q r s : List AVal, [p, q, r, s][(wr ((0 : Int) + (1 : Int))).toNat]? = some q := fun _ _ _ _ => rfl
    have g2 : ∀ p q r s : List AVal, [p, q, r, s][(wr ((wr ((0 : Int) + (1 : Int))) + (1 : Int))).toNat]? = some r := fun _ _ _ _ => rfl
    have g3 : ∀ p q r s : List AVal, [p, q, r, s][(wr ((wr ((wr ((0 : Int) + (1 : Int))) + (1 : Int))) + (1 : Int))).toNat]? = some s := fun _ _ _ _ => rfl
    have c1 : ∀ u v : Int, chk [(LT.int IntKind.i64), (LT.int IntKind.i64)] [i64 u, i64 v] = true := fun _ _ => rfl
    have c2 : ∀ u v : Int, cI [i64 u, i64 v] 0 = u := fun _ _ => rfl
    have c3 : ∀ u v : Int, cI [i64 u, i64 v] 1 = v := fun _ _ => rfl
    simp only [cond_true, g0, g1, g2, g3, c1, c2, c3, Option.bind_some, Bool.true_and, sd_wr h1 h2 h3 h4 (show 0 ≤ 2 * cx ∧ 2 * cx ≤ 64 by omega) (show 0 ≤ 2 * cy ∧ 2 * cy ≤ 64 by omega),
      sd_wr h1 h2 h3 h4 (show 0 ≤ 2 * cx + 2 ∧ 2 * cx + 2 ≤ 64 by omega) (show 0 ≤ 2 * cy ∧ 2 * cy ≤ 64 by omega), sd_wr h1 h2 h3 h4 (show 0 ≤ 2 * cx ∧ 2 * cx ≤ 64 by omega) (show 0 ≤ 2 * cy + 2 ∧ 2 * cy + 2 ≤ 64 by omega),
      sd_wr h1 h2 h3 h4 (show 0 ≤ 2 * cx + 2 ∧ 2 * cx + 2 ≤ 64 by omega) (show 0 ≤ 2 * cy + 2 ∧ 2 * cy + 2 ≤ 64 by omega)]
    generalize decide (sd ax ay bx b (2 * cx) (2 * cy) < 0) = p0
    generalize decide (sd ax ay bx b (2 * cx + 2) (2 * cy) < 0) = p1
    generalize decide (sd ax ay bx b (2 * cx) (2 * cy + 2) < 0) = p2
    generalize decide (sd ax ay bx b (2 * cx + 2) (2 * cy + 2) < 0) = p3
    generalize decide (sd ax ay bx b (2 * cx) (2 * cy) > 0) = q0
    generalize decide (sd ax ay bx b (2 * cx + 2) (2 * cy) > 0) = q1
    generalize decide (sd ax ay bx b (2 * cx) (2 * cy + 2) > 0) = q2
    generalize decide (sd ax ay bx b (2 * cx + 2) (2 * cy + 2) > 0) = q3
    cases p0 <;> cases p1 <;> cases p2 <;> cases p3 <;> cases q0 <;> cases q1 <;> cases q2 <;> cases q3 <;> rfl
theorem side_r {ax ay bx b x y : Int} (h1 : sm ax) (h2 : sm ay) (h3 : sm bx) (h4 : sm b) (h5 : 0 ≤ x ∧ x ≤ 64) (h6 : 0 ≤ y ∧ y ≤ 64) :
    F_skirmishref12_side (2 * ax + 1) (2 * ay + 1) (2 * bx + 1) (2 * b + 1) x y = some (2 * sd ax ay bx b x y) := by
  unfold sm at *
  have p1 := prod_in (a := bx - ax) (b := y - 2 * ay - 1) (by omega) (by omega)
  have p2 := prod_in (a := b - ay) (b := x - 2 * ax - 1) (by omega) (by omega)
  have e1 : (2 * bx + 1 - (2 * ax + 1)) * (y - (2 * ay + 1)) = 2 * ((bx - ax) * (y - 2 * ay - 1)) := by
    rw [show 2 * bx + 1 - (2 * ax + 1) = 2 * (bx - ax) by omega, show y - (2 * ay + 1) = y - 2 * ay - 1 by omega, Int.mul_assoc]
  have e2 : (2 * b + 1 - (2 * ay + 1)) * (x - (2 * ax + 1)) = 2 * ((b - ay) * (x - 2 * ax - 1)) := by
    rw [show 2 * b + 1 - (2 * ay + 1) = 2 * (b - ay) by omega, show x - (2 * ax + 1) = x - 2 * ax - 1 by omega, Int.mul_assoc]
  simp only [F_skirmishref12_side]
  rw [wr_in (n := 2 * bx + 1 - (2 * ax + 1)) (by omega) (by omega), wr_in (n := 2 * b + 1 - (2 * ay + 1)) (by omega) (by omega), wr_in (n := y - (2 * ay + 1)) (by omega) (by omega), wr_in (n := x - (2 * ax + 1)) (by omega) (by omega), e1, e2,
    wr_in (n := 2 * ((bx - ax) * _)) (by omega) (by omega), wr_in (n := 2 * ((b - ay) * _)) (by omega) (by omega), wr_in (by omega) (by omega)]
  unfold sd
  congr 1
  omega
theorem meets_step (l : List (List AVal)) (m : Nat) (left right : Bool) (i v : Int) (h0 : 0 ≤ i) (h1 : i < l.length) (hg : l[i.toNat]? = some [i64 v]) :
    G_skirmishref12_meets_0 l (m + 1) left right i = G_skirmishref12_meets_0 l m (left || decide (v < 0)) (right || decide (v > 0)) (wr (i + 1)) := by
  have c1 : ∀ u : Int, chk [(LT.int IntKind.i64)] [i64 u] = true := fun _ => rfl
  have c2 : ∀ u : Int, cI [i64 u] 0 = u := fun _ => rfl
  rw [G_skirmishref12_meets_0]
  simp only [Int.ofNat_eq_natCast, h0, h1, decide_true, Bool.and_self, cond_true, hg, Option.bind_some, c1, c2]
  cases left <;> cases right <;> simp
theorem meets4_r (p q r s : Int) : G_skirmishref12_meets_0 [[i64 p], [i64 q], [i64 r], [i64 s]] FU false false 0 = some (decide (p < 0) || (decide (q < 0) || (decide (r < 0) || decide (s < 0))), decide (p > 0) || (decide (q > 0) || (decide (r > 0) || decide (s > 0)))) := by
  obtain ⟨m, hm⟩ : ∃ m, FU = m + 1 + 1 + 1 + 1 + 1 := ⟨18446744073709551611, rfl⟩
  have w1 : wr (0 + 1) = 1 := by decide
  have w2 : wr (1 + 1) = 2 := by decide
  have w3 : wr (2 + 1) = 3 := by decide
  have w4 : wr (3 + 1) = 4 := by decide
  have ln : (([[i64 p], [i64 q], [i64 r], [i64 s]] : List (List AVal)).length : Int) = 4 := rfl
  rw [hm, meets_step _ _ _ _ 0 p (by omega) (by omega) rfl, w1, meets_step _ _ _ _ 1 q (by omega) (by omega) rfl, w2, meets_step _ _ _ _ 2 r (by omega) (by omega) rfl, w3, meets_step _ _ _ _ 3 s (by omega) (by omega) rfl, w4]
  rw [G_skirmishref12_meets_0]
  have d4 : ¬ (4 : Int) < (([[i64 p], [i64 q], [i64 r], [i64 s]] : List (List AVal)).length : Int) := by omega
  simp only [Int.ofNat_eq_natCast, d4, decide_false, cond_false, Bool.false_or, Bool.or_assoc]
theorem two_lt (n : Int) : decide (2 * n < 0) = decide (n < 0) := decide_eq_decide.2 ⟨fun h => by omega, fun h => by omega⟩
theorem two_gt (n : Int) : decide (2 * n > 0) = decide (n > 0) := decide_eq_decide.2 ⟨fun h => by omega, fun h => by omega⟩
theorem meets_r {ax ay bx b cx cy : Int} (h1 : sm ax) (h2 : sm ay) (h3 : sm bx) (h4 : sm b) (h5 : sm cx) (h6 : sm cy) : F_skirmishref12_meets ax ay bx b cx cy = some (mts ax ay bx b cx cy) := by
  have k1 := h1
  have k2 := h2
  have k3 := h3
  have k4 := h4
  have k5 := h5
  have k6 := h6
  unfold sm at k1 k2 k3 k4 k5 k6
  have w1 : wr (2 * cx + 2) = 2 * cx + 2 := wr_in (by omega) (by omega)
  have w2 : wr (2 * cy + 2) = 2 * cy + 2 := wr_in (by omega) (by omega)
  have w3 : wr (2 * ax + 1) = 2 * ax + 1 := wr_in (by omega) (by omega)
  have w4 : wr (2 * ay + 1) = 2 * ay + 1 := wr_in (by omega) (by omega)
  have w5 : wr (2 * bx + 1) = 2 * bx + 1 := wr_in (by omega) (by omega)
  have w6 : wr (2 * b + 1) = 2 * b + 1 := wr_in (by omega) (by omega)
  have e1 : decide (max (2 * ax + 1) (2 * bx + 1) ≤ 2 * cx) = !decide (cx ≤ max ax bx) := by rw [← decide_not]; exact decide_eq_decide.2 (by omega)
  have e2 : decide (min (2 * ax + 1) (2 * bx + 1) ≥ 2 * cx + 2) = !decide (cx ≥ min ax bx) := by rw [← decide_not]; exact decide_eq_decide.2 (by omega)
  have e3 : decide (max (2 * ay + 1) (2 * b + 1) ≤ 2 * cy) = !decide (cy ≤ max ay b) := by rw [← decide_not]; exact decide_eq_decide.2 (by omega)
  have e4 : decide (min (2 * ay + 1) (2 * b + 1) ≥ 2 * cy + 2) = !decide (cy ≥ min ay b) := by rw [← decide_not]; exact decide_eq_decide.2 (by omega)
  simp only [F_skirmishref12_meets, wr2 h1, wr2 h2, wr2 h3, wr2 h4, wr2 h5, wr2 h6, w1, w2, w3, w4, w5, w6, minI_eq, maxI_eq, e1, e2, e3, e4,
    side_r h1 h2 h3 h4 (show 0 ≤ 2 * cx ∧ 2 * cx ≤ 64 by omega) (show 0 ≤ 2 * cy ∧ 2 * cy ≤ 64 by omega), side_r h1 h2 h3 h4 (show 0 ≤ 2 * cx + 2 ∧ 2 * cx + 2 ≤ 64 by omega) (show 0 ≤ 2 * cy ∧ 2 * cy ≤ 64 by omega),
    side_r h1 h2 h3 h4 (show 0 ≤ 2 * cx ∧ 2 * cx ≤ 64 by omega) (show 0 ≤ 2 * cy + 2 ∧ 2 * cy + 2 ≤ 64 by omega), side_r h1 h2 h3 h4 (show 0 ≤ 2 * cx + 2 ∧ 2 * cx + 2 ≤ 64 by omega) (show 0 ≤ 2 * cy + 2 ∧ 2 * cy + 2 ≤ 64 by omega),
    Option.bind_some, meets4_r, two_lt, two_gt, mts, btw]
  generalize (decide (sd ax ay bx b (2 * cx) (2 * cy) < 0) || (decide (sd ax ay bx b (2 * cx + 2) (2 * cy) < 0) || (decide (sd ax ay bx b (2 * cx) (2 * cy + 2) < 0) || decide (sd ax ay bx b (2 * cx + 2) (2 * cy + 2) < 0)))) = P
  generalize (decide (sd ax ay bx b (2 * cx) (2 * cy) > 0) || (decide (sd ax ay bx b (2 * cx + 2) (2 * cy) > 0) || (decide (sd ax ay bx b (2 * cx) (2 * cy + 2) > 0) || decide (sd ax ay bx b (2 * cx + 2) (2 * cy + 2) > 0)))) = Q
  cases decide (cx ≤ max ax bx) <;> cases decide (cx ≥ min ax bx) <;> cases decide (cy ≤ max ay b) <;> cases decide (cy ≥ min ay b) <;> cases P <;> cases Q <;> rfl

/-! ### Blocks -/
theorem blocks_r {W H : Int} {cells : List (List AVal)} (hc : okCs cells) (hv : vmap W H cells = true) {ax ay bx b cx cy : Int} (ha : inn W H ax ay = true) (hb : inn W H bx b = true) (hcc : inn W H cx cy = true) :
    F_skirmishref12_blocks W H cells ax ay bx b cx cy = some (blk W H cells ax ay bx b cx cy) := by
  obtain ⟨s1, s2⟩ := inn_sm (vld_of hv) ha
  obtain ⟨s3, s4⟩ := inn_sm (vld_of hv) hb
  obtain ⟨s5, s6⟩ := inn_sm (vld_of hv) hcc
  have e : decide (hgt W cells cx cy > max (hgt W cells ax ay) (hgt W cells bx b)) = (!decide (hgt W cells cx cy ≤ hgt W cells ax ay) && !decide (hgt W cells cx cy ≤ hgt W cells bx b)) := by
    rw [← decide_not, ← decide_not, ← Bool.decide_and]
    exact decide_eq_decide.2 (by omega)
  simp only [F_skirmishref12_blocks, get_r W H cells hc, opaque_r W H cells hc, gt_ins (ins_of hv ha), gt_ins (ins_of hv hb), gt_ins (ins_of hv hcc), meets_r s1 s2 s3 s4 s5 s6, Option.bind_some, blk, hid, e]
  cases (cx == ax && cy == ay) <;> cases (cx == bx && cy == b) <;> cases opq W H cells cx cy <;> cases decide (hgt W cells cx cy ≤ hgt W cells ax ay) <;> cases decide (hgt W cells cx cy ≤ hgt W cells bx b) <;> rfl
def blocksN (W H : Int) (cells : List (List AVal)) (ax ay bx b cx cy : Int) : Bool := vmap W H cells && (inn W H ax ay && (inn W H bx b && (inn W H cx cy && blk W H cells ax ay bx b cx cy)))
theorem Blocks_r (W H : Int) (cells : List (List AVal)) (hc : okCs cells) (ax ay bx b cx cy : Int) : F_skirmishref12_Blocks W H cells ax ay bx b cx cy = some (blocksN W H cells ax ay bx b cx cy) := by
  simp only [F_skirmishref12_Blocks, Valid_r W H cells hc, ins12_r, Option.bind_some, blocksN]
  cases hv : vmap W H cells with
  | false => rfl
  | true =>
    cases ha : inn W H ax ay with
    | false => rfl
    | true =>
      cases hb : inn W H bx b with
      | false => rfl
      | true =>
        cases hcc : inn W H cx cy with
        | false => rfl
        | true => simp only [cond_true, blocks_r hc hv ha hb hcc, Option.bind_some, Bool.true_and]
theorem Blocks_g (W H : Int) (cells : List (List AVal)) (hc : okCs cells) (ax ay bx b cx cy : Int) : F_shadow_Blocks W H cells ax ay bx b cx cy = some (blocksN W H cells ax ay bx b cx cy) := by
  simp only [F_shadow_Blocks, Valid_g W H cells hc, ins12_g, Option.bind_some, blocksN]
  cases hv : vmap W H cells with
  | false => rfl
  | true =>
    cases ha : inn W H ax ay with
    | false => rfl
    | true =>
      cases hb : inn W H bx b with
      | false => rfl
      | true =>
        cases hcc : inn W H cx cy with
        | false => rfl
        | true =>
          obtain ⟨s1, s2⟩ := inn_sm (vld_of hv) ha
          obtain ⟨s3, s4⟩ := inn_sm (vld_of hv) hb
          obtain ⟨s5, s6⟩ := inn_sm (vld_of hv) hcc
          simp only [Bool.not_true, cond_false, meets_g s1 s2 s3 s4 s5 s6, stops_g hc (ins_of hv ha) (ins_of hv hb) (ins_of hv hcc), Option.bind_some, Bool.true_and, blk]
          cases (cx == ax && cy == ay) <;> cases (cx == bx && cy == b) <;> cases mts ax ay bx b cx cy <;> cases hid W H cells ax ay bx b cx cy <;> rfl

/-! ### Sees: the document's -/
theorem btw_inn {W H ax ay bx b cx cy : Int} (ha : inn W H ax ay = true) (hb : inn W H bx b = true) (h : btw ax ay bx b cx cy = true) : inn W H cx cy = true := by
  rw [inn_iff] at *
  rw [btw_iff] at h
  omega
theorem btw_mk {ax ay bx b cx cy : Int} (h1 : min ax bx ≤ cx) (h2 : cx ≤ max ax bx) (h3 : min ay b ≤ cy) (h4 : cy ≤ max ay b) : btw ax ay bx b cx cy = true := btw_iff.2 ⟨h1, h2, h3, h4⟩
theorem sees1_r {W H : Int} {cells : List (List AVal)} (hc : okCs cells) (hv : vmap W H cells = true) {ax ay bx b y : Int} (ha : inn W H ax ay = true) (hb : inn W H bx b = true) (hy1 : min ay b ≤ y) (hy2 : y ≤ max ay b) :
    ∀ (m r : Nat) (x : Int), min ax bx ≤ x → x + r = max ax bx + 1 → r < m → ∃ t, G_skirmishref12_sees_1 y W H cells ax ay bx b m x = some t ∧ (t = false ↔ ∀ x', x ≤ x' → x' ≤ max ax bx → blk W H cells ax ay bx b x' y = false)
  | 0, r, x, h0, h1, h2 => by omega
  | m + 1, 0, x, h0, h1, h2 => by
    have d1 : ¬ x ≤ max ax bx := by omega
    refine ⟨false, by simp only [G_skirmishref12_sees_1, maxI_eq, d1, decide_false, cond_false], ?_⟩
    simp only [true_iff]
    intro x' q1 q2
    omega
  | m + 1, r + 1, x, h0, h1, h2 => by
    have d1 : x ≤ max ax bx := by omega
    have hi : inn W H x y = true := btw_inn ha hb (btw_mk h0 d1 hy1 hy2)
    have hsx := (inn_sm (vld_of hv) hi).1
    unfold sm at hsx
    have w1 : wr (x + 1) = x + 1 := wr_in (by omega) (by omega)
    obtain ⟨t, e1, e2⟩ := sees1_r hc hv ha hb hy1 hy2 m r (x + 1) (by omega) (by omega) (by omega)
    simp only [G_skirmishref12_sees_1, maxI_eq, d1, decide_true, cond_true, blocks_r hc hv ha hb hi, Option.bind_some, w1, e1]
    cases hk : blk W H cells ax ay bx b x y with
    | true =>
      refine ⟨true, rfl, ?_⟩
      simp only [Bool.true_eq_false, false_iff]
      intro hq
      have := hq x (by omega) d1
      rw [hk] at this
      cases this
    | false =>
      refine ⟨t, rfl, e2.trans ⟨fun hq x' q1 q2 => ?_, fun hq x' q1 q2 => hq x' (by omega) q2⟩⟩
      by_cases hx : x' = x
      · subst hx; exact hk
      · exact hq x' (by omega) q2
theorem sees0_r {W H : Int} {cells : List (List AVal)} (hc : okCs cells) (hv : vmap W H cells = true) {ax ay bx b : Int} (ha : inn W H ax ay = true) (hb : inn W H bx b = true) :
    ∀ (m r : Nat) (y : Int), min ay b ≤ y → y + r = max ay b + 1 → r < m → ∃ t, G_skirmishref12_sees_0 W H cells ax ay bx b m y = some t ∧ (t = false ↔ ∀ x' y', min ax bx ≤ x' → x' ≤ max ax bx → y ≤ y' → y' ≤ max ay b → blk W H cells ax ay bx b x' y' = false)
  | 0, r, y, h0, h1, h2 => by omega
  | m + 1, 0, y, h0, h1, h2 => by
    have d1 : ¬ y ≤ max ay b := by omega
    refine ⟨false, by simp only [G_skirmishref12_sees_0, maxI_eq, d1, decide_false, cond_false], ?_⟩
    simp only [true_iff]
    intro x' y' q1 q2 q3 q4
    omega
  | m + 1, r + 1, y, h0, h1, h2 => by
    have d1 : y ≤ max ay b := by omega
    have hi : inn W H ax y = true := btw_inn ha hb (btw_mk (by omega) (by omega) h0 d1)
    have hsy := (inn_sm (vld_of hv) hi).2
    have k1 := (inn_sm (vld_of hv) ha).1
    have k2 := (inn_sm (vld_of hv) hb).1
    unfold sm at hsy k1 k2
    have w1 : wr (y + 1) = y + 1 := wr_in (by omega) (by omega)
    obtain ⟨t, e1, e2⟩ := sees0_r hc hv ha hb m r (y + 1) (by omega) (by omega) (by omega)
    obtain ⟨u, f1, f2⟩ := sees1_r hc hv ha hb h0 d1 FU (max ax bx + 1 - min ax bx).toNat (min ax bx) (by omega) (by omega) (by unfold FU; omega)
    simp only [G_skirmishref12_sees_0, maxI_eq, minI_eq, d1, decide_true, cond_true, f1, Option.bind_some, w1, e1]
    cases u with
    | true =>
      refine ⟨true, rfl, ?_⟩
      simp only [Bool.true_eq_false, false_iff] at f2 ⊢
      intro hq
      exact f2 fun x' q1 q2 => hq x' y q1 q2 (by omega) d1
    | false =>
      have f3 := f2.1 rfl
      refine ⟨t, rfl, e2.trans ⟨fun hq x' y' q1 q2 q3 q4 => ?_, fun hq x' y' q1 q2 q3 q4 => hq x' y' q1 q2 (by omega) q4⟩⟩
      by_cases hy : y' = y
      · subst hy; exact f3 x' q1 q2
      · exact hq x' y' q1 q2 (by omega) q4
theorem sees_r {W H : Int} {cells : List (List AVal)} (hc : okCs cells) (hv : vmap W H cells = true) {ax ay bx b : Int} (ha : inn W H ax ay = true) (hb : inn W H bx b = true) :
    F_skirmishref12_sees W H cells ax ay bx b = some (seesN W H cells ax ay bx b) := by
  have k1 := (inn_sm (vld_of hv) ha).2
  have k2 := (inn_sm (vld_of hv) hb).2
  unfold sm at k1 k2
  obtain ⟨t, e1, e2⟩ := sees0_r hc hv ha hb FU (max ay b + 1 - min ay b).toNat (min ay b) (by omega) (by omega) (by unfold FU; omega)
  simp only [F_skirmishref12_sees, minI_eq, e1, Option.bind_some]
  have key : seesN W H cells ax ay bx b = !t := by
    cases t with
    | false =>
      refine seesN_iff.2 fun cx cy => ?_
      cases hk : blk W H cells ax ay bx b cx cy with
      | false => rfl
      | true =>
        have hb' := btw_iff.1 (blk_btw hk)
        rw [← hk]
        exact e2.1 rfl cx cy hb'.1 hb'.2.1 hb'.2.2.1 hb'.2.2.2
    | true =>
      cases hs : seesN W H cells ax ay bx b with
      | false => rfl
      | true =>
        have := e2.2 fun x' y' _ _ _ _ => seesN_iff.1 hs x' y'
        cases this
  rw [key]
  cases t <;> rfl
def SeesN (W H : Int) (cells : List (List AVal)) (ax ay bx b : Int) : Prop := vmap W H cells = true ∧ inn W H ax ay = true ∧ inn W H bx b = true ∧ SeesP W H cells ax ay bx b
noncomputable def SeesB (W H : Int) (cells : List (List AVal)) (ax ay bx b : Int) : Bool := vmap W H cells && (inn W H ax ay && (inn W H bx b && seesN W H cells ax ay bx b))
theorem Sees_r (W H : Int) (cells : List (List AVal)) (hc : okCs cells) (ax ay bx b : Int) : F_skirmishref12_Sees W H cells ax ay bx b = some (SeesB W H cells ax ay bx b) := by
  simp only [F_skirmishref12_Sees, Valid_r W H cells hc, ins12_r, Option.bind_some, SeesB]
  cases hv : vmap W H cells with
  | false => rfl
  | true =>
    cases ha : inn W H ax ay with
    | false => rfl
    | true =>
      cases hb : inn W H bx b with
      | false => rfl
      | true => simp only [cond_true, sees_r hc hv ha hb, Option.bind_some, Bool.true_and]
end Go.Proofs.Ytonckcjkgdlmkaa.AI
