/- Chapter 12: the laws. -/
import Derived.Test.YtonckcjkgdlmkaaQ12d
namespace Go.Proofs.Ytonckcjkgdlmkaa.AI
open Go.RowKit
set_option linter.unusedVariables false
set_option linter.unusedSimpArgs false
theorem awake12 : F_skirmishlaw12_awake = some true := by kernel_rfl
section
variable (W H : Int) (cells : List (List AVal))
theorem pure_ShadowBlocks (ax ay bx b cx cy : Int) (h1 : wf .i64 W) (h2 : wf .i64 H) (h3 : Ty Try.prog (.sl 46 3) (.ro 3 cells)) (h4 : wf .i64 ax) (h5 : wf .i64 ay) (h6 : wf .i64 bx) (h7 : wf .i64 b) (h8 : wf .i64 cx) (h9 : wf .i64 cy) : F_skirmishlaw12_ShadowBlocks W H cells ax ay bx b cx cy = some true := by
  have hc := okCs_of (by kernel_rfl) h3
  simp only [F_skirmishlaw12_ShadowBlocks, Blocks_g W H cells hc, Blocks_r W H cells hc, Option.bind_some, awake12, beq_self_eq_true, cond_true]
  cases decide (Int.ofNat cells.length > 1024) <;> rfl
theorem pure_ShadowSees (ax ay bx b : Int) (h1 : wf .i64 W) (h2 : wf .i64 H) (h3 : Ty Try.prog (.sl 46 3) (.ro 3 cells)) (h4 : wf .i64 ax) (h5 : wf .i64 ay) (h6 : wf .i64 bx) (h7 : wf .i64 b) : F_skirmishlaw12_ShadowSees W H cells ax ay bx b = some true := by
  have hc := okCs_of (by kernel_rfl) h3
  simp only [F_skirmishlaw12_ShadowSees, Sees_g W H cells hc, Sees_r W H cells hc, Option.bind_some, awake12, beq_self_eq_true, cond_true]
  cases decide (Int.ofNat cells.length > 1024) <;> rfl
theorem visN_ok (fx fy r : Int) (high : Bool) : okB (visN W H cells fx fy r high) ∧ (visN W H cells fx fy r high).length ≤ cells.length := by
  unfold visN
  cases (vmap W H cells && (inn W H fx fy && !decide (r < 0))) with
  | true => exact ⟨okB_rowsB _ _, by rw [cond_true, rowsB_length]; exact Nat.le_refl _⟩
  | false => exact ⟨fun r hr => (by cases hr), Nat.zero_le _⟩
theorem pure_ShadowVisible (fx fy r : Int) (high : Bool) (h1 : wf .i64 W) (h2 : wf .i64 H) (h3 : Ty Try.prog (.sl 46 3) (.ro 3 cells)) (h4 : wf .i64 fx) (h5 : wf .i64 fy) (h6 : wf .i64 r) : F_skirmishlaw12_ShadowVisible W H cells fx fy r high = some true := by
  have hc := okCs_of (by kernel_rfl) h3
  simp only [F_skirmishlaw12_ShadowVisible, Visible_g W H cells hc, Visible_r W H cells hc, Option.bind_some, awake12, Int.ofNat_eq_natCast]
  by_cases hn : (cells.length : Int) > 1024
  · simp only [hn, decide_true, cond_true]
  · obtain ⟨q1, q2⟩ := visN_ok W H cells fx fy r high
    simp only [hn, decide_false, cond_false, same12_self _ q1 (by omega), Option.bind_some, cond_true]
theorem pure_ShadowUnion (a b : List (List AVal)) (h1 : Ty Try.prog (.sl 4 1) (.ro 1 a)) (h2 : Ty Try.prog (.sl 4 1) (.ro 1 b)) : F_skirmishlaw12_ShadowUnion a b = some true := by
  have ha := okB_of (by kernel_rfl) h1
  have hb := okB_of (by kernel_rfl) h2
  simp only [F_skirmishlaw12_ShadowUnion, Option.bind_some, awake12, Int.ofNat_eq_natCast]
  by_cases hn : (a.length : Int) > 5000
  · simp only [hn, decide_true, cond_true]
  by_cases hm : (b.length : Int) > 5000
  · simp only [hn, hm, decide_true, decide_false, cond_true, cond_false]
  have hu : okB (uniN a b) := okB_rowsB _ _
  have hl : (uniN a b).length ≤ 5000 := by unfold uniN; rw [rowsB_length]; omega
  simp only [hn, hm, decide_false, cond_false, Union_g a b ha hb (by omega) (by omega), Union_r a b ha hb (by omega) (by omega), Union_g b a hb ha (by omega) (by omega), uniN_comm b a, Union_g (uniN a b) a hu ha (by omega) (by omega), uniN_again, same12_self _ hu (show (uniN a b).length ≤ 1000000 by omega), Option.bind_some, cond_true]
theorem wr_sq {x y : Int} (hx : sm x) (hy : sm y) : wr (x - y) = x - y ∧ wr ((x - y) * (x - y)) = (x - y) * (x - y) ∧ 0 ≤ (x - y) * (x - y) ∧ (x - y) * (x - y) ≤ 10000 := by
  unfold sm at hx hy
  have p := prod_in (a := x - y) (b := x - y) (by omega) (by omega)
  have n : 0 ≤ (x - y) * (x - y) := by
    rcases Int.le_total 0 (x - y) with h | h
    · exact Int.mul_nonneg h h
    · exact Int.mul_nonneg_of_nonpos_of_nonpos h h
  exact ⟨wr_in (by omega) (by omega), wr_in (by omega) (by omega), n, p.2⟩
theorem visN_in {fx fy r : Int} {high : Bool} (hv : vmap W H cells = true) (hi : inn W H fx fy = true) (hr : ¬ r < 0) : visN W H cells fx fy r high = rowsB cells.length (good W H cells fx fy (min r 32) high) := by
  unfold visN
  rw [hv, hi]
  simp [hr]
theorem sym_at {ax ay bx b : Int} (hv : vmap W H cells = true) (ha : inn W H ax ay = true) (hb : inn W H bx b = true) (hd : (ax - bx) * (ax - bx) + (ay - b) * (ay - b) ≤ 1024) :
    good W H cells ax ay 32 false (b * W + bx).toNat = seesN W H cells ax ay bx b := by
  have e : (bx - ax) * (bx - ax) + (b - ay) * (b - ay) ≤ 32 * 32 := by
    rw [show bx - ax = -(ax - bx) by omega, show b - ay = -(ay - b) by omega, Int.neg_mul_neg, Int.neg_mul_neg]
    omega
  rw [good_at hb, decide_eq_true e]
  rfl
theorem pure_ShadowSymmetric (ax ay bx b cx cy : Int) (h1 : wf .i64 W) (h2 : wf .i64 H) (h3 : Ty Try.prog (.sl 46 3) (.ro 3 cells)) (h4 : wf .i64 ax) (h5 : wf .i64 ay) (h6 : wf .i64 bx) (h7 : wf .i64 b) (h8 : wf .i64 cx) (h9 : wf .i64 cy) : F_skirmishlaw12_ShadowSymmetric W H cells ax ay bx b cx cy = some true := by
  have hc := okCs_of (by kernel_rfl) h3
  have e1 : SeesB W H cells bx b ax ay = SeesB W H cells ax ay bx b := by
    unfold SeesB
    rw [seesN_comm]
    cases vmap W H cells <;> cases inn W H bx b <;> cases inn W H ax ay <;> rfl
  have e2 : blocksN W H cells bx b ax ay cx cy = blocksN W H cells ax ay bx b cx cy := by
    unfold blocksN
    rw [blk_comm]
    cases vmap W H cells <;> cases inn W H bx b <;> cases inn W H ax ay <;> rfl
  have e3 : blocksN W H cells ax ay bx b cx cy = true → SeesB W H cells ax ay bx b = false := fun h => by
    unfold blocksN at h
    simp only [Bool.and_eq_true] at h
    unfold SeesB
    rw [seesN_false h.2.2.2.2]
    simp
  simp only [F_skirmishlaw12_ShadowSymmetric, Sees_g W H cells hc, Blocks_g W H cells hc, Visible_g W H cells hc, Option.bind_some, awake12, Int.ofNat_eq_natCast, index_r, e1, e2, beq_self_eq_true, Bool.not_true, cond_false]
  by_cases hn : (cells.length : Int) > 1024
  · simp only [hn, decide_true, cond_true]
  simp only [hn, decide_false, cond_false]
  -- what comes behind the two branches
  have main : (bif (((visN W H cells ax ay 32 false).length : Int) == 0) then some true else bif (((visN W H cells bx b 32 false).length : Int) == 0) then some true else
      bif (decide (wr (wr (wr (ax - bx) * wr (ax - bx)) + wr (wr (ay - b) * wr (ay - b))) > 1024)) then some true else
      bif (decide (idx W bx b < 0)) then some false else bif (decide (idx W ax ay < 0)) then some false else
      bif (decide (idx W bx b ≥ ((visN W H cells ax ay 32 false).length : Int))) then some false else bif (decide (idx W ax ay ≥ ((visN W H cells bx b 32 false).length : Int))) then some false else
      bif (decide (0 ≤ idx W bx b) && decide (idx W bx b < ((visN W H cells ax ay 32 false).length : Int))) then
        Option.bind ((visN W H cells ax ay 32 false)[(idx W bx b).toNat]?) fun r => bif (chk [LT.bool] r) then
          bif (decide (0 ≤ idx W ax ay) && decide (idx W ax ay < ((visN W H cells bx b 32 false).length : Int))) then
            Option.bind ((visN W H cells bx b 32 false)[(idx W ax ay).toNat]?) fun r1 => bif (chk [LT.bool] r1) then
              bif (cB r 0 == cB r1 0) then
                Option.bind ((visN W H cells ax ay 32 false)[(idx W bx b).toNat]?) fun r2 => bif (chk [LT.bool] r2) then
                  bif (cB r2 0 == SeesB W H cells ax ay bx b) then some true else some false else none
              else some false else none else none else none else none) = some true := by
    cases hv : vmap W H cells with
    | false => simp [visN, hv]
    | true =>
      cases ha : inn W H ax ay with
      | false => simp [visN, ha]
      | true =>
        cases hb : inn W H bx b with
        | false => simp [visN, hb]
        | true =>
          have r32 : ¬ (32 : Int) < 0 := by omega
          have m32 : min (32 : Int) 32 = 32 := by omega
          rw [visN_in W H cells hv ha r32, visN_in W H cells hv hb r32, m32]
          obtain ⟨s1, s2⟩ := inn_sm (vld_of hv) ha
          obtain ⟨s3, s4⟩ := inn_sm (vld_of hv) hb
          obtain ⟨x1, x2, x3, x4⟩ := wr_sq s1 s3
          obtain ⟨y1, y2, y3, y4⟩ := wr_sq s2 s4
          obtain ⟨f1, f2, f3, f4⟩ := ins_idx (ins_of hv ha)
          obtain ⟨g1, g2, g3, g4⟩ := ins_idx (ins_of hv hb)
          have w : wr ((ax - bx) * (ax - bx) + (ay - b) * (ay - b)) = (ax - bx) * (ax - bx) + (ay - b) * (ay - b) := wr_in (by omega) (by omega)
          have l0 : ((cells.length : Int) == 0) = false := by
            have : (cells.length : Int) ≠ 0 := by omega
            simpa using this
          rw [x1, x2, y1, y2, w, f1, g1]
          simp only [rowsB_length, l0, cond_false]
          by_cases hd : (ax - bx) * (ax - bx) + (ay - b) * (ay - b) > 1024
          · simp only [hd, decide_true, cond_true]
          · have n1 : ¬ b * W + bx < 0 := by omega
            have n2 : ¬ ay * W + ax < 0 := by omega
            have n3 : ¬ b * W + bx ≥ (cells.length : Int) := by omega
            have n4 : ¬ ay * W + ax ≥ (cells.length : Int) := by omega
            have hd' : (bx - ax) * (bx - ax) + (b - ay) * (b - ay) ≤ 1024 := by
              rw [show bx - ax = -(ax - bx) by omega, show b - ay = -(ay - b) by omega, Int.neg_mul_neg, Int.neg_mul_neg]
              omega
            simp only [hd, n1, n2, n3, n4, f2, f4, g2, g4, decide_false, decide_true, cond_false, cond_true, Bool.and_self, rowsB_get _ f3, rowsB_get _ g3, Option.bind_some, chk_bo, cB_bo, sym_at W H cells hv ha hb (by omega), sym_at W H cells hv hb ha hd', seesN_comm W H cells bx b ax ay, beq_self_eq_true]
            unfold SeesB
            rw [hv, ha, hb]
            simp
  cases hk : blocksN W H cells ax ay bx b cx cy with
  | true =>
    simp only [e3 hk, cond_true, cond_false]
    rw [e3 hk] at main
    exact main
  | false =>
    simp only [cond_false]
    exact main

/-! ### Greater radius, high position -/
theorem dist_wr {fx fy px py : Int} (h1 : sm fx) (h2 : sm fy) (h3 : sm px) (h4 : sm py) : wr ((wr ((wr (px - fx)) * (wr (px - fx)))) + (wr ((wr (py - fy)) * (wr (py - fy))))) = (px - fx) * (px - fx) + (py - fy) * (py - fy) := by
  obtain ⟨x1, x2, x3, x4⟩ := wr_sq h3 h1
  obtain ⟨y1, y2, y3, y4⟩ := wr_sq h4 h2
  rw [x1, x2, y1, y2, wr_in (by omega) (by omega)]
theorem grows_G {fx fy : Int} (hv : vmap W H cells = true) (ha : inn W H fx fy = true) {most : Int} (hm0 : 0 ≤ most) (hm : most ≤ 32) (A B C : Nat → Bool)
    (hA : ∀ q, A q = (B q && C q)) (hC : ∀ q : Nat, C q = decide (((att W q).1 - fx) * ((att W q).1 - fx) + ((att W q).2 - fy) * ((att W q).2 - fy) ≤ most * most)) :
    ∀ (m rem k : Nat), k + rem = cells.length → rem < m → G_skirmishlaw12_ShadowGrows_0 (rowsB cells.length A) (rowsB cells.length B) (rowsB cells.length C) most W fx fy m k = some false
  | 0, rem, k, h1, h2 => by omega
  | m + 1, 0, k, h1, h2 => by
    have d1 : ¬ (k : Int) < ((rowsB cells.length A).length : Int) := by rw [rowsB_length]; omega
    simp only [G_skirmishlaw12_ShadowGrows_0, Int.ofNat_eq_natCast, d1, decide_false, cond_false]
  | m + 1, rem + 1, k, h1, h2 => by
    have hWH := (fmd_iff.1 (fmd_of hv)).2
    have hw := vld_iff.1 (vld_of hv)
    have hn := fmd_small (fmd_of hv)
    have hk : k < cells.length := by omega
    have d1 : (k : Int) < (cells.length : Int) := by omega
    have d2 : (0 : Int) ≤ k := by omega
    have hin := att_in (w := W) (h := H) (i := (k : Int)) (by omega) (by omega) (by omega)
    obtain ⟨s1, s2⟩ := inn_sm (vld_of hv) ha
    obtain ⟨s3, s4⟩ := inn_sm (vld_of hv) hin
    have p3 := prod_in (a := most) (b := most) (by omega) (by omega)
    have w7 : wr (most * most) = most * most := wr_in (by omega) (by omega)
    have ih := grows_G hv ha hm0 hm A B C hA hC m rem (k + 1) (by omega) (by omega)
    simp only [G_skirmishlaw12_ShadowGrows_0, Int.ofNat_eq_natCast, rowsB_length, d1, d2, decide_true, Bool.and_self, cond_true, at_r W k (by omega), Option.bind_some, Int.toNat_natCast, rowsB_get _ hk, chk_bo, cB_bo, dist_wr s1 s2 s3 s4, w7, ← hC k, wr_suc k (by omega), ih, hA k]
    cases B k <;> cases C k <;> rfl
theorem pure_ShadowGrows (fx fy r s : Int) (h1 : wf .i64 W) (h2 : wf .i64 H) (h3 : Ty Try.prog (.sl 46 3) (.ro 3 cells)) (h4 : wf .i64 fx) (h5 : wf .i64 fy) (h6 : wf .u8 r) (h7 : wf .u8 s) : F_skirmishlaw12_ShadowGrows W H cells fx fy r s = some true := by
  have hc := okCs_of (by kernel_rfl) h3
  have b1 := wf_u8 h6
  have b2 := wf_u8 h7
  have w1 : wr (min r s) = min r s := wr_in (by omega) (by omega)
  have w2 : wr (max r s) = max r s := wr_in (by omega) (by omega)
  simp only [F_skirmishlaw12_ShadowGrows, Valid_r W H cells hc, in_r, Visible_g W H cells hc, Option.bind_some, awake12, Int.ofNat_eq_natCast, index_r, minI_eq, maxI_eq, w1, w2]
  by_cases hn : (cells.length : Int) > 1024
  · simp only [hn, decide_true, cond_true]
  simp only [hn, decide_false, cond_false]
  cases hv : vmap W H cells with
  | false => rfl
  | true =>
    cases ha : inn W H fx fy with
    | false => rfl
    | true =>
      have n1 : ¬ min r s < 0 := by omega
      have n2 : ¬ max r s < 0 := by omega
      obtain ⟨f1, f2, f3, f4⟩ := ins_idx (ins_of hv ha)
      have hself : good W H cells fx fy (min (min r s) 32) false (fy * W + fx).toNat = true := by
        rw [good_at ha, seesN_self]
        have : (fx - fx) * (fx - fx) + (fy - fy) * (fy - fy) ≤ min (min r s) 32 * min (min r s) 32 := by
          rw [show fx - fx = 0 by omega, show fy - fy = 0 by omega]
          have : 0 ≤ min (min r s) 32 * min (min r s) 32 := Int.mul_nonneg (by omega) (by omega)
          omega
        rw [decide_eq_true this]
        rfl
      have hsq : min (min r s) 32 * min (min r s) 32 ≤ min (max r s) 32 * min (max r s) 32 := Int.mul_le_mul (by omega) (by omega) (by omega) (by omega)
      have hA : ∀ q, good W H cells fx fy (min (min r s) 32) false q = (good W H cells fx fy (min (max r s) 32) false q && good W H cells fx fy (min (min r s) 32) true q) := fun q => by
        unfold good
        by_cases hd : ((att W q).1 - fx) * ((att W q).1 - fx) + ((att W q).2 - fy) * ((att W q).2 - fy) ≤ min (min r s) 32 * min (min r s) 32
        · have hd2 : ((att W q).1 - fx) * ((att W q).1 - fx) + ((att W q).2 - fy) * ((att W q).2 - fy) ≤ min (max r s) 32 * min (max r s) 32 := by omega
          rw [decide_eq_true hd, decide_eq_true hd2]
          simp
        · rw [decide_eq_false hd]
          simp
      have hC : ∀ q : Nat, good W H cells fx fy (min (min r s) 32) true q = decide (((att W q).1 - fx) * ((att W q).1 - fx) + ((att W q).2 - fy) * ((att W q).2 - fy) ≤ min (min r s) 32 * min (min r s) 32) := fun q => by
        unfold good
        simp
      have hG := grows_G W H cells hv ha (most := min (min r s) 32) (by omega) (by omega) _ _ _ hA hC FU cells.length 0 (by omega) (by unfold FU; omega)
      have hG' : G_skirmishlaw12_ShadowGrows_0 (rowsB cells.length (good W H cells fx fy (min (min r s) 32) false)) (rowsB cells.length (good W H cells fx fy (min (max r s) 32) false)) (rowsB cells.length (good W H cells fx fy (min (min r s) 32) true)) (min (min r s) 32) W fx fy FU 0 = some false := hG
      rw [visN_in W H cells hv ha n1, visN_in W H cells hv ha n2, visN_in W H cells hv ha n1]
      simp only [Bool.not_true, cond_false, rowsB_length, bne_self_eq_false, f1, f2, f4, decide_true, Bool.and_self, cond_true, rowsB_get _ f3, Option.bind_some, chk_bo, cB_bo, hself, hG']

/-! ### A cell that is lowered -/
theorem pure_ShadowLowers (ax ay bx b cx cy : Int) (h1 : wf .i64 W) (h2 : wf .i64 H) (h3 : Ty Try.prog (.sl 46 3) (.ro 3 cells)) (h4 : wf .i64 ax) (h5 : wf .i64 ay) (h6 : wf .i64 bx) (h7 : wf .i64 b) (h8 : wf .i64 cx) (h9 : wf .i64 cy) : F_skirmishlaw12_ShadowLowers W H cells ax ay bx b cx cy = some true := by
  have hc := okCs_of (by kernel_rfl) h3
  simp only [F_skirmishlaw12_ShadowLowers, Valid_r W H cells hc, in_r, Sees_g W H cells hc, Set_r W H cells hc, Option.bind_some, awake12, Int.ofNat_eq_natCast]
  by_cases hn : (cells.length : Int) > 1024
  · simp only [hn, decide_true, cond_true]
  simp only [hn, decide_false, cond_false]
  cases hv : vmap W H cells with
  | false => rfl
  | true =>
    cases hi : inn W H cx cy with
    | false => rfl
    | true =>
      cases e1 : (ax == cx && ay == cy) with
      | true => rfl
      | false =>
        cases e2 : (bx == cx && b == cy) with
        | true => rfl
        | false =>
          cases hs : SeesB W H cells ax ay bx b with
          | false => rfl
          | true =>
            have hvc : vcell 1 0 0 = true := by decide
            have hset : setN W H cells cx cy 1 0 0 = (wth W cells cx cy 1 0 0, W, H, 0) := by
              unfold setN
              rw [hv, hvc, ins_of hv hi]
              rfl
            unfold SeesB at hs
            simp only [Bool.and_eq_true] at hs
            obtain ⟨_, ha, hb, hs⟩ := hs
            have hs := seesN_iff.1 hs
            have hw : okCs (wth W cells cx cy 1 0 0) := okCs_set hc _ (by unfold rng; omega) (by unfold rng; omega) (by unfold rng; omega)
            have hv' := wth_vmap (W := W) (H := H) (cells := cells) (x := cx) (y := cy) hv hvc
            have hlen : (wth W cells cx cy 1 0 0).length = cells.length := wth_len _ _ _ _ _ _ _
            have na : ¬ (cx = ax ∧ cy = ay) := fun h => by
              rw [h.1, h.2] at e1
              simp at e1
            have nb : ¬ (cx = bx ∧ cy = b) := fun h => by
              rw [h.1, h.2] at e2
              simp at e2
            have oth : ∀ u v, inn W H u v = true → ¬ (cx = u ∧ cy = v) → cel W (wth W cells cx cy 1 0 0) u v = cel W cells u v := fun u v hu hne => wth_other 1 0 0 (ins_of hv hi) (ins_of hv hu) hne
            have hha : hgt W (wth W cells cx cy 1 0 0) ax ay = hgt W cells ax ay := by unfold hgt; rw [oth _ _ ha na]
            have hhb : hgt W (wth W cells cx cy 1 0 0) bx b = hgt W cells bx b := by unfold hgt; rw [oth _ _ hb nb]
            have key : SeesB W H (wth W cells cx cy 1 0 0) ax ay bx b = true := by
              unfold SeesB
              rw [hv', ha, hb]
              refine seesN_iff.2 fun x y => ?_
              cases hk : blk W H (wth W cells cx cy 1 0 0) ax ay bx b x y with
              | false => rfl
              | true =>
                have hin : inn W H x y = true := btw_inn ha hb (blk_btw hk)
                have hold := hs x y
                unfold blk hid at hk hold
                rw [hha, hhb] at hk
                by_cases hne : cx = x ∧ cy = y
                · obtain ⟨rfl, rfl⟩ := hne
                  have hg := gt_ins (ins_of hv' hi)
                  have hcel := wth_cel (cells := cells) 1 0 0 (ins_of hv hi)
                  have ho : opq W H (wth W cells cx cy 1 0 0) cx cy = false := by
                    unfold opq
                    rw [hg, hcel]
                    rfl
                  have h0 : hgt W (wth W cells cx cy 1 0 0) cx cy = 0 := by unfold hgt; rw [hcel]; rfl
                  have hra := vmap_cell hv (ins_of hv ha)
                  unfold vrow vcell at hra
                  simp only [Bool.and_eq_true, decide_eq_true_eq] at hra
                  have hpos : 0 ≤ hgt W cells ax ay := by unfold hgt; omega
                  rw [ho, h0, decide_eq_false (show ¬ (0 : Int) > max (hgt W cells ax ay) (hgt W cells bx b) by omega)] at hk
                  simp at hk
                · have hce := oth x y hin hne
                  have hg1 := gt_ins (ins_of hv' hin)
                  have hg2 := gt_ins (ins_of hv hin)
                  have hh : hgt W (wth W cells cx cy 1 0 0) x y = hgt W cells x y := by unfold hgt; rw [hce]
                  have ho : opq W H (wth W cells cx cy 1 0 0) x y = opq W H cells x y := by
                    unfold opq
                    rw [hg1, hg2, hce]
                  rw [ho, hh] at hk
                  rw [hk] at hold
                  cases hold
            simp only [Bool.not_true, cond_false, hset, Sees_g W H _ hw, key, beq_self_eq_true, cond_true, Option.bind_some]
end
end Go.Proofs.Ytonckcjkgdlmkaa.AI
