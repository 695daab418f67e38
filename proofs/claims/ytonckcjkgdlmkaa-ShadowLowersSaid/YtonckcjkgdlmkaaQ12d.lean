/- Chapter 12: what the functions answer: Visible, Union. -/
import Derived.Test.YtonckcjkgdlmkaaQ12c
import Derived.Test.YtonckcjkgdlmkaaRB
namespace Go.Proofs.Ytonckcjkgdlmkaa.AI
open Go.RowKit
set_option linter.unusedVariables false
set_option linter.unusedSimpArgs false

/-- What is visible of the cell with an index. -/
noncomputable def good (W H : Int) (cells : List (List AVal)) (fx fy r : Int) (high : Bool) (q : Nat) : Bool :=
  decide (((att W q).1 - fx) * ((att W q).1 - fx) + ((att W q).2 - fy) * ((att W q).2 - fy) ≤ r * r) && (high || seesN W H cells fx fy (att W q).1 (att W q).2)
section
variable {W H : Int} {cells : List (List AVal)} {fx fy r : Int} {high : Bool}
theorem good_at {px py : Int} (hi : inn W H px py = true) : good W H cells fx fy r high (py * W + px).toNat = (decide ((px - fx) * (px - fx) + (py - fy) * (py - fy) ≤ r * r) && (high || seesN W H cells fx fy px py)) := by
  have h0 := idx_lt hi
  have e : (((py * W + px).toNat : Nat) : Int) = py * W + px := by omega
  unfold good
  rw [e, idx_att hi]
theorem vis2_g (hc : okCs cells) (hv : vmap W H cells = true) (ha : inn W H fx fy = true) (hr0 : 0 ≤ r) (hr : r ≤ 32) {k i : Int} (h0 : 0 ≤ k) (h1 : k < 8) (hi0 : 0 ≤ i) (hir : i ≤ r) :
    ∀ (m rem : Nat) (y : Int) (g : Nat → Bool), 0 ≤ y → y + rem = i + 1 → rem < m → (∀ q, g q = true → good W H cells fx fy r high q = true) →
      ∃ g', G_shadow_Visible_2 r high k fx fy i (i + 1) W H cells m (rowsB cells.length g) y = some (rowsB cells.length g') ∧ (∀ q, g' q = true → good W H cells fx fy r high q = true) ∧ (∀ q, g q = good W H cells fx fy r high q → g' q = good W H cells fx fy r high q) ∧
        (∀ y', y ≤ y' → y' ≤ i → i * i + y' * y' ≤ r * r → inn W H (fx + (oc k i y').1) (fy + (oc k i y').2) = true → g' ((fy + (oc k i y').2) * W + (fx + (oc k i y').1)).toNat = good W H cells fx fy r high ((fy + (oc k i y').2) * W + (fx + (oc k i y').1)).toNat)
  | 0, rem, y, g, h2, h3, h4, hg => by omega
  | m + 1, 0, y, g, h2, h3, h4, hg => by
    have d1 : ¬ y < i + 1 := by omega
    exact ⟨g, by simp only [G_shadow_Visible_2, d1, decide_false, cond_false], hg, fun q h => h, fun y' q1 q2 => by omega⟩
  | m + 1, rem + 1, y, g, h2, h3, h4, hg => by
    have d1 : y < i + 1 := by omega
    obtain ⟨s1, s2⟩ := inn_sm (vld_of hv) ha
    have w1 : wr (y + 1) = y + 1 := wr_in (by omega) (by omega)
    have p1 := prod_in (a := i) (b := i) (by omega) (by omega)
    have p2 := prod_in (a := y) (b := y) (by omega) (by omega)
    have p3 := prod_in (a := r) (b := r) (by omega) (by omega)
    have w2 : wr (i * i) = i * i := wr_in (by omega) (by omega)
    have w3 : wr (y * y) = y * y := wr_in (by omega) (by omega)
    have w4 : wr (r * r) = r * r := wr_in (by omega) (by omega)
    have w5 : wr (i * i + y * y) = i * i + y * y := wr_in (by omega) (by omega)
    have ih := fun g hg => vis2_g hc hv ha hr0 hr h0 h1 hi0 hir m rem (y + 1) g (by omega) (by omega) (by omega) hg
    simp only [G_shadow_Visible_2, d1, decide_true, cond_true, oct1_g h0 h1 (show -1000 ≤ i ∧ i ≤ 1000 by omega) (show -1000 ≤ y ∧ y ≤ 1000 by omega) s1 s2, Option.bind_some, w1, w2, w3, w4, w5, ins12_g]
    by_cases hR : i * i + y * y > r * r
    · obtain ⟨g', e1, e2, e3, e4⟩ := ih g hg
      simp only [hR, decide_true, cond_true, e1]
      refine ⟨g', rfl, e2, e3, fun y' q1 q2 q3 q4 => ?_⟩
      by_cases hy : y' = y
      · subst hy; omega
      · exact e4 y' (by omega) q2 q3 q4
    · simp only [hR, decide_false, cond_false]
      cases hp : inn W H (fx + (oc k i y).1) (fy + (oc k i y).2) with
      | false =>
        obtain ⟨g', e1, e2, e3, e4⟩ := ih g hg
        simp only [Bool.not_false, cond_true, e1]
        refine ⟨g', rfl, e2, e3, fun y' q1 q2 q3 q4 => ?_⟩
        by_cases hy : y' = y
        · subst hy; rw [hp] at q4; cases q4
        · exact e4 y' (by omega) q2 q3 q4
      | true =>
        obtain ⟨f1, f2, f3, f4⟩ := ins_idx (ins_of hv hp)
        have hgood := good_at (cells := cells) (fx := fx) (fy := fy) (r := r) (high := high) hp
        have hdist : (fx + (oc k i y).1 - fx) * (fx + (oc k i y).1 - fx) + (fy + (oc k i y).2 - fy) * (fy + (oc k i y).2 - fy) ≤ r * r := by
          rw [show fx + (oc k i y).1 - fx = (oc k i y).1 by omega, show fy + (oc k i y).2 - fy = (oc k i y).2 by omega, oc_dist h0 h1]
          omega
        rw [decide_eq_true hdist, Bool.true_and] at hgood
        have hclear := clear_g hc hv h0 h1 h2 (show y ≤ i by omega) ha hp
        have hlen : ((rowsB cells.length g).length : Int) = cells.length := by rw [rowsB_length]
        simp only [Bool.not_true, cond_false, index_g, Option.bind_some, f1, f2, decide_true, Bool.true_and, Int.ofNat_eq_natCast, hlen, f4, cond_true, rowsB_get g f3, chk_bo, cB_bo, hclear, rowsB_set]
        generalize hz : ((fy + (oc k i y).2) * W + (fx + (oc k i y).1)).toNat = z at *
        cases hgz : g z with
        | true =>
          obtain ⟨g', e1, e2, e3, e4⟩ := ih g hg
          simp only [cond_true, e1]
          refine ⟨g', rfl, e2, e3, fun y' q1 q2 q3 q4 => ?_⟩
          by_cases hy : y' = y
          · subst hy
            rw [hz]
            exact e3 z (by rw [hgz, hg z hgz])
          · exact e4 y' (by omega) q2 q3 q4
        | false =>
          have main : ∀ t : Bool, t = (high || seesN W H cells fx fy (fx + (oc k i y).1) (fy + (oc k i y).2)) →
              ∃ g', G_shadow_Visible_2 r high k fx fy i (i + 1) W H cells m (rowsB cells.length (fun q => if q = z then t else g q)) (y + 1) = some (rowsB cells.length g') ∧ (∀ q, g' q = true → good W H cells fx fy r high q = true) ∧ (∀ q, g q = good W H cells fx fy r high q → g' q = good W H cells fx fy r high q) ∧
                (∀ y', y ≤ y' → y' ≤ i → i * i + y' * y' ≤ r * r → inn W H (fx + (oc k i y').1) (fy + (oc k i y').2) = true → g' ((fy + (oc k i y').2) * W + (fx + (oc k i y').1)).toNat = good W H cells fx fy r high ((fy + (oc k i y').2) * W + (fx + (oc k i y').1)).toNat) := by
            intro t ht
            have htz : t = good W H cells fx fy r high z := ht.trans hgood.symm
            obtain ⟨g', e1, e2, e3, e4⟩ := ih (fun q => if q = z then t else g q) (fun q hq => by
              by_cases h : q = z
              · simp only [h, if_true] at hq; rw [h, ← htz, hq]
              · simp only [h, if_false] at hq; exact hg q hq)
            refine ⟨g', e1, e2, fun q hq => e3 q ?_, fun y' q1 q2 q3 q4 => ?_⟩
            · by_cases h : q = z
              · simp only [h, if_true]; exact htz
              · simp only [h, if_false]; exact hq
            · by_cases hy : y' = y
              · subst hy
                rw [hz]
                exact e3 z (by simp only [if_true]; exact htz)
              · exact e4 y' (by omega) q2 q3 q4
          cases high with
          | true =>
            simp only [cond_false, cond_true]
            exact main true rfl
          | false =>
            simp only [cond_false]
            exact main _ rfl
theorem vis1_g (hc : okCs cells) (hv : vmap W H cells = true) (ha : inn W H fx fy = true) (hr0 : 0 ≤ r) (hr : r ≤ 32) {k : Int} (h0 : 0 ≤ k) (h1 : k < 8) :
    ∀ (m rem : Nat) (i : Int) (g : Nat → Bool), 0 ≤ i → i + rem = r + 1 → rem < m → (∀ q, g q = true → good W H cells fx fy r high q = true) →
      ∃ g', G_shadow_Visible_1 r high k fx fy (r + 1) W H cells m (rowsB cells.length g) i = some (rowsB cells.length g') ∧ (∀ q, g' q = true → good W H cells fx fy r high q = true) ∧ (∀ q, g q = good W H cells fx fy r high q → g' q = good W H cells fx fy r high q) ∧
        (∀ i' y', i ≤ i' → i' ≤ r → 0 ≤ y' → y' ≤ i' → i' * i' + y' * y' ≤ r * r → inn W H (fx + (oc k i' y').1) (fy + (oc k i' y').2) = true → g' ((fy + (oc k i' y').2) * W + (fx + (oc k i' y').1)).toNat = good W H cells fx fy r high ((fy + (oc k i' y').2) * W + (fx + (oc k i' y').1)).toNat)
  | 0, rem, i, g, h2, h3, h4, hg => by omega
  | m + 1, 0, i, g, h2, h3, h4, hg => by
    have d1 : ¬ i < r + 1 := by omega
    exact ⟨g, by simp only [G_shadow_Visible_1, d1, decide_false, cond_false], hg, fun q h => h, fun i' y' q1 q2 => by omega⟩
  | m + 1, rem + 1, i, g, h2, h3, h4, hg => by
    have d1 : i < r + 1 := by omega
    have w1 : wr (i + 1) = i + 1 := wr_in (by omega) (by omega)
    obtain ⟨g1, e1, e2, e3, e4⟩ := vis2_g (high := high) hc hv ha hr0 hr h0 h1 h2 (show i ≤ r by omega) FU (i + 1).toNat 0 g (by omega) (by omega) (by unfold FU; omega) hg
    obtain ⟨g2, f1, f2, f3, f4⟩ := vis1_g hc hv ha hr0 hr h0 h1 m rem (i + 1) g1 (by omega) (by omega) (by omega) e2
    simp only [G_shadow_Visible_1, d1, decide_true, cond_true, w1, e1, Option.bind_some, f1]
    refine ⟨g2, rfl, f2, fun q hq => f3 q (e3 q hq), fun i' y' q1 q2 q3 q4 q5 q6 => ?_⟩
    by_cases hi : i' = i
    · subst hi
      exact f3 _ (e4 y' q3 q4 q5 q6)
    · exact f4 i' y' (by omega) q2 q3 q4 q5 q6
theorem vis0_g (hc : okCs cells) (hv : vmap W H cells = true) (ha : inn W H fx fy = true) (hr0 : 0 ≤ r) (hr : r ≤ 32) :
    ∀ (m rem : Nat) (k : Int) (g : Nat → Bool), 0 ≤ k → k + rem = 8 → rem < m → (∀ q, g q = true → good W H cells fx fy r high q = true) →
      ∃ g', G_shadow_Visible_0 r high W H cells fx fy m (rowsB cells.length g) k = some (rowsB cells.length g') ∧ (∀ q, g' q = true → good W H cells fx fy r high q = true) ∧ (∀ q, g q = good W H cells fx fy r high q → g' q = good W H cells fx fy r high q) ∧
        (∀ k' i' y', k ≤ k' → k' < 8 → 0 ≤ i' → i' ≤ r → 0 ≤ y' → y' ≤ i' → i' * i' + y' * y' ≤ r * r → inn W H (fx + (oc k' i' y').1) (fy + (oc k' i' y').2) = true → g' ((fy + (oc k' i' y').2) * W + (fx + (oc k' i' y').1)).toNat = good W H cells fx fy r high ((fy + (oc k' i' y').2) * W + (fx + (oc k' i' y').1)).toNat)
  | 0, rem, k, g, h2, h3, h4, hg => by omega
  | m + 1, 0, k, g, h2, h3, h4, hg => by
    have d1 : ¬ k < 8 := by omega
    exact ⟨g, by simp only [G_shadow_Visible_0, d1, decide_false, cond_false], hg, fun q h => h, fun k' i' y' q1 q2 => by omega⟩
  | m + 1, rem + 1, k, g, h2, h3, h4, hg => by
    have d1 : k < 8 := by omega
    have w1 : wr (k + 1) = k + 1 := wr_in (by omega) (by omega)
    have w2 : wr (r + 1) = r + 1 := wr_in (by omega) (by omega)
    obtain ⟨g1, e1, e2, e3, e4⟩ := vis1_g (high := high) hc hv ha hr0 hr h2 d1 FU (r + 1).toNat 0 g (by omega) (by omega) (by unfold FU; omega) hg
    obtain ⟨g2, f1, f2, f3, f4⟩ := vis0_g hc hv ha hr0 hr m rem (k + 1) g1 (by omega) (by omega) (by omega) e2
    simp only [G_shadow_Visible_0, d1, decide_true, cond_true, oct_g, w1, w2, e1, Option.bind_some, f1]
    refine ⟨g2, rfl, f2, fun q hq => f3 q (e3 q hq), fun k' i' y' q1 q2 q3 q4 q5 q6 q7 q8 => ?_⟩
    by_cases hk : k' = k
    · subst hk
      exact f3 _ (e4 i' y' q3 q4 q5 q6 q7 q8)
    · exact f4 k' i' y' (by omega) q2 q3 q4 q5 q6 q7 q8
end
noncomputable def visN (W H : Int) (cells : List (List AVal)) (fx fy radius : Int) (high : Bool) : List (List AVal) :=
  bif vmap W H cells && (inn W H fx fy && !decide (radius < 0)) then rowsB cells.length (good W H cells fx fy (min radius 32) high) else []
theorem Visible_g (W H : Int) (cells : List (List AVal)) (hc : okCs cells) (fx fy radius : Int) (high : Bool) : F_shadow_Visible W H cells fx fy radius high = some (visN W H cells fx fy radius high) := by
  simp only [F_shadow_Visible, Valid_g W H cells hc, ins12_g, Option.bind_some, visN]
  cases hv : vmap W H cells with
  | false => rfl
  | true =>
    cases ha : inn W H fx fy with
    | false => rfl
    | true =>
      by_cases hr : radius < 0
      · simp [hr]
      · have hn := fmd_small (fmd_of hv)
        have c1 : (0 : Int) ≤ cells.length := by omega
        have c2 : (cells.length : Int) ≤ 9223372036854775807 := by omega
        have c3 : (1 : Int) * cells.length ≤ 140737488355328 := by omega
        obtain ⟨g, e1, e2, e3, e4⟩ := vis0_g (fx := fx) (fy := fy) (r := min radius 32) (high := high) hc hv ha (by omega) (by omega) FU 8 0 (fun _ => false) (by omega) (by omega) (by unfold FU; omega) (fun q hq => by cases hq)
        simp only [hr, Bool.not_true, cond_false, decide_false, Int.ofNat_eq_natCast, c1, c2, c3, decide_true, Bool.and_self, cond_true, minI_eq, Int.toNat_natCast, rowsB_zero, e1, Option.bind_some, Bool.not_false]
        congr 1
        refine rowsB_congr fun q hq => ?_
        have hw := vld_iff.1 (vld_of hv)
        have hWH := (fmd_iff.1 (fmd_of hv)).2
        have hin := att_in (w := W) (h := H) (i := (q : Int)) (by omega) (by omega) (by omega)
        have hix := att_idx (w := W) (i := (q : Int)) (by omega) (by omega)
        obtain ⟨s1, s2⟩ := inn_sm (vld_of hv) ha
        obtain ⟨s3, s4⟩ := inn_sm (vld_of hv) hin
        cases hgq : good W H cells fx fy (min radius 32) high q with
        | false =>
          cases hg' : g q with
          | false => rfl
          | true => rw [e2 q hg'] at hgq; cases hgq
        | true =>
          have hd : ((att W q).1 - fx) * ((att W q).1 - fx) + ((att W q).2 - fy) * ((att W q).2 - fy) ≤ min radius 32 * min radius 32 := by
            unfold good at hgq
            rw [Bool.and_eq_true, decide_eq_true_eq] at hgq
            exact hgq.1
          obtain ⟨k, i, j, k0, k1, j0, ji, hi, hoc⟩ := oc_all ((att W q).1 - fx) ((att W q).2 - fy)
          have hdd := oc_dist (i := i) (j := j) k0 k1
          rw [hoc] at hdd
          simp only at hdd
          have hij : i * i + j * j ≤ min radius 32 * min radius 32 := by omega
          have hir : i ≤ min radius 32 := by
            rcases Int.lt_or_le (min radius 32) i with h | h
            · exfalso
              have h1 : min radius 32 * min radius 32 < i * i := Int.mul_self_lt_mul_self (by omega) h
              have h2 : 0 ≤ j * j := Int.mul_nonneg j0 j0
              omega
            · exact h
          have a1 : fx + (oc k i j).1 = (att W q).1 := by rw [hoc]; show fx + ((att W q).1 - fx) = _; omega
          have a2 : fy + (oc k i j).2 = (att W q).2 := by rw [hoc]; show fy + ((att W q).2 - fy) = _; omega
          have := e4 k i j k0 k1 (by omega) hir j0 ji hij (by rw [a1, a2]; exact hin)
          rw [a1, a2, hix] at this
          simp only [Int.toNat_natCast] at this
          rw [this, hgq]
theorem visr_G {W H : Int} {cells : List (List AVal)} (hc : okCs cells) (hv : vmap W H cells = true) {fx fy r : Int} {high : Bool} (ha : inn W H fx fy = true) (hr0 : 0 ≤ r) (hr : r ≤ 32) :
    ∀ (m rem k : Nat), k + rem = cells.length → rem < m → G_skirmishref12_Visible_0 high r W H cells fx fy m (rowsB k (good W H cells fx fy r high)) k = some (rowsB cells.length (good W H cells fx fy r high))
  | 0, rem, k, h1, h2 => by omega
  | m + 1, 0, k, h1, h2 => by
    have hWH := (fmd_iff.1 (fmd_of hv)).2
    have hn := fmd_small (fmd_of hv)
    have w0 : wr (W * H) = W * H := wr_in (by omega) (by omega)
    have d1 : ¬ (k : Int) < W * H := by omega
    obtain rfl : k = cells.length := by omega
    simp only [G_skirmishref12_Visible_0, w0, d1, decide_false, cond_false]
  | m + 1, rem + 1, k, h1, h2 => by
    have hWH := (fmd_iff.1 (fmd_of hv)).2
    have hw := vld_iff.1 (vld_of hv)
    have hn := fmd_small (fmd_of hv)
    have w0 : wr (W * H) = W * H := wr_in (by omega) (by omega)
    have d1 : (k : Int) < W * H := by omega
    have hin := att_in (w := W) (h := H) (i := (k : Int)) (by omega) (by omega) (by omega)
    obtain ⟨s1, s2⟩ := inn_sm (vld_of hv) ha
    obtain ⟨s3, s4⟩ := inn_sm (vld_of hv) hin
    unfold sm at s1 s2 s3 s4
    have w1 : wr ((k : Int) + 1) = ((k + 1 : Nat) : Int) := wr_suc k (by omega)
    have w2 : wr ((att W k).1 - fx) = (att W k).1 - fx := wr_in (by omega) (by omega)
    have w3 : wr ((att W k).2 - fy) = (att W k).2 - fy := wr_in (by omega) (by omega)
    have p1 := prod_in (a := (att W k).1 - fx) (b := (att W k).1 - fx) (by omega) (by omega)
    have p2 := prod_in (a := (att W k).2 - fy) (b := (att W k).2 - fy) (by omega) (by omega)
    have p3 := prod_in (a := r) (b := r) (by omega) (by omega)
    have w4 : wr (((att W k).1 - fx) * ((att W k).1 - fx)) = ((att W k).1 - fx) * ((att W k).1 - fx) := wr_in (by omega) (by omega)
    have w5 : wr (((att W k).2 - fy) * ((att W k).2 - fy)) = ((att W k).2 - fy) * ((att W k).2 - fy) := wr_in (by omega) (by omega)
    have w6 : wr (((att W k).1 - fx) * ((att W k).1 - fx) + ((att W k).2 - fy) * ((att W k).2 - fy)) = ((att W k).1 - fx) * ((att W k).1 - fx) + ((att W k).2 - fy) * ((att W k).2 - fy) := wr_in (by omega) (by omega)
    have w7 : wr (r * r) = r * r := wr_in (by omega) (by omega)
    have room : roomOk (k + 1) 1 = true := by simp [roomOk]; omega
    have ih := visr_G (high := high) hc hv ha hr0 hr m rem (k + 1) (by omega) (by omega)
    have hgd : good W H cells fx fy r high k = (decide (((att W k).1 - fx) * ((att W k).1 - fx) + ((att W k).2 - fy) * ((att W k).2 - fy) ≤ r * r) && (high || seesN W H cells fx fy (att W k).1 (att W k).2)) := rfl
    rw [← rowsB_snoc, hgd] at ih
    simp only [G_skirmishref12_Visible_0, w0, d1, decide_true, cond_true, at_r W k (by omega), Option.bind_some, w1, w2, w3, w4, w5, w6, w7, sees_r hc hv ha hin, rowsB_length, room]
    cases hd : decide (((att W k).1 - fx) * ((att W k).1 - fx) + ((att W k).2 - fy) * ((att W k).2 - fy) ≤ r * r) with
    | false => rw [hd] at ih; exact ih
    | true =>
      rw [hd] at ih
      cases high with
      | true => exact ih
      | false => exact ih
theorem Visible_r (W H : Int) (cells : List (List AVal)) (hc : okCs cells) (fx fy radius : Int) (high : Bool) : F_skirmishref12_Visible W H cells fx fy radius high = some (visN W H cells fx fy radius high) := by
  simp only [F_skirmishref12_Visible, Valid_r W H cells hc, ins12_r, Option.bind_some, visN]
  cases hv : vmap W H cells with
  | false => rfl
  | true =>
    cases ha : inn W H fx fy with
    | false => rfl
    | true =>
      by_cases hr : radius < 0
      · simp [hr]
      · have key := visr_G (fx := fx) (fy := fy) (r := min radius 32) (high := high) hc hv ha (by omega) (by omega) FU cells.length 0 (by omega) (by have := fmd_small (fmd_of hv); unfold FU; omega)
        have key' : G_skirmishref12_Visible_0 high (min radius 32) W H cells fx fy FU [] 0 = some (rowsB cells.length (good W H cells fx fy (min radius 32) high)) := key
        simp only [hr, Bool.not_true, cond_false, decide_false, minI_eq, key', Option.bind_some, Bool.not_false, Bool.and_self, cond_true]

/-! ### Equality -/
theorem same12_self (a : List (List AVal)) (h : okB a) (hn : a.length ≤ 1000000) : F_skirmishref12_Same a a = some true := by
  have key := run_loop (fun m (_ : Unit) i => G_skirmishref12_Same_0 a a m i) (fun _ _ => .inl ()) (fun _ => false) a.length (fun _ _ => True)
    (fun m k _ hk _ => by
      obtain ⟨q1, q2⟩ := okB_get h k hk
      have d1 : (k : Int) < a.length := by omega
      have d2 : (0 : Int) ≤ k := by omega
      simp only [G_skirmishref12_Same_0, Int.ofNat_eq_natCast, d1, d2, decide_true, cond_true, Int.toNat_natCast, q1, q2, Option.bind_some, beq_self_eq_true, Bool.not_true, cond_false, wr_next hk (by omega)])
    (fun _ _ _ _ _ _ => trivial)
    (fun m _ _ => by
      have d1 : ¬ (a.length : Int) < a.length := by omega
      simp only [G_skirmishref12_Same_0, Int.ofNat_eq_natCast, d1, decide_false, cond_false])
    a.length FU 0 () (by omega) (by unfold FU; omega) trivial
  have hf : ∀ r k, iter (fun (_ : Nat) (_ : Unit) => (Sum.inl () : Unit ⊕ Bool)) (fun _ => false) r k () = false := by
    intro r
    induction r with
    | zero => intro k; rfl
    | succ r ih => intro k; exact ih (k + 1)
  rw [hf] at key
  have key' : G_skirmishref12_Same_0 a a FU 0 = some false := key
  simp only [F_skirmishref12_Same, bne_self_eq_false, cond_false, key', Option.bind_some]

/-! ### Union -/
def uniN (a b : List (List AVal)) : List (List AVal) := rowsB (max a.length b.length) fun q => gB a q || gB b q
theorem uniN_comm (a b : List (List AVal)) : uniN a b = uniN b a := by
  unfold uniN
  rw [Nat.max_comm]
  exact rowsB_congr fun q _ => Bool.or_comm _ _
theorem uniN_again (a b : List (List AVal)) : uniN (uniN a b) a = uniN a b := by
  unfold uniN
  rw [rowsB_length, show max (max a.length b.length) a.length = max a.length b.length by omega]
  refine rowsB_congr fun q hq => ?_
  rw [gB_rowsB _ hq]
  cases gB a q <;> cases gB b q <;> rfl
theorem copyR_zero (M : Nat) (a : List (List AVal)) (h : okB a) (hM : a.length ≤ M) : copyR (List.replicate M [bo false]) a = rowsB M (gB a) := by
  apply List.ext_getElem?
  intro q
  unfold copyR
  rw [List.length_replicate, List.take_of_length_le hM]
  by_cases hq : q < M
  · rw [rowsB_get _ hq]
    by_cases hqa : q < a.length
    · rw [List.getElem?_append_left hqa]
      exact (congrArg (fun l => l[q]?) (okB_eq h)).trans (rowsB_get _ hqa)
    · rw [List.getElem?_append_right (by omega), List.getElem?_drop, gB_ge (by omega)]
      simp [show a.length + (q - a.length) = q by omega, hq]
  · rw [rowsB_none _ hq]
    exact List.getElem?_eq_none (by simp; omega)
theorem uni_G (a b : List (List AVal)) (hb : okB b) (M : Nat) (hM : b.length ≤ M) (hn : M ≤ 1000000) : ∀ (m rem k : Nat), k + rem = b.length → rem < m →
    G_shadow_Union_0 b b.length m (rowsB M fun q => if q < k then gB a q || gB b q else gB a q) k = some (rowsB M fun q => if q < b.length then gB a q || gB b q else gB a q)
  | 0, rem, k, h1, h2 => by omega
  | m + 1, 0, k, h1, h2 => by
    have d1 : ¬ (k : Int) < b.length := by omega
    obtain rfl : k = b.length := by omega
    simp only [G_shadow_Union_0, d1, decide_false, cond_false]
  | m + 1, rem + 1, k, h1, h2 => by
    have hk : k < b.length := by omega
    have d1 : (k : Int) < b.length := by omega
    have d2 : (0 : Int) ≤ k := by omega
    have d3 : (k : Int) < ((rowsB M fun q => if q < k then gB a q || gB b q else gB a q).length : Int) := by rw [rowsB_length]; omega
    obtain ⟨q1, q2⟩ := okB_get hb k hk
    have e : cB (b.getD k []) 0 = gB b k := rfl
    have ih := uni_G a b hb M hM hn m rem (k + 1) (by omega) (by omega)
    simp only [G_shadow_Union_0, Int.ofNat_eq_natCast, d1, d2, d3, decide_true, cond_true, Int.toNat_natCast, q1, q2, Option.bind_some, rowsB_get _ (show k < M by omega), chk_bo, cB_bo, Nat.lt_irrefl, if_false, e, rowsB_set, wr_next hk (by omega)]
    have up : ∀ t, t = (gB a k || gB b k) → G_shadow_Union_0 b b.length m (rowsB M fun q => if q = k then t else if q < k then gB a q || gB b q else gB a q) ((k + 1 : Nat) : Int) = some (rowsB M fun q => if q < b.length then gB a q || gB b q else gB a q) := by
      intro t ht
      rw [← ih]
      congr 1
      refine rowsB_congr fun q _ => ?_
      by_cases h : q = k
      · subst h
        rw [if_pos rfl, if_pos (by omega), ht]
      · rw [if_neg h]
        by_cases h' : q < k
        · rw [if_pos h', if_pos (by omega)]
        · rw [if_neg h', if_neg (by omega)]
    cases hg : gB a k with
    | true => exact up true (by rw [hg]; rfl)
    | false => exact up (gB b k) (by rw [hg]; rfl)
theorem Union_g (a b : List (List AVal)) (ha : okB a) (hb : okB b) (hn : a.length ≤ 1000000) (hm : b.length ≤ 1000000) : F_shadow_Union a b = some (uniN a b) := by
  have e : max (a.length : Int) (b.length : Int) = ((max a.length b.length : Nat) : Int) := by omega
  have c1 : (0 : Int) ≤ ((max a.length b.length : Nat) : Int) := by omega
  have c2 : ((max a.length b.length : Nat) : Int) ≤ 9223372036854775807 := by omega
  have c3 : (1 : Int) * ((max a.length b.length : Nat) : Int) ≤ 140737488355328 := by omega
  have key := uni_G a b hb (max a.length b.length) (by omega) (by omega) FU b.length 0 (by omega) (by unfold FU; omega)
  have e0 : (rowsB (max a.length b.length) fun q => if q < 0 then gB a q || gB b q else gB a q) = rowsB (max a.length b.length) (gB a) := rowsB_congr fun q _ => by rw [if_neg (by omega)]
  rw [e0] at key
  have key' : G_shadow_Union_0 b b.length FU (rowsB (max a.length b.length) (gB a)) 0 = _ := key
  simp only [F_shadow_Union, Int.ofNat_eq_natCast, maxI_eq, e, c1, c2, c3, decide_true, Bool.and_self, cond_true, Int.toNat_natCast, copyR_zero _ a ha (show a.length ≤ max a.length b.length by omega), key', Option.bind_some]
  congr 1
  unfold uniN
  refine rowsB_congr fun q _ => ?_
  by_cases h : q < b.length
  · rw [if_pos h]
  · rw [if_neg h, gB_ge (a := b) (by omega), Bool.or_false]
theorem unir_G (a b : List (List AVal)) (ha : okB a) (hb : okB b) (hn : max a.length b.length ≤ 1000000) : ∀ (m rem k : Nat), k + rem = max a.length b.length → rem < m →
    G_skirmishref12_Union_0 a b m (rowsB k fun q => gB a q || gB b q) k = some (uniN a b)
  | 0, rem, k, h1, h2 => by omega
  | m + 1, 0, k, h1, h2 => by
    have d1 : ¬ (k : Int) < max (a.length : Int) b.length := by omega
    obtain rfl : k = max a.length b.length := by omega
    simp only [G_skirmishref12_Union_0, Int.ofNat_eq_natCast, maxI_eq, d1, decide_false, cond_false, uniN]
  | m + 1, rem + 1, k, h1, h2 => by
    have d1 : (k : Int) < max (a.length : Int) b.length := by omega
    have d2 : (0 : Int) ≤ k := by omega
    have room : roomOk (k + 1) 1 = true := by simp [roomOk]; omega
    have ih := unir_G a b ha hb hn m rem (k + 1) (by omega) (by omega)
    rw [← rowsB_snoc] at ih
    have ea : cB (a.getD k []) 0 = gB a k := rfl
    have eb : cB (b.getD k []) 0 = gB b k := rfl
    simp only [G_skirmishref12_Union_0, Int.ofNat_eq_natCast, maxI_eq, d1, d2, decide_true, cond_true, rowsB_length, room, Int.toNat_natCast, wr_suc k (by omega)]
    by_cases hka : k < a.length
    · obtain ⟨q1, q2⟩ := okB_get ha k hka
      have d3 : (k : Int) < a.length := by omega
      simp only [d3, decide_true, cond_true, q1, Option.bind_some, q2, ea]
      cases hga : gB a k with
      | true =>
        rw [hga] at ih
        exact ih
      | false =>
        rw [hga] at ih
        by_cases hkb : k < b.length
        · obtain ⟨p1, p2⟩ := okB_get hb k hkb
          have d4 : (k : Int) < b.length := by omega
          simp only [cond_false, d4, decide_true, cond_true, p1, Option.bind_some, p2, eb]
          exact ih
        · have d4 : ¬ (k : Int) < b.length := by omega
          rw [gB_ge (a := b) (by omega)] at ih
          simp only [cond_false, d4, decide_false]
          exact ih
    · have d3 : ¬ (k : Int) < a.length := by omega
      rw [gB_ge (a := a) (by omega)] at ih
      have hkb : k < b.length := by omega
      obtain ⟨p1, p2⟩ := okB_get hb k hkb
      have d4 : (k : Int) < b.length := by omega
      simp only [d3, d4, decide_false, decide_true, cond_false, cond_true, p1, Option.bind_some, p2, eb]
      exact ih
theorem Union_r (a b : List (List AVal)) (ha : okB a) (hb : okB b) (hn : a.length ≤ 1000000) (hm : b.length ≤ 1000000) : F_skirmishref12_Union a b = some (uniN a b) := by
  have key := unir_G a b ha hb (by omega) FU (max a.length b.length) 0 (by omega) (by unfold FU; omega)
  have key' : G_skirmishref12_Union_0 a b FU [] 0 = some (uniN a b) := key
  simp only [F_skirmishref12_Union, key', Option.bind_some]
end Go.Proofs.Ytonckcjkgdlmkaa.AI
