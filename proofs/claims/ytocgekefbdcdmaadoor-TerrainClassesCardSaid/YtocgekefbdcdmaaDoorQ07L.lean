/- Chapter 7: the laws. -/
import Derived.Test.YtocgekefbdcdmaaDoorQ07c
namespace Go.Proofs.YtocgekefbdcdmaaDoor.AI
open Go.RowKit
set_option linter.unusedVariables false
set_option linter.unusedSimpArgs false
theorem awake07 : F_skirmishlaw07_awake = some true := by kernel_rfl
theorem huge07 (W H : Int) (c : List (List AVal)) : F_skirmishlaw07_huge W H c = some (decide ((c.length : Int) > 2000)) := by simp only [F_skirmishlaw07_huge, Int.ofNat_eq_natCast]

theorem okC_setN {W H : Int} {cells : List (List AVal)} (hc : okC cells) (x y : Int) {k h a : Int} (hk : rng k) (hh : rng h) (ha : rng a) : okC (setN W H cells x y k h a).1 := by
  unfold setN
  cases (!(vmap W H cells && vcell k h a)) with
  | true => intro r hr; cases hr
  | false =>
    cases ins W H cells.length x y with
    | true => exact okC_set hc _ hk hh ha
    | false => intro r hr; cases hr
theorem len_setN (W H : Int) (cells : List (List AVal)) (x y k h a : Int) : (setN W H cells x y k h a).1.length ≤ cells.length := by
  unfold setN
  cases (!(vmap W H cells && vcell k h a)) with
  | true => simp
  | false => cases ins W H cells.length x y <;> simp [wth_len]

theorem pure_TerrainValid (W H : Int) (cells : List (List AVal)) (x y k h a : Int) (h1 : wf .i64 W) (h2 : wf .i64 H) (h3 : Ty Tryd.prog (.sl 28 3) (.ro 3 cells)) (h4 : wf .i64 x) (h5 : wf .i64 y) (h6 : wf .i64 k) (h7 : wf .i64 h) (h8 : wf .i64 a) : F_skirmishlaw07_TerrainValid W H cells x y k h a = some true := by
  have hc := okC_of (by kernel_rfl) h3
  have hs := okC_setN (W := W) (H := H) hc x y (wf_i64 h6) (wf_i64 h7) (wf_i64 h8)
  have hl := len_setN W H cells x y k h a
  simp only [F_skirmishlaw07_TerrainValid, huge07, Option.bind_some, awake07]
  by_cases hn : (cells.length : Int) > 2000
  · simp only [hn, decide_true, cond_true]
  · simp only [hn, decide_false, cond_false, get_g W H cells hc, get_r W H cells hc, Set_g W H cells hc, Set_r W H cells hc, Valid_g W H cells hc, Valid_r W H cells hc, Option.bind_some, beq_self_eq_true, Bool.not_true, Bool.and_self, bne_self_eq_false, Same_r _ _ _ _ _ _ hs hs (by omega), sameN_self]
    cases he : ((setN W H cells x y k h a).2.2.2 != 0) with
    | true => rfl
    | false =>
      have hv : vmap W H cells = true ∧ vcell k h a = true ∧ ins W H cells.length x y = true := by
        unfold setN at he
        cases q1 : vmap W H cells with
        | false => rw [q1] at he; simp at he
        | true =>
          cases q2 : vcell k h a with
          | false => rw [q1, q2] at he; simp at he
          | true =>
            cases q3 : ins W H cells.length x y with
            | false => rw [q1, q2, q3] at he; simp at he
            | true => exact ⟨rfl, rfl, rfl⟩
      obtain ⟨v1, v2, v3⟩ := hv
      have e : setN W H cells x y k h a = (wth W cells x y k h a, W, H, 0) := by
        unfold setN
        rw [v1, v2, v3]
        rfl
      have hw : okC (wth W cells x y k h a) := okC_set hc _ (wf_i64 h6) (wf_i64 h7) (wf_i64 h8)
      have hi : ins W H (wth W cells x y k h a).length x y = true := by rw [wth_len]; exact v3
      have c0 : cI [i64 k, i64 h, i64 a] 0 = k := rfl
      have c1 : cI [i64 k, i64 h, i64 a] 1 = h := rfl
      have c2 : cI [i64 k, i64 h, i64 a] 2 = a := rfl
      simp only [e, cond_false, get_g W H _ hw, gt_ins hi, Option.bind_some, cond_true, wth_cel k h a v3, hgt, c0, c1, c2, beq_self_eq_true, Bool.and_self, Valid_g W H _ hw, wth_vmap v1 v2]
theorem pure_TerrainPassable (W H : Int) (cells : List (List AVal)) (cls x y : Int) (h1 : wf .i64 W) (h2 : wf .i64 H) (h3 : Ty Tryd.prog (.sl 28 3) (.ro 3 cells)) (h4 : wf .i64 cls) (h5 : wf .i64 x) (h6 : wf .i64 y) : F_skirmishlaw07_TerrainPassable W H cells cls x y = some true := by
  have hc := okC_of (by kernel_rfl) h3
  simp only [F_skirmishlaw07_TerrainPassable, huge07, Option.bind_some, awake07, passable_g W H cells hc, passable_r W H cells hc, opaque_g W H cells hc, opaque_r W H cells hc, beq_self_eq_true, cond_true]
  cases decide ((cells.length : Int) > 2000) <;> rfl
theorem pure_TerrainSteps (W H : Int) (cells bl : List (List AVal)) (cls d x y : Int) (h1 : wf .i64 W) (h2 : wf .i64 H) (h3 : Ty Tryd.prog (.sl 28 3) (.ro 3 cells)) (h4 : Ty Tryd.prog (.sl 4 1) (.ro 1 bl)) (h5 : wf .i64 cls) (h6 : wf .i64 d) (h7 : wf .i64 x) (h8 : wf .i64 y) : F_skirmishlaw07_TerrainSteps W H cells bl cls d x y = some true := by
  have hc := okC_of (by kernel_rfl) h3
  have hb := okB_of (by kernel_rfl) h4
  simp only [F_skirmishlaw07_TerrainSteps, huge07, Option.bind_some, awake07, Step_g W H cells bl hc hb, Step_r W H cells bl hc hb, beq_self_eq_true, cond_true, Int.ofNat_eq_natCast]
  cases decide ((cells.length : Int) > 2000) <;> cases decide ((bl.length : Int) > 3000) <;> rfl
theorem pure_TerrainSame (W H : Int) (a : List (List AVal)) (W' H' : Int) (b : List (List AVal)) (h1 : wf .i64 W) (h2 : wf .i64 H) (h3 : Ty Tryd.prog (.sl 28 3) (.ro 3 a)) (h4 : wf .i64 W') (h5 : wf .i64 H') (h6 : Ty Tryd.prog (.sl 28 3) (.ro 3 b)) : F_skirmishlaw07_TerrainSame W H a W' H' b = some true := by
  have ha := okC_of (by kernel_rfl) h3
  have hb := okC_of (by kernel_rfl) h6
  simp only [F_skirmishlaw07_TerrainSame, huge07, Option.bind_some, awake07]
  by_cases hn : (a.length : Int) > 2000
  · simp only [hn, decide_true, cond_true]
  by_cases hm : (b.length : Int) > 2000
  · simp only [hn, hm, decide_true, decide_false, cond_true, cond_false]
  simp only [hn, hm, decide_false, cond_false, Same_g W H a W' H' b ha hb (by omega), Same_r W H a W' H' b ha hb (by omega), Same_g W H a W H a ha ha (by omega), sameN_self, Option.bind_some, beq_self_eq_true, cond_true]
theorem okC_takeN {W H : Int} {cells : List (List AVal)} (hc : okC cells) (x y n : Int) : okC (takeN W H cells x y n).1 := by
  unfold takeN
  cases hv : vmap W H cells with
  | false => intro r hr; cases hr
  | true =>
    by_cases h1 : n < 1
    · simp only [h1, decide_true, Bool.not_true, Bool.or_true, cond_true]; intro r hr; cases hr
    · simp only [h1, decide_false, Bool.not_true, Bool.or_self, cond_false]
      cases hi : ins W H cells.length x y with
      | false => intro r hr; cases hr
      | true =>
        cases ha : (cI (cel W cells x y) 2 == 0) with
        | true => intro r hr; cases hr
        | false =>
          have hr := vmap_cell hv hi
          unfold vrow vcell at hr
          simp only [Bool.and_eq_true, decide_eq_true_eq] at hr
          refine okC_set hc _ ?_ ?_ ?_
          · cases (cI (cel W cells x y) 2 - min n (cI (cel W cells x y) 2) == 0) <;> simp [rng] <;> omega
          · unfold rng; omega
          · unfold rng; omega
theorem len_takeN (W H : Int) (cells : List (List AVal)) (x y n : Int) : (takeN W H cells x y n).1.length ≤ cells.length := by
  unfold takeN
  cases (!vmap W H cells || decide (n < 1)) with
  | true => simp
  | false => cases (!ins W H cells.length x y || (cI (cel W cells x y) 2 == 0)) <;> simp [wth_len]
theorem pure_TerrainTakes (W H : Int) (cells : List (List AVal)) (x y n : Int) (h1 : wf .i64 W) (h2 : wf .i64 H) (h3 : Ty Tryd.prog (.sl 28 3) (.ro 3 cells)) (h4 : wf .i64 x) (h5 : wf .i64 y) (h6 : wf .i64 n) : F_skirmishlaw07_TerrainTakes W H cells x y n = some true := by
  have hc := okC_of (by kernel_rfl) h3
  have hs := okC_takeN (W := W) (H := H) hc x y n
  have hl := len_takeN W H cells x y n
  simp only [F_skirmishlaw07_TerrainTakes, huge07, Option.bind_some, awake07]
  by_cases hn : (cells.length : Int) > 2000
  · simp only [hn, decide_true, cond_true]
  simp only [hn, decide_false, cond_false, get_g W H cells hc, Take_g W H cells hc, Take_r W H cells hc, Option.bind_some, bne_self_eq_false, Same_r _ _ _ _ _ _ hs hs (by omega), sameN_self, Bool.not_true]
  cases he : ((takeN W H cells x y n).2.2.2.2 != 0) with
  | true => rfl
  | false =>
    have hv : vmap W H cells = true ∧ ¬ n < 1 ∧ ins W H cells.length x y = true ∧ (cI (cel W cells x y) 2 == 0) = false := by
      unfold takeN at he
      cases q1 : vmap W H cells with
      | false => rw [q1] at he; simp at he
      | true =>
        by_cases q2 : n < 1
        · simp [q1, q2] at he
        · cases q3 : ins W H cells.length x y with
          | false => simp [q1, q2, q3] at he
          | true =>
            cases q4 : (cI (cel W cells x y) 2 == 0) with
            | true => simp [q1, q2, q3, q4] at he
            | false => exact ⟨rfl, q2, rfl, rfl⟩
    obtain ⟨v1, v2, v3, v4⟩ := hv
    have hr := vmap_cell v1 v3
    have e : takeN W H cells x y n = (wth W cells x y (bif (cI (cel W cells x y) 2 - min n (cI (cel W cells x y) 2) == 0) then 1 else cI (cel W cells x y) 0) (cI (cel W cells x y) 1) (cI (cel W cells x y) 2 - min n (cI (cel W cells x y) 2)), W, H, min n (cI (cel W cells x y) 2), 0) := by
      unfold takeN
      rw [v1, v3, v4]
      simp [v2]
    rw [e] at hs
    have hi : ∀ k h a, ins W H (wth W cells x y k h a).length x y = true := fun k h a => by rw [wth_len]; exact v3
    have c1 : ∀ k h a : Int, cI [i64 k, i64 h, i64 a] 1 = h := fun _ _ _ => rfl
    have c2 : ∀ k h a : Int, cI [i64 k, i64 h, i64 a] 2 = a := fun _ _ _ => rfl
    have ha0 : cI (cel W cells x y) 2 ≠ 0 := by simpa using v4
    unfold vrow vcell at hr
    simp only [Bool.and_eq_true, decide_eq_true_eq, beq_iff_eq] at hr
    obtain ⟨hr1, hr2⟩ := hr
    have hvc : vcell (bif (cI (cel W cells x y) 2 - min n (cI (cel W cells x y) 2) == 0) then 1 else cI (cel W cells x y) 0) (cI (cel W cells x y) 1) (cI (cel W cells x y) 2 - min n (cI (cel W cells x y) 2)) = true := by
      unfold vcell
      cases hz : (cI (cel W cells x y) 2 - min n (cI (cel W cells x y) 2) == 0) with
      | true =>
        have hz' := beq_iff_eq.1 hz
        rw [hz']
        simp
        omega
      | false =>
        have hz' : cI (cel W cells x y) 2 - min n (cI (cel W cells x y) 2) ≠ 0 := by simpa using hz
        have p1 : cI (cel W cells x y) 2 - min n (cI (cel W cells x y) 2) > 0 := by omega
        have p2 : cI (cel W cells x y) 2 > 0 := by omega
        rw [decide_eq_true p2] at hr2
        simp only [cond_false, p1, decide_true, ← hr2, beq_self_eq_true, Bool.and_true, decide_eq_true_eq]
        omega
    have w1 : wr (cI (cel W cells x y) 2 - min n (cI (cel W cells x y) 2)) = cI (cel W cells x y) 2 - min n (cI (cel W cells x y) 2) := wr_in (by omega) (by omega)
    simp only [e, cond_false, get_g W H _ hs, gt_ins (hi _ _ _), gt_ins v3, Option.bind_some, cond_true, wth_cel _ _ _ v3, c2, w1, beq_self_eq_true, show min n (cI (cel W cells x y) 2) ≥ 1 by omega, show min n (cI (cel W cells x y) 2) ≤ n by omega, decide_true, Valid_g W H _ hs, wth_vmap v1 hvc]

/-! ### There and back -/
theorem psb_imp {W H : Int} {cells bl : List (List AVal)} {px py qx qy : Int} (c c' : Int) (hk : ∀ k, pk c k = true → pk c' k = true) (h3 : c ≠ 3) (h : psb W H cells bl c px py qx qy = true) : psb W H cells bl c' px py qx qy = true := by
  have e3 : (c == 3) = false := by simpa using h3
  have op : ∀ x y, opn W H cells bl c x y = true → opn W H cells bl c' x y = true := fun x y ho => by
    unfold opn pas at ho ⊢
    simp only [e3, Bool.false_or, Bool.and_eq_true] at ho
    simp only [Bool.and_eq_true, ho.1.1, hk _ ho.1.2, true_and, ho.2, Bool.or_true]
  unfold psb at h ⊢
  simp only [e3, Bool.false_or, Bool.and_eq_true] at h
  simp only [op _ _ h.1, op _ _ h.2.1, h.2.2, Bool.or_true, Bool.and_self]
theorem step_imp {W H : Int} {cells bl : List (List AVal)} {x y d : Int} (c c' : Int) (hk : ∀ k, pk c k = true → pk c' k = true) (h3 : c ≠ 3) (h : (stepN W H cells bl c x y d).2 = true) :
    stepN W H cells bl c' x y d = (cst W cells c' d x y (stp x y d).1 (stp x y d).2, true) ∧ stepN W H cells bl c x y d = (cst W cells c d x y (stp x y d).1 (stp x y d).2, true) := by
  have e3 : (c == 3) = false := by simpa using h3
  unfold stepN at h ⊢
  cases hd : decide (d < 0 ∨ d > 7) with
  | true => rw [hd] at h; cases h
  | false =>
    rw [hd] at h
    simp only [cond_false, e3, Bool.false_or] at h ⊢
    cases h1 : psb W H cells bl c x y (stp x y d).1 (stp x y d).2 with
    | false => rw [h1] at h; cases h
    | true =>
      rw [h1] at h
      rw [psb_imp c c' hk h3 h1]
      cases h2 : (!(Int.tmod d 2 == 1) || crn W H cells bl c x y (stp x y d).1 (stp x y d).2) with
      | false => rw [h2] at h; cases h
      | true =>
        refine ⟨?_, rfl⟩
        have : (!(Int.tmod d 2 == 1) || (c' == 3 || crn W H cells bl c' x y (stp x y d).1 (stp x y d).2)) = true := by
          rw [Bool.or_eq_true] at h2 ⊢
          refine h2.imp id fun hc => ?_
          rw [Bool.or_eq_true]
          refine .inr ?_
          unfold crn at hc ⊢
          simp only [Bool.and_eq_true] at hc ⊢
          exact ⟨psb_imp c c' hk h3 hc.1, psb_imp c c' hk h3 hc.2.1, psb_imp c c' hk h3 hc.2.2.1, psb_imp c c' hk h3 hc.2.2.2⟩
        simp only [this, Bool.and_self, cond_true]
theorem pure_TerrainClasses (W H : Int) (cells bl : List (List AVal)) (cls d x y : Int) (h1 : wf .i64 W) (h2 : wf .i64 H) (h3 : Ty Tryd.prog (.sl 28 3) (.ro 3 cells)) (h4 : Ty Tryd.prog (.sl 4 1) (.ro 1 bl)) (h5 : wf .i64 cls) (h6 : wf .i64 d) (h7 : wf .i64 x) (h8 : wf .i64 y) : F_skirmishlaw07_TerrainClasses W H cells bl cls d x y = some true := by
  have hc := okC_of (by kernel_rfl) h3
  have hb := okB_of (by kernel_rfl) h4
  simp only [F_skirmishlaw07_TerrainClasses, huge07, Option.bind_some, awake07, Step_g W H cells bl hc hb, Int.ofNat_eq_natCast]
  by_cases hn : (cells.length : Int) > 2000
  · simp only [hn, decide_true, cond_true]
  by_cases hm : (bl.length : Int) > 3000
  · simp only [hn, hm, decide_true, decide_false, cond_true, cond_false]
  simp only [hn, hm, decide_false, cond_false]
  have k12 : ∀ k, pk 1 k = true → pk 2 k = true := fun k hk => by
    simp only [pk] at hk ⊢
    simp at hk ⊢
    rcases hk with h | h <;> simp [h]
  have k23 : ∀ k, pk 2 k = true → pk 3 k = true := fun k hk => rfl
  have fin : ∀ c c', c ≠ 3 → cst W cells c' d x y (stp x y d).1 (stp x y d).2 ≤ cst W cells c d x y (stp x y d).1 (stp x y d).2 := fun c c' h => by
    have e3 : (c == 3) = false := by simpa using h
    unfold cst
    rw [e3]
    cases (Int.tmod d 2 == 1) <;> cases (c' == 3) <;> cases (hgt W cells x y == hgt W cells (stp x y d).1 (stp x y d).2) <;> simp
  cases b2 : (stepN W H cells bl 2 x y d).2 with
  | true =>
    obtain ⟨e1, e2⟩ := step_imp 2 3 k23 (by decide) b2
    cases b1 : (stepN W H cells bl 1 x y d).2 with
    | true =>
      obtain ⟨f1, f2⟩ := step_imp 1 2 k12 (by decide) b1
      have hce : cst W cells 1 d x y (stp x y d).1 (stp x y d).2 = cst W cells 2 d x y (stp x y d).1 (stp x y d).2 := rfl
      simp only [e1, e2, f2, hce, Bool.not_true, cond_false, cond_true, beq_self_eq_true, fin 2 3 (by decide), decide_true]
    | false => simp only [e1, e2, Bool.not_true, Bool.not_false, cond_false, cond_true, fin 2 3 (by decide), decide_true]
  | false =>
    cases b1 : (stepN W H cells bl 1 x y d).2 with
    | true =>
      obtain ⟨f1, f2⟩ := step_imp 1 2 k12 (by decide) b1
      rw [f1] at b2
      cases b2
    | false => simp only [Bool.not_false, cond_true]
end Go.Proofs.YtocgekefbdcdmaaDoor.AI
