/- Chapter 7: a step is possible exactly if the opposite one is. -/
import Derived.Test.YtocgekefbdcdmaaDoorQ07L
namespace Go.Proofs.YtocgekefbdcdmaaDoor.AI
open Go.RowKit
set_option linter.unusedVariables false
set_option linter.unusedSimpArgs false
/-- The opposite direction. -/
def opp (d : Int) : Int := Int.tmod (wr (d + 4)) 8
theorem opp_ok {d : Int} (h1 : 0 ≤ d) (h2 : d < 8) : dX (opp d) = - dX d ∧ dY (opp d) = - dY d ∧ 0 ≤ opp d ∧ opp d < 8 ∧ (Int.tmod (opp d) 2 == 1) = (Int.tmod d 2 == 1) ∧ opp (opp d) = d := by
  have h : d = 0 ∨ d = 1 ∨ d = 2 ∨ d = 3 ∨ d = 4 ∨ d = 5 ∨ d = 6 ∨ d = 7 := by omega
  rcases h with rfl | rfl | rfl | rfl | rfl | rfl | rfl | rfl <;> decide +kernel
theorem ins_rng {W H : Int} {n : Nat} {x y : Int} (h : ins W H n x y = true) : 0 ≤ x ∧ x < 32 ∧ 0 ≤ y ∧ y < 32 := by
  obtain ⟨h1, h2⟩ := ins_iff.1 h
  obtain ⟨h3, h4⟩ := fmd_iff.1 h1
  rw [inn_iff] at h2
  omega
/-- From an inside place, there and back. -/
theorem stp_there {W H : Int} {n : Nat} {x y d : Int} (h1 : 0 ≤ d) (h2 : d < 8) (hi : ins W H n x y = true) : stp (stp x y d).1 (stp x y d).2 (opp d) = (x, y) := by
  obtain ⟨o1, o2, o3, o4, _⟩ := opp_ok h1 h2
  have r := ins_rng hi
  have a := dX_in d
  have b := dY_in d
  unfold stp
  rw [if_neg (show ¬ (d < 0 ∨ 7 < d) by omega), if_neg (show ¬ (opp d < 0 ∨ 7 < opp d) by omega)]
  simp only [o1, o2]
  rw [nr_id (n := x) (by omega) (by omega), nr_id (n := y) (by omega) (by omega), nr_id (by omega) (by omega), nr_id (by omega) (by omega)]
  simp
  omega
/-- Where both ends are inside. -/
theorem stp_here {W H : Int} {n : Nat} {x y d : Int} (h1 : 0 ≤ d) (h2 : d < 8) (hi : ins W H n (stp x y d).1 (stp x y d).2 = true) (hj : ins W H n (stp (stp x y d).1 (stp x y d).2 (opp d)).1 (stp (stp x y d).1 (stp x y d).2 (opp d)).2 = true) :
    stp (stp x y d).1 (stp x y d).2 (opp d) = (x, y) := by
  obtain ⟨o1, o2, o3, o4, _⟩ := opp_ok h1 h2
  have r := ins_rng hi
  have q := ins_rng hj
  have a := dX_in d
  have b := dY_in d
  unfold stp at r q ⊢
  rw [if_neg (show ¬ (d < 0 ∨ 7 < d) by omega)] at r q ⊢
  rw [if_neg (show ¬ (opp d < 0 ∨ 7 < opp d) by omega)] at q ⊢
  simp only [o1, o2] at r q ⊢
  rw [nr_id (n := nr x + dX d) (by omega) (by omega), nr_id (n := nr y + dY d) (by omega) (by omega)] at q ⊢
  have e1 : nr x = x := by unfold nr at *; omega
  have e2 : nr y = y := by unfold nr at *; omega
  simp only [Prod.mk.injEq]
  omega
theorem crn_back (W H : Int) (cells bl : List (List AVal)) (cls px py qx qy : Int) : crn W H cells bl cls qx qy px py = crn W H cells bl cls px py qx qy := by
  unfold crn
  rw [psb_comm W H cells bl cls qx qy qx py, psb_comm W H cells bl cls qx py px py, psb_comm W H cells bl cls qx qy px qy, psb_comm W H cells bl cls px qy px py]
  cases psb W H cells bl cls qx py qx qy <;> cases psb W H cells bl cls px py qx py <;> cases psb W H cells bl cls px qy qx qy <;> cases psb W H cells bl cls px py px qy <;> rfl
theorem cst_back (W : Int) (cells : List (List AVal)) (cls d px py qx qy : Int) (h1 : 0 ≤ d) (h2 : d < 8) : cst W cells cls (opp d) qx qy px py = cst W cells cls d px py qx qy := by
  unfold cst
  rw [(opp_ok h1 h2).2.2.2.2.1, show (hgt W cells qx qy == hgt W cells px py) = (hgt W cells px py == hgt W cells qx qy) from Bool.eq_iff_iff.2 (by simp only [beq_iff_eq]; exact eq_comm)]
theorem step_back (W H : Int) (cells bl : List (List AVal)) (cls x y d : Int) (h1 : 0 ≤ d) (h2 : d < 8) :
    stepN W H cells bl cls (stp x y d).1 (stp x y d).2 (opp d) = stepN W H cells bl cls x y d := by
  obtain ⟨o1, o2, o3, o4, o5, _⟩ := opp_ok h1 h2
  have d1 : decide (d < 0 ∨ d > 7) = false := decide_eq_false (by omega)
  have d2 : decide (opp d < 0 ∨ opp d > 7) = false := decide_eq_false (by omega)
  unfold stepN
  simp only [d1, d2, cond_false]
  cases hp : psb W H cells bl cls x y (stp x y d).1 (stp x y d).2 with
  | true =>
    have e := stp_there h1 h2 (psb_ins hp).1
    rw [e]
    simp only
    rw [psb_comm, hp, o5, crn_back, cst_back W cells cls d _ _ _ _ h1 h2]
  | false =>
    cases hq : psb W H cells bl cls (stp x y d).1 (stp x y d).2 (stp (stp x y d).1 (stp x y d).2 (opp d)).1 (stp (stp x y d).1 (stp x y d).2 (opp d)).2 with
    | false => rfl
    | true =>
      have e := stp_here h1 h2 (psb_ins hq).1 (psb_ins hq).2
      rw [e] at hq
      simp only at hq
      rw [psb_comm, hp] at hq
      cases hq
theorem step_inn {W H : Int} {cells bl : List (List AVal)} {cls x y d : Int} (h : (stepN W H cells bl cls x y d).2 = true) : inn W H x y = true ∧ inn W H (stp x y d).1 (stp x y d).2 = true := by
  unfold stepN at h
  cases hd : decide (d < 0 ∨ d > 7) with
  | true => rw [hd] at h; cases h
  | false =>
    rw [hd] at h
    simp only [cond_false] at h
    cases hp : psb W H cells bl cls x y (stp x y d).1 (stp x y d).2 with
    | false => rw [hp] at h; cases h
    | true =>
      have := psb_ins hp
      exact ⟨(ins_iff.1 this.1).2, (ins_iff.1 this.2).2⟩
theorem sym_G (W H : Int) (cells bl : List (List AVal)) (hc : okC cells) (hb : okB bl) (cls x y : Int) : ∀ (m r : Nat) (d : Int), 0 ≤ d → d + r = 8 → r < m → G_skirmishlaw07_TerrainSymmetric_0 bl W H cells cls x y m d = some (false, 0, 0)
  | 0, r, d, h0, h1, h2 => by omega
  | m + 1, 0, d, h0, h1, h2 => by
    have : ¬ d < 8 := by omega
    simp only [G_skirmishlaw07_TerrainSymmetric_0, this, decide_false, cond_false]
  | m + 1, r + 1, d, h0, h1, h2 => by
    have d1 : d < 8 := by omega
    have ih := sym_G W H cells bl hc hb cls x y m r (d + 1) (by omega) (by omega) (by omega)
    have e := step_back W H cells bl cls x y d h0 d1
    unfold opp at e
    have w1 : wr (d + 1) = d + 1 := wr_in (by omega) (by omega)
    simp only [G_skirmishlaw07_TerrainSymmetric_0, d1, decide_true, cond_true, step_r, Option.bind_some, Step_g W H cells bl hc hb, e, w1, ih, in_g, bne_self_eq_false, beq_self_eq_true, Bool.not_true, cond_false]
    cases h : (stepN W H cells bl cls x y d).2 with
    | false => rfl
    | true =>
      obtain ⟨q1, q2⟩ := step_inn h
      simp only [q1, q2, Bool.not_true, cond_false, cond_true]
theorem pure_TerrainSymmetric (W H : Int) (cells bl : List (List AVal)) (cls d x y : Int) (h1 : wf .i64 W) (h2 : wf .i64 H) (h3 : Ty Tryd.prog (.sl 28 3) (.ro 3 cells)) (h4 : Ty Tryd.prog (.sl 4 1) (.ro 1 bl)) (h5 : wf .i64 cls) (h6 : wf .i64 d) (h7 : wf .i64 x) (h8 : wf .i64 y) : F_skirmishlaw07_TerrainSymmetric W H cells bl cls d x y = some true := by
  have hc := okC_of (by kernel_rfl) h3
  have hb := okB_of (by kernel_rfl) h4
  have hs := sym_G W H cells bl hc hb cls x y FU 8 0 (by omega) (by omega) (by unfold FU; omega)
  simp only [F_skirmishlaw07_TerrainSymmetric, huge07, Option.bind_some, awake07, hs, cond_false, Int.ofNat_eq_natCast]
  cases decide ((cells.length : Int) > 2000) <;> cases decide ((bl.length : Int) > 3000) <;> rfl
end Go.Proofs.YtocgekefbdcdmaaDoor.AI
