/- What the functions of the package astar answer: Cost, Reach, Path. -/
import Derived.Test.YtmnjdfdiokomhaaDoorAr
import Derived.Test.YtmnjdfdiokomhaaDoorCt
namespace Go.Proofs.YtmnjdfdiokomhaaDoor.AI
open Go.RowKit
set_option linter.unusedVariables false
set_option linter.unusedSimpArgs false

/-! ### Cost -/
/-- The first direction that leads from one cell to another. -/
def fd (W : Int) (i j : Nat) : Nat → Nat → Option Nat
  | 0, _ => none
  | r + 1, d => if (stp (px W i) (py W i) d) = (px W j, py W j) then some d else fd W i j r (d + 1)
theorem fd_some {W : Int} {i j e : Nat} : ∀ (r d : Nat), fd W i j r d = some e → d ≤ e ∧ e < d + r ∧ stp (px W i) (py W i) e = (px W j, py W j)
  | 0, d, h => by cases h
  | r + 1, d, h => by
    unfold fd at h
    split at h
    · rename_i hk
      simp only [Option.some.injEq] at h
      subst h
      exact ⟨by omega, by omega, hk⟩
    · obtain ⟨a, b, c⟩ := fd_some r (d + 1) h
      exact ⟨by omega, by omega, c⟩
theorem fd_none {W : Int} {i j : Nat} : ∀ (r d : Nat), fd W i j r d = none → ∀ e : Nat, d ≤ e → e < d + r → stp (px W i) (py W i) e ≠ (px W j, py W j)
  | 0, d, h, e, a, b => by omega
  | r + 1, d, h, e, a, b => by
    unfold fd at h
    split at h
    · cases h
    · rename_i hk
      by_cases he : e = d
      · subst he; exact hk
      · exact fd_none r (d + 1) h e (by omega) (by omega)
theorem cokA (cls : Int) : (decide (1 ≤ cls) && decide (cls ≤ 3)) = cok cls := rfl
/-! ### Reach -/
/-- The costs from a cell. -/
noncomputable def D (W H : Int) (cells bl : List (List AVal)) (cls : Int) (j : Nat) : List Int := ((F_astar_ground__reach W H cells bl cls (px W j) (py W j)).getD []).map fun r => cI r 0
theorem dec_enc (cs : List Int) : (encC cs).map (fun r => cI r 0) = cs := by
  unfold encC
  rw [List.map_map]
  exact List.map_id cs
theorem D_a (W H : Int) (cells bl : List (List AVal)) (hc : okCs cells) (hb : okB bl) (cls : Int) (hf : fmd W H cells.length = true) (j : Nat) (hj : j < cells.length) :
    F_astar_ground__reach W H cells bl cls (px W j) (py W j) = some (encC (D W H cells bl cls j)) ∧ RC W H cells bl cls j (D W H cells bl cls j) := by
  obtain ⟨cs, h1, h2⟩ := reach_a W H cells bl hc hb cls hf j hj
  have e : D W H cells bl cls j = cs := by
    unfold D
    rw [h1]
    exact dec_enc cs
  rw [e]
  exact ⟨h1, h2⟩
/-! ### Path -/
theorem at_rest (W H : Int) (cells : List (List AVal)) (cs : List Int) (hl : cs.length = cells.length) (hf : fmd W H cells.length = true) (i : Nat) (hi : i < cells.length) : F_astar_Path_1 (px W i) (py W i) (encC cs) W H cells = some (cg cs i) := by
  have hin := pos_ins hf hi
  have hx := (ins_idx hin).1
  have hp := pos_idx (i := i) hf
  have l1 : (0 : Int) ≤ i := by omega
  have l2 : (i : Int) < (cs.length : Nat) := by omega
  have g := encC_get (cs := cs) (k := i) (by omega)
  simp only [F_astar_Path_1, index_g, hx, hp, Option.bind_some, l1, l2, encC_len, Int.ofNat_eq_natCast, decide_true, Bool.and_self, cond_true, Int.toNat_natCast, g, chk_i, cI_i]
theorem at_s (W H : Int) (cells : List (List AVal)) (cs : List Int) (hl : cs.length = cells.length) {x y : Int} (hin : ins W H cells.length x y = true) : F_astar_Path_1 x y (encC cs) W H cells = some (cg cs (nm W x y)) := by
  have h := at_rest W H cells cs hl (ins_iff.1 hin).1 (nm W x y) (nm_lt hin).1
  rw [(pos_nm hin).1, (pos_nm hin).2] at h
  exact h
theorem pathA_1 (W H : Int) (cells bl : List (List AVal)) (hc : okCs cells) (hb : okB bl) (cls : Int) (hf : fmd W H cells.length = true) (cs : List Int) (hl : cs.length = cells.length) (src : Nat → Prop) (hr : Right cells.length (nbG W H cells bl cls) src (cg cs)) (i : Nat) (hi : i < cells.length) (h0 : 0 ≤ cg cs i) (hbig : cg cs i ≤ 1000000) :
    ∀ (r m d : Nat), d + r = 8 → r < m → G_astar_Path_1 (encC cs) bl cls W H cells (px W i) (py W i) m d = some (match dN (nbG W H cells bl cls) cs i r d with | some e => ((stp (px W i) (py W i) e).1, (stp (px W i) (py W i) e).2) | none => (px W i, py W i))
  | 0, m, d, h1, h2 => by
    obtain ⟨m, rfl⟩ : ∃ q, m = q + 1 := ⟨m - 1, by omega⟩
    obtain rfl : d = 8 := by omega
    rfl
  | r + 1, m, d, h1, h2 => by
    obtain ⟨m, rfl⟩ : ∃ q, m = q + 1 := ⟨m - 1, by omega⟩
    have d1 : (d : Int) < 8 := by omega
    have w : wr ((d : Int) + 1) = ((d + 1 : Nat) : Int) := wr_suc d (by omega)
    have ih := pathA_1 W H cells bl hc hb cls hf cs hl src hr i hi h0 hbig r m (d + 1) (by omega) (by omega)
    have hnb := nbG_of (W := W) (H := H) (cells := cells) (bl := bl) (cls := cls) (i := i) (d := d) hi (by omega)
    simp only [G_astar_Path_1, d1, decide_true, cond_true, Step_g W H cells bl hc hb, Option.bind_some, w, ih]
    cases hs : (stepN W H cells bl cls (px W i) (py W i) d).2 with
    | false =>
      rw [hs, if_neg (by simp)] at hnb
      simp only [Bool.not_false, cond_true, dN, hnb]
    | true =>
      rw [hs, if_pos rfl] at hnb
      have hin := step_ins hs
      have he := hr.edge i d _ _ hi (by omega) hnb h0
      have hcost := step_cost hs
      have ge : cg cs (nm W (stp (px W i) (py W i) d).1 (stp (px W i) (py W i) d).2) ≥ 0 := he.1
      have ws : wr (cg cs (nm W (stp (px W i) (py W i) d).1 (stp (px W i) (py W i) d).2) + (stepN W H cells bl cls (px W i) (py W i) d).1) = cg cs (nm W (stp (px W i) (py W i) d).1 (stp (px W i) (py W i) d).2) + (stepN W H cells bl cls (px W i) (py W i) d).1 := wr_in (by omega) (by omega)
      simp only [Bool.not_true, cond_false, step_g, Option.bind_some, at_s W H cells cs hl hin.2, at_rest W H cells cs hl hf i hi, ge, decide_true, cond_true, ws, dN, hnb]
      by_cases hk : cg cs (nm W (stp (px W i) (py W i) d).1 (stp (px W i) (py W i) d).2) + (stepN W H cells bl cls (px W i) (py W i) d).1 = cg cs i
      · simp only [hk, beq_self_eq_true, cond_true, if_true]
      · have : (cg cs (nm W (stp (px W i) (py W i) d).1 (stp (px W i) (py W i) d).2) + (stepN W H cells bl cls (px W i) (py W i) d).1 == cg cs i) = false := by simpa using hk
        simp only [this, cond_false, hk, if_false]
theorem pathA_0 (W H : Int) (cells bl : List (List AVal)) (hc : okCs cells) (hb : okB bl) (cls : Int) (hf : fmd W H cells.length = true) (cs : List Int) (hl : cs.length = cells.length) (b : Nat) (hbn : b < cells.length) (hr : Right cells.length (nbG W H cells bl cls) (· = b) (cg cs)) :
    ∀ (f i m : Nat) (l : List Nat), i < cells.length → 0 ≤ cg cs i → cg cs i < 10 * f → f ≤ 50000 → f < m → l.length + f ≤ 60000 →
    G_astar_Path_0 (encC cs) bl cls W H cells (px W b) (py W b) m (encP W l) (px W i) (py W i) = some (encP W (l ++ wk (nbG W H cells bl cls) cs f i))
  | 0, i, m, l, hi, h0, hf', h3, h4, h5 => by omega
  | f + 1, i, m, l, hi, h0, hf', h3, h4, h5 => by
    obtain ⟨m, rfl⟩ : ∃ q, m = q + 1 := ⟨m - 1, by omega⟩
    have ho := nbG_ok W H cells bl cls
    have hz := hr.zero_iff ho hi
    have hap := at_pos (j := b) (pos_ins hf hi) hbn
    rw [nm_pos hf] at hap
    unfold wk
    by_cases h : i = b
    · have e := hz.2 h
      rw [if_pos (by omega), List.append_nil]
      rw [decide_eq_true h] at hap
      simp only [G_astar_Path_0, hap, Bool.not_true, cond_false]
    · have hne : ¬ cg cs i ≤ 0 := fun q => h (hz.1 (by omega))
      rw [if_neg hne]
      obtain ⟨d, j, w, k1, k2, k3, k4, k5, k6, k7, k8⟩ := nxt_some ho (nbG_sym W H cells bl cls) hr hi (by omega)
      have h1 := pathA_1 W H cells bl hc hb cls hf cs hl _ hr i hi h0 (by omega) 8 FU 0 (by omega) (by unfold FU; omega)
      have h1' : G_astar_Path_1 (encC cs) bl cls W H cells (px W i) (py W i) FU 0 = _ := h1
      rw [k1] at h1'
      obtain ⟨y1, y2, y3, y4⟩ := nbG_some k3
      have hs2 := step_ins (W := W) (H := H) (cells := cells) (bl := bl) (cls := cls) (x := px W i) (y := py W i) (d := d) (by rw [y3])
      have p := pos_nm hs2.2
      rw [← y4] at p
      rw [k4]
      have ih := pathA_0 W H cells bl hc hb cls hf cs hl b hbn hr f j m (l ++ [j]) k5 k6 (by omega) (by omega) (by omega) (by rw [List.length_append, List.length_singleton]; omega)
      rw [List.append_assoc] at ih
      simp only [G_astar_Path_0, hap, h, decide_false, Bool.not_false, cond_true, h1', Option.bind_some, encP_len, room16 (show l.length + 1 ≤ 100000 by omega), ← p.1, ← p.2, encP_app, ih]
      rfl
/-- The path that goes down the costs. -/
def pathN (W H : Int) (cells bl : List (List AVal)) (cls : Int) (cs : List Int) (i : Nat) : List Nat := i :: wk (nbG W H cells bl cls) cs 50000 i
theorem wk_more {n : Nat} {nb : Nb} {src : Nat → Prop} {cs : List Int} (ho : NbOk n nb) (hs : NbSym nb) (hr : Right n nb src (cg cs)) : ∀ (f g i : Nat), i < n → 0 ≤ cg cs i → cg cs i < 10 * f → f ≤ g → wk nb cs g i = wk nb cs f i
  | 0, g, i, hi, h0, h1, h2 => by omega
  | f + 1, 0, i, hi, h0, h1, h2 => by omega
  | f + 1, g + 1, i, hi, h0, h1, h2 => by
    unfold wk
    by_cases hz : cg cs i ≤ 0
    · rw [if_pos hz, if_pos hz]
    · rw [if_neg hz, if_neg hz]
      obtain ⟨d, j, w, k1, k2, k3, k4, k5, k6, k7, k8⟩ := nxt_some ho hs hr hi (by omega)
      rw [k4]
      simp only
      rw [wk_more ho hs hr f g j k5 k6 (by omega) (by omega)]
end Go.Proofs.YtmnjdfdiokomhaaDoor.AI
