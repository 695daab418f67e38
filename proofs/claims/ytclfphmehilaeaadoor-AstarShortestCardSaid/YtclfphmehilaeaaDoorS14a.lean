/- What the functions of the package astar answer: Cost, Reach, Path. -/
import Derived.Test.YtclfphmehilaeaaDoorAr
import Derived.Test.YtclfphmehilaeaaDoorCt
namespace Go.Proofs.YtclfphmehilaeaaDoor.AI
open Go.RowKit
set_option linter.unusedVariables false
set_option linter.unusedSimpArgs false

/-! ### Cost -/
theorem index_P (W H : Int) (cells bl : List (List AVal)) (cls : Int) (rows : List (List AVal)) (ho : okP rows) (hn : rows.length ≤ 1000000) : ∀ (m r k : Nat), k + r = rows.length → r < m → ∃ z : Int, 0 ≤ z ∧ G_slices_IndexFunc_Pos_0 rows W H cells bl cls rows.length m k = some (!(rows.drop k).all (inR W H), z)
  | 0, r, k, h1, h2 => by omega
  | m + 1, 0, k, h1, h2 => by
    have : ¬ ((k : Int) < rows.length) := by omega
    refine ⟨0, by omega, ?_⟩
    simp only [G_slices_IndexFunc_Pos_0, this, decide_false, cond_false, List.drop_eq_nil_of_le (show rows.length ≤ k by omega), List.all_nil, Bool.not_true]
  | m + 1, r + 1, k, h1, h2 => by
    have d1 : (k : Int) < rows.length := by omega
    have d2 : (0 : Int) ≤ k := by omega
    have g := okP_get ho (show k < rows.length by omega)
    obtain ⟨z, hz, ih⟩ := index_P W H cells bl cls rows ho hn m r (k + 1) (by omega) (by omega)
    simp only [G_slices_IndexFunc_Pos_0, F_astar_Cost_1, inside_a, d1, d2, decide_true, cond_true, Int.toNat_natCast, g, Option.bind_some, chk_p, cI_p0, cI_p1, wr_suc k (by omega), drop_allR (W := W) (H := H) (show k < rows.length by omega), ih]
    have e : inn W H (cI (rows.getD k []) 0) (cI (rows.getD k []) 1) = inR W H (rows.getD k []) := rfl
    rw [e]
    cases inR W H (rows.getD k []) with
    | false => exact ⟨k, by omega, by simp⟩
    | true => exact ⟨z, hz, by simp⟩
theorem contains_P (W H : Int) (cells bl : List (List AVal)) (cls : Int) (rows : List (List AVal)) (ho : okP rows) (hn : rows.length ≤ 1000000) : F_slices_ContainsFunc_Pos rows W H cells bl cls = some (!rows.all (inR W H)) := by
  obtain ⟨z, hz, h0⟩ := index_P W H cells bl cls rows ho hn FU rows.length 0 (by omega) (by unfold FU; omega)
  have h0' : G_slices_IndexFunc_Pos_0 rows W H cells bl cls rows.length FU 0 = some (!rows.all (inR W H), z) := h0
  simp only [F_slices_ContainsFunc_Pos, F_slices_IndexFunc_Pos, Int.ofNat_eq_natCast, h0', Option.bind_some]
  cases rows.all (inR W H) with
  | true => rfl
  | false =>
    have hz' : z ≥ 0 := hz
    simp only [Bool.not_false, cond_true, Option.bind_some, hz', decide_true]
/-- The first direction that leads from one cell to another. -/
def fd (W : Int) (i j : Nat) : Nat → Nat → Option Nat
  | 0, _ => none
  | r + 1, d => if (stp (px W i) (py W i) d) = (px W j, py W j) then some d else fd W i j r (d + 1)
theorem fd_some {W : Int} {i j e : Nat} : ∀ (r d : Nat), fd W i j r d = some e → d ≤ e ∧ e < d + r ∧ stp (px W i) (py W i) e = (px W j, py W j)
  | 0, d, h => by cases h
  | r + 1, d, h => by
    unfold fd at h
    split at h
    · rename_i hk
      simp only [Option.some.injEq] at h
      subst h
      exact ⟨by omega, by omega, hk⟩
    · obtain ⟨a, b, c⟩ := fd_some r (d + 1) h
      exact ⟨by omega, by omega, c⟩
theorem fd_none {W : Int} {i j : Nat} : ∀ (r d : Nat), fd W i j r d = none → ∀ e : Nat, d ≤ e → e < d + r → stp (px W i) (py W i) e ≠ (px W j, py W j)
  | 0, d, h, e, a, b => by omega
  | r + 1, d, h, e, a, b => by
    unfold fd at h
    split at h
    · cases h
    · rename_i hk
      by_cases he : e = d
      · subst he; exact hk
      · exact fd_none r (d + 1) h e (by omega) (by omega)
theorem direction_G (W : Int) (i j : Nat) : ∀ (r m d : Nat), d + r = 8 → r < m → G_astar_direction_0 (px W i) (py W i) (px W j) (py W j) m d = some (match fd W i j r d with | some e => (true, (e : Int)) | none => (false, 0))
  | 0, m, d, h1, h2 => by
    obtain ⟨m, rfl⟩ : ∃ q, m = q + 1 := ⟨m - 1, by omega⟩
    obtain rfl : d = 8 := by omega
    rfl
  | r + 1, m, d, h1, h2 => by
    obtain ⟨m, rfl⟩ : ∃ q, m = q + 1 := ⟨m - 1, by omega⟩
    have d1 : (d : Int) < 8 := by omega
    have w : wr ((d : Int) + 1) = ((d + 1 : Nat) : Int) := wr_suc d (by omega)
    have ih := direction_G W i j r m (d + 1) (by omega) (by omega)
    simp only [G_astar_direction_0, d1, decide_true, cond_true, step_g, Option.bind_some, w, ih, fd]
    by_cases hk : stp (px W i) (py W i) d = (px W j, py W j)
    · rw [hk]
      simp
    · rw [if_neg hk]
      have : ((stp (px W i) (py W i) d).1 == px W j && (stp (px W i) (py W i) d).2 == py W j) = false := by
        cases hb : ((stp (px W i) (py W i) d).1 == px W j && (stp (px W i) (py W i) d).2 == py W j) with
        | false => rfl
        | true =>
          rw [Bool.and_eq_true, beq_iff_eq, beq_iff_eq] at hb
          exact absurd (Prod.ext hb.1 hb.2) hk
      rw [this]
      rfl
/-- The step to another cell, and what it costs. -/
theorem dirStep (W H : Int) (cells bl : List (List AVal)) (hc : okCs cells) (hb : okB bl) (cls : Int) (hf : fmd W H cells.length = true) (i j : Nat) (hi : i < cells.length) (hj : j < cells.length) :
    ∃ d, F_astar_direction (px W i) (py W i) (px W j) (py W j) = some d ∧ stepN W H cells bl cls (px W i) (py W i) d = (match eg (nbG W H cells bl cls) i j with | some w => (w, true) | none => ((stepN W H cells bl cls (px W i) (py W i) d).1, false)) := by
  have h := direction_G W i j 8 FU 0 (by omega) (by unfold FU; omega)
  have h' : G_astar_direction_0 (px W i) (py W i) (px W j) (py W j) FU 0 = some (match fd W i j 8 0 with | some e => (true, (e : Int)) | none => (false, 0)) := h
  have hin := pos_ins hf hi
  cases hfd : fd W i j 8 0 with
  | none =>
    rw [hfd] at h'
    refine ⟨-1, by simp only [F_astar_direction, h', Option.bind_some, cond_false], ?_⟩
    cases he : eg (nbG W H cells bl cls) i j with
    | none =>
      simp only [stepN]
      rfl
    | some w =>
      exfalso
      obtain ⟨d, a, b⟩ := eg_some he
      obtain ⟨b1, b2, b3, b4⟩ := nbG_some b
      have hs := step_ins (W := W) (H := H) (cells := cells) (bl := bl) (cls := cls) (x := px W i) (y := py W i) (d := d) (by rw [b3])
      have p := pos_nm hs.2
      rw [← b4] at p
      exact fd_none 8 0 hfd d (by omega) (by omega) (Prod.ext p.1.symm p.2.symm)
  | some e =>
    rw [hfd] at h'
    obtain ⟨a, b, c⟩ := fd_some 8 0 hfd
    refine ⟨e, by simp only [F_astar_direction, h', Option.bind_some, cond_true], ?_⟩
    have hnb := nbG_of (W := W) (H := H) (cells := cells) (bl := bl) (cls := cls) (i := i) (d := e) hi (by omega)
    cases hs : (stepN W H cells bl cls (px W i) (py W i) e).2 with
    | true =>
      rw [hs, if_pos rfl, c] at hnb
      simp only at hnb
      rw [nm_pos hf] at hnb
      rw [eg_of (nbG_inj W H cells bl cls) (by omega) hnb]
      exact Prod.ext rfl hs
    | false =>
      cases he : eg (nbG W H cells bl cls) i j with
      | none => exact Prod.ext rfl hs
      | some w =>
        exfalso
        obtain ⟨d, x, y⟩ := eg_some he
        obtain ⟨y1, y2, y3, y4⟩ := nbG_some y
        have hs2 := step_ins (W := W) (H := H) (cells := cells) (bl := bl) (cls := cls) (x := px W i) (y := py W i) (d := d) (by rw [y3])
        have p := pos_nm hs2.2
        rw [← y4] at p
        have e2 : stp (px W i) (py W i) d = stp (px W i) (py W i) e := by rw [c]; exact Prod.ext p.1.symm p.2.symm
        have := stp_inj hin (by omega) (by omega) (by omega) (by omega) e2
        rw [← this, y3] at hs
        cases hs
theorem costA_G (W H : Int) (cells bl : List (List AVal)) (hc : okCs cells) (hb : okB bl) (cls : Int) (hf : fmd W H cells.length = true) (l : List Nat) (hl : ∀ i, i ∈ l → i < cells.length) (hn : l.length ≤ 100000) :
    ∀ (rest pre : List Nat) (i : Nat) (s : Int) (m : Nat), l = pre ++ i :: rest → rest.length < m → 0 ≤ s → s ≤ 19 * pre.length →
    G_astar_Cost_0 bl cls (encP W l) (encP W (l.drop 1)) ((l.drop 1).length : Nat) W H cells m s ((pre.length : Nat) : Int) = some (match wc (nbG W H cells bl cls) (i :: rest) with | some c => (false, s + c) | none => (true, 0))
  | [], pre, i, s, m, h1, h2, h3, h4 => by
    obtain ⟨m, rfl⟩ : ∃ q, m = q + 1 := ⟨m - 1, by omega⟩
    have hlen : (l.drop 1).length = pre.length := by rw [h1]; simp
    have : ¬ (((pre.length : Nat) : Int) < ((pre.length : Nat) : Int)) := by omega
    simp only [G_astar_Cost_0, hlen, this, decide_false, cond_false, wc, Int.add_zero]
  | j :: rest, pre, i, s, m, h1, h2, h3, h4 => by
    obtain ⟨m, rfl⟩ : ∃ q, m = q + 1 := ⟨m - 1, by omega⟩
    have hlen : l.length = pre.length + (rest.length + 2) := by rw [h1]; simp
    have hlen1 : (l.drop 1).length = pre.length + (rest.length + 1) := by rw [List.length_drop]; omega
    have d1 : ((pre.length : Nat) : Int) < (((l.drop 1).length : Nat) : Int) := by omega
    have d2 : (0 : Int) ≤ ((pre.length : Nat) : Int) := by omega
    have e1 : l.getD pre.length 0 = i := by rw [h1]; simp
    have e2 : (l.drop 1).getD pre.length 0 = j := by
      rw [List.getD_eq_getElem?_getD, List.getElem?_drop, h1, List.getElem?_append_right (by omega)]
      rw [show 1 + pre.length - pre.length = 1 by omega]
      rfl
    have g1 := encP_get (W := W) (l := l) (k := pre.length) (by omega)
    have g2 := encP_get (W := W) (l := l.drop 1) (k := pre.length) (by omega)
    rw [e1] at g1
    rw [e2] at g2
    have hi : i < cells.length := hl i (by rw [h1]; simp)
    have hj : j < cells.length := hl j (by rw [h1]; simp)
    have w1 : wr (((pre.length : Nat) : Int) + 1) = ((pre.length + 1 : Nat) : Int) := wr_suc _ (by omega)
    obtain ⟨d, t1, t2⟩ := dirStep W H cells bl hc hb cls hf i j hi hj
    simp only [G_astar_Cost_0, d1, d2, decide_true, cond_true, Int.toNat_natCast, g1, g2, Option.bind_some, chk_p, cI_p0, cI_p1, t1, Step_g W H cells bl hc hb, wc_cons, w1]
    cases he : eg (nbG W H cells bl cls) i j with
    | none =>
      rw [he] at t2
      rw [t2]
      rfl
    | some u =>
      rw [he] at t2
      obtain ⟨d, x, y⟩ := eg_some he
      have hp := (nbG_ok W H cells bl cls).pos _ _ _ _ y
      have ws : wr (s + u) = s + u := wr_in (by omega) (by omega)
      have ih := costA_G W H cells bl hc hb cls hf l hl hn rest (pre ++ [i]) j (s + u) m (by rw [h1, List.append_assoc]; rfl) (by simp only [List.length_cons] at h2; omega) (by omega) (by rw [List.length_append, List.length_singleton]; omega)
      rw [List.length_append, List.length_singleton] at ih
      simp only [t2, Bool.not_true, cond_false, ws, ih, Option.bind_some]
      cases wc (nbG W H cells bl cls) (j :: rest) with
      | none => rfl
      | some c =>
        simp only [Option.map_some, Option.some.injEq, Prod.mk.injEq, true_and]
        omega
theorem cokA (cls : Int) : (decide (1 ≤ cls) && decide (cls ≤ 3)) = cok cls := rfl
theorem Cost_g (W H : Int) (cells bl : List (List AVal)) (hc : okCs cells) (hb : okB bl) (cls : Int) (rows : List (List AVal)) (ho : okP rows) (hn : rows.length ≤ 100000) : F_astar_Cost W H cells bl cls rows = some (costN W H cells bl cls rows) := by
  simp only [F_astar_Cost, valid_a W H cells bl hc, cokA, Option.bind_some, costN, Int.ofNat_eq_natCast]
  cases hv : vmap W H cells with
  | false => rfl
  | true =>
    cases hk : cok cls with
    | false => rfl
    | true =>
      cases rows with
      | nil => rfl
      | cons r rows =>
        have hz : (((r :: rows).length : Int) == 0) = false := by simp only [List.length_cons, beq_eq_false_iff_ne]; omega
        simp only [Bool.and_self, Bool.not_true, cond_false, hz, contains_P W H cells bl cls (r :: rows) ho (by omega), Option.bind_some, List.isEmpty_cons, Bool.not_false, Bool.true_and]
        cases ha : (r :: rows).all (inR W H) with
        | false => rfl
        | true =>
          have hf := vmap_fmd hv
          obtain ⟨q1, q2⟩ := encP_dcP hf (r :: rows) ho ha
          have g := okP_get ho (show 0 < (r :: rows).length by simp)
          have g' : (r :: rows)[(0 : Int).toNat]? = some [i64 (cI ((r :: rows).getD 0 []) 0), i64 (cI ((r :: rows).getD 0 []) 1)] := g
          have ed : dcP W (r :: rows) = nm W (cI r 0) (cI r 1) :: dcP W rows := rfl
          have hl : (dcP W (r :: rows)).length = (r :: rows).length := by simp [dcP]
          have h1 := costA_G W H cells bl hc hb cls hf (dcP W (r :: rows)) q2 (by omega) (dcP W rows) [] (nm W (cI r 0) (cI r 1)) 0 FU ed (by simp only [ed, List.length_cons] at hl; simp only [List.length_cons] at hn; unfold FU; omega) (by omega) (by simp)
          have e5 : encP W ((dcP W (r :: rows)).drop 1) = (r :: rows).drop 1 := by
            have : encP W ((dcP W (r :: rows)).drop 1) = (encP W (dcP W (r :: rows))).drop 1 := by simp [encP, List.map_drop]
            rw [this, q1]
          have e6 : (((dcP W (r :: rows)).drop 1).length : Nat) = ((r :: rows).drop 1).length := by rw [List.length_drop, List.length_drop, hl]
          rw [q1, e5, e6] at h1
          have h1' : G_astar_Cost_0 bl cls (r :: rows) ((r :: rows).drop 1) (((r :: rows).drop 1).length : Nat) W H cells FU 0 0 = _ := h1
          have z1 : (1 : Int) ≤ ((r :: rows).length : Nat) := by simp only [List.length_cons]; omega
          have z2 : (((r :: rows).length : Nat) : Int) ≤ ((r :: rows).length : Nat) := by omega
          have z3 : (1 : Int).toNat = 1 := rfl
          simp only [Bool.not_true, cond_false, g', Option.bind_some, chk_p, cond_true, cI_p0, cI_p1, free_a W H cells bl hc hb, z1, z2, z3, decide_true, Bool.and_self, Int.toNat_natCast, List.take_length, roRows, h1']
          cases opn W H cells bl cls (cI ((r :: rows).getD 0 []) 0) (cI ((r :: rows).getD 0 []) 1) with
          | false => rfl
          | true =>
            simp only [Bool.not_true, cond_false, ed]
            cases wc (nbG W H cells bl cls) (nm W (cI r 0) (cI r 1) :: dcP W rows) with
            | none => rfl
            | some c => simp

/-! ### Reach -/
theorem none_n {W H : Int} {cells : List (List AVal)} (hf : fmd W H cells.length = true) : F_skirmishref14_None (wr (W * H)) = some (encC (List.replicate cells.length (-1))) := by
  obtain ⟨h1, h2⟩ := fmd_iff.1 hf
  have hs := fmd_small hf
  have e : wr (W * H) = ((cells.length : Nat) : Int) := by rw [← h2]; exact wr_in (by omega) (by omega)
  rw [e]
  exact none_r cells.length (by omega)
theorem reach_r (W H : Int) (cells bl : List (List AVal)) (hc : okCs cells) (hb : okB bl) (cls : Int) (hv : vmap W H cells = true) (hk : cok cls = true) (j : Nat) (hj : j < cells.length) :
    ∃ cs, F_skirmishref14_Reach W H cells bl cls (px W j) (py W j) = some (encC cs) ∧ RC W H cells bl cls j cs := by
  have hf := vmap_fmd hv
  have hi := pos_ins hf hj
  have hw := wr_mul hi
  rw [pos_idx hf] at hw
  have l1 : (0 : Int) ≤ j := by omega
  have l2 : (j : Int) < (cells.length : Nat) := by omega
  obtain ⟨cs', g1, g2, g3⟩ := spread_r W H cells bl hc hb cls hf (· = j) ((List.replicate cells.length (-1)).set j 0) (by simp) (start1 hj)
  cases hop : opn W H cells bl cls (px W j) (py W j) with
  | false =>
    refine ⟨List.replicate cells.length (-1), ?_, by simp, .inl ⟨hop, rfl⟩⟩
    simp only [F_skirmishref14_Reach, Valid_r W H cells hc, hv, class_r, hk, inside_r14, (ins_iff.1 hi).2, Option.bind_some, Bool.not_true, cond_false, none_n hf, free_r W H cells bl hc hb, hop, Bool.not_false, cond_true]
  | true =>
    refine ⟨cs', ?_, g2, .inr ⟨hop, g3⟩⟩
    simp only [F_skirmishref14_Reach, Valid_r W H cells hc, hv, class_r, hk, inside_r14, (ins_iff.1 hi).2, Option.bind_some, Bool.not_true, cond_false, none_n hf, free_r W H cells bl hc hb, hop, hw, l1, l2, encC_len, List.length_replicate, Int.ofNat_eq_natCast, decide_true, Bool.and_self, cond_true, Int.toNat_natCast, encC_set, g1]
/-- The costs from a cell. -/
noncomputable def D (W H : Int) (cells bl : List (List AVal)) (cls : Int) (j : Nat) : List Int := ((F_astar_ground__reach W H cells bl cls (px W j) (py W j)).getD []).map fun r => cI r 0
theorem dec_enc (cs : List Int) : (encC cs).map (fun r => cI r 0) = cs := by
  unfold encC
  rw [List.map_map]
  exact List.map_id cs
theorem D_a (W H : Int) (cells bl : List (List AVal)) (hc : okCs cells) (hb : okB bl) (cls : Int) (hf : fmd W H cells.length = true) (j : Nat) (hj : j < cells.length) :
    F_astar_ground__reach W H cells bl cls (px W j) (py W j) = some (encC (D W H cells bl cls j)) ∧ RC W H cells bl cls j (D W H cells bl cls j) := by
  obtain ⟨cs, h1, h2⟩ := reach_a W H cells bl hc hb cls hf j hj
  have e : D W H cells bl cls j = cs := by
    unfold D
    rw [h1]
    exact dec_enc cs
  rw [e]
  exact ⟨h1, h2⟩
theorem D_r (W H : Int) (cells bl : List (List AVal)) (hc : okCs cells) (hb : okB bl) (cls : Int) (hv : vmap W H cells = true) (hk : cok cls = true) (j : Nat) (hj : j < cells.length) :
    F_skirmishref14_Reach W H cells bl cls (px W j) (py W j) = some (encC (D W H cells bl cls j)) := by
  obtain ⟨cs, h1, h2⟩ := reach_r W H cells bl hc hb cls hv hk j hj
  rw [h1, h2.uniq (D_a W H cells bl hc hb cls (vmap_fmd hv) j hj).2]
theorem Reach_g (W H : Int) (cells bl : List (List AVal)) (hc : okCs cells) (hb : okB bl) (cls x y : Int) : F_astar_Reach W H cells bl cls x y = some (bif vmap W H cells && (cok cls && inn W H x y) then encC (D W H cells bl cls (nm W x y)) else []) := by
  simp only [F_astar_Reach, valid_a W H cells bl hc, cokA, inside_a, Option.bind_some]
  cases hv : vmap W H cells with
  | false => rfl
  | true =>
    cases hk : cok cls with
    | false => rfl
    | true =>
      cases hi : inn W H x y with
      | false => rfl
      | true =>
        have hf := vmap_fmd hv
        have hin : ins W H cells.length x y = true := ins_iff.2 ⟨hf, hi⟩
        obtain ⟨p1, p2⟩ := pos_nm hin
        have := (D_a W H cells bl hc hb cls hf (nm W x y) (nm_lt hin).1).1
        rw [p1, p2] at this
        simp only [Bool.and_self, Bool.not_true, cond_false, cond_true, this, Option.bind_some]
theorem Reach_r (W H : Int) (cells bl : List (List AVal)) (hc : okCs cells) (hb : okB bl) (cls x y : Int) : F_skirmishref14_Reach W H cells bl cls x y = some (bif vmap W H cells && (cok cls && inn W H x y) then encC (D W H cells bl cls (nm W x y)) else []) := by
  cases hv : vmap W H cells with
  | false => simp only [F_skirmishref14_Reach, Valid_r W H cells hc, hv, Option.bind_some, Bool.not_false, cond_true, Bool.false_and, cond_false]
  | true =>
    cases hk : cok cls with
    | false => simp only [F_skirmishref14_Reach, Valid_r W H cells hc, hv, class_r, hk, Option.bind_some, Bool.not_false, Bool.not_true, cond_true, Bool.false_and, Bool.and_false, cond_false]
    | true =>
      cases hi : inn W H x y with
      | false => simp only [F_skirmishref14_Reach, Valid_r W H cells hc, hv, class_r, hk, inside_r14, hi, Option.bind_some, Bool.not_false, Bool.not_true, cond_true, Bool.and_false, cond_false]
      | true =>
        have hf := vmap_fmd hv
        have hin : ins W H cells.length x y = true := ins_iff.2 ⟨hf, hi⟩
        obtain ⟨p1, p2⟩ := pos_nm hin
        have := D_r W H cells bl hc hb cls hv hk (nm W x y) (nm_lt hin).1
        rw [p1, p2] at this
        rw [this]
        rfl

/-! ### Path -/
theorem at_r (W H : Int) (cells : List (List AVal)) (cs : List Int) (hl : cs.length = cells.length) (hf : fmd W H cells.length = true) (i : Nat) (hi : i < cells.length) : F_astar_Path_1 (px W i) (py W i) (encC cs) W H cells = some (cg cs i) := by
  have hin := pos_ins hf hi
  have hx := (ins_idx hin).1
  have hp := pos_idx (i := i) hf
  have l1 : (0 : Int) ≤ i := by omega
  have l2 : (i : Int) < (cs.length : Nat) := by omega
  have g := encC_get (cs := cs) (k := i) (by omega)
  simp only [F_astar_Path_1, index_g, hx, hp, Option.bind_some, l1, l2, encC_len, Int.ofNat_eq_natCast, decide_true, Bool.and_self, cond_true, Int.toNat_natCast, g, chk_i, cI_i]
theorem at_s (W H : Int) (cells : List (List AVal)) (cs : List Int) (hl : cs.length = cells.length) {x y : Int} (hin : ins W H cells.length x y = true) : F_astar_Path_1 x y (encC cs) W H cells = some (cg cs (nm W x y)) := by
  have h := at_r W H cells cs hl (ins_iff.1 hin).1 (nm W x y) (nm_lt hin).1
  rw [(pos_nm hin).1, (pos_nm hin).2] at h
  exact h
theorem pathA_1 (W H : Int) (cells bl : List (List AVal)) (hc : okCs cells) (hb : okB bl) (cls : Int) (hf : fmd W H cells.length = true) (cs : List Int) (hl : cs.length = cells.length) (src : Nat → Prop) (hr : Right cells.length (nbG W H cells bl cls) src (cg cs)) (i : Nat) (hi : i < cells.length) (h0 : 0 ≤ cg cs i) (hbig : cg cs i ≤ 1000000) :
    ∀ (r m d : Nat), d + r = 8 → r < m → G_astar_Path_1 (encC cs) bl cls W H cells (px W i) (py W i) m d = some (match dN (nbG W H cells bl cls) cs i r d with | some e => ((stp (px W i) (py W i) e).1, (stp (px W i) (py W i) e).2) | none => (px W i, py W i))
  | 0, m, d, h1, h2 => by
    obtain ⟨m, rfl⟩ : ∃ q, m = q + 1 := ⟨m - 1, by omega⟩
    obtain rfl : d = 8 := by omega
    rfl
  | r + 1, m, d, h1, h2 => by
    obtain ⟨m, rfl⟩ : ∃ q, m = q + 1 := ⟨m - 1, by omega⟩
    have d1 : (d : Int) < 8 := by omega
    have w : wr ((d : Int) + 1) = ((d + 1 : Nat) : Int) := wr_suc d (by omega)
    have ih := pathA_1 W H cells bl hc hb cls hf cs hl src hr i hi h0 hbig r m (d + 1) (by omega) (by omega)
    have hnb := nbG_of (W := W) (H := H) (cells := cells) (bl := bl) (cls := cls) (i := i) (d := d) hi (by omega)
    simp only [G_astar_Path_1, d1, decide_true, cond_true, Step_g W H cells bl hc hb, Option.bind_some, w, ih]
    cases hs : (stepN W H cells bl cls (px W i) (py W i) d).2 with
    | false =>
      rw [hs, if_neg (by simp)] at hnb
      simp only [Bool.not_false, cond_true, dN, hnb]
    | true =>
      rw [hs, if_pos rfl] at hnb
      have hin := step_ins hs
      have he := hr.edge i d _ _ hi (by omega) hnb h0
      have hcost := step_cost hs
      have ge : cg cs (nm W (stp (px W i) (py W i) d).1 (stp (px W i) (py W i) d).2) ≥ 0 := he.1
      have ws : wr (cg cs (nm W (stp (px W i) (py W i) d).1 (stp (px W i) (py W i) d).2) + (stepN W H cells bl cls (px W i) (py W i) d).1) = cg cs (nm W (stp (px W i) (py W i) d).1 (stp (px W i) (py W i) d).2) + (stepN W H cells bl cls (px W i) (py W i) d).1 := wr_in (by omega) (by omega)
      simp only [Bool.not_true, cond_false, step_g, Option.bind_some, at_s W H cells cs hl hin.2, at_r W H cells cs hl hf i hi, ge, decide_true, cond_true, ws, dN, hnb]
      by_cases hk : cg cs (nm W (stp (px W i) (py W i) d).1 (stp (px W i) (py W i) d).2) + (stepN W H cells bl cls (px W i) (py W i) d).1 = cg cs i
      · simp only [hk, beq_self_eq_true, cond_true, if_true]
      · have : (cg cs (nm W (stp (px W i) (py W i) d).1 (stp (px W i) (py W i) d).2) + (stepN W H cells bl cls (px W i) (py W i) d).1 == cg cs i) = false := by simpa using hk
        simp only [this, cond_false, hk, if_false]
theorem pathA_0 (W H : Int) (cells bl : List (List AVal)) (hc : okCs cells) (hb : okB bl) (cls : Int) (hf : fmd W H cells.length = true) (cs : List Int) (hl : cs.length = cells.length) (b : Nat) (hbn : b < cells.length) (hr : Right cells.length (nbG W H cells bl cls) (· = b) (cg cs)) :
    ∀ (f i m : Nat) (l : List Nat), i < cells.length → 0 ≤ cg cs i → cg cs i < 10 * f → f ≤ 50000 → f < m → l.length + f ≤ 60000 →
    G_astar_Path_0 (encC cs) bl cls W H cells (px W b) (py W b) m (encP W l) (px W i) (py W i) = some (encP W (l ++ wk (nbG W H cells bl cls) cs f i))
  | 0, i, m, l, hi, h0, hf', h3, h4, h5 => by omega
  | f + 1, i, m, l, hi, h0, hf', h3, h4, h5 => by
    obtain ⟨m, rfl⟩ : ∃ q, m = q + 1 := ⟨m - 1, by omega⟩
    have ho := nbG_ok W H cells bl cls
    have hz := hr.zero_iff ho hi
    have hap := at_pos (j := b) (pos_ins hf hi) hbn
    rw [nm_pos hf] at hap
    unfold wk
    by_cases h : i = b
    · have e := hz.2 h
      rw [if_pos (by omega), List.append_nil]
      rw [decide_eq_true h] at hap
      simp only [G_astar_Path_0, hap, Bool.not_true, cond_false]
    · have hne : ¬ cg cs i ≤ 0 := fun q => h (hz.1 (by omega))
      rw [if_neg hne]
      obtain ⟨d, j, w, k1, k2, k3, k4, k5, k6, k7, k8⟩ := nxt_some ho (nbG_sym W H cells bl cls) hr hi (by omega)
      have h1 := pathA_1 W H cells bl hc hb cls hf cs hl _ hr i hi h0 (by omega) 8 FU 0 (by omega) (by unfold FU; omega)
      have h1' : G_astar_Path_1 (encC cs) bl cls W H cells (px W i) (py W i) FU 0 = _ := h1
      rw [k1] at h1'
      obtain ⟨y1, y2, y3, y4⟩ := nbG_some k3
      have hs2 := step_ins (W := W) (H := H) (cells := cells) (bl := bl) (cls := cls) (x := px W i) (y := py W i) (d := d) (by rw [y3])
      have p := pos_nm hs2.2
      rw [← y4] at p
      rw [k4]
      have ih := pathA_0 W H cells bl hc hb cls hf cs hl b hbn hr f j m (l ++ [j]) k5 k6 (by omega) (by omega) (by omega) (by rw [List.length_append, List.length_singleton]; omega)
      rw [List.append_assoc] at ih
      simp only [G_astar_Path_0, hap, h, decide_false, Bool.not_false, cond_true, h1', Option.bind_some, encP_len, room16 (show l.length + 1 ≤ 100000 by omega), ← p.1, ← p.2, encP_app, ih]
      rfl
/-- The path that goes down the costs. -/
def pathN (W H : Int) (cells bl : List (List AVal)) (cls : Int) (cs : List Int) (i : Nat) : List Nat := i :: wk (nbG W H cells bl cls) cs 50000 i
theorem wk_more {n : Nat} {nb : Nb} {src : Nat → Prop} {cs : List Int} (ho : NbOk n nb) (hs : NbSym nb) (hr : Right n nb src (cg cs)) : ∀ (f g i : Nat), i < n → 0 ≤ cg cs i → cg cs i < 10 * f → f ≤ g → wk nb cs g i = wk nb cs f i
  | 0, g, i, hi, h0, h1, h2 => by omega
  | f + 1, 0, i, hi, h0, h1, h2 => by omega
  | f + 1, g + 1, i, hi, h0, h1, h2 => by
    unfold wk
    by_cases hz : cg cs i ≤ 0
    · rw [if_pos hz, if_pos hz]
    · rw [if_neg hz, if_neg hz]
      obtain ⟨d, j, w, k1, k2, k3, k4, k5, k6, k7, k8⟩ := nxt_some ho hs hr hi (by omega)
      rw [k4]
      simp only
      rw [wk_more ho hs hr f g j k5 k6 (by omega) (by omega)]
end Go.Proofs.YtclfphmehilaeaaDoor.AI
