/- The document's cost of a way. -/
import Derived.Test.YteiniiakpdijmaaDoorR14
import Derived.Test.YteiniiakpdijmaaDoorPw
namespace Go.Proofs.YteiniiakpdijmaaDoor.AI
open Go.RowKit
set_option linter.unusedVariables false
set_option linter.unusedSimpArgs false

/-! ### Lists of places -/
def okP (rows : List (List AVal)) : Prop := ∀ r, r ∈ rows → r = [i64 (cI r 0), i64 (cI r 1)] ∧ rng (cI r 0) ∧ rng (cI r 1)
theorem okP_of {P : Program} {T E : Nat} {rows : List (List AVal)} (hl : leafOf P 8 T = [.int .i64, .int .i64]) (h : Ty P (.sl T E) (.ro E rows)) : okP rows := by
  cases h with
  | sl _ _ _ h1 h0 h2 h3 =>
    intro r hr
    have k1 := h2 r hr
    have k2 := h3 r hr
    rw [hl] at k1 k2
    match r, k1 with
    | [a, b], _ =>
      obtain ⟨x, rfl, hx⟩ := ty_int (k2 0 _ _ rfl rfl)
      obtain ⟨y, rfl, hy⟩ := ty_int (k2 1 _ _ rfl rfl)
      exact ⟨rfl, wf_i64 hx, wf_i64 hy⟩
theorem okP_get {rows : List (List AVal)} (h : okP rows) {k : Nat} (hk : k < rows.length) : rows[k]? = some [i64 (cI (rows.getD k []) 0), i64 (cI (rows.getD k []) 1)] := by
  have e : rows.getD k [] = rows[k] := by simp [List.getD, hk]
  rw [List.getElem?_eq_getElem hk, e]
  exact congrArg some (h _ (List.getElem_mem hk)).1
def inR (W H : Int) (r : List AVal) : Bool := inn W H (cI r 0) (cI r 1)
theorem drop_allR {W H : Int} {rows : List (List AVal)} {k : Nat} (hk : k < rows.length) : (rows.drop k).all (inR W H) = (inR W H (rows.getD k []) && (rows.drop (k + 1)).all (inR W H)) := by
  rw [List.drop_eq_getElem_cons hk, List.all_cons, List.getD_eq_getElem?_getD, List.getElem?_eq_getElem hk]
  rfl
/-- The numbers of places. -/
def dcP (W : Int) (rows : List (List AVal)) : List Nat := rows.map fun r => nm W (cI r 0) (cI r 1)
theorem dcP_encP {W H : Int} {n : Nat} (hf : fmd W H n = true) (l : List Nat) : dcP W (encP W l) = l := by
  unfold dcP encP
  rw [List.map_map]
  have : ((fun r : List AVal => nm W (cI r 0) (cI r 1)) ∘ fun i => [i64 (px W i), i64 (py W i)]) = id := by
    funext i
    exact nm_pos hf
  rw [this, List.map_id]
theorem encP_dcP {W H : Int} {n : Nat} (hf : fmd W H n = true) : ∀ (rows : List (List AVal)), okP rows → rows.all (inR W H) = true → encP W (dcP W rows) = rows ∧ ∀ i, i ∈ dcP W rows → i < n
  | [], _, _ => ⟨rfl, fun i hi => by cases hi⟩
  | r :: rows, ho, ha => by
    rw [List.all_cons, Bool.and_eq_true] at ha
    obtain ⟨h1, h2⟩ := encP_dcP hf rows (fun q hq => ho q (List.mem_cons_of_mem _ hq)) ha.2
    have hi : ins W H n (cI r 0) (cI r 1) = true := ins_iff.2 ⟨hf, ha.1⟩
    have hr := (ho r List.mem_cons_self).1
    have e : encP W (dcP W (r :: rows)) = [i64 (px W (nm W (cI r 0) (cI r 1))), i64 (py W (nm W (cI r 0) (cI r 1)))] :: encP W (dcP W rows) := rfl
    obtain ⟨p1, p2⟩ := pos_nm hi
    refine ⟨by rw [e, h1, p1, p2, ← hr], fun i hi' => ?_⟩
    rcases List.mem_cons.1 (show i ∈ nm W (cI r 0) (cI r 1) :: dcP W rows from hi') with rfl | hm
    · exact (nm_lt hi).1
    · exact h2 i hm
theorem encP_inR {W H : Int} {n : Nat} (hf : fmd W H n = true) : ∀ (l : List Nat), (∀ i, i ∈ l → i < n) → (encP W l).all (inR W H) = true ∧ okP (encP W l)
  | [], _ => ⟨rfl, fun r hr => by cases hr⟩
  | i :: l, h => by
    obtain ⟨h1, h2⟩ := encP_inR hf l fun j hj => h j (List.mem_cons_of_mem _ hj)
    have hi := pos_ins hf (h i List.mem_cons_self)
    have e : encP W (i :: l) = [i64 (px W i), i64 (py W i)] :: encP W l := rfl
    rw [e]
    refine ⟨?_, ?_⟩
    · rw [List.all_cons, h1, Bool.and_true]
      exact (ins_iff.1 hi).2
    · intro r hr
      rcases List.mem_cons.1 hr with rfl | hr
      · have r1 := ins_rng hi
        refine ⟨rfl, ?_, ?_⟩
        · show rng (px W i)
          unfold rng
          omega
        · show rng (py W i)
          unfold rng
          omega
      · exact h2 r hr

/-! ### The document's Cost -/
theorem inside_r14 (W H : Int) (cells : List (List AVal)) (x y : Int) : F_skirmishref14_inside W H cells x y = some (inn W H x y) := by
  simp only [F_skirmishref14_inside, ge_iff_le, bif_and, inn]
theorem cost0_G (W H : Int) (cells rows : List (List AVal)) (ho : okP rows) (hn : rows.length ≤ 1000000) : ∀ (m r k : Nat), k + r = rows.length → r < m → G_skirmishref14_Cost_0 rows W H cells m k = some (!(rows.drop k).all (inR W H))
  | 0, r, k, h1, h2 => by omega
  | m + 1, 0, k, h1, h2 => by
    have : ¬ ((k : Int) < rows.length) := by omega
    simp only [G_skirmishref14_Cost_0, Int.ofNat_eq_natCast, this, decide_false, cond_false, List.drop_eq_nil_of_le (show rows.length ≤ k by omega), List.all_nil, Bool.not_true]
  | m + 1, r + 1, k, h1, h2 => by
    have d1 : (k : Int) < rows.length := by omega
    have d2 : (0 : Int) ≤ k := by omega
    have g := okP_get ho (show k < rows.length by omega)
    have ih := cost0_G W H cells rows ho hn m r (k + 1) (by omega) (by omega)
    simp only [G_skirmishref14_Cost_0, Int.ofNat_eq_natCast, d1, d2, decide_true, cond_true, Int.toNat_natCast, g, Option.bind_some, chk_p, cI_p0, cI_p1, inside_r14, wr_suc k (by omega), drop_allR (W := W) (H := H) (show k < rows.length by omega), ih]
    have e : inn W H (cI (rows.getD k []) 0) (cI (rows.getD k []) 1) = inR W H (rows.getD k []) := rfl
    rw [e]
    cases inR W H (rows.getD k []) <;> simp
theorem at_pos {W H : Int} {n j : Nat} {x y : Int} (hi : ins W H n x y = true) (hj : j < n) : ((x == px W j) && (y == py W j)) = decide (nm W x y = j) := by
  have hf := (ins_iff.1 hi).1
  obtain ⟨p1, p2⟩ := pos_nm hi
  by_cases h : nm W x y = j
  · rw [← h, p1, p2]
    simp
  · rw [decide_eq_false h]
    cases hb : ((x == px W j) && (y == py W j)) with
    | false => rfl
    | true =>
      rw [Bool.and_eq_true, beq_iff_eq, beq_iff_eq] at hb
      rw [hb.1, hb.2, nm_pos hf] at h
      exact absurd rfl h
theorem between_G (W H : Int) (cells bl : List (List AVal)) (hc : okCs cells) (hb : okB bl) (cls : Int) (hf : fmd W H cells.length = true) (i j : Nat) (hi : i < cells.length) (hj : j < cells.length) :
    ∀ (r m d : Nat), d + r = 8 → r < m → G_skirmishref14_between_0 bl cls W H cells (px W i) (py W i) (px W j) (py W j) m d = some (match egN (nbG W H cells bl cls) i j r d with | some w => (true, w) | none => (false, 0))
  | 0, m, d, h1, h2 => by
    obtain ⟨m, rfl⟩ : ∃ q, m = q + 1 := ⟨m - 1, by omega⟩
    obtain rfl : d = 8 := by omega
    rfl
  | r + 1, m, d, h1, h2 => by
    obtain ⟨m, rfl⟩ : ∃ q, m = q + 1 := ⟨m - 1, by omega⟩
    have d1 : (d : Int) < 8 := by omega
    have w : wr ((d : Int) + 1) = ((d + 1 : Nat) : Int) := wr_suc d (by omega)
    have ih := between_G W H cells bl hc hb cls hf i j hi hj r m (d + 1) (by omega) (by omega)
    have hnb := nbG_of (W := W) (H := H) (cells := cells) (bl := bl) (cls := cls) (i := i) (d := d) hi (by omega)
    simp only [G_skirmishref14_between_0, d1, decide_true, cond_true, Step_r W H cells bl hc hb, Option.bind_some, w, beside_r, ih]
    cases hs : (stepN W H cells bl cls (px W i) (py W i) d).2 with
    | false =>
      rw [hs, if_neg (by simp)] at hnb
      simp only [cond_false, egN, hnb]
    | true =>
      rw [hs, if_pos rfl] at hnb
      have hin := step_ins hs
      simp only [cond_true, egN, hnb, at_pos hin.2 hj]
      by_cases hk : nm W (stp (px W i) (py W i) d).1 (stp (px W i) (py W i) d).2 = j
      · simp only [hk, decide_true, cond_true, if_true]
      · simp only [hk, decide_false, cond_false, if_false]
theorem between_r (W H : Int) (cells bl : List (List AVal)) (hc : okCs cells) (hb : okB bl) (cls : Int) (hf : fmd W H cells.length = true) (i j : Nat) (hi : i < cells.length) (hj : j < cells.length) :
    F_skirmishref14_between W H cells bl cls (px W i) (py W i) (px W j) (py W j) = some (match eg (nbG W H cells bl cls) i j with | some w => (w, true) | none => (0, false)) := by
  have h := between_G W H cells bl hc hb cls hf i j hi hj 8 FU 0 (by omega) (by unfold FU; omega)
  have h' : G_skirmishref14_between_0 bl cls W H cells (px W i) (py W i) (px W j) (py W j) FU 0 = some (match eg (nbG W H cells bl cls) i j with | some w => (true, w) | none => (false, 0)) := h
  simp only [F_skirmishref14_between, h', Option.bind_some]
  cases eg (nbG W H cells bl cls) i j <;> rfl
theorem cost1_G (W H : Int) (cells bl : List (List AVal)) (hc : okCs cells) (hb : okB bl) (cls : Int) (hf : fmd W H cells.length = true) (l : List Nat) (hl : ∀ i, i ∈ l → i < cells.length) (hn : l.length ≤ 100000) :
    ∀ (rest pre : List Nat) (i : Nat) (s : Int) (m : Nat), l = pre ++ i :: rest → rest.length < m → 0 ≤ s → s ≤ 19 * pre.length →
    G_skirmishref14_Cost_1 bl cls (encP W l) W H cells m s ((pre.length + 1 : Nat) : Int) = some (match wc (nbG W H cells bl cls) (i :: rest) with | some c => (false, s + c) | none => (true, 0))
  | [], pre, i, s, m, h1, h2, h3, h4 => by
    obtain ⟨m, rfl⟩ : ∃ q, m = q + 1 := ⟨m - 1, by omega⟩
    have hlen : l.length = pre.length + 1 := by rw [h1]; simp
    have : ¬ (((pre.length + 1 : Nat) : Int) < ((pre.length + 1 : Nat) : Int)) := by omega
    simp only [G_skirmishref14_Cost_1, encP_len, hlen, Int.ofNat_eq_natCast, this, decide_false, cond_false, wc, Int.add_zero]
  | j :: rest, pre, i, s, m, h1, h2, h3, h4 => by
    obtain ⟨m, rfl⟩ : ∃ q, m = q + 1 := ⟨m - 1, by omega⟩
    have hlen : l.length = pre.length + (rest.length + 2) := by rw [h1]; simp
    have d1 : ((pre.length + 1 : Nat) : Int) < ((l.length : Nat) : Int) := by omega
    have d0 : (0 : Int) ≤ ((pre.length + 1 : Nat) : Int) := by omega
    have w0 : wr (((pre.length + 1 : Nat) : Int) - 1) = ((pre.length : Nat) : Int) := by rw [wr_in (by omega) (by omega)]; omega
    have d2 : (0 : Int) ≤ ((pre.length : Nat) : Int) := by omega
    have e1 : l.getD pre.length 0 = i := by rw [h1]; simp
    have e2 : l.getD (pre.length + 1) 0 = j := by rw [h1]; simp
    have g1 := encP_get (W := W) (l := l) (k := pre.length) (by omega)
    have g2 := encP_get (W := W) (l := l) (k := pre.length + 1) (by omega)
    rw [e1] at g1
    rw [e2] at g2
    have hi : i < cells.length := hl i (by rw [h1]; simp)
    have hj : j < cells.length := hl j (by rw [h1]; simp)
    have w1 : wr (((pre.length + 1 : Nat) : Int) + 1) = ((pre.length + 1 + 1 : Nat) : Int) := wr_suc _ (by omega)
    simp only [G_skirmishref14_Cost_1, encP_len, Int.ofNat_eq_natCast, d1, d0, w0, d2, decide_true, cond_true, Int.toNat_natCast, g1, g2, Option.bind_some, chk_p, cI_p0, cI_p1, between_r W H cells bl hc hb cls hf i j hi hj, wc_cons, w1]
    cases he : eg (nbG W H cells bl cls) i j with
    | none => rfl
    | some u =>
      obtain ⟨d, x, y⟩ := eg_some he
      have hp := (nbG_ok W H cells bl cls).pos _ _ _ _ y
      have ws : wr (s + u) = s + u := wr_in (by omega) (by omega)
      have ih := cost1_G W H cells bl hc hb cls hf l hl hn rest (pre ++ [i]) j (s + u) m (by rw [h1, List.append_assoc]; rfl) (by simp only [List.length_cons] at h2; omega) (by omega) (by rw [List.length_append, List.length_singleton]; omega)
      rw [List.length_append, List.length_singleton] at ih
      simp only [Bool.not_true, cond_false, ws, ih, Option.bind_some]
      cases wc (nbG W H cells bl cls) (j :: rest) with
      | none => rfl
      | some c =>
        simp only [Option.map_some, Option.some.injEq, Prod.mk.injEq, true_and]
        omega
/-- What a way costs. -/
def costN (W H : Int) (cells bl : List (List AVal)) (cls : Int) (rows : List (List AVal)) : Int × Int :=
  bif vmap W H cells && (cok cls && (!(rows.isEmpty) && rows.all (inR W H))) then
    (bif opn W H cells bl cls (cI (rows.getD 0 []) 0) (cI (rows.getD 0 []) 1) then (match wc (nbG W H cells bl cls) (dcP W rows) with | some c => (c, 0) | none => (0, 9)) else (0, 9))
  else (0, 1)
theorem Cost_r (W H : Int) (cells bl : List (List AVal)) (hc : okCs cells) (hb : okB bl) (cls : Int) (rows : List (List AVal)) (ho : okP rows) (hn : rows.length ≤ 100000) : F_skirmishref14_Cost W H cells bl cls rows = some (costN W H cells bl cls rows) := by
  simp only [F_skirmishref14_Cost, Valid_r W H cells hc, class_r, Option.bind_some, costN, Int.ofNat_eq_natCast]
  cases hv : vmap W H cells with
  | false => rfl
  | true =>
    cases hk : cok cls with
    | false => rfl
    | true =>
      cases rows with
      | nil => rfl
      | cons r rows =>
        have hz : (((r :: rows).length : Int) == 0) = false := by simp only [List.length_cons, beq_eq_false_iff_ne]; omega
        have h0 := cost0_G W H cells (r :: rows) ho (by omega) FU (r :: rows).length 0 (by omega) (by unfold FU; omega)
        have h0' : G_skirmishref14_Cost_0 (r :: rows) W H cells FU 0 = some (!((r :: rows).all (inR W H))) := h0
        simp only [Bool.not_true, cond_false, hz, h0', Option.bind_some, List.isEmpty_cons, Bool.not_false, Bool.true_and]
        cases ha : (r :: rows).all (inR W H) with
        | false => rfl
        | true =>
          have hf := vmap_fmd hv
          obtain ⟨q1, q2⟩ := encP_dcP hf (r :: rows) ho ha
          have g := okP_get ho (show 0 < (r :: rows).length by simp)
          have g' : (r :: rows)[(0 : Int).toNat]? = some [i64 (cI ((r :: rows).getD 0 []) 0), i64 (cI ((r :: rows).getD 0 []) 1)] := g
          have ed : dcP W (r :: rows) = nm W (cI r 0) (cI r 1) :: dcP W rows := rfl
          have hl : (dcP W (r :: rows)).length = (r :: rows).length := by simp [dcP]
          have h1 := cost1_G W H cells bl hc hb cls hf (dcP W (r :: rows)) q2 (by omega) (dcP W rows) [] (nm W (cI r 0) (cI r 1)) 0 FU ed (by simp only [ed, List.length_cons] at hl; simp only [List.length_cons] at hn; unfold FU; omega) (by omega) (by simp)
          rw [q1, ← ed] at h1
          have h1' : G_skirmishref14_Cost_1 bl cls (r :: rows) W H cells FU 0 1 = _ := h1
          simp only [Bool.not_true, cond_false, g', Option.bind_some, chk_p, cond_true, cI_p0, cI_p1, free_r W H cells bl hc hb, h1']
          cases opn W H cells bl cls (cI ((r :: rows).getD 0 []) 0) (cI ((r :: rows).getD 0 []) 1) with
          | false => rfl
          | true =>
            cases wc (nbG W H cells bl cls) (dcP W (r :: rows)) with
            | none => rfl
            | some c => simp

/-! ### Equal lists -/
theorem sameInts_G (cs : List Int) (hn : cs.length ≤ 100000) : ∀ (m r k : Nat), k + r = cs.length → r < m → G_skirmishref14_SameInts_0 (encC cs) (encC cs) m k = some false
  | 0, r, k, h1, h2 => by omega
  | m + 1, 0, k, h1, h2 => by
    have : ¬ ((k : Int) < cs.length) := by omega
    simp only [G_skirmishref14_SameInts_0, encC_len, Int.ofNat_eq_natCast, this, decide_false, cond_false]
  | m + 1, r + 1, k, h1, h2 => by
    have d1 : (k : Int) < cs.length := by omega
    have d2 : (0 : Int) ≤ k := by omega
    have g := encC_get (cs := cs) (k := k) (by omega)
    have ih := sameInts_G cs hn m r (k + 1) (by omega) (by omega)
    simp only [G_skirmishref14_SameInts_0, encC_len, Int.ofNat_eq_natCast, d1, d2, decide_true, cond_true, Int.toNat_natCast, g, Option.bind_some, chk_i, cI_i, wr_suc k (by omega), ih, bne_self_eq_false, cond_false]
theorem sameInts_r (cs : List Int) (hn : cs.length ≤ 100000) : F_skirmishref14_SameInts (encC cs) (encC cs) = some true := by
  have h := sameInts_G cs hn FU cs.length 0 (by omega) (by unfold FU; omega)
  have h' : G_skirmishref14_SameInts_0 (encC cs) (encC cs) FU 0 = some false := h
  simp only [F_skirmishref14_SameInts, bne_self_eq_false, cond_false, h', Option.bind_some]
theorem samePath_G (rows : List (List AVal)) (ho : okP rows) (hn : rows.length ≤ 100000) : ∀ (m r k : Nat), k + r = rows.length → r < m → G_skirmishref14_SamePath_0 rows rows m k = some false
  | 0, r, k, h1, h2 => by omega
  | m + 1, 0, k, h1, h2 => by
    have : ¬ ((k : Int) < rows.length) := by omega
    simp only [G_skirmishref14_SamePath_0, Int.ofNat_eq_natCast, this, decide_false, cond_false]
  | m + 1, r + 1, k, h1, h2 => by
    have d1 : (k : Int) < rows.length := by omega
    have d2 : (0 : Int) ≤ k := by omega
    have g := okP_get ho (show k < rows.length by omega)
    have ih := samePath_G rows ho hn m r (k + 1) (by omega) (by omega)
    simp only [G_skirmishref14_SamePath_0, Int.ofNat_eq_natCast, d1, d2, decide_true, cond_true, Int.toNat_natCast, g, Option.bind_some, chk_p, cI_p0, cI_p1, wr_suc k (by omega), ih, beq_self_eq_true, Bool.and_self, Bool.not_true, cond_false]
theorem samePath_r (rows : List (List AVal)) (ho : okP rows) (hn : rows.length ≤ 100000) : F_skirmishref14_SamePath rows rows = some true := by
  have h := samePath_G rows ho hn FU rows.length 0 (by omega) (by unfold FU; omega)
  have h' : G_skirmishref14_SamePath_0 rows rows FU 0 = some false := h
  simp only [F_skirmishref14_SamePath, bne_self_eq_false, cond_false, h', Option.bind_some]
end Go.Proofs.YteiniiakpdijmaaDoor.AI
