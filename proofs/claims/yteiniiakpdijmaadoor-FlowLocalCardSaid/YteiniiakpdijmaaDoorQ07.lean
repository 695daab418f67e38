/- What the functions of chapter 7 (terrain) answer. -/
import Derived.Test.YteiniiakpdijmaaDoorQ06
namespace Go.Proofs.YteiniiakpdijmaaDoor.AI
open Go.RowKit
set_option linter.unusedVariables false
set_option linter.unusedSimpArgs false

/-! ### Cells -/
def rng (n : Int) : Prop := -9223372036854775808 ≤ n ∧ n ≤ 9223372036854775807
/-- Cells that can be read. -/
def okCs (a : List (List AVal)) : Prop := ∀ r ∈ a, chk [.int .i64, .int .i64, .int .i64] r = true ∧ rng (cI r 0) ∧ rng (cI r 1) ∧ rng (cI r 2)
theorem okCs_get {a : List (List AVal)} (h : okCs a) (k : Nat) (hk : k < a.length) : a[k]? = some (a.getD k []) ∧ chk [.int .i64, .int .i64, .int .i64] (a.getD k []) = true ∧ rng (cI (a.getD k []) 0) ∧ rng (cI (a.getD k []) 1) ∧ rng (cI (a.getD k []) 2) := by
  have : a.getD k [] = a[k] := by simp [List.getD, hk]
  rw [this]
  exact ⟨List.getElem?_eq_getElem hk, h _ (List.getElem_mem hk)⟩
theorem okCs_of {P : Program} {T E : Nat} {rows : List (List AVal)} (hl : leafOf P 8 T = [.int .i64, .int .i64, .int .i64]) (h : Ty P (.sl T E) (.ro E rows)) : okCs rows := by
  cases h with
  | sl _ _ _ h1 h0 h2 h3 =>
    intro r hr
    have k1 := h2 r hr
    have k2 := h3 r hr
    rw [hl] at k1 k2
    match r, k1 with
    | [a, b, c], _ =>
      obtain ⟨x, rfl, hx⟩ := ty_int (k2 0 _ _ rfl rfl)
      obtain ⟨y, rfl, hy⟩ := ty_int (k2 1 _ _ rfl rfl)
      obtain ⟨z, rfl, hz⟩ := ty_int (k2 2 _ _ rfl rfl)
      exact ⟨rfl, wf_i64 hx, wf_i64 hy, wf_i64 hz⟩
theorem okCs_set {a : List (List AVal)} (h : okCs a) (k : Nat) {x y z : Int} (hx : rng x) (hy : rng y) (hz : rng z) : okCs (a.set k [i64 x, i64 y, i64 z]) := by
  intro r hr
  rcases List.mem_or_eq_of_mem_set hr with hr | rfl
  · exact h r hr
  · exact ⟨rfl, hx, hy, hz⟩
/-- Bools that can be read. -/
def okB (a : List (List AVal)) : Prop := ∀ r ∈ a, chk [.bool] r = true
theorem okB_get {a : List (List AVal)} (h : okB a) (k : Nat) (hk : k < a.length) : a[k]? = some (a.getD k []) ∧ chk [.bool] (a.getD k []) = true := by
  have : a.getD k [] = a[k] := by simp [List.getD, hk]
  rw [this]
  exact ⟨List.getElem?_eq_getElem hk, h _ (List.getElem_mem hk)⟩
theorem okB_of {P : Program} {T E : Nat} {rows : List (List AVal)} (hl : leafOf P 8 T = [.bool]) (h : Ty P (.sl T E) (.ro E rows)) : okB rows := by
  cases h with
  | sl _ _ _ h1 h0 h2 h3 =>
    intro r hr
    have k1 := h2 r hr
    have k2 := h3 r hr
    rw [hl] at k1 k2
    match r, k1 with
    | [a], _ =>
      obtain ⟨x, rfl⟩ := ty_bool (k2 0 _ _ rfl rfl)
      rfl

/-! ### Formed, inside, Get -/
def fmd (W H : Int) (n : Nat) : Bool := vld W H && ((n : Int) == W * H)
def ins (W H : Int) (n : Nat) (x y : Int) : Bool := fmd W H n && inn W H x y
theorem fmd_iff {W H : Int} {n : Nat} : fmd W H n = true ↔ (1 ≤ W ∧ W ≤ 32 ∧ 1 ≤ H ∧ H ≤ 32) ∧ (n : Int) = W * H := by
  unfold fmd
  rw [Bool.and_eq_true, vld_iff, beq_iff_eq]
theorem ins_iff {W H : Int} {n : Nat} {x y : Int} : ins W H n x y = true ↔ fmd W H n = true ∧ inn W H x y = true := by
  unfold ins
  rw [Bool.and_eq_true]
theorem size_in {W H : Int} (h : vld W H = true) : 0 ≤ W * H ∧ W * H ≤ 1024 := by
  rw [vld_iff] at h
  have := mul_bound (a := W) (b := H) (A := 32) (B := 32) (by omega) (by omega) (by omega) (by omega)
  have h0 : 0 ≤ W * H := Int.mul_nonneg (by omega) (by omega)
  omega
theorem formed_eq (W H : Int) (n : Nat) : (bif vld W H then some ((n : Int) == wr (W * H)) else some false) = some (fmd W H n) := by
  unfold fmd
  cases h : vld W H with
  | true =>
    have := size_in h
    rw [wr_in (by omega) (by omega)]
    simp
  | false => simp
theorem formed_g (W H : Int) (cells : List (List AVal)) : F_terrain_formed W H cells = some (fmd W H cells.length) := by
  simp only [F_terrain_formed, valid_g, Option.bind_some, Int.ofNat_eq_natCast, formed_eq]
theorem formed_r (W H : Int) (cells : List (List AVal)) : F_skirmishref07_Formed W H cells = some (fmd W H cells.length) := by
  simp only [F_skirmishref07_Formed, valid_r, Option.bind_some, Int.ofNat_eq_natCast, formed_eq]
theorem inside_g (W H : Int) (cells : List (List AVal)) (x y : Int) : F_terrain_inside W H cells x y = some (ins W H cells.length x y) := by
  simp only [F_terrain_inside, formed_g, in_g, Option.bind_some, ins]
  cases fmd W H cells.length <;> rfl
theorem inside_r (W H : Int) (cells : List (List AVal)) (x y : Int) : F_skirmishref07_Inside W H cells x y = some (ins W H cells.length x y) := by
  simp only [F_skirmishref07_Inside, formed_r, in_r, Option.bind_some, ins]
  cases fmd W H cells.length <;> rfl
/-- The row of a cell. -/
def cel (W : Int) (cells : List (List AVal)) (x y : Int) : List AVal := cells.getD (y * W + x).toNat []
theorem ins_idx {W H : Int} {n : Nat} {x y : Int} (h : ins W H n x y = true) : idx W x y = y * W + x ∧ 0 ≤ y * W + x ∧ (y * W + x).toNat < n ∧ y * W + x < n := by
  obtain ⟨h1, h2⟩ := ins_iff.1 h
  obtain ⟨h3, h4⟩ := fmd_iff.1 h1
  have h5 := idx_lt h2
  exact ⟨idx_id (by omega) (by omega) h2, h5.1, by omega, by omega⟩
def gt (W H : Int) (cells : List (List AVal)) (x y : Int) : Int × Int × Int × Bool :=
  bif ins W H cells.length x y then (cI (cel W cells x y) 0, cI (cel W cells x y) 1, cI (cel W cells x y) 2, true) else (0, 0, 0, false)
theorem get_g (W H : Int) (cells : List (List AVal)) (hc : okCs cells) (x y : Int) : F_terrain_Get W H cells x y = some (gt W H cells x y) := by
  simp only [F_terrain_Get, inside_g, index_g, Option.bind_some, gt]
  cases h : ins W H cells.length x y with
  | false => rfl
  | true =>
    obtain ⟨e1, e2, e3, e4⟩ := ins_idx h
    obtain ⟨q1, q2, _⟩ := okCs_get hc _ e3
    simp only [Bool.not_true, cond_false, cond_true, e1, e2, decide_true, q1, Option.bind_some, q2, cel]
theorem get_r (W H : Int) (cells : List (List AVal)) (hc : okCs cells) (x y : Int) : F_skirmishref07_Get W H cells x y = some (gt W H cells x y) := by
  simp only [F_skirmishref07_Get, inside_r, index_r, Option.bind_some, gt]
  cases h : ins W H cells.length x y with
  | false => rfl
  | true =>
    obtain ⟨e1, e2, e3, e4⟩ := ins_idx h
    obtain ⟨q1, q2, _⟩ := okCs_get hc _ e3
    simp only [Bool.not_true, cond_false, cond_true, e1, e2, decide_true, q1, Option.bind_some, q2, cel]

/-! ### Valid -/
def vcell (k h a : Int) : Bool := decide (1 ≤ k ∧ k ≤ 5 ∧ 0 ≤ h ∧ h ≤ 3 ∧ 0 ≤ a ∧ a ≤ 1000000) && (decide (a > 0) == (decide (k = 4) || decide (k = 5)))
theorem validCell_eq (k h a : Int) : (bif (decide (k < (1 : Int))) then some false else bif (decide (k > (5 : Int))) then some false else bif (decide (h < (0 : Int))) then some false else bif (decide (h > (3 : Int))) then some false else bif (decide (a < (0 : Int))) then some false else bif (decide (a > (1000000 : Int))) then some false else
    bif (k == (4 : Int)) then some ((decide (a > (0 : Int))) == true) else some ((decide (a > (0 : Int))) == (k == (5 : Int)))) = some (vcell k h a) := by
  unfold vcell
  by_cases h1 : k < 1
  · simp [h1]; omega
  by_cases h2 : k > 5
  · simp [h1, h2]; omega
  by_cases h3 : h < 0
  · simp [h1, h2, h3]; omega
  by_cases h4 : h > 3
  · simp [h1, h2, h3, h4]; omega
  by_cases h5 : a < 0
  · simp [h1, h2, h3, h4, h5]; omega
  by_cases h6 : a > 1000000
  · simp [h1, h2, h3, h4, h5, h6]; omega
  have hh : 1 ≤ k ∧ k ≤ 5 ∧ 0 ≤ h ∧ h ≤ 3 ∧ 0 ≤ a ∧ a ≤ 1000000 := by omega
  simp only [h1, h2, h3, h4, h5, h6, decide_false, cond_false, hh, and_self, decide_true, Bool.true_and]
  by_cases h7 : k = 4
  · subst h7; rfl
  · have e7 : (k == 4) = false := by simpa using h7
    simp only [e7, cond_false, h7, decide_false, Bool.false_or]
    congr 1
theorem validCell_g (k h a : Int) : F_terrain_validCell k h a = some (vcell k h a) := by
  simp only [F_terrain_validCell, validCell_eq]
theorem validCell_r (k h a : Int) : F_skirmishref07_ValidCell k h a = some (vcell k h a) := by
  simp only [F_skirmishref07_ValidCell, validCell_eq]
def vrow (r : List AVal) : Bool := vcell (cI r 0) (cI r 1) (cI r 2)
def vmap (W H : Int) (cells : List (List AVal)) : Bool := fmd W H cells.length && cells.all vrow
theorem wr_suc (k : Nat) (h : k ≤ 1000000000) : wr ((k : Int) + 1) = ((k + 1 : Nat) : Int) := by rw [wr_in (by omega) (by omega)]; simp
theorem drop_all {cells : List (List AVal)} {k : Nat} (hk : k < cells.length) : (cells.drop k).all vrow = (vrow (cells.getD k []) && (cells.drop (k + 1)).all vrow) := by
  rw [List.drop_eq_getElem_cons hk, List.all_cons, List.getD_eq_getElem?_getD, List.getElem?_eq_getElem hk]
  rfl
theorem index_G (cells : List (List AVal)) (hc : okCs cells) (hn : cells.length ≤ 1000000) : ∀ (m r k : Nat), k + r = cells.length → r < m → ∃ z : Int, 0 ≤ z ∧ G_slices_IndexFunc_Cell_0 cells cells.length m k = some (!(cells.drop k).all vrow, z)
  | 0, r, k, h1, h2 => by omega
  | m + 1, 0, k, h1, h2 => by
    have : ¬ ((k : Int) < cells.length) := by omega
    refine ⟨0, by omega, ?_⟩
    simp only [G_slices_IndexFunc_Cell_0, this, decide_false, cond_false, List.drop_eq_nil_of_le (show cells.length ≤ k by omega), List.all_nil, Bool.not_true]
  | m + 1, r + 1, k, h1, h2 => by
    have d1 : (k : Int) < cells.length := by omega
    have d2 : (0 : Int) ≤ k := by omega
    obtain ⟨q1, q2, _⟩ := okCs_get hc k (by omega)
    simp only [G_slices_IndexFunc_Cell_0, F_terrain_Valid_1, d1, d2, decide_true, cond_true, Int.toNat_natCast, q1, Option.bind_some, q2, validCell_g, wr_suc k (by omega), drop_all (show k < cells.length by omega)]
    have e : vcell (cI (cells.getD k []) 0) (cI (cells.getD k []) 1) (cI (cells.getD k []) 2) = vrow (cells.getD k []) := rfl
    rw [e]
    cases vrow (cells.getD k []) with
    | false => exact ⟨k, by omega, by simp⟩
    | true =>
      obtain ⟨z, hz, ih⟩ := index_G cells hc hn m r (k + 1) (by omega) (by omega)
      exact ⟨z, hz, by simpa using ih⟩
theorem valid_G (cells : List (List AVal)) (hc : okCs cells) (hn : cells.length ≤ 1000000) : ∀ (m r k : Nat), k + r = cells.length → r < m → G_skirmishref07_Valid_0 cells m k = some (!(cells.drop k).all vrow)
  | 0, r, k, h1, h2 => by omega
  | m + 1, 0, k, h1, h2 => by
    have : ¬ ((k : Int) < cells.length) := by omega
    simp only [G_skirmishref07_Valid_0, Int.ofNat_eq_natCast, this, decide_false, cond_false, List.drop_eq_nil_of_le (show cells.length ≤ k by omega), List.all_nil, Bool.not_true]
  | m + 1, r + 1, k, h1, h2 => by
    have d1 : (k : Int) < cells.length := by omega
    have d2 : (0 : Int) ≤ k := by omega
    obtain ⟨q1, q2, _⟩ := okCs_get hc k (by omega)
    have ih := valid_G cells hc hn m r (k + 1) (by omega) (by omega)
    simp only [G_skirmishref07_Valid_0, Int.ofNat_eq_natCast, d1, d2, decide_true, cond_true, Int.toNat_natCast, q1, Option.bind_some, q2, validCell_r, wr_suc k (by omega), drop_all (show k < cells.length by omega), ih]
    have e : vcell (cI (cells.getD k []) 0) (cI (cells.getD k []) 1) (cI (cells.getD k []) 2) = vrow (cells.getD k []) := rfl
    rw [e]
    cases vrow (cells.getD k []) <;> simp
theorem fmd_small {W H : Int} {n : Nat} (h : fmd W H n = true) : n ≤ 1024 := by
  obtain ⟨h1, h2⟩ := fmd_iff.1 h
  have := size_in (vld_iff.2 h1)
  omega
theorem Valid_g (W H : Int) (cells : List (List AVal)) (hc : okCs cells) : F_terrain_Valid W H cells = some (vmap W H cells) := by
  simp only [F_terrain_Valid, formed_g, Option.bind_some, vmap]
  cases h : fmd W H cells.length with
  | false => rfl
  | true =>
    have hn := fmd_small h
    obtain ⟨z, hz, h0⟩ := index_G cells hc (by omega) FU cells.length 0 (by omega) (by unfold FU; omega)
    have h0' : G_slices_IndexFunc_Cell_0 cells cells.length FU 0 = some (!cells.all vrow, z) := h0
    simp only [cond_true, F_slices_ContainsFunc_Cell, F_slices_IndexFunc_Cell, Int.ofNat_eq_natCast, h0', Option.bind_some, Bool.true_and]
    cases cells.all vrow with
    | true => rfl
    | false =>
      have hz' : z ≥ 0 := hz
      simp only [Bool.not_false, cond_true, Option.bind_some, hz', decide_true, Bool.not_true]
theorem Valid_r (W H : Int) (cells : List (List AVal)) (hc : okCs cells) : F_skirmishref07_Valid W H cells = some (vmap W H cells) := by
  simp only [F_skirmishref07_Valid, formed_r, Option.bind_some, vmap]
  cases h : fmd W H cells.length with
  | false => rfl
  | true =>
    have hn := fmd_small h
    have h0 := valid_G cells hc (by omega) FU cells.length 0 (by omega) (by unfold FU; omega)
    have h0' : G_skirmishref07_Valid_0 cells FU 0 = some (!cells.all vrow) := h0
    simp only [Bool.not_true, cond_false, h0', Option.bind_some, Bool.true_and]
    cases cells.all vrow <;> rfl

/-! ### Passable, Opaque -/
/-- What a class passes. -/
def pk (cls k : Int) : Bool := cls == 3 || (cls == 1 && (k == 1 || k == 5)) || (cls == 2 && (k == 1 || k == 5 || k == 2))
def pas (W H : Int) (cells : List (List AVal)) (cls x y : Int) : Bool := (gt W H cells x y).2.2.2 && pk cls (gt W H cells x y).1
theorem passable_g (W H : Int) (cells : List (List AVal)) (hc : okCs cells) (cls x y : Int) : F_terrain_Passable W H cells cls x y = some (pas W H cells cls x y) := by
  simp only [F_terrain_Passable, get_g W H cells hc, Option.bind_some, pas]
  generalize gt W H cells x y = t
  obtain ⟨k, h, a, b⟩ := t
  cases b with
  | false => rfl
  | true =>
    simp only [Bool.not_true, cond_false, Bool.true_and]
    by_cases h1 : cls < 1
    · have e1 : (cls == 3) = false := by simp; omega
      have e2 : (cls == 1) = false := by simp; omega
      have e3 : (cls == 2) = false := by simp; omega
      simp [h1, pk, e1, e2, e3]
    by_cases h2 : cls > 3
    · have e1 : (cls == 3) = false := by simp; omega
      have e2 : (cls == 1) = false := by simp; omega
      have e3 : (cls == 2) = false := by simp; omega
      simp [h1, h2, pk, e1, e2, e3]
    have h3 : cls = 1 ∨ cls = 2 ∨ cls = 3 := by omega
    by_cases h4 : 0 ≤ k ∧ k < 6
    · have h5 : k = 0 ∨ k = 1 ∨ k = 2 ∨ k = 3 ∨ k = 4 ∨ k = 5 := by omega
      rcases h3 with rfl | rfl | rfl <;> rcases h5 with rfl | rfl | rfl | rfl | rfl | rfl <;> rfl
    · have e1 : (k == 1) = false := by simp; omega
      have e2 : (k == 2) = false := by simp; omega
      have e5 : (k == 5) = false := by simp; omega
      rcases h3 with rfl | rfl | rfl
      · by_cases h6 : k ≥ 0
        · have h7 : ¬ k < 6 := by omega
          simp [pk, h6, h7, e1, e2, e5]
        · simp [pk, h6, e1, e2, e5]
      · by_cases h6 : k ≥ 0
        · have h7 : ¬ k < 6 := by omega
          simp [pk, h6, h7, e1, e2, e5]
        · simp [pk, h6, e1, e2, e5]
      · rfl
theorem passable_r (W H : Int) (cells : List (List AVal)) (hc : okCs cells) (cls x y : Int) : F_skirmishref07_Passable W H cells cls x y = some (pas W H cells cls x y) := by
  simp only [F_skirmishref07_Passable, get_r W H cells hc, Option.bind_some, pas, pk]
  generalize gt W H cells x y = t
  obtain ⟨k, h, a, b⟩ := t
  simp only
  by_cases h1 : cls = 1
  · subst h1
    cases b <;> cases hk : (k == 1) <;> simp
  by_cases h2 : cls = 2
  · subst h2
    cases b <;> cases hk : (k == 1) <;> cases hk5 : (k == 5) <;> simp
  by_cases h3 : cls = 3
  · subst h3
    cases b <;> simp
  have e1 : (cls == 1) = false := by simpa using h1
  have e2 : (cls == 2) = false := by simpa using h2
  have e3 : (cls == 3) = false := by simpa using h3
  simp [e1, e2, e3]
def opq (W H : Int) (cells : List (List AVal)) (x y : Int) : Bool := !(gt W H cells x y).2.2.2 || (gt W H cells x y).1 == 3 || (gt W H cells x y).1 == 4
end Go.Proofs.YteiniiakpdijmaaDoor.AI
