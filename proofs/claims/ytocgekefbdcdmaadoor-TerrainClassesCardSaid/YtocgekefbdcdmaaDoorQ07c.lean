/- What the functions of chapter 7 (terrain) answer: the document's steps; changes; equality. -/
import Derived.Test.YtocgekefbdcdmaaDoorQ07b
namespace Go.Proofs.YtocgekefbdcdmaaDoor.AI
open Go.RowKit
set_option linter.unusedVariables false
set_option linter.unusedSimpArgs false

theorem Step_r (W H : Int) (cells bl : List (List AVal)) (hc : okC cells) (hb : okB bl) (cls x y d : Int) : F_skirmishref07_Step W H cells bl cls x y d = some (stepN W H cells bl cls x y d) := by
  simp only [F_skirmishref07_Step, stepN, step_r, near_t W H cells bl hc hb, get_r W H cells hc, Option.bind_some]
  by_cases h1 : d < 0
  · simp [h1]
  by_cases h2 : d > 7
  · simp [h1, h2]
  simp only [h1, h2, or_self, decide_false, cond_false]
  generalize stp x y d = q
  cases hp : psb W H cells bl cls x y q.1 q.2 with
  | false => simp
  | true =>
    obtain ⟨i1, i2⟩ := psb_ins hp
    have hn : (cls == 3) = false → nearH (hgt W cells x y) (hgt W cells q.1 q.2) = true := fun h3 => by
      unfold psb at hp
      rw [h3] at hp
      simp only [Bool.and_eq_true, Bool.false_or] at hp
      exact hp.2.2
    simp only [gt_ins i1, gt_ins i2, rise_r _ _ _ _ _ _ (hgt_rng hc i1) (hgt_rng hc i2), Bool.not_true, cond_false, Option.bind_some, bne, crn, cst, Bool.true_and, wr19, wr15]
    by_cases he : hgt W cells x y = hgt W cells q.1 q.2
    · simp only [he, if_true]
      cases (Int.tmod d 2 == 1) <;> cases (cls == 3) <;> simp <;> cases psb W H cells bl cls x y x q.2 <;> cases psb W H cells bl cls x q.2 q.1 q.2 <;> cases psb W H cells bl cls x y q.1 y <;> cases psb W H cells bl cls q.1 y q.1 q.2 <;> simp
    · have he' : (hgt W cells x y == hgt W cells q.1 q.2) = false := by simpa using he
      simp only [he, he', if_false]
      cases h3 : (cls == 3) with
      | true => cases (Int.tmod d 2 == 1) <;> simp
      | false =>
        simp only [hn h3, if_true]
        cases (Int.tmod d 2 == 1) <;> simp <;> cases psb W H cells bl cls x y x q.2 <;> cases psb W H cells bl cls x q.2 q.1 q.2 <;> cases psb W H cells bl cls x y q.1 y <;> cases psb W H cells bl cls q.1 y q.1 q.2 <;> simp

/-! ### Changes -/
/-- Another cell at a place. -/
def wth (W : Int) (cells : List (List AVal)) (x y k h a : Int) : List (List AVal) := cells.set (y * W + x).toNat [i64 k, i64 h, i64 a]
theorem clone_c (l : List (List AVal)) (h : l.length ≤ 1000000000) : F_slices_Clone_Cell l = some l := by
  simp only [F_slices_Clone_Cell, F_slices_Clone_Cell_ne]
  cases l with
  | nil => rfl
  | cons r l =>
    have : roomOk (0 + (r :: l).length) 24 = true := by
      simp only [List.length_cons] at h
      simp [roomOk]
      omega
    simp only [List.isEmpty_cons, cond_false, this, cond_true]
theorem with_g (W H : Int) (cells : List (List AVal)) (x y k h a : Int) (hi : ins W H cells.length x y = true) : F_terrain_with W H cells x y k h a = some (wth W cells x y k h a, W, H) := by
  obtain ⟨e1, e2, e3, e4⟩ := ins_idx hi
  have hs := fmd_small (ins_iff.1 hi).1
  simp only [F_terrain_with, clone_c cells (by omega), index_g, Option.bind_some, e1, e2, Int.ofNat_eq_natCast, e4, decide_true, Bool.and_self, cond_true, wth]
theorem with_r (W H : Int) (cells : List (List AVal)) (x y k h a : Int) (hi : ins W H cells.length x y = true) : F_skirmishref07_with W H cells x y k h a = some (wth W cells x y k h a, W, H) := by
  obtain ⟨e1, e2, e3, e4⟩ := ins_idx hi
  have hs := fmd_small (ins_iff.1 hi).1
  have : roomOk (0 + cells.length) 24 = true := by simp [roomOk]; omega
  simp only [F_skirmishref07_with, this, index_r, Option.bind_some, e1, e2, Int.ofNat_eq_natCast, e4, decide_true, Bool.and_self, cond_true, wth]
def setN (W H : Int) (cells : List (List AVal)) (x y k h a : Int) : List (List AVal) × Int × Int × Int :=
  bif !(vmap W H cells && vcell k h a) then ([], 0, 0, 1) else bif ins W H cells.length x y then (wth W cells x y k h a, W, H, 0) else ([], 0, 0, 8)
theorem Set_g (W H : Int) (cells : List (List AVal)) (hc : okC cells) (x y k h a : Int) : F_terrain_Set W H cells x y k h a = some (setN W H cells x y k h a) := by
  simp only [F_terrain_Set, Valid_g W H cells hc, validCell_g, inside_g, Option.bind_some, setN]
  cases vmap W H cells with
  | false => rfl
  | true =>
    cases vcell k h a with
    | false => rfl
    | true =>
      cases hi : ins W H cells.length x y with
      | false => rfl
      | true => simp only [Bool.not_true, cond_false, with_g W H cells x y k h a hi, Option.bind_some, Bool.and_self, cond_true]
theorem Set_r (W H : Int) (cells : List (List AVal)) (hc : okC cells) (x y k h a : Int) : F_skirmishref07_Set W H cells x y k h a = some (setN W H cells x y k h a) := by
  simp only [F_skirmishref07_Set, Valid_r W H cells hc, validCell_r, inside_r, Option.bind_some, setN]
  cases vmap W H cells with
  | false => rfl
  | true =>
    cases vcell k h a with
    | false => rfl
    | true =>
      cases hi : ins W H cells.length x y with
      | false => rfl
      | true => simp only [Bool.not_true, cond_false, with_r W H cells x y k h a hi, Option.bind_some, Bool.and_self, cond_true]
theorem wth_len (W : Int) (cells : List (List AVal)) (x y k h a : Int) : (wth W cells x y k h a).length = cells.length := by simp [wth]
theorem wth_cel {W H : Int} {cells : List (List AVal)} {x y : Int} (k h a : Int) (hi : ins W H cells.length x y = true) : cel W (wth W cells x y k h a) x y = [i64 k, i64 h, i64 a] := by
  obtain ⟨e1, e2, e3, e4⟩ := ins_idx hi
  simp [cel, wth, List.getD, e3]
theorem idx_inj {W H : Int} {n : Nat} {x y u v : Int} (h1 : ins W H n x y = true) (h2 : ins W H n u v = true) (he : y * W + x = v * W + u) : x = u ∧ y = v := by
  have a1 := idx_att (ins_iff.1 h1).2
  have a2 := idx_att (ins_iff.1 h2).2
  rw [he, a2] at a1
  simp only [Prod.mk.injEq] at a1
  exact ⟨a1.1.symm, a1.2.symm⟩
theorem wth_other {W H : Int} {cells : List (List AVal)} {x y u v : Int} (k h a : Int) (h1 : ins W H cells.length x y = true) (h2 : ins W H cells.length u v = true) (hne : ¬ (x = u ∧ y = v)) : cel W (wth W cells x y k h a) u v = cel W cells u v := by
  obtain ⟨e1, e2, e3, e4⟩ := ins_idx h1
  obtain ⟨f1, f2, f3, f4⟩ := ins_idx h2
  have : (y * W + x).toNat ≠ (v * W + u).toNat := fun he => hne (idx_inj h1 h2 (by omega))
  simp only [cel, wth, List.getD_eq_getElem?_getD]
  rw [List.getElem?_set_ne this]
theorem wth_vmap {W H : Int} {cells : List (List AVal)} {x y k h a : Int} (hv : vmap W H cells = true) (hc : vcell k h a = true) : vmap W H (wth W cells x y k h a) = true := by
  unfold vmap at hv ⊢
  simp only [Bool.and_eq_true, List.all_eq_true] at hv ⊢
  rw [wth_len]
  refine ⟨hv.1, fun r hr => ?_⟩
  rcases List.mem_or_eq_of_mem_set hr with hr | rfl
  · exact hv.2 r hr
  · exact hc
theorem vcell_rng {k h a : Int} (hv : vcell k h a = true) : rng k ∧ rng h ∧ rng a := by
  unfold vcell at hv
  simp only [Bool.and_eq_true, decide_eq_true_eq] at hv
  unfold rng
  omega
theorem vmap_cell {W H : Int} {cells : List (List AVal)} {x y : Int} (hv : vmap W H cells = true) (hi : ins W H cells.length x y = true) : vrow (cel W cells x y) = true := by
  obtain ⟨e1, e2, e3, e4⟩ := ins_idx hi
  unfold vmap at hv
  simp only [Bool.and_eq_true, List.all_eq_true] at hv
  refine hv.2 _ ?_
  unfold cel
  rw [List.getD_eq_getElem?_getD, List.getElem?_eq_getElem e3]
  exact List.getElem_mem e3
/-- What is taken. -/
def takeN (W H : Int) (cells : List (List AVal)) (x y n : Int) : List (List AVal) × Int × Int × Int × Int :=
  bif !vmap W H cells || decide (n < 1) then ([], 0, 0, 0, 1) else
  bif !ins W H cells.length x y || (cI (cel W cells x y) 2 == 0) then ([], 0, 0, 0, 8) else
  (wth W cells x y (bif (cI (cel W cells x y) 2 - min n (cI (cel W cells x y) 2) == 0) then 1 else cI (cel W cells x y) 0) (cI (cel W cells x y) 1) (cI (cel W cells x y) 2 - min n (cI (cel W cells x y) 2)), W, H, min n (cI (cel W cells x y) 2), 0)
theorem Take_g (W H : Int) (cells : List (List AVal)) (hc : okC cells) (x y n : Int) : F_terrain_Take W H cells x y n = some (takeN W H cells x y n) := by
  simp only [F_terrain_Take, Valid_g W H cells hc, get_g W H cells hc, Option.bind_some, takeN, minI_eq]
  cases hv : vmap W H cells with
  | false => rfl
  | true =>
    by_cases h1 : n < 1
    · simp [h1]
    simp only [h1, decide_false, cond_false, Bool.not_true, Bool.or_self]
    cases hi : ins W H cells.length x y with
    | false => simp [gt, hi]
    | true =>
      have hr := vmap_cell hv hi
      unfold vrow vcell at hr
      simp only [Bool.and_eq_true, decide_eq_true_eq] at hr
      simp only [gt_ins hi, Bool.not_true, cond_false, Bool.false_or]
      cases ha : (cI (cel W cells x y) 2 == 0) with
      | true => rfl
      | false =>
        have w1 : wr (cI (cel W cells x y) 2 - min n (cI (cel W cells x y) 2)) = cI (cel W cells x y) 2 - min n (cI (cel W cells x y) 2) := wr_in (by omega) (by omega)
        simp only [cond_false, w1, with_g W H cells x y _ _ _ hi, Option.bind_some, hgt]
        cases (cI (cel W cells x y) 2 - min n (cI (cel W cells x y) 2) == 0) <;> rfl
theorem Take_r (W H : Int) (cells : List (List AVal)) (hc : okC cells) (x y n : Int) : F_skirmishref07_Take W H cells x y n = some (takeN W H cells x y n) := by
  simp only [F_skirmishref07_Take, Valid_r W H cells hc, get_r W H cells hc, Option.bind_some, takeN, minI_eq]
  cases hv : vmap W H cells with
  | false => rfl
  | true =>
    by_cases h1 : n < 1
    · simp [h1]
    simp only [h1, decide_false, cond_false, Bool.not_true, Bool.or_self]
    cases hi : ins W H cells.length x y with
    | false => simp [gt, hi]
    | true =>
      have hr := vmap_cell hv hi
      unfold vrow vcell at hr
      simp only [Bool.and_eq_true, decide_eq_true_eq] at hr
      simp only [gt_ins hi, Bool.not_true, cond_false, Bool.false_or]
      cases ha : (cI (cel W cells x y) 2 == 0) with
      | true => rfl
      | false =>
        have w1 : wr (cI (cel W cells x y) 2 - min n (cI (cel W cells x y) 2)) = cI (cel W cells x y) 2 - min n (cI (cel W cells x y) 2) := wr_in (by omega) (by omega)
        simp only [cond_false, w1, with_r W H cells x y _ _ _ hi, Option.bind_some, hgt]
        cases (cI (cel W cells x y) 2 - min n (cI (cel W cells x y) 2) == 0) <;> rfl

/-! ### Equality -/
def rowEq (r q : List AVal) : Bool := (cI r 0 == cI q 0) && ((cI r 1 == cI q 1) && (cI r 2 == cI q 2))
/-- Do the cells from k on differ? -/
def dif (a b : List (List AVal)) : Nat → Nat → Bool
  | 0, _ => false
  | n + 1, k => !rowEq (a.getD k []) (b.getD k []) || dif a b n (k + 1)
theorem equal_G (a b : List (List AVal)) (ha : okC a) (hb : okC b) (hl : a.length = b.length) (hn : a.length ≤ 1000000) : ∀ (m r k : Nat), k + r = a.length → r < m → G_slices_Equal_Cell_0 a b a.length m k = some (dif a b r k)
  | 0, r, k, h1, h2 => by omega
  | m + 1, 0, k, h1, h2 => by
    have : ¬ ((k : Int) < a.length) := by omega
    simp only [G_slices_Equal_Cell_0, this, decide_false, cond_false, dif]
  | m + 1, r + 1, k, h1, h2 => by
    have d1 : (k : Int) < a.length := by omega
    have d2 : (0 : Int) ≤ k := by omega
    obtain ⟨q1, q2, _⟩ := okC_get ha k (by omega)
    obtain ⟨q3, q4, _⟩ := okC_get hb k (by omega)
    have ih := equal_G a b ha hb hl hn m r (k + 1) (by omega) (by omega)
    simp only [G_slices_Equal_Cell_0, d1, d2, decide_true, cond_true, Int.toNat_natCast, q1, q2, q3, q4, Option.bind_some, wr_suc k (by omega), ih, dif, rowEq]
    cases ((cI (a.getD k []) 0 == cI (b.getD k []) 0) && ((cI (a.getD k []) 1 == cI (b.getD k []) 1) && (cI (a.getD k []) 2 == cI (b.getD k []) 2))) <;> simp
theorem same_G (a b : List (List AVal)) (ha : okC a) (hb : okC b) (hl : a.length = b.length) (hn : a.length ≤ 1000000) : ∀ (m r k : Nat), k + r = a.length → r < m → G_skirmishref07_Same_0 a b m k = some (dif a b r k)
  | 0, r, k, h1, h2 => by omega
  | m + 1, 0, k, h1, h2 => by
    have : ¬ ((k : Int) < a.length) := by omega
    simp only [G_skirmishref07_Same_0, Int.ofNat_eq_natCast, this, decide_false, cond_false, dif]
  | m + 1, r + 1, k, h1, h2 => by
    have d1 : (k : Int) < a.length := by omega
    have d2 : (0 : Int) ≤ k := by omega
    obtain ⟨q1, q2, _⟩ := okC_get ha k (by omega)
    obtain ⟨q3, q4, _⟩ := okC_get hb k (by omega)
    have ih := same_G a b ha hb hl hn m r (k + 1) (by omega) (by omega)
    simp only [G_skirmishref07_Same_0, Int.ofNat_eq_natCast, d1, d2, decide_true, cond_true, Int.toNat_natCast, q1, q2, q3, q4, Option.bind_some, wr_suc k (by omega), ih, dif, rowEq]
    cases ((cI (a.getD k []) 0 == cI (b.getD k []) 0) && ((cI (a.getD k []) 1 == cI (b.getD k []) 1) && (cI (a.getD k []) 2 == cI (b.getD k []) 2))) <;> simp
theorem dif_self (a : List (List AVal)) : ∀ (n k : Nat), dif a a n k = false
  | 0, k => rfl
  | n + 1, k => by simp [dif, rowEq, dif_self a n (k + 1)]
def sameN (W H : Int) (a : List (List AVal)) (W' H' : Int) (b : List (List AVal)) : Bool := (W == W') && ((H == H') && (((a.length : Int) == b.length) && !dif a b a.length 0))
theorem Same_g (W H : Int) (a : List (List AVal)) (W' H' : Int) (b : List (List AVal)) (ha : okC a) (hb : okC b) (hn : a.length ≤ 1000000) : F_terrain_Same W H a W' H' b = some (sameN W H a W' H' b) := by
  simp only [F_terrain_Same, F_slices_Equal_Cell, Int.ofNat_eq_natCast, bne, sameN]
  cases (W == W') with
  | false => rfl
  | true =>
    cases (H == H') with
    | false => rfl
    | true =>
      cases hl : ((a.length : Int) == b.length) with
      | false => rfl
      | true =>
        have hl' : a.length = b.length := by have := beq_iff_eq.1 hl; omega
        have h0 := equal_G a b ha hb hl' hn FU a.length 0 (by omega) (by unfold FU; omega)
        have h0' : G_slices_Equal_Cell_0 a b a.length FU 0 = some (dif a b a.length 0) := h0
        simp only [Bool.not_true, cond_false, cond_true, h0', Option.bind_some]
        cases dif a b a.length 0 <;> rfl
theorem Same_r (W H : Int) (a : List (List AVal)) (W' H' : Int) (b : List (List AVal)) (ha : okC a) (hb : okC b) (hn : a.length ≤ 1000000) : F_skirmishref07_Same W H a W' H' b = some (sameN W H a W' H' b) := by
  simp only [F_skirmishref07_Same, Int.ofNat_eq_natCast, bne, sameN]
  cases (W == W') with
  | false => rfl
  | true =>
    cases (H == H') with
    | false => rfl
    | true =>
      cases hl : ((a.length : Int) == b.length) with
      | false => rfl
      | true =>
        have hl' : a.length = b.length := by have := beq_iff_eq.1 hl; omega
        have h0 := same_G a b ha hb hl' hn FU a.length 0 (by omega) (by unfold FU; omega)
        have h0' : G_skirmishref07_Same_0 a b FU 0 = some (dif a b a.length 0) := h0
        simp only [Bool.not_true, cond_false, h0', Option.bind_some, Bool.true_and]
        cases dif a b a.length 0 <;> rfl
theorem sameN_self (W H : Int) (a : List (List AVal)) : sameN W H a W H a = true := by
  simp [sameN, dif_self]
end Go.Proofs.YtocgekefbdcdmaaDoor.AI
