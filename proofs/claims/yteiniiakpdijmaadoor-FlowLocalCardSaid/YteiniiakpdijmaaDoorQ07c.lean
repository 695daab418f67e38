/- What the functions of chapter 7 (terrain) answer: the document's steps; changes; equality. -/
import Derived.Test.YteiniiakpdijmaaDoorQ07b
namespace Go.Proofs.YteiniiakpdijmaaDoor.AI
open Go.RowKit
set_option linter.unusedVariables false
set_option linter.unusedSimpArgs false

theorem Step_r (W H : Int) (cells bl : List (List AVal)) (hc : okCs cells) (hb : okB bl) (cls x y d : Int) : F_skirmishref07_Step W H cells bl cls x y d = some (stepN W H cells bl cls x y d) := by
  simp only [F_skirmishref07_Step, stepN, step_r, near_t W H cells bl hc hb, get_r W H cells hc, Option.bind_some]
  by_cases h1 : d < 0
  · simp [h1]
  by_cases h2 : d > 7
  · simp [h1, h2]
  simp only [h1, h2, or_self, decide_false, cond_false]
  generalize stp x y d = q
  cases hp : psb W H cells bl cls x y q.1 q.2 with
  | false => simp
  | true =>
    obtain ⟨i1, i2⟩ := psb_ins hp
    have hn : (cls == 3) = false → nearH (hgt W cells x y) (hgt W cells q.1 q.2) = true := fun h3 => by
      unfold psb at hp
      rw [h3] at hp
      simp only [Bool.and_eq_true, Bool.false_or] at hp
      exact hp.2.2
    simp only [gt_ins i1, gt_ins i2, rise_r _ _ _ _ _ _ (hgt_rng hc i1) (hgt_rng hc i2), Bool.not_true, cond_false, Option.bind_some, bne, crn, cst, Bool.true_and, wr19, wr15]
    by_cases he : hgt W cells x y = hgt W cells q.1 q.2
    · simp only [he, if_true]
      cases (Int.tmod d 2 == 1) <;> cases (cls == 3) <;> simp <;> cases psb W H cells bl cls x y x q.2 <;> cases psb W H cells bl cls x q.2 q.1 q.2 <;> cases psb W H cells bl cls x y q.1 y <;> cases psb W H cells bl cls q.1 y q.1 q.2 <;> simp
    · have he' : (hgt W cells x y == hgt W cells q.1 q.2) = false := by simpa using he
      simp only [he, he', if_false]
      cases h3 : (cls == 3) with
      | true => cases (Int.tmod d 2 == 1) <;> simp
      | false =>
        simp only [hn h3, if_true]
        cases (Int.tmod d 2 == 1) <;> simp <;> cases psb W H cells bl cls x y x q.2 <;> cases psb W H cells bl cls x q.2 q.1 q.2 <;> cases psb W H cells bl cls x y q.1 y <;> cases psb W H cells bl cls q.1 y q.1 q.2 <;> simp

/-! ### Changes -/
/-- Another cell at a place. -/
def wth (W : Int) (cells : List (List AVal)) (x y k h a : Int) : List (List AVal) := cells.set (y * W + x).toNat [i64 k, i64 h, i64 a]
def setN (W H : Int) (cells : List (List AVal)) (x y k h a : Int) : List (List AVal) × Int × Int × Int :=
  bif !(vmap W H cells && vcell k h a) then ([], 0, 0, 1) else bif ins W H cells.length x y then (wth W cells x y k h a, W, H, 0) else ([], 0, 0, 8)
theorem wth_len (W : Int) (cells : List (List AVal)) (x y k h a : Int) : (wth W cells x y k h a).length = cells.length := by simp [wth]
theorem wth_cel {W H : Int} {cells : List (List AVal)} {x y : Int} (k h a : Int) (hi : ins W H cells.length x y = true) : cel W (wth W cells x y k h a) x y = [i64 k, i64 h, i64 a] := by
  obtain ⟨e1, e2, e3, e4⟩ := ins_idx hi
  simp [cel, wth, List.getD, e3]
theorem idx_inj {W H : Int} {n : Nat} {x y u v : Int} (h1 : ins W H n x y = true) (h2 : ins W H n u v = true) (he : y * W + x = v * W + u) : x = u ∧ y = v := by
  have a1 := idx_att (ins_iff.1 h1).2
  have a2 := idx_att (ins_iff.1 h2).2
  rw [he, a2] at a1
  simp only [Prod.mk.injEq] at a1
  exact ⟨a1.1.symm, a1.2.symm⟩
theorem wth_other {W H : Int} {cells : List (List AVal)} {x y u v : Int} (k h a : Int) (h1 : ins W H cells.length x y = true) (h2 : ins W H cells.length u v = true) (hne : ¬ (x = u ∧ y = v)) : cel W (wth W cells x y k h a) u v = cel W cells u v := by
  obtain ⟨e1, e2, e3, e4⟩ := ins_idx h1
  obtain ⟨f1, f2, f3, f4⟩ := ins_idx h2
  have : (y * W + x).toNat ≠ (v * W + u).toNat := fun he => hne (idx_inj h1 h2 (by omega))
  simp only [cel, wth, List.getD_eq_getElem?_getD]
  rw [List.getElem?_set_ne this]
theorem wth_vmap {W H : Int} {cells : List (List AVal)} {x y k h a : Int} (hv : vmap W H cells = true) (hc : vcell k h a = true) : vmap W H (wth W cells x y k h a) = true := by
  unfold vmap at hv ⊢
  simp only [Bool.and_eq_true, List.all_eq_true] at hv ⊢
  rw [wth_len]
  refine ⟨hv.1, fun r hr => ?_⟩
  rcases List.mem_or_eq_of_mem_set hr with hr | rfl
  · exact hv.2 r hr
  · exact hc
theorem vcell_rng {k h a : Int} (hv : vcell k h a = true) : rng k ∧ rng h ∧ rng a := by
  unfold vcell at hv
  simp only [Bool.and_eq_true, decide_eq_true_eq] at hv
  unfold rng
  omega
theorem vmap_cell {W H : Int} {cells : List (List AVal)} {x y : Int} (hv : vmap W H cells = true) (hi : ins W H cells.length x y = true) : vrow (cel W cells x y) = true := by
  obtain ⟨e1, e2, e3, e4⟩ := ins_idx hi
  unfold vmap at hv
  simp only [Bool.and_eq_true, List.all_eq_true] at hv
  refine hv.2 _ ?_
  unfold cel
  rw [List.getD_eq_getElem?_getD, List.getElem?_eq_getElem e3]
  exact List.getElem_mem e3
/-- What is taken. -/
def takeN (W H : Int) (cells : List (List AVal)) (x y n : Int) : List (List AVal) × Int × Int × Int × Int :=
  bif !vmap W H cells || decide (n < 1) then ([], 0, 0, 0, 1) else
  bif !ins W H cells.length x y || (cI (cel W cells x y) 2 == 0) then ([], 0, 0, 0, 8) else
  (wth W cells x y (bif (cI (cel W cells x y) 2 - min n (cI (cel W cells x y) 2) == 0) then 1 else cI (cel W cells x y) 0) (cI (cel W cells x y) 1) (cI (cel W cells x y) 2 - min n (cI (cel W cells x y) 2)), W, H, min n (cI (cel W cells x y) 2), 0)
/-! ### Equality -/
def rowEq (r q : List AVal) : Bool := (cI r 0 == cI q 0) && ((cI r 1 == cI q 1) && (cI r 2 == cI q 2))
/-- Do the cells from k on differ? -/
def dif (a b : List (List AVal)) : Nat → Nat → Bool
  | 0, _ => false
  | n + 1, k => !rowEq (a.getD k []) (b.getD k []) || dif a b n (k + 1)
theorem dif_self (a : List (List AVal)) : ∀ (n k : Nat), dif a a n k = false
  | 0, k => rfl
  | n + 1, k => by simp [dif, rowEq, dif_self a n (k + 1)]
def sameN (W H : Int) (a : List (List AVal)) (W' H' : Int) (b : List (List AVal)) : Bool := (W == W') && ((H == H') && (((a.length : Int) == b.length) && !dif a b a.length 0))
theorem sameN_self (W H : Int) (a : List (List AVal)) : sameN W H a W H a = true := by
  simp [sameN, dif_self]
end Go.Proofs.YteiniiakpdijmaaDoor.AI
