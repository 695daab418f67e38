/- What the functions of chapter 7 (terrain) answer: steps. -/
import Derived.Test.YteiniiakpdijmaaDoorQ07
namespace Go.Proofs.YteiniiakpdijmaaDoor.AI
open Go.RowKit
set_option linter.unusedVariables false
set_option linter.unusedSimpArgs false

theorem pas_ins {W H : Int} {cells : List (List AVal)} {cls x y : Int} (h : pas W H cells cls x y = true) : ins W H cells.length x y = true := by
  unfold pas gt at h
  cases hi : ins W H cells.length x y with
  | true => rfl
  | false => rw [hi] at h; simp at h
/-! ### Open -/
def opn (W H : Int) (cells bl : List (List AVal)) (cls x y : Int) : Bool := pas W H cells cls x y && (cls == 3 || (decide ((bl.length : Int) ≤ y * W + x) || !(cB (bl.getD (y * W + x).toNat []) 0)))
theorem opn_ins {W H : Int} {cells bl : List (List AVal)} {cls x y : Int} (h : opn W H cells bl cls x y = true) : ins W H cells.length x y = true := by
  unfold opn at h
  rw [Bool.and_eq_true] at h
  exact pas_ins h.1
theorem open_eq (W H : Int) (cells bl : List (List AVal)) (hb : okB bl) (cls x y : Int) (hp : pas W H cells cls x y = true) :
    (bif (cls == (3 : Int)) then some true else bif (decide (idx W x y ≥ (bl.length : Int))) then some true else bif (decide ((0 : Int) ≤ idx W x y)) then Option.bind (bl[(idx W x y).toNat]?) fun r => bif (chk [LT.bool] r) then some (!(cB r 0)) else none else none) = some (opn W H cells bl cls x y) := by
  obtain ⟨e1, e2, e3, e4⟩ := ins_idx (pas_ins hp)
  simp only [opn, hp, e1, Bool.true_and]
  cases h3 : (cls == 3) with
  | true => rfl
  | false =>
    simp only [cond_false, Bool.false_or, ge_iff_le]
    by_cases h4 : (bl.length : Int) ≤ y * W + x
    · simp only [h4, decide_true, cond_true, Bool.true_or]
    · obtain ⟨q1, q2⟩ := okB_get hb (y * W + x).toNat (by omega)
      simp only [h4, decide_false, cond_false, e2, decide_true, cond_true, q1, Option.bind_some, q2, Bool.false_or]
theorem open_g (W H : Int) (cells bl : List (List AVal)) (hc : okCs cells) (hb : okB bl) (cls x y : Int) : F_terrain_open W H cells bl cls x y = some (opn W H cells bl cls x y) := by
  simp only [F_terrain_open, passable_g W H cells hc, Option.bind_some, index_g, Int.ofNat_eq_natCast]
  cases hp : pas W H cells cls x y with
  | false => simp [opn, hp]
  | true =>
    simp only [Bool.not_true, cond_false]
    exact open_eq W H cells bl hb cls x y hp
theorem open_r (W H : Int) (cells bl : List (List AVal)) (hc : okCs cells) (hb : okB bl) (cls x y : Int) : F_skirmishref07_Open W H cells bl cls x y = some (opn W H cells bl cls x y) := by
  simp only [F_skirmishref07_Open, passable_r W H cells hc, Option.bind_some, index_r, Int.ofNat_eq_natCast]
  cases hp : pas W H cells cls x y with
  | false => simp [opn, hp]
  | true =>
    simp only [Bool.not_true, cond_false]
    exact open_eq W H cells bl hb cls x y hp

/-! ### Heights -/
def hgt (W : Int) (cells : List (List AVal)) (x y : Int) : Int := cI (cel W cells x y) 1
def nearH (a b : Int) : Bool := decide (a - b ≤ 1 ∧ b - a ≤ 1)
theorem nearH_comm (a b : Int) : nearH a b = nearH b a := by
  unfold nearH
  exact decide_eq_decide.2 ⟨fun h => ⟨h.2, h.1⟩, fun h => ⟨h.2, h.1⟩⟩
theorem hgt_rng {W H : Int} {cells : List (List AVal)} (hc : okCs cells) {x y : Int} (h : ins W H cells.length x y = true) : rng (hgt W cells x y) := by
  obtain ⟨e1, e2, e3, e4⟩ := ins_idx h
  exact (okCs_get hc _ e3).2.2.2.1
theorem cel_get {W H : Int} {cells : List (List AVal)} (hc : okCs cells) {x y : Int} (h : ins W H cells.length x y = true) :
    idx W x y = y * W + x ∧ 0 ≤ y * W + x ∧ cells[(y * W + x).toNat]? = some (cel W cells x y) ∧ chk [.int .i64, .int .i64, .int .i64] (cel W cells x y) = true := by
  obtain ⟨e1, e2, e3, e4⟩ := ins_idx h
  obtain ⟨q1, q2, _⟩ := okCs_get hc _ e3
  exact ⟨e1, e2, q1, q2⟩
theorem flat_g (W H : Int) (cells : List (List AVal)) (hc : okCs cells) (cls px py qx qy : Int) (hp : ins W H cells.length px py = true) (hq : ins W H cells.length qx qy = true) :
    F_terrain_flat W H cells cls px py qx qy = some (cls == 3 || nearH (hgt W cells px py) (hgt W cells qx qy)) := by
  obtain ⟨a1, a2, a3, a4⟩ := cel_get hc hp
  obtain ⟨b1, b2, b3, b4⟩ := cel_get hc hq
  have ra := hgt_rng hc hp
  have rb := hgt_rng hc hq
  unfold rng at ra rb
  have ea : cI (cel W cells px py) 1 = hgt W cells px py := rfl
  have eb : cI (cel W cells qx qy) 1 = hgt W cells qx qy := rfl
  simp only [F_terrain_flat, index_g, Option.bind_some, a1, a2, a3, a4, b1, b2, b3, b4, decide_true, cond_true, ea, eb]
  generalize hgt W cells px py = a at *
  generalize hgt W cells qx qy = b at *
  cases h3 : (cls == 3) with
  | true => rfl
  | false =>
    simp only [cond_false, Bool.false_or]
    by_cases h : a = b
    · subst h
      simp [nearH]
    · have h' : (a == b) = false := by simpa using h
      simp only [h', cond_false]
      by_cases h1 : a > b
      · have h2 : ¬ b > a := by omega
        have w1 : wr (a - 1) = a - 1 := wr_in (by omega) (by omega)
        simp only [h1, h2, decide_true, decide_false, cond_true, cond_false, w1]
        by_cases h4 : a - 1 = b
        · have h5 : (a - 1 == b) = true := by simpa using h4
          simp only [h5, cond_true, nearH]
          rw [decide_eq_true (by omega)]
        · have h5 : (a - 1 == b) = false := by simpa using h4
          simp only [h5, cond_false, nearH]
          rw [decide_eq_false (by omega)]
      · have h2 : b > a := by omega
        have w1 : wr (b - 1) = b - 1 := wr_in (by omega) (by omega)
        simp only [h1, h2, decide_true, decide_false, cond_true, cond_false, w1]
        by_cases h4 : b - 1 = a
        · have h5 : (b - 1 == a) = true := by simpa using h4
          simp only [h5, nearH]
          rw [decide_eq_true (by omega)]
        · have h5 : (b - 1 == a) = false := by simpa using h4
          simp only [h5, nearH]
          rw [decide_eq_false (by omega)]
theorem rise_r (k1 a n1 k2 b n2 : Int) (ra : rng a) (rb : rng b) : F_skirmishref07_rise k1 a n1 k2 b n2 = some (if a = b then 0 else if nearH a b = true then 1 else 2) := by
  unfold rng at ra rb
  simp only [F_skirmishref07_rise, maxI_eq, minI_eq, nearH, decide_eq_true_eq]
  by_cases h : a = b
  · subst h
    simp
  · have h1 : (max a b == min a b) = false := by simp; omega
    rw [if_neg h]
    simp only [h1, cond_false]
    rw [wr_in (by omega) (by omega)]
    by_cases h2 : max a b - 1 = min a b
    · have h3 : (max a b - 1 == min a b) = true := by simpa using h2
      rw [if_pos (by omega)]
      simp only [h3, cond_true]
    · have h3 : (max a b - 1 == min a b) = false := by simpa using h2
      rw [if_neg (by omega)]
      simp only [h3, cond_false]

/-! ### Possible -/
def psb (W H : Int) (cells bl : List (List AVal)) (cls px py qx qy : Int) : Bool := opn W H cells bl cls px py && (opn W H cells bl cls qx qy && (cls == 3 || nearH (hgt W cells px py) (hgt W cells qx qy)))
theorem psb_comm (W H : Int) (cells bl : List (List AVal)) (cls px py qx qy : Int) : psb W H cells bl cls px py qx qy = psb W H cells bl cls qx qy px py := by
  unfold psb
  rw [nearH_comm]
  cases opn W H cells bl cls px py <;> cases opn W H cells bl cls qx qy <;> rfl
theorem psb_ins {W H : Int} {cells bl : List (List AVal)} {cls px py qx qy : Int} (h : psb W H cells bl cls px py qx qy = true) : ins W H cells.length px py = true ∧ ins W H cells.length qx qy = true := by
  unfold psb at h
  simp only [Bool.and_eq_true] at h
  exact ⟨opn_ins h.1, opn_ins h.2.1⟩
theorem possible_g (W H : Int) (cells bl : List (List AVal)) (hc : okCs cells) (hb : okB bl) (cls px py qx qy : Int) : F_terrain_possible W H cells bl cls px py qx qy = some (psb W H cells bl cls px py qx qy) := by
  simp only [F_terrain_possible, open_g W H cells bl hc hb, Option.bind_some, psb]
  cases h1 : opn W H cells bl cls px py with
  | false => rfl
  | true =>
    cases h2 : opn W H cells bl cls qx qy with
    | false => rfl
    | true =>
      simp only [cond_true, flat_g W H cells hc cls px py qx qy (opn_ins h1) (opn_ins h2), Option.bind_some, Bool.true_and]
theorem gt_ins {W H : Int} {cells : List (List AVal)} {x y : Int} (h : ins W H cells.length x y = true) : gt W H cells x y = (cI (cel W cells x y) 0, hgt W cells x y, cI (cel W cells x y) 2, true) := by
  simp only [gt, h, cond_true, hgt]
theorem near_t (W H : Int) (cells bl : List (List AVal)) (hc : okCs cells) (hb : okB bl) (cls px py qx qy : Int) : F_skirmishref07_near W H cells bl cls px py qx qy = some (psb W H cells bl cls px py qx qy) := by
  simp only [F_skirmishref07_near, open_r W H cells bl hc hb, get_r W H cells hc, Option.bind_some, psb]
  cases h1 : opn W H cells bl cls px py with
  | false => rfl
  | true =>
    cases h2 : opn W H cells bl cls qx qy with
    | false => rfl
    | true =>
      have i1 := opn_ins h1
      have i2 := opn_ins h2
      simp only [Bool.not_true, cond_false, gt_ins i1, gt_ins i2, rise_r _ _ _ _ _ _ (hgt_rng hc i1) (hgt_rng hc i2), Option.bind_some, Bool.true_and]
      cases h3 : (cls == 3) with
      | true => rfl
      | false =>
        simp only [cond_false, Bool.false_or]
        congr 1
        by_cases h4 : hgt W cells px py = hgt W cells qx qy
        · rw [if_pos h4, h4]
          simp [nearH]
        · rw [if_neg h4]
          cases nearH (hgt W cells px py) (hgt W cells qx qy) <;> simp

/-! ### Steps -/
def cst (W : Int) (cells : List (List AVal)) (cls d px py qx qy : Int) : Int := (bif (Int.tmod d 2 == 1) then 14 else 10) + (bif (!(cls == 3)) && !(hgt W cells px py == hgt W cells qx qy) then 5 else 0)
/-- Both ways around a corner. -/
def crn (W H : Int) (cells bl : List (List AVal)) (cls px py qx qy : Int) : Bool := psb W H cells bl cls px py px qy && (psb W H cells bl cls px qy qx qy && (psb W H cells bl cls px py qx py && psb W H cells bl cls qx py qx qy))
def stepN (W H : Int) (cells bl : List (List AVal)) (cls x y d : Int) : Int × Bool :=
  bif decide (d < 0 ∨ d > 7) then (0, false) else
  bif psb W H cells bl cls x y (stp x y d).1 (stp x y d).2 && (!(Int.tmod d 2 == 1) || (cls == 3 || crn W H cells bl cls x y (stp x y d).1 (stp x y d).2)) then (cst W cells cls d x y (stp x y d).1 (stp x y d).2, true) else (0, false)
theorem wr19 : wr (14 + 5) = 19 := by decide
theorem wr15 : wr (10 + 5) = 15 := by decide
theorem Step_g (W H : Int) (cells bl : List (List AVal)) (hc : okCs cells) (hb : okB bl) (cls x y d : Int) : F_terrain_Step W H cells bl cls x y d = some (stepN W H cells bl cls x y d) := by
  simp only [F_terrain_Step, stepN, inside_g, step_g, possible_g W H cells bl hc hb, Option.bind_some]
  by_cases h1 : d < 0
  · simp [h1]
  by_cases h2 : d > 7
  · simp [h1, h2]
  simp only [h1, h2, or_self, decide_false, cond_false]
  generalize stp x y d = q
  cases hp : psb W H cells bl cls x y q.1 q.2 with
  | false =>
    cases ins W H cells.length x y <;> rfl
  | true =>
    obtain ⟨i1, i2⟩ := psb_ins hp
    obtain ⟨a1, a2, a3, a4⟩ := cel_get hc i1
    obtain ⟨b1, b2, b3, b4⟩ := cel_get hc i2
    have ea : cI (cel W cells x y) 1 = hgt W cells x y := rfl
    have eb : cI (cel W cells q.1 q.2) 1 = hgt W cells q.1 q.2 := rfl
    have g0 : ([[(i64 x), (i64 q.2)], [(i64 q.1), (i64 y)]][(0 : Int).toNat]?) = some [(i64 x), (i64 q.2)] := rfl
    have g1 : ([[(i64 x), (i64 q.2)], [(i64 q.1), (i64 y)]][(wr ((0 : Int) + (1 : Int))).toNat]?) = some [(i64 q.1), (i64 y)] := rfl
    have c1 : ∀ u v : Int, chk [(LT.int IntKind.i64), (LT.int IntKind.i64)] [i64 u, i64 v] = true := fun _ _ => rfl
    have c2 : ∀ u v : Int, cI [i64 u, i64 v] 0 = u := fun _ _ => rfl
    have c3 : ∀ u v : Int, cI [i64 u, i64 v] 1 = v := fun _ _ => rfl
    simp only [i1, Bool.not_true, cond_false, g0, g1, c1, c2, c3, Option.bind_some, cond_true, Bool.true_and, bne, index_g, a1, a2, a3, a4, b1, b2, b3, b4, decide_true, ea, eb, wr19, wr15, crn, cst]
    cases (Int.tmod d 2 == 1) <;> cases (cls == 3) <;> simp <;> cases psb W H cells bl cls x y x q.2 <;> cases psb W H cells bl cls x q.2 q.1 q.2 <;> cases psb W H cells bl cls x y q.1 y <;> cases psb W H cells bl cls q.1 y q.1 q.2 <;> cases (hgt W cells x y == hgt W cells q.1 q.2) <;> simp
end Go.Proofs.YteiniiakpdijmaaDoor.AI
