/- What the functions of chapter 7 (terrain) answer: steps. -/
import Derived.Test.YtonckcjkgdlmkaaQ07
namespace Go.Proofs.Ytonckcjkgdlmkaa.AI
open Go.RowKit
set_option linter.unusedVariables false
set_option linter.unusedSimpArgs false

theorem pas_ins {W H : Int} {cells : List (List AVal)} {cls x y : Int} (h : pas W H cells cls x y = true) : ins W H cells.length x y = true := by
  unfold pas gt at h
  cases hi : ins W H cells.length x y with
  | true => rfl
  | false => rw [hi] at h; simp at h
/-! ### Open -/
def opn (W H : Int) (cells bl : List (List AVal)) (cls x y : Int) : Bool := pas W H cells cls x y && (cls == 3 || (decide ((bl.length : Int) ≤ y * W + x) || !(cB (bl.getD (y * W + x).toNat []) 0)))
theorem opn_ins {W H : Int} {cells bl : List (List AVal)} {cls x y : Int} (h : opn W H cells bl cls x y = true) : ins W H cells.length x y = true := by
  unfold opn at h
  rw [Bool.and_eq_true] at h
  exact pas_ins h.1
theorem open_eq (W H : Int) (cells bl : List (List AVal)) (hb : okB bl) (cls x y : Int) (hp : pas W H cells cls x y = true) :
    (bif (cls == (3 : Int)) then some true else bif (decide (idx W x y ≥ (bl.length : Int))) then some true else bif (decide ((0 : Int) ≤ idx W x y)) then Option.bind (bl[(idx W x y).toNat]?) fun r => bif (chk [LT.bool] r) then some (!(cB r 0)) else none else none) = some (opn W H cells bl cls x y) := by
  obtain ⟨e1, e2, e3, e4⟩ := ins_idx (pas_ins hp)
  simp only [opn, hp, e1, Bool.true_and]
  cases h3 : (cls == 3) with
  | true => rfl
  | false =>
    simp only [cond_false, Bool.false_or, ge_iff_le]
    by_cases h4 : (bl.length : Int) ≤ y * W + x
    · simp only [h4, decide_true, cond_true, Bool.true_or]
    · obtain ⟨q1, q2⟩ := okB_get hb (y * W + x).toNat (by omega)
      simp only [h4, decide_false, cond_false, e2, decide_true, cond_true, q1, Option.bind_some, q2, Bool.false_or]
/-! ### Heights -/
def hgt (W : Int) (cells : List (List AVal)) (x y : Int) : Int := cI (cel W cells x y) 1
def nearH (a b : Int) : Bool := decide (a - b ≤ 1 ∧ b - a ≤ 1)
theorem nearH_comm (a b : Int) : nearH a b = nearH b a := by
  unfold nearH
  exact decide_eq_decide.2 ⟨fun h => ⟨h.2, h.1⟩, fun h => ⟨h.2, h.1⟩⟩
theorem hgt_rng {W H : Int} {cells : List (List AVal)} (hc : okCs cells) {x y : Int} (h : ins W H cells.length x y = true) : rng (hgt W cells x y) := by
  obtain ⟨e1, e2, e3, e4⟩ := ins_idx h
  exact (okCs_get hc _ e3).2.2.2.1
theorem cel_get {W H : Int} {cells : List (List AVal)} (hc : okCs cells) {x y : Int} (h : ins W H cells.length x y = true) :
    idx W x y = y * W + x ∧ 0 ≤ y * W + x ∧ cells[(y * W + x).toNat]? = some (cel W cells x y) ∧ chk [.int .i64, .int .i64, .int .i64] (cel W cells x y) = true := by
  obtain ⟨e1, e2, e3, e4⟩ := ins_idx h
  obtain ⟨q1, q2, _⟩ := okCs_get hc _ e3
  exact ⟨e1, e2, q1, q2⟩
/-! ### Possible -/
def psb (W H : Int) (cells bl : List (List AVal)) (cls px py qx qy : Int) : Bool := opn W H cells bl cls px py && (opn W H cells bl cls qx qy && (cls == 3 || nearH (hgt W cells px py) (hgt W cells qx qy)))
theorem psb_comm (W H : Int) (cells bl : List (List AVal)) (cls px py qx qy : Int) : psb W H cells bl cls px py qx qy = psb W H cells bl cls qx qy px py := by
  unfold psb
  rw [nearH_comm]
  cases opn W H cells bl cls px py <;> cases opn W H cells bl cls qx qy <;> rfl
theorem psb_ins {W H : Int} {cells bl : List (List AVal)} {cls px py qx qy : Int} (h : psb W H cells bl cls px py qx qy = true) : ins W H cells.length px py = true ∧ ins W H cells.length qx qy = true := by
  unfold psb at h
  simp only [Bool.and_eq_true] at h
  exact ⟨opn_ins h.1, opn_ins h.2.1⟩
theorem gt_ins {W H : Int} {cells : List (List AVal)} {x y : Int} (h : ins W H cells.length x y = true) : gt W H cells x y = (cI (cel W cells x y) 0, hgt W cells x y, cI (cel W cells x y) 2, true) := by
  simp only [gt, h, cond_true, hgt]
/-! ### Steps -/
def cst (W : Int) (cells : List (List AVal)) (cls d px py qx qy : Int) : Int := (bif (Int.tmod d 2 == 1) then 14 else 10) + (bif (!(cls == 3)) && !(hgt W cells px py == hgt W cells qx qy) then 5 else 0)
/-- Both ways around a corner. -/
def crn (W H : Int) (cells bl : List (List AVal)) (cls px py qx qy : Int) : Bool := psb W H cells bl cls px py px qy && (psb W H cells bl cls px qy qx qy && (psb W H cells bl cls px py qx py && psb W H cells bl cls qx py qx qy))
def stepN (W H : Int) (cells bl : List (List AVal)) (cls x y d : Int) : Int × Bool :=
  bif decide (d < 0 ∨ d > 7) then (0, false) else
  bif psb W H cells bl cls x y (stp x y d).1 (stp x y d).2 && (!(Int.tmod d 2 == 1) || (cls == 3 || crn W H cells bl cls x y (stp x y d).1 (stp x y d).2)) then (cst W cells cls d x y (stp x y d).1 (stp x y d).2, true) else (0, false)
theorem wr19 : wr (14 + 5) = 19 := by decide
theorem wr15 : wr (10 + 5) = 15 := by decide
end Go.Proofs.Ytonckcjkgdlmkaa.AI
