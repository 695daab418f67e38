/- Lists of Bools, as rows. -/
import Derived.Test.YtonckcjkgdlmkaaQ07c
import Derived.Test.YtonckcjkgdlmkaaLp
namespace Go.Proofs.Ytonckcjkgdlmkaa.AI
open Go.RowKit
set_option linter.unusedVariables false
set_option linter.unusedSimpArgs false

def rowsB (n : Nat) (g : Nat → Bool) : List (List AVal) := (List.range n).map fun q => [bo (g q)]
theorem rowsB_length (n : Nat) (g : Nat → Bool) : (rowsB n g).length = n := by simp [rowsB]
theorem rowsB_get {n : Nat} (g : Nat → Bool) {k : Nat} (h : k < n) : (rowsB n g)[k]? = some [bo (g k)] := by simp [rowsB, h]
theorem rowsB_getD {n : Nat} (g : Nat → Bool) {k : Nat} (h : k < n) : (rowsB n g).getD k [] = [bo (g k)] := by simp [rowsB, h]
theorem rowsB_none {n : Nat} (g : Nat → Bool) {k : Nat} (h : ¬ k < n) : (rowsB n g)[k]? = none := List.getElem?_eq_none (by rw [rowsB_length]; omega)
theorem rowsB_set {n : Nat} (g : Nat → Bool) (k : Nat) (t : Bool) : (rowsB n g).set k [bo t] = rowsB n (fun q => if q = k then t else g q) := by
  apply List.ext_getElem?
  intro q
  rw [List.getElem?_set, rowsB_length]
  by_cases hq : q < n
  · rw [rowsB_get g hq, rowsB_get (fun q => if q = k then t else g q) hq]
    by_cases hk : k = q
    · subst hk; rw [if_pos rfl, if_pos hq, if_pos rfl]
    · rw [if_neg hk, if_neg (Ne.symm hk)]
  · rw [rowsB_none g hq, rowsB_none (fun q => if q = k then t else g q) hq]
    split
    · rw [if_neg (by omega)]
    · rfl
theorem rowsB_zero (n : Nat) : List.replicate n [bo false] = rowsB n (fun _ => false) := by
  apply List.ext_getElem?
  intro q
  rw [List.getElem?_replicate]
  by_cases hq : q < n
  · rw [rowsB_get _ hq, if_pos hq]
  · rw [rowsB_none _ hq, if_neg hq]
theorem rowsB_snoc (k : Nat) (g : Nat → Bool) : rowsB k g ++ [[bo (g k)]] = rowsB (k + 1) g := by simp [rowsB, List.range_succ]
theorem rowsB_congr {n : Nat} {g h : Nat → Bool} (e : ∀ q, q < n → g q = h q) : rowsB n g = rowsB n h := by
  apply List.ext_getElem?
  intro q
  by_cases hq : q < n
  · rw [rowsB_get _ hq, rowsB_get _ hq, e q hq]
  · rw [List.getElem?_eq_none (by rw [rowsB_length]; omega), List.getElem?_eq_none (by rw [rowsB_length]; omega)]
theorem okB_rowsB (n : Nat) (g : Nat → Bool) : okB (rowsB n g) := by
  intro r hr
  obtain ⟨q, _, rfl⟩ := List.mem_map.1 hr
  rfl
/-- A list's Bool at a place. -/
def gB (a : List (List AVal)) (q : Nat) : Bool := cB (a.getD q []) 0
theorem okB_row {r : List AVal} (h : chk [.bool] r = true) : r = [bo (cB r 0)] := by
  unfold chk at h
  simp only [Bool.and_eq_true, chkFrom, Bool.and_true] at h
  obtain ⟨h1, h2⟩ := h
  have h1 := nbeq_eq h1
  match r, h1 with
  | [v], _ =>
    have h3 : chkL .bool v = true := h2
    unfold chkL at h3
    split at h3 <;> first | cases h3 | skip
    all_goals first | rfl | (rename_i heq _; cases heq)
theorem okB_eq {a : List (List AVal)} (h : okB a) : a = rowsB a.length (gB a) := by
  apply List.ext_getElem?
  intro q
  by_cases hq : q < a.length
  · rw [rowsB_get _ hq, List.getElem?_eq_getElem hq]
    have := okB_row (h _ (List.getElem_mem hq))
    have e : a.getD q [] = a[q] := by simp [List.getD, hq]
    unfold gB
    rw [e]
    exact congrArg some this
  · rw [List.getElem?_eq_none (by omega), List.getElem?_eq_none (by rw [rowsB_length]; omega)]
theorem gB_ge {a : List (List AVal)} {q : Nat} (h : a.length ≤ q) : gB a q = false := by
  have : a.getD q [] = [] := by simp [List.getD, List.getElem?_eq_none h]
  unfold gB
  rw [this]
  rfl
theorem gB_rowsB {n q : Nat} (g : Nat → Bool) (h : q < n) : gB (rowsB n g) q = g q := by
  unfold gB
  rw [rowsB_getD _ h]
  rfl
theorem chk_bo (b : Bool) : chk [LT.bool] [bo b] = true := rfl
theorem cB_bo (b : Bool) : cB [bo b] 0 = b := rfl
end Go.Proofs.Ytonckcjkgdlmkaa.AI
