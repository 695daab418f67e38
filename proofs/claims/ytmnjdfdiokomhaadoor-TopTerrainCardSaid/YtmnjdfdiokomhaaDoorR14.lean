/- The document's functions of chapter 14: what they answer. -/
import Derived.Test.YtmnjdfdiokomhaaDoorSg
namespace Go.Proofs.YtmnjdfdiokomhaaDoor.AI
open Go.RowKit
set_option linter.unusedVariables false
set_option linter.unusedSimpArgs false

/-- A class. -/
def cok (c : Int) : Bool := decide (1 ≤ c) && decide (c ≤ 3)
/-! ### The nearest cell -/
def sg (st : List Bool) (i : Nat) : Bool := st.getD i false
def encO (st : List Bool) : List (List AVal) := st.map fun b => [bo b]
theorem encO_len (st : List Bool) : (encO st).length = st.length := by simp [encO]
theorem encO_get {st : List Bool} {k : Nat} (h : k < st.length) : (encO st)[k]? = some [bo (sg st k)] := by
  unfold encO sg
  rw [List.getElem?_map, List.getElem?_eq_getElem h, List.getD_eq_getElem?_getD, List.getElem?_eq_getElem h]
  rfl
theorem encO_set (st : List Bool) (k : Nat) (v : Bool) : (encO st).set k [bo v] = encO (st.set k v) := by simp [encO, List.map_set]
theorem encO_rep (n : Nat) (v : Bool) : List.replicate n [bo v] = encO (List.replicate n v) := by simp [encO]
theorem sg_set {st : List Bool} {i : Nat} (j : Nat) (v : Bool) (h : i < st.length) : sg (st.set i v) j = if i = j then v else sg st j := by
  unfold sg
  rw [List.getD_eq_getElem?_getD, List.getD_eq_getElem?_getD, List.getElem?_set]
  by_cases h1 : i = j
  · subst h1; simp [h]
  · simp [h1]
theorem sg_rep (n j : Nat) : sg (List.replicate n false) j = false := by
  unfold sg
  rw [List.getD_eq_getElem?_getD, List.getElem?_replicate]
  split <;> rfl
/-- The nearest of the cells below 'i'. -/
def NearI (cs : List Int) (st : List Bool) (i : Nat) (k : Int) : Prop :=
  (k = -1 ∧ ∀ j, j < i → sg st j = true ∨ cg cs j < 0) ∨ ∃ q : Nat, k = q ∧ q < i ∧ sg st q = false ∧ 0 ≤ cg cs q ∧ ∀ j, j < i → sg st j = false → 0 ≤ cg cs j → cg cs q ≤ cg cs j
/-! ### Spreading -/
theorem tm_pos {W H : Int} {n k : Nat} (hf : fmd W H n = true) (hk : k < n) : (W == 0) = false ∧ Int.tmod k W = px W k ∧ wr (Int.tdiv k W) = py W k := by
  obtain ⟨h1, h2⟩ := fmd_iff.1 hf
  have hs := fmd_small hf
  have e1 : px W k = (k : Int) % W := by unfold px att; rw [if_neg (by omega)]
  have e2 : py W k = (k : Int) / W := by unfold py att; rw [if_neg (by omega)]
  have hm := Int.tmod_eq_emod_of_nonneg (a := (k : Int)) (b := W) (by omega)
  have hd := Int.tdiv_eq_ediv_of_nonneg (a := (k : Int)) (b := W) (by omega)
  have b1 : 0 ≤ (k : Int) / W := Int.ediv_nonneg (by omega) (by omega)
  have b2 : (k : Int) / W ≤ k := Int.ediv_le_self _ (by omega)
  refine ⟨by simp; omega, by rw [e1, hm], ?_⟩
  rw [e2, hd]
  exact wr_in (by omega) (by omega)
end Go.Proofs.YtmnjdfdiokomhaaDoor.AI
