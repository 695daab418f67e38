/- The document's cost of a way. -/
import Derived.Test.YtmnjdfdiokomhaaDoorR14
import Derived.Test.YtmnjdfdiokomhaaDoorPw
namespace Go.Proofs.YtmnjdfdiokomhaaDoor.AI
open Go.RowKit
set_option linter.unusedVariables false
set_option linter.unusedSimpArgs false

/-! ### Lists of places -/
def okP (rows : List (List AVal)) : Prop := ∀ r, r ∈ rows → r = [i64 (cI r 0), i64 (cI r 1)] ∧ rng (cI r 0) ∧ rng (cI r 1)
theorem okP_of {P : Program} {T E : Nat} {rows : List (List AVal)} (hl : leafOf P 8 T = [.int .i64, .int .i64]) (h : Ty P (.sl T E) (.ro E rows)) : okP rows := by
  cases h with
  | sl _ _ _ h1 h0 h2 h3 =>
    intro r hr
    have k1 := h2 r hr
    have k2 := h3 r hr
    rw [hl] at k1 k2
    match r, k1 with
    | [a, b], _ =>
      obtain ⟨x, rfl, hx⟩ := ty_int (k2 0 _ _ rfl rfl)
      obtain ⟨y, rfl, hy⟩ := ty_int (k2 1 _ _ rfl rfl)
      exact ⟨rfl, wf_i64 hx, wf_i64 hy⟩
theorem okP_get {rows : List (List AVal)} (h : okP rows) {k : Nat} (hk : k < rows.length) : rows[k]? = some [i64 (cI (rows.getD k []) 0), i64 (cI (rows.getD k []) 1)] := by
  have e : rows.getD k [] = rows[k] := by simp [List.getD, hk]
  rw [List.getElem?_eq_getElem hk, e]
  exact congrArg some (h _ (List.getElem_mem hk)).1
def inR (W H : Int) (r : List AVal) : Bool := inn W H (cI r 0) (cI r 1)
theorem drop_allR {W H : Int} {rows : List (List AVal)} {k : Nat} (hk : k < rows.length) : (rows.drop k).all (inR W H) = (inR W H (rows.getD k []) && (rows.drop (k + 1)).all (inR W H)) := by
  rw [List.drop_eq_getElem_cons hk, List.all_cons, List.getD_eq_getElem?_getD, List.getElem?_eq_getElem hk]
  rfl
/-- The numbers of places. -/
def dcP (W : Int) (rows : List (List AVal)) : List Nat := rows.map fun r => nm W (cI r 0) (cI r 1)
theorem dcP_encP {W H : Int} {n : Nat} (hf : fmd W H n = true) (l : List Nat) : dcP W (encP W l) = l := by
  unfold dcP encP
  rw [List.map_map]
  have : ((fun r : List AVal => nm W (cI r 0) (cI r 1)) ∘ fun i => [i64 (px W i), i64 (py W i)]) = id := by
    funext i
    exact nm_pos hf
  rw [this, List.map_id]
theorem encP_dcP {W H : Int} {n : Nat} (hf : fmd W H n = true) : ∀ (rows : List (List AVal)), okP rows → rows.all (inR W H) = true → encP W (dcP W rows) = rows ∧ ∀ i, i ∈ dcP W rows → i < n
  | [], _, _ => ⟨rfl, fun i hi => by cases hi⟩
  | r :: rows, ho, ha => by
    rw [List.all_cons, Bool.and_eq_true] at ha
    obtain ⟨h1, h2⟩ := encP_dcP hf rows (fun q hq => ho q (List.mem_cons_of_mem _ hq)) ha.2
    have hi : ins W H n (cI r 0) (cI r 1) = true := ins_iff.2 ⟨hf, ha.1⟩
    have hr := (ho r List.mem_cons_self).1
    have e : encP W (dcP W (r :: rows)) = [i64 (px W (nm W (cI r 0) (cI r 1))), i64 (py W (nm W (cI r 0) (cI r 1)))] :: encP W (dcP W rows) := rfl
    obtain ⟨p1, p2⟩ := pos_nm hi
    refine ⟨by rw [e, h1, p1, p2, ← hr], fun i hi' => ?_⟩
    rcases List.mem_cons.1 (show i ∈ nm W (cI r 0) (cI r 1) :: dcP W rows from hi') with rfl | hm
    · exact (nm_lt hi).1
    · exact h2 i hm
theorem encP_inR {W H : Int} {n : Nat} (hf : fmd W H n = true) : ∀ (l : List Nat), (∀ i, i ∈ l → i < n) → (encP W l).all (inR W H) = true ∧ okP (encP W l)
  | [], _ => ⟨rfl, fun r hr => by cases hr⟩
  | i :: l, h => by
    obtain ⟨h1, h2⟩ := encP_inR hf l fun j hj => h j (List.mem_cons_of_mem _ hj)
    have hi := pos_ins hf (h i List.mem_cons_self)
    have e : encP W (i :: l) = [i64 (px W i), i64 (py W i)] :: encP W l := rfl
    rw [e]
    refine ⟨?_, ?_⟩
    · rw [List.all_cons, h1, Bool.and_true]
      exact (ins_iff.1 hi).2
    · intro r hr
      rcases List.mem_cons.1 hr with rfl | hr
      · have r1 := ins_rng hi
        refine ⟨rfl, ?_, ?_⟩
        · show rng (px W i)
          unfold rng
          omega
        · show rng (py W i)
          unfold rng
          omega
      · exact h2 r hr

/-! ### The document's Cost -/
theorem at_pos {W H : Int} {n j : Nat} {x y : Int} (hi : ins W H n x y = true) (hj : j < n) : ((x == px W j) && (y == py W j)) = decide (nm W x y = j) := by
  have hf := (ins_iff.1 hi).1
  obtain ⟨p1, p2⟩ := pos_nm hi
  by_cases h : nm W x y = j
  · rw [← h, p1, p2]
    simp
  · rw [decide_eq_false h]
    cases hb : ((x == px W j) && (y == py W j)) with
    | false => rfl
    | true =>
      rw [Bool.and_eq_true, beq_iff_eq, beq_iff_eq] at hb
      rw [hb.1, hb.2, nm_pos hf] at h
      exact absurd rfl h
/-- What a way costs. -/
def costN (W H : Int) (cells bl : List (List AVal)) (cls : Int) (rows : List (List AVal)) : Int × Int :=
  bif vmap W H cells && (cok cls && (!(rows.isEmpty) && rows.all (inR W H))) then
    (bif opn W H cells bl cls (cI (rows.getD 0 []) 0) (cI (rows.getD 0 []) 1) then (match wc (nbG W H cells bl cls) (dcP W rows) with | some c => (c, 0) | none => (0, 9)) else (0, 9))
  else (0, 1)
/-! ### Equal lists -/
end Go.Proofs.YtmnjdfdiokomhaaDoor.AI
