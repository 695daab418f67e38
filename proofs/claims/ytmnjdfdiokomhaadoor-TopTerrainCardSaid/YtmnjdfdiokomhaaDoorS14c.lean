/- What a path's answer says. -/
import Derived.Test.YtmnjdfdiokomhaaDoorS14b
namespace Go.Proofs.YtmnjdfdiokomhaaDoor.AI
open Go.RowKit
set_option linter.unusedVariables false
set_option linter.unusedSimpArgs false
/-! ### What a path's answer says -/
/-- All that is known where the two cells are free. -/
theorem PN_ok {W H : Int} {cells bl : List (List AVal)} (hc : okCs cells) (hb : okB bl) {cls ax ay bx b : Int} (h : (PN W H cells bl cls ax ay bx b).2.2 = 0 ∨ (PN W H cells bl cls ax ay bx b).2.2 = 22) :
    vmap W H cells = true ∧ cok cls = true ∧ ins W H cells.length ax ay = true ∧ ins W H cells.length bx b = true ∧ opn W H cells bl cls ax ay = true ∧ opn W H cells bl cls bx b = true ∧
    PN W H cells bl cls ax ay bx b = bif decide (cg (D W H cells bl cls (nm W bx b)) (nm W ax ay) < 0) then ([], 0, 22) else (encP W (nm W ax ay :: wk (nbG W H cells bl cls) (D W H cells bl cls (nm W bx b)) 50000 (nm W ax ay)), cg (D W H cells bl cls (nm W bx b)) (nm W ax ay), 0) := by
  unfold PN at h ⊢
  cases hv : (vmap W H cells && cok cls) with
  | false => rw [hv] at h; simp at h
  | true =>
    cases hi : (inn W H ax ay && inn W H bx b) with
    | false => rw [hv, hi] at h; simp at h
    | true =>
      cases ho : (opn W H cells bl cls ax ay && opn W H cells bl cls bx b) with
      | false => rw [hv, hi, ho] at h; simp at h
      | true =>
        rw [Bool.and_eq_true] at hv hi ho
        have hf := vmap_fmd hv.1
        exact ⟨hv.1, hv.2, ins_iff.2 ⟨hf, hi.1⟩, ins_iff.2 ⟨hf, hi.2⟩, ho.1, ho.2, rfl⟩
theorem D_right {W H : Int} {cells bl : List (List AVal)} (hc : okCs cells) (hb : okB bl) {cls x y : Int} (hi : ins W H cells.length x y = true) (ho : opn W H cells bl cls x y = true) : Right cells.length (nbG W H cells bl cls) (· = nm W x y) (cg (D W H cells bl cls (nm W x y))) := by
  have hf := (ins_iff.1 hi).1
  have p := pos_nm hi
  obtain ⟨d1, d2⟩ := D_a W H cells bl hc hb cls hf (nm W x y) (nm_lt hi).1
  rcases d2.2 with ⟨x, y⟩ | ⟨x, y⟩
  · rw [p.1, p.2, ho] at x; cases x
  · exact y
theorem D_num {W H : Int} {cells bl : List (List AVal)} (hc : okCs cells) (hb : okB bl) {cls x y : Int} (hi : ins W H cells.length x y = true) : ∀ k, -1 ≤ cg (D W H cells bl cls (nm W x y)) k ∧ cg (D W H cells bl cls (nm W x y)) k ≤ 19456 := by
  have hf := (ins_iff.1 hi).1
  exact D_all (D_a W H cells bl hc hb cls hf (nm W x y) (nm_lt hi).1).2 (nm_lt hi).1 hf
theorem PN_err {W H : Int} {cells bl : List (List AVal)} (hc : okCs cells) (hb : okB bl) {cls ax ay bx b : Int} : ((PN W H cells bl cls ax ay bx b).2.2 = 0) ∨ ((PN W H cells bl cls ax ay bx b).1 = [] ∧ (PN W H cells bl cls ax ay bx b).2.1 = 0) := by
  unfold PN
  cases (vmap W H cells && cok cls) with
  | false => exact .inr ⟨rfl, rfl⟩
  | true =>
    cases (inn W H ax ay && inn W H bx b) with
    | false => exact .inr ⟨rfl, rfl⟩
    | true =>
      cases (opn W H cells bl cls ax ay && opn W H cells bl cls bx b) with
      | false => exact .inr ⟨rfl, rfl⟩
      | true =>
        cases decide (cg (D W H cells bl cls (nm W bx b)) (nm W ax ay) < 0) with
        | true => exact .inr ⟨rfl, rfl⟩
        | false => exact .inl rfl
end Go.Proofs.YtmnjdfdiokomhaaDoor.AI
