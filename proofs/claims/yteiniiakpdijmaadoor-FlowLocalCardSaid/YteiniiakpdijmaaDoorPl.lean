/- Plain facts: whole numbers that wrap, greatest and least, rows. -/
import Derived.Test.YteiniiakpdijmaaDoorAI22
namespace Go.Proofs.YteiniiakpdijmaaDoor.AI
open Go.RowKit
set_option linter.unusedVariables false

theorem wr_eq (n : Int) : wr n = (n + 9223372036854775808) % 18446744073709551616 - 9223372036854775808 := by
  unfold wr IntKind.wrap
  simp [IntKind.bits, IntKind.signed]
  try omega
theorem wr_in {n : Int} (h1 : -9223372036854775808 ≤ n) (h2 : n ≤ 9223372036854775807) : wr n = n := by rw [wr_eq]; omega
theorem maxI_eq (a b : Int) : maxI a b = max a b := by unfold maxI; split <;> omega
theorem minI_eq (a b : Int) : minI a b = min a b := by unfold minI; split <;> omega

theorem toI_i64 (n : Int) : toI (i64 n) = n := rfl
theorem toB_bo (b : Bool) : toB (bo b) = b := rfl

/-- The nearest number. -/
def nr (n : Int) : Int := max (-1048576) (min n 1048576)
theorem nr_in (n : Int) : -1048576 ≤ nr n ∧ nr n ≤ 1048576 := by unfold nr; omega
theorem nr_id {n : Int} (h1 : -1048576 ≤ n) (h2 : n ≤ 1048576) : nr n = n := by unfold nr; omega
theorem mul_bound {a b : Int} {A B : Int} (ha : -A ≤ a ∧ a ≤ A) (hb : -B ≤ b ∧ b ≤ B) (hA : 0 ≤ A) (hB : 0 ≤ B) : -(A * B) ≤ a * b ∧ a * b ≤ A * B := by
  have h1 : (a.natAbs * b.natAbs) ≤ A.natAbs * B.natAbs := Nat.mul_le_mul (by omega) (by omega)
  have h2 : (a * b).natAbs = a.natAbs * b.natAbs := Int.natAbs_mul a b
  have h3 : (A * B).natAbs = A.natAbs * B.natAbs := Int.natAbs_mul A B
  have h4 : 0 ≤ A * B := Int.mul_nonneg hA hB
  omega
theorem bif_and (a : Bool) (b : Bool) : (bif a then some b else some false) = some (a && b) := by cases a <;> rfl

/-! ### Arguments, leaf by leaf -/
def wf (k : IntKind) (n : Int) : Prop := (Lit.int k n).wf = true
theorem wf_i64 {n : Int} (h : wf .i64 n) : -9223372036854775808 ≤ n ∧ n ≤ 9223372036854775807 := by
  simpa [wf, Lit.wf, IntKind.min, IntKind.max, IntKind.bits, IntKind.signed] using h
theorem wf_u8 {n : Int} (h : wf .u8 n) : 0 ≤ n ∧ n ≤ 255 := by
  simpa [wf, Lit.wf, IntKind.min, IntKind.max, IntKind.bits, IntKind.signed] using h

theorem ty_int {P : Program} {k : IntKind} {v : AVal} (h : Ty P (.int k) v) : ∃ n, v = .sc (.int k n) ∧ wf k n := by
  cases h with
  | int _ n h => exact ⟨n, rfl, h⟩
theorem ty_bool {P : Program} {v : AVal} (h : Ty P .bool v) : ∃ b, v = .sc (.bool b) := by
  cases h with
  | bool b => exact ⟨b, rfl⟩
theorem ty_str {P : Program} {v : AVal} (h : Ty P .str v) : ∃ s : ByteArray, v = .sc (.string s) ∧ s.size ≤ reachBytes := by
  cases h with
  | str s h hb => exact ⟨s, rfl, hb⟩
theorem ty_sl {P : Program} {T E : Nat} {v : AVal} (h : Ty P (.sl T E) v) : ∃ rows, v = .ro E rows ∧ Ty P (.sl T E) (.ro E rows) := by
  cases h with
  | sl _ _ rows h1 h0 h2 h3 => exact ⟨rows, rfl, .sl _ _ rows h1 h0 h2 h3⟩
theorem tyL_cons {P : Program} {t : LT} {ts : List LT} {l : List AVal} (h : TyL P (t :: ts) l) : ∃ v l', l = v :: l' ∧ Ty P t v ∧ TyL P ts l' := by
  obtain ⟨h1, h2⟩ := h
  cases l with
  | nil => simp at h1
  | cons v l => exact ⟨v, l, rfl, h2 0 t v rfl rfl, by simpa using h1, fun j t v p q => h2 (j + 1) t v (by simpa using p) (by simpa using q)⟩
theorem tyL_nil {P : Program} {l : List AVal} (h : TyL P [] l) : l = [] := List.length_eq_zero_iff.1 h.1
theorem arg_agg {P : Program} {t : TypeId} {a : AVal} {ts : List LT} (hd : ((P.underlying t).map isAggD) = some true) (hl : leafOf P 8 t = ts) (h : ArgOk P t a) : ∃ l, a = .agg l ∧ TyL P ts l := by
  subst hl
  unfold ArgOk at h
  split at h
  · exact h
  · exact h
  · rename_i h1 h2
    cases hu : P.underlying t with
    | none => rw [hu] at hd; cases hd
    | some d =>
      rw [hu] at hd
      cases d <;> first | exact absurd hu (by first | exact h1 _ | exact h2 _ _) | cases hd
theorem arg_one {P : Program} {t : TypeId} {a : AVal} {lt : LT} (hd : ((P.underlying t).map isAggD) = some false) (hl : leafOf P 8 t = [lt]) (h : ArgOk P t a) : Ty P lt a := by
  unfold ArgOk at h
  have key : (∃ lt, leafOf P 8 t = [lt] ∧ Ty P lt a) → Ty P lt a := by
    rintro ⟨lt', h1, h2⟩
    rw [hl] at h1
    simp only [List.cons.injEq, and_true] at h1
    subst h1
    exact h2
  split at h
  · rename_i hu; rw [hu] at hd; cases hd
  · rename_i hu; rw [hu] at hd; cases hd
  · exact key h
theorem args_cons {P : Program} {t : TypeId} {ts : List TypeId} {us : List AVal} (h : ArgsOk P (t :: ts) us) : ∃ a us', us = a :: us' ∧ ArgOk P t a ∧ ArgsOk P ts us' := by
  cases us with
  | nil => exact h.elim
  | cons a us => exact ⟨a, us, rfl, h.1, h.2⟩
theorem args_nil {P : Program} {us : List AVal} (h : ArgsOk P [] us) : us = [] := by
  cases us with
  | nil => rfl
  | cons a us => exact h.elim
end Go.Proofs.YteiniiakpdijmaaDoor.AI
