/- The first row that fits. -/
import Derived.Test.YtoiimiohobollaaLp
namespace Go.Proofs.Ytoiimiohobollaa.AI
open Go.RowKit
set_option linter.unusedVariables false

/-! ### The first row that fits -/
def fdF {T : Type} (l : List (List AVal)) (p : List AVal → Bool) (g : Nat → T) (k : Nat) (_ : Unit) : Unit ⊕ T := bif p (l.getD k []) then .inr (g k) else .inl ()
def fdV {T : Type} (l : List (List AVal)) (p : List AVal → Bool) (g : Nat → T) (z : T) : T := match l.findIdx? p with | some k => g k | none => z
theorem iter_fd {T : Type} (l : List (List AVal)) (p : List AVal → Bool) (g : Nat → T) (z : T) : ∀ r k, k + r = l.length → iter (fdF l p g) (fun _ => z) r k () = match (l.drop k).findIdx? p with | some j => g (k + j) | none => z
  | 0, k, h => by rw [List.drop_eq_nil_of_le (by omega)]; rfl
  | r + 1, k, h => by
    have ih := iter_fd l p g z r (k + 1) (by omega)
    have hk : k < l.length := by omega
    have e : fdF l p g k () = bif p (l.getD k []) then .inr (g k) else .inl () := rfl
    have hd : l.getD k [] = l[k] := by simp [List.getD, hk]
    unfold iter
    rw [e, List.drop_eq_getElem_cons hk, List.findIdx?_cons, hd]
    cases p l[k] with
    | true => rfl
    | false =>
      simp only [cond_false, Bool.false_eq_true, if_false]
      rw [ih]
      cases (l.drop (k + 1)).findIdx? p with
      | none => rfl
      | some j => show g (k + 1 + j) = g (k + (j + 1)); congr 1; omega
theorem find_loop {T : Type} (G : Nat → Int → Option T) (l : List (List AVal)) (p : List AVal → Bool) (g : Nat → T) (z : T) (hn : l.length ≤ maxLen)
    (hstep : ∀ m k, k < l.length → G (m + 1) (k : Int) = bif p (l.getD k []) then some (g k) else G m ((k + 1 : Nat) : Int)) (hexit : ∀ m, G (m + 1) (l.length : Int) = some z) :
    G FU 0 = some (fdV l p g z) := by
  have hm : maxLen = 9223372036854775807 := by decide
  have key := run_loop (fun m (_ : Unit) i => G m i) (fdF l p g) (fun _ => z) l.length (fun _ _ => True)
    (fun m k _ hk _ => by
      have e : fdF l p g k () = bif p (l.getD k []) then .inr (g k) else .inl () := rfl
      show G (m + 1) (k : Int) = _
      rw [hstep m k hk, e]
      cases p (l.getD k []) <;> rfl)
    (fun _ _ _ _ _ _ => trivial) (fun m _ _ => hexit m) l.length FU 0 () (by omega) (by unfold FU; omega) trivial
  have := iter_fd l p g z l.length 0 (by omega)
  refine (key.trans (congrArg some this)).trans ?_
  rw [List.drop_zero]
  unfold fdV
  cases l.findIdx? p with
  | none => rfl
  | some j => show some (g (0 + j)) = some (g j); rw [Nat.zero_add]
theorem fd_lt {l : List (List AVal)} {p : List AVal → Bool} {k : Nat} (h : l.findIdx? p = some k) : k < l.length ∧ p (l.getD k []) = true := by
  obtain ⟨h1, h2, _⟩ := List.findIdx?_eq_some_iff_getElem.1 h
  exact ⟨h1, by rw [show l.getD k [] = l[k] by simp [List.getD, h1]]; exact h2⟩

end Go.Proofs.Ytoiimiohobollaa.AI
