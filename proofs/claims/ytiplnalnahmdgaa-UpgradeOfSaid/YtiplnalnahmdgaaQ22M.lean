/- Chapter 22: the laws on effective types. -/
import Derived.Test.YtiplnalnahmdgaaQ22L
namespace Go.Proofs.Ytiplnalnahmdgaa.AI
open Go.RowKit
set_option linter.unusedVariables false
set_option linter.unusedSimpArgs false

/-! ### The first row that fits -/
def fdF {T : Type} (l : List (List AVal)) (p : List AVal → Bool) (g : Nat → T) (k : Nat) (_ : Unit) : Unit ⊕ T := bif p (l.getD k []) then .inr (g k) else .inl ()
def fdV {T : Type} (l : List (List AVal)) (p : List AVal → Bool) (g : Nat → T) (z : T) : T := match l.findIdx? p with | some k => g k | none => z
theorem iter_fd {T : Type} (l : List (List AVal)) (p : List AVal → Bool) (g : Nat → T) (z : T) : ∀ r k, k + r = l.length → iter (fdF l p g) (fun _ => z) r k () = match (l.drop k).findIdx? p with | some j => g (k + j) | none => z
  | 0, k, h => by rw [List.drop_eq_nil_of_le (by omega)]; rfl
  | r + 1, k, h => by
    have ih := iter_fd l p g z r (k + 1) (by omega)
    have hk : k < l.length := by omega
    have e : fdF l p g k () = bif p (l.getD k []) then .inr (g k) else .inl () := rfl
    have hd : l.getD k [] = l[k] := by simp [List.getD, hk]
    unfold iter
    rw [e, List.drop_eq_getElem_cons hk, List.findIdx?_cons, hd]
    cases p l[k] with
    | true => rfl
    | false =>
      simp only [cond_false, Bool.false_eq_true, if_false]
      rw [ih]
      cases (l.drop (k + 1)).findIdx? p with
      | none => rfl
      | some j => show g (k + 1 + j) = g (k + (j + 1)); congr 1; omega
theorem find_loop {T : Type} (G : Nat → Int → Option T) (l : List (List AVal)) (p : List AVal → Bool) (g : Nat → T) (z : T) (hn : l.length ≤ maxLen)
    (hstep : ∀ m k, k < l.length → G (m + 1) (k : Int) = bif p (l.getD k []) then some (g k) else G m ((k + 1 : Nat) : Int)) (hexit : ∀ m, G (m + 1) (l.length : Int) = some z) :
    G FU 0 = some (fdV l p g z) := by
  have hm : maxLen = 9223372036854775807 := by decide
  have key := run_loop (fun m (_ : Unit) i => G m i) (fdF l p g) (fun _ => z) l.length (fun _ _ => True)
    (fun m k _ hk _ => by
      have e : fdF l p g k () = bif p (l.getD k []) then .inr (g k) else .inl () := rfl
      show G (m + 1) (k : Int) = _
      rw [hstep m k hk, e]
      cases p (l.getD k []) <;> rfl)
    (fun _ _ _ _ _ _ => trivial) (fun m _ _ => hexit m) l.length FU 0 () (by omega) (by unfold FU; omega) trivial
  have := iter_fd l p g z l.length 0 (by omega)
  refine (key.trans (congrArg some this)).trans ?_
  rw [List.drop_zero]
  unfold fdV
  cases l.findIdx? p with
  | none => rfl
  | some j => show some (g (0 + j)) = some (g j); rw [Nat.zero_add]
theorem fd_lt {l : List (List AVal)} {p : List AVal → Bool} {k : Nat} (h : l.findIdx? p = some k) : k < l.length ∧ p (l.getD k []) = true := by
  obtain ⟨h1, h2, _⟩ := List.findIdx?_eq_some_iff_getElem.1 h
  exact ⟨h1, by rw [show l.getD k [] = l[k] by simp [List.getD, h1]]; exact h2⟩

/-! ### Units -/
abbrev UT := ByteArray × Bool × Bool × Int × Int × Int × Int × Int × Int × Int × Int × Int × ByteArray × Int × Int × Int × List (List AVal) × List (List AVal) × List (List AVal) × Bool
def uT (r : List AVal) : UT := (cS r 0, cB r 1, cB r 2, cI r 3, cI r 4, cI r 5, cI r 6, cI r 7, cI r 8, cI r 9, cI r 10, cI r 11, cS r 12, cI r 13, cI r 14, cI r 15, cR r 16, cR r 17, cR r 18, true)
def zT : UT := (⟨#[]⟩, false, false, 0, 0, 0, 0, 0, 0, 0, 0, 0, ⟨#[]⟩, 0, 0, 0, [], [], [], false)
/-- The unit of a name, and whether there is one. -/
def uV (us : List (List AVal)) (n : ByteArray) : UT := fdV us (fun r => seq (cS r 0) n) (fun k => uT (us.getD k [])) zT
theorem unit_g (us : List (List AVal)) (n : ByteArray) (h : TyUnits us) : F_rules_find_UnitType us n = some (uV us n) := by
  have hm : maxLen = 9223372036854775807 := by decide
  have key := find_loop (fun m i => G_rules_find_UnitType_0 n us us.length m i) us (fun r => seq (cS r 0) n) (fun k => let r := us.getD k []; (true, cS r 0, cB r 1, cB r 2, cI r 3, cI r 4, cI r 5, cI r 6, cI r 7, cI r 8, cI r 9, cI r 10, cI r 11, cS r 12, cI r 13, cI r 14, cI r 15, cR r 16, cR r 17, cR r 18)) (false, ⟨#[]⟩, false, false, 0, 0, 0, 0, 0, 0, 0, 0, 0, ⟨#[]⟩, 0, 0, 0, [], [], []) (ty_rows h).1
    (fun m k hk => by
      obtain ⟨q1, q2, _⟩ := okR_get (okUnits h) hk
      have hl := (ty_rows h).1
      have d1 : (k : Int) < us.length := by omega
      have d2 : (0 : Int) ≤ k := by omega
      simp only [G_rules_find_UnitType_0, F_rules_unitName, d1, d2, decide_true, cond_true, Int.toNat_natCast, q1, q2, Option.bind_some, wr_next hk (by omega)]
      rfl)
    (fun m => by
      have d1 : ¬ (us.length : Int) < us.length := by omega
      simp only [G_rules_find_UnitType_0, d1, decide_false, cond_false])
  have key' : G_rules_find_UnitType_0 n us us.length FU 0 = _ := key
  simp only [F_rules_find_UnitType, Int.ofNat_eq_natCast, key', Option.bind_some]
  unfold uV fdV
  cases us.findIdx? (fun r => seq (cS r 0) n) <;> rfl
theorem unit_r (us ws ts : List (List AVal)) (n : ByteArray) (h : TyUnits us) : F_skirmishref09_Unit us ws ts n = some (uV us n) := by
  have hm : maxLen = 9223372036854775807 := by decide
  have key := find_loop (fun m i => G_skirmishref09_Unit_0 n us m i) us (fun r => seq (cS r 0) n) (fun k => let r := us.getD k []; (true, cS r 0, cB r 1, cB r 2, cI r 3, cI r 4, cI r 5, cI r 6, cI r 7, cI r 8, cI r 9, cI r 10, cI r 11, cS r 12, cI r 13, cI r 14, cI r 15, cR r 16, cR r 17, cR r 18)) (false, ⟨#[]⟩, false, false, 0, 0, 0, 0, 0, 0, 0, 0, 0, ⟨#[]⟩, 0, 0, 0, [], [], []) (ty_rows h).1
    (fun m k hk => by
      obtain ⟨q1, q2, _⟩ := okR_get (okUnits h) hk
      have hl := (ty_rows h).1
      have d1 : (k : Int) < us.length := by omega
      have d2 : (0 : Int) ≤ k := by omega
      simp only [G_skirmishref09_Unit_0, Int.ofNat_eq_natCast, d1, d2, decide_true, cond_true, Int.toNat_natCast, q1, q2, Option.bind_some, wr_next hk (by omega)]
      rfl)
    (fun m => by
      have d1 : ¬ (us.length : Int) < us.length := by omega
      simp only [G_skirmishref09_Unit_0, Int.ofNat_eq_natCast, d1, decide_false, cond_false])
  have key' : G_skirmishref09_Unit_0 n us FU 0 = _ := key
  simp only [F_skirmishref09_Unit, key', Option.bind_some]
  unfold uV fdV
  cases us.findIdx? (fun r => seq (cS r 0) n) <;> rfl
theorem clone_n {l : List (List AVal)} (h : TyNames l) : F_slices_Clone_string l = some l := by
  have hb := (ty_rows h).2.2
  rw [show Try.prog.bytesOf 9 = 16 by kernel_rfl] at hb
  have hl : l.length ≤ 140737488355328 := by simp only [reachBytes] at hb; omega
  have r : roomOk (0 + l.length) 16 = true := by
    simp only [reachBytes] at hb
    simp [roomOk]; omega
  simp only [F_slices_Clone_string, F_slices_Clone_string_ne, r, cond_true]
  cases l <;> rfl
theorem same_n (l : List (List AVal)) (h : TyNames l) : F_skirmishref09_SameNames l l = some true := by
  have hm : maxLen = 9223372036854775807 := by decide
  obtain ⟨o1, o2⟩ := okNames h
  have key := run_loop (fun m (_ : Unit) i => G_skirmishref09_SameNames_0 l l m i) (fun _ _ => .inl ()) (fun _ => false) l.length (fun _ _ => True)
    (fun m k _ hk _ => by
      obtain ⟨q1, q2, _⟩ := okR_get o1 hk
      have d1 : (k : Int) < l.length := by omega
      have d2 : (0 : Int) ≤ k := by omega
      have e : List.beq (ByteArray.toList (cS (l.getD k []) 0)) (ByteArray.toList (cS (l.getD k []) 0)) = true := seq_rfl _
      simp only [G_skirmishref09_SameNames_0, Int.ofNat_eq_natCast, d1, d2, decide_true, cond_true, Int.toNat_natCast, q1, q2, Option.bind_some, wr_next hk (by omega), e, Bool.not_true, cond_false])
    (fun _ _ _ _ _ _ => trivial)
    (fun m _ _ => by
      have d1 : ¬ (l.length : Int) < l.length := by omega
      simp only [G_skirmishref09_SameNames_0, Int.ofNat_eq_natCast, d1, decide_false, cond_false]) l.length FU 0 () (by omega) (by unfold FU; omega) trivial
  have hv : ∀ r k, iter (fun (_ : Nat) (_ : Unit) => (.inl () : Unit ⊕ Bool)) (fun _ => false) r k () = false := by
    intro r
    induction r with
    | zero => intro k; rfl
    | succ r ih => intro k; exact ih (k + 1)
  have key' : G_skirmishref09_SameNames_0 l l FU 0 = some false := key.trans (congrArg some (hv _ _))
  simp only [F_skirmishref09_SameNames, bne_self_eq_false, cond_false, key', Option.bind_some]
theorem seq_self (a : ByteArray) : List.beq (ByteArray.toList a) (ByteArray.toList a) = true := seq_rfl a
theorem same_u (a : ByteArray) (b c : Bool) (d e f g h i j k l : Int) (w : ByteArray) (o p q : Int) (x y z : List (List AVal)) (hx : TyNames x) (hy : TyNames y) (hz : TyNames z) :
    F_skirmishref09_SameUnit a b c d e f g h i j k l w o p q x y z a b c d e f g h i j k l w o p q x y z = some true := by
  simp only [F_skirmishref09_SameUnit, beq_self_eq_true, cond_true, seq_self, same_n x hx, same_n y hy, same_n z hz, Option.bind_some]
theorem names_nil : TyNames [] := .sl 9 1 [] (by simp) (by simp) (fun r hr => by cases hr) (fun r hr => by cases hr)

/-! ### Numbers raised -/
def rs (n b lo hi : Int) : Int := max lo (min (max (-1152921504606846976) (min n 1152921504606846976) + b) hi)
theorem with_r (n b lo hi : Int) (h1 : -100000000000 ≤ b ∧ b ≤ 100000000000) (h2 : 0 ≤ lo) (h3 : lo ≤ hi) (h4 : hi ≤ 100000) : F_skirmishref22_with n b lo hi = some (rs n b lo hi) := by
  simp only [F_skirmishref22_with, clamp_r, Option.bind_some]
  rw [wr_in (by omega) (by omega)]
  unfold rs
  congr 1
  omega
theorem raise_g (us ws ts techs : List (List AVal)) (u : ByteArray) (n st lo hi : Int) (hts : okR techT ts) (hn : ts.length ≤ 1000000) (hl : okR [.str] techs) (hm : techs.length ≤ maxLen) :
    F_upgrade_raiser__stat us ws ts techs u n st lo hi = some (rs n (sumN (hasN techs) u st ts ts.length) lo hi) := by
  have hb := sumN_in (hasN techs) u st ts ts.length (by omega)
  simp only [F_upgrade_raiser__stat, F_upgrade_newRaiser_1, clamp_g, Option.bind_some, stat_g us ws ts techs u st hts hn hl hm]
  rw [wr_in (by omega) (by omega)]
  rfl
end Go.Proofs.Ytiplnalnahmdgaa.AI
