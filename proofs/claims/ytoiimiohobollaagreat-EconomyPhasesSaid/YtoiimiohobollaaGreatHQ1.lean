/- The plain law EconomyPhases and what it needs: what both programs answer is told and compared, with no program in sight. -/
import Derived.IntWalk
import Derived.Laws.BitsLemmas
import Derived.Test.YtoiimiohobollaaGreatHP3
import Derived.Test.YtoiimiohobollaaGreatHA2
namespace Go.Proofs.YtoiimiohobollaaGreat.AI
open Go.RowKit
set_option linter.unusedVariables false
set_option linter.unusedSimpArgs false
set_option maxRecDepth 20000
theorem wr_eq (n : Int) : wr n = (n + 9223372036854775808) % 18446744073709551616 - 9223372036854775808 := by
  unfold wr IntKind.wrap
  simp [IntKind.bits, IntKind.signed]
  try omega
theorem wr_in {n : Int} (h1 : -9223372036854775808 ≤ n) (h2 : n ≤ 9223372036854775807) : wr n = n := by rw [wr_eq]; omega
theorem maxI_eq (a b : Int) : maxI a b = max a b := by unfold maxI; split <;> omega
theorem minI_eq (a b : Int) : minI a b = min a b := by unfold minI; split <;> omega
def nr (n : Int) : Int := max (-1048576) (min n 1048576)
theorem nr_in (n : Int) : -1048576 ≤ nr n ∧ nr n ≤ 1048576 := by unfold nr; omega
theorem nr_id {n : Int} (h1 : -1048576 ≤ n) (h2 : n ≤ 1048576) : nr n = n := by unfold nr; omega
theorem mul_bound {a b : Int} {A B : Int} (ha : -A ≤ a ∧ a ≤ A) (hb : -B ≤ b ∧ b ≤ B) (hA : 0 ≤ A) (hB : 0 ≤ B) : -(A * B) ≤ a * b ∧ a * b ≤ A * B := by
  have h1 : (a.natAbs * b.natAbs) ≤ A.natAbs * B.natAbs := Nat.mul_le_mul (by omega) (by omega)
  have h2 : (a * b).natAbs = a.natAbs * b.natAbs := Int.natAbs_mul a b
  have h3 : (A * B).natAbs = A.natAbs * B.natAbs := Int.natAbs_mul A B
  have h4 : 0 ≤ A * B := Int.mul_nonneg hA hB
  omega
theorem bif_and (a b : Bool) : (bif a then some b else some false) = some (a && b) := by cases a <;> rfl
def wf (k : IntKind) (n : Int) : Prop := (Lit.int k n).wf = true
theorem wf_i64 {n : Int} (h : wf .i64 n) : -9223372036854775808 ≤ n ∧ n ≤ 9223372036854775807 := by
  simpa [wf, Lit.wf, IntKind.min, IntKind.max, IntKind.bits, IntKind.signed] using h
theorem ty_int {P : Program} {k : IntKind} {v : AVal} (h : Ty P (.int k) v) : ∃ n, v = .sc (.int k n) ∧ wf k n := by
  cases h with
  | int _ n h => exact ⟨n, rfl, h⟩
theorem ty_bool {P : Program} {v : AVal} (h : Ty P .bool v) : ∃ b, v = .sc (.bool b) := by
  cases h with
  | bool b => exact ⟨b, rfl⟩
theorem ty_str {P : Program} {v : AVal} (h : Ty P .str v) : ∃ s : ByteArray, v = .sc (.string s) ∧ s.size ≤ reachBytes := by
  cases h with
  | str s h hb => exact ⟨s, rfl, hb⟩
theorem ty_sl {P : Program} {T E : Nat} {v : AVal} (h : Ty P (.sl T E) v) : ∃ rows, v = .ro E rows ∧ Ty P (.sl T E) (.ro E rows) := by
  cases h with
  | sl _ _ rows h1 h0 h2 h3 => exact ⟨rows, rfl, .sl _ _ rows h1 h0 h2 h3⟩
theorem tyL_cons {P : Program} {t : LT} {ts : List LT} {l : List AVal} (h : TyL P (t :: ts) l) : ∃ v l', l = v :: l' ∧ Ty P t v ∧ TyL P ts l' := by
  obtain ⟨h1, h2⟩ := h
  cases l with
  | nil => simp at h1
  | cons v l => exact ⟨v, l, rfl, h2 0 t v rfl rfl, by simpa using h1, fun j t v p q => h2 (j + 1) t v (by simpa using p) (by simpa using q)⟩
theorem tyL_nil {P : Program} {l : List AVal} (h : TyL P [] l) : l = [] := List.length_eq_zero_iff.1 h.1
theorem arg_agg {P : Program} {t : TypeId} {a : AVal} {ts : List LT} (hd : ((P.underlying t).map isAggD) = some true) (hl : leafOf P 8 t = ts) (h : ArgOk P t a) : ∃ l, a = .agg l ∧ TyL P ts l := by
  subst hl
  unfold ArgOk at h
  split at h
  · exact h
  · exact h
  · rename_i h1 h2
    cases hu : P.underlying t with
    | none => rw [hu] at hd; cases hd
    | some d =>
      rw [hu] at hd
      cases d <;> first | exact absurd hu (by first | exact h1 _ | exact h2 _ _) | cases hd
theorem arg_one {P : Program} {t : TypeId} {a : AVal} {lt : LT} (hd : ((P.underlying t).map isAggD) = some false) (hl : leafOf P 8 t = [lt]) (h : ArgOk P t a) : Ty P lt a := by
  unfold ArgOk at h
  have key : (∃ lt, leafOf P 8 t = [lt] ∧ Ty P lt a) → Ty P lt a := by
    rintro ⟨lt', h1, h2⟩
    rw [hl] at h1
    simp only [List.cons.injEq, and_true] at h1
    subst h1
    exact h2
  split at h
  · rename_i hu; rw [hu] at hd; cases hd
  · rename_i hu; rw [hu] at hd; cases hd
  · exact key h
theorem args_cons {P : Program} {t : TypeId} {ts : List TypeId} {us : List AVal} (h : ArgsOk P (t :: ts) us) : ∃ a us', us = a :: us' ∧ ArgOk P t a ∧ ArgsOk P ts us' := by
  cases us with
  | nil => exact h.elim
  | cons a us => exact ⟨a, us, rfl, h.1, h.2⟩
theorem args_nil {P : Program} {us : List AVal} (h : ArgsOk P [] us) : us = [] := by
  cases us with
  | nil => rfl
  | cons a us => exact h.elim
def iter {σ T : Type} (f : Nat → σ → σ ⊕ T) (e : σ → T) : Nat → Nat → σ → T
  | 0, _, s => e s
  | r + 1, k, s => match f k s with
    | .inl s' => iter f e r (k + 1) s'
    | .inr t => t
theorem run_loop {σ T : Type} (G : Nat → σ → Int → Option T) (f : Nat → σ → σ ⊕ T) (e : σ → T) (n : Nat) (I : Nat → σ → Prop)
    (hstep : ∀ m k s, k < n → I k s → G (m + 1) s (k : Int) = match f k s with | .inl s' => G m s' ((k + 1 : Nat) : Int) | .inr t => some t)
    (hI : ∀ k s s', k < n → I k s → f k s = .inl s' → I (k + 1) s')
    (hexit : ∀ m s, I n s → G (m + 1) s (n : Int) = some (e s)) :
    ∀ (r m k : Nat) (s : σ), k + r = n → r < m → I k s → G m s (k : Int) = some (iter f e r k s)
  | 0, m, k, s, h1, h2, hi => by
    obtain ⟨m, rfl⟩ : ∃ q, m = q + 1 := ⟨m - 1, by omega⟩
    obtain rfl : k = n := by omega
    exact hexit m s hi
  | r + 1, m, k, s, h1, h2, hi => by
    obtain ⟨m, rfl⟩ : ∃ q, m = q + 1 := ⟨m - 1, by omega⟩
    rw [hstep m k s (by omega) hi]
    unfold iter
    cases h : f k s with
    | inr t => rfl
    | inl s' => exact run_loop G f e n I hstep hI hexit r m (k + 1) s' (by omega) (by omega) (hI k s s' (by omega) hi h)
theorem iter_inv {σ T : Type} {f : Nat → σ → σ ⊕ T} {e : σ → T} (Q : T → Prop) (n : Nat) (I : Nat → σ → Prop) (hI : ∀ k s s', k < n → I k s → f k s = .inl s' → I (k + 1) s') (hr : ∀ k s t, k < n → I k s → f k s = .inr t → Q t) (he : ∀ s, I n s → Q (e s)) :
    ∀ r k s, k + r = n → I k s → Q (iter f e r k s)
  | 0, k, s, h1, hi => by
    obtain rfl : k = n := by omega
    exact he s hi
  | r + 1, k, s, h1, hi => by
    unfold iter
    cases h : f k s with
    | inr t => exact hr k s t (by omega) hi h
    | inl s' => exact iter_inv Q n I hI hr he r (k + 1) s' (by omega) (hI k s s' (by omega) hi h)
theorem loop_some {σ T : Type} (G : Nat → σ → Int → Option T) (n : Nat)
    (hstep : ∀ k s, k < n → (∃ s', ∀ m, G (m + 1) s (k : Int) = G m s' ((k + 1 : Nat) : Int)) ∨ ∃ t, ∀ m, G (m + 1) s (k : Int) = some t)
    (hexit : ∀ s, ∃ t, ∀ m, G (m + 1) s (n : Int) = some t) : ∀ (r m k : Nat) (s : σ), k + r = n → r < m → ∃ t, G m s (k : Int) = some t
  | 0, m, k, s, h1, h2 => by
    obtain ⟨m, rfl⟩ : ∃ q, m = q + 1 := ⟨m - 1, by omega⟩
    obtain rfl : k = n := by omega
    obtain ⟨t, ht⟩ := hexit s
    exact ⟨t, ht m⟩
  | r + 1, m, k, s, h1, h2 => by
    obtain ⟨m, rfl⟩ : ∃ q, m = q + 1 := ⟨m - 1, by omega⟩
    rcases hstep k s (by omega) with ⟨s', h⟩ | ⟨t, h⟩
    · rw [h m]
      exact loop_some G n hstep hexit r m (k + 1) s' (by omega) (by omega)
    · exact ⟨t, h m⟩
theorem wr_next {k n : Nat} (h : k < n) (hn : n ≤ 9223372036854775807) : wr ((k : Int) + 1) = ((k + 1 : Nat) : Int) := by rw [wr_in (by omega) (by omega)]; simp
def okR (ts : List LT) (l : LL) : Prop := ∀ r ∈ l, chk ts r = true
theorem okR_get {ts : List LT} {l : LL} (h : okR ts l) {k : Nat} (hk : k < l.length) : l[k]? = some (l.getD k []) ∧ chk ts (l.getD k []) = true ∧ l.getD k [] ∈ l := by
  have : l.getD k [] = l[k] := by simp [List.getD, hk]
  rw [this]
  exact ⟨List.getElem?_eq_getElem hk, h _ (List.getElem_mem hk), List.getElem_mem hk⟩
theorem chkL_of {P : Program} {t : LT} {v : AVal} (h : Ty P t v) : chkL t v = true := by
  cases h with
  | int k n h => cases k <;> rfl
  | bool b => rfl
  | str s h hb => rfl
  | sl T E rows hl hb hn h => simp [chkL]
theorem chkFrom_of {P : Program} : ∀ (ts : List LT) (j : Nat) (r : List AVal), r.length = j + ts.length → (∀ (i : Nat) (t : LT) (v : AVal), ts[i]? = some t → r[j + i]? = some v → Ty P t v) → chkFrom ts j r = true
  | [], j, r, h1, h2 => rfl
  | t :: ts, j, r, h1, h2 => by
    simp only [List.length_cons] at h1
    have hj : j < r.length := by omega
    have e : r.getD j .dead = r[j] := by simp [List.getD, hj]
    simp only [chkFrom, Bool.and_eq_true, e]
    exact ⟨chkL_of (h2 0 t r[j] rfl (by simp [hj])), chkFrom_of ts (j + 1) r (by omega) fun i t' v p q => h2 (i + 1) t' v (by simpa using p) (by rw [← q]; congr 1; omega)⟩
theorem ty_rows {P : Program} {T E : Nat} {rows : LL} (h : Ty P (.sl T E) (.ro E rows)) : rows.length ≤ maxLen ∧ (∀ r ∈ rows, TyL P (leafOf P 8 T) r) ∧ rows.length * P.bytesOf T ≤ reachBytes := by
  cases h with
  | sl _ _ _ hl hb hn h => exact ⟨hl, fun r hr => ⟨hn r hr, fun j t v p q => h r hr j t v p q⟩, hb⟩
theorem okR_of {P : Program} {T E : Nat} {rows : LL} {ts : List LT} (hl : leafOf P 8 T = ts) (h : Ty P (.sl T E) (.ro E rows)) : okR ts rows := fun r hr => by
  subst hl
  obtain ⟨q1, q2⟩ := (ty_rows h).2.1 r hr
  unfold chk
  rw [chkFrom_of (P := P) _ 0 r (by omega) fun i t v p q => q2 i t v p (by simpa using q), Bool.and_true]
  simp [q1]
theorem tyL_get {P : Program} {ts : List LT} {r : List AVal} (h : TyL P ts r) {j : Nat} {t : LT} (ht : ts[j]? = some t) : Ty P t (r.getD j .dead) := by
  have hj : j < r.length := by rw [h.1]; exact (List.getElem?_eq_some_iff.1 ht).1
  have e : r.getD j .dead = r[j] := by simp [List.getD, hj]
  rw [e]
  exact h.2 j t _ ht (by simp [hj])
theorem tyL_int {P : Program} {ts : List LT} {r : List AVal} (h : TyL P ts r) {j : Nat} (ht : ts[j]? = some (.int .i64)) : -9223372036854775808 ≤ cI r j ∧ cI r j ≤ 9223372036854775807 := by
  obtain ⟨n, e, w⟩ := ty_int (tyL_get h ht)
  unfold cI
  rw [e]
  exact wf_i64 w
theorem tyL_sl {P : Program} {ts : List LT} {r : List AVal} (h : TyL P ts r) {j T E : Nat} (ht : ts[j]? = some (.sl T E)) : Ty P (.sl T E) (.ro E (cR r j)) := by
  obtain ⟨rows, e, w⟩ := ty_sl (tyL_get h ht)
  unfold cR
  rw [e]
  exact w
theorem tyL_str {P : Program} {ts : List LT} {r : List AVal} (h : TyL P ts r) {j : Nat} (ht : ts[j]? = some .str) : (cS r j).size ≤ reachBytes := by
  obtain ⟨s, e, w⟩ := ty_str (tyL_get h ht)
  unfold cS
  rw [e]
  exact w
def seq (a b : ByteArray) : Bool := List.beq (ByteArray.toList a) (ByteArray.toList b)
theorem lbeq_iff : ∀ (a b : List UInt8), List.beq a b = true ↔ a = b
  | [], [] => by simp [List.beq]
  | [], _ :: _ => by simp [List.beq]
  | _ :: _, [] => by simp [List.beq]
  | x :: a, y :: b => by simp [List.beq, lbeq_iff a b]
theorem seq_iff {a b : ByteArray} : seq a b = true ↔ a.toList = b.toList := lbeq_iff _ _
theorem seq_rfl (a : ByteArray) : seq a a = true := seq_iff.2 rfl
def hasN (l : LL) (s : ByteArray) : Bool := l.any fun r => seq (cS r 0) s
def hasF (l : LL) (s : ByteArray) (k : Nat) (_ : Unit) : Unit ⊕ Bool := bif seq (cS (l.getD k []) 0) s then .inr true else .inl ()
theorem any_drop {α : Type} {l : List α} {p : α → Bool} {d : α} {k : Nat} (hk : k < l.length) : (l.drop k).any p = (p (l.getD k d) || (l.drop (k + 1)).any p) := by
  rw [List.drop_eq_getElem_cons hk, List.any_cons, List.getD_eq_getElem?_getD, List.getElem?_eq_getElem hk]
  rfl
theorem iter_has (l : LL) (s : ByteArray) : ∀ r k, k + r = l.length → iter (hasF l s) (fun _ => false) r k () = (l.drop k).any fun r => seq (cS r 0) s
  | 0, k, h => by rw [List.drop_eq_nil_of_le (by omega)]; rfl
  | r + 1, k, h => by
    have ih := iter_has l s r (k + 1) (by omega)
    have e : hasF l s k () = bif seq (cS (l.getD k []) 0) s then .inr true else .inl () := rfl
    unfold iter
    rw [any_drop (d := []) (by omega), e]
    cases seq (cS (l.getD k []) 0) s with
    | true => rfl
    | false => exact ih
theorem iter_has0 (l : LL) (s : ByteArray) : iter (hasF l s) (fun _ => false) l.length 0 () = hasN l s := by
  rw [iter_has l s l.length 0 (by omega)]
  rfl
theorem bind_bif {α β : Type} (c : Bool) (a b : Option α) (f : α → Option β) : (bif c then a else b).bind f = bif c then a.bind f else b.bind f := by cases c <;> rfl
theorem bind_bind {α β γ : Type} (x : Option α) (f : α → Option β) (g : β → Option γ) : (x.bind f).bind g = x.bind fun a => (f a).bind g := by cases x <;> rfl
theorem bind_some' {α β : Type} (x : α) (f : α → Option β) : (some x).bind f = f x := rfl
theorem bind_none' {α β : Type} (f : α → Option β) : (none : Option α).bind f = none := rfl
def anyF (p : Nat → Option Bool) : Nat → Nat → Option Bool
  | 0, _ => some false
  | r + 1, k => (p k).bind fun t => bif t then some true else anyF p r (k + 1)
def anyO (p : Nat → Option Bool) (n : Nat) : Option Bool := anyF p n 0
theorem any_run (G : Nat → Int → Option Bool) (p : Nat → Option Bool) (n : Nat) (hn : n ≤ maxLen)
    (hstep : ∀ m k, k < n → G (m + 1) (k : Int) = (p k).bind fun t => bif t then some true else G m ((k + 1 : Nat) : Int)) (hexit : ∀ m, G (m + 1) (n : Int) = some false) : G FU 0 = anyO p n := by
  have key : ∀ (r m k : Nat), k + r = n → r < m → G m (k : Int) = anyF p r k := by
    intro r
    induction r with
    | zero =>
      intro m k e1 e2
      obtain ⟨m, rfl⟩ : ∃ q, m = q + 1 := ⟨m - 1, by omega⟩
      obtain rfl : k = n := by omega
      exact hexit m
    | succ r ih =>
      intro m k e1 e2
      obtain ⟨m, rfl⟩ : ∃ q, m = q + 1 := ⟨m - 1, by omega⟩
      rw [hstep m k (by omega)]
      unfold anyF
      cases p k with
      | none => rfl
      | some t =>
        cases t with
        | true => rfl
        | false => exact ih m (k + 1) (by omega) (by omega)
  have hm : maxLen = 9223372036854775807 := by decide
  exact key n FU 0 (by omega) (by unfold FU; omega)
theorem anyF_false (p : Nat → Option Bool) : ∀ (r k : Nat), anyF p r k = some false ↔ ∀ j, k ≤ j → j < k + r → p j = some false
  | 0, k => ⟨fun _ j h1 h2 => by omega, fun _ => rfl⟩
  | r + 1, k => by
    have ih := anyF_false p r (k + 1)
    unfold anyF
    constructor
    · intro h j h1 h2
      cases hp : p k with
      | none => rw [hp] at h; cases h
      | some t =>
        rw [hp] at h
        cases t with
        | true => cases h
        | false =>
          by_cases e : j = k
          · rw [e, hp]
          · exact ih.1 h j (by omega) (by omega)
    · intro h
      rw [h k (by omega) (by omega)]
      exact ih.2 fun j h1 h2 => h j (by omega) (by omega)
theorem anyO_false {p : Nat → Option Bool} {n : Nat} : anyO p n = some false ↔ ∀ k, k < n → p k = some false := by
  unfold anyO
  rw [anyF_false]
  exact ⟨fun h k hk => h k (by omega) (by omega), fun h k _ hk => h k (by omega)⟩
theorem anyF_some {p : Nat → Option Bool} : ∀ (r k : Nat), (∀ j, k ≤ j → j < k + r → ∃ b, p j = some b) → ∃ b, anyF p r k = some b
  | 0, k, _ => ⟨false, rfl⟩
  | r + 1, k, h => by
    obtain ⟨b, hb⟩ := h k (by omega) (by omega)
    obtain ⟨c, hc⟩ := anyF_some r (k + 1) fun j h1 h2 => h j (by omega) (by omega)
    unfold anyF
    rw [hb]
    cases b with
    | true => exact ⟨true, rfl⟩
    | false => exact ⟨c, hc⟩
theorem anyO_some {p : Nat → Option Bool} {n : Nat} (h : ∀ k, k < n → ∃ b, p k = some b) : ∃ b, anyO p n = some b := anyF_some n 0 fun j _ h2 => h j (by omega)
theorem anyO_congr {p q : Nat → Option Bool} {n : Nat} (h : ∀ k, k < n → p k = q k) : anyO p n = anyO q n := by
  have key : ∀ (r k : Nat), k + r ≤ n → anyF p r k = anyF q r k := by
    intro r
    induction r with
    | zero => intro k _; rfl
    | succ r ih =>
      intro k hk
      unfold anyF
      rw [h k (by omega), ih (k + 1) (by omega)]
  exact key n 0 (by omega)
def fdF {T : Type} (l : LL) (p : List AVal → Bool) (g : Nat → T) (k : Nat) (_ : Unit) : Unit ⊕ T := bif p (l.getD k []) then .inr (g k) else .inl ()
def fdV {T : Type} (l : LL) (p : List AVal → Bool) (g : Nat → T) (z : T) : T := match l.findIdx? p with | some k => g k | none => z
theorem iter_fd {T : Type} (l : LL) (p : List AVal → Bool) (g : Nat → T) (z : T) : ∀ r k, k + r = l.length → iter (fdF l p g) (fun _ => z) r k () = match (l.drop k).findIdx? p with | some j => g (k + j) | none => z
  | 0, k, h => by rw [List.drop_eq_nil_of_le (by omega)]; rfl
  | r + 1, k, h => by
    have ih := iter_fd l p g z r (k + 1) (by omega)
    have hk : k < l.length := by omega
    have e : fdF l p g k () = bif p (l.getD k []) then .inr (g k) else .inl () := rfl
    have hd : l.getD k [] = l[k] := by simp [List.getD, hk]
    unfold iter
    rw [e, List.drop_eq_getElem_cons hk, List.findIdx?_cons, hd]
    cases p l[k] with
    | true => rfl
    | false =>
      simp only [cond_false, Bool.false_eq_true, if_false]
      rw [ih]
      cases (l.drop (k + 1)).findIdx? p with
      | none => rfl
      | some j => show g (k + 1 + j) = g (k + (j + 1)); congr 1; omega
theorem find_loop {T : Type} (G : Nat → Int → Option T) (l : LL) (p : List AVal → Bool) (g : Nat → T) (z : T) (hn : l.length ≤ maxLen)
    (hstep : ∀ m k, k < l.length → G (m + 1) (k : Int) = bif p (l.getD k []) then some (g k) else G m ((k + 1 : Nat) : Int)) (hexit : ∀ m, G (m + 1) (l.length : Int) = some z) :
    G FU 0 = some (fdV l p g z) := by
  have hm : maxLen = 9223372036854775807 := by decide
  have key := run_loop (fun m (_ : Unit) i => G m i) (fdF l p g) (fun _ => z) l.length (fun _ _ => True)
    (fun m k _ hk _ => by
      have e : fdF l p g k () = bif p (l.getD k []) then .inr (g k) else .inl () := rfl
      show G (m + 1) (k : Int) = _
      rw [hstep m k hk, e]
      cases p (l.getD k []) <;> rfl)
    (fun _ _ _ _ _ _ => trivial) (fun m _ _ => hexit m) l.length FU 0 () (by omega) (by unfold FU; omega) trivial
  have := iter_fd l p g z l.length 0 (by omega)
  refine (key.trans (congrArg some this)).trans ?_
  rw [List.drop_zero]
  unfold fdV
  cases l.findIdx? p with
  | none => rfl
  | some j => show some (g (0 + j)) = some (g j); rw [Nat.zero_add]
theorem fd_lt {l : LL} {p : List AVal → Bool} {k : Nat} (h : l.findIdx? p = some k) : k < l.length ∧ p (l.getD k []) = true := by
  obtain ⟨h1, h2, _⟩ := List.findIdx?_eq_some_iff_getElem.1 h
  exact ⟨h1, by rw [show l.getD k [] = l[k] by simp [List.getD, h1]]; exact h2⟩
def v0isG (x : Int) : Nat → Int → Int
  | 0, r => r
  | j + 1, r => bif decide (r + 2 ^ j ≤ x / (r + 2 ^ j)) then v0isG x j (r + 2 ^ j) else v0isG x j r
def v0isq (x : Int) : Int := bif decide (x ≤ 0) then 0 else v0isG x 32 0
def bitOf : Nat → Int
  | 0 => 0
  | j + 1 => 2 ^ j
theorem bitOf_succ (j : Nat) : bitOf (j + 1) = 2 ^ j := rfl
theorem bitOf_half (j : Nat) : Int.fdiv (2 ^ j) (2 ^ (min (Int.toNat 1) 64)) = bitOf j := by
  have : (2 : Int) ^ (min (Int.toNat 1) 64) = 2 := rfl
  rw [this]
  cases j with
  | zero => rfl
  | succ j =>
    rw [Int.fdiv_eq_ediv_of_nonneg _ (by omega)]
    simp only [bitOf, Int.pow_succ]
    omega
theorem pow_pos' (j : Nat) : (0 : Int) < 2 ^ j := Int.pow_pos (by omega)
theorem bor_add {r : Int} {j : Nat} (hj : j ≤ 31) (hr0 : 0 ≤ r) (hr : r % 2 ^ (j + 1) = 0) (hb : r + 2 ^ (j + 1) ≤ 4294967296) :
    Int.ofNat (BitVec.toNat (BitVec.ofInt 64 r ||| BitVec.ofInt 64 (2 ^ j))) = r + 2 ^ j := by
  obtain ⟨n, rfl⟩ := Int.eq_ofNat_of_zero_le hr0
  have e1 : (2 : Int) ^ j = ((2 ^ j : Nat) : Int) := (Int.natCast_pow 2 j).symm
  have e2 : (2 : Int) ^ (j + 1) = ((2 ^ (j + 1) : Nat) : Int) := (Int.natCast_pow 2 (j + 1)).symm
  rw [e2] at hr hb
  have hn : n % 2 ^ (j + 1) = 0 := by exact_mod_cast hr
  generalize hP : 2 ^ (j + 1) = p at *
  have hlt : n + p ≤ 4294967296 := by omega
  have hp : 2 ^ j < p := by rw [← hP]; exact Nat.pow_lt_pow_right (by omega) (by omega)
  rw [e1]
  have b1 : (BitVec.ofInt 64 ((n : Nat) : Int)).toNat = n := by
    rw [BitVec.ofInt_natCast, BitVec.toNat_ofNat]
    exact Nat.mod_eq_of_lt (by omega)
  have b2 : (BitVec.ofInt 64 ((2 ^ j : Nat) : Int)).toNat = 2 ^ j := by
    rw [BitVec.ofInt_natCast, BitVec.toNat_ofNat]
    exact Nat.mod_eq_of_lt (by omega)
  rw [BitVec.toNat_or, b1, b2]
  have hq : n = p * (n / p) := by
    have := Nat.div_add_mod n p
    omega
  have := Nat.two_pow_add_eq_or_of_lt (i := j + 1) (b := 2 ^ j) (by rw [hP]; exact hp) (n / p)
  rw [hP, ← hq] at this
  show ((n ||| 2 ^ j : Nat) : Int) = _
  rw [← this]
  simp
theorem isqG_g (x : Int) (hx0 : 0 < x) (hx1 : x ≤ 9223372036854775807) : ∀ (m j : Nat) (r : Int), j ≤ 32 → j < m → 0 ≤ r → r % 2 ^ j = 0 → r + 2 ^ j ≤ 4294967296 → G_num_Isqrt_0 x m r (bitOf j) = some (v0isG x j r)
  | 0, j, r, hj, hm, h0, h1, h2 => by omega
  | m + 1, 0, r, hj, hm, h0, h1, h2 => rfl
  | m + 1, j + 1, r, hj, hm, h0, h1, h2 => by
    have hp := pow_pos' j
    have hb : decide ((2 : Int) ^ j > 0) = true := decide_eq_true hp
    have e := bor_add (r := r) (j := j) (by omega) h0 h1 h2
    have e1 : (2 : Int) ^ (j + 1) = 2 * 2 ^ j := by rw [Int.pow_succ]; omega
    have hw : wr (r + 2 ^ j) = r + 2 ^ j := wr_in (by omega) (by omega)
    have hz : (r + 2 ^ j == 0) = false := by simp; omega
    have hd : wr (Int.tdiv x (r + 2 ^ j)) = x / (r + 2 ^ j) := by
      have h3 : 0 ≤ x / (r + 2 ^ j) := Int.ediv_nonneg (by omega) (by omega)
      have h4 : x / (r + 2 ^ j) ≤ x := Int.ediv_le_self _ (by omega)
      rw [Int.tdiv_eq_ediv_of_nonneg (by omega)]
      exact wr_in (by omega) (by omega)
    have hm0 : r % 2 ^ j = 0 := by
      have : (2 : Int) ^ j ∣ r := Int.dvd_trans ⟨2, by omega⟩ (Int.dvd_of_emod_eq_zero h1)
      exact Int.emod_eq_zero_of_dvd this
    rw [bitOf_succ]
    simp only [G_num_Isqrt_0, hb, cond_true, e, hw, hd, hz, bitOf_half, cond_false, v0isG]
    cases hc : decide (r + 2 ^ j ≤ x / (r + 2 ^ j)) with
    | true => exact isqG_g x hx0 hx1 m j (r + 2 ^ j) (by omega) (by omega) (by omega) (by rw [Int.add_emod, hm0]; simp) (by omega)
    | false => exact isqG_g x hx0 hx1 m j r (by omega) (by omega) h0 hm0 (by omega)
theorem isqG_r (x : Int) (hx0 : 0 < x) (hx1 : x ≤ 9223372036854775807) : ∀ (m j : Nat) (r : Int), j ≤ 32 → j < m → 0 ≤ r → r % 2 ^ j = 0 → r + 2 ^ j ≤ 4294967296 → G_r01_Isqrt_0 x m r (bitOf j) = some (v0isG x j r)
  | 0, j, r, hj, hm, h0, h1, h2 => by omega
  | m + 1, 0, r, hj, hm, h0, h1, h2 => rfl
  | m + 1, j + 1, r, hj, hm, h0, h1, h2 => by
    have hp := pow_pos' j
    have hb : decide ((2 : Int) ^ j > 0) = true := decide_eq_true hp
    have hxp : decide (x > 0) = true := decide_eq_true hx0
    have e1 : (2 : Int) ^ (j + 1) = 2 * 2 ^ j := by rw [Int.pow_succ]; omega
    have hw : wr (r + 2 ^ j) = r + 2 ^ j := wr_in (by omega) (by omega)
    have hz : (r + 2 ^ j == 0) = false := by simp; omega
    have hd : wr (Int.tdiv x (r + 2 ^ j)) = x / (r + 2 ^ j) := by
      have h3 : 0 ≤ x / (r + 2 ^ j) := Int.ediv_nonneg (by omega) (by omega)
      have h4 : x / (r + 2 ^ j) ≤ x := Int.ediv_le_self _ (by omega)
      rw [Int.tdiv_eq_ediv_of_nonneg (by omega)]
      exact wr_in (by omega) (by omega)
    have hm0 : r % 2 ^ j = 0 := by
      have : (2 : Int) ^ j ∣ r := Int.dvd_trans ⟨2, by omega⟩ (Int.dvd_of_emod_eq_zero h1)
      exact Int.emod_eq_zero_of_dvd this
    rw [bitOf_succ]
    simp only [G_r01_Isqrt_0, hb, hxp, cond_true, hw, hd, hz, bitOf_half, cond_false, v0isG]
    cases hc : decide (r + 2 ^ j ≤ x / (r + 2 ^ j)) with
    | true => exact isqG_r x hx0 hx1 m j (r + 2 ^ j) (by omega) (by omega) (by omega) (by rw [Int.add_emod, hm0]; simp) (by omega)
    | false => exact isqG_r x hx0 hx1 m j r (by omega) (by omega) h0 hm0 (by omega)
theorem isqG_n (x : Int) (hx0 : x ≤ 0) : ∀ (m j : Nat), j ≤ 32 → j < m → G_r01_Isqrt_0 x m 0 (bitOf j) = some 0
  | 0, j, hj, hm => by omega
  | m + 1, 0, hj, hm => rfl
  | m + 1, j + 1, hj, hm => by
    have hp := pow_pos' j
    have hb : decide ((2 : Int) ^ j > 0) = true := decide_eq_true hp
    have hxp : decide (x > 0) = false := by simp; omega
    rw [bitOf_succ]
    simp only [G_r01_Isqrt_0, hb, hxp, cond_true, cond_false, bitOf_half]
    exact isqG_n x hx0 m j (by omega) (by omega)
theorem bit32 : (2147483648 : Int) = bitOf 32 := by decide
theorem isqrt_g (x : Int) (h : x ≤ 9223372036854775807) : F_num_Isqrt x = some (v0isq x) := by
  unfold F_num_Isqrt v0isq
  by_cases h0 : x ≤ 0
  · simp [h0]
  · simp only [h0, decide_false, cond_false]
    rw [bit32, isqG_g x (by omega) h FU 32 0 (by omega) (by unfold FU; omega) (by omega) (by decide) (by decide)]
    rfl
theorem isqrt_r (x : Int) (h : x ≤ 9223372036854775807) : F_r01_Isqrt x = some (v0isq x) := by
  unfold F_r01_Isqrt v0isq
  rw [bit32]
  by_cases h0 : x ≤ 0
  · rw [isqG_n x h0 FU 32 (by omega) (by unfold FU; omega)]
    simp [h0]
  · rw [isqG_r x (by omega) h FU 32 0 (by omega) (by unfold FU; omega) (by omega) (by decide) (by decide)]
    simp [h0]
theorem near_v (n : Int) : F_vec_near n = some (nr n) := by simp only [F_vec_near, F_num_Clamp, maxI_eq, minI_eq, Option.bind_some, nr]
theorem nearest_v (x y : Int) : F_vec_nearest x y = some (nr x, nr y) := by simp only [F_vec_nearest, near_v, Option.bind_some]
theorem near_w (n : Int) : F_r02_Near n = some (nr n) := by
  simp only [F_r02_Near, maxI_eq, minI_eq, nr]
  congr 1
  omega
theorem nearvec_w (x y : Int) : F_r02_NearVec x y = some (nr x, nr y) := by simp only [F_r02_NearVec, near_w, Option.bind_some]
theorem sq_bound {a b : Int} (ha : -2097152 ≤ a ∧ a ≤ 2097152) (hb : -2097152 ≤ b ∧ b ≤ 2097152) : -4398046511104 ≤ a * b ∧ a * b ≤ 4398046511104 := by
  have := mul_bound ha hb (by omega) (by omega)
  omega
theorem dot_v (ax ay bx b : Int) (h1 : -2097152 ≤ ax ∧ ax ≤ 2097152) (h2 : -2097152 ≤ ay ∧ ay ≤ 2097152) (h3 : -2097152 ≤ bx ∧ bx ≤ 2097152) (h4 : -2097152 ≤ b ∧ b ≤ 2097152) : F_vec_dot ax ay bx b = some (ax * bx + ay * b) := by
  have k1 := sq_bound h1 h3
  have k2 := sq_bound h2 h4
  simp only [F_vec_dot]
  rw [wr_in (n := ax * bx) (by omega) (by omega), wr_in (n := ay * b) (by omega) (by omega), wr_in (by omega) (by omega)]
def dotN (ax ay bx b : Int) : Int := nr ax * nr bx + nr ay * nr b
theorem Dot_v (ax ay bx b : Int) : F_vec_Dot ax ay bx b = some (dotN ax ay bx b) := by
  have h1 := nr_in ax
  have h2 := nr_in ay
  have h3 := nr_in bx
  have h4 := nr_in b
  simp only [F_vec_Dot, nearest_v, Option.bind_some]
  rw [dot_v _ _ _ _ (by omega) (by omega) (by omega) (by omega)]
  rfl
theorem dotN_in (ax ay bx b : Int) : -2199023255552 ≤ dotN ax ay bx b ∧ dotN ax ay bx b ≤ 2199023255552 := by
  have k1 := mul_bound (nr_in ax) (nr_in bx) (by omega) (by omega)
  have k2 := mul_bound (nr_in ay) (nr_in b) (by omega) (by omega)
  unfold dotN
  omega
theorem Dot_w (ax ay bx b : Int) : F_r02_Dot ax ay bx b = some (dotN ax ay bx b) := by
  have k1 := mul_bound (nr_in ax) (nr_in bx) (by omega) (by omega)
  have k2 := mul_bound (nr_in ay) (nr_in b) (by omega) (by omega)
  simp only [F_r02_Dot, nearvec_w, Option.bind_some]
  rw [wr_in (n := nr ax * nr bx) (by omega) (by omega), wr_in (n := nr ay * nr b) (by omega) (by omega), wr_in (by omega) (by omega)]
  rfl
theorem Len2_v (x y : Int) : F_vec_Len2 x y = some (dotN x y x y) := by simp only [F_vec_Len2, Dot_v, Option.bind_some]
theorem Len2_w (x y : Int) : F_r02_Len2 x y = some (dotN x y x y) := by simp only [F_r02_Len2, Dot_w, Option.bind_some]
theorem sum2 (a b c d : Int) (h1 : -2097152 ≤ a ∧ a ≤ 2097152) (h2 : -2097152 ≤ b ∧ b ≤ 2097152) (h3 : -2097152 ≤ c ∧ c ≤ 2097152) (h4 : -2097152 ≤ d ∧ d ≤ 2097152) : F_vec_sum [[i64 a, i64 b], [i64 c, i64 d]] = some (nr (a + c), nr (b + d)) := by
  have key : G_vec_sum_0 [[i64 a, i64 b], [i64 c, i64 d]] (Int.ofNat 2) FU 0 0 0 = some (wr (wr (0 + a) + c), wr (wr (0 + b) + d)) := by kernel_rfl
  have key' : F_vec_sum [[i64 a, i64 b], [i64 c, i64 d]] = Option.bind (G_vec_sum_0 [[i64 a, i64 b], [i64 c, i64 d]] (Int.ofNat 2) FU 0 0 0) fun t => Option.bind (F_vec_nearest t.1 t.2) fun t1 => some (t1.1, t1.2) := rfl
  rw [key', key]
  simp only [Option.bind_some, nearest_v]
  rw [wr_in (n := 0 + a) (by omega) (by omega), wr_in (n := 0 + b) (by omega) (by omega), wr_in (by omega) (by omega), wr_in (by omega) (by omega)]
  simp
theorem Sub_v (ax ay bx b : Int) : F_vec_Sub ax ay bx b = some (nr (nr ax - nr bx), nr (nr ay - nr b)) := by
  have h1 := nr_in ax
  have h2 := nr_in ay
  have h3 := nr_in bx
  have h4 := nr_in b
  simp only [F_vec_Sub, F_vec_minus, nearest_v, Option.bind_some]
  rw [wr_in (n := 0 - nr bx) (by omega) (by omega), wr_in (n := 0 - nr b) (by omega) (by omega), sum2 _ _ _ _ (by omega) (by omega) (by omega) (by omega)]
  simp only [Option.bind_some]
  rw [show nr ax + (0 - nr bx) = nr ax - nr bx by omega, show nr ay + (0 - nr b) = nr ay - nr b by omega]
theorem Sub_w (ax ay bx b : Int) : F_r02_Sub ax ay bx b = some (nr (nr ax - nr bx), nr (nr ay - nr b)) := by
  have h1 := nr_in ax
  have h2 := nr_in ay
  have h3 := nr_in bx
  have h4 := nr_in b
  simp only [F_r02_Sub, nearvec_w, Option.bind_some]
  rw [wr_in (n := nr ax - nr bx) (by omega) (by omega), wr_in (n := nr ay - nr b) (by omega) (by omega)]
theorem Valid_w (x y : Int) : F_r02_Valid x y = some ((x == nr x) && (y == nr y)) := by simp only [F_r02_Valid, nearvec_w, Option.bind_some]
def farN (ax ay bx b : Int) : Int := (bx - ax) * (bx - ax) + (b - ay) * (b - ay)
theorem Far_w (ax ay bx b : Int) : F_r02_Far ax ay bx b = some (farN (nr ax) (nr ay) (nr bx) (nr b)) := by
  have h1 := nr_in ax
  have h2 := nr_in ay
  have h3 := nr_in bx
  have h4 := nr_in b
  have k1 := sq_bound (a := nr bx - nr ax) (b := nr bx - nr ax) (by omega) (by omega)
  have k2 := sq_bound (a := nr b - nr ay) (b := nr b - nr ay) (by omega) (by omega)
  simp only [F_r02_Far, nearvec_w, Option.bind_some]
  rw [wr_in (n := nr bx - nr ax) (by omega) (by omega), wr_in (n := nr b - nr ay) (by omega) (by omega), wr_in (n := (nr bx - nr ax) * (nr bx - nr ax)) (by omega) (by omega), wr_in (n := (nr b - nr ay) * (nr b - nr ay)) (by omega) (by omega), wr_in (by omega) (by omega)]
  rfl
theorem apart_v {ax ay bx b : Int} (h1 : -1048576 ≤ ax ∧ ax ≤ 1048576) (h2 : -1048576 ≤ ay ∧ ay ≤ 1048576) (h3 : -1048576 ≤ bx ∧ bx ≤ 1048576) (h4 : -1048576 ≤ b ∧ b ≤ 1048576) : F_vec_apart ax ay bx b = some (bx - ax, b - ay, farN ax ay bx b) := by
  simp only [F_vec_apart]
  rw [wr_in (n := bx - ax) (by omega) (by omega), wr_in (n := b - ay) (by omega) (by omega), dot_v _ _ _ _ (by omega) (by omega) (by omega) (by omega)]
  rfl
def withinN (ax ay bx b r : Int) : Bool := decide (0 ≤ nr r) && decide (farN (nr ax) (nr ay) (nr bx) (nr b) ≤ nr r * nr r)
theorem Within_v (ax ay bx b r : Int) : F_vec_Within ax ay bx b r = some (withinN ax ay bx b r) := by
  have hss := mul_bound (nr_in r) (nr_in r) (by omega) (by omega)
  simp only [F_vec_Within, near_v, nearest_v, Option.bind_some, apart_v (nr_in ax) (nr_in ay) (nr_in bx) (nr_in b), ge_iff_le, bif_and, withinN]
  rw [wr_in (by omega) (by omega)]
theorem Within_w (ax ay bx b r : Int) : F_r02_Within ax ay bx b r = some (withinN ax ay bx b r) := by
  have hss := mul_bound (nr_in r) (nr_in r) (by omega) (by omega)
  simp only [F_r02_Within, near_w, Far_w, Option.bind_some, ge_iff_le, bif_and, withinN]
  rw [wr_in (by omega) (by omega)]
theorem near_g (n : Int) : F_grid_near n = some (nr n) := by
  simp only [F_grid_near, F_num_Clamp, maxI_eq, minI_eq, Option.bind_some, nr]
theorem near_r (n : Int) : F_r06_near n = some (nr n) := by
  simp only [F_r06_near, maxI_eq, minI_eq, nr]
theorem pos_g (x y : Int) : F_grid_pos x y = some (nr x, nr y) := by simp only [F_grid_pos, near_g, Option.bind_some]
theorem pos_r (x y : Int) : F_r06_pos x y = some (nr x, nr y) := by simp only [F_r06_pos, near_r, Option.bind_some]
def vld (w h : Int) : Bool := decide (1 ≤ w) && (decide (w ≤ 32) && (decide (1 ≤ h) && decide (h ≤ 32)))
def inn (w h x y : Int) : Bool := decide (0 ≤ x) && (decide (x < w) && (decide (0 ≤ y) && decide (y < h)))
theorem vld_iff {w h : Int} : vld w h = true ↔ 1 ≤ w ∧ w ≤ 32 ∧ 1 ≤ h ∧ h ≤ 32 := by simp [vld]
theorem inn_iff {w h x y : Int} : inn w h x y = true ↔ 0 ≤ x ∧ x < w ∧ 0 ≤ y ∧ y < h := by simp [inn]
theorem valid_g (w h : Int) : F_grid_Valid w h = some (vld w h) := by
  simp only [F_grid_Valid, ge_iff_le, bif_and, vld]
theorem valid_r (w h : Int) : F_r06_Valid w h = some (vld w h) := by
  simp only [F_r06_Valid, ge_iff_le, bif_and, vld]
theorem in_g (w h x y : Int) : F_grid_In w h x y = some (inn w h x y) := by
  simp only [F_grid_In, ge_iff_le, bif_and, inn]
theorem in_r (w h x y : Int) : F_r06_In w h x y = some (inn w h x y) := by
  simp only [F_r06_In, ge_iff_le, bif_and, inn]
def idx (w x y : Int) : Int := nr y * nr w + nr x
theorem idx_in (w x y : Int) : -1099512676352 ≤ idx w x y ∧ idx w x y ≤ 1099512676352 := by
  have h := mul_bound (nr_in y) (nr_in w) (by omega) (by omega)
  have h2 := nr_in x
  unfold idx
  omega
theorem index_eq (w x y : Int) : wr (wr (nr y * nr w) + nr x) = idx w x y := by
  have h := mul_bound (nr_in y) (nr_in w) (by omega) (by omega)
  have h1 := idx_in w x y
  have h2 := nr_in x
  rw [wr_in (n := nr y * nr w) (by omega) (by omega)]
  exact wr_in (by unfold idx at h1; omega) (by unfold idx at h1; omega)
theorem index_g (w x y : Int) : F_grid_Index w x y = some (idx w x y) := by
  simp only [F_grid_Index, pos_g, near_g, Option.bind_some, index_eq]
theorem index_r (w x y : Int) : F_r06_Index w x y = some (idx w x y) := by
  simp only [F_r06_Index, pos_r, near_r, Option.bind_some, index_eq]
theorem idx_id {w h x y : Int} (hw : w ≤ 32) (hh : h ≤ 32) (hi : inn w h x y = true) : idx w x y = y * w + x := by
  rw [inn_iff] at hi
  unfold idx
  rw [nr_id (n := x) (by omega) (by omega), nr_id (n := y) (by omega) (by omega), nr_id (n := w) (by omega) (by omega)]
theorem idx_lt {w h x y : Int} (hi : inn w h x y = true) : 0 ≤ y * w + x ∧ y * w + x < w * h := by
  rw [inn_iff] at hi
  have h1 : 0 ≤ y * w := Int.mul_nonneg (by omega) (by omega)
  have h2 : (y + 1) * w ≤ h * w := Int.mul_le_mul_of_nonneg_right (by omega) (by omega)
  rw [Int.add_mul, Int.one_mul] at h2
  rw [Int.mul_comm w h]
  omega
def rng (n : Int) : Prop := -9223372036854775808 ≤ n ∧ n ≤ 9223372036854775807
def okCs (a : LL) : Prop := ∀ r ∈ a, chk [.int .i64, .int .i64, .int .i64] r = true ∧ rng (cI r 0) ∧ rng (cI r 1) ∧ rng (cI r 2)
theorem okCs_get {a : LL} (h : okCs a) (k : Nat) (hk : k < a.length) : a[k]? = some (a.getD k []) ∧ chk [.int .i64, .int .i64, .int .i64] (a.getD k []) = true ∧ rng (cI (a.getD k []) 0) ∧ rng (cI (a.getD k []) 1) ∧ rng (cI (a.getD k []) 2) := by
  have : a.getD k [] = a[k] := by simp [List.getD, hk]
  rw [this]
  exact ⟨List.getElem?_eq_getElem hk, h _ (List.getElem_mem hk)⟩
theorem okCs_of {P : Program} {T E : Nat} {rows : LL} (hl : leafOf P 8 T = [.int .i64, .int .i64, .int .i64]) (h : Ty P (.sl T E) (.ro E rows)) : okCs rows := by
  cases h with
  | sl _ _ _ h1 h0 h2 h3 =>
    intro r hr
    have k1 := h2 r hr
    have k2 := h3 r hr
    rw [hl] at k1 k2
    match r, k1 with
    | [a, b, c], _ =>
      obtain ⟨x, rfl, hx⟩ := ty_int (k2 0 _ _ rfl rfl)
      obtain ⟨y, rfl, hy⟩ := ty_int (k2 1 _ _ rfl rfl)
      obtain ⟨z, rfl, hz⟩ := ty_int (k2 2 _ _ rfl rfl)
      exact ⟨rfl, wf_i64 hx, wf_i64 hy, wf_i64 hz⟩
def fmd (W H : Int) (n : Nat) : Bool := vld W H && ((n : Int) == W * H)
def ins (W H : Int) (n : Nat) (x y : Int) : Bool := fmd W H n && inn W H x y
theorem fmd_iff {W H : Int} {n : Nat} : fmd W H n = true ↔ (1 ≤ W ∧ W ≤ 32 ∧ 1 ≤ H ∧ H ≤ 32) ∧ (n : Int) = W * H := by
  unfold fmd
  rw [Bool.and_eq_true, vld_iff, beq_iff_eq]
theorem ins_iff {W H : Int} {n : Nat} {x y : Int} : ins W H n x y = true ↔ fmd W H n = true ∧ inn W H x y = true := by
  unfold ins
  rw [Bool.and_eq_true]
theorem size_in {W H : Int} (h : vld W H = true) : 0 ≤ W * H ∧ W * H ≤ 1024 := by
  rw [vld_iff] at h
  have := mul_bound (a := W) (b := H) (A := 32) (B := 32) (by omega) (by omega) (by omega) (by omega)
  have h0 : 0 ≤ W * H := Int.mul_nonneg (by omega) (by omega)
  omega
theorem formed_eq (W H : Int) (n : Nat) : (bif vld W H then some ((n : Int) == wr (W * H)) else some false) = some (fmd W H n) := by
  unfold fmd
  cases h : vld W H with
  | true =>
    have := size_in h
    rw [wr_in (by omega) (by omega)]
    simp
  | false => simp
theorem formed_g (W H : Int) (Tc : LL) : F_terrain_formed W H Tc = some (fmd W H Tc.length) := by
  simp only [F_terrain_formed, valid_g, Option.bind_some, Int.ofNat_eq_natCast, formed_eq]
theorem formed_r (W H : Int) (Tc : LL) : F_r07_Formed W H Tc = some (fmd W H Tc.length) := by
  simp only [F_r07_Formed, valid_r, Option.bind_some, Int.ofNat_eq_natCast, formed_eq]
theorem inside_g (W H : Int) (Tc : LL) (x y : Int) : F_terrain_inside W H Tc x y = some (ins W H Tc.length x y) := by
  simp only [F_terrain_inside, formed_g, in_g, Option.bind_some, ins]
  cases fmd W H Tc.length <;> rfl
theorem inside_r (W H : Int) (Tc : LL) (x y : Int) : F_r07_Inside W H Tc x y = some (ins W H Tc.length x y) := by
  simp only [F_r07_Inside, formed_r, in_r, Option.bind_some, ins]
  cases fmd W H Tc.length <;> rfl
def cel (W : Int) (Tc : LL) (x y : Int) : List AVal := Tc.getD (y * W + x).toNat []
theorem ins_idx {W H : Int} {n : Nat} {x y : Int} (h : ins W H n x y = true) : idx W x y = y * W + x ∧ 0 ≤ y * W + x ∧ (y * W + x).toNat < n ∧ y * W + x < n := by
  obtain ⟨h1, h2⟩ := ins_iff.1 h
  obtain ⟨h3, h4⟩ := fmd_iff.1 h1
  have h5 := idx_lt h2
  exact ⟨idx_id (by omega) (by omega) h2, h5.1, by omega, by omega⟩
def gt (W H : Int) (Tc : LL) (x y : Int) : Int × Int × Int × Bool :=
  bif ins W H Tc.length x y then (cI (cel W Tc x y) 0, cI (cel W Tc x y) 1, cI (cel W Tc x y) 2, true) else (0, 0, 0, false)
theorem get_g (W H : Int) (Tc : LL) (hc : okCs Tc) (x y : Int) : F_terrain_Get W H Tc x y = some (gt W H Tc x y) := by
  simp only [F_terrain_Get, inside_g, index_g, Option.bind_some, gt]
  cases h : ins W H Tc.length x y with
  | false => rfl
  | true =>
    obtain ⟨e1, e2, e3, e4⟩ := ins_idx h
    obtain ⟨q1, q2, _⟩ := okCs_get hc _ e3
    simp only [Bool.not_true, cond_false, cond_true, e1, e2, decide_true, q1, Option.bind_some, q2, cel]
theorem get_r (W H : Int) (Tc : LL) (hc : okCs Tc) (x y : Int) : F_r07_Get W H Tc x y = some (gt W H Tc x y) := by
  simp only [F_r07_Get, inside_r, index_r, Option.bind_some, gt]
  cases h : ins W H Tc.length x y with
  | false => rfl
  | true =>
    obtain ⟨e1, e2, e3, e4⟩ := ins_idx h
    obtain ⟨q1, q2, _⟩ := okCs_get hc _ e3
    simp only [Bool.not_true, cond_false, cond_true, e1, e2, decide_true, q1, Option.bind_some, q2, cel]
def vcell (k h a : Int) : Bool := decide (1 ≤ k ∧ k ≤ 5 ∧ 0 ≤ h ∧ h ≤ 3 ∧ 0 ≤ a ∧ a ≤ 1000000) && (decide (a > 0) == (decide (k = 4) || decide (k = 5)))
theorem validCell_eq (k h a : Int) : (bif (decide (k < (1 : Int))) then some false else bif (decide (k > (5 : Int))) then some false else bif (decide (h < (0 : Int))) then some false else bif (decide (h > (3 : Int))) then some false else bif (decide (a < (0 : Int))) then some false else bif (decide (a > (1000000 : Int))) then some false else
    bif (k == (4 : Int)) then some ((decide (a > (0 : Int))) == true) else some ((decide (a > (0 : Int))) == (k == (5 : Int)))) = some (vcell k h a) := by
  unfold vcell
  by_cases h1 : k < 1
  · simp [h1]; omega
  by_cases h2 : k > 5
  · simp [h1, h2]; omega
  by_cases h3 : h < 0
  · simp [h1, h2, h3]; omega
  by_cases h4 : h > 3
  · simp [h1, h2, h3, h4]; omega
  by_cases h5 : a < 0
  · simp [h1, h2, h3, h4, h5]; omega
  by_cases h6 : a > 1000000
  · simp [h1, h2, h3, h4, h5, h6]; omega
  have hh : 1 ≤ k ∧ k ≤ 5 ∧ 0 ≤ h ∧ h ≤ 3 ∧ 0 ≤ a ∧ a ≤ 1000000 := by omega
  simp only [h1, h2, h3, h4, h5, h6, decide_false, cond_false, hh, and_self, decide_true, Bool.true_and]
  by_cases h7 : k = 4
  · subst h7; rfl
  · have e7 : (k == 4) = false := by simpa using h7
    simp only [e7, cond_false, h7, decide_false, Bool.false_or]
    congr 1
theorem validCell_g (k h a : Int) : F_terrain_validCell k h a = some (vcell k h a) := by
  simp only [F_terrain_validCell, validCell_eq]
theorem validCell_r (k h a : Int) : F_r07_ValidCell k h a = some (vcell k h a) := by
  simp only [F_r07_ValidCell, validCell_eq]
def vrow (r : List AVal) : Bool := vcell (cI r 0) (cI r 1) (cI r 2)
def vmap (W H : Int) (Tc : LL) : Bool := fmd W H Tc.length && Tc.all vrow
theorem wr_suc (k : Nat) (h : k ≤ 1000000000) : wr ((k : Int) + 1) = ((k + 1 : Nat) : Int) := by rw [wr_in (by omega) (by omega)]; simp
theorem drop_all {Tc : LL} {k : Nat} (hk : k < Tc.length) : (Tc.drop k).all vrow = (vrow (Tc.getD k []) && (Tc.drop (k + 1)).all vrow) := by
  rw [List.drop_eq_getElem_cons hk, List.all_cons, List.getD_eq_getElem?_getD, List.getElem?_eq_getElem hk]
  rfl
theorem index_G (Tc : LL) (hc : okCs Tc) (hn : Tc.length ≤ 1000000) : ∀ (m r k : Nat), k + r = Tc.length → r < m → ∃ z : Int, 0 ≤ z ∧ G_slices_IndexFunc_Cell_0 Tc Tc.length m k = some (!(Tc.drop k).all vrow, z)
  | 0, r, k, h1, h2 => by omega
  | m + 1, 0, k, h1, h2 => by
    have : ¬ ((k : Int) < Tc.length) := by omega
    refine ⟨0, by omega, ?_⟩
    simp only [G_slices_IndexFunc_Cell_0, this, decide_false, cond_false, List.drop_eq_nil_of_le (show Tc.length ≤ k by omega), List.all_nil, Bool.not_true]
  | m + 1, r + 1, k, h1, h2 => by
    have d1 : (k : Int) < Tc.length := by omega
    have d2 : (0 : Int) ≤ k := by omega
    obtain ⟨q1, q2, _⟩ := okCs_get hc k (by omega)
    simp only [G_slices_IndexFunc_Cell_0, F_terrain_Valid_1, d1, d2, decide_true, cond_true, Int.toNat_natCast, q1, Option.bind_some, q2, validCell_g, wr_suc k (by omega), drop_all (show k < Tc.length by omega)]
    have e : vcell (cI (Tc.getD k []) 0) (cI (Tc.getD k []) 1) (cI (Tc.getD k []) 2) = vrow (Tc.getD k []) := rfl
    rw [e]
    cases vrow (Tc.getD k []) with
    | false => exact ⟨k, by omega, by simp⟩
    | true =>
      obtain ⟨z, hz, ih⟩ := index_G Tc hc hn m r (k + 1) (by omega) (by omega)
      exact ⟨z, hz, by simpa using ih⟩
theorem valid_G (Tc : LL) (hc : okCs Tc) (hn : Tc.length ≤ 1000000) : ∀ (m r k : Nat), k + r = Tc.length → r < m → G_r07_Valid_0 Tc m k = some (!(Tc.drop k).all vrow)
  | 0, r, k, h1, h2 => by omega
  | m + 1, 0, k, h1, h2 => by
    have : ¬ ((k : Int) < Tc.length) := by omega
    simp only [G_r07_Valid_0, Int.ofNat_eq_natCast, this, decide_false, cond_false, List.drop_eq_nil_of_le (show Tc.length ≤ k by omega), List.all_nil, Bool.not_true]
  | m + 1, r + 1, k, h1, h2 => by
    have d1 : (k : Int) < Tc.length := by omega
    have d2 : (0 : Int) ≤ k := by omega
    obtain ⟨q1, q2, _⟩ := okCs_get hc k (by omega)
    have ih := valid_G Tc hc hn m r (k + 1) (by omega) (by omega)
    simp only [G_r07_Valid_0, Int.ofNat_eq_natCast, d1, d2, decide_true, cond_true, Int.toNat_natCast, q1, Option.bind_some, q2, validCell_r, wr_suc k (by omega), drop_all (show k < Tc.length by omega), ih]
    have e : vcell (cI (Tc.getD k []) 0) (cI (Tc.getD k []) 1) (cI (Tc.getD k []) 2) = vrow (Tc.getD k []) := rfl
    rw [e]
    cases vrow (Tc.getD k []) <;> simp
theorem fmd_small {W H : Int} {n : Nat} (h : fmd W H n = true) : n ≤ 1024 := by
  obtain ⟨h1, h2⟩ := fmd_iff.1 h
  have := size_in (vld_iff.2 h1)
  omega
theorem Valid_g (W H : Int) (Tc : LL) (hc : okCs Tc) : F_terrain_Valid W H Tc = some (vmap W H Tc) := by
  simp only [F_terrain_Valid, formed_g, Option.bind_some, vmap]
  cases h : fmd W H Tc.length with
  | false => rfl
  | true =>
    have hn := fmd_small h
    obtain ⟨z, hz, h0⟩ := index_G Tc hc (by omega) FU Tc.length 0 (by omega) (by unfold FU; omega)
    have h0' : G_slices_IndexFunc_Cell_0 Tc Tc.length FU 0 = some (!Tc.all vrow, z) := h0
    simp only [cond_true, F_slices_ContainsFunc_Cell, F_slices_IndexFunc_Cell, Int.ofNat_eq_natCast, h0', Option.bind_some, Bool.true_and]
    cases Tc.all vrow with
    | true => rfl
    | false =>
      have hz' : z ≥ 0 := hz
      simp only [Bool.not_false, cond_true, Option.bind_some, hz', decide_true, Bool.not_true]
theorem Valid_r (W H : Int) (Tc : LL) (hc : okCs Tc) : F_r07_Valid W H Tc = some (vmap W H Tc) := by
  simp only [F_r07_Valid, formed_r, Option.bind_some, vmap]
  cases h : fmd W H Tc.length with
  | false => rfl
  | true =>
    have hn := fmd_small h
    have h0 := valid_G Tc hc (by omega) FU Tc.length 0 (by omega) (by unfold FU; omega)
    have h0' : G_r07_Valid_0 Tc FU 0 = some (!Tc.all vrow) := h0
    simp only [Bool.not_true, cond_false, h0', Option.bind_some, Bool.true_and]
    cases Tc.all vrow <;> rfl
def pk (cls k : Int) : Bool := cls == 3 || (cls == 1 && (k == 1 || k == 5)) || (cls == 2 && (k == 1 || k == 5 || k == 2))
def pas (W H : Int) (Tc : LL) (cls x y : Int) : Bool := (gt W H Tc x y).2.2.2 && pk cls (gt W H Tc x y).1
theorem passable_r (W H : Int) (Tc : LL) (hc : okCs Tc) (cls x y : Int) : F_r07_Passable W H Tc cls x y = some (pas W H Tc cls x y) := by
  simp only [F_r07_Passable, get_r W H Tc hc, Option.bind_some, pas, pk]
  generalize gt W H Tc x y = t
  obtain ⟨k, h, a, b⟩ := t
  simp only
  by_cases h1 : cls = 1
  · subst h1
    cases b <;> cases hk : (k == 1) <;> simp
  by_cases h2 : cls = 2
  · subst h2
    cases b <;> cases hk : (k == 1) <;> cases hk5 : (k == 5) <;> simp
  by_cases h3 : cls = 3
  · subst h3
    cases b <;> simp
  have e1 : (cls == 1) = false := by simpa using h1
  have e2 : (cls == 2) = false := by simpa using h2
  have e3 : (cls == 3) = false := by simpa using h3
  simp [e1, e2, e3]
def hgt (W : Int) (Tc : LL) (x y : Int) : Int := cI (cel W Tc x y) 1
theorem gt_ins {W H : Int} {Tc : LL} {x y : Int} (h : ins W H Tc.length x y = true) : gt W H Tc x y = (cI (cel W Tc x y) 0, hgt W Tc x y, cI (cel W Tc x y) 2, true) := by
  simp only [gt, h, cond_true, hgt]
def wth (W : Int) (Tc : LL) (x y k h a : Int) : LL := Tc.set (y * W + x).toNat [i64 k, i64 h, i64 a]
theorem clone_c (l : LL) (h : l.length ≤ 1000000000) : F_slices_Clone_Cell l = some l := by
  simp only [F_slices_Clone_Cell, F_slices_Clone_Cell_ne]
  cases l with
  | nil => rfl
  | cons r l =>
    have : roomOk (0 + (r :: l).length) 24 = true := by
      simp only [List.length_cons] at h
      simp [roomOk]
      omega
    simp only [List.isEmpty_cons, cond_false, this, cond_true]
theorem with_g (W H : Int) (Tc : LL) (x y k h a : Int) (hi : ins W H Tc.length x y = true) : F_terrain_with W H Tc x y k h a = some (wth W Tc x y k h a, W, H) := by
  obtain ⟨e1, e2, e3, e4⟩ := ins_idx hi
  have hs := fmd_small (ins_iff.1 hi).1
  simp only [F_terrain_with, clone_c Tc (by omega), index_g, Option.bind_some, e1, e2, Int.ofNat_eq_natCast, e4, decide_true, Bool.and_self, cond_true, wth]
theorem with_r (W H : Int) (Tc : LL) (x y k h a : Int) (hi : ins W H Tc.length x y = true) : F_r07_with W H Tc x y k h a = some (wth W Tc x y k h a, W, H) := by
  obtain ⟨e1, e2, e3, e4⟩ := ins_idx hi
  have hs := fmd_small (ins_iff.1 hi).1
  have : roomOk (0 + Tc.length) 24 = true := by simp [roomOk]; omega
  simp only [F_r07_with, this, index_r, Option.bind_some, e1, e2, Int.ofNat_eq_natCast, e4, decide_true, Bool.and_self, cond_true, wth]
theorem wth_len (W : Int) (Tc : LL) (x y k h a : Int) : (wth W Tc x y k h a).length = Tc.length := by simp [wth]
theorem wth_vmap {W H : Int} {Tc : LL} {x y k h a : Int} (hv : vmap W H Tc = true) (hc : vcell k h a = true) : vmap W H (wth W Tc x y k h a) = true := by
  unfold vmap at hv ⊢
  simp only [Bool.and_eq_true, List.all_eq_true] at hv ⊢
  rw [wth_len]
  refine ⟨hv.1, fun r hr => ?_⟩
  rcases List.mem_or_eq_of_mem_set hr with hr | rfl
  · exact hv.2 r hr
  · exact hc
theorem vcell_rng {k h a : Int} (hv : vcell k h a = true) : rng k ∧ rng h ∧ rng a := by
  unfold vcell at hv
  simp only [Bool.and_eq_true, decide_eq_true_eq] at hv
  unfold rng
  omega
theorem vmap_cell {W H : Int} {Tc : LL} {x y : Int} (hv : vmap W H Tc = true) (hi : ins W H Tc.length x y = true) : vrow (cel W Tc x y) = true := by
  obtain ⟨e1, e2, e3, e4⟩ := ins_idx hi
  unfold vmap at hv
  simp only [Bool.and_eq_true, List.all_eq_true] at hv
  refine hv.2 _ ?_
  unfold cel
  rw [List.getD_eq_getElem?_getD, List.getElem?_eq_getElem e3]
  exact List.getElem_mem e3
def takeN (W H : Int) (Tc : LL) (x y n : Int) : LL × Int × Int × Int × Int :=
  bif !vmap W H Tc || decide (n < 1) then ([], 0, 0, 0, 1) else
  bif !ins W H Tc.length x y || (cI (cel W Tc x y) 2 == 0) then ([], 0, 0, 0, 8) else
  (wth W Tc x y (bif (cI (cel W Tc x y) 2 - min n (cI (cel W Tc x y) 2) == 0) then 1 else cI (cel W Tc x y) 0) (cI (cel W Tc x y) 1) (cI (cel W Tc x y) 2 - min n (cI (cel W Tc x y) 2)), W, H, min n (cI (cel W Tc x y) 2), 0)
theorem Take_g (W H : Int) (Tc : LL) (hc : okCs Tc) (x y n : Int) : F_terrain_Take W H Tc x y n = some (takeN W H Tc x y n) := by
  simp only [F_terrain_Take, Valid_g W H Tc hc, get_g W H Tc hc, Option.bind_some, takeN, minI_eq]
  cases hv : vmap W H Tc with
  | false => rfl
  | true =>
    by_cases h1 : n < 1
    · simp [h1]
    simp only [h1, decide_false, cond_false, Bool.not_true, Bool.or_self]
    cases hi : ins W H Tc.length x y with
    | false => simp [gt, hi]
    | true =>
      have hr := vmap_cell hv hi
      unfold vrow vcell at hr
      simp only [Bool.and_eq_true, decide_eq_true_eq] at hr
      simp only [gt_ins hi, Bool.not_true, cond_false, Bool.false_or]
      cases ha : (cI (cel W Tc x y) 2 == 0) with
      | true => rfl
      | false =>
        have w1 : wr (cI (cel W Tc x y) 2 - min n (cI (cel W Tc x y) 2)) = cI (cel W Tc x y) 2 - min n (cI (cel W Tc x y) 2) := wr_in (by omega) (by omega)
        simp only [cond_false, w1, with_g W H Tc x y _ _ _ hi, Option.bind_some, hgt]
        cases (cI (cel W Tc x y) 2 - min n (cI (cel W Tc x y) 2) == 0) <;> rfl
theorem Take_r (W H : Int) (Tc : LL) (hc : okCs Tc) (x y n : Int) : F_r07_Take W H Tc x y n = some (takeN W H Tc x y n) := by
  simp only [F_r07_Take, Valid_r W H Tc hc, get_r W H Tc hc, Option.bind_some, takeN, minI_eq]
  cases hv : vmap W H Tc with
  | false => rfl
  | true =>
    by_cases h1 : n < 1
    · simp [h1]
    simp only [h1, decide_false, cond_false, Bool.not_true, Bool.or_self]
    cases hi : ins W H Tc.length x y with
    | false => simp [gt, hi]
    | true =>
      have hr := vmap_cell hv hi
      unfold vrow vcell at hr
      simp only [Bool.and_eq_true, decide_eq_true_eq] at hr
      simp only [gt_ins hi, Bool.not_true, cond_false, Bool.false_or]
      cases ha : (cI (cel W Tc x y) 2 == 0) with
      | true => rfl
      | false =>
        have w1 : wr (cI (cel W Tc x y) 2 - min n (cI (cel W Tc x y) 2)) = cI (cel W Tc x y) 2 - min n (cI (cel W Tc x y) 2) := wr_in (by omega) (by omega)
        simp only [cond_false, w1, with_r W H Tc x y _ _ _ hi, Option.bind_some, hgt]
        cases (cI (cel W Tc x y) 2 - min n (cI (cel W Tc x y) 2) == 0) <;> rfl
def rowEq (r q : List AVal) : Bool := (cI r 0 == cI q 0) && ((cI r 1 == cI q 1) && (cI r 2 == cI q 2))
def dif (a b : LL) : Nat → Nat → Bool
  | 0, _ => false
  | n + 1, k => !rowEq (a.getD k []) (b.getD k []) || dif a b n (k + 1)
theorem same_G (a b : LL) (ha : okCs a) (hb : okCs b) (hl : a.length = b.length) (hn : a.length ≤ 1000000) : ∀ (m r k : Nat), k + r = a.length → r < m → G_r07_Same_0 a b m k = some (dif a b r k)
  | 0, r, k, h1, h2 => by omega
  | m + 1, 0, k, h1, h2 => by
    have : ¬ ((k : Int) < a.length) := by omega
    simp only [G_r07_Same_0, Int.ofNat_eq_natCast, this, decide_false, cond_false, dif]
  | m + 1, r + 1, k, h1, h2 => by
    have d1 : (k : Int) < a.length := by omega
    have d2 : (0 : Int) ≤ k := by omega
    obtain ⟨q1, q2, _⟩ := okCs_get ha k (by omega)
    obtain ⟨q3, q4, _⟩ := okCs_get hb k (by omega)
    have ih := same_G a b ha hb hl hn m r (k + 1) (by omega) (by omega)
    simp only [G_r07_Same_0, Int.ofNat_eq_natCast, d1, d2, decide_true, cond_true, Int.toNat_natCast, q1, q2, q3, q4, Option.bind_some, wr_suc k (by omega), ih, dif, rowEq]
    cases ((cI (a.getD k []) 0 == cI (b.getD k []) 0) && ((cI (a.getD k []) 1 == cI (b.getD k []) 1) && (cI (a.getD k []) 2 == cI (b.getD k []) 2))) <;> simp
theorem dif_self (a : LL) : ∀ (n k : Nat), dif a a n k = false
  | 0, k => rfl
  | n + 1, k => by simp [dif, rowEq, dif_self a n (k + 1)]
def sameN (W H : Int) (a : LL) (W' H' : Int) (b : LL) : Bool := (W == W') && ((H == H') && (((a.length : Int) == b.length) && !dif a b a.length 0))
theorem Same_r (W H : Int) (a : LL) (W' H' : Int) (b : LL) (ha : okCs a) (hb : okCs b) (hn : a.length ≤ 1000000) : F_r07_Same W H a W' H' b = some (sameN W H a W' H' b) := by
  simp only [F_r07_Same, Int.ofNat_eq_natCast, bne, sameN]
  cases (W == W') with
  | false => rfl
  | true =>
    cases (H == H') with
    | false => rfl
    | true =>
      cases hl : ((a.length : Int) == b.length) with
      | false => rfl
      | true =>
        have hl' : a.length = b.length := by have := beq_iff_eq.1 hl; omega
        have h0 := same_G a b ha hb hl' hn FU a.length 0 (by omega) (by unfold FU; omega)
        have h0' : G_r07_Same_0 a b FU 0 = some (dif a b a.length 0) := h0
        simp only [Bool.not_true, cond_false, h0', Option.bind_some, Bool.true_and]
        cases dif a b a.length 0 <;> rfl
theorem sameN_self (W H : Int) (a : LL) : sameN W H a W H a = true := by
  simp [sameN, dif_self]
theorem has_9 (l : LL) (s : ByteArray) (hl : okR [.str] l) (hn : l.length ≤ maxLen) : F_r09_Has l s = some (hasN l s) := by
  have hm : maxLen ≤ 9223372036854775807 := by simp [maxLen]
  have key := run_loop (fun m (_ : Unit) i => G_r09_Has_0 l s m i) (hasF l s) (fun _ => false) l.length (fun _ _ => True)
    (fun m k _ hk _ => by
      obtain ⟨q1, q2, _⟩ := okR_get hl hk
      have d1 : (k : Int) < l.length := by omega
      have d2 : (0 : Int) ≤ k := by omega
      have e : hasF l s k () = bif seq (cS (l.getD k []) 0) s then .inr true else .inl () := rfl
      simp only [G_r09_Has_0, Int.ofNat_eq_natCast, d1, d2, decide_true, cond_true, Int.toNat_natCast, q1, q2, Option.bind_some, wr_next hk (by omega), e]
      show (bif seq (cS (l.getD k []) 0) s then _ else _) = _
      cases seq (cS (l.getD k []) 0) s <;> rfl)
    (fun _ _ _ _ _ _ => trivial)
    (fun m _ _ => by
      have d1 : ¬ (l.length : Int) < l.length := by omega
      simp only [G_r09_Has_0, Int.ofNat_eq_natCast, d1, decide_false, cond_false])
    l.length FU 0 () (by omega) (by unfold FU; omega) trivial
  have key' : G_r09_Has_0 l s FU 0 = some (hasN l s) := key.trans (congrArg some (iter_has0 l s))
  simp only [F_r09_Has, key', Option.bind_some]
  cases hasN l s <;> rfl
abbrev techT : List LT := y2
def cl (n : Int) : Int := max (-100000) (min n 100000)
theorem clamp_g (n lo hi : Int) : F_num_Clamp n lo hi = some (max lo (min n hi)) := by simp only [F_num_Clamp, maxI_eq, minI_eq]
theorem clamp_r (n lo hi : Int) : F_r01_Clamp n lo hi = some (max lo (min n hi)) := by simp only [F_r01_Clamp, maxI_eq, minI_eq]
def huF (l : LL) (k : Nat) (n : Int) : Int ⊕ Bool :=
  bif decide ((k : Int) > 100) then .inr true else bif decide (n + min ((cS (l.getD k []) 0).size : Int) 100000 > 20000) then .inr true else .inl (n + min ((cS (l.getD k []) 0).size : Int) 100000)
theorem huge_l (l : LL) (hl : okR [.str] l) (hn : l.length ≤ maxLen) : ∃ b, F_l22_huge l = some b ∧ (b = false → l.length ≤ 101) := by
  have hm : maxLen ≤ 9223372036854775807 := by simp [maxLen]
  have key := run_loop (fun m n i => G_l22_huge_0 l m n i) (huF l) (fun _ => false) l.length (fun k n => 0 ≤ n ∧ n ≤ 20000)
    (fun m k n hk hi => by
      obtain ⟨q1, q2, _⟩ := okR_get hl hk
      have d1 : (k : Int) < l.length := by omega
      have d2 : (0 : Int) ≤ k := by omega
      have e : huF l k n = bif decide ((k : Int) > 100) then .inr true else bif decide (n + min ((cS (l.getD k []) 0).size : Int) 100000 > 20000) then .inr true else .inl (n + min ((cS (l.getD k []) 0).size : Int) 100000) := rfl
      have w : wr (n + min ((cS (l.getD k []) 0).size : Int) 100000) = n + min ((cS (l.getD k []) 0).size : Int) 100000 := wr_in (by omega) (by omega)
      simp only [G_l22_huge_0, Int.ofNat_eq_natCast, d1, d2, decide_true, cond_true, Int.toNat_natCast, q1, q2, Option.bind_some, wr_next hk (by omega), minI_eq, w, e]
      cases decide ((k : Int) > 100) <;> cases decide (n + min ((cS (l.getD k []) 0).size : Int) 100000 > 20000) <;> rfl)
    (fun k n n' hk hi h => by
      unfold huF at h
      cases h1 : decide ((k : Int) > 100) with
      | true => rw [h1] at h; cases h
      | false =>
        rw [h1] at h
        cases h2 : decide (n + min ((cS (l.getD k []) 0).size : Int) 100000 > 20000) with
        | true => rw [h2] at h; cases h
        | false =>
          rw [h2] at h
          simp only [cond_false, Sum.inl.injEq] at h
          simp only [decide_eq_false_iff_not] at h2
          omega)
    (fun m n _ => by
      have d1 : ¬ (l.length : Int) < l.length := by omega
      simp only [G_l22_huge_0, Int.ofNat_eq_natCast, d1, decide_false, cond_false])
    l.length FU 0 0 (by omega) (by unfold FU; omega) ⟨by omega, by omega⟩
  have hv := iter_inv (f := huF l) (e := fun _ => false) (fun b => b = false → l.length ≤ 101) l.length (fun k _ => k ≤ 101)
    (fun k s s' hk hi h => by
      unfold huF at h
      by_cases h1 : (k : Int) > 100
      · rw [decide_eq_true h1] at h; cases h
      · omega)
    (fun k s t hk hi h => by
      unfold huF at h
      cases h1 : decide ((k : Int) > 100) with
      | true => rw [h1] at h; simp only [cond_true, Sum.inr.injEq] at h; rw [← h]; intro h; cases h
      | false =>
        rw [h1] at h
        cases h2 : decide (s + min ((cS (l.getD k []) 0).size : Int) 100000 > 20000) with
        | true => rw [h2] at h; simp only [cond_true, cond_false, Sum.inr.injEq] at h; rw [← h]; intro h; cases h
        | false => rw [h2] at h; cases h)
    (fun s hi _ => hi) l.length 0 0 (by omega) (by omega)
  have key' : G_l22_huge_0 l FU 0 0 = some (iter (huF l) (fun _ => false) l.length 0 0) := key
  generalize iter (huF l) (fun _ => false) l.length 0 0 = b at key' hv
  refine ⟨b, ?_, hv⟩
  simp only [F_l22_huge, key', Option.bind_some]
  cases b <;> rfl
abbrev unitT : List LT := y0
abbrev weapT : List LT := y1
abbrev TyUnits (us : LL) : Prop := Ty Tryz.prog (.sl 65 19) (.ro 19 us)
abbrev TyWeapons (ws : LL) : Prop := Ty Tryz.prog (.sl 96 6) (.ro 6 ws)
abbrev TyTechs (ts : LL) : Prop := Ty Tryz.prog (.sl 98 8) (.ro 8 ts)
abbrev TyNames (l : LL) : Prop := Ty Tryz.prog (.sl 9 1) (.ro 1 l)
theorem okNames {l : LL} (h : TyNames l) : okR [.str] l ∧ l.length ≤ maxLen := ⟨okR_of (by kernel_rfl) h, (ty_rows h).1⟩
theorem okUnits {l : LL} (h : TyUnits l) : okR unitT l := okR_of (by kernel_rfl) h
theorem okWeapons {l : LL} (h : TyWeapons l) : okR weapT l := okR_of (by kernel_rfl) h
theorem okTechs {l : LL} (h : TyTechs l) : okR techT l := okR_of (by kernel_rfl) h
theorem unit_row {us r : LL} {q : List AVal} (h : TyUnits us) (hq : q ∈ us) : TyL Tryz.prog unitT q := by
  have := (ty_rows h).2.1 q hq
  rwa [show leafOf Tryz.prog 8 65 = unitT by kernel_rfl] at this
theorem tech_row {ts : LL} {q : List AVal} (h : TyTechs ts) (hq : q ∈ ts) : TyL Tryz.prog techT q := by
  have := (ty_rows h).2.1 q hq
  rwa [show leafOf Tryz.prog 8 98 = techT by kernel_rfl] at this
theorem names_some (l : LL) (hl : okR [.str] l) (hn : l.length ≤ maxLen) : ∃ n, F_l10_names l = some n := by
  have hm : maxLen ≤ 9223372036854775807 := by simp [maxLen]
  obtain ⟨t, ht⟩ := loop_some (fun m n i => G_l10_names_0 l m n i) l.length
    (fun k s hk => by
      obtain ⟨q1, q2, _⟩ := okR_get hl hk
      have d1 : (k : Int) < l.length := by omega
      have d2 : (0 : Int) ≤ k := by omega
      exact .inl ⟨_, fun m => by simp only [G_l10_names_0, Int.ofNat_eq_natCast, d1, d2, decide_true, cond_true, Int.toNat_natCast, q1, q2, Option.bind_some, wr_next hk (by omega)]; rfl⟩)
    (fun s => ⟨s, fun m => by
      have d1 : ¬ (l.length : Int) < l.length := by omega
      simp only [G_l10_names_0, Int.ofNat_eq_natCast, d1, decide_false, cond_false]⟩)
    l.length FU 0 (l.length : Int) (by omega) (by unfold FU; omega)
  have ht' : G_l10_names_0 l FU l.length 0 = some t := ht
  exact ⟨t, by simp only [F_l10_names, Int.ofNat_eq_natCast, ht', Option.bind_some]⟩
theorem okR_strs (l : List ByteArray) : okR [.str] (l.map fun s => [AVal.sc (.string s)]) := fun r hr => by
  obtain ⟨s, _, rfl⟩ := List.mem_map.1 hr
  rfl
theorem names2_some (a b : ByteArray) : ∃ n, F_l10_names [[(AVal.sc (Value.string a))], [(AVal.sc (Value.string b))]] = some n := names_some _ (okR_strs [a, b]) (by simp [maxLen])
theorem names1_some (a : ByteArray) : ∃ n, F_l10_names [[(AVal.sc (Value.string a))]] = some n := names_some _ (okR_strs [a]) (by simp [maxLen])
theorem huge10 {us ws ts : LL} (h1 : TyUnits us) (h2 : TyWeapons ws) (h3 : TyTechs ts) : ∃ b, F_l10_Huge us ws ts = some b ∧ (b = false → us.length ≤ 100 ∧ ws.length ≤ 100 ∧ ts.length ≤ 100) := by
  simp only [F_l10_Huge, Int.ofNat_eq_natCast]
  by_cases n1 : (us.length : Int) > 100
  · exact ⟨true, by simp only [n1, decide_true, cond_true], fun h => by cases h⟩
  by_cases n2 : (ws.length : Int) > 100
  · exact ⟨true, by simp only [n1, n2, decide_true, decide_false, cond_true, cond_false], fun h => by cases h⟩
  by_cases n3 : (ts.length : Int) > 100
  · exact ⟨true, by simp only [n1, n2, n3, decide_true, decide_false, cond_true, cond_false], fun h => by cases h⟩
  simp only [n1, n2, n3, decide_false, cond_false]
  obtain ⟨t1, e1⟩ := loop_some (fun m n i => G_l10_Huge_0 us m n i) us.length
    (fun k s hk => by
      obtain ⟨q1, q2, q3⟩ := okR_get (okUnits h1) hk
      have d1 : (k : Int) < us.length := by omega
      have d2 : (0 : Int) ≤ k := by omega
      have hr := unit_row (r := us) h1 q3
      obtain ⟨p1, p2⟩ := okNames (tyL_sl hr (j := 16) rfl)
      obtain ⟨p3, p4⟩ := okNames (tyL_sl hr (j := 17) rfl)
      obtain ⟨p5, p6⟩ := okNames (tyL_sl hr (j := 18) rfl)
      obtain ⟨a0, f0⟩ := names2_some (cS (us.getD k []) 0) (cS (us.getD k []) 12)
      obtain ⟨a1, f1⟩ := names_some _ p1 p2
      obtain ⟨a2, f2⟩ := names_some _ p3 p4
      obtain ⟨a3, f3⟩ := names_some _ p5 p6
      exact .inl ⟨_, fun m => by simp only [G_l10_Huge_0, Int.ofNat_eq_natCast, d1, d2, decide_true, cond_true, Int.toNat_natCast, q1, q2, Option.bind_some, wr_next hk (by omega), roRows, f0, f1, f2, f3]; rfl⟩)
    (fun s => ⟨s, fun m => by
      have d1 : ¬ (us.length : Int) < us.length := by omega
      simp only [G_l10_Huge_0, Int.ofNat_eq_natCast, d1, decide_false, cond_false]⟩)
    us.length FU 0 0 (by omega) (by unfold FU; omega)
  obtain ⟨t2, e2⟩ := loop_some (fun m n i => G_l10_Huge_1 ws m n i) ws.length
    (fun k s hk => by
      obtain ⟨q1, q2, q3⟩ := okR_get (okWeapons h2) hk
      have d1 : (k : Int) < ws.length := by omega
      have d2 : (0 : Int) ≤ k := by omega
      obtain ⟨a0, f0⟩ := names1_some (cS (ws.getD k []) 0)
      exact .inl ⟨_, fun m => by simp only [G_l10_Huge_1, Int.ofNat_eq_natCast, d1, d2, decide_true, cond_true, Int.toNat_natCast, q1, q2, Option.bind_some, wr_next hk (by omega), f0]; rfl⟩)
    (fun s => ⟨s, fun m => by
      have d1 : ¬ (ws.length : Int) < ws.length := by omega
      simp only [G_l10_Huge_1, Int.ofNat_eq_natCast, d1, decide_false, cond_false]⟩)
    ws.length FU 0 t1 (by omega) (by unfold FU; omega)
  obtain ⟨t3, e3⟩ := loop_some (fun m n i => G_l10_Huge_2 ts m n i) ts.length
    (fun k s hk => by
      obtain ⟨q1, q2, q3⟩ := okR_get (okTechs h3) hk
      have d1 : (k : Int) < ts.length := by omega
      have d2 : (0 : Int) ≤ k := by omega
      obtain ⟨p1, p2⟩ := okNames (tyL_sl (tech_row h3 q3) (j := 1) rfl)
      obtain ⟨a0, f0⟩ := names2_some (cS (ts.getD k []) 0) (cS (ts.getD k []) 5)
      obtain ⟨a1, f1⟩ := names_some _ p1 p2
      exact .inl ⟨_, fun m => by simp only [G_l10_Huge_2, Int.ofNat_eq_natCast, d1, d2, decide_true, cond_true, Int.toNat_natCast, q1, q2, Option.bind_some, wr_next hk (by omega), roRows, f0, f1]; rfl⟩)
    (fun s => ⟨s, fun m => by
      have d1 : ¬ (ts.length : Int) < ts.length := by omega
      simp only [G_l10_Huge_2, Int.ofNat_eq_natCast, d1, decide_false, cond_false]⟩)
    ts.length FU 0 t2 (by omega) (by unfold FU; omega)
  have e1' : G_l10_Huge_0 us FU 0 0 = some t1 := e1
  have e2' : G_l10_Huge_1 ws FU t1 0 = some t2 := e2
  have e3' : G_l10_Huge_2 ts FU t2 0 = some t3 := e3
  simp only [e1', e2', e3', Option.bind_some]
  exact ⟨_, rfl, fun _ => by omega⟩
theorem okR_snoc {l : LL} (h : okR [.str] l) (s : ByteArray) : okR [.str] (l ++ [[AVal.sc (.string s)]]) := fun r hr => by
  rcases List.mem_append.1 hr with hr | hr
  · exact h r hr
  · rw [List.mem_singleton.1 hr]; rfl
theorem hasN_snoc (l : LL) (s x : ByteArray) : hasN (l ++ [[AVal.sc (.string s)]]) x = (hasN l x || seq s x) := by
  unfold hasN
  rw [List.any_append]
  congr 1
  exact Bool.or_false _
abbrev UT := ByteArray × Bool × Bool × Int × Int × Int × Int × Int × Int × Int × Int × Int × ByteArray × Int × Int × Int × LL × LL × LL × Bool
def uT (r : List AVal) : UT := (cS r 0, cB r 1, cB r 2, cI r 3, cI r 4, cI r 5, cI r 6, cI r 7, cI r 8, cI r 9, cI r 10, cI r 11, cS r 12, cI r 13, cI r 14, cI r 15, cR r 16, cR r 17, cR r 18, true)
def zT : UT := (⟨#[]⟩, false, false, 0, 0, 0, 0, 0, 0, 0, 0, 0, ⟨#[]⟩, 0, 0, 0, [], [], [], false)
def uV (us : LL) (n : ByteArray) : UT := fdV us (fun r => seq (cS r 0) n) (fun k => uT (us.getD k [])) zT
theorem unit_g (us : LL) (n : ByteArray) (h : TyUnits us) : F_rules_find_UnitType us n = some (uV us n) := by
  have hm : maxLen = 9223372036854775807 := by decide
  have key := find_loop (fun m i => G_rules_find_UnitType_0 n us us.length m i) us (fun r => seq (cS r 0) n) (fun k => let r := us.getD k []; (true, cS r 0, cB r 1, cB r 2, cI r 3, cI r 4, cI r 5, cI r 6, cI r 7, cI r 8, cI r 9, cI r 10, cI r 11, cS r 12, cI r 13, cI r 14, cI r 15, cR r 16, cR r 17, cR r 18)) (false, ⟨#[]⟩, false, false, 0, 0, 0, 0, 0, 0, 0, 0, 0, ⟨#[]⟩, 0, 0, 0, [], [], []) (ty_rows h).1
    (fun m k hk => by
      obtain ⟨q1, q2, _⟩ := okR_get (okUnits h) hk
      have hl := (ty_rows h).1
      have d1 : (k : Int) < us.length := by omega
      have d2 : (0 : Int) ≤ k := by omega
      simp only [G_rules_find_UnitType_0, F_rules_unitName, d1, d2, decide_true, cond_true, Int.toNat_natCast, q1, q2, Option.bind_some, wr_next hk (by omega)]
      rfl)
    (fun m => by
      have d1 : ¬ (us.length : Int) < us.length := by omega
      simp only [G_rules_find_UnitType_0, d1, decide_false, cond_false])
  have key' : G_rules_find_UnitType_0 n us us.length FU 0 = _ := key
  simp only [F_rules_find_UnitType, Int.ofNat_eq_natCast, key', Option.bind_some]
  unfold uV fdV
  cases us.findIdx? (fun r => seq (cS r 0) n) <;> rfl
theorem unit_r (us ws ts : LL) (n : ByteArray) (h : TyUnits us) : F_r09_Unit us ws ts n = some (uV us n) := by
  have hm : maxLen = 9223372036854775807 := by decide
  have key := find_loop (fun m i => G_r09_Unit_0 n us m i) us (fun r => seq (cS r 0) n) (fun k => let r := us.getD k []; (true, cS r 0, cB r 1, cB r 2, cI r 3, cI r 4, cI r 5, cI r 6, cI r 7, cI r 8, cI r 9, cI r 10, cI r 11, cS r 12, cI r 13, cI r 14, cI r 15, cR r 16, cR r 17, cR r 18)) (false, ⟨#[]⟩, false, false, 0, 0, 0, 0, 0, 0, 0, 0, 0, ⟨#[]⟩, 0, 0, 0, [], [], []) (ty_rows h).1
    (fun m k hk => by
      obtain ⟨q1, q2, _⟩ := okR_get (okUnits h) hk
      have hl := (ty_rows h).1
      have d1 : (k : Int) < us.length := by omega
      have d2 : (0 : Int) ≤ k := by omega
      simp only [G_r09_Unit_0, Int.ofNat_eq_natCast, d1, d2, decide_true, cond_true, Int.toNat_natCast, q1, q2, Option.bind_some, wr_next hk (by omega)]
      rfl)
    (fun m => by
      have d1 : ¬ (us.length : Int) < us.length := by omega
      simp only [G_r09_Unit_0, Int.ofNat_eq_natCast, d1, decide_false, cond_false])
  have key' : G_r09_Unit_0 n us FU 0 = _ := key
  simp only [F_r09_Unit, key', Option.bind_some]
  unfold uV fdV
  cases us.findIdx? (fun r => seq (cS r 0) n) <;> rfl
theorem clone_n {l : LL} (h : TyNames l) : F_slices_Clone_string l = some l := by
  have hb := (ty_rows h).2.2
  rw [show Tryz.prog.bytesOf 9 = 16 by kernel_rfl] at hb
  have hl : l.length ≤ 140737488355328 := by simp only [reachBytes] at hb; omega
  have r : roomOk (0 + l.length) 16 = true := by
    simp only [reachBytes] at hb
    simp [roomOk]; omega
  simp only [F_slices_Clone_string, F_slices_Clone_string_ne, r, cond_true]
  cases l <;> rfl
theorem same_n (l : LL) (h : TyNames l) : F_r09_SameNames l l = some true := by
  have hm : maxLen = 9223372036854775807 := by decide
  obtain ⟨o1, o2⟩ := okNames h
  have key := run_loop (fun m (_ : Unit) i => G_r09_SameNames_0 l l m i) (fun _ _ => .inl ()) (fun _ => false) l.length (fun _ _ => True)
    (fun m k _ hk _ => by
      obtain ⟨q1, q2, _⟩ := okR_get o1 hk
      have d1 : (k : Int) < l.length := by omega
      have d2 : (0 : Int) ≤ k := by omega
      have e : List.beq (ByteArray.toList (cS (l.getD k []) 0)) (ByteArray.toList (cS (l.getD k []) 0)) = true := seq_rfl _
      simp only [G_r09_SameNames_0, Int.ofNat_eq_natCast, d1, d2, decide_true, cond_true, Int.toNat_natCast, q1, q2, Option.bind_some, wr_next hk (by omega), e, Bool.not_true, cond_false])
    (fun _ _ _ _ _ _ => trivial)
    (fun m _ _ => by
      have d1 : ¬ (l.length : Int) < l.length := by omega
      simp only [G_r09_SameNames_0, Int.ofNat_eq_natCast, d1, decide_false, cond_false]) l.length FU 0 () (by omega) (by unfold FU; omega) trivial
  have hv : ∀ r k, iter (fun (_ : Nat) (_ : Unit) => (.inl () : Unit ⊕ Bool)) (fun _ => false) r k () = false := by
    intro r
    induction r with
    | zero => intro k; rfl
    | succ r ih => intro k; exact ih (k + 1)
  have key' : G_r09_SameNames_0 l l FU 0 = some false := key.trans (congrArg some (hv _ _))
  simp only [F_r09_SameNames, bne_self_eq_false, cond_false, key', Option.bind_some]
theorem seq_self (a : ByteArray) : List.beq (ByteArray.toList a) (ByteArray.toList a) = true := seq_rfl a
theorem same_u (a : ByteArray) (b c : Bool) (d e f g h i j k l : Int) (w : ByteArray) (o p q : Int) (x y z : LL) (hx : TyNames x) (hy : TyNames y) (hz : TyNames z) :
    F_r09_SameUnit a b c d e f g h i j k l w o p q x y z a b c d e f g h i j k l w o p q x y z = some true := by
  simp only [F_r09_SameUnit, beq_self_eq_true, cond_true, seq_self, same_n x hx, same_n y hy, same_n z hz, Option.bind_some]
theorem names_nil : TyNames [] := .sl 9 1 [] (by simp) (by simp) (fun r hr => by cases hr) (fun r hr => by cases hr)
def nm (s : ByteArray) : List AVal := [AVal.sc (.string s)]
def namesOf (l : LL) : LL := l.map fun r => nm (cS r 0)
theorem okR_names (l : LL) : okR [.str] (namesOf l) := fun r hr => by
  obtain ⟨s, _, rfl⟩ := List.mem_map.1 hr
  rfl
theorem okR_app {a b : LL} (ha : okR [.str] a) (hb : okR [.str] b) : okR [.str] (a ++ b) := fun r hr => by
  rcases List.mem_append.1 hr with hr | hr
  · exact ha r hr
  · exact hb r hr
theorem names_loop (G : Nat → LL → Int → Option (LL)) (l : LL) (hn : l.length ≤ 1000)
    (hstep : ∀ m k R, k < l.length → R.length = k → G (m + 1) R (k : Int) = G m (R ++ [nm (cS (l.getD k []) 0)]) ((k + 1 : Nat) : Int))
    (hexit : ∀ m R, G (m + 1) R (l.length : Int) = some R) : G FU [] 0 = some (namesOf l) := by
  have hs : ∀ k, k < l.length → namesOf (l.take (k + 1)) = namesOf (l.take k) ++ [nm (cS (l.getD k []) 0)] := fun k hk => by
    unfold namesOf
    rw [List.take_add_one, List.getElem?_eq_getElem hk, List.map_append]
    simp [List.getD, hk]
  have hl : ∀ k, k ≤ l.length → (namesOf (l.take k)).length = k := fun k hk => by simp [namesOf]; omega
  have key := run_loop (fun m R i => G m R i) (fun k R => .inl (R ++ [nm (cS (l.getD k []) 0)])) id l.length (fun k R => R = namesOf (l.take k))
    (fun m k R hk hi => hstep m k R hk (by rw [hi]; exact hl k (by omega)))
    (fun k s s' hk hi h => by
      simp only [Sum.inl.injEq] at h
      rw [hs k hk, ← h, hi])
    (fun m s _ => hexit m s) l.length FU 0 [] (by omega) (by unfold FU; omega) rfl
  have hv := iter_inv (f := fun k (R : LL) => (.inl (R ++ [nm (cS (l.getD k []) 0)]) : LL ⊕ LL)) (e := id) (fun t => t = namesOf l) l.length (fun k R => R = namesOf (l.take k))
    (fun k s s' hk hi h => by
      simp only [Sum.inl.injEq] at h
      rw [hs k hk, ← h, hi])
    (fun k s t hk hi h => by cases h) (fun s h => by rw [h, List.take_length]; rfl) l.length 0 [] (by omega) rfl
  exact key.trans (congrArg some hv)
theorem room16 {n : Nat} (h : n ≤ 100000) : roomOk n 16 = true := by simp [roomOk]; omega
theorem units_n (us ws ts : LL) (h : TyUnits us) (hn : us.length ≤ 1000) : F_r09_Units us ws ts = some (namesOf us) := by
  have key := names_loop (fun m R i => G_r09_Units_0 us m R i) us hn
    (fun m k R hk hR => by
      obtain ⟨q1, q2, _⟩ := okR_get (okUnits h) hk
      have d1 : (k : Int) < us.length := by omega
      have d2 : (0 : Int) ≤ k := by omega
      simp only [G_r09_Units_0, Int.ofNat_eq_natCast, d1, d2, decide_true, cond_true, Int.toNat_natCast, q1, q2, Option.bind_some, wr_next hk (by omega), room16 (n := R.length + 1) (by omega)]
      rfl)
    (fun m R => by
      have d1 : ¬ (us.length : Int) < us.length := by omega
      simp only [G_r09_Units_0, Int.ofNat_eq_natCast, d1, decide_false, cond_false])
  have key' : G_r09_Units_0 us FU [] 0 = some (namesOf us) := key
  simp only [F_r09_Units, key', Option.bind_some]
theorem weapons_n (us ws ts : LL) (h : TyWeapons ws) (hn : ws.length ≤ 1000) : F_r09_Weapons us ws ts = some (namesOf ws) := by
  have key := names_loop (fun m R i => G_r09_Weapons_0 ws m R i) ws hn
    (fun m k R hk hR => by
      obtain ⟨q1, q2, _⟩ := okR_get (okWeapons h) hk
      have d1 : (k : Int) < ws.length := by omega
      have d2 : (0 : Int) ≤ k := by omega
      simp only [G_r09_Weapons_0, Int.ofNat_eq_natCast, d1, d2, decide_true, cond_true, Int.toNat_natCast, q1, q2, Option.bind_some, wr_next hk (by omega), room16 (n := R.length + 1) (by omega)]
      rfl)
    (fun m R => by
      have d1 : ¬ (ws.length : Int) < ws.length := by omega
      simp only [G_r09_Weapons_0, Int.ofNat_eq_natCast, d1, decide_false, cond_false])
  have key' : G_r09_Weapons_0 ws FU [] 0 = some (namesOf ws) := key
  simp only [F_r09_Weapons, key', Option.bind_some]
theorem techs_n (us ws ts : LL) (h : TyTechs ts) (hn : ts.length ≤ 1000) : F_r09_Techs us ws ts = some (namesOf ts) := by
  have key := names_loop (fun m R i => G_r09_Techs_0 ts m R i) ts hn
    (fun m k R hk hR => by
      obtain ⟨q1, q2, _⟩ := okR_get (okTechs h) hk
      have d1 : (k : Int) < ts.length := by omega
      have d2 : (0 : Int) ≤ k := by omega
      simp only [G_r09_Techs_0, Int.ofNat_eq_natCast, d1, d2, decide_true, cond_true, Int.toNat_natCast, q1, q2, Option.bind_some, wr_next hk (by omega), room16 (n := R.length + 1) (by omega)]
      rfl)
    (fun m R => by
      have d1 : ¬ (ts.length : Int) < ts.length := by omega
      simp only [G_r09_Techs_0, Int.ofNat_eq_natCast, d1, decide_false, cond_false])
  have key' : G_r09_Techs_0 ts FU [] 0 = some (namesOf ts) := key
  simp only [F_r09_Techs, key', Option.bind_some]
theorem some_loop {T : Type} (G : Nat → Int → Option T) (n : Nat) (hn : n ≤ maxLen)
    (hstep : ∀ k, k < n → (∀ m, G (m + 1) (k : Int) = G m ((k + 1 : Nat) : Int)) ∨ ∃ t, ∀ m, G (m + 1) (k : Int) = some t)
    (hexit : ∃ t, ∀ m, G (m + 1) (n : Int) = some t) : ∃ t, G FU 0 = some t := by
  have hm : maxLen = 9223372036854775807 := by decide
  exact loop_some (fun m (_ : Unit) i => G m i) n (fun k _ hk => (hstep k hk).imp (fun h => ⟨(), h⟩) id) (fun _ => hexit) n FU 0 () (by omega) (by unfold FU; omega)
theorem and_loop (G : Nat → Bool → Int → Option Bool) (n : Nat) (hn : n ≤ maxLen) (g : Nat → Bool)
    (hstep : ∀ m k ok, k < n → G (m + 1) ok (k : Int) = G m (ok && g k) ((k + 1 : Nat) : Int)) (hexit : ∀ m ok, G (m + 1) ok (n : Int) = some ok) (ok : Bool) :
    ∃ b, G FU ok 0 = some b ∧ (b = true → ok = true ∧ ∀ k, k < n → g k = true) := by
  have hm : maxLen = 9223372036854775807 := by decide
  have key := run_loop (fun m s i => G m s i) (fun k s => .inl (s && g k)) id n (fun _ _ => True) (fun m k s hk _ => hstep m k s hk) (fun _ _ _ _ _ _ => trivial) (fun m s _ => hexit m s) n FU 0 ok (by omega) (by unfold FU; omega) trivial
  have hv := iter_inv (f := fun k (s : Bool) => (.inl (s && g k) : Bool ⊕ Bool)) (e := id) (fun b => b = true → ok = true ∧ ∀ k, k < n → g k = true) n (fun k s => s = true → ok = true ∧ ∀ j, j < k → g j = true)
    (fun k s s' hk hi h => by
      simp only [Sum.inl.injEq] at h
      intro hs
      rw [← h, Bool.and_eq_true] at hs
      refine ⟨(hi hs.1).1, fun j hj => ?_⟩
      by_cases e : j = k
      · rw [e]; exact hs.2
      · exact (hi hs.1).2 j (by omega))
    (fun k s t hk hi h => by cases h) (fun s h => h) n 0 ok (by omega) (fun h => ⟨h, fun j hj => by omega⟩)
  exact ⟨_, key, hv⟩
theorem all_s (l inn : LL) (h1 : okR [.str] l) (h2 : okR [.str] inn) (n1 : l.length ≤ maxLen) (n2 : inn.length ≤ maxLen) : ∃ b, F_r09_all l inn = some b := by
  have hm : maxLen = 9223372036854775807 := by decide
  obtain ⟨t, ht⟩ := some_loop (fun m i => G_r09_all_0 l inn m i) l.length n1
    (fun k hk => by
      obtain ⟨q1, q2, _⟩ := okR_get h1 hk
      have d1 : (k : Int) < l.length := by omega
      have d2 : (0 : Int) ≤ k := by omega
      cases hb : hasN inn (cS (l.getD k []) 0) with
      | true => exact .inl fun m => by simp only [G_r09_all_0, Int.ofNat_eq_natCast, d1, d2, decide_true, cond_true, Int.toNat_natCast, q1, q2, Option.bind_some, wr_next hk (by omega), has_9 inn _ h2 n2, hb, Bool.not_true, cond_false]
      | false => exact .inr ⟨_, fun m => by simp only [G_r09_all_0, Int.ofNat_eq_natCast, d1, d2, decide_true, cond_true, Int.toNat_natCast, q1, q2, Option.bind_some, has_9 inn _ h2 n2, hb, Bool.not_false]; rfl⟩)
    ⟨false, fun m => by
      have d1 : ¬ (l.length : Int) < l.length := by omega
      simp only [G_r09_all_0, Int.ofNat_eq_natCast, d1, decide_false, cond_false]⟩
  have ht' : G_r09_all_0 l inn FU 0 = some t := ht
  simp only [F_r09_all, ht', Option.bind_some]
  cases t <;> exact ⟨_, rfl⟩
theorem asc_s (l : LL) (h1 : okR [.str] l) (n1 : l.length ≤ maxLen) : ∃ b, F_r09_ascending l = some b := by
  have hm : maxLen = 9223372036854775807 := by decide
  have hx : ∃ t, G_r09_ascending_0 l FU 1 = some t := by
    by_cases h0 : l.length = 0
    · obtain ⟨m, hF⟩ : ∃ m, FU = m + 1 := ⟨FU - 1, by unfold FU; omega⟩
      rw [hF]
      have d1 : ¬ (1 : Int) < l.length := by omega
      exact ⟨false, by simp only [G_r09_ascending_0, Int.ofNat_eq_natCast, d1, decide_false, cond_false]⟩
    · have key := loop_some (fun m (_ : Unit) i => G_r09_ascending_0 l m (i + 1)) (l.length - 1)
        (fun k _ hk => by
          obtain ⟨q1, q2, _⟩ := okR_get h1 (k := k) (by omega)
          obtain ⟨p1, p2, _⟩ := okR_get h1 (k := k + 1) (by omega)
          have e1 : (k : Int) + 1 = ((k + 1 : Nat) : Int) := by omega
          have d1 : ((k + 1 : Nat) : Int) < l.length := by omega
          have d2 : (0 : Int) ≤ k := by omega
          have d3 : (0 : Int) ≤ ((k + 1 : Nat) : Int) := by omega
          have w1 : wr (((k + 1 : Nat) : Int) - 1) = k := by rw [wr_in (by omega) (by omega)]; omega
          have w2 : wr (((k + 1 : Nat) : Int) + 1) = ((k + 1 : Nat) : Int) + 1 := wr_in (by omega) (by omega)
          cases hb : Op.bytesLess (ByteArray.toList (cS (l.getD k []) 0)) (ByteArray.toList (cS (l.getD (k + 1) []) 0)) with
          | true => exact .inl ⟨(), fun m => by
              show G_r09_ascending_0 l (m + 1) ((k : Int) + 1) = G_r09_ascending_0 l m (((k + 1 : Nat) : Int) + 1)
              rw [e1]
              simp only [G_r09_ascending_0, Int.ofNat_eq_natCast, w1, w2, d1, d2, d3, decide_true, cond_true, Int.toNat_natCast, q1, q2, p1, p2, Option.bind_some, hb, Bool.not_true, cond_false]⟩
          | false => exact .inr ⟨true, fun m => by
              show G_r09_ascending_0 l (m + 1) ((k : Int) + 1) = _
              rw [e1]
              simp only [G_r09_ascending_0, Int.ofNat_eq_natCast, w1, d1, d2, d3, decide_true, cond_true, Int.toNat_natCast, q1, q2, p1, p2, Option.bind_some, hb, Bool.not_false]⟩)
        (fun _ => ⟨false, fun m => by
          show G_r09_ascending_0 l (m + 1) (((l.length - 1 : Nat) : Int) + 1) = _
          have d1 : ¬ (((l.length - 1 : Nat) : Int) + 1) < l.length := by omega
          simp only [G_r09_ascending_0, Int.ofNat_eq_natCast, d1, decide_false, cond_false]⟩) (l.length - 1) FU 0 () (by omega) (by unfold FU; omega)
      exact key
  obtain ⟨t, ht⟩ := hx
  simp only [F_r09_ascending, ht, Option.bind_some]
  cases t <;> exact ⟨_, rfl⟩
theorem limits_s (us ws ts : LL) (h1 : TyUnits us) (h3 : TyTechs ts) : ∃ b, F_r09_limits us ws ts = some b := by
  have hm : maxLen = 9223372036854775807 := by decide
  obtain ⟨t1, e1⟩ := some_loop (fun m i => G_r09_limits_0 us m i) us.length (ty_rows h1).1
    (fun k hk => by
      obtain ⟨q1, q2, _⟩ := okR_get (okUnits h1) hk
      have hl := (ty_rows h1).1
      have d1 : (k : Int) < us.length := by omega
      have d2 : (0 : Int) ≤ k := by omega
      by_cases n1 : ((cR (us.getD k []) 16).length : Int) > 4
      · exact .inr ⟨true, fun m => by simp only [G_r09_limits_0, Int.ofNat_eq_natCast, d1, d2, decide_true, cond_true, Int.toNat_natCast, q1, q2, Option.bind_some, n1]⟩
      by_cases n2 : ((cR (us.getD k []) 17).length : Int) > 4
      · exact .inr ⟨true, fun m => by simp only [G_r09_limits_0, Int.ofNat_eq_natCast, d1, d2, decide_true, cond_true, Int.toNat_natCast, q1, q2, Option.bind_some, n1, n2, decide_false, cond_false]⟩
      by_cases n3 : ((cR (us.getD k []) 18).length : Int) > 4
      · exact .inr ⟨true, fun m => by simp only [G_r09_limits_0, Int.ofNat_eq_natCast, d1, d2, decide_true, cond_true, Int.toNat_natCast, q1, q2, Option.bind_some, n1, n2, n3, decide_false, cond_false]⟩
      · exact .inl fun m => by simp only [G_r09_limits_0, Int.ofNat_eq_natCast, d1, d2, decide_true, cond_true, Int.toNat_natCast, q1, q2, Option.bind_some, n1, n2, n3, decide_false, cond_false, wr_next hk (by omega)])
    ⟨false, fun m => by
      have d1 : ¬ (us.length : Int) < us.length := by omega
      simp only [G_r09_limits_0, Int.ofNat_eq_natCast, d1, decide_false, cond_false]⟩
  obtain ⟨t2, e2⟩ := some_loop (fun m i => G_r09_limits_1 ts m i) ts.length (ty_rows h3).1
    (fun k hk => by
      obtain ⟨q1, q2, _⟩ := okR_get (okTechs h3) hk
      have hl := (ty_rows h3).1
      have d1 : (k : Int) < ts.length := by omega
      have d2 : (0 : Int) ≤ k := by omega
      by_cases n1 : ((cR (ts.getD k []) 1).length : Int) > 4
      · exact .inr ⟨true, fun m => by simp only [G_r09_limits_1, Int.ofNat_eq_natCast, d1, d2, decide_true, cond_true, Int.toNat_natCast, q1, q2, Option.bind_some, n1]⟩
      · exact .inl fun m => by simp only [G_r09_limits_1, Int.ofNat_eq_natCast, d1, d2, decide_true, cond_true, Int.toNat_natCast, q1, q2, Option.bind_some, n1, decide_false, cond_false, wr_next hk (by omega)])
    ⟨false, fun m => by
      have d1 : ¬ (ts.length : Int) < ts.length := by omega
      simp only [G_r09_limits_1, Int.ofNat_eq_natCast, d1, decide_false, cond_false]⟩
  have e1' : G_r09_limits_0 us FU 0 = some t1 := e1
  have e2' : G_r09_limits_1 ts FU 0 = some t2 := e2
  simp only [F_r09_limits, e1', e2', Option.bind_some]
  cases decide (Int.ofNat us.length > 16) <;> cases decide (Int.ofNat ws.length > 8) <;> cases decide (Int.ofNat ts.length > 12) <;> cases t1 <;> cases t2 <;> exact ⟨_, rfl⟩
theorem name_s (s : ByteArray) (hs : s.size ≤ reachBytes) : ∃ b, F_r09_Name s = some b ∧ (b = true → 1 ≤ s.size) := by
  have hr : reachBytes = 140737488351232 := rfl
  have hm : maxLen = 9223372036854775807 := by decide
  obtain ⟨t, ht⟩ := some_loop (fun m i => G_r09_Name_0 s m i) s.size (by omega)
    (fun k hk => by
      have d1 : (k : Int) < s.size := by omega
      have d2 : (0 : Int) ≤ k := by omega
      simp only [G_r09_Name_0, Int.ofNat_eq_natCast, d1, d2, decide_true, cond_true, wr_next hk (by omega)]
      cases decide (byteA s k ≥ 97) <;> cases decide (byteA s k ≤ 122) <;> cases decide (byteA s k ≥ 48) <;> cases decide (byteA s k ≤ 57) <;> cases (byteA s k != 95) <;> first | exact .inl fun m => rfl | exact .inr ⟨_, fun m => rfl⟩)
    ⟨false, fun m => by
      have d1 : ¬ (s.size : Int) < s.size := by omega
      simp only [G_r09_Name_0, Int.ofNat_eq_natCast, d1, decide_false, cond_false]⟩
  have ht' : G_r09_Name_0 s FU 0 = some t := ht
  simp only [F_r09_Name, Int.ofNat_eq_natCast, ht', Option.bind_some]
  by_cases n1 : (s.size : Int) < 1
  · exact ⟨false, by simp only [n1, decide_true, cond_true], fun h => by cases h⟩
  · have d2 : (0 : Int) < s.size := by omega
    simp only [n1, d2, decide_false, decide_true, cond_false, cond_true]
    cases decide ((s.size : Int) > 12) <;> cases decide (byteA s 0 < 97) <;> cases decide (byteA s 0 > 122) <;> cases t <;> exact ⟨_, rfl, fun _ => by omega⟩
theorem named_s (us ws ts : LL) (h1 : TyUnits us) (h2 : TyWeapons ws) (h3 : TyTechs ts) (n1 : us.length ≤ 100) (n2 : ws.length ≤ 100) (n3 : ts.length ≤ 100) :
    ∃ b, F_r09_named us ws ts = some b ∧ (b = true → ∀ r ∈ ws, 1 ≤ (cS r 0).size) := by
  have hm : maxLen = 9223372036854775807 := by decide
  have hl : (namesOf us ++ namesOf ws ++ namesOf ts).length = us.length + ws.length + ts.length := by simp [namesOf]; omega
  have ok := okR_app (okR_app (okR_names us) (okR_names ws)) (okR_names ts)
  have hsz : ∀ q ∈ namesOf us ++ namesOf ws ++ namesOf ts, (cS q 0).size ≤ reachBytes := fun q hq => by
    have f : ∀ (l : LL), (∀ r ∈ l, (cS r 0).size ≤ reachBytes) → q ∈ namesOf l → (cS q 0).size ≤ reachBytes := fun l hl hq => by
      obtain ⟨r, hr, rfl⟩ := List.mem_map.1 hq
      exact hl r hr
    rcases List.mem_append.1 hq with hq | hq
    · rcases List.mem_append.1 hq with hq | hq
      · exact f us (fun r hr => tyL_str (unit_row (r := us) h1 hr) rfl) hq
      · exact f ws (fun r hr => tyL_str (by have := (ty_rows h2).2.1 r hr; rwa [show leafOf Tryz.prog 8 96 = weapT by kernel_rfl] at this) rfl) hq
    · exact f ts (fun r hr => tyL_str (tech_row h3 hr) rfl) hq
  have key := find_loop (fun m i => G_r09_named_0 (namesOf us ++ namesOf ws ++ namesOf ts) m i) (namesOf us ++ namesOf ws ++ namesOf ts) (fun r => !((F_r09_Name (cS r 0)).getD false)) (fun _ => true) false (by omega)
    (fun m k hk => by
      obtain ⟨q1, q2, q3⟩ := okR_get ok hk
      have d1 : (k : Int) < (namesOf us ++ namesOf ws ++ namesOf ts).length := by omega
      have d2 : (0 : Int) ≤ k := by omega
      obtain ⟨b, hb, _⟩ := name_s _ (hsz _ q3)
      simp only [G_r09_named_0, Int.ofNat_eq_natCast, d1, d2, decide_true, Bool.and_true, cond_true, Int.toNat_natCast, q1, q2, Option.bind_some, wr_next hk (by omega), hb, Option.getD_some])
    (fun m => by
      have d1 : ¬ ((namesOf us ++ namesOf ws ++ namesOf ts).length : Int) < (namesOf us ++ namesOf ws ++ namesOf ts).length := by omega
      simp only [G_r09_named_0, Int.ofNat_eq_natCast, d1, decide_false, cond_false])
  have key' : G_r09_named_0 (namesOf us ++ namesOf ws ++ namesOf ts) FU 0 = _ := key
  have l1 : (namesOf us).length = us.length := by simp [namesOf]
  have l2 : (namesOf ws).length = ws.length := by simp [namesOf]
  have l3 : (namesOf ts).length = ts.length := by simp [namesOf]
  have r1 : roomOk ((namesOf us).length + (namesOf ws).length) 16 = true := room16 (by omega)
  have r2 : roomOk ((namesOf us ++ namesOf ws).length + (namesOf ts).length) 16 = true := room16 (by rw [List.length_append]; omega)
  simp only [F_r09_named, units_n us ws ts h1 (by omega), weapons_n us ws ts h2 (by omega), techs_n us ws ts h3 (by omega), Option.bind_some, r1, r2, cond_true, key']
  unfold fdV
  cases hf : (namesOf us ++ namesOf ws ++ namesOf ts).findIdx? (fun r => !((F_r09_Name (cS r 0)).getD false)) with
  | some k => exact ⟨false, rfl, fun h => by cases h⟩
  | none =>
    refine ⟨true, rfl, fun _ r hr => ?_⟩
    have hin : nm (cS r 0) ∈ namesOf us ++ namesOf ws ++ namesOf ts := List.mem_append_left _ (List.mem_append_right _ (List.mem_map.2 ⟨r, hr, rfl⟩))
    have := List.findIdx?_eq_none_iff.1 hf _ hin
    obtain ⟨b, hb, hb2⟩ := name_s _ (hsz _ hin)
    rw [hb] at this
    simp only [Option.getD_some, Bool.not_eq_false', Bool.not_eq_true'] at this
    have hb3 : b = true := by cases b <;> simp_all
    exact hb2 hb3
theorem ordered_s (us ws ts : LL) (h1 : TyUnits us) (h2 : TyWeapons ws) (h3 : TyTechs ts) (n1 : us.length ≤ 100) (n2 : ws.length ≤ 100) (n3 : ts.length ≤ 100) :
    ∃ b, F_r09_ordered us ws ts = some b := by
  have hm : maxLen = 9223372036854775807 := by decide
  have l1 : (namesOf us).length = us.length := by simp [namesOf]
  have l2 : (namesOf ws).length = ws.length := by simp [namesOf]
  have l3 : (namesOf ts).length = ts.length := by simp [namesOf]
  obtain ⟨b1, e1⟩ := asc_s _ (okR_names us) (by omega)
  obtain ⟨b2, e2⟩ := asc_s _ (okR_names ws) (by omega)
  obtain ⟨b3, e3⟩ := asc_s _ (okR_names ts) (by omega)
  have a (l : LL) (h : TyNames l) : F_r09_ascending l = some ((F_r09_ascending l).getD false) := by
    obtain ⟨o1, o2⟩ := okNames h
    obtain ⟨b, e⟩ := asc_s _ o1 o2
    rw [e]; rfl
  have g0 : ∀ ok, ∃ b, G_r09_ordered_0 us FU ok 0 = some b := fun ok => by
    obtain ⟨b, hb, _⟩ := and_loop (fun m ok i => G_r09_ordered_0 us m ok i) us.length (by omega) (fun k => let r := us.getD k []; (F_r09_ascending (cR r 16)).getD false && ((F_r09_ascending (cR r 17)).getD false && (F_r09_ascending (cR r 18)).getD false))
      (fun m k ok hk => by
        obtain ⟨q1, q2, q3⟩ := okR_get (okUnits h1) hk
        have d1 : (k : Int) < us.length := by omega
        have d2 : (0 : Int) ≤ k := by omega
        have hr := unit_row (r := us) h1 q3
        have a1 := a _ (tyL_sl hr (j := 16) rfl)
        have a2 := a _ (tyL_sl hr (j := 17) rfl)
        have a3 := a _ (tyL_sl hr (j := 18) rfl)
        generalize (F_r09_ascending (cR (us.getD k []) 16)).getD false = c1 at *
        generalize (F_r09_ascending (cR (us.getD k []) 17)).getD false = c2 at *
        generalize (F_r09_ascending (cR (us.getD k []) 18)).getD false = c3 at *
        simp only [G_r09_ordered_0, Int.ofNat_eq_natCast, d1, d2, decide_true, cond_true, Int.toNat_natCast, q1, q2, Option.bind_some, wr_next hk (by omega), roRows, a1, a2, a3]
        cases ok <;> cases c1 <;> cases c2 <;> rfl)
      (fun m ok => by
        have d1 : ¬ (us.length : Int) < us.length := by omega
        simp only [G_r09_ordered_0, Int.ofNat_eq_natCast, d1, decide_false, cond_false]) ok
    exact ⟨b, hb⟩
  have g1 : ∀ ok, ∃ b, G_r09_ordered_1 ts FU ok 0 = some b := fun ok => by
    obtain ⟨b, hb, _⟩ := and_loop (fun m ok i => G_r09_ordered_1 ts m ok i) ts.length (by omega) (fun k => let r := ts.getD k []; (F_r09_ascending (cR r 1)).getD false)
      (fun m k ok hk => by
        obtain ⟨q1, q2, q3⟩ := okR_get (okTechs h3) hk
        have d1 : (k : Int) < ts.length := by omega
        have d2 : (0 : Int) ≤ k := by omega
        have hr := tech_row h3 q3
        have a1 := a _ (tyL_sl hr (j := 1) rfl)
        generalize (F_r09_ascending (cR (ts.getD k []) 1)).getD false = c1 at *
        simp only [G_r09_ordered_1, Int.ofNat_eq_natCast, d1, d2, decide_true, cond_true, Int.toNat_natCast, q1, q2, Option.bind_some, wr_next hk (by omega), roRows, a1]
        cases ok <;> cases c1 <;> rfl)
      (fun m ok => by
        have d1 : ¬ (ts.length : Int) < ts.length := by omega
        simp only [G_r09_ordered_1, Int.ofNat_eq_natCast, d1, decide_false, cond_false]) ok
    exact ⟨b, hb⟩
  simp only [F_r09_ordered, units_n us ws ts h1 (by omega), weapons_n us ws ts h2 (by omega), techs_n us ws ts h3 (by omega), Option.bind_some, e1, e2, e3]
  obtain ⟨f, hf⟩ := g0 false
  obtain ⟨f', hf'⟩ := g1 f
  cases b1 with
  | false => exact ⟨f', by simp only [cond_false, hf, hf', Option.bind_some]⟩
  | true =>
    cases b2 with
    | false => exact ⟨f', by simp only [cond_true, cond_false, hf, hf', Option.bind_some]⟩
    | true =>
      obtain ⟨g, hg⟩ := g0 b3
      obtain ⟨g', hg'⟩ := g1 g
      exact ⟨g', by simp only [cond_true, hg, hg', Option.bind_some]⟩
theorem dup_s (us R : LL) (h1 : TyUnits us) (hR : okR [.str] R) (hn : R.length ≤ maxLen) : ∃ b, G_r09_Validate_0 R us FU 0 = some b := by
  have hm : maxLen = 9223372036854775807 := by decide
  have hl := (ty_rows h1).1
  exact some_loop (fun m i => G_r09_Validate_0 R us m i) us.length hl
    (fun k hk => by
      obtain ⟨q1, q2, _⟩ := okR_get (okUnits h1) hk
      have d1 : (k : Int) < us.length := by omega
      have d2 : (0 : Int) ≤ k := by omega
      cases hb : hasN R (cS (us.getD k []) 0) with
      | false => exact .inl fun m => by simp only [G_r09_Validate_0, Int.ofNat_eq_natCast, d1, d2, decide_true, cond_true, Int.toNat_natCast, q1, q2, Option.bind_some, wr_next hk (by omega), has_9 R _ hR hn, hb, cond_false]
      | true => exact .inr ⟨_, fun m => by simp only [G_r09_Validate_0, Int.ofNat_eq_natCast, d1, d2, decide_true, cond_true, Int.toNat_natCast, q1, q2, Option.bind_some, has_9 R _ hR hn, hb]; rfl⟩)
    ⟨false, fun m => by
      have d1 : ¬ (us.length : Int) < us.length := by omega
      simp only [G_r09_Validate_0, Int.ofNat_eq_natCast, d1, decide_false, cond_false]⟩
theorem within_v (n lo hi : Int) : F_r09_within n lo hi = some (decide (n ≥ lo) && decide (n ≤ hi)) := by
  simp only [F_r09_within]
  cases decide (n ≥ lo) <;> rfl
theorem stat_v (n : Int) : F_r09_stat n = some (decide (n ≥ 0) && decide (n ≤ 100000)) := by
  simp only [F_r09_stat, within_v, Option.bind_some]
theorem in_of {n lo hi : Int} (h : (decide (n ≥ lo) && decide (n ≤ hi)) = true) : lo ≤ n ∧ n ≤ hi := by
  simp only [Bool.and_eq_true, decide_eq_true_eq] at h
  omega
theorem shaped_v (a : ByteArray) (b c : Bool) (d e f g h i j k l : Int) (w : ByteArray) (o p q : Int) (x y z : LL) :
    ∃ t, F_r09_shaped a b c d e f g h i j k l w o p q x y z = some t ∧ (t = true → (0 ≤ i ∧ i ≤ 16) ∧ (1 ≤ j ∧ j ≤ 100000) ∧ (0 ≤ k ∧ k ≤ 100000) ∧ (0 ≤ h ∧ h ≤ 256) ∧ (0 ≤ l ∧ l ≤ 100000)) := by
  simp only [F_r09_shaped, within_v, stat_v, Option.bind_some]
  cases h1 : (decide (i ≥ 0) && decide (i ≤ 16)) with
  | false => exact ⟨false, rfl, fun h => by cases h⟩
  | true =>
  cases h2 : (decide (j ≥ 1) && decide (j ≤ 100000)) with
  | false => exact ⟨false, rfl, fun h => by cases h⟩
  | true =>
  cases h3 : (decide (k ≥ 0) && decide (k ≤ 100000)) with
  | false => exact ⟨false, rfl, fun h => by cases h⟩
  | true =>
  have i1 := in_of h1
  have i2 := in_of h2
  have i3 := in_of h3
  simp only [Bool.not_true, cond_false]
  cases (decide (o ≥ 0) && decide (o ≤ 100000)) with
  | false => exact ⟨false, rfl, fun h => by cases h⟩
  | true =>
  cases (decide (p ≥ 0) && decide (p ≤ 100000)) with
  | false => exact ⟨false, rfl, fun h => by cases h⟩
  | true =>
  cases (decide (q ≥ 0) && decide (q ≤ 100000)) with
  | false => exact ⟨false, rfl, fun h => by cases h⟩
  | true =>
  simp only [Bool.not_true, cond_false]
  cases b with
  | true =>
    simp only [cond_true]
    cases h4 : (h == 0) with
    | false =>
      cases (d == 0) <;> cases (decide (e ≥ 1) && decide (e ≤ 4)) <;> cases (decide (f ≥ 1) && decide (f ≤ 4)) <;> cases (g == 0) <;> exact ⟨false, rfl, fun h => by cases h⟩
    | true =>
      have i4 : h = 0 := by simpa using h4
      cases (d == 0) <;> cases (decide (e ≥ 1) && decide (e ≤ 4)) <;> cases (decide (f ≥ 1) && decide (f ≤ 4)) <;> cases (g == 0) <;> exact ⟨_, rfl, fun hb => ⟨i1, i2, i3, by omega, by first | (have := eq_of_beq hb; omega) | cases hb⟩⟩
  | false =>
    simp only [cond_false]
    cases h4 : (decide (h ≥ 0) && decide (h ≤ 256)) with
    | false =>
      cases (decide (d ≥ 1) && decide (d ≤ 3)) <;> cases (e == 0) <;> cases (f == 0) <;> cases (decide (g ≥ 16) && decide (g ≤ 128)) <;> exact ⟨false, rfl, fun h => by cases h⟩
    | true =>
      have i4 := in_of h4
      cases h5 : (decide (l ≥ 0) && decide (l ≤ 100000)) with
      | false => cases (decide (d ≥ 1) && decide (d ≤ 3)) <;> cases (e == 0) <;> cases (f == 0) <;> cases (decide (g ≥ 16) && decide (g ≤ 128)) <;> exact ⟨false, rfl, fun h => by cases h⟩
      | true =>
        have i5 := in_of h5
        cases (decide (d ≥ 1) && decide (d ≤ 3)) <;> cases (e == 0) <;> cases (f == 0) <;> cases (decide (g ≥ 16) && decide (g ≤ 128)) <;> exact ⟨_, rfl, fun _ => ⟨i1, i2, i3, i4, i5⟩⟩
def goodU (r : List AVal) : Prop := (0 ≤ cI r 8 ∧ cI r 8 ≤ 16) ∧ (1 ≤ cI r 9 ∧ cI r 9 ≤ 100000) ∧ (0 ≤ cI r 10 ∧ cI r 10 ≤ 100000) ∧ (0 ≤ cI r 7 ∧ cI r 7 ≤ 256) ∧ (0 ≤ cI r 11 ∧ cI r 11 ≤ 100000)
def goodW (r : List AVal) : Prop := (0 ≤ cI r 1 ∧ cI r 1 ≤ 8192) ∧ (0 ≤ cI r 2 ∧ cI r 2 ≤ 100000)
noncomputable def shp (r : List AVal) : Option Bool := F_r09_shaped (cS r 0) (cB r 1) (cB r 2) (cI r 3) (cI r 4) (cI r 5) (cI r 6) (cI r 7) (cI r 8) (cI r 9) (cI r 10) (cI r 11) (cS r 12) (cI r 13) (cI r 14) (cI r 15) (cR r 16) (cR r 17) (cR r 18)
theorem numbers_s (us ws ts : LL) (h1 : TyUnits us) (h2 : TyWeapons ws) (h3 : TyTechs ts) (n1 : us.length ≤ 100) (n2 : ws.length ≤ 100) (n3 : ts.length ≤ 100) :
    ∃ b, F_r09_numbers us ws ts = some b ∧ (b = true → (∀ k, k < us.length → goodU (us.getD k [])) ∧ ∀ k, k < ws.length → goodW (ws.getD k [])) := by
  have hm : maxLen = 9223372036854775807 := by decide
  obtain ⟨b0, e0, l0⟩ := and_loop (fun m ok i => G_r09_numbers_0 us m ok i) us.length (by omega) (fun k => (shp (us.getD k [])).getD false)
    (fun m k ok hk => by
      obtain ⟨q1, q2, q3⟩ := okR_get (okUnits h1) hk
      have d1 : (k : Int) < us.length := by omega
      have d2 : (0 : Int) ≤ k := by omega
      have hv : ∃ t, shp (us.getD k []) = some t := by
        obtain ⟨t, ht, _⟩ := shaped_v (cS (us.getD k []) 0) (cB (us.getD k []) 1) (cB (us.getD k []) 2) (cI (us.getD k []) 3) (cI (us.getD k []) 4) (cI (us.getD k []) 5) (cI (us.getD k []) 6) (cI (us.getD k []) 7) (cI (us.getD k []) 8) (cI (us.getD k []) 9) (cI (us.getD k []) 10) (cI (us.getD k []) 11) (cS (us.getD k []) 12) (cI (us.getD k []) 13) (cI (us.getD k []) 14) (cI (us.getD k []) 15) (cR (us.getD k []) 16) (cR (us.getD k []) 17) (cR (us.getD k []) 18)
        exact ⟨t, ht⟩
      obtain ⟨t, ht⟩ := hv
      have ht' := ht
      unfold shp at ht'
      simp only [G_r09_numbers_0, Int.ofNat_eq_natCast, d1, d2, decide_true, cond_true, Int.toNat_natCast, q1, q2, Option.bind_some, wr_next hk (by omega), roRows, ht, ht', Option.getD_some]
      cases ok <;> rfl)
    (fun m ok => by
      have d1 : ¬ (us.length : Int) < us.length := by omega
      simp only [G_r09_numbers_0, Int.ofNat_eq_natCast, d1, decide_false, cond_false]) true
  obtain ⟨b1, e1, l1⟩ := and_loop (fun m ok i => G_r09_numbers_1 ws m ok i) ws.length (by omega) (fun k => let r := ws.getD k []; (decide (cI r 1 ≥ 0) && decide (cI r 1 ≤ 8192)) && ((decide (cI r 2 ≥ 0) && decide (cI r 2 ≤ 100000)) && ((decide (cI r 3 ≥ 0) && decide (cI r 3 ≤ 100000)) && ((decide (cI r 4 ≥ 0) && decide (cI r 4 ≤ 512)) && (decide (cI r 5 ≥ 0) && decide (cI r 5 ≤ 1024))))))
    (fun m k ok hk => by
      obtain ⟨q1, q2, q3⟩ := okR_get (okWeapons h2) hk
      have d1 : (k : Int) < ws.length := by omega
      have d2 : (0 : Int) ≤ k := by omega
      simp only [G_r09_numbers_1, Int.ofNat_eq_natCast, d1, d2, decide_true, cond_true, Int.toNat_natCast, q1, q2, Option.bind_some, wr_next hk (by omega), within_v, stat_v]
      generalize (decide (cI (ws.getD k []) 1 ≥ 0) && decide (cI (ws.getD k []) 1 ≤ 8192)) = c1
      generalize (decide (cI (ws.getD k []) 2 ≥ 0) && decide (cI (ws.getD k []) 2 ≤ 100000)) = c2
      generalize (decide (cI (ws.getD k []) 3 ≥ 0) && decide (cI (ws.getD k []) 3 ≤ 100000)) = c3
      generalize (decide (cI (ws.getD k []) 4 ≥ 0) && decide (cI (ws.getD k []) 4 ≤ 512)) = c4
      generalize (decide (cI (ws.getD k []) 5 ≥ 0) && decide (cI (ws.getD k []) 5 ≤ 1024)) = c5
      cases ok <;> cases c1 <;> cases c2 <;> cases c3 <;> cases c4 <;> rfl)
    (fun m ok => by
      have d1 : ¬ (ws.length : Int) < ws.length := by omega
      simp only [G_r09_numbers_1, Int.ofNat_eq_natCast, d1, decide_false, cond_false]) b0
  obtain ⟨b2, e2, l2⟩ := and_loop (fun m ok i => G_r09_numbers_2 ts m ok i) ts.length (by omega) (fun k => let r := ts.getD k []; (decide (cI r 2 ≥ 0) && decide (cI r 2 ≤ 100000)) && ((decide (cI r 3 ≥ 0) && decide (cI r 3 ≤ 100000)) && ((decide (cI r 4 ≥ 0) && decide (cI r 4 ≤ 100000)) && ((decide (cI r 7 ≥ 0) && decide (cI r 7 ≤ 100000)) && (decide (cI r 6 ≥ 1) && decide (cI r 6 ≤ 6))))))
    (fun m k ok hk => by
      obtain ⟨q1, q2, q3⟩ := okR_get (okTechs h3) hk
      have d1 : (k : Int) < ts.length := by omega
      have d2 : (0 : Int) ≤ k := by omega
      simp only [G_r09_numbers_2, Int.ofNat_eq_natCast, d1, d2, decide_true, cond_true, Int.toNat_natCast, q1, q2, Option.bind_some, wr_next hk (by omega), within_v, stat_v]
      generalize (decide (cI (ts.getD k []) 2 ≥ 0) && decide (cI (ts.getD k []) 2 ≤ 100000)) = c1
      generalize (decide (cI (ts.getD k []) 3 ≥ 0) && decide (cI (ts.getD k []) 3 ≤ 100000)) = c2
      generalize (decide (cI (ts.getD k []) 4 ≥ 0) && decide (cI (ts.getD k []) 4 ≤ 100000)) = c3
      generalize (decide (cI (ts.getD k []) 7 ≥ 0) && decide (cI (ts.getD k []) 7 ≤ 100000)) = c4
      generalize (decide (cI (ts.getD k []) 6 ≥ 1) && decide (cI (ts.getD k []) 6 ≤ 6)) = c5
      cases ok <;> cases c1 <;> cases c2 <;> cases c3 <;> cases c4 <;> rfl)
    (fun m ok => by
      have d1 : ¬ (ts.length : Int) < ts.length := by omega
      simp only [G_r09_numbers_2, Int.ofNat_eq_natCast, d1, decide_false, cond_false]) b1
  have e0' : G_r09_numbers_0 us FU true 0 = some b0 := e0
  have e1' : G_r09_numbers_1 ws FU b0 0 = some b1 := e1
  have e2' : G_r09_numbers_2 ts FU b1 0 = some b2 := e2
  refine ⟨b2, by simp only [F_r09_numbers, e0', e1', e2', Option.bind_some], fun h => ?_⟩
  obtain ⟨p1, _⟩ := l2 h
  obtain ⟨p2, p3⟩ := l1 p1
  obtain ⟨_, p4⟩ := l0 p2
  refine ⟨fun k hk => ?_, fun k hk => ?_⟩
  · have h4 := p4 k hk
    obtain ⟨t, ht, hg⟩ := shaped_v (cS (us.getD k []) 0) (cB (us.getD k []) 1) (cB (us.getD k []) 2) (cI (us.getD k []) 3) (cI (us.getD k []) 4) (cI (us.getD k []) 5) (cI (us.getD k []) 6) (cI (us.getD k []) 7) (cI (us.getD k []) 8) (cI (us.getD k []) 9) (cI (us.getD k []) 10) (cI (us.getD k []) 11) (cS (us.getD k []) 12) (cI (us.getD k []) 13) (cI (us.getD k []) 14) (cI (us.getD k []) 15) (cR (us.getD k []) 16) (cR (us.getD k []) 17) (cR (us.getD k []) 18)
    have ht' : shp (us.getD k []) = some t := ht
    rw [ht'] at h4
    exact hg h4
  · have h4 := p3 k hk
    simp only [Bool.and_eq_true, decide_eq_true_eq] at h4
    unfold goodW
    omega
theorem found_s (us ws ts : LL) (h1 : TyUnits us) (h2 : TyWeapons ws) (h3 : TyTechs ts) (n1 : us.length ≤ 100) (n2 : ws.length ≤ 100) (n3 : ts.length ≤ 100) :
    ∃ b, F_r09_found us ws ts = some b := by
  have hm : maxLen = 9223372036854775807 := by decide
  have l1 : (namesOf us).length = us.length := by simp [namesOf]
  have l2 : (namesOf ws).length = ws.length := by simp [namesOf]
  have l3 : (namesOf ts).length = ts.length := by simp [namesOf]
  have l4 : (namesOf us ++ namesOf ts).length = us.length + ts.length := by rw [List.length_append, l1, l3]
  have ok4 := okR_app (okR_names us) (okR_names ts)
  have al (l inn : LL) (h : TyNames l) (h' : okR [.str] inn) (hn : inn.length ≤ maxLen) : F_r09_all l inn = some ((F_r09_all l inn).getD false) := by
    obtain ⟨o1, o2⟩ := okNames h
    obtain ⟨b, e⟩ := all_s _ _ o1 h' o2 hn
    rw [e]; rfl
  obtain ⟨t3, e3⟩ := some_loop (fun m i => G_r09_found_0 (namesOf us) (namesOf ws) (namesOf ts) (namesOf us ++ namesOf ts) us m i) us.length (by omega)
    (fun k hk => by
      obtain ⟨q1, q2, q3⟩ := okR_get (okUnits h1) hk
      have d1 : (k : Int) < us.length := by omega
      have d2 : (0 : Int) ≤ k := by omega
      have hr := unit_row (r := us) h1 q3
      have a1 := al _ _ (tyL_sl hr (j := 16) rfl) ok4 (by omega)
      have a2 := al _ _ (tyL_sl hr (j := 17) rfl) (okR_names us) (by omega)
      have a3 := al _ _ (tyL_sl hr (j := 18) rfl) (okR_names ts) (by omega)
      generalize (F_r09_all (cR (us.getD k []) 16) (namesOf us ++ namesOf ts)).getD false = c1 at *
      generalize (F_r09_all (cR (us.getD k []) 17) (namesOf us)).getD false = c2 at *
      generalize (F_r09_all (cR (us.getD k []) 18) (namesOf ts)).getD false = c3 at *
      simp only [G_r09_found_0, Int.ofNat_eq_natCast, d1, d2, decide_true, cond_true, Int.toNat_natCast, q1, q2, Option.bind_some, wr_next hk (by omega), roRows, a1, a2, a3, has_9 (namesOf ws) _ (okR_names ws) (by omega)]
      generalize hasN (namesOf ws) (cS (us.getD k []) 12) = c4
      generalize List.beq (ByteArray.toList (cS (us.getD k []) 12)) (ByteArray.toList (ByteArray.mk (Array.mk []))) = c5
      cases c5 <;> cases c4 <;> cases c1 <;> cases c2 <;> cases c3 <;> first | exact .inl fun m => rfl | exact .inr ⟨_, fun m => rfl⟩)
    ⟨false, fun m => by
      have d1 : ¬ (us.length : Int) < us.length := by omega
      simp only [G_r09_found_0, Int.ofNat_eq_natCast, d1, decide_false, cond_false]⟩
  obtain ⟨t4, e4⟩ := some_loop (fun m i => G_r09_found_1 (namesOf us) (namesOf us ++ namesOf ts) ts m i) ts.length (by omega)
    (fun k hk => by
      obtain ⟨q1, q2, q3⟩ := okR_get (okTechs h3) hk
      have d1 : (k : Int) < ts.length := by omega
      have d2 : (0 : Int) ≤ k := by omega
      have hr := tech_row h3 q3
      have a1 := al _ _ (tyL_sl hr (j := 1) rfl) ok4 (by omega)
      generalize (F_r09_all (cR (ts.getD k []) 1) (namesOf us ++ namesOf ts)).getD false = c1 at *
      simp only [G_r09_found_1, Int.ofNat_eq_natCast, d1, d2, decide_true, cond_true, Int.toNat_natCast, q1, q2, Option.bind_some, wr_next hk (by omega), roRows, a1, has_9 (namesOf us) _ (okR_names us) (by omega)]
      generalize hasN (namesOf us) (cS (ts.getD k []) 5) = c4
      cases c4 <;> cases c1 <;> first | exact .inl fun m => rfl | exact .inr ⟨_, fun m => rfl⟩)
    ⟨false, fun m => by
      have d1 : ¬ (ts.length : Int) < ts.length := by omega
      simp only [G_r09_found_1, Int.ofNat_eq_natCast, d1, decide_false, cond_false]⟩
  have e3' : G_r09_found_0 (namesOf us) (namesOf ws) (namesOf ts) (namesOf us ++ namesOf ts) us FU 0 = some t3 := e3
  have e4' : G_r09_found_1 (namesOf us) (namesOf us ++ namesOf ts) ts FU 0 = some t4 := e4
  have r1 : roomOk (0 + (namesOf us).length) 16 = true := room16 (by omega)
  have r2 : roomOk ((namesOf us).length + (namesOf ts).length) 16 = true := room16 (by omega)
  simp only [F_r09_found, units_n us ws ts h1 (by omega), weapons_n us ws ts h2 (by omega), techs_n us ws ts h3 (by omega), Option.bind_some, r1, r2, cond_true, e3', e4']
  cases t3 <;> cases t4 <;> exact ⟨_, rfl⟩
theorem needed_s (us ws ts l : LL) (h1 : TyUnits us) (h : TyNames l) : ∃ b, F_r09_needed us ws ts l = some b := by
  have hm : maxLen = 9223372036854775807 := by decide
  obtain ⟨o1, o2⟩ := okNames h
  obtain ⟨t, ht⟩ := some_loop (fun m i => G_r09_needed_0 l us ws ts m i) l.length o2
    (fun k hk => by
      obtain ⟨q1, q2, q3⟩ := okR_get o1 hk
      have d1 : (k : Int) < l.length := by omega
      have d2 : (0 : Int) ≤ k := by omega
      simp only [G_r09_needed_0, Int.ofNat_eq_natCast, d1, d2, decide_true, cond_true, Int.toNat_natCast, q1, q2, Option.bind_some, wr_next hk (by omega), unit_r us ws ts _ h1]
      cases (uV us (cS (l.getD k []) 0)).2.2.2.2.2.2.2.2.2.2.2.2.2.2.2.2.2.2.2 <;> cases (uV us (cS (l.getD k []) 0)).2.1 <;> first | exact .inl fun m => rfl | exact .inr ⟨_, fun m => rfl⟩)
    ⟨false, fun m => by
      have d1 : ¬ (l.length : Int) < l.length := by omega
      simp only [G_r09_needed_0, Int.ofNat_eq_natCast, d1, decide_false, cond_false]⟩
  have ht' : G_r09_needed_0 l us ws ts FU 0 = some t := ht
  simp only [F_r09_needed, ht', Option.bind_some]
  cases t <;> exact ⟨_, rfl⟩
theorem trains_s (us ws ts l : LL) (b : Bool) (h1 : TyUnits us) (h : TyNames l) : ∃ t, G_r09_typed_1 us ws ts b l FU 0 = some t := by
  have hm : maxLen = 9223372036854775807 := by decide
  obtain ⟨o1, o2⟩ := okNames h
  exact some_loop (fun m i => G_r09_typed_1 us ws ts b l m i) l.length o2
    (fun k hk => by
      obtain ⟨q1, q2, q3⟩ := okR_get o1 hk
      have d1 : (k : Int) < l.length := by omega
      have d2 : (0 : Int) ≤ k := by omega
      simp only [G_r09_typed_1, Int.ofNat_eq_natCast, d1, d2, decide_true, cond_true, Int.toNat_natCast, q1, q2, Option.bind_some, wr_next hk (by omega), unit_r us ws ts _ h1]
      cases ((uV us (cS (l.getD k []) 0)).2.1 == b) <;> first | exact .inl fun m => rfl | exact .inr ⟨_, fun m => rfl⟩)
    ⟨false, fun m => by
      have d1 : ¬ (l.length : Int) < l.length := by omega
      simp only [G_r09_typed_1, Int.ofNat_eq_natCast, d1, decide_false, cond_false]⟩
theorem typed_s (us ws ts : LL) (h1 : TyUnits us) (h2 : TyWeapons ws) (h3 : TyTechs ts) (n1 : us.length ≤ 100) (n3 : ts.length ≤ 100) :
    ∃ b, F_r09_typed us ws ts = some b := by
  have hm : maxLen = 9223372036854775807 := by decide
  have a (l : LL) (h : TyNames l) : F_r09_needed us ws ts l = some ((F_r09_needed us ws ts l).getD false) := by
    obtain ⟨b, e⟩ := needed_s us ws ts l h1 h
    rw [e]; rfl
  have tr (l : LL) (b : Bool) (h : TyNames l) : G_r09_typed_1 us ws ts b l FU 0 = some ((G_r09_typed_1 us ws ts b l FU 0).getD false) := by
    obtain ⟨b, e⟩ := trains_s us ws ts l b h1 h
    rw [e]; rfl
  obtain ⟨t1, e1⟩ := some_loop (fun m i => G_r09_typed_0 us ws ts m i) us.length (by omega)
    (fun k hk => by
      obtain ⟨q1, q2, q3⟩ := okR_get (okUnits h1) hk
      have d1 : (k : Int) < us.length := by omega
      have d2 : (0 : Int) ≤ k := by omega
      have hr := unit_row (r := us) h1 q3
      have a1 := a _ (tyL_sl hr (j := 16) rfl)
      have a2 := tr _ (cB (us.getD k []) 1) (tyL_sl hr (j := 17) rfl)
      have a3 := a2
      have a4 := a2
      generalize (F_r09_needed us ws ts (cR (us.getD k []) 16)).getD false = c1 at *
      cases hb : cB (us.getD k []) 1 with
      | true =>
        rw [hb] at a2
        generalize (G_r09_typed_1 us ws ts true (cR (us.getD k []) 17) FU 0).getD false = c2 at *
        simp only [G_r09_typed_0, Int.ofNat_eq_natCast, d1, d2, decide_true, cond_true, Int.toNat_natCast, q1, q2, Option.bind_some, wr_next hk (by omega), roRows, a1, a2, hb]
        cases c1 <;> cases c2 <;> cases decide (((cR (us.getD k []) 18).length : Int) > 0) <;> first | exact .inl fun m => rfl | exact .inr ⟨_, fun m => rfl⟩
      | false =>
        rw [hb] at a2
        generalize (G_r09_typed_1 us ws ts false (cR (us.getD k []) 17) FU 0).getD false = c2 at *
        simp only [G_r09_typed_0, Int.ofNat_eq_natCast, d1, d2, decide_true, cond_true, Int.toNat_natCast, q1, q2, Option.bind_some, wr_next hk (by omega), roRows, a1, a2, hb]
        cases c1 <;> cases c2 <;> cases decide (((cR (us.getD k []) 18).length : Int) > 0) <;> first | exact .inl fun m => rfl | exact .inr ⟨_, fun m => rfl⟩)
    ⟨false, fun m => by
      have d1 : ¬ (us.length : Int) < us.length := by omega
      simp only [G_r09_typed_0, Int.ofNat_eq_natCast, d1, decide_false, cond_false]⟩
  obtain ⟨t2, e2⟩ := some_loop (fun m i => G_r09_typed_2 us ws ts m i) ts.length (by omega)
    (fun k hk => by
      obtain ⟨q1, q2, q3⟩ := okR_get (okTechs h3) hk
      have d1 : (k : Int) < ts.length := by omega
      have d2 : (0 : Int) ≤ k := by omega
      have hr := tech_row h3 q3
      have a1 := a _ (tyL_sl hr (j := 1) rfl)
      generalize (F_r09_needed us ws ts (cR (ts.getD k []) 1)).getD false = c1 at *
      simp only [G_r09_typed_2, Int.ofNat_eq_natCast, d1, d2, decide_true, cond_true, Int.toNat_natCast, q1, q2, Option.bind_some, wr_next hk (by omega), roRows, a1]
      cases c1 <;> first | exact .inl fun m => rfl | exact .inr ⟨_, fun m => rfl⟩)
    ⟨false, fun m => by
      have d1 : ¬ (ts.length : Int) < ts.length := by omega
      simp only [G_r09_typed_2, Int.ofNat_eq_natCast, d1, decide_false, cond_false]⟩
  have e1' : G_r09_typed_0 us ws ts FU 0 = some t1 := e1
  have e2' : G_r09_typed_2 us ws ts FU 0 = some t2 := e2
  simp only [F_r09_typed, e1', e2', Option.bind_some]
  cases t1 <;> cases t2 <;> exact ⟨_, rfl⟩
theorem tech_s (us ws ts : LL) (n : ByteArray) (h3 : TyTechs ts) : ∃ t, F_r09_Tech us ws ts n = some t ∧ TyNames t.2.1 := by
  have hm : maxLen = 9223372036854775807 := by decide
  have key := find_loop (fun m i => G_r09_Tech_0 n ts m i) ts (fun r => seq (cS r 0) n) (fun k => let r := ts.getD k []; (true, cS r 0, cR r 1, cI r 2, cI r 3, cI r 4, cS r 5, cI r 6, cI r 7)) (false, ⟨#[]⟩, [], 0, 0, 0, ⟨#[]⟩, 0, 0) (ty_rows h3).1
    (fun m k hk => by
      obtain ⟨q1, q2, _⟩ := okR_get (okTechs h3) hk
      have hl := (ty_rows h3).1
      have d1 : (k : Int) < ts.length := by omega
      have d2 : (0 : Int) ≤ k := by omega
      simp only [G_r09_Tech_0, Int.ofNat_eq_natCast, d1, d2, decide_true, cond_true, Int.toNat_natCast, q1, q2, Option.bind_some, wr_next hk (by omega)]
      rfl)
    (fun m => by
      have d1 : ¬ (ts.length : Int) < ts.length := by omega
      simp only [G_r09_Tech_0, Int.ofNat_eq_natCast, d1, decide_false, cond_false])
  have key' : G_r09_Tech_0 n ts FU 0 = _ := key
  simp only [F_r09_Tech, key', Option.bind_some]
  unfold fdV
  cases hf : ts.findIdx? (fun r => seq (cS r 0) n) with
  | none => exact ⟨_, rfl, names_nil⟩
  | some k =>
    obtain ⟨_, _, q3⟩ := okR_get (okTechs h3) (fd_lt hf).1
    exact ⟨_, rfl, tyL_sl (tech_row h3 q3) (j := 1) rfl⟩
theorem uV_names (us : LL) (n : ByteArray) (h1 : TyUnits us) : TyNames (uV us n).2.2.2.2.2.2.2.2.2.2.2.2.2.2.2.2.1 ∧ TyNames (uV us n).2.2.2.2.2.2.2.2.2.2.2.2.2.2.2.2.2.1 ∧ TyNames (uV us n).2.2.2.2.2.2.2.2.2.2.2.2.2.2.2.2.2.2.1 := by
  unfold uV fdV
  cases hf : us.findIdx? (fun r => seq (cS r 0) n) with
  | none => exact ⟨names_nil, names_nil, names_nil⟩
  | some k =>
    obtain ⟨_, _, q3⟩ := okR_get (okUnits h1) (fd_lt hf).1
    have hr := unit_row (r := us) h1 q3
    exact ⟨tyL_sl hr (j := 16) rfl, tyL_sl hr (j := 17) rfl, tyL_sl hr (j := 18) rfl⟩
theorem needs_s (us ws ts : LL) (n : ByteArray) (h1 : TyUnits us) (h3 : TyTechs ts) : ∃ t, F_r09_Needs us ws ts n = some t ∧ TyNames t := by
  obtain ⟨t, ht, hn⟩ := tech_s us ws ts n h3
  have hu := (uV_names us n h1).1
  simp only [F_r09_Needs, unit_r us ws ts n h1, ht, Option.bind_some]
  cases (uV us n).2.2.2.2.2.2.2.2.2.2.2.2.2.2.2.2.2.2.2 with
  | true => exact ⟨_, rfl, hu⟩
  | false => exact ⟨_, rfl, hn⟩
theorem pick_s (us ws ts R1 R2 : LL) (h1 : TyUnits us) (h3 : TyTechs ts) (o1 : okR [.str] R1) (o2 : okR [.str] R2) (n1 : R1.length ≤ maxLen) (n2 : R2.length ≤ maxLen) :
    ∃ t, G_r09_sequence_1 R1 R2 us ws ts FU ⟨#[]⟩ 0 = some t ∧ (seq t ⟨#[]⟩ = true ∨ ∃ k, k < R1.length ∧ t = cS (R1.getD k []) 0 ∧ hasN R2 t = false) := by
  have hm : maxLen = 9223372036854775807 := by decide
  let P : ByteArray → Prop := fun t => seq t ⟨#[]⟩ = true ∨ ∃ k, k < R1.length ∧ t = cS (R1.getD k []) 0 ∧ hasN R2 t = false
  have step : ∀ k s, k < R1.length → P s → ∃ s', P s' ∧ ∀ m, G_r09_sequence_1 R1 R2 us ws ts (m + 1) s (k : Int) = G_r09_sequence_1 R1 R2 us ws ts m s' ((k + 1 : Nat) : Int) := fun k s hk hs => by
    obtain ⟨q1, q2, q3⟩ := okR_get o1 hk
    have d1 : (k : Int) < R1.length := by omega
    have d2 : (0 : Int) ≤ k := by omega
    obtain ⟨nd, e1, t1⟩ := needs_s us ws ts (cS (R1.getD k []) 0) h1 h3
    obtain ⟨p1, p2⟩ := okNames t1
    obtain ⟨al, e2⟩ := all_s nd R2 p1 o2 p2 n2
    simp only [G_r09_sequence_1, Int.ofNat_eq_natCast, d1, d2, decide_true, Bool.and_true, cond_true, Int.toNat_natCast, q1, q2, Option.bind_some, wr_next hk (by omega), has_9 R2 _ o2 n2, e1, e2]
    cases hb : hasN R2 (cS (R1.getD k []) 0) with
    | true => exact ⟨s, hs, fun m => rfl⟩
    | false =>
      have hnew : P (cS (R1.getD k []) 0) := .inr ⟨k, hk, rfl, hb⟩
      cases al with
      | false => exact ⟨s, hs, fun m => rfl⟩
      | true =>
        simp only [Bool.not_false, cond_true]
        generalize List.beq (ByteArray.toList s) (ByteArray.toList (ByteArray.mk (Array.mk []))) = c1
        generalize Op.bytesLess (ByteArray.toList (cS (R1.getD k []) 0)) (ByteArray.toList s) = c2
        cases c1 with
        | true => exact ⟨_, hnew, fun m => rfl⟩
        | false =>
          cases c2 with
          | true => exact ⟨_, hnew, fun m => rfl⟩
          | false => exact ⟨s, hs, fun m => rfl⟩
  have loop : ∀ (r m k : Nat) (s : ByteArray), k + r = R1.length → r < m → P s → ∃ t, G_r09_sequence_1 R1 R2 us ws ts m s (k : Int) = some t ∧ P t := by
    intro r
    induction r with
    | zero =>
      intro m k s e1 e2 hs
      obtain ⟨m, rfl⟩ : ∃ q, m = q + 1 := ⟨m - 1, by omega⟩
      have d1 : ¬ (k : Int) < R1.length := by omega
      exact ⟨s, by simp only [G_r09_sequence_1, Int.ofNat_eq_natCast, d1, decide_false, cond_false], hs⟩
    | succ r ih =>
      intro m k s e1 e2 hs
      obtain ⟨m, rfl⟩ : ∃ q, m = q + 1 := ⟨m - 1, by omega⟩
      obtain ⟨s', hs', hst⟩ := step k s (by omega) hs
      rw [hst m]
      exact ih m (k + 1) s' (by omega) (by omega) hs'
  exact loop R1.length FU 0 ⟨#[]⟩ (by omega) (by unfold FU; omega) (.inl (seq_rfl _))
def leftN (R1 R2 : LL) : Nat := R1.countP fun r => !hasN R2 (cS r 0)
theorem left_lt {R1 R2 : LL} {t : ByteArray} {k : Nat} (hk : k < R1.length) (ht : t = cS (R1.getD k []) 0) (hn : hasN R2 t = false) : leftN R1 (R2 ++ [nm t]) < leftN R1 R2 := by
  have hsnoc : ∀ s, hasN (R2 ++ [nm t]) s = (hasN R2 s || seq t s) := hasN_snoc R2 t
  have hle : ∀ l : LL, leftN l (R2 ++ [nm t]) ≤ leftN l R2 := fun l => by
    unfold leftN
    refine List.countP_mono_left fun r _ h => ?_
    rw [hsnoc] at h
    cases hb : hasN R2 (cS r 0) with
    | true => rw [hb] at h; exact h
    | false => rfl
  have e : R1 = R1.take k ++ R1.getD k [] :: R1.drop (k + 1) := by
    rw [show R1.getD k [] = R1[k] by simp [List.getD, hk], ← List.drop_eq_getElem_cons hk, List.take_append_drop]
  have h1 := hle (R1.take k)
  have h2 := hle (R1.drop (k + 1))
  have cut : ∀ R, leftN R1 R = leftN (R1.take k) R + ((if (!hasN R (cS (R1.getD k []) 0)) = true then 1 else 0) + leftN (R1.drop (k + 1)) R) := fun R => by
    unfold leftN
    conv => lhs; rw [e]
    rw [List.countP_append, List.countP_cons]
    omega
  rw [cut, cut, hsnoc, ← ht, hn, seq_rfl]
  simp
  omega
theorem seq_s (us ws ts R1 : LL) (h1 : TyUnits us) (h3 : TyTechs ts) (o1 : okR [.str] R1) (n1 : R1.length ≤ 1000) : ∀ (c m : Nat) (R2 : LL), leftN R1 R2 ≤ c → c < m → R2.length + c ≤ 1000 → okR [.str] R2 → ∃ t, G_r09_sequence_0 R1 us ws ts m R2 = some t
  | c, 0, R2, a1, a2, a3, a4 => by omega
  | c, m + 1, R2, a1, a2, a3, a4 => by
    have hm : maxLen = 9223372036854775807 := by decide
    obtain ⟨t, e, ht⟩ := pick_s us ws ts R1 R2 h1 h3 o1 a4 (by omega) (by omega)
    have e' : G_r09_sequence_1 R1 R2 us ws ts FU (ByteArray.mk (Array.mk [])) 0 = some t := e
    simp only [G_r09_sequence_0, e', Option.bind_some]
    show ∃ q, (bif seq t ⟨#[]⟩ then some R2 else _) = some q
    cases hs : seq t ⟨#[]⟩ with
    | true => exact ⟨_, rfl⟩
    | false =>
      rcases ht with ht | ⟨k, hk, ht, hn⟩
      · rw [hs] at ht; cases ht
      have hl := left_lt (R2 := R2) hk ht hn
      have r : roomOk (R2.length + 1) 16 = true := room16 (by omega)
      simp only [cond_false, r, cond_true]
      exact seq_s us ws ts R1 h1 h3 o1 n1 (c - 1) m (R2 ++ [nm t]) (by omega) (by omega) (by rw [List.length_append]; show R2.length + 1 + (c - 1) ≤ 1000; omega) (okR_snoc a4 t)
theorem sequence_s (us ws ts : LL) (h1 : TyUnits us) (h2 : TyWeapons ws) (h3 : TyTechs ts) (n1 : us.length ≤ 100) (n3 : ts.length ≤ 100) : ∃ t, F_r09_sequence us ws ts = some t := by
  have l1 : (namesOf us).length = us.length := by simp [namesOf]
  have l3 : (namesOf ts).length = ts.length := by simp [namesOf]
  have l4 : (namesOf us ++ namesOf ts).length = us.length + ts.length := by rw [List.length_append, l1, l3]
  have r : roomOk ((namesOf us).length + (namesOf ts).length) 16 = true := room16 (by omega)
  have hl : leftN (namesOf us ++ namesOf ts) [] ≤ 200 := by
    have := List.countP_le_length (p := fun r => !hasN [] (cS r 0)) (l := namesOf us ++ namesOf ts)
    unfold leftN
    omega
  obtain ⟨t, ht⟩ := seq_s us ws ts (namesOf us ++ namesOf ts) h1 h3 (okR_app (okR_names us) (okR_names ts)) (by omega) 200 FU [] hl (by unfold FU; omega) (by simp) (fun r hr => by cases hr)
  exact ⟨t, by simp only [F_r09_sequence, units_n us ws ts h1 (by omega), techs_n us ws ts h3 (by omega), Option.bind_some, r, cond_true, ht]⟩
theorem validate_s (us ws ts : LL) (h1 : TyUnits us) (h2 : TyWeapons ws) (h3 : TyTechs ts) (n1 : us.length ≤ 100) (n2 : ws.length ≤ 100) (n3 : ts.length ≤ 100) :
    ∃ v, F_r09_Validate us ws ts = some v ∧ (v = 0 → (∀ r ∈ ws, 1 ≤ (cS r 0).size) ∧ (∀ k, k < us.length → goodU (us.getD k [])) ∧ ∀ k, k < ws.length → goodW (ws.getD k [])) := by
  have hm : maxLen = 9223372036854775807 := by decide
  have l3 : (namesOf ts).length = ts.length := by simp [namesOf]
  obtain ⟨b1, e1⟩ := limits_s us ws ts h1 h3
  obtain ⟨b2, e2, p2⟩ := named_s us ws ts h1 h2 h3 n1 n2 n3
  obtain ⟨b3, e3⟩ := ordered_s us ws ts h1 h2 h3 n1 n2 n3
  obtain ⟨b4, e4⟩ := dup_s us (namesOf ts) h1 (okR_names ts) (by omega)
  obtain ⟨b5, e5, p5⟩ := numbers_s us ws ts h1 h2 h3 n1 n2 n3
  obtain ⟨b6, e6⟩ := found_s us ws ts h1 h2 h3 n1 n2 n3
  obtain ⟨b7, e7⟩ := typed_s us ws ts h1 h2 h3 n1 n3
  obtain ⟨b8, e8⟩ := sequence_s us ws ts h1 h2 h3 n1 n3
  simp only [F_r09_Validate, e1, e2, e3, e4, e5, e6, e7, e8, techs_n us ws ts h3 (by omega), Option.bind_some]
  cases b1 with
  | false => exact ⟨2, rfl, fun h => by omega⟩
  | true =>
  cases b2 with
  | false => exact ⟨6, rfl, fun h => by omega⟩
  | true =>
  cases b3 with
  | false => exact ⟨13, rfl, fun h => by omega⟩
  | true =>
  cases b4 with
  | true => exact ⟨7, rfl, fun h => by omega⟩
  | false =>
  cases b5 with
  | false => exact ⟨1, rfl, fun h => by omega⟩
  | true =>
  cases b6 with
  | false => exact ⟨8, rfl, fun h => by omega⟩
  | true =>
  cases b7 with
  | false => exact ⟨18, rfl, fun h => by omega⟩
  | true =>
    have q2 := p2 rfl
    have q5 := p5 rfl
    simp only [Bool.not_true, cond_false]
    generalize decide (Int.ofNat b8.length < wr (Int.ofNat us.length + Int.ofNat ts.length)) = c
    cases c with
    | true => exact ⟨14, rfl, fun h => by omega⟩
    | false => exact ⟨0, rfl, fun _ => ⟨q2, q5⟩⟩
abbrev GT := LL × LL × LL × ByteArray × Bool × Bool × Int × Int × Int × Int × Int × Int × Int × Int × Int × ByteArray × Int × Int × Int × Bool
def gOf (x : UT) : GT := match x with | (n, b, d, c, w, h, r, sp, si, hp, ar, lo, we, ore, wo, ti, ne, tr, re, ok) => (ne, tr, re, n, b, d, c, w, h, r, sp, si, hp, ar, lo, we, ore, wo, ti, ok)
theorem rules_unit (us ws ts : LL) (n : ByteArray) (h : TyUnits us) : F_rules_Unit us ws ts n = some (gOf (uV us n)) := by
  obtain ⟨p1, p2, p3⟩ := uV_names us n h
  simp only [F_rules_Unit, unit_g us n h, Option.bind_some, F_rules_cloneUnit, clone_n p1, clone_n p2, clone_n p3]
  rfl
abbrev entT : List LT := y6
abbrev plT : List LT := y7
abbrev TyEnts (l : LL) : Prop := Ty Tryz.prog (.sl 60 12) (.ro 12 l)
abbrev TyPlayers (l : LL) : Prop := Ty Tryz.prog (.sl 70 6) (.ro 6 l)
theorem okEnts {l : LL} (h : TyEnts l) : okR entT l := okR_of (by kernel_rfl) h
theorem okPlayers {l : LL} (h : TyPlayers l) : okR plT l := okR_of (by kernel_rfl) h
theorem ent_row {us : LL} {q : List AVal} (h : TyEnts us) (hq : q ∈ us) : TyL Tryz.prog entT q := by
  have := (ty_rows h).2.1 q hq
  rwa [show leafOf Tryz.prog 8 60 = entT by kernel_rfl] at this
theorem pl_row {us : LL} {q : List AVal} (h : TyPlayers us) (hq : q ∈ us) : TyL Tryz.prog plT q := by
  have := (ty_rows h).2.1 q hq
  rwa [show leafOf Tryz.prog 8 70 = plT by kernel_rfl] at this
abbrev ET := Int × Int × ByteArray × Int × Int × Int × Int × Int × Int × Int × LL × LL × Bool
def enT (r : List AVal) : ET := (cI r 0, cI r 1, cS r 2, cI r 3, cI r 4, cI r 5, cI r 6, cI r 7, cI r 8, cI r 9, cR r 10, cR r 11, true)
def zE : ET := (0, 0, ⟨#[]⟩, 0, 0, 0, 0, 0, 0, 0, [], [], false)
def enV (es : LL) (id : Int) : ET := fdV es (fun r => cI r 0 == id) (fun k => enT (es.getD k [])) zE
theorem ent_r (es : LL) (id : Int) (h : TyEnts es) : F_r21_Find es id = some (enV es id) := by
  have hm : maxLen = 9223372036854775807 := by decide
  have key := find_loop (fun m i => G_r21_Find_0 es id m i) es (fun r => cI r 0 == id) (fun k => let r := es.getD k []; (true, cI r 0, cI r 1, cS r 2, cI r 3, cI r 4, cI r 5, cI r 6, cI r 7, cI r 8, cI r 9, cR r 10, cR r 11)) (false, 0, 0, ⟨#[]⟩, 0, 0, 0, 0, 0, 0, 0, [], []) (ty_rows h).1
    (fun m k hk => by
      obtain ⟨q1, q2, _⟩ := okR_get (okEnts h) hk
      have hl := (ty_rows h).1
      have d1 : (k : Int) < es.length := by omega
      have d2 : (0 : Int) ≤ k := by omega
      simp only [G_r21_Find_0, Int.ofNat_eq_natCast, d1, d2, decide_true, cond_true, Int.toNat_natCast, q1, q2, Option.bind_some, wr_next hk (by omega)])
    (fun m => by
      have d1 : ¬ (es.length : Int) < es.length := by omega
      simp only [G_r21_Find_0, Int.ofNat_eq_natCast, d1, decide_false, cond_false])
  have key' : G_r21_Find_0 es id FU 0 = _ := key
  simp only [F_r21_Find, key', Option.bind_some]
  unfold enV fdV
  cases es.findIdx? (fun r => cI r 0 == id) <;> rfl
theorem clone_o {l : LL} (h : Ty Tryz.prog (.sl 104 5) (.ro 5 l)) : F_slices_Clone_Order l = some l := by
  have hb := (ty_rows h).2.2
  rw [show Tryz.prog.bytesOf 104 = 48 by kernel_rfl] at hb
  simp only [reachBytes] at hb
  have r : roomOk (0 + l.length) 48 = true := by simp [roomOk]; omega
  simp only [F_slices_Clone_Order, F_slices_Clone_Order_ne, r, cond_true]
  cases l <;> rfl
theorem clone_j {l : LL} (h : Ty Tryz.prog (.sl 163 3) (.ro 3 l)) : F_slices_Clone_Job l = some l := by
  have hb := (ty_rows h).2.2
  rw [show Tryz.prog.bytesOf 163 = 32 by kernel_rfl] at hb
  simp only [reachBytes] at hb
  have r : roomOk (0 + l.length) 32 = true := by simp [roomOk]; omega
  simp only [F_slices_Clone_Job, F_slices_Clone_Job_ne, r, cond_true]
  cases l <;> rfl
theorem awake28 : F_l28_awake = some true := by kernel_rfl
abbrev celT : List LT := y3
abbrev TyCells (l : LL) : Prop := Ty Tryz.prog (.sl 54 3) (.ro 3 l)
section
variable (T0 T1 T2 : Int) (T3 : Bool) (rng : Int) (us ws ts : LL) (T5 T6 : Int) (Tc ps es Ts Tm Tq : LL)
end
def okPl (l : LL) : Prop := (∀ r ∈ l, chk plT r = true ∧ TyNames (cR r 4)) ∧ l.length ≤ maxLen
theorem same_pl (l : LL) (h : okPl l) : F_r25_SamePlayers l l = some true := by
  have hm : maxLen = 9223372036854775807 := by decide
  have hl := h.2
  have key := run_loop (fun m (_ : Unit) i => G_r25_SamePlayers_0 l l m i) (fun _ _ => .inl ()) (fun _ => false) l.length (fun _ _ => True)
    (fun m k _ hk _ => by
      obtain ⟨q1, q2, q3⟩ := okR_get (ts := plT) (fun r hr => (h.1 r hr).1) hk
      have d1 : (k : Int) < l.length := by omega
      have d2 : (0 : Int) ≤ k := by omega
      have sn := same_n _ (h.1 _ q3).2
      simp only [G_r25_SamePlayers_0, Int.ofNat_eq_natCast, d1, d2, decide_true, cond_true, Int.toNat_natCast, q1, q2, Option.bind_some, wr_next hk (by omega), bne_self_eq_false, beq_self_eq_true, roRows, sn, Bool.not_true, cond_false])
    (fun _ _ _ _ _ _ => trivial)
    (fun m _ _ => by
      have d1 : ¬ (l.length : Int) < l.length := by omega
      simp only [G_r25_SamePlayers_0, Int.ofNat_eq_natCast, d1, decide_false, cond_false]) l.length FU 0 () (by omega) (by unfold FU; omega) trivial
  have hv : ∀ r k, iter (fun (_ : Nat) (_ : Unit) => (.inl () : Unit ⊕ Bool)) (fun _ => false) r k () = false := by
    intro r
    induction r with
    | zero => intro k; rfl
    | succ r ih => intro k; exact ih (k + 1)
  have key' : G_r25_SamePlayers_0 l l FU 0 = some false := key.trans (congrArg some (hv _ _))
  simp only [F_r25_SamePlayers, bne_self_eq_false, cond_false, key', Option.bind_some]
theorem row_pl {r : List AVal} (h : TyL Tryz.prog plT r) : r = [i64 (cI r 0), i64 (cI r 1), i64 (cI r 2), i64 (cI r 3), .ro 1 (cR r 4), bo (cB r 5)] ∧ TyNames (cR r 4) := by
  obtain ⟨v0, l0, rfl, y0, t0⟩ := tyL_cons h
  obtain ⟨x0, rfl, w0⟩ := ty_int y0
  obtain ⟨v1, l1, rfl, y1, t1⟩ := tyL_cons t0
  obtain ⟨x1, rfl, w1⟩ := ty_int y1
  obtain ⟨v2, l2, rfl, y2, t2⟩ := tyL_cons t1
  obtain ⟨x2, rfl, w2⟩ := ty_int y2
  obtain ⟨v3, l3, rfl, y3, t3⟩ := tyL_cons t2
  obtain ⟨x3, rfl, w3⟩ := ty_int y3
  obtain ⟨v4, l4, rfl, y4, t4⟩ := tyL_cons t3
  obtain ⟨x4, rfl, w4⟩ := ty_sl y4
  obtain ⟨v5, l5, rfl, y5, t5⟩ := tyL_cons t4
  obtain ⟨x5, rfl⟩ := ty_bool y5
  obtain rfl := tyL_nil t5
  exact ⟨rfl, w4⟩
def plRow (r : List AVal) (o w : Int) : List AVal := [i64 (cI r 0), i64 (cI r 1), i64 o, i64 w, .ro 1 (cR r 4), bo (cB r 5)]
theorem sp2 {r : List AVal} (h : TyL Tryz.prog plT r) (o : Int) : splice r 2 [i64 o] = plRow r o (cI r 3) := by
  rw [(row_pl h).1]; rfl
theorem sp3 (r : List AVal) (o w w' : Int) : splice (plRow r o w) 3 [i64 w'] = plRow r o w' := rfl
theorem okPl_of {ps : LL} (hp : TyPlayers ps) : okPl ps := ⟨fun r hr => ⟨okPlayers hp r hr, (row_pl (pl_row (us := ps) hp hr)).2⟩, (ty_rows hp).1⟩
theorem clone_p {l : LL} (h : TyPlayers l) : F_slices_Clone_Player l = some l := by
  have hb := (ty_rows h).2.2
  rw [show Tryz.prog.bytesOf 70 = 64 by kernel_rfl] at hb
  simp only [reachBytes] at hb
  have r : roomOk (0 + l.length) 64 = true := by simp [roomOk]; omega
  simp only [F_slices_Clone_Player, F_slices_Clone_Player_ne, r, cond_true]
  cases l <;> rfl
theorem clone_e {l : LL} (h : TyEnts l) : F_slices_Clone_Entity l = some l := by
  have hb := (ty_rows h).2.2
  rw [show Tryz.prog.bytesOf 60 = 136 by kernel_rfl] at hb
  simp only [reachBytes] at hb
  have r : roomOk (0 + l.length) 136 = true := by simp [roomOk]; omega
  simp only [F_slices_Clone_Entity, F_slices_Clone_Entity_ne, r, cond_true]
  cases l <;> rfl
def piV (ps : LL) (id : Int) : Int := fdV ps (fun r => cI r 0 == id) (fun k => (k : Int)) (-1)
section
variable (T0 T1 T2 : Int) (T3 : Bool) (rng : Int) (us ws ts : LL) (T5 T6 : Int) (Tc ps es Ts Tm Tq : LL)
theorem find_g (id : Int) (h : TyPlayers ps) : F_economy_find T0 T1 T2 T3 rng us ws ts T5 T6 Tc ps es Ts Tm Tq id = some (piV ps id) := by
  have hm : maxLen = 9223372036854775807 := by decide
  have hl := (ty_rows h).1
  have key := find_loop (fun q x => G_slices_IndexFunc_Player_0 ps id ps.length q x) ps (fun r => cI r 0 == id) (fun k => (true, (k : Int))) (false, 0) hl
    (fun m k hk => by
      obtain ⟨q1, q2, _⟩ := okR_get (okPlayers h) hk
      have d1 : (k : Int) < ps.length := by omega
      have d2 : (0 : Int) ≤ k := by omega
      simp only [G_slices_IndexFunc_Player_0, F_economy_find_1, d1, d2, decide_true, cond_true, Int.toNat_natCast, q1, q2, Option.bind_some, wr_next hk (by omega)])
    (fun m => by
      have d1 : ¬ (ps.length : Int) < ps.length := by omega
      simp only [G_slices_IndexFunc_Player_0, d1, decide_false, cond_false])
  have key' : G_slices_IndexFunc_Player_0 ps id ps.length FU 0 = _ := key
  simp only [F_economy_find, F_slices_IndexFunc_Player, Int.ofNat_eq_natCast, key', Option.bind_some]
  unfold piV fdV
  cases ps.findIdx? (fun r => cI r 0 == id) <;> rfl
theorem find_r (id : Int) (h : TyPlayers ps) : F_r28_index T0 T1 T2 T3 rng us ws ts T5 T6 Tc ps es Ts Tm Tq id = some (piV ps id) := by
  have hm : maxLen = 9223372036854775807 := by decide
  have hl := (ty_rows h).1
  have key := find_loop (fun q x => G_r28_index_0 id ps q x) ps (fun r => cI r 0 == id) (fun k => (true, (k : Int))) (false, 0) hl
    (fun m k hk => by
      obtain ⟨q1, q2, _⟩ := okR_get (okPlayers h) hk
      have d1 : (k : Int) < ps.length := by omega
      have d2 : (0 : Int) ≤ k := by omega
      simp only [G_r28_index_0, Int.ofNat_eq_natCast, d1, d2, decide_true, cond_true, Int.toNat_natCast, q1, q2, Option.bind_some, wr_next hk (by omega)])
    (fun m => by
      have d1 : ¬ (ps.length : Int) < ps.length := by omega
      simp only [G_r28_index_0, Int.ofNat_eq_natCast, d1, decide_false, cond_false])
  have key' : G_r28_index_0 id ps FU 0 = _ := key
  simp only [F_r28_index, key', Option.bind_some]
  unfold piV fdV
  cases ps.findIdx? (fun r => cI r 0 == id) <;> rfl
theorem set_r (hp : TyPlayers ps) (k : Nat) (hk : k < ps.length) (a b o w : Int) (t : LL) (q : Bool) :
    F_r28_set T0 T1 T2 T3 rng us ws ts T5 T6 Tc ps es Ts Tm Tq k a b o w t q = some (T0, T1, T2, T3, rng, us, ws, ts, T5, T6, Tc, ps.set k [i64 a, i64 b, i64 o, i64 w, .ro 1 t, bo q], es, Ts, Tm, Tq) := by
  have hb := (ty_rows hp).2.2
  rw [show Tryz.prog.bytesOf 70 = 64 by kernel_rfl] at hb
  simp only [reachBytes] at hb
  have r : roomOk (0 + ps.length) 64 = true := by simp [roomOk]; omega
  have d1 : (k : Int) < ps.length := by omega
  have d2 : (0 : Int) ≤ k := by omega
  simp only [F_r28_set, r, Int.ofNat_eq_natCast, d1, d2, decide_true, Bool.and_true, cond_true, Int.toNat_natCast]
theorem getD_set {l : LL} {k : Nat} (hk : k < l.length) (x : List AVal) : (l.set k x).getD k [] = x := by
  simp [List.getD, hk]
theorem set_set {l : LL} {k : Nat} (x y : List AVal) : (l.set k x).set k y = l.set k y := List.set_set ..
abbrev GameT := Int × Int × Int × Bool × Int × LL × LL × LL × Int × Int × LL × LL × LL × LL × LL × LL
end
noncomputable def S_r21_numbers_0 (b0_10 : LL) (i : Int) : Option Bool :=
    bif (decide ((0 : Int) ≤ i)) then
      Option.bind (b0_10[i.toNat]?) fun r =>
      bif (chk y4 r) then
        Option.bind (F_r20_Valid (cI r 0) (cI r 1) (cI r 2) (cI r 3) (cS r 4)) fun t =>
        bif (!t) then
          some true
        else
        some false
      else
      none
    else
    none
theorem stp_r21_numbers_0 (b0_10 : LL) (m k : Nat) (hk : k < b0_10.length) (hn : b0_10.length ≤ maxLen) : G_r21_numbers_0 b0_10 (m + 1) (k : Int) = (S_r21_numbers_0 b0_10 (k : Int)).bind fun t => bif t then some true else G_r21_numbers_0 b0_10 m ((k + 1 : Nat) : Int) := by
  have d1 : (k : Int) < Int.ofNat b0_10.length := by rw [Int.ofNat_eq_natCast]; omega
  have hm : maxLen = 9223372036854775807 := by decide
  have e1 : wr ((k : Int) + 1) = ((k + 1 : Nat) : Int) := wr_next hk (by omega)
  have d2 : (0 : Int) ≤ k := by omega
  simp only [G_r21_numbers_0, S_r21_numbers_0, d1, d2, decide_true, cond_true, e1, Int.toNat_natCast, bind_bif, bind_bind, bind_some', cond_false, bind_none']
theorem end_r21_numbers_0 (b0_10 : LL) (m : Nat) : G_r21_numbers_0 b0_10 (m + 1) (b0_10.length : Int) = some false := by
  have d1 : ¬ ((b0_10.length : Nat) : Int) < Int.ofNat b0_10.length := by rw [Int.ofNat_eq_natCast]; omega
  simp only [G_r21_numbers_0, d1, decide_false, cond_false]
theorem run_r21_numbers_0 (b0_10 : LL) (hn : b0_10.length ≤ maxLen) : G_r21_numbers_0 b0_10 FU 0 = anyO (fun k => S_r21_numbers_0 b0_10 (k : Int)) b0_10.length := any_run _ _ _ hn (fun m k hk => stp_r21_numbers_0 b0_10 m k hk hn) (fun m => end_r21_numbers_0 b0_10 m)
noncomputable def S_r21_numbers_1 (b0_11 : LL) (i : Int) : Option Bool :=
    bif (decide ((0 : Int) ≤ i)) then
      Option.bind (b0_11[i.toNat]?) fun r =>
      bif (chk y5 r) then
        bif ((cI r 0) != (1 : Int)) then
          bif ((cI r 0) != (2 : Int)) then
            some true
          else
          Option.bind (F_r21_stat (cI r 1)) fun t =>
          bif (!t) then
            some true
          else
          some false
        else
        Option.bind (F_r21_stat (cI r 1)) fun t1 =>
        bif (!t1) then
          some true
        else
        some false
      else
      none
    else
    none
theorem stp_r21_numbers_1 (b0_11 : LL) (m k : Nat) (hk : k < b0_11.length) (hn : b0_11.length ≤ maxLen) : G_r21_numbers_1 b0_11 (m + 1) (k : Int) = (S_r21_numbers_1 b0_11 (k : Int)).bind fun t => bif t then some true else G_r21_numbers_1 b0_11 m ((k + 1 : Nat) : Int) := by
  have d1 : (k : Int) < Int.ofNat b0_11.length := by rw [Int.ofNat_eq_natCast]; omega
  have hm : maxLen = 9223372036854775807 := by decide
  have e1 : wr ((k : Int) + 1) = ((k + 1 : Nat) : Int) := wr_next hk (by omega)
  have d2 : (0 : Int) ≤ k := by omega
  simp only [G_r21_numbers_1, S_r21_numbers_1, d1, d2, decide_true, cond_true, e1, Int.toNat_natCast, bind_bif, bind_bind, bind_some', cond_false, bind_none']
theorem end_r21_numbers_1 (b0_11 : LL) (m : Nat) : G_r21_numbers_1 b0_11 (m + 1) (b0_11.length : Int) = some false := by
  have d1 : ¬ ((b0_11.length : Nat) : Int) < Int.ofNat b0_11.length := by rw [Int.ofNat_eq_natCast]; omega
  simp only [G_r21_numbers_1, d1, decide_false, cond_false]
theorem run_r21_numbers_1 (b0_11 : LL) (hn : b0_11.length ≤ maxLen) : G_r21_numbers_1 b0_11 FU 0 = anyO (fun k => S_r21_numbers_1 b0_11 (k : Int)) b0_11.length := any_run _ _ _ hn (fun m k hk => stp_r21_numbers_1 b0_11 m k hk hn) (fun m => end_r21_numbers_1 b0_11 m)
noncomputable def S_r21_player_0 (id : Int) (b0_11 : LL) (i : Int) : Option Bool :=
    bif (decide ((0 : Int) ≤ i)) then
      Option.bind (b0_11[i.toNat]?) fun r =>
      bif (chk y7 r) then
        bif ((cI r 0) == id) then
          some true
        else
        some false
      else
      none
    else
    none
theorem stp_r21_player_0 (id : Int) (b0_11 : LL) (m k : Nat) (hk : k < b0_11.length) (hn : b0_11.length ≤ maxLen) : G_r21_player_0 id b0_11 (m + 1) (k : Int) = (S_r21_player_0 id b0_11 (k : Int)).bind fun t => bif t then some true else G_r21_player_0 id b0_11 m ((k + 1 : Nat) : Int) := by
  have d1 : (k : Int) < Int.ofNat b0_11.length := by rw [Int.ofNat_eq_natCast]; omega
  have hm : maxLen = 9223372036854775807 := by decide
  have e1 : wr ((k : Int) + 1) = ((k + 1 : Nat) : Int) := wr_next hk (by omega)
  have d2 : (0 : Int) ≤ k := by omega
  simp only [G_r21_player_0, S_r21_player_0, d1, d2, decide_true, cond_true, e1, Int.toNat_natCast, bind_bif, bind_bind, bind_some', cond_false, bind_none']
theorem end_r21_player_0 (id : Int) (b0_11 : LL) (m : Nat) : G_r21_player_0 id b0_11 (m + 1) (b0_11.length : Int) = some false := by
  have d1 : ¬ ((b0_11.length : Nat) : Int) < Int.ofNat b0_11.length := by rw [Int.ofNat_eq_natCast]; omega
  simp only [G_r21_player_0, d1, decide_false, cond_false]
theorem run_r21_player_0 (id : Int) (b0_11 : LL) (hn : b0_11.length ≤ maxLen) : G_r21_player_0 id b0_11 FU 0 = anyO (fun k => S_r21_player_0 id b0_11 (k : Int)) b0_11.length := any_run _ _ _ hn (fun m k hk => stp_r21_player_0 id b0_11 m k hk hn) (fun m => end_r21_player_0 id b0_11 m)
noncomputable def S_r21_named_0 (b0_5 b0_6 b0_7 b1_11 : LL) (i : Int) : Option Bool :=
    bif (decide ((0 : Int) ≤ i)) then
      Option.bind (b1_11[i.toNat]?) fun r =>
      bif (chk y5 r) then
        Option.bind (F_r09_Unit b0_5 b0_6 b0_7 (cS r 2)) fun t =>
        Option.bind (F_r09_Tech b0_5 b0_6 b0_7 (cS r 2)) fun t1 =>
        bif ((cI r 0) == (1 : Int)) then
          bif (!t.2.2.2.2.2.2.2.2.2.2.2.2.2.2.2.2.2.2.2) then
            some true
          else
          bif t.2.1 then
            some true
          else
          bif ((cI r 0) == (2 : Int)) then
            bif (!t1.2.2.2.2.2.2.2.2) then
              some true
            else
            some false
          else
          some false
        else
        bif ((cI r 0) == (2 : Int)) then
          bif (!t1.2.2.2.2.2.2.2.2) then
            some true
          else
          some false
        else
        some false
      else
      none
    else
    none
theorem stp_r21_named_0 (b0_5 b0_6 b0_7 b1_11 : LL) (m k : Nat) (hk : k < b1_11.length) (hn : b1_11.length ≤ maxLen) : G_r21_named_0 b0_5 b0_6 b0_7 b1_11 (m + 1) (k : Int) = (S_r21_named_0 b0_5 b0_6 b0_7 b1_11 (k : Int)).bind fun t => bif t then some true else G_r21_named_0 b0_5 b0_6 b0_7 b1_11 m ((k + 1 : Nat) : Int) := by
  have d1 : (k : Int) < Int.ofNat b1_11.length := by rw [Int.ofNat_eq_natCast]; omega
  have hm : maxLen = 9223372036854775807 := by decide
  have e1 : wr ((k : Int) + 1) = ((k + 1 : Nat) : Int) := wr_next hk (by omega)
  have d2 : (0 : Int) ≤ k := by omega
  simp only [G_r21_named_0, S_r21_named_0, d1, d2, decide_true, cond_true, e1, Int.toNat_natCast, bind_bif, bind_bind, bind_some', cond_false, bind_none']
theorem end_r21_named_0 (b0_5 b0_6 b0_7 b1_11 : LL) (m : Nat) : G_r21_named_0 b0_5 b0_6 b0_7 b1_11 (m + 1) (b1_11.length : Int) = some false := by
  have d1 : ¬ ((b1_11.length : Nat) : Int) < Int.ofNat b1_11.length := by rw [Int.ofNat_eq_natCast]; omega
  simp only [G_r21_named_0, d1, decide_false, cond_false]
theorem run_r21_named_0 (b0_5 b0_6 b0_7 b1_11 : LL) (hn : b1_11.length ≤ maxLen) : G_r21_named_0 b0_5 b0_6 b0_7 b1_11 FU 0 = anyO (fun k => S_r21_named_0 b0_5 b0_6 b0_7 b1_11 (k : Int)) b1_11.length := any_run _ _ _ hn (fun m k hk => stp_r21_named_0 b0_5 b0_6 b0_7 b1_11 m k hk hn) (fun m => end_r21_named_0 b0_5 b0_6 b0_7 b1_11 m)
noncomputable def S_r21_placed_0 (building : Bool) (b0_5 b0_6 b0_7 b0_12 : LL) (b1_0 b1_3 b1_4 b2_0 b2_1 b2_2 b2_3 b3_3 i : Int) : Option Bool :=
    bif (decide ((0 : Int) ≤ i)) then
      Option.bind (b0_12[i.toNat]?) fun r =>
      bif (chk y6 r) then
        Option.bind (F_r21_Rect b0_5 b0_6 b0_7 (cI r 0) (cI r 1) (cS r 2) (cI r 3) (cI r 4) (cI r 5) (cI r 6) (cI r 7) (cI r 8) (cI r 9) (roRows (AVal.ro 5 (cR r 10))) (roRows (AVal.ro 3 (cR r 11)))) fun t =>
        bif (!t.2.2.2.2) then
          some false
        else
        Option.bind (b0_12[i.toNat]?) fun r1 =>
        bif (chk y6 r1) then
          bif ((cI r1 0) == b1_0) then
            some false
          else
          bif building then
            Option.bind (F_r06_Meet b2_0 b2_1 b2_2 b2_3 t.1 t.2.1 t.2.2.1 t.2.2.2.1) fun t1 =>
            bif t1 then
              some true
            else
            some false
          else
          bif (b3_3 != (3 : Int)) then
            Option.bind (F_r21_Cell b1_3 b1_4) fun t4 =>
            Option.bind (F_r06_Inside t.1 t.2.1 t.2.2.1 t.2.2.2.1 t4.1 t4.2) fun t5 =>
            bif t5 then
              some true
            else
            some false
          else
          some false
        else
        none
      else
      none
    else
    none
theorem stp_r21_placed_0 (building : Bool) (b0_5 b0_6 b0_7 b0_12 : LL) (b1_0 b1_3 b1_4 b2_0 b2_1 b2_2 b2_3 b3_3 : Int) (m k : Nat) (hk : k < b0_12.length) (hn : b0_12.length ≤ maxLen) : G_r21_placed_0 building b0_5 b0_6 b0_7 b0_12 b1_0 b1_3 b1_4 b2_0 b2_1 b2_2 b2_3 b3_3 (m + 1) (k : Int) = (S_r21_placed_0 building b0_5 b0_6 b0_7 b0_12 b1_0 b1_3 b1_4 b2_0 b2_1 b2_2 b2_3 b3_3 (k : Int)).bind fun t => bif t then some true else G_r21_placed_0 building b0_5 b0_6 b0_7 b0_12 b1_0 b1_3 b1_4 b2_0 b2_1 b2_2 b2_3 b3_3 m ((k + 1 : Nat) : Int) := by
  have d1 : (k : Int) < Int.ofNat b0_12.length := by rw [Int.ofNat_eq_natCast]; omega
  have hm : maxLen = 9223372036854775807 := by decide
  have e1 : wr ((k : Int) + 1) = ((k + 1 : Nat) : Int) := wr_next hk (by omega)
  have d2 : (0 : Int) ≤ k := by omega
  simp only [G_r21_placed_0, S_r21_placed_0, d1, d2, decide_true, cond_true, e1, Int.toNat_natCast, bind_bif, bind_bind, bind_some', cond_false, bind_none']
theorem end_r21_placed_0 (building : Bool) (b0_5 b0_6 b0_7 b0_12 : LL) (b1_0 b1_3 b1_4 b2_0 b2_1 b2_2 b2_3 b3_3 : Int) (m : Nat) : G_r21_placed_0 building b0_5 b0_6 b0_7 b0_12 b1_0 b1_3 b1_4 b2_0 b2_1 b2_2 b2_3 b3_3 (m + 1) (b0_12.length : Int) = some false := by
  have d1 : ¬ ((b0_12.length : Nat) : Int) < Int.ofNat b0_12.length := by rw [Int.ofNat_eq_natCast]; omega
  simp only [G_r21_placed_0, d1, decide_false, cond_false]
theorem run_r21_placed_0 (building : Bool) (b0_5 b0_6 b0_7 b0_12 : LL) (b1_0 b1_3 b1_4 b2_0 b2_1 b2_2 b2_3 b3_3 : Int) (hn : b0_12.length ≤ maxLen) : G_r21_placed_0 building b0_5 b0_6 b0_7 b0_12 b1_0 b1_3 b1_4 b2_0 b2_1 b2_2 b2_3 b3_3 FU 0 = anyO (fun k => S_r21_placed_0 building b0_5 b0_6 b0_7 b0_12 b1_0 b1_3 b1_4 b2_0 b2_1 b2_2 b2_3 b3_3 (k : Int)) b0_12.length := any_run _ _ _ hn (fun m k hk => stp_r21_placed_0 building b0_5 b0_6 b0_7 b0_12 b1_0 b1_3 b1_4 b2_0 b2_1 b2_2 b2_3 b3_3 m k hk hn) (fun m => end_r21_placed_0 building b0_5 b0_6 b0_7 b0_12 b1_0 b1_3 b1_4 b2_0 b2_1 b2_2 b2_3 b3_3 m)
noncomputable def S_r19_Separated_0 (l : LL) (i : Int) : Option Bool :=
    Option.bind (G_r19_Separated_1 l i FU (0 : Int)) fun t =>
    bif t then
      some true
    else
    some false
theorem stp_r19_Separated_0 (l : LL) (m k : Nat) (hk : k < l.length) (hn : l.length ≤ maxLen) : G_r19_Separated_0 l (m + 1) (k : Int) = (S_r19_Separated_0 l (k : Int)).bind fun t => bif t then some true else G_r19_Separated_0 l m ((k + 1 : Nat) : Int) := by
  have d1 : (k : Int) < Int.ofNat l.length := by rw [Int.ofNat_eq_natCast]; omega
  have hm : maxLen = 9223372036854775807 := by decide
  have e1 : wr ((k : Int) + 1) = ((k + 1 : Nat) : Int) := wr_next hk (by omega)
  have d2 : (0 : Int) ≤ k := by omega
  simp only [G_r19_Separated_0, S_r19_Separated_0, d1, d2, decide_true, cond_true, e1, Int.toNat_natCast, bind_bif, bind_bind, bind_some', cond_false, bind_none']
theorem end_r19_Separated_0 (l : LL) (m : Nat) : G_r19_Separated_0 l (m + 1) (l.length : Int) = some false := by
  have d1 : ¬ ((l.length : Nat) : Int) < Int.ofNat l.length := by rw [Int.ofNat_eq_natCast]; omega
  simp only [G_r19_Separated_0, d1, decide_false, cond_false]
theorem run_r19_Separated_0 (l : LL) (hn : l.length ≤ maxLen) : G_r19_Separated_0 l FU 0 = anyO (fun k => S_r19_Separated_0 l (k : Int)) l.length := any_run _ _ _ hn (fun m k hk => stp_r19_Separated_0 l m k hk hn) (fun m => end_r19_Separated_0 l m)
noncomputable def S_r21_Validate_0 (b0_0 b0_1 b0_2 : Int) (b0_3 : Bool) (b0_4 : Int) (b0_5 b0_6 b0_7 : LL) (b0_8 b0_9 : Int) (b0_10 b0_11 b0_12 b0_13 b0_14 b0_15 : LL) (i : Int) : Option Bool :=
    bif (decide ((0 : Int) ≤ i)) then
      Option.bind (b0_12[i.toNat]?) fun r =>
      bif (chk y6 r) then
        Option.bind (F_r21_named b0_0 b0_1 b0_2 b0_3 b0_4 b0_5 b0_6 b0_7 b0_8 b0_9 b0_10 b0_11 b0_12 b0_13 b0_14 b0_15 (cI r 0) (cI r 1) (cS r 2) (cI r 3) (cI r 4) (cI r 5) (cI r 6) (cI r 7) (cI r 8) (cI r 9) (roRows (AVal.ro 5 (cR r 10))) (roRows (AVal.ro 3 (cR r 11)))) fun t =>
        bif (!t) then
          some true
        else
        some false
      else
      none
    else
    none
theorem stp_r21_Validate_0 (b0_0 b0_1 b0_2 : Int) (b0_3 : Bool) (b0_4 : Int) (b0_5 b0_6 b0_7 : LL) (b0_8 b0_9 : Int) (b0_10 b0_11 b0_12 b0_13 b0_14 b0_15 : LL) (m k : Nat) (hk : k < b0_12.length) (hn : b0_12.length ≤ maxLen) : G_r21_Validate_0 b0_0 b0_1 b0_2 b0_3 b0_4 b0_5 b0_6 b0_7 b0_8 b0_9 b0_10 b0_11 b0_12 b0_13 b0_14 b0_15 (m + 1) (k : Int) = (S_r21_Validate_0 b0_0 b0_1 b0_2 b0_3 b0_4 b0_5 b0_6 b0_7 b0_8 b0_9 b0_10 b0_11 b0_12 b0_13 b0_14 b0_15 (k : Int)).bind fun t => bif t then some true else G_r21_Validate_0 b0_0 b0_1 b0_2 b0_3 b0_4 b0_5 b0_6 b0_7 b0_8 b0_9 b0_10 b0_11 b0_12 b0_13 b0_14 b0_15 m ((k + 1 : Nat) : Int) := by
  have d1 : (k : Int) < Int.ofNat b0_12.length := by rw [Int.ofNat_eq_natCast]; omega
  have hm : maxLen = 9223372036854775807 := by decide
  have e1 : wr ((k : Int) + 1) = ((k + 1 : Nat) : Int) := wr_next hk (by omega)
  have d2 : (0 : Int) ≤ k := by omega
  simp only [G_r21_Validate_0, S_r21_Validate_0, d1, d2, decide_true, cond_true, e1, Int.toNat_natCast, bind_bif, bind_bind, bind_some', cond_false, bind_none']
theorem end_r21_Validate_0 (b0_0 b0_1 b0_2 : Int) (b0_3 : Bool) (b0_4 : Int) (b0_5 b0_6 b0_7 : LL) (b0_8 b0_9 : Int) (b0_10 b0_11 b0_12 b0_13 b0_14 b0_15 : LL) (m : Nat) : G_r21_Validate_0 b0_0 b0_1 b0_2 b0_3 b0_4 b0_5 b0_6 b0_7 b0_8 b0_9 b0_10 b0_11 b0_12 b0_13 b0_14 b0_15 (m + 1) (b0_12.length : Int) = some false := by
  have d1 : ¬ ((b0_12.length : Nat) : Int) < Int.ofNat b0_12.length := by rw [Int.ofNat_eq_natCast]; omega
  simp only [G_r21_Validate_0, d1, decide_false, cond_false]
theorem run_r21_Validate_0 (b0_0 b0_1 b0_2 : Int) (b0_3 : Bool) (b0_4 : Int) (b0_5 b0_6 b0_7 : LL) (b0_8 b0_9 : Int) (b0_10 b0_11 b0_12 b0_13 b0_14 b0_15 : LL) (hn : b0_12.length ≤ maxLen) : G_r21_Validate_0 b0_0 b0_1 b0_2 b0_3 b0_4 b0_5 b0_6 b0_7 b0_8 b0_9 b0_10 b0_11 b0_12 b0_13 b0_14 b0_15 FU 0 = anyO (fun k => S_r21_Validate_0 b0_0 b0_1 b0_2 b0_3 b0_4 b0_5 b0_6 b0_7 b0_8 b0_9 b0_10 b0_11 b0_12 b0_13 b0_14 b0_15 (k : Int)) b0_12.length := any_run _ _ _ hn (fun m k hk => stp_r21_Validate_0 b0_0 b0_1 b0_2 b0_3 b0_4 b0_5 b0_6 b0_7 b0_8 b0_9 b0_10 b0_11 b0_12 b0_13 b0_14 b0_15 m k hk hn) (fun m => end_r21_Validate_0 b0_0 b0_1 b0_2 b0_3 b0_4 b0_5 b0_6 b0_7 b0_8 b0_9 b0_10 b0_11 b0_12 b0_13 b0_14 b0_15 m)
noncomputable def S_r21_Validate_1 (b0_0 b0_1 b0_2 : Int) (b0_3 : Bool) (b0_4 : Int) (b0_5 b0_6 b0_7 : LL) (b0_8 b0_9 : Int) (b0_10 b0_11 b0_12 b0_13 b0_14 b0_15 : LL) (i : Int) : Option Bool :=
    bif (decide ((0 : Int) ≤ i)) then
      Option.bind (b0_12[i.toNat]?) fun r =>
      bif (chk y6 r) then
        Option.bind (F_r21_placed b0_0 b0_1 b0_2 b0_3 b0_4 b0_5 b0_6 b0_7 b0_8 b0_9 b0_10 b0_11 b0_12 b0_13 b0_14 b0_15 (cI r 0) (cI r 1) (cS r 2) (cI r 3) (cI r 4) (cI r 5) (cI r 6) (cI r 7) (cI r 8) (cI r 9) (roRows (AVal.ro 5 (cR r 10))) (roRows (AVal.ro 3 (cR r 11)))) fun t =>
        bif (!t) then
          some true
        else
        some false
      else
      none
    else
    none
theorem stp_r21_Validate_1 (b0_0 b0_1 b0_2 : Int) (b0_3 : Bool) (b0_4 : Int) (b0_5 b0_6 b0_7 : LL) (b0_8 b0_9 : Int) (b0_10 b0_11 b0_12 b0_13 b0_14 b0_15 : LL) (m k : Nat) (hk : k < b0_12.length) (hn : b0_12.length ≤ maxLen) : G_r21_Validate_1 b0_0 b0_1 b0_2 b0_3 b0_4 b0_5 b0_6 b0_7 b0_8 b0_9 b0_10 b0_11 b0_12 b0_13 b0_14 b0_15 (m + 1) (k : Int) = (S_r21_Validate_1 b0_0 b0_1 b0_2 b0_3 b0_4 b0_5 b0_6 b0_7 b0_8 b0_9 b0_10 b0_11 b0_12 b0_13 b0_14 b0_15 (k : Int)).bind fun t => bif t then some true else G_r21_Validate_1 b0_0 b0_1 b0_2 b0_3 b0_4 b0_5 b0_6 b0_7 b0_8 b0_9 b0_10 b0_11 b0_12 b0_13 b0_14 b0_15 m ((k + 1 : Nat) : Int) := by
  have d1 : (k : Int) < Int.ofNat b0_12.length := by rw [Int.ofNat_eq_natCast]; omega
  have hm : maxLen = 9223372036854775807 := by decide
  have e1 : wr ((k : Int) + 1) = ((k + 1 : Nat) : Int) := wr_next hk (by omega)
  have d2 : (0 : Int) ≤ k := by omega
  simp only [G_r21_Validate_1, S_r21_Validate_1, d1, d2, decide_true, cond_true, e1, Int.toNat_natCast, bind_bif, bind_bind, bind_some', cond_false, bind_none']
theorem end_r21_Validate_1 (b0_0 b0_1 b0_2 : Int) (b0_3 : Bool) (b0_4 : Int) (b0_5 b0_6 b0_7 : LL) (b0_8 b0_9 : Int) (b0_10 b0_11 b0_12 b0_13 b0_14 b0_15 : LL) (m : Nat) : G_r21_Validate_1 b0_0 b0_1 b0_2 b0_3 b0_4 b0_5 b0_6 b0_7 b0_8 b0_9 b0_10 b0_11 b0_12 b0_13 b0_14 b0_15 (m + 1) (b0_12.length : Int) = some false := by
  have d1 : ¬ ((b0_12.length : Nat) : Int) < Int.ofNat b0_12.length := by rw [Int.ofNat_eq_natCast]; omega
  simp only [G_r21_Validate_1, d1, decide_false, cond_false]
theorem run_r21_Validate_1 (b0_0 b0_1 b0_2 : Int) (b0_3 : Bool) (b0_4 : Int) (b0_5 b0_6 b0_7 : LL) (b0_8 b0_9 : Int) (b0_10 b0_11 b0_12 b0_13 b0_14 b0_15 : LL) (hn : b0_12.length ≤ maxLen) : G_r21_Validate_1 b0_0 b0_1 b0_2 b0_3 b0_4 b0_5 b0_6 b0_7 b0_8 b0_9 b0_10 b0_11 b0_12 b0_13 b0_14 b0_15 FU 0 = anyO (fun k => S_r21_Validate_1 b0_0 b0_1 b0_2 b0_3 b0_4 b0_5 b0_6 b0_7 b0_8 b0_9 b0_10 b0_11 b0_12 b0_13 b0_14 b0_15 (k : Int)) b0_12.length := any_run _ _ _ hn (fun m k hk => stp_r21_Validate_1 b0_0 b0_1 b0_2 b0_3 b0_4 b0_5 b0_6 b0_7 b0_8 b0_9 b0_10 b0_11 b0_12 b0_13 b0_14 b0_15 m k hk hn) (fun m => end_r21_Validate_1 b0_0 b0_1 b0_2 b0_3 b0_4 b0_5 b0_6 b0_7 b0_8 b0_9 b0_10 b0_11 b0_12 b0_13 b0_14 b0_15 m)
noncomputable def S_r21_Validate_2 (b0_0 b0_1 b0_2 : Int) (b0_3 : Bool) (b0_4 : Int) (b0_5 b0_6 b0_7 : LL) (b0_8 b0_9 : Int) (b0_10 b0_11 b0_12 b0_13 b0_14 b0_15 : LL) (i : Int) : Option Bool :=
    bif (decide ((0 : Int) ≤ i)) then
      Option.bind (b0_12[i.toNat]?) fun r =>
      bif (chk y6 r) then
        Option.bind (F_r21_proper b0_0 b0_1 b0_2 b0_3 b0_4 b0_5 b0_6 b0_7 b0_8 b0_9 b0_10 b0_11 b0_12 b0_13 b0_14 b0_15 (cI r 0) (cI r 1) (cS r 2) (cI r 3) (cI r 4) (cI r 5) (cI r 6) (cI r 7) (cI r 8) (cI r 9) (roRows (AVal.ro 5 (cR r 10))) (roRows (AVal.ro 3 (cR r 11)))) fun t =>
        bif (!t) then
          some true
        else
        some false
      else
      none
    else
    none
theorem stp_r21_Validate_2 (b0_0 b0_1 b0_2 : Int) (b0_3 : Bool) (b0_4 : Int) (b0_5 b0_6 b0_7 : LL) (b0_8 b0_9 : Int) (b0_10 b0_11 b0_12 b0_13 b0_14 b0_15 : LL) (m k : Nat) (hk : k < b0_12.length) (hn : b0_12.length ≤ maxLen) : G_r21_Validate_2 b0_0 b0_1 b0_2 b0_3 b0_4 b0_5 b0_6 b0_7 b0_8 b0_9 b0_10 b0_11 b0_12 b0_13 b0_14 b0_15 (m + 1) (k : Int) = (S_r21_Validate_2 b0_0 b0_1 b0_2 b0_3 b0_4 b0_5 b0_6 b0_7 b0_8 b0_9 b0_10 b0_11 b0_12 b0_13 b0_14 b0_15 (k : Int)).bind fun t => bif t then some true else G_r21_Validate_2 b0_0 b0_1 b0_2 b0_3 b0_4 b0_5 b0_6 b0_7 b0_8 b0_9 b0_10 b0_11 b0_12 b0_13 b0_14 b0_15 m ((k + 1 : Nat) : Int) := by
  have d1 : (k : Int) < Int.ofNat b0_12.length := by rw [Int.ofNat_eq_natCast]; omega
  have hm : maxLen = 9223372036854775807 := by decide
  have e1 : wr ((k : Int) + 1) = ((k + 1 : Nat) : Int) := wr_next hk (by omega)
  have d2 : (0 : Int) ≤ k := by omega
  simp only [G_r21_Validate_2, S_r21_Validate_2, d1, d2, decide_true, cond_true, e1, Int.toNat_natCast, bind_bif, bind_bind, bind_some', cond_false, bind_none']
theorem end_r21_Validate_2 (b0_0 b0_1 b0_2 : Int) (b0_3 : Bool) (b0_4 : Int) (b0_5 b0_6 b0_7 : LL) (b0_8 b0_9 : Int) (b0_10 b0_11 b0_12 b0_13 b0_14 b0_15 : LL) (m : Nat) : G_r21_Validate_2 b0_0 b0_1 b0_2 b0_3 b0_4 b0_5 b0_6 b0_7 b0_8 b0_9 b0_10 b0_11 b0_12 b0_13 b0_14 b0_15 (m + 1) (b0_12.length : Int) = some false := by
  have d1 : ¬ ((b0_12.length : Nat) : Int) < Int.ofNat b0_12.length := by rw [Int.ofNat_eq_natCast]; omega
  simp only [G_r21_Validate_2, d1, decide_false, cond_false]
theorem run_r21_Validate_2 (b0_0 b0_1 b0_2 : Int) (b0_3 : Bool) (b0_4 : Int) (b0_5 b0_6 b0_7 : LL) (b0_8 b0_9 : Int) (b0_10 b0_11 b0_12 b0_13 b0_14 b0_15 : LL) (hn : b0_12.length ≤ maxLen) : G_r21_Validate_2 b0_0 b0_1 b0_2 b0_3 b0_4 b0_5 b0_6 b0_7 b0_8 b0_9 b0_10 b0_11 b0_12 b0_13 b0_14 b0_15 FU 0 = anyO (fun k => S_r21_Validate_2 b0_0 b0_1 b0_2 b0_3 b0_4 b0_5 b0_6 b0_7 b0_8 b0_9 b0_10 b0_11 b0_12 b0_13 b0_14 b0_15 (k : Int)) b0_12.length := any_run _ _ _ hn (fun m k hk => stp_r21_Validate_2 b0_0 b0_1 b0_2 b0_3 b0_4 b0_5 b0_6 b0_7 b0_8 b0_9 b0_10 b0_11 b0_12 b0_13 b0_14 b0_15 m k hk hn) (fun m => end_r21_Validate_2 b0_0 b0_1 b0_2 b0_3 b0_4 b0_5 b0_6 b0_7 b0_8 b0_9 b0_10 b0_11 b0_12 b0_13 b0_14 b0_15 m)
noncomputable def S_r22_Sound_0 (b0_11 : LL) (i : Int) : Option Bool :=
    bif (decide ((0 : Int) ≤ i)) then
      Option.bind (b0_11[i.toNat]?) fun r =>
      bif (chk y7 r) then
        bif (decide ((cI r 0) < (1 : Int))) then
          some true
        else
        bif (decide ((cI r 0) > (6 : Int))) then
          some true
        else
        bif (decide (i > (0 : Int))) then
          bif (decide ((0 : Int) ≤ (wr (i - (1 : Int))))) then
            Option.bind (b0_11[(wr (i - (1 : Int))).toNat]?) fun r1 =>
            bif (chk y7 r1) then
              bif (decide ((cI r 0) ≤ (cI r1 0))) then
                some true
              else
              bif (decide ((cI r 2) < (0 : Int))) then
                some true
              else
              bif (decide ((cI r 2) > (1000000 : Int))) then
                some true
              else
              bif (decide ((cI r 3) < (0 : Int))) then
                some true
              else
              bif (decide ((cI r 3) > (1000000 : Int))) then
                some true
              else
              some false
            else
            none
          else
          none
        else
        bif (decide ((cI r 2) < (0 : Int))) then
          some true
        else
        bif (decide ((cI r 2) > (1000000 : Int))) then
          some true
        else
        bif (decide ((cI r 3) < (0 : Int))) then
          some true
        else
        bif (decide ((cI r 3) > (1000000 : Int))) then
          some true
        else
        some false
      else
      none
    else
    none
theorem stp_r22_Sound_0 (b0_11 : LL) (m k : Nat) (hk : k < b0_11.length) (hn : b0_11.length ≤ maxLen) : G_r22_Sound_0 b0_11 (m + 1) (k : Int) = (S_r22_Sound_0 b0_11 (k : Int)).bind fun t => bif t then some true else G_r22_Sound_0 b0_11 m ((k + 1 : Nat) : Int) := by
  have d1 : (k : Int) < Int.ofNat b0_11.length := by rw [Int.ofNat_eq_natCast]; omega
  have hm : maxLen = 9223372036854775807 := by decide
  have e1 : wr ((k : Int) + 1) = ((k + 1 : Nat) : Int) := wr_next hk (by omega)
  have d2 : (0 : Int) ≤ k := by omega
  simp only [G_r22_Sound_0, S_r22_Sound_0, d1, d2, decide_true, cond_true, e1, Int.toNat_natCast, bind_bif, bind_bind, bind_some', cond_false, bind_none']
theorem end_r22_Sound_0 (b0_11 : LL) (m : Nat) : G_r22_Sound_0 b0_11 (m + 1) (b0_11.length : Int) = some false := by
  have d1 : ¬ ((b0_11.length : Nat) : Int) < Int.ofNat b0_11.length := by rw [Int.ofNat_eq_natCast]; omega
  simp only [G_r22_Sound_0, d1, decide_false, cond_false]
theorem run_r22_Sound_0 (b0_11 : LL) (hn : b0_11.length ≤ maxLen) : G_r22_Sound_0 b0_11 FU 0 = anyO (fun k => S_r22_Sound_0 b0_11 (k : Int)) b0_11.length := any_run _ _ _ hn (fun m k hk => stp_r22_Sound_0 b0_11 m k hk hn) (fun m => end_r22_Sound_0 b0_11 m)
noncomputable def S_l22_Small_0 (b0_11 : LL) (i : Int) : Option Bool :=
    bif (decide ((0 : Int) ≤ i)) then
      Option.bind (b0_11[i.toNat]?) fun r =>
      bif (chk y7 r) then
        bif (decide ((Int.ofNat (cR r 4).length) > (40 : Int))) then
          some true
        else
        Option.bind (b0_11[i.toNat]?) fun r1 =>
        bif (chk y7 r1) then
          Option.bind (F_l22_huge (roRows (AVal.ro 1 (cR r1 4)))) fun t =>
          bif t then
            some true
          else
          some false
        else
        none
      else
      none
    else
    none
theorem stp_l22_Small_0 (b0_11 : LL) (m k : Nat) (hk : k < b0_11.length) (hn : b0_11.length ≤ maxLen) : G_l22_Small_0 b0_11 (m + 1) (k : Int) = (S_l22_Small_0 b0_11 (k : Int)).bind fun t => bif t then some true else G_l22_Small_0 b0_11 m ((k + 1 : Nat) : Int) := by
  have d1 : (k : Int) < Int.ofNat b0_11.length := by rw [Int.ofNat_eq_natCast]; omega
  have hm : maxLen = 9223372036854775807 := by decide
  have e1 : wr ((k : Int) + 1) = ((k + 1 : Nat) : Int) := wr_next hk (by omega)
  have d2 : (0 : Int) ≤ k := by omega
  simp only [G_l22_Small_0, S_l22_Small_0, d1, d2, decide_true, cond_true, e1, Int.toNat_natCast, bind_bif, bind_bind, bind_some', cond_false, bind_none']
theorem end_l22_Small_0 (b0_11 : LL) (m : Nat) : G_l22_Small_0 b0_11 (m + 1) (b0_11.length : Int) = some false := by
  have d1 : ¬ ((b0_11.length : Nat) : Int) < Int.ofNat b0_11.length := by rw [Int.ofNat_eq_natCast]; omega
  simp only [G_l22_Small_0, d1, decide_false, cond_false]
theorem run_l22_Small_0 (b0_11 : LL) (hn : b0_11.length ≤ maxLen) : G_l22_Small_0 b0_11 FU 0 = anyO (fun k => S_l22_Small_0 b0_11 (k : Int)) b0_11.length := any_run _ _ _ hn (fun m k hk => stp_l22_Small_0 b0_11 m k hk hn) (fun m => end_l22_Small_0 b0_11 m)
noncomputable def S_l22_Small_1 (b0_12 : LL) (i : Int) : Option Bool :=
    bif (decide ((0 : Int) ≤ i)) then
      Option.bind (b0_12[i.toNat]?) fun r =>
      bif (chk y6 r) then
        bif (decide ((Int.ofNat (cR r 10).length) > (20 : Int))) then
          some true
        else
        Option.bind (b0_12[i.toNat]?) fun r1 =>
        bif (chk y6 r1) then
          bif (decide ((Int.ofNat (cR r1 11).length) > (20 : Int))) then
            some true
          else
          some false
        else
        none
      else
      none
    else
    none
theorem stp_l22_Small_1 (b0_12 : LL) (m k : Nat) (hk : k < b0_12.length) (hn : b0_12.length ≤ maxLen) : G_l22_Small_1 b0_12 (m + 1) (k : Int) = (S_l22_Small_1 b0_12 (k : Int)).bind fun t => bif t then some true else G_l22_Small_1 b0_12 m ((k + 1 : Nat) : Int) := by
  have d1 : (k : Int) < Int.ofNat b0_12.length := by rw [Int.ofNat_eq_natCast]; omega
  have hm : maxLen = 9223372036854775807 := by decide
  have e1 : wr ((k : Int) + 1) = ((k + 1 : Nat) : Int) := wr_next hk (by omega)
  have d2 : (0 : Int) ≤ k := by omega
  simp only [G_l22_Small_1, S_l22_Small_1, d1, d2, decide_true, cond_true, e1, Int.toNat_natCast, bind_bif, bind_bind, bind_some', cond_false, bind_none']
theorem end_l22_Small_1 (b0_12 : LL) (m : Nat) : G_l22_Small_1 b0_12 (m + 1) (b0_12.length : Int) = some false := by
  have d1 : ¬ ((b0_12.length : Nat) : Int) < Int.ofNat b0_12.length := by rw [Int.ofNat_eq_natCast]; omega
  simp only [G_l22_Small_1, d1, decide_false, cond_false]
theorem run_l22_Small_1 (b0_12 : LL) (hn : b0_12.length ≤ maxLen) : G_l22_Small_1 b0_12 FU 0 = anyO (fun k => S_l22_Small_1 b0_12 (k : Int)) b0_12.length := any_run _ _ _ hn (fun m k hk => stp_l22_Small_1 b0_12 m k hk hn) (fun m => end_l22_Small_1 b0_12 m)
noncomputable def S_r09_Same_0 (b0_0 b1_0 : LL) (i : Int) : Option Bool :=
    bif (decide ((0 : Int) ≤ i)) then
      Option.bind (b0_0[i.toNat]?) fun r =>
      bif (chk y0 r) then
        Option.bind (b1_0[i.toNat]?) fun r1 =>
        bif (chk y0 r1) then
          Option.bind (F_r09_SameUnit (cS r 0) (cB r 1) (cB r 2) (cI r 3) (cI r 4) (cI r 5) (cI r 6) (cI r 7) (cI r 8) (cI r 9) (cI r 10) (cI r 11) (cS r 12) (cI r 13) (cI r 14) (cI r 15) (roRows (AVal.ro 1 (cR r 16))) (roRows (AVal.ro 1 (cR r 17))) (roRows (AVal.ro 1 (cR r 18))) (cS r1 0) (cB r1 1) (cB r1 2) (cI r1 3) (cI r1 4) (cI r1 5) (cI r1 6) (cI r1 7) (cI r1 8) (cI r1 9) (cI r1 10) (cI r1 11) (cS r1 12) (cI r1 13) (cI r1 14) (cI r1 15) (roRows (AVal.ro 1 (cR r1 16))) (roRows (AVal.ro 1 (cR r1 17))) (roRows (AVal.ro 1 (cR r1 18)))) fun t =>
          bif (!t) then
            some true
          else
          some false
        else
        none
      else
      none
    else
    none
theorem stp_r09_Same_0 (b0_0 b1_0 : LL) (m k : Nat) (hk : k < b0_0.length) (hn : b0_0.length ≤ maxLen) : G_r09_Same_0 b0_0 b1_0 (m + 1) (k : Int) = (S_r09_Same_0 b0_0 b1_0 (k : Int)).bind fun t => bif t then some true else G_r09_Same_0 b0_0 b1_0 m ((k + 1 : Nat) : Int) := by
  have d1 : (k : Int) < Int.ofNat b0_0.length := by rw [Int.ofNat_eq_natCast]; omega
  have hm : maxLen = 9223372036854775807 := by decide
  have e1 : wr ((k : Int) + 1) = ((k + 1 : Nat) : Int) := wr_next hk (by omega)
  have d2 : (0 : Int) ≤ k := by omega
  simp only [G_r09_Same_0, S_r09_Same_0, d1, d2, decide_true, cond_true, e1, Int.toNat_natCast, bind_bif, bind_bind, bind_some', cond_false, bind_none']
theorem end_r09_Same_0 (b0_0 b1_0 : LL) (m : Nat) : G_r09_Same_0 b0_0 b1_0 (m + 1) (b0_0.length : Int) = some false := by
  have d1 : ¬ ((b0_0.length : Nat) : Int) < Int.ofNat b0_0.length := by rw [Int.ofNat_eq_natCast]; omega
  simp only [G_r09_Same_0, d1, decide_false, cond_false]
theorem run_r09_Same_0 (b0_0 b1_0 : LL) (hn : b0_0.length ≤ maxLen) : G_r09_Same_0 b0_0 b1_0 FU 0 = anyO (fun k => S_r09_Same_0 b0_0 b1_0 (k : Int)) b0_0.length := any_run _ _ _ hn (fun m k hk => stp_r09_Same_0 b0_0 b1_0 m k hk hn) (fun m => end_r09_Same_0 b0_0 b1_0 m)
noncomputable def S_r09_Same_1 (b0_1 b1_1 : LL) (i : Int) : Option Bool :=
    bif (decide ((0 : Int) ≤ i)) then
      Option.bind (b0_1[i.toNat]?) fun r =>
      bif (chk y1 r) then
        Option.bind (b1_1[i.toNat]?) fun r1 =>
        bif (chk y1 r1) then
          bif (!(((cS r 0) == (cS r1 0)) && (((cI r 1) == (cI r1 1)) && (((cI r 2) == (cI r1 2)) && (((cI r 3) == (cI r1 3)) && (((cI r 4) == (cI r1 4)) && ((cI r 5) == (cI r1 5)))))))) then
            some true
          else
          some false
        else
        none
      else
      none
    else
    none
theorem stp_r09_Same_1 (b0_1 b1_1 : LL) (m k : Nat) (hk : k < b0_1.length) (hn : b0_1.length ≤ maxLen) : G_r09_Same_1 b0_1 b1_1 (m + 1) (k : Int) = (S_r09_Same_1 b0_1 b1_1 (k : Int)).bind fun t => bif t then some true else G_r09_Same_1 b0_1 b1_1 m ((k + 1 : Nat) : Int) := by
  have d1 : (k : Int) < Int.ofNat b0_1.length := by rw [Int.ofNat_eq_natCast]; omega
  have hm : maxLen = 9223372036854775807 := by decide
  have e1 : wr ((k : Int) + 1) = ((k + 1 : Nat) : Int) := wr_next hk (by omega)
  have d2 : (0 : Int) ≤ k := by omega
  simp only [G_r09_Same_1, S_r09_Same_1, d1, d2, decide_true, cond_true, e1, Int.toNat_natCast, bind_bif, bind_bind, bind_some', cond_false, bind_none']
theorem end_r09_Same_1 (b0_1 b1_1 : LL) (m : Nat) : G_r09_Same_1 b0_1 b1_1 (m + 1) (b0_1.length : Int) = some false := by
  have d1 : ¬ ((b0_1.length : Nat) : Int) < Int.ofNat b0_1.length := by rw [Int.ofNat_eq_natCast]; omega
  simp only [G_r09_Same_1, d1, decide_false, cond_false]
theorem run_r09_Same_1 (b0_1 b1_1 : LL) (hn : b0_1.length ≤ maxLen) : G_r09_Same_1 b0_1 b1_1 FU 0 = anyO (fun k => S_r09_Same_1 b0_1 b1_1 (k : Int)) b0_1.length := any_run _ _ _ hn (fun m k hk => stp_r09_Same_1 b0_1 b1_1 m k hk hn) (fun m => end_r09_Same_1 b0_1 b1_1 m)
noncomputable def S_r09_Same_2 (b0_2 b1_2 : LL) (i : Int) : Option Bool :=
    bif (decide ((0 : Int) ≤ i)) then
      Option.bind (b0_2[i.toNat]?) fun r =>
      bif (chk y2 r) then
        Option.bind (b1_2[i.toNat]?) fun r1 =>
        bif (chk y2 r1) then
          Option.bind (F_r09_SameTech (cS r 0) (roRows (AVal.ro 1 (cR r 1))) (cI r 2) (cI r 3) (cI r 4) (cS r 5) (cI r 6) (cI r 7) (cS r1 0) (roRows (AVal.ro 1 (cR r1 1))) (cI r1 2) (cI r1 3) (cI r1 4) (cS r1 5) (cI r1 6) (cI r1 7)) fun t =>
          bif (!t) then
            some true
          else
          some false
        else
        none
      else
      none
    else
    none
theorem stp_r09_Same_2 (b0_2 b1_2 : LL) (m k : Nat) (hk : k < b0_2.length) (hn : b0_2.length ≤ maxLen) : G_r09_Same_2 b0_2 b1_2 (m + 1) (k : Int) = (S_r09_Same_2 b0_2 b1_2 (k : Int)).bind fun t => bif t then some true else G_r09_Same_2 b0_2 b1_2 m ((k + 1 : Nat) : Int) := by
  have d1 : (k : Int) < Int.ofNat b0_2.length := by rw [Int.ofNat_eq_natCast]; omega
  have hm : maxLen = 9223372036854775807 := by decide
  have e1 : wr ((k : Int) + 1) = ((k + 1 : Nat) : Int) := wr_next hk (by omega)
  have d2 : (0 : Int) ≤ k := by omega
  simp only [G_r09_Same_2, S_r09_Same_2, d1, d2, decide_true, cond_true, e1, Int.toNat_natCast, bind_bif, bind_bind, bind_some', cond_false, bind_none']
theorem end_r09_Same_2 (b0_2 b1_2 : LL) (m : Nat) : G_r09_Same_2 b0_2 b1_2 (m + 1) (b0_2.length : Int) = some false := by
  have d1 : ¬ ((b0_2.length : Nat) : Int) < Int.ofNat b0_2.length := by rw [Int.ofNat_eq_natCast]; omega
  simp only [G_r09_Same_2, d1, decide_false, cond_false]
theorem run_r09_Same_2 (b0_2 b1_2 : LL) (hn : b0_2.length ≤ maxLen) : G_r09_Same_2 b0_2 b1_2 FU 0 = anyO (fun k => S_r09_Same_2 b0_2 b1_2 (k : Int)) b0_2.length := any_run _ _ _ hn (fun m k hk => stp_r09_Same_2 b0_2 b1_2 m k hk hn) (fun m => end_r09_Same_2 b0_2 b1_2 m)
noncomputable def S_r21_SameOrders_0 (a b : LL) (i : Int) : Option Bool :=
    bif (decide ((0 : Int) ≤ i)) then
      Option.bind (a[i.toNat]?) fun r =>
      bif (chk y4 r) then
        Option.bind (b[i.toNat]?) fun r1 =>
        bif (chk y4 r1) then
          bif (!(((cI r 0) == (cI r1 0)) && ((((cI r 1) == (cI r1 1)) && ((cI r 2) == (cI r1 2))) && (((cI r 3) == (cI r1 3)) && ((cS r 4) == (cS r1 4)))))) then
            some true
          else
          some false
        else
        none
      else
      none
    else
    none
theorem stp_r21_SameOrders_0 (a b : LL) (m k : Nat) (hk : k < a.length) (hn : a.length ≤ maxLen) : G_r21_SameOrders_0 a b (m + 1) (k : Int) = (S_r21_SameOrders_0 a b (k : Int)).bind fun t => bif t then some true else G_r21_SameOrders_0 a b m ((k + 1 : Nat) : Int) := by
  have d1 : (k : Int) < Int.ofNat a.length := by rw [Int.ofNat_eq_natCast]; omega
  have hm : maxLen = 9223372036854775807 := by decide
  have e1 : wr ((k : Int) + 1) = ((k + 1 : Nat) : Int) := wr_next hk (by omega)
  have d2 : (0 : Int) ≤ k := by omega
  simp only [G_r21_SameOrders_0, S_r21_SameOrders_0, d1, d2, decide_true, cond_true, e1, Int.toNat_natCast, bind_bif, bind_bind, bind_some', cond_false, bind_none']
theorem end_r21_SameOrders_0 (a b : LL) (m : Nat) : G_r21_SameOrders_0 a b (m + 1) (a.length : Int) = some false := by
  have d1 : ¬ ((a.length : Nat) : Int) < Int.ofNat a.length := by rw [Int.ofNat_eq_natCast]; omega
  simp only [G_r21_SameOrders_0, d1, decide_false, cond_false]
theorem run_r21_SameOrders_0 (a b : LL) (hn : a.length ≤ maxLen) : G_r21_SameOrders_0 a b FU 0 = anyO (fun k => S_r21_SameOrders_0 a b (k : Int)) a.length := any_run _ _ _ hn (fun m k hk => stp_r21_SameOrders_0 a b m k hk hn) (fun m => end_r21_SameOrders_0 a b m)
noncomputable def S_r21_Same_0 (b0_11 b1_11 : LL) (i : Int) : Option Bool :=
    bif (decide ((0 : Int) ≤ i)) then
      Option.bind (b0_11[i.toNat]?) fun r =>
      bif (chk y5 r) then
        Option.bind (b1_11[i.toNat]?) fun r1 =>
        bif (chk y5 r1) then
          bif (!(((cI r 0) == (cI r1 0)) && (((cI r 1) == (cI r1 1)) && ((cS r 2) == (cS r1 2))))) then
            some true
          else
          some false
        else
        none
      else
      none
    else
    none
theorem stp_r21_Same_0 (b0_11 b1_11 : LL) (m k : Nat) (hk : k < b0_11.length) (hn : b0_11.length ≤ maxLen) : G_r21_Same_0 b0_11 b1_11 (m + 1) (k : Int) = (S_r21_Same_0 b0_11 b1_11 (k : Int)).bind fun t => bif t then some true else G_r21_Same_0 b0_11 b1_11 m ((k + 1 : Nat) : Int) := by
  have d1 : (k : Int) < Int.ofNat b0_11.length := by rw [Int.ofNat_eq_natCast]; omega
  have hm : maxLen = 9223372036854775807 := by decide
  have e1 : wr ((k : Int) + 1) = ((k + 1 : Nat) : Int) := wr_next hk (by omega)
  have d2 : (0 : Int) ≤ k := by omega
  simp only [G_r21_Same_0, S_r21_Same_0, d1, d2, decide_true, cond_true, e1, Int.toNat_natCast, bind_bif, bind_bind, bind_some', cond_false, bind_none']
theorem end_r21_Same_0 (b0_11 b1_11 : LL) (m : Nat) : G_r21_Same_0 b0_11 b1_11 (m + 1) (b0_11.length : Int) = some false := by
  have d1 : ¬ ((b0_11.length : Nat) : Int) < Int.ofNat b0_11.length := by rw [Int.ofNat_eq_natCast]; omega
  simp only [G_r21_Same_0, d1, decide_false, cond_false]
theorem run_r21_Same_0 (b0_11 b1_11 : LL) (hn : b0_11.length ≤ maxLen) : G_r21_Same_0 b0_11 b1_11 FU 0 = anyO (fun k => S_r21_Same_0 b0_11 b1_11 (k : Int)) b0_11.length := any_run _ _ _ hn (fun m k hk => stp_r21_Same_0 b0_11 b1_11 m k hk hn) (fun m => end_r21_Same_0 b0_11 b1_11 m)
noncomputable def S_r21_SameAll_0 (a b : LL) (i : Int) : Option Bool :=
    bif (decide ((0 : Int) ≤ i)) then
      Option.bind (a[i.toNat]?) fun r =>
      bif (chk y6 r) then
        Option.bind (b[i.toNat]?) fun r1 =>
        bif (chk y6 r1) then
          Option.bind (F_r21_Same (cI r 0) (cI r 1) (cS r 2) (cI r 3) (cI r 4) (cI r 5) (cI r 6) (cI r 7) (cI r 8) (cI r 9) (roRows (AVal.ro 5 (cR r 10))) (roRows (AVal.ro 3 (cR r 11))) (cI r1 0) (cI r1 1) (cS r1 2) (cI r1 3) (cI r1 4) (cI r1 5) (cI r1 6) (cI r1 7) (cI r1 8) (cI r1 9) (roRows (AVal.ro 5 (cR r1 10))) (roRows (AVal.ro 3 (cR r1 11)))) fun t =>
          bif (!t) then
            some true
          else
          some false
        else
        none
      else
      none
    else
    none
theorem stp_r21_SameAll_0 (a b : LL) (m k : Nat) (hk : k < a.length) (hn : a.length ≤ maxLen) : G_r21_SameAll_0 a b (m + 1) (k : Int) = (S_r21_SameAll_0 a b (k : Int)).bind fun t => bif t then some true else G_r21_SameAll_0 a b m ((k + 1 : Nat) : Int) := by
  have d1 : (k : Int) < Int.ofNat a.length := by rw [Int.ofNat_eq_natCast]; omega
  have hm : maxLen = 9223372036854775807 := by decide
  have e1 : wr ((k : Int) + 1) = ((k + 1 : Nat) : Int) := wr_next hk (by omega)
  have d2 : (0 : Int) ≤ k := by omega
  simp only [G_r21_SameAll_0, S_r21_SameAll_0, d1, d2, decide_true, cond_true, e1, Int.toNat_natCast, bind_bif, bind_bind, bind_some', cond_false, bind_none']
theorem end_r21_SameAll_0 (a b : LL) (m : Nat) : G_r21_SameAll_0 a b (m + 1) (a.length : Int) = some false := by
  have d1 : ¬ ((a.length : Nat) : Int) < Int.ofNat a.length := by rw [Int.ofNat_eq_natCast]; omega
  simp only [G_r21_SameAll_0, d1, decide_false, cond_false]
theorem run_r21_SameAll_0 (a b : LL) (hn : a.length ≤ maxLen) : G_r21_SameAll_0 a b FU 0 = anyO (fun k => S_r21_SameAll_0 a b (k : Int)) a.length := any_run _ _ _ hn (fun m k hk => stp_r21_SameAll_0 a b m k hk hn) (fun m => end_r21_SameAll_0 a b m)
noncomputable def S_r23_SameCells_0 (a b : LL) (i : Int) : Option Bool :=
    bif (decide ((0 : Int) ≤ i)) then
      Option.bind (a[i.toNat]?) fun r =>
      bif (chk [LT.bool] r) then
        Option.bind (b[i.toNat]?) fun r1 =>
        bif (chk [LT.bool] r1) then
          bif (!((cB r 0) == (cB r1 0))) then
            some true
          else
          some false
        else
        none
      else
      none
    else
    none
theorem stp_r23_SameCells_0 (a b : LL) (m k : Nat) (hk : k < a.length) (hn : a.length ≤ maxLen) : G_r23_SameCells_0 a b (m + 1) (k : Int) = (S_r23_SameCells_0 a b (k : Int)).bind fun t => bif t then some true else G_r23_SameCells_0 a b m ((k + 1 : Nat) : Int) := by
  have d1 : (k : Int) < Int.ofNat a.length := by rw [Int.ofNat_eq_natCast]; omega
  have hm : maxLen = 9223372036854775807 := by decide
  have e1 : wr ((k : Int) + 1) = ((k + 1 : Nat) : Int) := wr_next hk (by omega)
  have d2 : (0 : Int) ≤ k := by omega
  simp only [G_r23_SameCells_0, S_r23_SameCells_0, d1, d2, decide_true, cond_true, e1, Int.toNat_natCast, bind_bif, bind_bind, bind_some', cond_false, bind_none']
theorem end_r23_SameCells_0 (a b : LL) (m : Nat) : G_r23_SameCells_0 a b (m + 1) (a.length : Int) = some false := by
  have d1 : ¬ ((a.length : Nat) : Int) < Int.ofNat a.length := by rw [Int.ofNat_eq_natCast]; omega
  simp only [G_r23_SameCells_0, d1, decide_false, cond_false]
theorem run_r23_SameCells_0 (a b : LL) (hn : a.length ≤ maxLen) : G_r23_SameCells_0 a b FU 0 = anyO (fun k => S_r23_SameCells_0 a b (k : Int)) a.length := any_run _ _ _ hn (fun m k hk => stp_r23_SameCells_0 a b m k hk hn) (fun m => end_r23_SameCells_0 a b m)
noncomputable def S_r23_SameSeen_0 (a b : LL) (i : Int) : Option Bool :=
    bif (decide ((0 : Int) ≤ i)) then
      Option.bind (a[i.toNat]?) fun r =>
      bif (chk y10 r) then
        Option.bind (b[i.toNat]?) fun r1 =>
        bif (chk y10 r1) then
          bif (!(((cI r 0) == (cI r1 0)) && (((cI r 1) == (cI r1 1)) && (((cS r 2) == (cS r1 2)) && ((((cI r 3) == (cI r1 3)) && ((cI r 4) == (cI r1 4))) && ((cI r 5) == (cI r1 5))))))) then
            some true
          else
          some false
        else
        none
      else
      none
    else
    none
theorem stp_r23_SameSeen_0 (a b : LL) (m k : Nat) (hk : k < a.length) (hn : a.length ≤ maxLen) : G_r23_SameSeen_0 a b (m + 1) (k : Int) = (S_r23_SameSeen_0 a b (k : Int)).bind fun t => bif t then some true else G_r23_SameSeen_0 a b m ((k + 1 : Nat) : Int) := by
  have d1 : (k : Int) < Int.ofNat a.length := by rw [Int.ofNat_eq_natCast]; omega
  have hm : maxLen = 9223372036854775807 := by decide
  have e1 : wr ((k : Int) + 1) = ((k + 1 : Nat) : Int) := wr_next hk (by omega)
  have d2 : (0 : Int) ≤ k := by omega
  simp only [G_r23_SameSeen_0, S_r23_SameSeen_0, d1, d2, decide_true, cond_true, e1, Int.toNat_natCast, bind_bif, bind_bind, bind_some', cond_false, bind_none']
theorem end_r23_SameSeen_0 (a b : LL) (m : Nat) : G_r23_SameSeen_0 a b (m + 1) (a.length : Int) = some false := by
  have d1 : ¬ ((a.length : Nat) : Int) < Int.ofNat a.length := by rw [Int.ofNat_eq_natCast]; omega
  simp only [G_r23_SameSeen_0, d1, decide_false, cond_false]
theorem run_r23_SameSeen_0 (a b : LL) (hn : a.length ≤ maxLen) : G_r23_SameSeen_0 a b FU 0 = anyO (fun k => S_r23_SameSeen_0 a b (k : Int)) a.length := any_run _ _ _ hn (fun m k hk => stp_r23_SameSeen_0 a b m k hk hn) (fun m => end_r23_SameSeen_0 a b m)
noncomputable def S_r23_Memories_0 (a b : LL) (i : Int) : Option Bool :=
    bif (decide ((0 : Int) ≤ i)) then
      Option.bind (a[i.toNat]?) fun r =>
      bif (chk y11 r) then
        Option.bind (b[i.toNat]?) fun r1 =>
        bif (chk y11 r1) then
          bif ((cI r 0) != (cI r1 0)) then
            some true
          else
          Option.bind (a[i.toNat]?) fun r2 =>
          bif (chk y11 r2) then
            Option.bind (b[i.toNat]?) fun r3 =>
            bif (chk y11 r3) then
              Option.bind (F_r23_SameCells (roRows (AVal.ro 1 (cR r2 1))) (roRows (AVal.ro 1 (cR r3 1)))) fun t =>
              bif (!t) then
                some true
              else
              Option.bind (a[i.toNat]?) fun r4 =>
              bif (chk y11 r4) then
                Option.bind (b[i.toNat]?) fun r5 =>
                bif (chk y11 r5) then
                  Option.bind (F_r23_SameSeen (roRows (AVal.ro 6 (cR r4 2))) (roRows (AVal.ro 6 (cR r5 2)))) fun t1 =>
                  bif (!t1) then
                    some true
                  else
                  some false
                else
                none
              else
              none
            else
            none
          else
          none
        else
        none
      else
      none
    else
    none
theorem stp_r23_Memories_0 (a b : LL) (m k : Nat) (hk : k < a.length) (hn : a.length ≤ maxLen) : G_r23_Memories_0 a b (m + 1) (k : Int) = (S_r23_Memories_0 a b (k : Int)).bind fun t => bif t then some true else G_r23_Memories_0 a b m ((k + 1 : Nat) : Int) := by
  have d1 : (k : Int) < Int.ofNat a.length := by rw [Int.ofNat_eq_natCast]; omega
  have hm : maxLen = 9223372036854775807 := by decide
  have e1 : wr ((k : Int) + 1) = ((k + 1 : Nat) : Int) := wr_next hk (by omega)
  have d2 : (0 : Int) ≤ k := by omega
  simp only [G_r23_Memories_0, S_r23_Memories_0, d1, d2, decide_true, cond_true, e1, Int.toNat_natCast, bind_bif, bind_bind, bind_some', cond_false, bind_none']
theorem end_r23_Memories_0 (a b : LL) (m : Nat) : G_r23_Memories_0 a b (m + 1) (a.length : Int) = some false := by
  have d1 : ¬ ((a.length : Nat) : Int) < Int.ofNat a.length := by rw [Int.ofNat_eq_natCast]; omega
  simp only [G_r23_Memories_0, d1, decide_false, cond_false]
theorem run_r23_Memories_0 (a b : LL) (hn : a.length ≤ maxLen) : G_r23_Memories_0 a b FU 0 = anyO (fun k => S_r23_Memories_0 a b (k : Int)) a.length := any_run _ _ _ hn (fun m k hk => stp_r23_Memories_0 a b m k hk hn) (fun m => end_r23_Memories_0 a b m)
noncomputable def S_r25_SameCode_0 (b0_0 b1_0 : LL) (i : Int) : Option Bool :=
    bif (decide ((0 : Int) ≤ i)) then
      Option.bind (b0_0[i.toNat]?) fun r =>
      bif (chk y12 r) then
        Option.bind (b1_0[i.toNat]?) fun r1 =>
        bif (chk y12 r1) then
          bif (!(((cS r 0) == (cS r1 0)) && (((cI r 1) == (cI r1 1)) && ((cI r 2) == (cI r1 2))))) then
            some true
          else
          some false
        else
        none
      else
      none
    else
    none
theorem stp_r25_SameCode_0 (b0_0 b1_0 : LL) (m k : Nat) (hk : k < b0_0.length) (hn : b0_0.length ≤ maxLen) : G_r25_SameCode_0 b0_0 b1_0 (m + 1) (k : Int) = (S_r25_SameCode_0 b0_0 b1_0 (k : Int)).bind fun t => bif t then some true else G_r25_SameCode_0 b0_0 b1_0 m ((k + 1 : Nat) : Int) := by
  have d1 : (k : Int) < Int.ofNat b0_0.length := by rw [Int.ofNat_eq_natCast]; omega
  have hm : maxLen = 9223372036854775807 := by decide
  have e1 : wr ((k : Int) + 1) = ((k + 1 : Nat) : Int) := wr_next hk (by omega)
  have d2 : (0 : Int) ≤ k := by omega
  simp only [G_r25_SameCode_0, S_r25_SameCode_0, d1, d2, decide_true, cond_true, e1, Int.toNat_natCast, bind_bif, bind_bind, bind_some', cond_false, bind_none']
theorem end_r25_SameCode_0 (b0_0 b1_0 : LL) (m : Nat) : G_r25_SameCode_0 b0_0 b1_0 (m + 1) (b0_0.length : Int) = some false := by
  have d1 : ¬ ((b0_0.length : Nat) : Int) < Int.ofNat b0_0.length := by rw [Int.ofNat_eq_natCast]; omega
  simp only [G_r25_SameCode_0, d1, decide_false, cond_false]
theorem run_r25_SameCode_0 (b0_0 b1_0 : LL) (hn : b0_0.length ≤ maxLen) : G_r25_SameCode_0 b0_0 b1_0 FU 0 = anyO (fun k => S_r25_SameCode_0 b0_0 b1_0 (k : Int)) b0_0.length := any_run _ _ _ hn (fun m k hk => stp_r25_SameCode_0 b0_0 b1_0 m k hk hn) (fun m => end_r25_SameCode_0 b0_0 b1_0 m)
noncomputable def S_r25_SameCode_1 (b0_1 b1_1 : LL) (i : Int) : Option Bool :=
    bif (decide ((0 : Int) ≤ i)) then
      Option.bind (b0_1[i.toNat]?) fun r =>
      bif (chk y13 r) then
        Option.bind (b1_1[i.toNat]?) fun r1 =>
        bif (chk y13 r1) then
          bif (!(((cI r 0) == (cI r1 0)) && (((cI r 1) == (cI r1 1)) && (((cI r 2) == (cI r1 2)) && ((cS r 3) == (cS r1 3)))))) then
            some true
          else
          some false
        else
        none
      else
      none
    else
    none
theorem stp_r25_SameCode_1 (b0_1 b1_1 : LL) (m k : Nat) (hk : k < b0_1.length) (hn : b0_1.length ≤ maxLen) : G_r25_SameCode_1 b0_1 b1_1 (m + 1) (k : Int) = (S_r25_SameCode_1 b0_1 b1_1 (k : Int)).bind fun t => bif t then some true else G_r25_SameCode_1 b0_1 b1_1 m ((k + 1 : Nat) : Int) := by
  have d1 : (k : Int) < Int.ofNat b0_1.length := by rw [Int.ofNat_eq_natCast]; omega
  have hm : maxLen = 9223372036854775807 := by decide
  have e1 : wr ((k : Int) + 1) = ((k + 1 : Nat) : Int) := wr_next hk (by omega)
  have d2 : (0 : Int) ≤ k := by omega
  simp only [G_r25_SameCode_1, S_r25_SameCode_1, d1, d2, decide_true, cond_true, e1, Int.toNat_natCast, bind_bif, bind_bind, bind_some', cond_false, bind_none']
theorem end_r25_SameCode_1 (b0_1 b1_1 : LL) (m : Nat) : G_r25_SameCode_1 b0_1 b1_1 (m + 1) (b0_1.length : Int) = some false := by
  have d1 : ¬ ((b0_1.length : Nat) : Int) < Int.ofNat b0_1.length := by rw [Int.ofNat_eq_natCast]; omega
  simp only [G_r25_SameCode_1, d1, decide_false, cond_false]
theorem run_r25_SameCode_1 (b0_1 b1_1 : LL) (hn : b0_1.length ≤ maxLen) : G_r25_SameCode_1 b0_1 b1_1 FU 0 = anyO (fun k => S_r25_SameCode_1 b0_1 b1_1 (k : Int)) b0_1.length := any_run _ _ _ hn (fun m k hk => stp_r25_SameCode_1 b0_1 b1_1 m k hk hn) (fun m => end_r25_SameCode_1 b0_1 b1_1 m)
noncomputable def S_r25_sameNumbers_0 (a b : LL) (i : Int) : Option Bool :=
    bif (decide ((0 : Int) ≤ i)) then
      Option.bind (a[i.toNat]?) fun r =>
      bif (chk [(LT.int IntKind.i64)] r) then
        Option.bind (b[i.toNat]?) fun r1 =>
        bif (chk [(LT.int IntKind.i64)] r1) then
          bif ((cI r 0) != (cI r1 0)) then
            some true
          else
          some false
        else
        none
      else
      none
    else
    none
theorem stp_r25_sameNumbers_0 (a b : LL) (m k : Nat) (hk : k < a.length) (hn : a.length ≤ maxLen) : G_r25_sameNumbers_0 a b (m + 1) (k : Int) = (S_r25_sameNumbers_0 a b (k : Int)).bind fun t => bif t then some true else G_r25_sameNumbers_0 a b m ((k + 1 : Nat) : Int) := by
  have d1 : (k : Int) < Int.ofNat a.length := by rw [Int.ofNat_eq_natCast]; omega
  have hm : maxLen = 9223372036854775807 := by decide
  have e1 : wr ((k : Int) + 1) = ((k + 1 : Nat) : Int) := wr_next hk (by omega)
  have d2 : (0 : Int) ≤ k := by omega
  simp only [G_r25_sameNumbers_0, S_r25_sameNumbers_0, d1, d2, decide_true, cond_true, e1, Int.toNat_natCast, bind_bif, bind_bind, bind_some', cond_false, bind_none']
theorem end_r25_sameNumbers_0 (a b : LL) (m : Nat) : G_r25_sameNumbers_0 a b (m + 1) (a.length : Int) = some false := by
  have d1 : ¬ ((a.length : Nat) : Int) < Int.ofNat a.length := by rw [Int.ofNat_eq_natCast]; omega
  simp only [G_r25_sameNumbers_0, d1, decide_false, cond_false]
theorem run_r25_sameNumbers_0 (a b : LL) (hn : a.length ≤ maxLen) : G_r25_sameNumbers_0 a b FU 0 = anyO (fun k => S_r25_sameNumbers_0 a b (k : Int)) a.length := any_run _ _ _ hn (fun m k hk => stp_r25_sameNumbers_0 a b m k hk hn) (fun m => end_r25_sameNumbers_0 a b m)
noncomputable def S_r25_SameTasks_0 (a b : LL) (i : Int) : Option Bool :=
    bif (decide ((0 : Int) ≤ i)) then
      Option.bind (a[i.toNat]?) fun r =>
      bif (chk y14 r) then
        Option.bind (b[i.toNat]?) fun r1 =>
        bif (chk y14 r1) then
          bif ((cI r 0) != (cI r1 0)) then
            some true
          else
          bif ((cI r 1) != (cI r1 1)) then
            some true
          else
          bif ((cI r 2) != (cI r1 2)) then
            some true
          else
          Option.bind (F_r25_sameNumbers (roRows (AVal.ro 1 (cR r 3))) (roRows (AVal.ro 1 (cR r1 3)))) fun t =>
          bif (!t) then
            some true
          else
          Option.bind (F_r25_sameNumbers (roRows (AVal.ro 1 (cR r 4))) (roRows (AVal.ro 1 (cR r1 4)))) fun t1 =>
          bif (!t1) then
            some true
          else
          some false
        else
        none
      else
      none
    else
    none
theorem stp_r25_SameTasks_0 (a b : LL) (m k : Nat) (hk : k < a.length) (hn : a.length ≤ maxLen) : G_r25_SameTasks_0 a b (m + 1) (k : Int) = (S_r25_SameTasks_0 a b (k : Int)).bind fun t => bif t then some true else G_r25_SameTasks_0 a b m ((k + 1 : Nat) : Int) := by
  have d1 : (k : Int) < Int.ofNat a.length := by rw [Int.ofNat_eq_natCast]; omega
  have hm : maxLen = 9223372036854775807 := by decide
  have e1 : wr ((k : Int) + 1) = ((k + 1 : Nat) : Int) := wr_next hk (by omega)
  have d2 : (0 : Int) ≤ k := by omega
  simp only [G_r25_SameTasks_0, S_r25_SameTasks_0, d1, d2, decide_true, cond_true, e1, Int.toNat_natCast, bind_bif, bind_bind, bind_some', cond_false, bind_none']
theorem end_r25_SameTasks_0 (a b : LL) (m : Nat) : G_r25_SameTasks_0 a b (m + 1) (a.length : Int) = some false := by
  have d1 : ¬ ((a.length : Nat) : Int) < Int.ofNat a.length := by rw [Int.ofNat_eq_natCast]; omega
  simp only [G_r25_SameTasks_0, d1, decide_false, cond_false]
theorem run_r25_SameTasks_0 (a b : LL) (hn : a.length ≤ maxLen) : G_r25_SameTasks_0 a b FU 0 = anyO (fun k => S_r25_SameTasks_0 a b (k : Int)) a.length := any_run _ _ _ hn (fun m k hk => stp_r25_SameTasks_0 a b m k hk hn) (fun m => end_r25_SameTasks_0 a b m)
noncomputable def S_r25_SameScripts_0 (a b : LL) (i : Int) : Option Bool :=
    bif (decide ((0 : Int) ≤ i)) then
      Option.bind (a[i.toNat]?) fun r =>
      bif (chk y15 r) then
        Option.bind (b[i.toNat]?) fun r1 =>
        bif (chk y15 r1) then
          bif ((cI r 0) != (cI r1 0)) then
            some true
          else
          Option.bind (a[i.toNat]?) fun r2 =>
          bif (chk y15 r2) then
            Option.bind (b[i.toNat]?) fun r3 =>
            bif (chk y15 r3) then
              Option.bind (F_r25_SameCode (roRows (AVal.ro 3 (cR r2 1))) (roRows (AVal.ro 4 (cR r2 2))) (roRows (AVal.ro 3 (cR r3 1))) (roRows (AVal.ro 4 (cR r3 2)))) fun t =>
              bif (!t) then
                some true
              else
              Option.bind (a[i.toNat]?) fun r4 =>
              bif (chk y15 r4) then
                Option.bind (b[i.toNat]?) fun r5 =>
                bif (chk y15 r5) then
                  Option.bind (F_r25_SameTasks (roRows (AVal.ro 5 (cR r4 3))) (roRows (AVal.ro 5 (cR r5 3)))) fun t1 =>
                  bif (!t1) then
                    some true
                  else
                  some false
                else
                none
              else
              none
            else
            none
          else
          none
        else
        none
      else
      none
    else
    none
theorem stp_r25_SameScripts_0 (a b : LL) (m k : Nat) (hk : k < a.length) (hn : a.length ≤ maxLen) : G_r25_SameScripts_0 a b (m + 1) (k : Int) = (S_r25_SameScripts_0 a b (k : Int)).bind fun t => bif t then some true else G_r25_SameScripts_0 a b m ((k + 1 : Nat) : Int) := by
  have d1 : (k : Int) < Int.ofNat a.length := by rw [Int.ofNat_eq_natCast]; omega
  have hm : maxLen = 9223372036854775807 := by decide
  have e1 : wr ((k : Int) + 1) = ((k + 1 : Nat) : Int) := wr_next hk (by omega)
  have d2 : (0 : Int) ≤ k := by omega
  simp only [G_r25_SameScripts_0, S_r25_SameScripts_0, d1, d2, decide_true, cond_true, e1, Int.toNat_natCast, bind_bif, bind_bind, bind_some', cond_false, bind_none']
theorem end_r25_SameScripts_0 (a b : LL) (m : Nat) : G_r25_SameScripts_0 a b (m + 1) (a.length : Int) = some false := by
  have d1 : ¬ ((a.length : Nat) : Int) < Int.ofNat a.length := by rw [Int.ofNat_eq_natCast]; omega
  simp only [G_r25_SameScripts_0, d1, decide_false, cond_false]
theorem run_r25_SameScripts_0 (a b : LL) (hn : a.length ≤ maxLen) : G_r25_SameScripts_0 a b FU 0 = anyO (fun k => S_r25_SameScripts_0 a b (k : Int)) a.length := any_run _ _ _ hn (fun m k hk => stp_r25_SameScripts_0 a b m k hk hn) (fun m => end_r25_SameScripts_0 a b m)
noncomputable def S_r25_SameGame_0 (b0_13 b1_13 : LL) (i : Int) : Option Bool :=
    bif (decide ((0 : Int) ≤ i)) then
      Option.bind (b0_13[i.toNat]?) fun r =>
      bif (chk y16 r) then
        Option.bind (b1_13[i.toNat]?) fun r1 =>
        bif (chk y16 r1) then
          bif (!(((cI r 0) == (cI r1 0)) && (((cI r 1) == (cI r1 1)) && (((cI r 2) == (cI r1 2)) && (((cS r 3) == (cS r1 3)) && (((cI r 4) == (cI r1 4)) && ((((cI r 5) == (cI r1 5)) && ((cI r 6) == (cI r1 6))) && (((cI r 7) == (cI r1 7)) && ((cI r 8) == (cI r1 8)))))))))) then
            some true
          else
          some false
        else
        none
      else
      none
    else
    none
theorem stp_r25_SameGame_0 (b0_13 b1_13 : LL) (m k : Nat) (hk : k < b0_13.length) (hn : b0_13.length ≤ maxLen) : G_r25_SameGame_0 b0_13 b1_13 (m + 1) (k : Int) = (S_r25_SameGame_0 b0_13 b1_13 (k : Int)).bind fun t => bif t then some true else G_r25_SameGame_0 b0_13 b1_13 m ((k + 1 : Nat) : Int) := by
  have d1 : (k : Int) < Int.ofNat b0_13.length := by rw [Int.ofNat_eq_natCast]; omega
  have hm : maxLen = 9223372036854775807 := by decide
  have e1 : wr ((k : Int) + 1) = ((k + 1 : Nat) : Int) := wr_next hk (by omega)
  have d2 : (0 : Int) ≤ k := by omega
  simp only [G_r25_SameGame_0, S_r25_SameGame_0, d1, d2, decide_true, cond_true, e1, Int.toNat_natCast, bind_bif, bind_bind, bind_some', cond_false, bind_none']
theorem end_r25_SameGame_0 (b0_13 b1_13 : LL) (m : Nat) : G_r25_SameGame_0 b0_13 b1_13 (m + 1) (b0_13.length : Int) = some false := by
  have d1 : ¬ ((b0_13.length : Nat) : Int) < Int.ofNat b0_13.length := by rw [Int.ofNat_eq_natCast]; omega
  simp only [G_r25_SameGame_0, d1, decide_false, cond_false]
theorem run_r25_SameGame_0 (b0_13 b1_13 : LL) (hn : b0_13.length ≤ maxLen) : G_r25_SameGame_0 b0_13 b1_13 FU 0 = anyO (fun k => S_r25_SameGame_0 b0_13 b1_13 (k : Int)) b0_13.length := any_run _ _ _ hn (fun m k hk => stp_r25_SameGame_0 b0_13 b1_13 m k hk hn) (fun m => end_r25_SameGame_0 b0_13 b1_13 m)
abbrev ordT : List LT := y4
abbrev jobT : List LT := y5
abbrev bodT : List LT := y8
abbrev TyOrders (l : LL) : Prop := Ty Tryz.prog (.sl 104 5) (.ro 5 l)
abbrev TyJobs (l : LL) : Prop := Ty Tryz.prog (.sl 163 3) (.ro 3 l)
theorem okOrders {l : LL} (h : TyOrders l) : okR ordT l := okR_of (by kernel_rfl) h
theorem okJobs {l : LL} (h : TyJobs l) : okR jobT l := okR_of (by kernel_rfl) h
theorem ord_row {us : LL} {q : List AVal} (h : TyOrders us) (hq : q ∈ us) : TyL Tryz.prog ordT q := by
  have := (ty_rows h).2.1 q hq
  rwa [show leafOf Tryz.prog 8 104 = ordT by kernel_rfl] at this
theorem guard_iff {c : Bool} {y : Option Bool} : (bif c then some false else y) = some true ↔ c = false ∧ y = some true := by cases c <;> simp
theorem bindf_iff {x y : Option Bool} : (x.bind fun t => bif t then some false else y) = some true ↔ x = some false ∧ y = some true := by
  cases x with
  | none => simp
  | some t => cases t <;> simp
theorem bindn_iff {x y : Option Bool} : (x.bind fun t => bif (!t) then some false else y) = some true ↔ x = some true ∧ y = some true := by
  cases x with
  | none => simp
  | some t => cases t <;> simp
theorem bindz_iff {x : Option Int} {y : Option Bool} : (x.bind fun t => bif (t != (0 : Int)) then some false else y) = some true ↔ x = some 0 ∧ y = some true := by
  cases x with
  | none => simp
  | some t =>
    by_cases h : t = 0
    · subst h; simp
    · have : (t != 0) = true := by simpa using h
      simp [this, h]
theorem guardI_iff {n : Int} (hn : n ≠ 0) {c : Bool} {y : Option Int} : (bif c then some n else y) = some 0 ↔ c = false ∧ y = some 0 := by cases c <;> simp [hn]
theorem bindI_iff {n : Int} (hn : n ≠ 0) {x : Option Bool} {y : Option Int} : (x.bind fun t => bif t then some n else y) = some 0 ↔ x = some false ∧ y = some 0 := by
  cases x with
  | none => simp
  | some t => cases t <;> simp [hn]
theorem bindnI_iff {n : Int} (hn : n ≠ 0) {x : Option Bool} {y : Option Int} : (x.bind fun t => bif (!t) then some n else y) = some 0 ↔ x = some true ∧ y = some 0 := by
  cases x with
  | none => simp
  | some t => cases t <;> simp [hn]
theorem guard_s {T : Type} {c : Bool} {x y : Option T} (hx : c = true → ∃ b, x = some b) (hy : c = false → ∃ b, y = some b) : ∃ b, (bif c then x else y) = some b := by
  cases c
  · exact hy rfl
  · exact hx rfl
theorem bind_s {α T : Type} {x : Option α} {f : α → Option T} (hx : ∃ a, x = some a) (hf : ∀ a, x = some a → ∃ b, f a = some b) : ∃ b, x.bind f = some b := by
  obtain ⟨a, rfl⟩ := hx
  exact hf a rfl
theorem st21_v (n : Int) : F_r21_stat n = some (decide (n ≥ 0) && decide (n ≤ 100000)) := by
  simp only [F_r21_stat]
  cases decide (n ≥ 0) <;> rfl
theorem ov_s (k x y t : Int) (n : ByteArray) (hn : n.size ≤ reachBytes) : ∃ b, F_r20_Valid k x y t n = some b := by
  obtain ⟨b, hb, _⟩ := name_s n hn
  simp only [F_r20_Valid, Valid_w, Option.bind_some, hb]
  repeat' first | exact ⟨_, rfl⟩ | refine guard_s (fun _ => ?_) (fun _ => ?_)
noncomputable def ovR (r : List AVal) : Option Bool := F_r20_Valid (cI r 0) (cI r 1) (cI r 2) (cI r 3) (cS r 4)
theorem ovR_def (r : List AVal) : ovR r = F_r20_Valid (cI r 0) (cI r 1) (cI r 2) (cI r 3) (cS r 4) := rfl
theorem ovR_s {r : List AVal} (h : TyL Tryz.prog ordT r) : ∃ b, ovR r = some b := ov_s _ _ _ _ _ (tyL_str h (j := 4) rfl)
theorem S_n0 {l : LL} (h : okR ordT l) {k : Nat} (hk : k < l.length) : S_r21_numbers_0 l (k : Int) = (ovR (l.getD k [])).bind fun t => some (!t) := by
  obtain ⟨q1, q2, q3⟩ := okR_get h hk
  have d2 : (0 : Int) ≤ k := by omega
  simp only [S_r21_numbers_0, d2, decide_true, cond_true, Int.toNat_natCast, q1, q2, Option.bind_some, ← ovR_def]
  cases ovR (l.getD k []) with
  | none => rfl
  | some b => cases b <;> rfl
theorem n0_s {l : LL} (h : TyOrders l) : ∃ b, G_r21_numbers_0 l FU 0 = some b := by
  rw [run_r21_numbers_0 _ (ty_rows h).1]
  refine anyO_some fun k hk => ?_
  rw [S_n0 (okOrders h) hk]
  obtain ⟨b, hb⟩ := ovR_s (ord_row h (okR_get (okOrders h) hk).2.2)
  rw [hb]
  exact ⟨_, rfl⟩
theorem n1_s {l : LL} (h : TyJobs l) : ∃ b, G_r21_numbers_1 l FU 0 = some b := by
  rw [run_r21_numbers_1 _ (ty_rows h).1]
  refine anyO_some fun k hk => ?_
  obtain ⟨q1, q2, q3⟩ := okR_get (okJobs h) hk
  have d2 : (0 : Int) ≤ k := by omega
  simp only [S_r21_numbers_1, d2, decide_true, cond_true, Int.toNat_natCast, q1, q2, Option.bind_some, st21_v]
  repeat' first | exact ⟨_, rfl⟩ | refine guard_s (fun _ => ?_) (fun _ => ?_)
theorem nm_iff (a b : Int) (c : ByteArray) (x y hp co le o w : Int) (os js : LL) : F_r21_numbers a b c x y hp co le o w os js = some true ↔
    ((x == nr x) && (y == nr y)) = true ∧ (1 ≤ hp ∧ hp ≤ 100000) ∧ (0 ≤ co ∧ co ≤ 100000) ∧ (0 ≤ le ∧ le ≤ 100000) ∧ (0 ≤ o ∧ o ≤ 100000) ∧ (0 ≤ w ∧ w ≤ 100000) ∧ os.length ≤ 8 ∧ js.length ≤ 5 ∧
    G_r21_numbers_0 os FU 0 = some false ∧ G_r21_numbers_1 js FU 0 = some false := by
  simp only [F_r21_numbers, Valid_w, st21_v, Option.bind_some, guard_iff, bindf_iff, Bool.not_eq_false', decide_eq_false_iff_not, Bool.and_eq_true, decide_eq_true_eq, Int.ofNat_eq_natCast]
  constructor
  · rintro ⟨h1, h2, h3, h4, h5, h6, h7, h8, h9, h10, h11, _⟩
    exact ⟨h1, by omega, by omega, by omega, by omega, by omega, by omega, by omega, h10, h11⟩
  · rintro ⟨h1, h2, h3, h4, h5, h6, h7, h8, h9, h10⟩
    exact ⟨h1, by omega, by omega, by omega, by omega, by omega, by omega, by omega, by omega, h9, h10, trivial⟩
theorem nm_s (a b : Int) (c : ByteArray) (x y hp co le o w : Int) {os js : LL} (h1 : TyOrders os) (h2 : TyJobs js) : ∃ t, F_r21_numbers a b c x y hp co le o w os js = some t := by
  obtain ⟨t1, e1⟩ := n0_s h1
  obtain ⟨t2, e2⟩ := n1_s h2
  simp only [F_r21_numbers, Valid_w, st21_v, Option.bind_some, e1, e2]
  repeat' first | exact ⟨_, rfl⟩ | refine guard_s (fun _ => ?_) (fun _ => ?_)
noncomputable def nmR (r : List AVal) : Option Bool := F_r21_numbers (cI r 0) (cI r 1) (cS r 2) (cI r 3) (cI r 4) (cI r 5) (cI r 6) (cI r 7) (cI r 8) (cI r 9) (cR r 10) (cR r 11)
theorem nmR_def (r : List AVal) : nmR r = F_r21_numbers (cI r 0) (cI r 1) (cS r 2) (cI r 3) (cI r 4) (cI r 5) (cI r 6) (cI r 7) (cI r 8) (cI r 9) (cR r 10) (cR r 11) := rfl
theorem nmR_s {r : List AVal} (h : TyL Tryz.prog entT r) : ∃ t, nmR r = some t := nm_s _ _ _ _ _ _ _ _ _ _ (tyL_sl h (j := 10) rfl) (tyL_sl h (j := 11) rfl)
def prevId (es : LL) : Nat → Int
  | 0 => 0
  | j + 1 => cI (es.getD j []) 0
noncomputable def fmP (nx : Int) (es : LL) (j : Nat) : Option Bool :=
  bif decide (cI (es.getD j []) 0 ≤ prevId es j) then some true else bif decide (cI (es.getD j []) 0 ≥ nx) then some true else (nmR (es.getD j [])).bind fun t => some (!t)
theorem formed_run (nx : Int) {es : LL} (h : TyEnts es) : G_r21_formed_0 nx es FU 0 0 = anyO (fmP nx es) es.length := by
  have hm : maxLen = 9223372036854775807 := by decide
  have hl := (ty_rows h).1
  have key : ∀ (r m k : Nat), k + r = es.length → r < m → G_r21_formed_0 nx es m (prevId es k) (k : Int) = anyF (fmP nx es) r k := by
    intro r
    induction r with
    | zero =>
      intro m k e1 e2
      obtain ⟨m, rfl⟩ : ∃ q, m = q + 1 := ⟨m - 1, by omega⟩
      obtain rfl : k = es.length := by omega
      have d1 : ¬ (es.length : Int) < es.length := by omega
      simp only [G_r21_formed_0, Int.ofNat_eq_natCast, d1, decide_false, cond_false]
      rfl
    | succ r ih =>
      intro m k e1 e2
      obtain ⟨m, rfl⟩ : ∃ q, m = q + 1 := ⟨m - 1, by omega⟩
      have hk : k < es.length := by omega
      obtain ⟨q1, q2, q3⟩ := okR_get (okEnts h) hk
      have d1 : (k : Int) < es.length := by omega
      have d2 : (0 : Int) ≤ k := by omega
      have ih' := ih m (k + 1) (by omega) (by omega)
      have hp : prevId es (k + 1) = cI (es.getD k []) 0 := rfl
      rw [hp] at ih'
      simp only [G_r21_formed_0, Int.ofNat_eq_natCast, d1, d2, decide_true, cond_true, Int.toNat_natCast, q1, q2, Option.bind_some, wr_next hk (by omega), roRows, ← nmR_def, ih']
      show _ = (fmP nx es k).bind fun t => bif t then some true else anyF (fmP nx es) r (k + 1)
      unfold fmP
      cases decide (cI (es.getD k []) 0 ≤ prevId es k) with
      | true => rfl
      | false =>
        cases decide (cI (es.getD k []) 0 ≥ nx) with
        | true => rfl
        | false =>
          simp only [cond_false]
          cases nmR (es.getD k []) with
          | none => rfl
          | some b => cases b <;> rfl
  exact key es.length FU 0 (by omega) (by unfold FU; omega)
theorem fmP_iff {nx : Int} {es : LL} {j : Nat} : fmP nx es j = some false ↔ prevId es j < cI (es.getD j []) 0 ∧ cI (es.getD j []) 0 < nx ∧ nmR (es.getD j []) = some true := by
  unfold fmP
  by_cases h1 : cI (es.getD j []) 0 ≤ prevId es j
  · simp only [h1, decide_true, cond_true]
    constructor
    · intro h; cases h
    · rintro ⟨h, _⟩; omega
  by_cases h2 : cI (es.getD j []) 0 ≥ nx
  · simp only [h1, h2, decide_true, decide_false, cond_true, cond_false]
    constructor
    · intro h; cases h
    · rintro ⟨_, h, _⟩; omega
  simp only [h1, h2, decide_false, cond_false]
  cases nmR (es.getD j []) with
  | none => simp
  | some b =>
    cases b with
    | false => exact ⟨fun h => (by cases h), fun h => (by cases h.2.2)⟩
    | true => exact ⟨fun _ => ⟨by omega, by omega, rfl⟩, fun _ => rfl⟩
theorem fmP_s {nx : Int} {es : LL} (h : TyEnts es) {j : Nat} (hj : j < es.length) : ∃ b, fmP nx es j = some b := by
  obtain ⟨t, ht⟩ := nmR_s (ent_row h (okR_get (okEnts h) hj).2.2)
  unfold fmP
  rw [ht]
  repeat' first | exact ⟨_, rfl⟩ | refine guard_s (fun _ => ?_) (fun _ => ?_)
def isP (id : Int) (r : List AVal) : Bool := cI r 0 == id
theorem isP_def (id : Int) (r : List AVal) : isP id r = (cI r 0 == id) := rfl
theorem player_v (id : Int) {ps : LL} (h : okR plT ps) (hn : ps.length ≤ maxLen) : G_r21_player_0 id ps FU 0 = anyO (fun k => some (isP id (ps.getD k []))) ps.length := by
  rw [run_r21_player_0 _ _ hn]
  refine anyO_congr fun k hk => ?_
  obtain ⟨q1, q2, q3⟩ := okR_get h hk
  have d2 : (0 : Int) ≤ k := by omega
  simp only [S_r21_player_0, d2, decide_true, cond_true, Int.toNat_natCast, q1, q2, Option.bind_some, ← isP_def]
  cases isP id (ps.getD k []) <;> rfl
theorem named0_s (us ws ts : LL) {js : LL} (h1 : TyUnits us) (h3 : TyTechs ts) (h : TyJobs js) : ∃ b, G_r21_named_0 us ws ts js FU 0 = some b := by
  rw [run_r21_named_0 _ _ _ _ (ty_rows h).1]
  refine anyO_some fun k hk => ?_
  obtain ⟨q1, q2, q3⟩ := okR_get (okJobs h) hk
  have d2 : (0 : Int) ≤ k := by omega
  obtain ⟨t, ht, _⟩ := tech_s us ws ts (cS (js.getD k []) 2) h3
  simp only [S_r21_named_0, d2, decide_true, cond_true, Int.toNat_natCast, q1, q2, Option.bind_some, unit_r us ws ts _ h1, ht]
  repeat' first | exact ⟨_, rfl⟩ | refine guard_s (fun _ => ?_) (fun _ => ?_)
theorem cell_r (x : Int) (h1 : -9223372036854775808 ≤ x) (h2 : x ≤ 9223372036854775807) : F_r01_Cell x = some (x / 256) := by
  have t1 : x.tdiv 256 = if 0 ≤ x then x / 256 else -((-x) / 256) := by
    split
    · rename_i h; exact Int.tdiv_eq_ediv_of_nonneg h
    · rename_i h
      have : (-x).tdiv 256 = (-x) / 256 := Int.tdiv_eq_ediv_of_nonneg (by omega)
      rw [Int.neg_tdiv] at this
      omega
  have t2 : x.tmod 256 = x - 256 * x.tdiv 256 := Int.tmod_def x 256
  have w1 : wr (x.tdiv 256) = x.tdiv 256 := wr_in (by split at t1 <;> omega) (by split at t1 <;> omega)
  have w2 : wr (x.tdiv 256 - 1) = x.tdiv 256 - 1 := wr_in (by split at t1 <;> omega) (by split at t1 <;> omega)
  have e0 : ((256 : Int) == 0) = false := by decide
  have e1 : ((256 : Int) == -1) = false := by decide
  have e2 : decide ((256 : Int) < 0) = false := by decide
  simp only [F_r01_Cell, F_r01_Div, e0, e1, e2, cond_false, w1, w2]
  have fin : (bif (x.tmod 256 != 0) then (bif (!(decide (x.tmod 256 < 0) == false)) then some (x.tdiv 256 - 1, (0 : Int)) else some (x.tdiv 256, 0)) else some (x.tdiv 256, 0)) = some (x / 256, 0) := by
    by_cases h0 : x.tmod 256 = 0
    · have : (x.tmod 256 != 0) = false := by simp [h0]
      simp only [this, cond_false]
      congr 2
      split at t1 <;> omega
    · have : (x.tmod 256 != 0) = true := by simpa using h0
      simp only [this, cond_true]
      by_cases hn : x.tmod 256 < 0
      · simp only [hn, decide_true, Bool.true_eq_false, beq_eq_false_iff_ne, ne_eq, not_false_eq_true, show (true == false) = false by rfl, Bool.not_false, cond_true]
        congr 2
        split at t1 <;> omega
      · simp only [hn, decide_false, show (false == false) = true by rfl, Bool.not_true, cond_false]
        congr 2
        split at t1 <;> omega
  cases hb : (x == -9223372036854775808) <;> simp only [cond_true, cond_false, fin, Option.bind_some]
theorem cell_g (x : Int) : F_num_Cell x = some (x / 256) := by
  have e : (2 : Int) ^ (Min.min (8 : Int).toNat 64) = 256 := by decide
  simp only [F_num_Cell, e]
  rw [Int.fdiv_eq_ediv_of_nonneg _ (by omega)]
theorem nr_rng (n : Int) : -9223372036854775808 ≤ nr n ∧ nr n ≤ 9223372036854775807 := by have := nr_in n; omega
def rcV (us : LL) (t : ByteArray) (x y : Int) : Int × Int × Int × Int × Bool :=
  let u := uV us t
  if u.2.2.2.2.2.2.2.2.2.2.2.2.2.2.2.2.2.2.2 = true ∧ u.2.1 = true ∧ (1 ≤ u.2.2.2.2.1 ∧ u.2.2.2.2.1 ≤ 4) ∧ (1 ≤ u.2.2.2.2.2.1 ∧ u.2.2.2.2.2.1 ≤ 4) then
    (nr (nr x - nr (wr (Int.tdiv (wr (u.2.2.2.2.1 * 256)) 2))) / 256, nr (nr y - nr (wr (Int.tdiv (wr (u.2.2.2.2.2.1 * 256)) 2))) / 256, u.2.2.2.2.1, u.2.2.2.2.2.1, true)
  else (0, 0, 0, 0, false)
theorem rect_r (us ws ts : LL) (h1 : TyUnits us) (a b : Int) (t : ByteArray) (x y c d e f g : Int) (os js : LL) : F_r21_Rect us ws ts a b t x y c d e f g os js = some (rcV us t x y) := by
  simp only [F_r21_Rect, unit_r us ws ts t h1, Option.bind_some, Sub_w, F_r21_Cell, cell_r _ (nr_rng _).1 (nr_rng _).2]
  unfold rcV
  generalize uV us t = u
  obtain ⟨n, bl, dp, cl, w, h, rest⟩ := u
  simp only
  cases rest.2.2.2.2.2.2.2.2.2.2.2.2.2 with
  | false => simp
  | true =>
  cases bl with
  | false => simp
  | true =>
  by_cases c1 : w < 1
  · have : ¬ 1 ≤ w := by omega
    simp [c1, this]
  by_cases c2 : w > 4
  · have : ¬ w ≤ 4 := by omega
    simp [c1, c2, this]
  by_cases c3 : h < 1
  · have : ¬ 1 ≤ h := by omega
    simp [c1, c2, c3, this]
  by_cases c4 : h > 4
  · have : ¬ h ≤ 4 := by omega
    simp [c1, c2, c3, c4, this]
  have d1 : 1 ≤ w := by omega
  have d2 : w ≤ 4 := by omega
  have d3 : 1 ≤ h := by omega
  have d4 : h ≤ 4 := by omega
  simp only [c1, c2, c3, c4, d1, d2, d3, d4, decide_false, cond_false, Bool.not_true, and_self, if_true]
theorem rect_g (us ws ts : LL) (h1 : TyUnits us) (a b : Int) (t : ByteArray) (x y c d e f g : Int) (os js : LL) : F_entity_Rect us ws ts a b t x y c d e f g os js = some (rcV us t x y) := by
  simp only [F_entity_Rect, rules_unit us ws ts t h1, Option.bind_some, F_entity_corner, Sub_v, F_entity_cell, cell_g]
  unfold rcV
  generalize uV us t = u
  obtain ⟨n, bl, dp, cl, w, h, r, sp, si, hp, ar, lo, we, ore, wo, ti, ne, tr, re, ok⟩ := u
  simp only [gOf]
  cases ok with
  | false => simp
  | true =>
  cases bl with
  | false => simp
  | true =>
  by_cases c1 : w < 1
  · have : ¬ 1 ≤ w := by omega
    simp [c1, this]
  by_cases c2 : w > 4
  · have : ¬ w ≤ 4 := by omega
    simp [c1, c2, this]
  by_cases c3 : h < 1
  · have : ¬ 1 ≤ h := by omega
    simp [c1, c2, c3, this]
  by_cases c4 : h > 4
  · have : ¬ h ≤ 4 := by omega
    simp [c1, c2, c3, c4, this]
  have d1 : 1 ≤ w := by omega
  have d2 : w ≤ 4 := by omega
  have d3 : 1 ≤ h := by omega
  have d4 : h ≤ 4 := by omega
  simp only [c1, c2, c3, c4, d1, d2, d3, d4, decide_false, cond_false, Bool.not_true, and_self, if_true]
theorem meet_s (a b c d e f g h : Int) : ∃ t, F_r06_Meet a b c d e f g h = some t := by
  simp only [F_r06_Meet, F_r06_rect, near_r, Option.bind_some, F_r06_common]
  refine bind_s ?_ fun _ _ => ⟨_, rfl⟩
  repeat' first | exact ⟨_, rfl⟩ | refine guard_s (fun _ => ?_) (fun _ => ?_)
theorem clip_s (a b c d e f : Int) : ∃ t, F_r06_Clip a b c d e f = some t := by
  simp only [F_r06_Clip, F_r06_rect, near_r, Option.bind_some, F_r06_common]
  refine bind_s ?_ fun _ _ => ⟨_, rfl⟩
  repeat' first | exact ⟨_, rfl⟩ | refine guard_s (fun _ => ?_) (fun _ => ?_)
theorem inr_s (a b c d e f : Int) : ∃ t, F_r06_Inside a b c d e f = some t := by
  simp only [F_r06_Inside, F_r06_rect, pos_r, near_r, Option.bind_some]
  repeat' first | exact ⟨_, rfl⟩ | refine guard_s (fun _ => ?_) (fun _ => ?_)
noncomputable def plP (bl : Bool) (us es : LL) (id x y : Int) (rx ry rw rh cl : Int) (k : Nat) : Option Bool :=
  let r := es.getD k []
  let t := rcV us (cS r 2) (cI r 3) (cI r 4)
  bif !t.2.2.2.2 then some false else bif cI r 0 == id then some false else bif bl then F_r06_Meet rx ry rw rh t.1 t.2.1 t.2.2.1 t.2.2.2.1
  else bif cl != 3 then F_r06_Inside t.1 t.2.1 t.2.2.1 t.2.2.2.1 (x / 256) (y / 256) else some false
theorem bid {x : Option Bool} : (x.bind fun t => bif t then some true else some false) = x := by
  cases x with
  | none => rfl
  | some b => cases b <;> rfl
theorem placed_run (bl : Bool) (us ws ts : LL) {es : LL} (h1 : TyUnits us) (h : TyEnts es) (id x y rx ry rw rh cl : Int) (hx : -9223372036854775808 ≤ x ∧ x ≤ 9223372036854775807) (hy : -9223372036854775808 ≤ y ∧ y ≤ 9223372036854775807) :
    G_r21_placed_0 bl us ws ts es id x y rx ry rw rh cl FU 0 = anyO (plP bl us es id x y rx ry rw rh cl) es.length := by
  rw [run_r21_placed_0 _ _ _ _ _ _ _ _ _ _ _ _ _ (ty_rows h).1]
  refine anyO_congr fun k hk => ?_
  obtain ⟨q1, q2, q3⟩ := okR_get (okEnts h) hk
  have d2 : (0 : Int) ≤ k := by omega
  simp only [S_r21_placed_0, d2, decide_true, cond_true, Int.toNat_natCast, q1, q2, Option.bind_some, roRows, rect_r us ws ts h1, F_r21_Cell, cell_r x hx.1 hx.2, cell_r y hy.1 hy.2, bid]
  rfl
theorem plP_s (bl : Bool) (us es : LL) (id x y rx ry rw rh cl : Int) (k : Nat) : ∃ b, plP bl us es id x y rx ry rw rh cl k = some b := by
  unfold plP
  repeat' first | exact ⟨_, rfl⟩ | exact meet_s _ _ _ _ _ _ _ _ | exact inr_s _ _ _ _ _ _ | refine guard_s (fun _ => ?_) (fun _ => ?_)
section
variable (T0 T1 T2 : Int) (T3 : Bool) (T4 : Int) (us ws ts : LL) (T5 T6 : Int) (Tc ps es Ts Tm Tq : LL)
noncomputable def pcV (us : LL) (W H : Int) (Tc es : LL) (r : List AVal) : Option Bool :=
  let t := rcV us (cS r 2) (cI r 3) (cI r 4)
  bif t.2.2.2.2 then
    (bif (wr (cI r 3 - wr (Int.tdiv (wr (t.2.2.1 * 256)) 2)) == wr (t.1 * 256)) then
      (bif (wr (cI r 4 - wr (Int.tdiv (wr (t.2.2.2.1 * 256)) 2)) == wr (t.2.1 * 256)) then (F_r06_Clip W H t.1 t.2.1 t.2.2.1 t.2.2.2.1).bind fun c => some ((c.1 == t.1) && ((c.2.1 == t.2.1) && ((c.2.2.1 == t.2.2.1) && (c.2.2.2 == t.2.2.2.1)))) else some false) else some false).bind fun q =>
    bif !q then some false else (anyO (plP true us es (cI r 0) (cI r 3) (cI r 4) t.1 t.2.1 t.2.2.1 t.2.2.2.1 (uV us (cS r 2)).2.2.2.1) es.length).bind fun z => bif z then some false else some true
  else bif !(pas W H Tc (uV us (cS r 2)).2.2.2.1 (cI r 3 / 256) (cI r 4 / 256)) then some false
  else (anyO (plP false us es (cI r 0) (cI r 3) (cI r 4) t.1 t.2.1 t.2.2.1 t.2.2.2.1 (uV us (cS r 2)).2.2.2.1) es.length).bind fun z => bif z then some false else some true
theorem placed_v (h1 : TyUnits us) (h : TyEnts es) (hc : okCs Tc) {r : List AVal} (hr : TyL Tryz.prog entT r) :
    F_r21_placed T0 T1 T2 T3 T4 us ws ts T5 T6 Tc ps es Ts Tm Tq (cI r 0) (cI r 1) (cS r 2) (cI r 3) (cI r 4) (cI r 5) (cI r 6) (cI r 7) (cI r 8) (cI r 9) (cR r 10) (cR r 11) = pcV us T5 T6 Tc es r := by
  have hx := tyL_int hr (j := 3) rfl
  have hy := tyL_int hr (j := 4) rfl
  simp only [F_r21_placed, rect_r us ws ts h1, Option.bind_some, unit_r us ws ts _ h1, F_r21_Cell, cell_r _ hx.1 hx.2, cell_r _ hy.1 hy.2, passable_r _ _ _ hc, F_r21_whole, placed_run _ us ws ts h1 h _ _ _ _ _ _ _ _ hx hy]
  unfold pcV
  simp only
  generalize rcV us (cS r 2) (cI r 3) (cI r 4) = t
  cases hb : t.2.2.2.2 with
  | true => rfl
  | false => rfl
theorem pcV_s (us : LL) (W H : Int) (Tc es : LL) (r : List AVal) : ∃ b, pcV us W H Tc es r = some b := by
  have hp : ∀ bl id x y rx ry rw rh cl, ∃ b, anyO (plP bl us es id x y rx ry rw rh cl) es.length = some b := fun bl id x y rx ry rw rh cl => anyO_some fun k _ => plP_s _ _ _ _ _ _ _ _ _ _ _ _
  unfold pcV
  refine guard_s (fun _ => bind_s ?_ fun q _ => guard_s (fun _ => ⟨_, rfl⟩) fun _ => bind_s (hp _ _ _ _ _ _ _ _ _) fun z _ => guard_s (fun _ => ⟨_, rfl⟩) fun _ => ⟨_, rfl⟩) fun _ => guard_s (fun _ => ⟨_, rfl⟩) fun _ => bind_s (hp _ _ _ _ _ _ _ _ _) fun z _ => guard_s (fun _ => ⟨_, rfl⟩) fun _ => ⟨_, rfl⟩
  refine guard_s (fun _ => guard_s (fun _ => bind_s (clip_s _ _ _ _ _ _) fun _ _ => ⟨_, rfl⟩) fun _ => ⟨_, rfl⟩) fun _ => ⟨_, rfl⟩
def bdR (us : LL) (r : List AVal) : Option (List AVal) :=
  let u := uV us (cS r 2)
  bif !u.2.2.2.2.2.2.2.2.2.2.2.2.2.2.2.2.2.2.2 then none else bif u.2.1 then none else some [i64 (cI r 0), i64 u.2.2.2.1, i64 u.2.2.2.2.2.2.1, i64 (cI r 3), i64 (cI r 4), i64 0, i64 0]
theorem bodies_v (h1 : TyUnits us) (h : TyEnts es) (hn : es.length ≤ 64) : F_r21_Bodies us ws ts es = some (es.filterMap (bdR us)) := by
  have hs : ∀ k, k < es.length → (es.take (k + 1)).filterMap (bdR us) = (es.take k).filterMap (bdR us) ++ (bdR us (es.getD k [])).toList := fun k hk => by
    rw [List.take_add_one, List.getElem?_eq_getElem hk, List.filterMap_append]
    simp only [List.getD_eq_getElem?_getD, List.getElem?_eq_getElem hk, Option.getD_some, Option.toList_some]
    cases e : bdR us es[k] <;> simp [e]
  have key := run_loop (fun m R i => G_r21_Bodies_0 es us ws ts m R i) (fun k R => .inl (R ++ (bdR us (es.getD k [])).toList)) id es.length (fun k R => R.length ≤ k)
    (fun m k R hk hi => by
      obtain ⟨q1, q2, _⟩ := okR_get (okEnts h) hk
      have d1 : (k : Int) < es.length := by omega
      have d2 : (0 : Int) ≤ k := by omega
      have rm : roomOk (R.length + 1) 56 = true := by simp [roomOk]; omega
      simp only [G_r21_Bodies_0, Int.ofNat_eq_natCast, d1, d2, decide_true, cond_true, Int.toNat_natCast, q1, q2, Option.bind_some, wr_next hk (by omega), roRows, F_r21_Body, unit_r us ws ts _ h1]
      unfold bdR
      simp only
      cases (uV us (cS (es.getD k []) 2)).2.2.2.2.2.2.2.2.2.2.2.2.2.2.2.2.2.2.2 with
      | false => simp only [Bool.not_false, cond_true, Option.bind_some, cond_false, Option.toList_none, List.append_nil]
      | true =>
        cases (uV us (cS (es.getD k []) 2)).2.1 with
        | true => simp only [Bool.not_true, cond_true, Option.bind_some, cond_false, Option.toList_none, List.append_nil]
        | false => simp only [Bool.not_true, cond_true, Option.bind_some, cond_false, Option.toList_some, rm])
    (fun k R R' hk hi he => by
      simp only [Sum.inl.injEq] at he
      rw [← he, List.length_append]
      cases bdR us (es.getD k []) <;> simp <;> omega)
    (fun m R _ => by
      have d1 : ¬ (es.length : Int) < es.length := by omega
      simp only [G_r21_Bodies_0, Int.ofNat_eq_natCast, d1, decide_false, cond_false]
      rfl) es.length FU 0 [] (by omega) (by unfold FU; omega) (by simp)
  have hv := iter_inv (f := fun k (R : LL) => (.inl (R ++ (bdR us (es.getD k [])).toList) : LL ⊕ LL)) (e := id) (fun t => t = es.filterMap (bdR us)) es.length (fun k R => R = (es.take k).filterMap (bdR us))
    (fun k s s' hk hi he => by
      simp only [Sum.inl.injEq] at he
      rw [hs k hk, ← he, hi])
    (fun k s t hk hi he => by cases he) (fun s he => by rw [he, List.take_length]; rfl) es.length 0 [] (by omega) rfl
  have key' : G_r21_Bodies_0 es us ws ts FU [] 0 = _ := key
  simp only [F_r21_Bodies, key', Option.bind_some, hv]
theorem okR_bodies (us es : LL) : okR bodT (es.filterMap (bdR us)) := fun r hr => by
  obtain ⟨e, _, he⟩ := List.mem_filterMap.1 hr
  unfold bdR at he
  simp only at he
  cases h1 : (uV us (cS e 2)).2.2.2.2.2.2.2.2.2.2.2.2.2.2.2.2.2.2.2 with
  | false => rw [h1] at he; cases he
  | true =>
    rw [h1] at he
    cases h2 : (uV us (cS e 2)).2.1 with
    | true => rw [h2] at he; cases he
    | false =>
      rw [h2] at he
      simp only [Bool.not_true, cond_false, Option.some.injEq] at he
      subst he
      rfl
theorem overlap_s (a b c d e f g a' b' c' d' e' f' g' : Int) : ∃ t, F_r19_Overlap a b c d e f g a' b' c' d' e' f' g' = some t := by
  simp only [F_r19_Overlap, F_r01_Clamp, Sub_w, Len2_w, Option.bind_some]
  repeat' first | exact ⟨_, rfl⟩ | refine guard_s (fun _ => ?_) (fun _ => ?_)
theorem sep_s {l : LL} (h : okR bodT l) (hn : l.length ≤ 1000) : ∃ b, F_r19_Separated l = some b := by
  have hm : maxLen = 9223372036854775807 := by decide
  have inner : ∀ i : Nat, i < l.length → ∃ t, G_r19_Separated_1 l i FU 0 = some t := fun i hi =>
    some_loop (fun m k => G_r19_Separated_1 l i m k) i (by omega)
      (fun k hk => by
        obtain ⟨q1, q2, _⟩ := okR_get h (k := k) (by omega)
        obtain ⟨p1, p2, _⟩ := okR_get h (k := i) (by omega)
        have d1 : (k : Int) < i := by omega
        have d2 : (0 : Int) ≤ k := by omega
        have d3 : (0 : Int) ≤ i := by omega
        obtain ⟨t, ht⟩ := overlap_s (cI (l.getD i []) 0) (cI (l.getD i []) 1) (cI (l.getD i []) 2) (cI (l.getD i []) 3) (cI (l.getD i []) 4) (cI (l.getD i []) 5) (cI (l.getD i []) 6) (cI (l.getD k []) 0) (cI (l.getD k []) 1) (cI (l.getD k []) 2) (cI (l.getD k []) 3) (cI (l.getD k []) 4) (cI (l.getD k []) 5) (cI (l.getD k []) 6)
        simp only [G_r19_Separated_1, d1, d2, d3, decide_true, cond_true, Int.toNat_natCast, q1, q2, p1, p2, Option.bind_some, wr_next hk (by omega), ht]
        cases t
        · exact .inl fun m => rfl
        · exact .inr ⟨_, fun m => rfl⟩)
      ⟨false, fun m => by
        have d1 : ¬ (i : Int) < i := by omega
        simp only [G_r19_Separated_1, d1, decide_false, cond_false]⟩
  have outer : ∃ b, G_r19_Separated_0 l FU 0 = some b := by
    rw [run_r19_Separated_0 _ (by omega)]
    refine anyO_some fun k hk => ?_
    obtain ⟨t, ht⟩ := inner k hk
    simp only [S_r19_Separated_0, ht, Option.bind_some]
    cases t <;> exact ⟨_, rfl⟩
  obtain ⟨b, hb⟩ := outer
  simp only [F_r19_Separated, hb, Option.bind_some]
  cases b <;> exact ⟨_, rfl⟩
end
theorem ghit_iff {c : Bool} {y : Option Bool} : (bif c then some true else y) = some false ↔ c = false ∧ y = some false := by cases c <;> simp
theorem bind_id' {α : Type} {x : Option α} : (x.bind fun t => some t) = x := by cases x <;> rfl
theorem bnot_iff {x : Option Bool} : (x.bind fun t => bif (!t) then some true else some false) = some false ↔ x = some true := by
  cases x with
  | none => simp
  | some b => cases b <;> simp
theorem sd_iff {ps : LL} (h : okR plT ps) (hn : ps.length ≤ maxLen) {k : Nat} (hk : k < ps.length) : S_r22_Sound_0 ps (k : Int) = some false ↔
    (1 ≤ cI (ps.getD k []) 0 ∧ cI (ps.getD k []) 0 ≤ 6) ∧ prevId ps k < cI (ps.getD k []) 0 ∧ (0 ≤ cI (ps.getD k []) 2 ∧ cI (ps.getD k []) 2 ≤ 1000000) ∧ (0 ≤ cI (ps.getD k []) 3 ∧ cI (ps.getD k []) 3 ≤ 1000000) := by
  have hm : maxLen = 9223372036854775807 := by decide
  obtain ⟨q1, q2, q3⟩ := okR_get h hk
  have d2 : (0 : Int) ≤ k := by omega
  cases k with
  | zero =>
    have d3 : ¬ ((0 : Nat) : Int) > 0 := by omega
    simp only [S_r22_Sound_0, d2, d3, decide_true, decide_false, cond_true, cond_false, Int.toNat_natCast, q1, q2, Option.bind_some, ghit_iff, decide_eq_false_iff_not, prevId, and_true]
    omega
  | succ j =>
    obtain ⟨p1, p2, p3⟩ := okR_get h (k := j) (by omega)
    have d3 : ((j + 1 : Nat) : Int) > 0 := by omega
    have e : wr (((j + 1 : Nat) : Int) - 1) = (j : Int) := by rw [wr_in (by omega) (by omega)]; omega
    have d4 : (0 : Int) ≤ j := by omega
    simp only [S_r22_Sound_0, d2, d3, d4, e, decide_true, decide_false, cond_true, cond_false, Int.toNat_natCast, q1, q2, p1, p2, Option.bind_some, ghit_iff, decide_eq_false_iff_not, prevId, and_true]
    omega
theorem sd_s {ps : LL} (h : okR plT ps) (hn : ps.length ≤ maxLen) {k : Nat} (hk : k < ps.length) : ∃ b, S_r22_Sound_0 ps (k : Int) = some b := by
  have hm : maxLen = 9223372036854775807 := by decide
  obtain ⟨q1, q2, q3⟩ := okR_get h hk
  have d2 : (0 : Int) ≤ k := by omega
  cases k with
  | zero =>
    have d3 : ¬ ((0 : Nat) : Int) > 0 := by omega
    simp only [S_r22_Sound_0, d2, d3, decide_true, decide_false, cond_true, cond_false, Int.toNat_natCast, q1, q2, Option.bind_some]
    repeat' first | exact ⟨_, rfl⟩ | refine guard_s (fun _ => ?_) (fun _ => ?_)
  | succ j =>
    obtain ⟨p1, p2, p3⟩ := okR_get h (k := j) (by omega)
    have d3 : ((j + 1 : Nat) : Int) > 0 := by omega
    have e : wr (((j + 1 : Nat) : Int) - 1) = (j : Int) := by rw [wr_in (by omega) (by omega)]; omega
    have d4 : (0 : Int) ≤ j := by omega
    simp only [S_r22_Sound_0, d2, d3, d4, e, decide_true, decide_false, cond_true, cond_false, Int.toNat_natCast, q1, q2, p1, p2, Option.bind_some]
    repeat' first | exact ⟨_, rfl⟩ | refine guard_s (fun _ => ?_) (fun _ => ?_)
noncomputable def teV (l : LL) : Option Bool := bif decide ((l.length : Int) > 40) then some true else F_l22_huge l
theorem te_v {ps : LL} (h : okR plT ps) {k : Nat} (hk : k < ps.length) : S_l22_Small_0 ps (k : Int) = teV (cR (ps.getD k []) 4) := by
  obtain ⟨q1, q2, q3⟩ := okR_get h hk
  have d2 : (0 : Int) ≤ k := by omega
  simp only [S_l22_Small_0, d2, decide_true, cond_true, Int.toNat_natCast, q1, q2, Option.bind_some, roRows, Int.ofNat_eq_natCast, bid, teV]
theorem te_s {l : LL} (h : TyNames l) : ∃ b, teV l = some b := by
  obtain ⟨b, hb, _⟩ := huge_l l (okNames h).1 (okNames h).2
  unfold teV
  rw [hb]
  exact guard_s (fun _ => ⟨_, rfl⟩) fun _ => ⟨_, rfl⟩
theorem oj_iff {es : LL} (h : okR entT es) {k : Nat} (hk : k < es.length) : S_l22_Small_1 es (k : Int) = some false ↔ (cR (es.getD k []) 10).length ≤ 20 ∧ (cR (es.getD k []) 11).length ≤ 20 := by
  obtain ⟨q1, q2, q3⟩ := okR_get h hk
  have d2 : (0 : Int) ≤ k := by omega
  simp only [S_l22_Small_1, d2, decide_true, cond_true, Int.toNat_natCast, q1, q2, Option.bind_some, Int.ofNat_eq_natCast, ghit_iff, decide_eq_false_iff_not, and_true]
  omega
theorem oj_s {es : LL} (h : okR entT es) {k : Nat} (hk : k < es.length) : ∃ b, S_l22_Small_1 es (k : Int) = some b := by
  obtain ⟨q1, q2, q3⟩ := okR_get h hk
  have d2 : (0 : Int) ≤ k := by omega
  simp only [S_l22_Small_1, d2, decide_true, cond_true, Int.toNat_natCast, q1, q2, Option.bind_some]
  repeat' first | exact ⟨_, rfl⟩ | refine guard_s (fun _ => ?_) (fun _ => ?_)
noncomputable def ndV (us ws ts ps : LL) (r : List AVal) : Option Bool :=
  bif (!(uV us (cS r 2)).2.2.2.2.2.2.2.2.2.2.2.2.2.2.2.2.2.2.2) then some false else (anyO (fun k => some (isP (cI r 1) (ps.getD k []))) ps.length).bind fun t =>
    bif (!t) then some false else (G_r21_named_0 us ws ts (cR r 11) FU 0).bind fun z => bif z then some false else some true
def prV (us : LL) (r : List AVal) : Bool :=
  bif (uV us (cS r 2)).2.1 then ((cR r 10).length == 0) && ((cI r 8 == 0) && ((cI r 9 == 0) && ((cI r 7 == 0) || ((cR r 11).length == 0))))
  else ((cR r 11).length == 0) && ((cI r 7 == 0) && decide (wr (cI r 8 + cI r 9) ≤ (uV us (cS r 2)).2.2.2.2.2.2.2.2.2.2.2.1))
section
variable (T0 T1 T2 : Int) (T3 : Bool) (T4 : Int) (us ws ts : LL) (T5 T6 : Int) (Tc ps es Ts Tm Tq : LL)
theorem nd_v (h1 : TyUnits us) (hp : TyPlayers ps) (r : List AVal) :
    F_r21_named T0 T1 T2 T3 T4 us ws ts T5 T6 Tc ps es Ts Tm Tq (cI r 0) (cI r 1) (cS r 2) (cI r 3) (cI r 4) (cI r 5) (cI r 6) (cI r 7) (cI r 8) (cI r 9) (cR r 10) (cR r 11) = ndV us ws ts ps r := by
  simp only [F_r21_named, F_r21_player, unit_r us ws ts _ h1, Option.bind_some, player_v _ (okPlayers hp) (ty_rows hp).1, bid]
  rfl
theorem ndV_s (h1 : TyUnits us) (h3 : TyTechs ts) {r : List AVal} (hr : TyL Tryz.prog entT r) : ∃ b, ndV us ws ts ps r = some b := by
  unfold ndV
  refine guard_s (fun _ => ⟨_, rfl⟩) fun _ => bind_s (anyO_some fun k _ => ⟨_, rfl⟩) fun _ _ => guard_s (fun _ => ⟨_, rfl⟩) fun _ => bind_s (named0_s us ws ts h1 h3 (tyL_sl hr (j := 11) rfl)) fun _ _ => guard_s (fun _ => ⟨_, rfl⟩) fun _ => ⟨_, rfl⟩
theorem pr_v (h1 : TyUnits us) (r : List AVal) :
    F_r21_proper T0 T1 T2 T3 T4 us ws ts T5 T6 Tc ps es Ts Tm Tq (cI r 0) (cI r 1) (cS r 2) (cI r 3) (cI r 4) (cI r 5) (cI r 6) (cI r 7) (cI r 8) (cI r 9) (cR r 10) (cR r 11) = some (prV us r) := by
  simp only [F_r21_proper, F_r21_Ready, unit_r us ws ts _ h1, Option.bind_some, Int.ofNat_eq_natCast]
  unfold prV
  have e : ∀ n : Nat, (((n : Int)) == 0) = (n == 0) := fun n => by
    rw [Bool.eq_iff_iff]; simp
  rw [e, e]
  cases (uV us (cS r 2)).2.1 with
  | true =>
    cases (cR r 10).length == 0 <;> cases cI r 8 == 0 <;> cases cI r 9 == 0 <;> cases cI r 7 == 0 <;> rfl
  | false =>
    cases (cR r 11).length == 0 <;> cases cI r 7 == 0 <;> rfl
structure Sm28 (T1 : Int) (us ws ts : LL) (T5 T6 : Int) (Tc ps es Ts Tm Tq : LL) : Prop where
  n1 : Tc.length ≤ 400
  n2 : es.length ≤ 24
  n3 : ps.length ≤ 6
  n4 : Ts.length ≤ 100
  n5 : Tm.length ≤ 20
  n6 : Tq.length ≤ 20
  hu : F_l10_Huge us ws ts = some false
  te : ∀ k, k < ps.length → teV (cR (ps.getD k []) 4) = some false
  oj : ∀ k, k < es.length → (cR (es.getD k []) 10).length ≤ 20 ∧ (cR (es.getD k []) 11).length ≤ 20
  va : F_r09_Validate us ws ts = some 0
  vm : vmap T5 T6 Tc = true
  nx : 1 ≤ T1 ∧ T1 ≤ 1099511627776
  fm : ∀ k, k < es.length → prevId es k < cI (es.getD k []) 0 ∧ cI (es.getD k []) 0 < T1 ∧ nmR (es.getD k []) = some true
  nd : ∀ k, k < es.length → ndV us ws ts ps (es.getD k []) = some true
  pc : ∀ k, k < es.length → pcV us T5 T6 Tc es (es.getD k []) = some true
  pr : ∀ k, k < es.length → prV us (es.getD k []) = true
  sp : F_r19_Separated (es.filterMap (bdR us)) = some true
  sd : ∀ k, k < ps.length → (1 ≤ cI (ps.getD k []) 0 ∧ cI (ps.getD k []) 0 ≤ 6) ∧ prevId ps k < cI (ps.getD k []) 0 ∧ (0 ≤ cI (ps.getD k []) 2 ∧ cI (ps.getD k []) 2 ≤ 1000000) ∧ (0 ≤ cI (ps.getD k []) 3 ∧ cI (ps.getD k []) 3 ≤ 1000000)
theorem vs0 (h1 : TyUnits us) (hp : TyPlayers ps) (he : TyEnts es) {k : Nat} (hk : k < es.length) : S_r21_Validate_0 T0 T1 T2 T3 T4 us ws ts T5 T6 Tc ps es Ts Tm Tq (k : Int) = (ndV us ws ts ps (es.getD k [])).bind fun t => bif (!t) then some true else some false := by
  obtain ⟨q1, q2, q3⟩ := okR_get (okEnts he) hk
  have d2 : (0 : Int) ≤ k := by omega
  simp only [S_r21_Validate_0, d2, decide_true, cond_true, Int.toNat_natCast, q1, q2, Option.bind_some, roRows, nd_v T0 T1 T2 T3 T4 us ws ts T5 T6 Tc ps es Ts Tm Tq h1 hp]
theorem vs1 (h1 : TyUnits us) (hc : okCs Tc) (he : TyEnts es) {k : Nat} (hk : k < es.length) : S_r21_Validate_1 T0 T1 T2 T3 T4 us ws ts T5 T6 Tc ps es Ts Tm Tq (k : Int) = (pcV us T5 T6 Tc es (es.getD k [])).bind fun t => bif (!t) then some true else some false := by
  obtain ⟨q1, q2, q3⟩ := okR_get (okEnts he) hk
  have d2 : (0 : Int) ≤ k := by omega
  simp only [S_r21_Validate_1, d2, decide_true, cond_true, Int.toNat_natCast, q1, q2, Option.bind_some, roRows, placed_v T0 T1 T2 T3 T4 us ws ts T5 T6 Tc ps es Ts Tm Tq h1 he hc (ent_row he q3)]
theorem vs2 (h1 : TyUnits us) (he : TyEnts es) {k : Nat} (hk : k < es.length) : S_r21_Validate_2 T0 T1 T2 T3 T4 us ws ts T5 T6 Tc ps es Ts Tm Tq (k : Int) = some (!prV us (es.getD k [])) := by
  obtain ⟨q1, q2, q3⟩ := okR_get (okEnts he) hk
  have d2 : (0 : Int) ≤ k := by omega
  simp only [S_r21_Validate_2, d2, decide_true, cond_true, Int.toNat_natCast, q1, q2, Option.bind_some, roRows, pr_v T0 T1 T2 T3 T4 us ws ts T5 T6 Tc ps es Ts Tm Tq h1]
  cases prV us (es.getD k []) <;> rfl
theorem formed_iff (hc : okCs Tc) (he : TyEnts es) : F_r21_formed T0 T1 T2 T3 T4 us ws ts T5 T6 Tc ps es Ts Tm Tq = some true ↔
    F_r09_Validate us ws ts = some 0 ∧ vmap T5 T6 Tc = true ∧ (1 ≤ T1 ∧ T1 ≤ 1099511627776) ∧ ∀ k, k < es.length → prevId es k < cI (es.getD k []) 0 ∧ cI (es.getD k []) 0 < T1 ∧ nmR (es.getD k []) = some true := by
  simp only [F_r21_formed, bindz_iff, bindn_iff, guard_iff, bindf_iff, Valid_r _ _ _ hc, formed_run _ he, anyO_false, fmP_iff, decide_eq_false_iff_not, Option.some.injEq, and_true]
  constructor
  · rintro ⟨a, b, c, d, e⟩
    exact ⟨a, b, ⟨by omega, by omega⟩, e⟩
  · rintro ⟨a, b, c, e⟩
    exact ⟨a, b, by omega, by omega, e⟩
theorem val21_iff (h1 : TyUnits us) (hp : TyPlayers ps) (hc : okCs Tc) (he : TyEnts es) : F_r21_Validate T0 T1 T2 T3 T4 us ws ts T5 T6 Tc ps es Ts Tm Tq = some 0 ↔
    es.length ≤ 64 ∧ F_r21_formed T0 T1 T2 T3 T4 us ws ts T5 T6 Tc ps es Ts Tm Tq = some true ∧ (∀ k, k < es.length → ndV us ws ts ps (es.getD k []) = some true) ∧
    (∀ k, k < es.length → pcV us T5 T6 Tc es (es.getD k []) = some true) ∧ (∀ k, k < es.length → prV us (es.getD k []) = true) ∧ F_r19_Separated (es.filterMap (bdR us)) = some true := by
  have hl := (ty_rows he).1
  have i0 : (∀ k, k < es.length → S_r21_Validate_0 T0 T1 T2 T3 T4 us ws ts T5 T6 Tc ps es Ts Tm Tq (k : Int) = some false) ↔ ∀ k, k < es.length → ndV us ws ts ps (es.getD k []) = some true :=
    forall_congr' fun k => forall_congr' fun hk => by rw [vs0 T0 T1 T2 T3 T4 us ws ts T5 T6 Tc ps es Ts Tm Tq h1 hp he hk, bnot_iff]
  have i1 : (∀ k, k < es.length → S_r21_Validate_1 T0 T1 T2 T3 T4 us ws ts T5 T6 Tc ps es Ts Tm Tq (k : Int) = some false) ↔ ∀ k, k < es.length → pcV us T5 T6 Tc es (es.getD k []) = some true :=
    forall_congr' fun k => forall_congr' fun hk => by rw [vs1 T0 T1 T2 T3 T4 us ws ts T5 T6 Tc ps es Ts Tm Tq h1 hc he hk, bnot_iff]
  have i2 : (∀ k, k < es.length → S_r21_Validate_2 T0 T1 T2 T3 T4 us ws ts T5 T6 Tc ps es Ts Tm Tq (k : Int) = some false) ↔ ∀ k, k < es.length → prV us (es.getD k []) = true :=
    forall_congr' fun k => forall_congr' fun hk => by
      rw [vs2 T0 T1 T2 T3 T4 us ws ts T5 T6 Tc ps es Ts Tm Tq h1 he hk]
      cases prV us (es.getD k []) <;> simp
  by_cases hn : es.length ≤ 64
  · simp only [F_r21_Validate, guardI_iff (show (2 : Int) ≠ 0 by decide), bindnI_iff (show (1 : Int) ≠ 0 by decide), bindI_iff (show (8 : Int) ≠ 0 by decide), bindI_iff (show (9 : Int) ≠ 0 by decide), bindI_iff (show (23 : Int) ≠ 0 by decide), bindnI_iff (show (23 : Int) ≠ 0 by decide),
      run_r21_Validate_0 _ _ _ _ _ _ _ _ _ _ _ _ _ _ _ _ hl, run_r21_Validate_1 _ _ _ _ _ _ _ _ _ _ _ _ _ _ _ _ hl, run_r21_Validate_2 _ _ _ _ _ _ _ _ _ _ _ _ _ _ _ _ hl, anyO_false, i0, i1, i2, bodies_v us ws ts es h1 he hn, Option.bind_some,
      Int.ofNat_eq_natCast, decide_eq_false_iff_not, and_true]
    constructor
    · rintro ⟨_, r⟩; exact ⟨hn, r⟩
    · rintro ⟨_, r⟩; exact ⟨by omega, r⟩
  · have : decide ((Int.ofNat es.length) > 64) = true := by simp; omega
    simp only [F_r21_Validate, this, cond_true]
    constructor
    · intro h; cases h
    · rintro ⟨h, _⟩; omega
theorem small_iff (h1 : TyUnits us) (hp : TyPlayers ps) (hc : okCs Tc) (he : TyEnts es) : F_l22_Small T0 T1 T2 T3 T4 us ws ts T5 T6 Tc ps es Ts Tm Tq = some true ↔
    Sm28 T1 us ws ts T5 T6 Tc ps es Ts Tm Tq := by
  have hl := (ty_rows he).1
  have hl2 := (ty_rows hp).1
  have i0 : (∀ k, k < ps.length → S_l22_Small_0 ps (k : Int) = some false) ↔ ∀ k, k < ps.length → teV (cR (ps.getD k []) 4) = some false :=
    forall_congr' fun k => forall_congr' fun hk => by rw [te_v (okPlayers hp) hk]
  have i1 : (∀ k, k < es.length → S_l22_Small_1 es (k : Int) = some false) ↔ ∀ k, k < es.length → (cR (es.getD k []) 10).length ≤ 20 ∧ (cR (es.getD k []) 11).length ≤ 20 :=
    forall_congr' fun k => forall_congr' fun hk => oj_iff (okEnts he) hk
  have i2 : (∀ k, k < ps.length → S_r22_Sound_0 ps (k : Int) = some false) ↔ ∀ k, k < ps.length → (1 ≤ cI (ps.getD k []) 0 ∧ cI (ps.getD k []) 0 ≤ 6) ∧ prevId ps k < cI (ps.getD k []) 0 ∧ (0 ≤ cI (ps.getD k []) 2 ∧ cI (ps.getD k []) 2 ≤ 1000000) ∧ (0 ≤ cI (ps.getD k []) 3 ∧ cI (ps.getD k []) 3 ≤ 1000000) :=
    forall_congr' fun k => forall_congr' fun hk => sd_iff (okPlayers hp) hl2 hk
  simp only [F_l22_Small, F_r22_Sound, bind_id', guard_iff, bindf_iff, bindz_iff, bindn_iff, run_l22_Small_0 _ hl2, run_l22_Small_1 _ hl, run_r22_Sound_0 _ hl2, anyO_false, i0, i1, i2, Valid_r _ _ _ hc, Option.some.injEq,
    val21_iff T0 T1 T2 T3 T4 us ws ts T5 T6 Tc ps es Ts Tm Tq h1 hp hc he, formed_iff T0 T1 T2 T3 T4 us ws ts T5 T6 Tc ps es Ts Tm Tq hc he, Int.ofNat_eq_natCast, decide_eq_false_iff_not, and_true]
  constructor
  · rintro ⟨a1, a2, a3, a4, a5, a6, b1, b2, b3, b4, b5, b6, ⟨c1, ⟨d1, d2, d3, d4⟩, c3, c4, c5, c6⟩, e⟩
    exact ⟨by omega, by omega, by omega, by omega, by omega, by omega, b1, b2, b3, b4, b5, d3, d4, c3, c4, c5, c6, e⟩
  · rintro ⟨a1, a2, a3, a4, a5, a6, b1, b2, b3, b4, b5, d3, d4, c3, c4, c5, c6, e⟩
    exact ⟨by omega, by omega, by omega, by omega, by omega, by omega, b1, b2, b3, b4, b5, by omega, ⟨by omega, ⟨b4, b5, d3, d4⟩, c3, c4, c5, c6⟩, e⟩
theorem small_s (h1 : TyUnits us) (h2 : TyWeapons ws) (h3 : TyTechs ts) (hp : TyPlayers ps) (hc : okCs Tc) (he : TyEnts es) : ∃ b, F_l22_Small T0 T1 T2 T3 T4 us ws ts T5 T6 Tc ps es Ts Tm Tq = some b := by
  have hl := (ty_rows he).1
  have hl2 := (ty_rows hp).1
  have row : ∀ {k : Nat}, k < es.length → TyL Tryz.prog entT (es.getD k []) := fun hk => ent_row he (okR_get (okEnts he) hk).2.2
  obtain ⟨b1, e1, l1⟩ := huge10 h1 h2 h3
  simp only [F_l22_Small, bind_id', e1, Option.bind_some]
  refine guard_s (fun _ => ⟨_, rfl⟩) fun _ => guard_s (fun _ => ⟨_, rfl⟩) fun z2 => guard_s (fun _ => ⟨_, rfl⟩) fun _ => guard_s (fun _ => ⟨_, rfl⟩) fun _ => guard_s (fun _ => ⟨_, rfl⟩) fun _ => guard_s (fun _ => ⟨_, rfl⟩) fun _ => guard_s (fun _ => ⟨_, rfl⟩) fun z => ?_
  obtain ⟨m1, m2, m3⟩ := l1 z
  have n2 : es.length ≤ 64 := by
    rw [decide_eq_false_iff_not, Int.ofNat_eq_natCast] at z2
    omega
  obtain ⟨v, ev, _⟩ := validate_s us ws ts h1 h2 h3 m1 m2 m3
  refine bind_s (by rw [run_l22_Small_0 _ hl2]; exact anyO_some fun k hk => by rw [te_v (okPlayers hp) hk]; exact te_s (tyL_sl (pl_row hp (okR_get (okPlayers hp) hk).2.2) (j := 4) rfl)) fun _ _ => guard_s (fun _ => ⟨_, rfl⟩) fun _ => ?_
  refine bind_s (by rw [run_l22_Small_1 _ hl]; exact anyO_some fun k hk => oj_s (okEnts he) hk) fun _ _ => guard_s (fun _ => ⟨_, rfl⟩) fun _ => ?_
  simp only [F_r22_Sound, ev, Valid_r _ _ _ hc, Option.bind_some]
  refine guard_s (fun _ => ⟨_, rfl⟩) fun _ => guard_s (fun _ => ⟨_, rfl⟩) fun _ => guard_s (fun _ => ⟨_, rfl⟩) fun _ => ?_
  refine bind_s ?_ fun _ _ => guard_s (fun _ => ⟨_, rfl⟩) fun _ => bind_s (by rw [run_r22_Sound_0 _ hl2]; exact anyO_some fun k hk => sd_s (okPlayers hp) hl2 hk) fun _ _ => guard_s (fun _ => ⟨_, rfl⟩) fun _ => ⟨_, rfl⟩
  simp only [F_r21_Validate]
  refine guard_s (fun _ => ⟨_, rfl⟩) fun _ => bind_s ?_ fun _ _ => guard_s (fun _ => ⟨_, rfl⟩) fun _ => ?_
  · simp only [F_r21_formed, ev, Valid_r _ _ _ hc, Option.bind_some]
    refine guard_s (fun _ => ⟨_, rfl⟩) fun _ => guard_s (fun _ => ⟨_, rfl⟩) fun _ => guard_s (fun _ => ⟨_, rfl⟩) fun _ => guard_s (fun _ => ⟨_, rfl⟩) fun _ => ?_
    exact bind_s (by rw [formed_run _ he]; exact anyO_some fun k hk => fmP_s he hk) fun _ _ => guard_s (fun _ => ⟨_, rfl⟩) fun _ => ⟨_, rfl⟩
  refine bind_s ?_ fun _ _ => guard_s (fun _ => ⟨_, rfl⟩) fun _ => bind_s ?_ fun _ _ => guard_s (fun _ => ⟨_, rfl⟩) fun _ => bind_s ?_ fun _ _ => guard_s (fun _ => ⟨_, rfl⟩) fun _ => ?_
  · rw [run_r21_Validate_0 _ _ _ _ _ _ _ _ _ _ _ _ _ _ _ _ hl]
    refine anyO_some fun k hk => ?_
    rw [vs0 T0 T1 T2 T3 T4 us ws ts T5 T6 Tc ps es Ts Tm Tq h1 hp he hk]
    exact bind_s (ndV_s us ws ts ps h1 h3 (row hk)) fun _ _ => guard_s (fun _ => ⟨_, rfl⟩) fun _ => ⟨_, rfl⟩
  · rw [run_r21_Validate_1 _ _ _ _ _ _ _ _ _ _ _ _ _ _ _ _ hl]
    refine anyO_some fun k hk => ?_
    rw [vs1 T0 T1 T2 T3 T4 us ws ts T5 T6 Tc ps es Ts Tm Tq h1 hc he hk]
    exact bind_s (pcV_s us T5 T6 Tc es _) fun _ _ => guard_s (fun _ => ⟨_, rfl⟩) fun _ => ⟨_, rfl⟩
  · rw [run_r21_Validate_2 _ _ _ _ _ _ _ _ _ _ _ _ _ _ _ _ hl]
    refine anyO_some fun k hk => ?_
    rw [vs2 T0 T1 T2 T3 T4 us ws ts T5 T6 Tc ps es Ts Tm Tq h1 he hk]
    exact ⟨_, rfl⟩
  · rw [bodies_v us ws ts es h1 he n2]
    simp only [Option.bind_some]
    exact bind_s (sep_s (okR_bodies us es) (by have := List.length_filterMap_le (bdR us) es; omega)) fun _ _ => guard_s (fun _ => ⟨_, rfl⟩) fun _ => ⟨_, rfl⟩
end
abbrev GE := LL × LL × Int × Int × ByteArray × Int × Int × Int × Int × Int × Int × Int × Bool
def gE (x : ET) : GE := match x with | (a, b, c, d, e, f, g, h, i, j, o, p, ok) => (o, p, a, b, c, d, e, f, g, h, i, j, ok)
theorem ent_g (es : LL) (id : Int) (h : TyEnts es) : F_entity_Find es id = some (gE (enV es id)) := by
  have hm : maxLen = 9223372036854775807 := by decide
  have hl := (ty_rows h).1
  have key := find_loop (fun m i => G_slices_IndexFunc_Entity_0 es id es.length m i) es (fun r => cI r 0 == id) (fun k => (true, (k : Int))) (false, 0) (ty_rows h).1
    (fun m k hk => by
      obtain ⟨q1, q2, _⟩ := okR_get (okEnts h) hk
      have d1 : (k : Int) < es.length := by omega
      have d2 : (0 : Int) ≤ k := by omega
      simp only [G_slices_IndexFunc_Entity_0, F_entity_find_1, d1, d2, decide_true, cond_true, Int.toNat_natCast, q1, q2, Option.bind_some, wr_next hk (by omega)])
    (fun m => by
      have d1 : ¬ (es.length : Int) < es.length := by omega
      simp only [G_slices_IndexFunc_Entity_0, d1, decide_false, cond_false])
  have key' : G_slices_IndexFunc_Entity_0 es id es.length FU 0 = _ := key
  simp only [F_entity_Find, F_entity_find, F_slices_IndexFunc_Entity, Int.ofNat_eq_natCast, key', Option.bind_some]
  unfold enV fdV
  cases hf : es.findIdx? (fun r => cI r 0 == id) with
  | none =>
    simp only [cond_false, Option.bind_some, show (-1 : Int) < 0 by omega, decide_true, cond_true]
    rfl
  | some k =>
    have hk := (fd_lt hf).1
    obtain ⟨q1, q2, q3⟩ := okR_get (okEnts h) hk
    have hr := ent_row (us := es) h q3
    have c1 := clone_o (tyL_sl hr (j := 10) rfl)
    have c2 := clone_j (tyL_sl hr (j := 11) rfl)
    have d1 : ¬ (k : Int) < 0 := by omega
    have d2 : (0 : Int) ≤ k := by omega
    simp only [cond_true, Option.bind_some, d1, d2, decide_false, decide_true, cond_false, Int.toNat_natCast, q1, q2, F_entity_clone, roRows, c1, c2]
    rfl
theorem Len_v (x y : Int) : F_vec_Len x y = some (v0isq (dotN x y x y)) := by
  have := dotN_in x y x y
  simp only [F_vec_Len, Len2_v, Option.bind_some, isqrt_g _ (show dotN x y x y ≤ 9223372036854775807 by omega)]
theorem Len_w (x y : Int) : F_r02_Len x y = some (v0isq (dotN x y x y)) := by
  have := dotN_in x y x y
  simp only [F_r02_Len, Len2_w, Option.bind_some, isqrt_r _ (show dotN x y x y ≤ 9223372036854775807 by omega)]
def nrs (us : LL) (t : ByteArray) (ex ey ax ay : Int) : Int × Int :=
  let r := rcV us t ex ey
  bif !r.2.2.2.2 then (ex, ey) else (max (wr (r.1 * 256)) (min ax (wr (wr (r.1 + r.2.2.1) * 256))), max (wr (r.2.1 * 256)) (min ay (wr (wr (r.2.1 + r.2.2.2.1) * 256))))
def dsV (us es : LL) (a b : Int) : Int × Bool :=
  let x := enV es a
  let y := enV es b
  bif !x.2.2.2.2.2.2.2.2.2.2.2.2 then (0, false) else bif !y.2.2.2.2.2.2.2.2.2.2.2.2 then (0, false) else
    let p := nrs us y.2.2.1 y.2.2.2.1 y.2.2.2.2.1 x.2.2.2.1 x.2.2.2.2.1
    let q := (nr (nr p.1 - nr x.2.2.2.1), nr (nr p.2 - nr x.2.2.2.2.1))
    (v0isq (dotN q.1 q.2 q.1 q.2), true)
def okE (x : ET) : Bool := x.2.2.2.2.2.2.2.2.2.2.2.2
theorem enV_here {es : LL} {k : Nat} (hk : k < es.length) : okE (enV es (cI (es.getD k []) 0)) = true := by
  unfold enV fdV
  cases hf : es.findIdx? (fun r => cI r 0 == cI (es.getD k []) 0) with
  | some j => rfl
  | none =>
    rw [List.findIdx?_eq_none_iff] at hf
    have := hf (es.getD k []) (by simp [List.getD, hk])
    simp at this
theorem dsV_here {us es : LL} {a : Int} {k : Nat} (ha : okE (enV es a) = true) (hk : k < es.length) : (dsV us es a (cI (es.getD k []) 0)).2 = true := by
  have hb := enV_here hk
  unfold okE at ha hb
  unfold dsV
  simp only [ha, hb, Bool.not_true, cond_false]
end Go.Proofs.YtoiimiohobollaaGreat.AI
