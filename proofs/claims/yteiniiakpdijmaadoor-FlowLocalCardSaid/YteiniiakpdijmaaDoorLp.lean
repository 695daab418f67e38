/- Loops that count up: what they come to. Names. -/
import Derived.Test.YteiniiakpdijmaaDoorPl
namespace Go.Proofs.YteiniiakpdijmaaDoor.AI
open Go.RowKit
set_option linter.unusedVariables false

/-! ### Loops -/
/-- 'r' rounds from 'k' on. -/
def iter {σ T : Type} (f : Nat → σ → σ ⊕ T) (e : σ → T) : Nat → Nat → σ → T
  | 0, _, s => e s
  | r + 1, k, s => match f k s with
    | .inl s' => iter f e r (k + 1) s'
    | .inr t => t
theorem run_loop {σ T : Type} (G : Nat → σ → Int → Option T) (f : Nat → σ → σ ⊕ T) (e : σ → T) (n : Nat) (I : Nat → σ → Prop)
    (hstep : ∀ m k s, k < n → I k s → G (m + 1) s (k : Int) = match f k s with | .inl s' => G m s' ((k + 1 : Nat) : Int) | .inr t => some t)
    (hI : ∀ k s s', k < n → I k s → f k s = .inl s' → I (k + 1) s')
    (hexit : ∀ m s, I n s → G (m + 1) s (n : Int) = some (e s)) :
    ∀ (r m k : Nat) (s : σ), k + r = n → r < m → I k s → G m s (k : Int) = some (iter f e r k s)
  | 0, m, k, s, h1, h2, hi => by
    obtain ⟨m, rfl⟩ : ∃ q, m = q + 1 := ⟨m - 1, by omega⟩
    obtain rfl : k = n := by omega
    exact hexit m s hi
  | r + 1, m, k, s, h1, h2, hi => by
    obtain ⟨m, rfl⟩ : ∃ q, m = q + 1 := ⟨m - 1, by omega⟩
    rw [hstep m k s (by omega) hi]
    unfold iter
    cases h : f k s with
    | inr t => rfl
    | inl s' => exact run_loop G f e n I hstep hI hexit r m (k + 1) s' (by omega) (by omega) (hI k s s' (by omega) hi h)
theorem iter_congr {σ T : Type} {f g : Nat → σ → σ ⊕ T} {e e' : σ → T} (n : Nat) (h : ∀ k s, k < n → f k s = g k s) (he : ∀ s, e s = e' s) : ∀ r k s, k + r = n → iter f e r k s = iter g e' r k s
  | 0, k, s, h1 => he s
  | r + 1, k, s, h1 => by
    unfold iter
    rw [h k s (by omega)]
    cases g k s with
    | inr t => rfl
    | inl s' => exact iter_congr n h he r (k + 1) s' (by omega)
/-- Where nothing ends the loop early, what holds at first holds at last. -/
theorem iter_inv {σ T : Type} {f : Nat → σ → σ ⊕ T} {e : σ → T} (Q : T → Prop) (n : Nat) (I : Nat → σ → Prop) (hI : ∀ k s s', k < n → I k s → f k s = .inl s' → I (k + 1) s') (hr : ∀ k s t, k < n → I k s → f k s = .inr t → Q t) (he : ∀ s, I n s → Q (e s)) :
    ∀ r k s, k + r = n → I k s → Q (iter f e r k s)
  | 0, k, s, h1, hi => by
    obtain rfl : k = n := by omega
    exact he s hi
  | r + 1, k, s, h1, hi => by
    unfold iter
    cases h : f k s with
    | inr t => exact hr k s t (by omega) hi h
    | inl s' => exact iter_inv Q n I hI hr he r (k + 1) s' (by omega) (hI k s s' (by omega) hi h)
/-- A loop that ends, whatever it answers. -/
theorem loop_some {σ T : Type} (G : Nat → σ → Int → Option T) (n : Nat)
    (hstep : ∀ k s, k < n → (∃ s', ∀ m, G (m + 1) s (k : Int) = G m s' ((k + 1 : Nat) : Int)) ∨ ∃ t, ∀ m, G (m + 1) s (k : Int) = some t)
    (hexit : ∀ s, ∃ t, ∀ m, G (m + 1) s (n : Int) = some t) : ∀ (r m k : Nat) (s : σ), k + r = n → r < m → ∃ t, G m s (k : Int) = some t
  | 0, m, k, s, h1, h2 => by
    obtain ⟨m, rfl⟩ : ∃ q, m = q + 1 := ⟨m - 1, by omega⟩
    obtain rfl : k = n := by omega
    obtain ⟨t, ht⟩ := hexit s
    exact ⟨t, ht m⟩
  | r + 1, m, k, s, h1, h2 => by
    obtain ⟨m, rfl⟩ : ∃ q, m = q + 1 := ⟨m - 1, by omega⟩
    rcases hstep k s (by omega) with ⟨s', h⟩ | ⟨t, h⟩
    · rw [h m]
      exact loop_some G n hstep hexit r m (k + 1) s' (by omega) (by omega)
    · exact ⟨t, h m⟩
theorem wr_nat {k : Nat} (h : k ≤ 9223372036854775807) : wr (k : Int) = k := wr_in (by omega) (by omega)
theorem wr_next {k n : Nat} (h : k < n) (hn : n ≤ 9223372036854775807) : wr ((k : Int) + 1) = ((k + 1 : Nat) : Int) := by rw [wr_in (by omega) (by omega)]; simp

/-! ### Rows that can be read -/
def okR (ts : List LT) (l : List (List AVal)) : Prop := ∀ r ∈ l, chk ts r = true
theorem okR_get {ts : List LT} {l : List (List AVal)} (h : okR ts l) {k : Nat} (hk : k < l.length) : l[k]? = some (l.getD k []) ∧ chk ts (l.getD k []) = true ∧ l.getD k [] ∈ l := by
  have : l.getD k [] = l[k] := by simp [List.getD, hk]
  rw [this]
  exact ⟨List.getElem?_eq_getElem hk, h _ (List.getElem_mem hk), List.getElem_mem hk⟩
theorem chkL_of {P : Program} {t : LT} {v : AVal} (h : Ty P t v) : chkL t v = true := by
  cases h with
  | int k n h => cases k <;> rfl
  | bool b => rfl
  | str s h hb => rfl
  | sl T E rows hl hb hn h => simp [chkL]
theorem chkFrom_of {P : Program} : ∀ (ts : List LT) (j : Nat) (r : List AVal), r.length = j + ts.length → (∀ (i : Nat) (t : LT) (v : AVal), ts[i]? = some t → r[j + i]? = some v → Ty P t v) → chkFrom ts j r = true
  | [], j, r, h1, h2 => rfl
  | t :: ts, j, r, h1, h2 => by
    simp only [List.length_cons] at h1
    have hj : j < r.length := by omega
    have e : r.getD j .dead = r[j] := by simp [List.getD, hj]
    simp only [chkFrom, Bool.and_eq_true, e]
    exact ⟨chkL_of (h2 0 t r[j] rfl (by simp [hj])), chkFrom_of ts (j + 1) r (by omega) fun i t' v p q => h2 (i + 1) t' v (by simpa using p) (by rw [← q]; congr 1; omega)⟩
/-- What a slice's type says of its rows. -/
theorem ty_rows {P : Program} {T E : Nat} {rows : List (List AVal)} (h : Ty P (.sl T E) (.ro E rows)) : rows.length ≤ maxLen ∧ (∀ r ∈ rows, TyL P (leafOf P 8 T) r) ∧ rows.length * P.bytesOf T ≤ reachBytes := by
  cases h with
  | sl _ _ _ hl hb hn h => exact ⟨hl, fun r hr => ⟨hn r hr, fun j t v p q => h r hr j t v p q⟩, hb⟩
theorem okR_of {P : Program} {T E : Nat} {rows : List (List AVal)} {ts : List LT} (hl : leafOf P 8 T = ts) (h : Ty P (.sl T E) (.ro E rows)) : okR ts rows := fun r hr => by
  subst hl
  obtain ⟨q1, q2⟩ := (ty_rows h).2.1 r hr
  unfold chk
  rw [chkFrom_of (P := P) _ 0 r (by omega) fun i t v p q => q2 i t v p (by simpa using q), Bool.and_true]
  simp [q1]
/-- A cell of a row, by its type. -/
theorem tyL_get {P : Program} {ts : List LT} {r : List AVal} (h : TyL P ts r) {j : Nat} {t : LT} (ht : ts[j]? = some t) : Ty P t (r.getD j .dead) := by
  have hj : j < r.length := by rw [h.1]; exact (List.getElem?_eq_some_iff.1 ht).1
  have e : r.getD j .dead = r[j] := by simp [List.getD, hj]
  rw [e]
  exact h.2 j t _ ht (by simp [hj])
theorem tyL_int {P : Program} {ts : List LT} {r : List AVal} (h : TyL P ts r) {j : Nat} (ht : ts[j]? = some (.int .i64)) : -9223372036854775808 ≤ cI r j ∧ cI r j ≤ 9223372036854775807 := by
  obtain ⟨n, e, w⟩ := ty_int (tyL_get h ht)
  unfold cI
  rw [e]
  exact wf_i64 w
theorem tyL_sl {P : Program} {ts : List LT} {r : List AVal} (h : TyL P ts r) {j T E : Nat} (ht : ts[j]? = some (.sl T E)) : Ty P (.sl T E) (.ro E (cR r j)) := by
  obtain ⟨rows, e, w⟩ := ty_sl (tyL_get h ht)
  unfold cR
  rw [e]
  exact w
theorem tyL_str {P : Program} {ts : List LT} {r : List AVal} (h : TyL P ts r) {j : Nat} (ht : ts[j]? = some .str) : (cS r j).size ≤ reachBytes := by
  obtain ⟨s, e, w⟩ := ty_str (tyL_get h ht)
  unfold cS
  rw [e]
  exact w

end Go.Proofs.YteiniiakpdijmaaDoor.AI
