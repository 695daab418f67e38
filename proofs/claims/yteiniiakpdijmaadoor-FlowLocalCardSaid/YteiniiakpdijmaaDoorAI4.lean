/- Each operation: what the interpreter says is what the machine does. Reading and writing. -/
import Derived.Test.YteiniiakpdijmaaDoorAI3
import Derived.ChangeKeysEq
namespace Go.Proofs.YteiniiakpdijmaaDoor.AI
open Go.RowKit
set_option linter.unusedVariables false

def Gives {α : Type} (m : AM α) (s : F) (a : α) (s' : F) : Prop := ∃ es, m.trace s = some (a, s', es)

section
variable {α β : Type}

theorem trace_bind (m : AM α) (f : α → AM β) : ∀ (s : F) (b : β) (s' : F) (es : List Ev), (m.bind f).trace s = some (b, s', es) →
    ∃ a s1 e1 e2, m.trace s = some (a, s1, e1) ∧ (f a).trace s1 = some (b, s', e2) := by
  induction m with
  | ret a => exact fun s b s' es h => ⟨a, s, [], es, rfl, h⟩
  | fail => intro s b s' es h; cases h
  | test c t e iht ihe =>
    intro s b s' es h
    simp only [AM.bind, AM.trace] at h ⊢
    by_cases hc : c = true
    · rw [if_pos hc] at h ⊢; exact iht _ _ _ _ h
    · rw [if_neg hc] at h ⊢; exact ihe _ _ _ _ h
  | br t kt ke ko iht ihe iho =>
    intro s b s' es h
    simp only [AM.bind, AM.trace] at h ⊢
    obtain ⟨es', h0, _⟩ := evs_some h
    clear h
    split at h0
    · split at h0
      · rename_i hb
        obtain ⟨a, s1, e1, e2, h1, h2⟩ := iht _ _ _ _ h0
        exact ⟨a, s1, _, e2, by rw [if_pos hb, h1]; rfl, h2⟩
      · rename_i hb
        obtain ⟨a, s1, e1, e2, h1, h2⟩ := ihe _ _ _ _ h0
        exact ⟨a, s1, _, e2, by rw [if_neg hb, h1]; rfl, h2⟩
    · obtain ⟨a, s1, e1, e2, h1, h2⟩ := iho _ _ _ _ _ h0
      exact ⟨a, s1, _, e2, by rw [h1]; rfl, h2⟩
  | getT t kk ih =>
    intro s b s' es h
    simp only [AM.bind, AM.trace] at h ⊢
    obtain ⟨es', h0, _⟩ := evs_some h
    obtain ⟨a, s1, e1, e2, h1, h2⟩ := ih _ _ _ _ _ h0
    exact ⟨a, s1, _, e2, by rw [h1]; rfl, h2⟩
  | setT t v kk ih =>
    intro s b s' es h
    simp only [AM.bind, AM.trace] at h ⊢
    split at h
    · rename_i hlt
      obtain ⟨es', h0, _⟩ := evs_some h
      obtain ⟨a, s1, e1, e2, h1, h2⟩ := ih _ _ _ _ h0
      exact ⟨a, s1, _, e2, by rw [if_pos hlt, h1]; rfl, h2⟩
    · cases h
  | getK key kk ih =>
    intro s b s' es h
    simp only [AM.bind, AM.trace] at h ⊢
    obtain ⟨es', h0, _⟩ := evs_some h
    obtain ⟨a, s1, e1, e2, h1, h2⟩ := ih _ _ _ _ _ h0
    exact ⟨a, s1, _, e2, by rw [h1]; rfl, h2⟩
  | setK key bb kk ih =>
    intro s b s' es h
    simp only [AM.bind, AM.trace] at h ⊢
    obtain ⟨es', h0, _⟩ := evs_some h
    obtain ⟨a, s1, e1, e2, h1, h2⟩ := ih _ _ _ _ h0
    exact ⟨a, s1, _, e2, by rw [h1]; rfl, h2⟩
  | row o kk ih =>
    intro s b s' es h
    cases o with
    | none => cases h
    | some x => exact ih x _ _ _ _ h
  | call c kk ih =>
    intro s b s' es h
    simp only [AM.bind, AM.trace] at h ⊢
    cases hc : c.o with
    | none => rw [hc] at h; cases h
    | some x => rw [hc] at h; exact ih x _ _ _ _ h

variable {s s' : F} {b : β} {a : α}
theorem Gives.bind {m : AM α} {f : α → AM β} (h : Gives (m.bind f) s b s') : ∃ a s1, Gives m s a s1 ∧ Gives (f a) s1 b s' := by
  obtain ⟨es, h⟩ := h
  obtain ⟨a, s1, e1, e2, h1, h2⟩ := trace_bind m f s b s' es h
  exact ⟨a, s1, ⟨e1, h1⟩, ⟨e2, h2⟩⟩
theorem Gives.ret {x : α} (h : Gives (.ret x) s a s') : a = x ∧ s' = s := by
  obtain ⟨es, h⟩ := h
  simp only [AM.trace, Option.some.injEq, Prod.mk.injEq] at h
  exact ⟨h.1.symm, h.2.1.symm⟩
theorem Gives.fail {p : Prop} (h : Gives (.fail : AM α) s a s') : p := by
  obtain ⟨es, h⟩ := h
  cases h
theorem Gives.test {c : Bool} {t e : AM α} (h : Gives (.test c t e) s a s') : (c = true ∧ Gives t s a s') ∨ (c = false ∧ Gives e s a s') := by
  obtain ⟨es, h⟩ := h
  simp only [AM.trace] at h
  cases c with
  | true => exact .inl ⟨rfl, es, h⟩
  | false => exact .inr ⟨rfl, es, h⟩
/-- A test whose other way fails. -/
theorem Gives.assert {c : Bool} {t : AM α} (h : Gives (.test c t .fail) s a s') : c = true ∧ Gives t s a s' := by
  rcases h.test with h | h
  · exact h
  · exact h.2.fail
theorem Gives.deny {c : Bool} {e : AM α} (h : Gives (.test c .fail e) s a s') : c = false ∧ Gives e s a s' := by
  rcases h.test with h | h
  · exact h.2.fail
  · exact h
theorem Gives.getT {t : Nat} {k : AVal → AM α} (h : Gives (.getT t k) s a s') : Gives (k (s.tmp t)) s a s' := by
  obtain ⟨es, h⟩ := h
  simp only [AM.trace] at h
  obtain ⟨es', h0, _⟩ := evs_some h
  exact ⟨_, h0⟩
theorem Gives.setT {t : Nat} {v : AVal} {k : AM α} (h : Gives (.setT t v k) s a s') : t < s.N ∧ Gives k (s.setT t v) a s' := by
  obtain ⟨es, h⟩ := h
  simp only [AM.trace] at h
  split at h
  · rename_i hlt
    obtain ⟨es', h0, _⟩ := evs_some h
    exact ⟨hlt, _, h0⟩
  · cases h
theorem Gives.getK {t : Nat} {k : Option Blk → AM α} (h : Gives (.getK t k) s a s') : Gives (k (s.key t)) s a s' := by
  obtain ⟨es, h⟩ := h
  simp only [AM.trace] at h
  obtain ⟨es', h0, _⟩ := evs_some h
  exact ⟨_, h0⟩
theorem Gives.setK {t : Nat} {v : Blk} {k : AM α} (h : Gives (.setK t v k) s a s') : Gives k (s.setK t v) a s' := by
  obtain ⟨es, h⟩ := h
  simp only [AM.trace] at h
  obtain ⟨es', h0, _⟩ := evs_some h
  exact ⟨_, h0⟩
theorem Gives.row {o : Option (List AVal)} {k : List AVal → AM α} (h : Gives (.row o k) s a s') : ∃ r, o = some r ∧ Gives (k r) s a s' := by
  obtain ⟨es, h⟩ := h
  cases o with
  | none => cases h
  | some r => exact ⟨r, rfl, es, h⟩
theorem Gives.call {o : Call} {k : CR → AM α} (h : Gives (.call o k) s a s') : ∃ r, o.o = some r ∧ Gives (k r) s a s' := by
  obtain ⟨es, h⟩ := h
  simp only [AM.trace] at h
  cases hc : o.o with
  | none => rw [hc] at h; cases h
  | some r => rw [hc] at h; exact ⟨r, rfl, es, h⟩
theorem verEq_eq {a b : Nat} (h : verEq a b = true) : a = b := nbeq_eq h
theorem Gives.br {t : Nat} {kt ke : AM α} {ko : AVal → AM α} (h : Gives (.br t kt ke ko) s a s') :
    (s.tmp t = .sc (.bool true) ∧ Gives kt s a s') ∨ (s.tmp t = .sc (.bool false) ∧ Gives ke s a s') ∨ ((∀ b, s.tmp t ≠ .sc (.bool b)) ∧ Gives (ko (s.tmp t)) s a s') := by
  obtain ⟨es, h⟩ := h
  simp only [AM.trace] at h
  obtain ⟨es', h0, _⟩ := evs_some h
  clear h
  split at h0
  · rename_i b hb
    cases b with
    | true => exact .inl ⟨hb, _, h0⟩
    | false => exact .inr (.inl ⟨hb, _, h0⟩)
  · rename_i hn
    exact .inr (.inr ⟨fun b e => hn b e, _, h0⟩)
end

structure TOk (P : Program) (TT : TypeId → Option TI) : Prop where
  desc : ∀ t ti, TT t = some ti → P.underlying t = some ti.desc
  eqOk : ∀ t ti, TT t = some ti → ti.eqOk = true → P.stoodInHeld t = false ∧ P.eqGuardType P.depth t = false
  info : ∀ t ti, TT t = some ti → ∃ i z, P.info? t = some i ∧ i.size = ti.size ∧ i.bytes = ti.bytes ∧ i.zero = some z ∧ z.cells.toList = ti.zero ∧
    ti.leaf.length = ti.size ∧ ti.zero.length = ti.size ∧ ∀ c ∈ ti.zero, oneC c = true

section
variable {P : Program} {TT : TypeId → Option TI} {X : Ctx} {env : Nat → Option Ent} {Z : Nat → Prop} {s s1 : F} {a : Act} {w : World}

theorem add_mk (b o j : Nat) : (⟨b, o, none⟩ : Addr).add j = ⟨b, o + j, none⟩ := by
  unfold Addr.add; split <;> simp_all
theorem oneC_eq (v : Value) : oneC v = v.oneCell' := by cases v <;> rfl
theorem cells_one {c : Value} (h : oneC c = true) : c.cells = #[c] := by cases c <;> first | rfl | cases h

theorem run_sizeOf' {t : TypeId} {i : TypeInfo} (h : P.info? t = some i) (w : World) : (sizeOf t).run P w = .ok i.size w := by
  simp [sizeOf, typeInfo, h]

theorem run_isAgg {t : TypeId} {d : TypeDesc} (h : P.underlying t = some d) (w : World) : (isAgg t).run P w = .ok (isAggD d) w := by
  simp only [isAgg, Sem.run_bind, run_underlying h, Result.andThen_ok]
  cases d <;> rfl

/-- A value's cells, as they lie in memory. -/
def Cells (env : Nat → Option Ent) (Z : Nat → Prop) (w : World) (b o : Nat) (f : Nat → Value) (l : List AVal) : Prop :=
  ∀ (j : Nat) (v : AVal), l[j]? = some v → w.cell? ⟨b, o + j, none⟩ = some (f j) ∧ VRel env Z w v (f j)

theorem Cells.drop {b o : Nat} {f : Nat → Value} {l : List AVal} (h : Cells env Z w b o f l) (n : Nat) : Cells env Z w b (o + n) (fun j => f (n + j)) (l.drop n) := by
  intro j v hv
  rw [List.getElem?_drop] at hv
  have := h (n + j) v hv
  rw [Nat.add_assoc]
  exact this

theorem loadA_sim (hT : TOk P TT) {t : TypeId} {l : List AVal} {v : AVal} {b o : Nat} {f : Nat → Value} (h : Gives (loadA TT t l) s v s1) (hc : Cells env Z w b o f l) :
    s1 = s ∧ ∃ c, (loadVar t ⟨b, o, none⟩).run P w = .ok c w ∧ VRel env Z w v c := by
  unfold loadA at h
  cases ht : TT t with
  | none => rw [ht] at h; exact h.fail
  | some ti =>
    rw [ht] at h
    simp only at h
    have hd := hT.desc t ti ht
    by_cases hg : isAggD ti.desc = true
    · rw [if_pos hg] at h
      obtain ⟨h1, h2⟩ := h.assert
      obtain ⟨rfl, rfl⟩ := h2.ret
      have hle : ti.size ≤ l.length := Nat.le_of_ble_eq_true h1
      obtain ⟨i, z, hi, hsz, _⟩ := hT.info t ti ht
      refine ⟨rfl, .agg ((List.range ti.size).map f).toArray, ?_, ?_⟩
      · simp only [loadVar, Sem.run_bind, run_isAgg hd, Result.andThen_ok, hg, if_true, run_sizeOf' hi, hsz]
        rw [run_loadCells w ⟨b, o, none⟩ ti.size f (fun j hj => by rw [add_mk]; exact (hc j l[j] (by simp [show j < l.length by omega])).1)]
        rfl
      · refine .agg _ _ (by simp; omega) fun j u c hu hcj => ?_
        rw [List.getElem?_take] at hu
        split at hu
        · rename_i hj
          simp [hj] at hcj
          subst hcj
          exact (hc j u hu).2
        · cases hu
    · rw [if_neg hg] at h
      cases l with
      | nil => exact h.fail
      | cons x rest =>
        obtain ⟨rfl, rfl⟩ := h.ret
        have := hc 0 v rfl
        refine ⟨rfl, f 0, ?_, this.2⟩
        have hg' : isAggD ti.desc = false := by simpa using hg
        simp only [loadVar, Sem.run_bind, run_isAgg hd, Result.andThen_ok, hg', Bool.false_eq_true, if_false]
        simp only [load, Sem.run]
        rw [show (⟨b, o, none⟩ : Addr) = ⟨b, o + 0, none⟩ from rfl, this.1]

/-- A row's width says nothing where there are no rows. -/
theorem ro_norm {E E' : Nat} {rows : List (List AVal)} {c : Value} (h : (Nat.beq E' E || rows.isEmpty) = true) (hv : VRel env Z w (.ro E' rows) c) : VRel env Z w (.ro E rows) c := by
  simp only [Bool.or_eq_true, List.isEmpty_iff] at h
  rcases h with h | rfl
  · rw [← nbeq_eq h]; exact hv
  · cases hv <;> exact .roE _ _ _

theorem chkL_dec {t : LT} {v : AVal} {c : Value} (h : chkL t v = true) (hv : VRel env Z w v c) : VRel env Z w (decL t v) c := by
  cases t with
  | int k =>
    cases v <;> first | cases h | skip
    rename_i x
    cases x <;> first | cases h | skip
    rename_i k' n
    cases hv
    have : k' = k := by cases k <;> cases k' <;> first | rfl | cases h
    subst this
    exact .sc _
  | bool =>
    cases v <;> first | cases h | skip
    rename_i x
    cases x <;> first | cases h | skip
    exact hv
  | str =>
    cases v <;> first | cases h | skip
    rename_i x
    cases x <;> first | cases h | skip
    exact hv
  | sl T E =>
    cases v <;> first | cases h | skip
    · cases hv
      exact .roE _ _ _
    · rename_i E' rows
      exact ro_norm h hv
  | other =>
    cases v <;> first | cases h | exact hv

theorem decL_flat {t : LT} {v : AVal} (h : chkL t v = true) : flat (decL t v) = true := by
  cases t <;> first | rfl | (cases v <;> first | cases h | exact h)

theorem decFrom_get : ∀ (ts : List LT) (j : Nat) (r : List AVal), chkFrom ts j r = true → ∀ (i : Nat) (v : AVal), (decFrom ts j r)[i]? = some v →
    ∃ t, v = decL t (r.getD (j + i) .dead) ∧ chkL t (r.getD (j + i) .dead) = true
  | [], _, _, _, i, v, hv => by simp [decFrom] at hv
  | t :: ts, j, r, h, 0, v, hv => by
    simp only [chkFrom, Bool.and_eq_true] at h
    simp only [decFrom, List.getElem?_cons_zero, Option.some.injEq] at hv
    exact ⟨t, hv.symm, h.1⟩
  | t :: ts, j, r, h, i + 1, v, hv => by
    simp only [chkFrom, Bool.and_eq_true] at h
    simp only [decFrom, List.getElem?_cons_succ] at hv
    obtain ⟨t', h1, h2⟩ := decFrom_get ts (j + 1) r h.2 i v hv
    rw [show j + 1 + i = j + (i + 1) by omega] at h1 h2
    exact ⟨t', h1, h2⟩

theorem decFrom_length : ∀ (ts : List LT) (j : Nat) (r : List AVal), (decFrom ts j r).length = ts.length
  | [], _, _ => rfl
  | t :: ts, j, r => by simp [decFrom, decFrom_length ts]

/-- A row that was looked at: each cell, as it was told. -/
theorem dec_get {ts : List LT} {r : List AVal} (h : chk ts r = true) {j : Nat} {v : AVal} (hv : (dec ts r)[j]? = some v) :
    flat v = true ∧ ∃ u, r[j]? = some u ∧ ∀ (env : Nat → Option Ent) (Z : Nat → Prop) (w : World) (c : Value), VRel env Z w u c → VRel env Z w v c := by
  simp only [chk, Bool.and_eq_true] at h
  have hlen := nbeq_eq h.1
  obtain ⟨t, h1, h2⟩ := decFrom_get ts 0 r h.2 j v hv
  rw [Nat.zero_add] at h1 h2
  have hj : j < r.length := by
    have : j < (decFrom ts 0 r).length := (List.getElem?_eq_some_iff.1 hv).1
    rw [decFrom_length] at this
    omega
  have hr : r.getD j .dead = r[j] := by simp [List.getD, hj]
  rw [hr] at h1 h2
  exact ⟨by rw [h1]; exact decL_flat h2, r[j], by simp [hj], fun env Z w c hc => by rw [h1]; exact chkL_dec h2 hc⟩

theorem chk_len {ts : List LT} {r : List AVal} (h : chk ts r = true) : r.length = ts.length := by
  simp only [chk, Bool.and_eq_true] at h
  exact nbeq_eq h.1

theorem Cells.dec {ts : List LT} {b o : Nat} {f : Nat → Value} {r : List AVal} (h : Cells env Z w b o f r) (hk : chk ts r = true) : Cells env Z w b o f (dec ts r) := by
  intro j v hv
  obtain ⟨_, u, hu, hh⟩ := dec_get hk hv
  exact ⟨(h j u hu).1, hh _ _ _ _ (h j u hu).2⟩

theorem cell_block {g o T : Nat} {cs : Array Value} {c : Value} (h : w.heap[g]? = some (.cells cs T (0, 0))) (hc : cs[o]? = some c) : w.cell? ⟨g, o, none⟩ = some c := by
  simp [World.cell?, h, hc]

/-- The cells of a row of an array, or of a box. -/
theorem BRel.row {b : Blk} {e : Ent} (h : BRel env Z w b e) {i : Nat} {r : List AVal} (hr : b.rows[i]? = some r) (hi : b.kind = .box → i = 0) (hns : b.kind.isNs = false) {g : Nat} (hg : ob e.v = some g) :
    ∃ f, Cells env Z w g (i * b.E) f r := by
  by_cases hk : b.kind = .box
  · obtain ⟨g', cs, r', h1, h2, h3, h4, h5, h6⟩ := h.box hk
    obtain rfl := hi hk
    rw [h2] at hr
    simp only [List.getElem?_cons_zero, Option.some.injEq] at hr
    subst hr
    rw [h1] at hg
    simp only [ob, Option.some.injEq] at hg
    subst hg
    refine ⟨fun j => cs.getD j undef, fun j v hv => ?_⟩
    have hj : j < cs.size := by rw [← h5]; exact (List.getElem?_eq_some_iff.1 hv).1
    have hcs : cs[j]? = some (cs.getD j undef) := by simp [hj]
    refine ⟨?_, (h6 j v _ hv hcs).1⟩
    rw [Nat.zero_mul, Nat.zero_add]
    exact cell_block h3 hcs
  · rcases h.arr (by cases hkk : b.kind <;> first | rfl | exact absurd hkk hk | (rw [hkk] at hns; exact absurd hns (by simp [BKind.isNs]))) with ⟨h0, _⟩ | ⟨g', cap, cs, h1, h2, h3, h4, h5, h6, h7, h8, h9⟩
    · rw [h0] at hr; simp at hr
    · rw [h1] at hg
      simp only [ob] at hg
      rw [if_neg (by omega)] at hg
      simp only [Option.some.injEq] at hg
      subst hg
      refine ⟨fun j => cs.getD (i * b.E + j) undef, fun j v hv => ?_⟩
      obtain ⟨c, q1, q2, _⟩ := h9 i j r v hr hv
      have : cs.getD (i * b.E + j) undef = c := by rw [Array.getD_eq_getD_getElem?, q1]; rfl
      show _ = some (cs.getD (i * b.E + j) undef) ∧ VRel env Z w v (cs.getD (i * b.E + j) undef)
      rw [this]
      exact ⟨cell_block h2 q1, q2⟩

theorem VRel.inv_ref {k n i j : Nat} {c : Value} (h : VRel env Z w (.ref k n i j) c) {e : Ent} (he : env k = some e) (hn : n = e.n) :
    i < n ∧ ∃ b, ob e.v = some b ∧ c = .pointer (some ⟨b, i * e.E + j, none⟩) := by
  cases h with
  | ref _ _ _ _ _ e' he' _ _ hh =>
    rw [he] at he'
    simp only [Option.some.injEq] at he'
    subst he'
    exact hh hn

theorem VRel.ref_ent {k n i j : Nat} {c : Value} (h : VRel env Z w (.ref k n i j) c) : ∃ e, env k = some e ∧ n ≤ e.n := by
  cases h with
  | ref _ _ _ _ _ e' he' hle _ _ => exact ⟨e', he', hle⟩

theorem VRel.ipt_ent {k n i j E : Nat} {c : Value} (h : VRel env Z w (.ipt k n i j E) c) : ∃ e, env k = some e ∧ n ≤ e.n ∧
    (n = e.n → e.st = 0 → ∃ g o len cap, e.sub[i]? = some (.slice (some ⟨g, o, none⟩) len cap) ∧ 0 < cap ∧ j < len ∧ c = .pointer (some ⟨g, o + j * E, none⟩)) := by
  cases h with
  | ipt _ _ _ _ _ _ e' he' hle hh => exact ⟨e', he', hle, hh⟩
theorem VRel.inn_ent {k n i st : Nat} {c : Value} (h : VRel env Z w (.inn k n i st) c) : ∃ e, env k = some e ∧ n ≤ e.n ∧ (n = e.n → e.st = st → e.sub[i]? = some c ∧ (st = 1 → e.pos = i)) := by
  cases h with
  | inn _ _ _ _ _ e' he' hle _ hh => exact ⟨e', he', hle, hh⟩

/-- The rows of an inner slice. -/
theorem innRow_sim {T E st q : Nat} {b : Blk} {e : Ent} {rr : List (List AVal)} (hN : NRel env Z w b e st T E) (h : Gives (innRow T E b q) s rr s1) :
    s1 = s ∧ ∃ c, e.sub[q]? = some c ∧ b.rows[q]? = some [.ro E rr] ∧ SubR env Z w T E c rr := by
  unfold innRow at h
  obtain ⟨r, hr, h1⟩ := h.row
  obtain ⟨_, h2⟩ := h1.assert
  obtain ⟨rfl, rfl⟩ := h2.ret
  have hq : q < b.rows.length := (List.getElem?_eq_some_iff.1 hr).1
  have hq' : q < e.sub.length := by rw [hN.len]; exact hq
  obtain ⟨rr', h3, h4⟩ := hN.inn q r e.sub[q] hr (by simp [hq'])
  subst h3
  exact ⟨rfl, e.sub[q], by simp [hq'], hr, h4⟩

theorem loadOp_sim (hT : TOk P TT) {t : TypeId} {x v : AVal} {c : Value} (h : Gives (loadOp TT t x) s v s1) (hR : Rel X env Z s a w) (hx : VRel env Z w x c) :
    s1 = s ∧ ∃ u, (Instr.loadAt t c).run P w = .ok u w ∧ VRel env Z w v u := by
  unfold loadOp at h
  cases x with
  | rptr l =>
    cases hx with
    | rptr _ b o f hz hc hh =>
      obtain ⟨rfl, u, h1, h2⟩ := loadA_sim hT (b := b) (o := o) (f := f) h fun j v hv => ⟨(hc j v hv).2.2, hh j v hv⟩
      exact ⟨rfl, u, by simp only [Instr.loadAt, Instr.sureAddr, Sem.run_bind, Sem.run_pure, Result.andThen_ok]; exact h1, h2⟩
  | ref k n i j =>
    have h := h.getK
    cases hb : s.key k with
    | none => rw [hb] at h; exact h.fail
    | some b =>
      rw [hb] at h
      simp only at h
      obtain ⟨e, he, hle⟩ := hx.ref_ent
      have hB := hR.blk k b e hb he
      cases hkk : b.kind with
      | ns st T E =>
        rw [hkk] at h
        simp only at h
        cases hq : (Nat.beq st 0 && Nat.beq t b.T && Nat.beq j 0 && isSlT TT t) with
        | false => rw [hq] at h; exact h.fail
        | true =>
          rw [hq] at h
          obtain ⟨h1, h2⟩ := h.assert
          obtain ⟨rfl, rfl⟩ := h2.ret
          simp only [Bool.and_eq_true] at hq
          obtain ⟨⟨⟨q1, q2⟩, q3⟩, q4⟩ := hq
          have q1 := nbeq_eq q1
          have q3 := nbeq_eq q3
          subst q1 q3
          have hn := verEq_eq h1
          obtain ⟨hlt, g, hg, rfl⟩ := hx.inv_ref he (by rw [hB.hn]; exact hn.symm)
          have hN := hB.ns _ _ _ hkk
          have hi : i < e.sub.length := by rw [hN.len]; omega
          rcases hN.out with ⟨h0, _⟩ | ⟨g', cap, cs, p1, p2, p3, p4, p5, p6, p7, p8⟩
          · rw [h0] at hn; simp at hn; omega
          · rw [p1] at hg
            simp only [ob] at hg
            rw [if_neg (by omega)] at hg
            simp only [Option.some.injEq] at hg
            subst hg
            have hc := p8 i e.sub[i] (by simp [hi]) (fun h => by cases h)
            refine ⟨rfl, e.sub[i], ?_, .inn k n i 0 _ e he hle (fun _ => Nat.zero_le _) fun _ _ => ⟨by simp [hi], fun h => by cases h⟩⟩
            unfold isSlT at q4
            cases ht : TT t with
            | none => rw [ht] at q4; cases q4
            | some ti =>
              rw [ht] at q4
              simp only at q4
              have hd := hT.desc t ti ht
              have hg' : isAggD ti.desc = false := by cases hdd : ti.desc <;> first | rfl | (rw [hdd] at q4; cases q4)
              simp only [Instr.loadAt, Instr.sureAddr, Sem.run_bind, Sem.run_pure, Result.andThen_ok, loadVar, run_isAgg hd, hg', Bool.false_eq_true, if_false, load, Sem.run]
              rw [hB.hE, hN.one, Nat.mul_one, Nat.add_zero, cell_block p2 hc]
      | box | arr | frz | dfr =>
      -- the row, and what is loaded of it
      have key : ∃ r r', b.rows[i]? = some r ∧ (b.kind = .box → i = 0) ∧ b.rows.length = n ∧ Gives (loadA TT t (r'.drop j)) s v s1 ∧ (∀ g f, Cells env Z w g (i * b.E) f r → Cells env Z w g (i * b.E) f r') := by
        rw [hkk] at h
        simp only at h
        first
        | obtain ⟨h1, h2⟩ := h.assert
          revert h2
          split
          · rename_i r hrow _
            intro h2
            exact ⟨r, r, by rw [hrow]; rfl, fun _ => rfl, nbeq_eq h1, h2, fun g f hc => hc⟩
          · intro h2; exact h2.fail
        | cases ht : TT b.T with
          | none => rw [ht] at h; exact h.fail
          | some te =>
            rw [ht] at h
            obtain ⟨h1, h2⟩ := h.assert
            obtain ⟨r, hr, h3⟩ := h2.row
            obtain ⟨h4, h5⟩ := h3.assert
            exact ⟨r, _, hr, fun hb' => (by rw [hb'] at hkk; cases hkk), nbeq_eq h1, h5, fun g f hc => hc.dec h4⟩
      obtain ⟨r, r', hr, hbx, hn, hl, hcc⟩ := key
      obtain ⟨_, g, hg, rfl⟩ := hx.inv_ref he (by rw [hB.hn]; exact hn.symm)
      obtain ⟨f, hf⟩ := hB.row hr hbx (by rw [hkk]; rfl) hg
      obtain ⟨rfl, u, h1, h2⟩ := loadA_sim hT hl ((hcc g f hf).drop j)
      exact ⟨rfl, u, by simp only [Instr.loadAt, Instr.sureAddr, Sem.run_bind, Sem.run_pure, Result.andThen_ok]; rw [hB.hE]; exact h1, h2⟩
  | ipt k n q j E =>
    have h := h.getK
    cases hb : s.key k with
    | none => rw [hb] at h; exact h.fail
    | some b =>
      rw [hb] at h
      simp only at h
      split at h
      · rename_i T E' hkk
        cases hE : Nat.beq E E' with
        | false => rw [hE] at h; exact h.fail
        | true =>
          rw [hE] at h
          simp only [cond_true] at h
          have hE := nbeq_eq hE
          subst hE
          cases ht : TT T with
          | none => rw [ht] at h; exact h.fail
          | some te =>
            rw [ht] at h
            simp only at h
            obtain ⟨h1, h2⟩ := h.assert
            obtain ⟨rr, s2, h3, h4⟩ := h2.bind
            obtain ⟨e, he, hle, hh⟩ := hx.ipt_ent
            have hB := hR.blk k b e hb he
            have hN := hB.ns _ _ _ hkk
            obtain ⟨rfl, d, hd, hrow, hS⟩ := innRow_sim hN h3
            obtain ⟨r1, hr1, h5⟩ := h4.row
            obtain ⟨h6, h7⟩ := h5.assert
            obtain ⟨g, o, len, cap, p1, p2, p3, rfl⟩ := hh (by rw [hB.hn]; exact (verEq_eq h1).symm) (by rw [hB.hst, hkk]; rfl)
            rw [hd] at p1
            simp only [Option.some.injEq] at p1
            subst p1
            rcases hS.mem with ⟨h0, _⟩ | ⟨g', o', cap', cs, m1, m2, m3, m4, m5, m6, m7, m8⟩
            · rw [h0] at hr1; simp at hr1
            · simp only [Value.slice.injEq, Option.some.injEq, Addr.mk.injEq, and_true] at m1
              obtain ⟨⟨rfl, rfl⟩, rfl, rfl⟩ := m1
              have hc : Cells env Z w g (o + j * E) (fun q => cs.getD (o + (j * E + q)) undef) r1 := fun q u hu => by
                obtain ⟨c, q1, q2, _⟩ := m8 j q r1 u hr1 hu
                have : cs.getD (o + (j * E + q)) undef = c := by rw [Array.getD_eq_getD_getElem?, q1]; rfl
                show _ = some (cs.getD (o + (j * E + q)) undef) ∧ VRel env Z w u (cs.getD (o + (j * E + q)) undef)
                rw [this, Nat.add_assoc]
                exact ⟨cell_block m2 q1, q2⟩
              obtain ⟨rfl, u, k1, k2⟩ := loadA_sim hT h7 (hc.dec h6)
              exact ⟨rfl, u, by simp only [Instr.loadAt, Instr.sureAddr, Sem.run_bind, Sem.run_pure, Result.andThen_ok]; exact k1, k2⟩
      · exact h.fail
  | _ => exact h.fail
end

end Go.Proofs.YteiniiakpdijmaaDoor.AI
