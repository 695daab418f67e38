/- The interpreter's run as a step between states that are functions; a region's operations in any order. -/
import Derived.Test.YteiniiakpdijmaaDoorAI1
namespace Go.Proofs.YteiniiakpdijmaaDoor.AI
set_option linter.unusedVariables false

/-- A state as functions. -/
structure F where
  N : Nat
  tmp : Nat → AVal
  key : Nat → Option Blk

def F.setT (s : F) (t : Nat) (v : AVal) : F := { s with tmp := fun u => if u = t then v else s.tmp u }
def F.setK (s : F) (k : Nat) (b : Blk) : F := { s with key := fun l => if l = k then some b else s.key l }

def F.Same (s u : F) : Loc → Prop
  | .tmp t => s.tmp t = u.tmp t
  | .key k => s.key k = u.key k

theorem F.ext_same {s u : F} (hN : s.N = u.N) (h : ∀ l, s.Same u l) : s = u := by
  obtain ⟨n, t, k⟩ := s
  obtain ⟨n', t', k'⟩ := u
  have h1 : t = t' := funext fun x => h (.tmp x)
  have h2 : k = k' := funext fun x => h (.key x)
  simp only at hN
  subst hN h1 h2
  rfl

theorem Loc.beq_iff (a b : Loc) : a.beq b = true ↔ a = b := by
  cases a <;> cases b <;> simp [Loc.beq]

def St.toF (s : St) : F := ⟨s.tmps.length, fun t => s.tmps.getD t .dead, lookK s.heap⟩

def evs (e : Ev) {α : Type} : Option (α × F × List Ev) → Option (α × F × List Ev)
  | some (a, s, es) => some (a, s, e :: es)
  | none => none

def AM.trace {α : Type} : AM α → F → Option (α × F × List Ev)
  | .ret a, s => some (a, s, [])
  | .fail, _ => none
  | .test b t e, s => if b = true then t.trace s else e.trace s
  | .br t kt ke ko, s => evs ⟨false, .tmp t⟩ (match s.tmp t with
    | .sc (.bool b) => if b = true then kt.trace s else ke.trace s
    | v => (ko v).trace s)
  | .getT t k, s => evs ⟨false, .tmp t⟩ ((k (s.tmp t)).trace s)
  | .setT t v k, s => if t < s.N then evs ⟨true, .tmp t⟩ (k.trace (s.setT t v)) else none
  | .getK key k, s => evs ⟨false, .key key⟩ ((k (s.key key)).trace s)
  | .setK key b k, s => evs ⟨true, .key key⟩ (k.trace (s.setK key b))
  | .row o k, s => match o with | some r => (k r).trace s | none => none
  | .call c k, s => match c.o with | some r => (k r).trace s | none => none

theorem nbeq_ne {a b : Nat} (h : a ≠ b) : Nat.beq a b = false := by
  cases e : Nat.beq a b with
  | false => rfl
  | true => exact absurd (Nat.eq_of_beq_eq_true e) h
theorem nbeq_eq {a b : Nat} (h : Nat.beq a b = true) : a = b := Nat.eq_of_beq_eq_true h
theorem nblt {a b : Nat} (h : Nat.blt a b = true) : a < b := by
  unfold Nat.blt at h
  exact Nat.le_of_ble_eq_true h

theorem setAt_length : ∀ (l : List AVal) (n : Nat) (v : AVal), (setAt l n v).length = l.length
  | [], _, _ => rfl
  | _ :: _, 0, _ => rfl
  | _ :: l, n + 1, v => by simp [setAt, setAt_length l n v]

theorem setAt_getD : ∀ (l : List AVal) (n : Nat) (v : AVal) (m : Nat), (setAt l n v).getD m .dead = if m = n ∧ n < l.length then v else l.getD m .dead
  | [], n, v, m => by simp [setAt]
  | x :: l, 0, v, 0 => by simp [setAt]
  | x :: l, 0, v, m + 1 => by simp [setAt]
  | x :: l, n + 1, v, 0 => by simp [setAt]
  | x :: l, n + 1, v, m + 1 => by
    have := setAt_getD l n v m
    simp only [setAt, List.getD_cons_succ, this, List.length_cons]
    congr 1
    simp

theorem toF_setAt (s : St) (t : Nat) (v : AVal) (h : t < s.tmps.length) : St.toF ⟨setAt s.tmps t v, s.heap⟩ = s.toF.setT t v := by
  apply F.ext_same
  · simp [St.toF, F.setT, setAt_length]
  · intro l
    cases l with
    | tmp u =>
      show (setAt s.tmps t v).getD u .dead = if u = t then v else s.tmps.getD u .dead
      rw [setAt_getD]
      by_cases hu : u = t
      · simp [hu, h]
      · simp [hu]
    | key k => rfl

theorem toF_setAt_same (s : St) (t : Nat) (v : AVal) (h : s.tmps.getD t .dead = v) (hd : v ≠ .dead) : St.toF ⟨setAt s.tmps t v, s.heap⟩ = s.toF := by
  have hlt : t < s.tmps.length := by
    rcases Nat.lt_or_ge t s.tmps.length with h' | h'
    · exact h'
    · rw [List.getD_eq_getElem?_getD, List.getElem?_eq_none h'] at h; exact absurd h.symm hd
  rw [toF_setAt s t v hlt]
  apply F.ext_same
  · rfl
  · intro l
    cases l with
    | tmp u =>
      show (if u = t then v else s.tmps.getD u .dead) = s.tmps.getD u .dead
      by_cases hu : u = t
      · subst hu; rw [if_pos rfl]; exact h.symm
      · rw [if_neg hu]
    | key k => rfl

theorem lookK_putK : ∀ (h : List (Nat × Blk)) (k : Nat) (b : Blk) (l : Nat), lookK (putK h k b) l = if l = k then some b else lookK h l
  | [], k, b, l => by
    by_cases hl : l = k
    · simp [putK, lookK, hl]
    · have : Nat.beq k l = false := nbeq_ne (by omega)
      simp [putK, lookK, this, hl]
  | (k', b') :: h, k, b, l => by
    have ih := lookK_putK h k b l
    by_cases hk : k' = k
    · subst hk
      by_cases hl : l = k'
      · subst hl; simp [putK, lookK]
      · have : Nat.beq k' l = false := nbeq_ne (by omega)
        simp [putK, lookK, this, hl]
    · have hb : Nat.beq k' k = false := nbeq_ne hk
      by_cases hl : l = k
      · subst hl
        have ih' := ih
        simp only [if_true] at ih'
        simp [putK, lookK, hb, ih']
      · simp only [hl, if_false] at ih
        simp [putK, lookK, hb, ih, hl]

theorem toF_putK (s : St) (k : Nat) (b : Blk) : St.toF ⟨s.tmps, putK s.heap k b⟩ = s.toF.setK k b := by
  apply F.ext_same
  · rfl
  · intro l
    cases l with
    | tmp u => rfl
    | key l => exact lookK_putK _ _ _ _

/-- The run on lists is the trace, and what follows. -/
theorem run_trace {α : Type} (m : AM α) : ∀ (s : St) (es : List Ev) (k : α → St → List Ev → Option CR) (r : CR), m.run s es k = some r →
    ∃ a s' es', m.trace s.toF = some (a, s'.toF, es') ∧ k a s' (es'.reverse ++ es) = some r ∧ s'.tmps.length = s.tmps.length := by
  induction m with
  | ret a => exact fun s es k r h => ⟨a, s, [], rfl, h, rfl⟩
  | fail => intro s es k r h; cases h
  | test b t e iht ihe =>
    intro s es k r h
    cases b with
    | true => obtain ⟨a, s', es', h1, h2⟩ := iht s es k r h; exact ⟨a, s', es', by simpa [AM.trace] using h1, h2⟩
    | false => obtain ⟨a, s', es', h1, h2⟩ := ihe s es k r h; exact ⟨a, s', es', by simpa [AM.trace] using h1, h2⟩
  | br t kt ke ko iht ihe iho =>
    intro s es k r h
    simp only [AM.run] at h
    have hx : s.toF.tmp t = s.tmps.getD t .dead := rfl
    split at h
    · rename_i b hb
      cases b with
      | true =>
        obtain ⟨a, s', es', h1, h2, h3⟩ := iht _ _ k r h
        rw [toF_setAt_same s t _ hb (by simp)] at h1
        refine ⟨a, s', _ :: es', ?_, by simpa using h2, by simpa [setAt_length] using h3⟩
        simp only [AM.trace, hx, hb, if_true, h1, evs]
      | false =>
        obtain ⟨a, s', es', h1, h2, h3⟩ := ihe _ _ k r h
        rw [toF_setAt_same s t _ hb (by simp)] at h1
        refine ⟨a, s', _ :: es', ?_, by simpa using h2, by simpa [setAt_length] using h3⟩
        simp only [AM.trace, hx, hb, Bool.false_eq_true, if_false, h1, evs]
    · rename_i hn
      obtain ⟨a, s', es', h1, h2, h3⟩ := iho _ s _ k r h
      refine ⟨a, s', _ :: es', ?_, by simpa using h2, h3⟩
      simp only [AM.trace, hx]
      rw [h1]; rfl
  | getT t kk ih =>
    intro s es k r h
    obtain ⟨a, s', es', h1, h2, h3⟩ := ih _ s _ k r h
    exact ⟨a, s', _ :: es', by simp only [AM.trace]; show evs _ ((kk (s.tmps.getD t .dead)).trace s.toF) = _; rw [h1]; rfl, by simpa using h2, h3⟩
  | setT t v kk ih =>
    intro s es k r h
    simp only [AM.run] at h
    cases hlt : Nat.blt t s.tmps.length with
    | false => rw [hlt] at h; cases h
    | true =>
      rw [hlt] at h
      have hlt' : t < s.tmps.length := nblt hlt
      obtain ⟨a, s', es', h1, h2, h3⟩ := ih _ _ k r h
      rw [toF_setAt s t v hlt'] at h1
      refine ⟨a, s', _ :: es', ?_, by simpa using h2, by simpa [setAt_length] using h3⟩
      have : t < s.toF.N := hlt'
      simp only [AM.trace, this, if_true, h1, evs]
  | getK key kk ih =>
    intro s es k r h
    obtain ⟨a, s', es', h1, h2, h3⟩ := ih _ s _ k r h
    exact ⟨a, s', _ :: es', by simp only [AM.trace]; show evs _ ((kk (lookK s.heap key)).trace s.toF) = _; rw [h1]; rfl, by simpa using h2, h3⟩
  | setK key b kk ih =>
    intro s es k r h
    obtain ⟨a, s', es', h1, h2, h3⟩ := ih _ _ k r h
    rw [toF_putK] at h1
    exact ⟨a, s', ⟨true, .key key⟩ :: es', by simp only [AM.trace, h1, evs], by simpa using h2, h3⟩
  | row o kk ih =>
    intro s es k r h
    cases o with
    | none => cases h
    | some x => obtain ⟨a, s', es', h1, h2⟩ := ih x s es k r h; exact ⟨a, s', es', by simpa [AM.trace] using h1, h2⟩
  | call c kk ih =>
    intro s es k r h
    obtain ⟨x, hx, h⟩ := c.ok _ _ h
    obtain ⟨a, s', es', h1, h2⟩ := ih x s es k r h
    exact ⟨a, s', es', by simpa [AM.trace, hx] using h1, h2⟩

/-! ### What a trace depends on, and what it writes -/

def wrote (es : List Ev) (l : Loc) : Prop := ∃ e ∈ es, e.wr = true ∧ e.loc = l
def met (es : List Ev) (l : Loc) : Prop := ∃ e ∈ es, e.loc = l

theorem evs_some {α : Type} {e : Ev} {o : Option (α × F × List Ev)} {a : α} {s : F} {es : List Ev} (h : evs e o = some (a, s, es)) :
    ∃ es', o = some (a, s, es') ∧ es = e :: es' := by
  cases o with
  | none => cases h
  | some p =>
    obtain ⟨a', s', es'⟩ := p
    simp only [evs, Option.some.injEq, Prod.mk.injEq] at h
    obtain ⟨rfl, rfl, rfl⟩ := h
    exact ⟨es', rfl, rfl⟩

theorem F.Same.setT {s u : F} (t : Nat) (v : AVal) {l : Loc} (h : s.Same u l) : (s.setT t v).Same (u.setT t v) l := by
  cases l with
  | tmp x => simp only [F.Same, F.setT] at *; split <;> simp_all
  | key k => exact h
theorem F.Same.setK {s u : F} (k : Nat) (b : Blk) {l : Loc} (h : s.Same u l) : (s.setK k b).Same (u.setK k b) l := by
  cases l with
  | tmp x => exact h
  | key x => simp only [F.Same, F.setK] at *; split <;> simp_all
theorem F.Same.symm {s u : F} {l : Loc} (h : s.Same u l) : u.Same s l := by cases l <;> exact Eq.symm h
theorem F.Same.trans {s u v : F} {l : Loc} (h : s.Same u l) (k : u.Same v l) : s.Same v l := by cases l <;> exact Eq.trans h k
theorem F.Same.refl (s : F) (l : Loc) : s.Same s l := by cases l <;> rfl
theorem F.setT_other (s : F) {t : Nat} {v : AVal} {l : Loc} (h : l ≠ .tmp t) : (s.setT t v).Same s l := by
  cases l with
  | tmp x => simp only [F.Same, F.setT]; rw [if_neg (fun e => h (by rw [e]))]
  | key k => rfl
theorem F.setK_other (s : F) {k : Nat} {b : Blk} {l : Loc} (h : l ≠ .key k) : (s.setK k b).Same s l := by
  cases l with
  | tmp x => rfl
  | key x => simp only [F.Same, F.setK]; rw [if_neg (fun e => h (by rw [e]))]

/-- What is not written stays. -/
theorem trace_stays {α : Type} (m : AM α) : ∀ (s : F) (a : α) (s' : F) (es : List Ev), m.trace s = some (a, s', es) → s'.N = s.N ∧ ∀ l, ¬ wrote es l → s'.Same s l := by
  induction m with
  | ret a =>
    intro s b s' es h
    simp only [AM.trace, Option.some.injEq, Prod.mk.injEq] at h
    obtain ⟨rfl, rfl, rfl⟩ := h
    exact ⟨rfl, fun l _ => .refl _ l⟩
  | fail => intro s a s' es h; cases h
  | test b t e iht ihe =>
    intro s a s' es h
    simp only [AM.trace] at h
    split at h
    · exact iht _ _ _ _ h
    · exact ihe _ _ _ _ h
  | br t kt ke ko iht ihe iho =>
    intro s a s' es h
    simp only [AM.trace] at h
    obtain ⟨es', h0, he0⟩ := evs_some h; clear h; subst he0; have h := h0; clear h0
    have key : s'.N = s.N ∧ ∀ l, ¬ wrote es' l → s'.Same s l := by
      split at h
      · split at h
        · exact iht _ _ _ _ h
        · exact ihe _ _ _ _ h
      · exact iho _ _ _ _ _ h
    exact ⟨key.1, fun l hl => key.2 l fun ⟨e, he, hw⟩ => hl ⟨e, .tail _ he, hw⟩⟩
  | getT t kk ih =>
    intro s a s' es h
    simp only [AM.trace] at h
    obtain ⟨es', h0, he0⟩ := evs_some h; clear h; subst he0; have h := h0; clear h0
    have key := ih _ _ _ _ _ h
    exact ⟨key.1, fun l hl => key.2 l fun ⟨e, he, hw⟩ => hl ⟨e, .tail _ he, hw⟩⟩
  | setT t v kk ih =>
    intro s a s' es h
    simp only [AM.trace] at h
    split at h
    · obtain ⟨es', h0, he0⟩ := evs_some h; clear h; subst he0; have h := h0; clear h0
      have key := ih _ _ _ _ h
      exact ⟨key.1, fun l hl => (key.2 l fun ⟨e, he, hw⟩ => hl ⟨e, .tail _ he, hw⟩).trans (F.setT_other s fun e => hl ⟨_, .head _, rfl, e.symm⟩)⟩
    · cases h
  | getK key kk ih =>
    intro s a s' es h
    simp only [AM.trace] at h
    obtain ⟨es', h0, he0⟩ := evs_some h; clear h; subst he0; have h := h0; clear h0
    have key := ih _ _ _ _ _ h
    exact ⟨key.1, fun l hl => key.2 l fun ⟨e, he, hw⟩ => hl ⟨e, .tail _ he, hw⟩⟩
  | setK key b kk ih =>
    intro s a s' es h
    simp only [AM.trace] at h
    obtain ⟨es', h0, he0⟩ := evs_some h; clear h; subst he0; have h := h0; clear h0
    have key := ih _ _ _ _ h
    exact ⟨key.1, fun l hl => (key.2 l fun ⟨e, he, hw⟩ => hl ⟨e, .tail _ he, hw⟩).trans (F.setK_other s fun e => hl ⟨_, .head _, rfl, e.symm⟩)⟩
  | row o kk ih =>
    intro s a s' es h
    cases o with
    | none => cases h
    | some x => exact ih x _ _ _ _ h
  | call c kk ih =>
    intro s a s' es h
    simp only [AM.trace] at h
    cases hc : c.o with
    | none => rw [hc] at h; cases h
    | some x => rw [hc] at h; exact ih x _ _ _ _ h

/-- States that agree on what is met: the same trace, the same writes. -/
theorem trace_agree {α : Type} (m : AM α) : ∀ (s u : F) (a : α) (s' : F) (es : List Ev), m.trace s = some (a, s', es) → s.N = u.N → (∀ l, met es l → s.Same u l) →
    ∃ u', m.trace u = some (a, u', es) ∧ (∀ l, s.Same u l → s'.Same u' l) := by
  induction m with
  | ret a =>
    intro s u b s' es h hN hm
    simp only [AM.trace, Option.some.injEq, Prod.mk.injEq] at h
    obtain ⟨rfl, rfl, rfl⟩ := h
    exact ⟨u, rfl, fun l hl => hl⟩
  | fail => intro s u a s' es h; cases h
  | test b t e iht ihe =>
    intro s u a s' es h hN hm
    simp only [AM.trace] at h ⊢
    by_cases hb : b = true
    · rw [if_pos hb] at h ⊢; exact iht _ _ _ _ _ h hN hm
    · rw [if_neg hb] at h ⊢; exact ihe _ _ _ _ _ h hN hm
  | br t kt ke ko iht ihe iho =>
    intro s u a s' es h hN hm
    simp only [AM.trace] at h ⊢
    obtain ⟨es', h0, he0⟩ := evs_some h; clear h; subst he0; have h := h0; clear h0
    have ht : s.tmp t = u.tmp t := hm (.tmp t) ⟨_, .head _, rfl⟩
    have hm' : ∀ l, met es' l → s.Same u l := fun l ⟨e, he, hl⟩ => hm l ⟨e, .tail _ he, hl⟩
    rw [← ht]
    cases hx : s.tmp t with
    | sc x =>
      rw [hx] at h
      cases x with
      | bool b =>
        simp only at h ⊢
        cases b with
        | true => obtain ⟨u', h1, h2⟩ := iht _ _ _ _ _ h hN hm'; exact ⟨u', by rw [if_pos rfl, h1]; rfl, h2⟩
        | false => obtain ⟨u', h1, h2⟩ := ihe _ _ _ _ _ h hN hm'; exact ⟨u', by rw [if_neg (by simp), h1]; rfl, h2⟩
      | _ => obtain ⟨u', h1, h2⟩ := iho _ _ _ _ _ _ h hN hm'; exact ⟨u', by simp only [h1]; rfl, h2⟩
    | _ => rw [hx] at h; obtain ⟨u', h1, h2⟩ := iho _ _ _ _ _ _ h hN hm'; exact ⟨u', by simp only [h1]; rfl, h2⟩
  | getT t kk ih =>
    intro s u a s' es h hN hm
    simp only [AM.trace] at h ⊢
    obtain ⟨es', h0, he0⟩ := evs_some h; clear h; subst he0; have h := h0; clear h0
    have ht : s.tmp t = u.tmp t := hm (.tmp t) ⟨_, .head _, rfl⟩
    obtain ⟨u', h1, h2⟩ := ih _ _ _ _ _ _ h hN fun l ⟨e, he, hl⟩ => hm l ⟨e, .tail _ he, hl⟩
    exact ⟨u', by rw [← ht, h1]; rfl, h2⟩
  | setT t v kk ih =>
    intro s u a s' es h hN hm
    simp only [AM.trace] at h ⊢
    split at h
    · rename_i hlt
      obtain ⟨es', h0, he0⟩ := evs_some h; clear h; subst he0; have h := h0; clear h0
      obtain ⟨u', h1, h2⟩ := ih (s.setT t v) (u.setT t v) _ _ _ h hN fun l ⟨e, he, hl⟩ => (hm l ⟨e, .tail _ he, hl⟩).setT t v
      refine ⟨u', by rw [if_pos (by omega), h1]; rfl, fun l hl => h2 l (hl.setT t v)⟩
    · cases h
  | getK key kk ih =>
    intro s u a s' es h hN hm
    simp only [AM.trace] at h ⊢
    obtain ⟨es', h0, he0⟩ := evs_some h; clear h; subst he0; have h := h0; clear h0
    have ht : s.key key = u.key key := hm (.key key) ⟨_, .head _, rfl⟩
    obtain ⟨u', h1, h2⟩ := ih _ _ _ _ _ _ h hN fun l ⟨e, he, hl⟩ => hm l ⟨e, .tail _ he, hl⟩
    exact ⟨u', by rw [← ht, h1]; rfl, h2⟩
  | setK key b kk ih =>
    intro s u a s' es h hN hm
    simp only [AM.trace] at h ⊢
    obtain ⟨es', h0, he0⟩ := evs_some h; clear h; subst he0; have h := h0; clear h0
    obtain ⟨u', h1, h2⟩ := ih (s.setK key b) (u.setK key b) _ _ _ h hN fun l ⟨e, he, hl⟩ => (hm l ⟨e, .tail _ he, hl⟩).setK key b
    exact ⟨u', by rw [h1]; rfl, fun l hl => h2 l (hl.setK key b)⟩
  | row o kk ih =>
    intro s u a s' es h hN hm
    cases o with
    | none => cases h
    | some x => exact ih x _ _ _ _ _ h hN hm
  | call c kk ih =>
    intro s u a s' es h hN hm
    simp only [AM.trace] at h ⊢
    cases hc : c.o with
    | none => rw [hc] at h; cases h
    | some x => rw [hc] at h; exact ih x _ _ _ _ _ h hN hm

/-- What is written is the same, whatever stood there. -/
theorem trace_writes {α : Type} (m : AM α) : ∀ (s u : F) (a b : α) (s' u' : F) (es : List Ev), m.trace s = some (a, s', es) → s.N = u.N → (∀ l, met es l → s.Same u l) →
    m.trace u = some (b, u', es) → ∀ l, wrote es l → s'.Same u' l := by
  intro s u a b s' u' es h hN hm hu l hl
  obtain ⟨u'', h1, h2⟩ := trace_agree m s u a s' es h hN hm
  rw [h1] at hu
  simp only [Option.some.injEq, Prod.mk.injEq] at hu
  obtain ⟨_, rfl, _⟩ := hu
  obtain ⟨e, he, _, hloc⟩ := hl
  exact h2 l (hm l ⟨e, he, hloc⟩)


/-! ### A region's operations in any order -/

/-- The textual run: each operation's state before, its log, the state behind. -/
def Run (m : Nat → AM Unit) : Nat → F → List (List Ev) → F → Prop
  | 0, s, logs, s' => logs = [] ∧ s' = s
  | n + 1, s, logs, s' => ∃ u es ls, logs = es :: ls ∧ Run m n s ls u ∧ (m n).trace u = some ((), s', es)

/-- What was written by those of the first n operations that have been carried out. -/
noncomputable def done (D : Nat → Bool) (st : Nat → F) (es : Nat → List Ev) : Nat → F
  | 0 => st 0
  | n + 1 =>
    { N := (st 0).N
      tmp := fun t => open Classical in if D n = true ∧ wrote (es n) (.tmp t) then (st (n + 1)).tmp t else (done D st es n).tmp t
      key := fun k => open Classical in if D n = true ∧ wrote (es n) (.key k) then (st (n + 1)).key k else (done D st es n).key k }

theorem done_zero (D : Nat → Bool) (st : Nat → F) (es : Nat → List Ev) : done D st es 0 = st 0 := rfl
theorem done_succ_yes {D : Nat → Bool} {st : Nat → F} {es : Nat → List Ev} {n : Nat} {l : Loc} (h : D n = true ∧ wrote (es n) l) : (done D st es (n + 1)).Same (st (n + 1)) l := by
  cases l with
  | tmp t => exact if_pos h
  | key k => exact if_pos h
theorem done_succ_no {D : Nat → Bool} {st : Nat → F} {es : Nat → List Ev} {n : Nat} {l : Loc} (h : ¬ (D n = true ∧ wrote (es n) l)) : (done D st es (n + 1)).Same (done D st es n) l := by
  cases l with
  | tmp t => exact if_neg h
  | key k => exact if_neg h
theorem done_N (D : Nat → Bool) (st : Nat → F) (es : Nat → List Ev) (n : Nat) : (done D st es n).N = (st 0).N := by
  cases n <;> rfl

section
variable {m : Nat → AM Unit} {st : Nat → F} {es : Nat → List Ev} {n : Nat}

/-- All operations below i: the textual state. -/
theorem done_all (hst : ∀ i, i < n → (m i).trace (st i) = some ((), st (i + 1), es i)) {D : Nat → Bool} :
    ∀ i, i ≤ n → ∀ l, (∀ j, j < i → wrote (es j) l → D j = true) → (done D st es i).Same (st i) l
  | 0, _, l, _ => by rw [done_zero]; exact .refl _ l
  | i + 1, hi, l, hD => by
    by_cases hw : wrote (es i) l
    · exact done_succ_yes ⟨hD i (Nat.lt_succ_self i) hw, hw⟩
    · exact (done_succ_no fun h => hw h.2).trans ((done_all hst i (by omega) l fun j hj => hD j (by omega)).trans ((trace_stays _ _ _ _ _ (hst i (by omega))).2 l hw).symm)

/-- Operations from i on that write nothing here change nothing. -/
theorem done_more {D : Nat → Bool} {l : Loc} {i : Nat} : ∀ k, i ≤ k → (∀ j, i ≤ j → j < k → D j = true → ¬ wrote (es j) l) → (done D st es k).Same (done D st es i) l := by
  intro k hk
  induction k with
  | zero =>
    intro _
    have : i = 0 := by omega
    subst this
    exact .refl _ l
  | succ k ih =>
    intro h
    by_cases e : i = k + 1
    · subst e; exact .refl _ l
    · exact (done_succ_no fun hh => h k (by omega) (Nat.lt_succ_self k) hh.1 hh.2).trans (ih (by omega) fun j hj hjk => h j hj (by omega))

/-- What one more operation makes of it. -/
theorem done_add {D : Nat → Bool} {i : Nat} (hi : D i = false) : ∀ k l, ¬ wrote (es i) l → (done (fun j => j == i || D j) st es k).Same (done D st es k) l
  | 0, l, _ => by rw [done_zero, done_zero]; exact .refl _ l
  | k + 1, l, hl => by
    by_cases hk : D k = true ∧ wrote (es k) l
    · exact (done_succ_yes ⟨by simp [hk.1], hk.2⟩).trans (done_succ_yes hk).symm
    · refine (done_succ_no fun h => ?_).trans ((done_add hi k l hl).trans (done_succ_no hk).symm)
      obtain ⟨h1, h2⟩ := h
      rcases Bool.or_eq_true_iff.1 h1 with h1 | h1
      · have : k = i := by simpa using h1
        subst this; exact hl h2
      · exact hk ⟨h1, h2⟩

/-- Do two logs ask for an order? -/
def clash (a b : List Ev) : Prop := ∃ l, (wrote a l ∧ met b l) ∨ (met a l ∧ wrote b l)

theorem wrote_met {es : List Ev} {l : Loc} (h : wrote es l) : met es l := let ⟨e, he, _, hl⟩ := h; ⟨e, he, hl⟩

/-- **One more operation, ready, from what has been done so far.** -/
theorem done_step (hst : ∀ i, i < n → (m i).trace (st i) = some ((), st (i + 1), es i)) {before : Nat → Nat → Prop}
    (hord : ∀ i j, i < j → j < n → clash (es i) (es j) → before i j) {D : Nat → Bool}
    (hdown : ∀ i j, before i j → D j = true → D i = true) {i : Nat} (hin : i < n) (hD : D i = false) (hready : ∀ j, before j i → D j = true) :
    (m i).trace (done D st es n) = some ((), done (fun j => j == i || D j) st es n, es i) := by
  have agree : ∀ l, met (es i) l → (st i).Same (done D st es n) l := by
    intro l hl
    refine F.Same.symm ((done_more (i := i) n (by omega) ?_).trans (done_all hst i (by omega) l ?_))
    · intro j hj hjn hDj hw
      by_cases e : j = i
      · subst e; rw [hD] at hDj; cases hDj
      · have hb := hord i j (by omega) hjn ⟨l, .inr ⟨hl, hw⟩⟩
        have := hdown i j hb hDj
        rw [hD] at this; cases this
    · intro j hj hw
      exact hready j (hord j i hj hin ⟨l, .inl ⟨hw, hl⟩⟩)
  have hN : (st i).N = (done D st es n).N := by
    rw [done_N]
    have : ∀ k, k ≤ n → (st k).N = (st 0).N := by
      intro k
      induction k with
      | zero => intro _; rfl
      | succ k ih => intro hk; rw [(trace_stays _ _ _ _ _ (hst k (by omega))).1]; exact ih (by omega)
    exact this i (by omega)
  obtain ⟨u', h1, h2⟩ := trace_agree (m i) (st i) (done D st es n) () (st (i + 1)) (es i) (hst i hin) hN agree
  have hstay := trace_stays _ _ _ _ _ h1
  have : u' = done (fun j => j == i || D j) st es n := by
    apply F.ext_same
    · rw [hstay.1, done_N, done_N]
    · intro l
      by_cases hw : wrote (es i) l
      · refine F.Same.trans (h2 l (agree l (wrote_met hw))).symm (F.Same.symm ?_)
        refine (done_more (i := i + 1) n (by omega) ?_).trans (done_succ_yes ⟨by simp, hw⟩)
        intro j hj hjn hDj hwj
        have hne : j ≠ i := by omega
        have hDj' : D j = true := by simpa [hne] using hDj
        have := hdown i j (hord i j (by omega) hjn ⟨l, .inl ⟨hw, wrote_met hwj⟩⟩) hDj'
        rw [hD] at this; cases this
      · exact (hstay.2 l hw).trans (done_add hD n l hw).symm
  rw [h1, this]
end

end Go.Proofs.YteiniiakpdijmaaDoor.AI
