/- What an abstract state says of a frame and a world. -/
import Derived.Test.YteiniiakpdijmaaDoorAI2
namespace Go.Proofs.YteiniiakpdijmaaDoor.AI
open Go.RowKit
set_option linter.unusedVariables false

structure Ent where
  v : Value
  n : Nat
  E : Nat
  st : Nat
  pos : Nat
  sub : List Value

/-- The block that a slice or a pointer leads to. -/
def ob : Value → Option Nat
  | .slice (some a) _ cap => if cap = 0 then none else some a.block
  | .pointer (some a) => some a.block
  | _ => none

/-- The blocks of an entry. -/
def Ent.has (e : Ent) (g : Nat) : Prop := ob e.v = some g ∨ ∃ c ∈ e.sub, ob c = some g

/-- What an entry may become. -/
structure Ent.le (e e' : Ent) : Prop where
  n : e.n ≤ e'.n
  v : e'.n = e.n → e'.v = e.v
  E : e'.n = e.n → e'.E = e.E
  st : e'.n = e.n → e.st ≤ e'.st
  sub : e'.n = e.n → e'.st = e.st → e'.sub = e.sub
  pos : e'.n = e.n → e'.st = e.st → e'.pos = e.pos

theorem Ent.le.refl (e : Ent) : e.le e := ⟨Nat.le_refl _, fun _ => rfl, fun _ => rfl, fun _ => Nat.le_refl _, fun _ _ => rfl, fun _ _ => rfl⟩
theorem Ent.le.of {e e' : Ent} (h : e.n ≤ e'.n) (h' : e'.n = e.n → e' = e) : e.le e' :=
  ⟨h, fun k => by rw [h' k], fun k => by rw [h' k], fun k => by rw [h' k]; exact Nat.le_refl _, fun k _ => by rw [h' k], fun k _ => by rw [h' k]⟩
theorem Ent.le.trans {a b c : Ent} (h : a.le b) (k : b.le c) : a.le c := by
  have q : c.n = a.n → b.n = a.n ∧ c.n = b.n := fun e => by have := h.n; have := k.n; omega
  exact ⟨Nat.le_trans h.n k.n, fun e => (k.v (q e).2).trans (h.v (q e).1), fun e => (k.E (q e).2).trans (h.E (q e).1), fun e => Nat.le_trans (h.st (q e).1) (k.st (q e).2),
    fun e f => by have h1 := h.st (q e).1; have h2 := k.st (q e).2; exact (k.sub (q e).2 (by omega)).trans (h.sub (q e).1 (by omega)),
    fun e f => by have h1 := h.st (q e).1; have h2 := k.st (q e).2; exact (k.pos (q e).2 (by omega)).trans (h.pos (q e).1 (by omega))⟩

inductive VRel (env : Nat → Option Ent) (Z : Nat → Prop) (w : World) : AVal → Value → Prop where
  | dead (c : Value) : VRel env Z w .dead c
  | sc (v : Value) : VRel env Z w (.sc v) v
  | emp (a : Option Addr) : VRel env Z w .emp (.slice a 0 0)
  | agg (l : List AVal) (cs : Array Value) (hl : l.length = cs.size) (h : ∀ (i : Nat) (v : AVal) (c : Value), l[i]? = some v → cs[i]? = some c → VRel env Z w v c) : VRel env Z w (.agg l) (.agg cs)
  | tup (l : List AVal) (cs : Array Value) (hl : l.length = cs.size) (h : ∀ (i : Nat) (v : AVal) (c : Value), l[i]? = some v → cs[i]? = some c → VRel env Z w v c) : VRel env Z w (.tup l) (.tuple cs)
  | roE (E : Nat) (a : Option Addr) (cap : Nat) : VRel env Z w (.ro E []) (.slice a 0 cap)
  | ro (E : Nat) (rows : List (List AVal)) (b o cap : Nat) (f : Nat → Nat → Value) (hcap : rows.length ≤ cap) (hz : Z b) (hr : ∀ (i : Nat) (r : List AVal), rows[i]? = some r → r.length = E)
      (hc : ∀ (i j : Nat) (r : List AVal) (v : AVal), rows[i]? = some r → r[j]? = some v → flat v = true ∧ oneC (f i j) = true ∧ w.cell? ⟨b, o + (i * E + j), none⟩ = some (f i j))
      (h : ∀ (i j : Nat) (r : List AVal) (v : AVal), rows[i]? = some r → r[j]? = some v → VRel env Z w v (f i j)) : VRel env Z w (.ro E rows) (.slice (some ⟨b, o, none⟩) rows.length cap)
  | rptr (l : List AVal) (b o : Nat) (f : Nat → Value) (hz : Z b)
      (hc : ∀ (j : Nat) (v : AVal), l[j]? = some v → flat v = true ∧ oneC (f j) = true ∧ w.cell? ⟨b, o + j, none⟩ = some (f j))
      (h : ∀ (j : Nat) (v : AVal), l[j]? = some v → VRel env Z w v (f j)) : VRel env Z w (.rptr l) (.pointer (some ⟨b, o, none⟩))
  | slc (k n : Nat) (c : Value) (e : Ent) (he : env k = some e) (hle : n ≤ e.n) (h1 : oneC c = true) (h : n = e.n → c = e.v) : VRel env Z w (.slc k n) c
  | ref (k n i j : Nat) (c : Value) (e : Ent) (he : env k = some e) (hle : n ≤ e.n) (h1 : oneC c = true)
      (h : n = e.n → i < n ∧ ∃ b, ob e.v = some b ∧ c = .pointer (some ⟨b, i * e.E + j, none⟩)) : VRel env Z w (.ref k n i j) c
  | clo (f : FuncId) (l : List AVal) (cs : Array Value) (hl : l.length = cs.size) (h : ∀ (i : Nat) (v : AVal) (c : Value), l[i]? = some v → cs[i]? = some c → VRel env Z w v c) : VRel env Z w (.clo f l) (.func (.func f) #[] cs)
  | inn (k n i st : Nat) (c : Value) (e : Ent) (he : env k = some e) (hle : n ≤ e.n) (hst : n = e.n → st ≤ e.st) (h : n = e.n → e.st = st → e.sub[i]? = some c ∧ (st = 1 → e.pos = i)) : VRel env Z w (.inn k n i st) c
  | ipt (k n i j E : Nat) (c : Value) (e : Ent) (he : env k = some e) (hle : n ≤ e.n)
      (h : n = e.n → e.st = 0 → ∃ g o len cap, e.sub[i]? = some (.slice (some ⟨g, o, none⟩) len cap) ∧ 0 < cap ∧ j < len ∧ c = .pointer (some ⟨g, o + j * E, none⟩)) : VRel env Z w (.ipt k n i j E) c

section
variable {env env' : Nat → Option Ent} {Z Z' : Nat → Prop} {w w' : World}

theorem cell_eq {b o : Nat} (h : w'.heap[b]? = w.heap[b]?) : w'.cell? ⟨b, o, none⟩ = w.cell? ⟨b, o, none⟩ := by
  simp only [World.cell?, h]

/-- What holds later: read-only blocks are as they were, entries have grown or stayed. -/
theorem VRel.mono2 {v : AVal} {c : Value} (h : VRel env Z w v c) (hw : ∀ g, Z g → w'.heap[g]? = w.heap[g]?) (hz : ∀ g, Z g → Z' g)
    (he : ∀ k e, env k = some e → ∃ e', env' k = some e' ∧ e.le e') : VRel env' Z' w' v c := by
  induction h with
  | dead c => exact .dead c
  | sc v => exact .sc v
  | emp a => exact .emp a
  | agg l cs hl _ ih => exact .agg l cs hl ih
  | tup l cs hl _ ih => exact .tup l cs hl ih
  | roE E a cap => exact .roE E a cap
  | ro E rows b o cap f hcap hzb hr hc _ ih =>
    exact .ro E rows b o cap f hcap (hz b hzb) hr (fun i j r v h1 h2 => ⟨(hc i j r v h1 h2).1, (hc i j r v h1 h2).2.1, by rw [cell_eq (hw b hzb)]; exact (hc i j r v h1 h2).2.2⟩) ih
  | rptr l b o f hzb hc _ ih =>
    exact .rptr l b o f (hz b hzb) (fun j v h1 => ⟨(hc j v h1).1, (hc j v h1).2.1, by rw [cell_eq (hw b hzb)]; exact (hc j v h1).2.2⟩) ih
  | slc k n c e hk hle h1 hv =>
    obtain ⟨e', h2, h3⟩ := he k e hk
    have h4 := h3.n
    exact .slc k n c e' h2 (by omega) h1 fun hn => by rw [h3.v (by omega)]; exact hv (by omega)
  | ref k n i j c e hk hle h1 hv =>
    obtain ⟨e', h2, h3⟩ := he k e hk
    have h4 := h3.n
    exact .ref k n i j c e' h2 (by omega) h1 fun hn => by rw [h3.v (by omega), h3.E (by omega)]; exact hv (by omega)
  | clo f l cs hl _ ih => exact .clo f l cs hl ih
  | inn k n i st c e hk hle hst hv =>
    obtain ⟨e', h2, h3⟩ := he k e hk
    have h4 := h3.n
    refine .inn k n i st c e' h2 (by omega) (fun hn => Nat.le_trans (hst (by omega)) (h3.st (by omega))) fun hn hs => ?_
    have h5 := h3.st (by omega)
    have h6 := hst (by omega)
    rw [h3.sub (by omega) (by omega), h3.pos (by omega) (by omega)]
    exact hv (by omega) (by omega)
  | ipt k n i j E c e hk hle hv =>
    obtain ⟨e', h2, h3⟩ := he k e hk
    have h4 := h3.n
    refine .ipt k n i j E c e' h2 (by omega) fun hn hs => ?_
    have h5 := h3.st (by omega)
    rw [h3.sub (by omega) (by omega)]
    exact hv (by omega) (by omega)

theorem le_of_old (he : ∀ k e, env k = some e → ∃ e', env' k = some e' ∧ e.n ≤ e'.n ∧ (e'.n = e.n → e' = e)) : ∀ k e, env k = some e → ∃ e', env' k = some e' ∧ e.le e' :=
  fun k e hk => let ⟨e', h1, h2, h3⟩ := he k e hk; ⟨e', h1, .of h2 h3⟩

theorem VRel.mono {v : AVal} {c : Value} (h : VRel env Z w v c) (hw : ∀ g, Z g → w'.heap[g]? = w.heap[g]?) (hz : ∀ g, Z g → Z' g)
    (he : ∀ k e, env k = some e → ∃ e', env' k = some e' ∧ e.n ≤ e'.n ∧ (e'.n = e.n → e' = e)) : VRel env' Z' w' v c := h.mono2 hw hz (le_of_old he)

theorem isRp_flat {v : AVal} (h : isRp v = true) : flat v = true := by cases v <;> first | rfl | cases h
/-- What mentions no entry holds under any. -/
theorem VRel.anyEnv {v : AVal} {c : Value} (h : VRel env Z w v c) (hf : flat v = true) : VRel env' Z w v c := by
  induction h with
  | dead c => exact .dead c
  | sc v => exact .sc v
  | emp a => exact .emp a
  | roE E a cap => exact .roE E a cap
  | ro E rows b o cap f hcap hzb hr hc _ ih => exact .ro E rows b o cap f hcap hzb hr hc fun i j r v h1 h2 => ih i j r v h1 h2 (hc i j r v h1 h2).1
  | rptr l b o f hzb hc _ ih => exact .rptr l b o f hzb hc fun j v h1 => ih j v h1 (hc j v h1).1
  | agg l cs => cases hf
  | tup l cs => cases hf
  | slc k n c e => cases hf
  | ref k n i j c e => cases hf
  | inn => cases hf
  | ipt => cases hf
  | clo f l cs hl _ ih => exact .clo f l cs hl fun i v c h1 h2 => ih i v c h1 h2 (isRp_flat (List.all_eq_true.1 hf v (List.mem_of_getElem? h1)))

theorem VRel.oneC {v : AVal} {c : Value} (h : VRel env Z w v c) (hf : cellOk v = true) : oneC c = true := by
  cases h with
  | sc v => exact hf
  | dead c => cases hf
  | agg l cs => cases hf
  | tup l cs => cases hf
  | slc k n c e _ _ h1 => exact h1
  | ref k n i j c e _ _ h1 => exact h1
  | inn => cases hf
  | ipt => cases hf
  | _ => rfl

theorem isRp_niK {v : AVal} (h : isRp v = true) : niK v = true := by cases v <;> first | rfl | cases h
theorem flat_cellOk {v : AVal} (h : flat v = true) : cellOk v = true := by
  cases v <;> first | exact h | rfl | cases h | skip
  simp only [flat, List.all_eq_true] at h
  simp only [cellOk, List.all_eq_true]
  exact fun x hx => isRp_niK (h x hx)

/-- An own inner slice: its rows. -/
structure SubR (env : Nat → Option Ent) (Z : Nat → Prop) (w : World) (T E : Nat) (c : Value) (rows : List (List AVal)) : Prop where
  len : ∀ (i : Nat) (r : List AVal), rows[i]? = some r → r.length = E
  mem : (rows = [] ∧ ∃ a, c = .slice a 0 0) ∨ ∃ g o cap cs, c = .slice (some ⟨g, o, none⟩) rows.length cap ∧ w.heap[g]? = some (.cells cs T (0, 0)) ∧ rows.length ≤ cap ∧ 0 < cap ∧ cap ≤ maxLen ∧ o + cap * E ≤ cs.size ∧ ¬ Z g ∧
    ∀ (i j : Nat) (r : List AVal) (v : AVal), rows[i]? = some r → r[j]? = some v → ∃ c, cs[o + (i * E + j)]? = some c ∧ VRel env Z w v c ∧ flat v = true ∧ oneC c = true

/-- An own array of own slices. -/
structure NRel (env : Nat → Option Ent) (Z : Nat → Prop) (w : World) (b : Blk) (e : Ent) (st T E : Nat) : Prop where
  one : b.E = 1
  len : e.sub.length = b.rows.length
  out : (b.rows = [] ∧ ∃ a, e.v = .slice a 0 0) ∨ ∃ g cap cs, e.v = .slice (some ⟨g, 0, none⟩) b.rows.length cap ∧ w.heap[g]? = some (.cells cs b.T (0, 0)) ∧ b.rows.length ≤ cap ∧ 0 < cap ∧ cap ≤ maxLen ∧ cap ≤ cs.size ∧ ¬ Z g ∧
    ∀ (i : Nat) (c : Value), e.sub[i]? = some c → (st = 1 → i ≠ e.pos) → cs[i]? = some c
  inn : ∀ (i : Nat) (r : List AVal) (c : Value), b.rows[i]? = some r → e.sub[i]? = some c → ∃ rr, r = [.ro E rr] ∧ SubR env Z w T E c rr
  dist : ∀ (i j : Nat) (c d : Value) (g : Nat), e.sub[i]? = some c → e.sub[j]? = some d → ob c = some g → ob d = some g → i = j
  outer : ∀ (i : Nat) (c : Value) (g : Nat), e.sub[i]? = some c → ob c = some g → ob e.v ≠ some g

/-- What an entry's block holds. -/
structure BRel (env : Nat → Option Ent) (Z : Nat → Prop) (w : World) (b : Blk) (e : Ent) : Prop where
  hn : e.n = b.rows.length
  hE : e.E = b.E
  hlen : ∀ (i : Nat) (r : List AVal), b.rows[i]? = some r → r.length = b.E
  box : b.kind = .box → ∃ g cs r, e.v = .pointer (some ⟨g, 0, none⟩) ∧ b.rows = [r] ∧ w.heap[g]? = some (.cells cs b.T (0, 0)) ∧ ¬ Z g ∧ r.length = cs.size ∧
    ∀ (j : Nat) (v : AVal) (c : Value), r[j]? = some v → cs[j]? = some c → VRel env Z w v c ∧ cellOk v = true ∧ oneC c = true
  hst : e.st = b.kind.st
  plain : b.kind.isNs = false → e.sub = [] ∧ e.pos = 0
  ns : ∀ st T E, b.kind = .ns st T E → NRel env Z w b e st T E
  arr : b.kind.isBox = false → (b.rows = [] ∧ ∃ a, e.v = .slice a 0 0) ∨
    ∃ g cap cs, e.v = .slice (some ⟨g, 0, none⟩) b.rows.length cap ∧ w.heap[g]? = some (.cells cs b.T (0, 0)) ∧ b.rows.length ≤ cap ∧ 0 < cap ∧ cap ≤ maxLen ∧ cs.size = cap * b.E ∧
      (b.kind = .arr → ¬ Z g) ∧ (b.kind = .frz → Z g) ∧
      ∀ (i j : Nat) (r : List AVal) (v : AVal), b.rows[i]? = some r → r[j]? = some v → ∃ c, cs[i * b.E + j]? = some c ∧ VRel env Z w v c ∧ flat v = true ∧ oneC c = true

/-- What a call may count on. -/
structure Ctx where
  w0 : World
  Z0 : Nat → Prop
  own0 : Nat → Prop
  GL : Nat → Option (List AVal)
  hand : Nat → Option Ent
  hlo : ∀ k e, hand k = some e → k < 1000
  hzl : ∀ g, Z0 g → g < w0.heap.size
  hzo : ∀ g, Z0 g → ¬ own0 g
  glob : ∀ g l, GL g = some l → VRel (fun _ => none) Z0 w0 (.rptr l) (.pointer (some ⟨g, 0, none⟩))

/-- What was put off. -/
def DfrOk (env : Nat → Option Ent) (Z : Nat → Prop) (w : World) (o : Option Blk) (ds : List Deferred) : Prop :=
  match o with
  | some b => match b.kind with
    | .dfr f l => ∃ (cs : Array Value), l.all niK = true ∧ ds = [{ target := .fn (.func f) cs, args := #[] }] ∧ l.length = cs.size ∧ ∀ (i : Nat) (v : AVal) (c : Value), l[i]? = some v → cs[i]? = some c → VRel env Z w v c
    | _ => ds = []
  | none => ds = []

theorem DfrOk.mono2 {o : Option Blk} {ds : List Deferred} (h : DfrOk env Z w o ds) (hw : ∀ g, Z g → w'.heap[g]? = w.heap[g]?) (hz : ∀ g, Z g → Z' g)
    (he : ∀ k e, env k = some e → ∃ e', env' k = some e' ∧ e.le e') : DfrOk env' Z' w' o ds := by
  unfold DfrOk at h ⊢
  cases o with
  | none => exact h
  | some b =>
    simp only at h ⊢
    generalize b.kind = k at h ⊢
    cases k with
    | dfr f l =>
      obtain ⟨cs, h1, h2, h3, h4⟩ := h
      exact ⟨cs, h1, h2, h3, fun i v c p q => (h4 i v c p q).mono2 hw hz he⟩
    | _ => exact h
theorem DfrOk.mono {o : Option Blk} {ds : List Deferred} (h : DfrOk env Z w o ds) (hw : ∀ g, Z g → w'.heap[g]? = w.heap[g]?) (hz : ∀ g, Z g → Z' g)
    (he : ∀ k e, env k = some e → ∃ e', env' k = some e' ∧ e.n ≤ e'.n ∧ (e'.n = e.n → e' = e)) : DfrOk env' Z' w' o ds := h.mono2 hw hz (le_of_old he)
theorem DfrOk.nil {o : Option Blk} {ds : List Deferred} (h : DfrOk env Z w o ds) (ho : ∀ b, o = some b → b.kind.isD = false) : ds = [] := by
  unfold DfrOk at h
  cases o with
  | none => exact h
  | some b =>
    have hb := ho b rfl
    simp only at h
    generalize b.kind = k at h hb
    cases k with
    | dfr f l => cases hb
    | _ => exact h
theorem DfrOk.of {b : Blk} (h : b.kind.isD = false) : DfrOk env Z w (some b) [] := by
  unfold DfrOk
  simp only
  generalize b.kind = k at h
  cases k with
  | dfr f l => cases h
  | _ => trivial
/-- One key turns, and none of what was put off. -/
theorem DfrOk.turn {s : F} {k : Nat} {b : Blk} {ds : List Deferred} (h : DfrOk env Z w (s.key dkey) ds) (h0 : ∀ b0, s.key k = some b0 → b0.kind.isD = false) (hd : b.kind.isD = false) : DfrOk env Z w ((s.setK k b).key dkey) ds := by
  simp only [F.setK]
  by_cases hk : dkey = k
  · rw [if_pos hk]
    rw [hk] at h
    rw [h.nil h0]
    exact .of hd
  · rw [if_neg hk]; exact h

structure Rel (X : Ctx) (env : Nat → Option Ent) (Z : Nat → Prop) (s : F) (a : Act) (w : World) : Prop where
  size : a.tmps.size = s.N
  tmps : ∀ t, t < s.N → VRel env Z w (s.tmp t) (a.tmps.getD t undef)
  tmpo : ∀ t, s.N ≤ t → s.tmp t = .dead
  dom : ∀ k, (env k).isSome = (s.key k).isSome
  blk : ∀ k b e, s.key k = some b → env k = some e → BRel env Z w b e
  inj : ∀ k l e f g, env k = some e → env l = some f → e.has g → f.has g → k = l
  own : ∀ k e g, env k = some e → e.has g → (X.w0.heap.size ≤ g ∨ X.own0 g)
  zlt : ∀ g, Z g → g < w.heap.size
  z0 : ∀ g, X.Z0 g → Z g
  znew : ∀ g, Z g → X.Z0 g ∨ X.w0.heap.size ≤ g ∨ X.own0 g
  os : w.os = X.w0.os
  tape : w.tape = X.w0.tape
  output : w.output = X.w0.output
  grown : X.w0.heap.size ≤ w.heap.size
  keep : ∀ g, g < X.w0.heap.size → ¬ X.own0 g → w.heap[g]? = X.w0.heap[g]?
  defers : DfrOk env Z w (s.key dkey) a.defers
  hand : ∀ k f, X.hand k = some f → ∃ e, env k = some e ∧ f.n ≤ e.n ∧ (e.n = f.n → e.v = f.v ∧ e.E = f.E)

theorem hand_step2 {H env env1 : Nat → Option Ent} (h : ∀ k f, H k = some f → ∃ e, env k = some e ∧ f.n ≤ e.n ∧ (e.n = f.n → e.v = f.v ∧ e.E = f.E))
    (he : ∀ k e, env k = some e → ∃ e', env1 k = some e' ∧ e.le e') : ∀ k f, H k = some f → ∃ e, env1 k = some e ∧ f.n ≤ e.n ∧ (e.n = f.n → e.v = f.v ∧ e.E = f.E) := fun k f hk => by
  obtain ⟨e, h1, h2, h3⟩ := h k f hk
  obtain ⟨e', h4, h5⟩ := he k e h1
  have h6 := h5.n
  exact ⟨e', h4, by omega, fun hn => by rw [h5.v (by omega), h5.E (by omega)]; exact h3 (by omega)⟩
theorem hand_step {H env env1 : Nat → Option Ent} (h : ∀ k f, H k = some f → ∃ e, env k = some e ∧ f.n ≤ e.n ∧ (e.n = f.n → e.v = f.v ∧ e.E = f.E))
    (he : ∀ k e, env k = some e → ∃ e', env1 k = some e' ∧ e.n ≤ e'.n ∧ (e'.n = e.n → e' = e)) : ∀ k f, H k = some f → ∃ e, env1 k = some e ∧ f.n ≤ e.n ∧ (e.n = f.n → e.v = f.v ∧ e.E = f.E) :=
  hand_step2 h (le_of_old he)

theorem SubR.mono2 {T E : Nat} {c : Value} {rows : List (List AVal)} (h : SubR env Z w T E c rows) (hg : ∀ g, ob c = some g → w'.heap[g]? = w.heap[g]?) (hw : ∀ g, Z g → w'.heap[g]? = w.heap[g]?)
    (hz : ∀ g, Z g → Z' g) (hnz : ∀ g, ob c = some g → ¬ Z g → ¬ Z' g) (he : ∀ k e, env k = some e → ∃ e', env' k = some e' ∧ e.le e') : SubR env' Z' w' T E c rows := by
  refine ⟨h.len, ?_⟩
  rcases h.mem with h0 | ⟨g, o, cap, cs, h1, h2, h3, h4, h5, h6, h7, h8⟩
  · exact .inl h0
  · have hob : ob c = some g := by rw [h1]; simp only [ob]; rw [if_neg (by omega)]
    exact .inr ⟨g, o, cap, cs, h1, by rw [hg g hob]; exact h2, h3, h4, h5, h6, hnz g hob h7, fun i j r v hi hj => let ⟨c, q1, q2, q3⟩ := h8 i j r v hi hj; ⟨c, q1, q2.mono2 hw hz he, q3⟩⟩

theorem NRel.mono2 {b : Blk} {e : Ent} {st T E : Nat} (h : NRel env Z w b e st T E) (hg : ∀ g, e.has g → w'.heap[g]? = w.heap[g]?) (hw : ∀ g, Z g → w'.heap[g]? = w.heap[g]?)
    (hz : ∀ g, Z g → Z' g) (hnz : ∀ g, e.has g → ¬ Z g → ¬ Z' g) (he : ∀ k e, env k = some e → ∃ e', env' k = some e' ∧ e.le e') : NRel env' Z' w' b e st T E := by
  refine ⟨h.one, h.len, ?_, fun i r c hr hc => ?_, h.dist, h.outer⟩
  · rcases h.out with h0 | ⟨g, cap, cs, h1, h2, h3, h4, h5, h6, h7, h8⟩
    · exact .inl h0
    · have hob : ob e.v = some g := by rw [h1]; simp only [ob]; rw [if_neg (by omega)]
      exact .inr ⟨g, cap, cs, h1, by rw [hg g (.inl hob)]; exact h2, h3, h4, h5, h6, hnz g (.inl hob) h7, h8⟩
  · obtain ⟨rr, h1, h2⟩ := h.inn i r c hr hc
    have hm := List.mem_of_getElem? hc
    exact ⟨rr, h1, h2.mono2 (fun g hg' => hg g (.inr ⟨c, hm, hg'⟩)) hw hz (fun g hg' => hnz g (.inr ⟨c, hm, hg'⟩)) he⟩

/-- A block's relation, later. -/
theorem BRel.mono2 {b : Blk} {e : Ent} (h : BRel env Z w b e) (hg : ∀ g, e.has g → w'.heap[g]? = w.heap[g]?) (hw : ∀ g, Z g → w'.heap[g]? = w.heap[g]?)
    (hz : ∀ g, Z g → Z' g) (hnz : ∀ g, e.has g → ¬ Z g → ¬ Z' g)
    (he : ∀ k e, env k = some e → ∃ e', env' k = some e' ∧ e.le e') : BRel env' Z' w' b e := by
  refine ⟨h.hn, h.hE, h.hlen, fun hb => ?_, h.hst, h.plain, fun st T E hb => (h.ns st T E hb).mono2 hg hw hz hnz he, fun hb => ?_⟩
  · obtain ⟨g, cs, r, h1, h2, h3, h4, h5, h6⟩ := h.box hb
    exact ⟨g, cs, r, h1, h2, by rw [hg g (.inl (by rw [h1]; rfl))]; exact h3, hnz g (.inl (by rw [h1]; rfl)) h4, h5, fun j v c hv hc => ⟨(h6 j v c hv hc).1.mono2 hw hz he, (h6 j v c hv hc).2⟩⟩
  · rcases h.arr hb with h0 | ⟨g, cap, cs, h1, h2, h3, h4, h5, h6, h7, h8, h9⟩
    · exact .inl h0
    · have hob : ob e.v = some g := by rw [h1]; simp only [ob]; rw [if_neg (by omega)]
      exact .inr ⟨g, cap, cs, h1, by rw [hg g (.inl hob)]; exact h2, h3, h4, h5, h6, fun hk => hnz g (.inl hob) (h7 hk), fun hk => hz g (h8 hk),
        fun i j r v hi hj => let ⟨c, q1, q2, q3⟩ := h9 i j r v hi hj; ⟨c, q1, q2.mono2 hw hz he, q3⟩⟩

theorem BRel.mono {b : Blk} {e : Ent} (h : BRel env Z w b e) (hg : ∀ g, e.has g → w'.heap[g]? = w.heap[g]?) (hw : ∀ g, Z g → w'.heap[g]? = w.heap[g]?)
    (hz : ∀ g, Z g → Z' g) (hnz : ∀ g, e.has g → ¬ Z g → ¬ Z' g)
    (he : ∀ k e, env k = some e → ∃ e', env' k = some e' ∧ e.n ≤ e'.n ∧ (e'.n = e.n → e' = e)) : BRel env' Z' w' b e := h.mono2 hg hw hz hnz (le_of_old he)

theorem env_id : ∀ k e, env k = some e → ∃ e', env k = some e' ∧ e.n ≤ e'.n ∧ (e'.n = e.n → e' = e) := fun k e hk => ⟨e, hk, Nat.le_refl _, fun _ => rfl⟩

theorem Rel.drew {X : Ctx} {s : F} {a : Act} (h : Rel X env Z s a w) : Rel X env Z s a { w with drawn := w.drawn + 1 } where
  size := h.size
  tmps := fun t ht => (h.tmps t ht).mono (fun _ _ => rfl) (fun _ h => h) env_id
  tmpo := h.tmpo
  dom := h.dom
  blk := fun k b e h1 h2 => (h.blk k b e h1 h2).mono (fun _ _ => rfl) (fun _ _ => rfl) (fun _ h => h) (fun _ _ h => h) env_id
  inj := h.inj
  own := h.own
  zlt := h.zlt
  z0 := h.z0
  znew := h.znew
  os := h.os
  tape := h.tape
  output := h.output
  grown := h.grown
  keep := h.keep
  defers := h.defers.mono (fun _ _ => rfl) (fun _ h => h) env_id
  hand := h.hand

theorem Rel.setT {X : Ctx} {s : F} {a : Act} (h : Rel X env Z s a w) {t : Nat} {v : AVal} {c : Value} (hv : VRel env Z w v c) (ht : t < s.N) : Rel X env Z (s.setT t v) (a.put (some t) c) w :=
  { h with
    size := by simp [Act.put, F.setT, h.size]
    tmps := fun u hu => by
      have hu' : u < s.N := hu
      have hsz := h.size
      simp only [Act.put, F.setT]
      by_cases e : u = t
      · subst e
        rw [if_pos rfl]
        rw [Array.getD_eq_getD_getElem?, Array.getElem?_setIfInBounds_self_of_lt (by omega)]
        exact hv
      · rw [if_neg e]
        rw [Array.getD_eq_getD_getElem?, Array.getElem?_setIfInBounds_ne (fun h => e h.symm), ← Array.getD_eq_getD_getElem?]
        exact h.tmps u hu'
    tmpo := fun u hu => by
      have hu' : s.N ≤ u := hu
      simp only [F.setT]
      rw [if_neg (by omega)]
      exact h.tmpo u hu'
    dom := h.dom
    blk := h.blk
    defers := h.defers }

/-- The old entries, and one more. -/
theorem env_more {k : Nat} {e : Ent} (hk : env k = none) : ∀ l f, env l = some f → ∃ f', (if l = k then some e else env l) = some f' ∧ f.n ≤ f'.n ∧ (f'.n = f.n → f' = f) := fun l f hl => by
  have : l ≠ k := fun h => by rw [h, hk] at hl; cases hl
  exact ⟨f, by rw [if_neg this]; exact hl, Nat.le_refl _, fun _ => rfl⟩

/-- A world in which nothing has turned but that new blocks were made. -/
structure Wider (w w' : World) : Prop where
  os : w'.os = w.os
  tape : w'.tape = w.tape
  output : w'.output = w.output
  size : w.heap.size ≤ w'.heap.size
  block : ∀ g, g < w.heap.size → w'.heap[g]? = w.heap[g]?

theorem Rel.blt {X : Ctx} {s : F} {a : Act} (h : Rel X env Z s a w) {k : Nat} {e : Ent} {g : Nat} (he : env k = some e) (hg : e.has g) : g < w.heap.size := by
  have hs := h.dom k
  rw [he] at hs
  cases hb : s.key k with
  | none => rw [hb] at hs; cases hs
  | some b =>
    have hB := h.blk k b e hb he
    cases hkk : b.kind with
    | ns st T E =>
      have hN := hB.ns st T E hkk
      rcases hg with hg | ⟨c, hc, hg⟩
      · rcases hN.out with ⟨_, a, h1⟩ | ⟨g', cap, cs, h1, h2, h3, h4, _⟩
        · rw [h1] at hg; cases a <;> simp [ob] at hg
        · rw [h1] at hg
          simp only [ob] at hg
          rw [if_neg (by omega)] at hg
          simp only [Option.some.injEq] at hg
          subst hg
          exact (Array.getElem?_eq_some_iff.1 h2).1
      · obtain ⟨i, hi⟩ := List.getElem?_of_mem hc
        have hlt : i < b.rows.length := by rw [← hN.len]; exact (List.getElem?_eq_some_iff.1 hi).1
        obtain ⟨rr, _, hS⟩ := hN.inn i b.rows[i] c (by simp [hlt]) hi
        rcases hS.mem with ⟨_, a, h1⟩ | ⟨g', o, cap, cs, h1, h2, h3, h4, _⟩
        · rw [h1] at hg; cases a <;> simp [ob] at hg
        · rw [h1] at hg
          simp only [ob] at hg
          rw [if_neg (by omega)] at hg
          simp only [Option.some.injEq] at hg
          subst hg
          exact (Array.getElem?_eq_some_iff.1 h2).1
    | box | arr | frz | dfr =>
    have hsub := (hB.plain (by rw [hkk]; rfl)).1
    have hg : ob e.v = some g := by
      rcases hg with hg | ⟨c, hc, _⟩
      · exact hg
      · rw [hsub] at hc; cases hc
    by_cases hk : b.kind = .box
    · obtain ⟨g', cs, r, h1, h2, h3, _⟩ := hB.box hk
      rw [h1] at hg
      simp only [ob, Option.some.injEq] at hg
      subst hg
      exact (Array.getElem?_eq_some_iff.1 h3).1
    · rcases hB.arr (by rw [hkk] at hk ⊢; first | rfl | exact absurd rfl hk) with ⟨_, a, h1⟩ | ⟨g', cap, cs, h1, h2, h3, h4, _⟩
      · rw [h1] at hg
        cases a <;> simp [ob] at hg
      · rw [h1] at hg
        simp only [ob] at hg
        rw [if_neg (by omega)] at hg
        simp only [Option.some.injEq] at hg
        subst hg
        exact (Array.getElem?_eq_some_iff.1 h2).1

/-- A new entry. -/
theorem Rel.newEntry {X : Ctx} {s : F} {a : Act} (h : Rel X env Z s a w) (hw : Wider w w') {k : Nat} {b : Blk} {e : Ent} (hk : s.key k = none)
    (hB : BRel (fun l => if l = k then some e else env l) Z w' b e) (hnew : ∀ g, e.has g → w.heap.size ≤ g) (hd : b.kind.isD = false := by rfl) :
    Rel X (fun l => if l = k then some e else env l) Z (s.setK k b) a w' := by
  have hek : env k = none := by
    have := h.dom k
    rw [hk] at this
    simpa using this
  have hz : ∀ g, Z g → w'.heap[g]? = w.heap[g]? := fun g hg => hw.block g (h.zlt g hg)
  have hg0 := h.grown
  refine
    { size := h.size
      tmps := fun t ht => (h.tmps t ht).mono hz (fun _ h => h) (env_more hek)
      tmpo := h.tmpo
      dom := ?_
      blk := ?_
      inj := ?_
      own := ?_
      zlt := fun g hg => Nat.lt_of_lt_of_le (h.zlt g hg) hw.size
      z0 := h.z0
      znew := h.znew
      os := hw.os.trans h.os
      tape := hw.tape.trans h.tape
      output := hw.output.trans h.output
      grown := Nat.le_trans h.grown hw.size
      keep := fun g h1 h2 => (hw.block g (by omega)).trans (h.keep g h1 h2)
      defers := (h.defers.mono hz (fun _ h => h) (env_more hek)).turn (fun b0 h0 => by rw [hk] at h0; cases h0) hd
      hand := hand_step h.hand (env_more hek) }
  · intro l
    simp only [F.setK]
    by_cases e' : l = k
    · simp [e']
    · simp only [e', if_false]; exact h.dom l
  · intro l b' e' h1 h2
    simp only [F.setK] at h1
    by_cases hl : l = k
    · rw [if_pos hl] at h1 h2
      simp only [Option.some.injEq] at h1 h2
      subst h1 h2
      exact hB
    · rw [if_neg hl] at h1 h2
      exact (h.blk l b' e' h1 h2).mono (fun g hg => hw.block g (h.blt h2 hg)) hz (fun _ h => h) (fun _ _ h => h) (env_more hek)
  · intro l m e1 f1 g h1 h2 h3 h4
    by_cases hl : l = k
    · by_cases hm : m = k
      · rw [hl, hm]
      · rw [if_pos hl] at h1
        rw [if_neg hm] at h2
        simp only [Option.some.injEq] at h1
        subst h1
        have := hnew g h3
        have := h.blt h2 h4
        omega
    · rw [if_neg hl] at h1
      by_cases hm : m = k
      · rw [if_pos hm] at h2
        simp only [Option.some.injEq] at h2
        subst h2
        have := hnew g h4
        have := h.blt h1 h3
        omega
      · rw [if_neg hm] at h2
        exact h.inj l m e1 f1 g h1 h2 h3 h4
  · intro l e1 g h1 h2
    by_cases hl : l = k
    · rw [if_pos hl] at h1
      simp only [Option.some.injEq] at h1
      subst h1
      exact .inl (Nat.le_trans h.grown (hnew g h2))
    · rw [if_neg hl] at h1
      exact h.own l e1 g h1 h2

/-- A world in which nothing has turned but some blocks, and new ones. -/
structure GrownIn (w w' : World) (p : Nat → Prop) : Prop where
  os : w'.os = w.os
  tape : w'.tape = w.tape
  output : w'.output = w.output
  size : w.heap.size ≤ w'.heap.size
  block : ∀ g, g < w.heap.size → ¬ p g → w'.heap[g]? = w.heap[g]?

/-- One entry has turned (a store, an append): its blocks alone, and new blocks. -/
theorem Rel.updEntry2 {X : Ctx} {s : F} {a : Act} (h : Rel X env Z s a w) {k : Nat} {b0 b : Blk} {e0 e : Ent} (hb0 : s.key k = some b0) (he0 : env k = some e0)
    (hg : GrownIn w w' e0.has) (hnz : ∀ g, e0.has g → ¬ Z g) (hB : BRel (fun l => if l = k then some e else env l) Z w' b e)
    (hle : e0.le e) (hob : ∀ g, e.has g → e0.has g ∨ w.heap.size ≤ g) (hd0 : b0.kind.isD = false) (hd : b.kind.isD = false := by rfl) :
    Rel X (fun l => if l = k then some e else env l) Z (s.setK k b) a w' := by
  have hz : ∀ g, Z g → w'.heap[g]? = w.heap[g]? := fun g hzg => hg.block g (h.zlt g hzg) fun e' => hnz g e' hzg
  have hen : ∀ l f, env l = some f → ∃ f', (if l = k then some e else env l) = some f' ∧ f.le f' := fun l f hl => by
    by_cases hlk : l = k
    · subst hlk
      rw [he0] at hl
      simp only [Option.some.injEq] at hl
      subst hl
      exact ⟨e, by rw [if_pos rfl], hle⟩
    · exact ⟨f, by rw [if_neg hlk]; exact hl, .refl f⟩
  have h0 := h.grown
  have hs := hg.size
  refine
    { size := h.size
      tmps := fun t ht => (h.tmps t ht).mono2 hz (fun _ h => h) hen
      tmpo := h.tmpo
      dom := ?_
      blk := ?_
      inj := ?_
      own := ?_
      zlt := fun g hg' => Nat.lt_of_lt_of_le (h.zlt g hg') hs
      z0 := h.z0
      znew := h.znew
      os := hg.os.trans h.os
      tape := hg.tape.trans h.tape
      output := hg.output.trans h.output
      grown := Nat.le_trans h.grown hs
      keep := fun g h1 h2 => (hg.block g (by omega) fun e' => ?_).trans (h.keep g h1 h2)
      defers := (h.defers.mono2 hz (fun _ h => h) hen).turn (fun b1 h1 => by rw [hb0] at h1; simp only [Option.some.injEq] at h1; rw [← h1]; exact hd0) hd
      hand := hand_step2 h.hand hen }
  · intro l
    simp only [F.setK]
    by_cases e' : l = k
    · simp [e']
    · simp only [e', if_false]; exact h.dom l
  · intro l b' e' h1 h2
    simp only [F.setK] at h1
    by_cases hl : l = k
    · rw [if_pos hl] at h1 h2
      simp only [Option.some.injEq] at h1 h2
      subst h1 h2
      exact hB
    · rw [if_neg hl] at h1 h2
      refine (h.blk l b' e' h1 h2).mono2 (fun g hg' => hg.block g (h.blt h2 hg') fun e'' => hl (h.inj l k e' e0 g h2 he0 hg' e'')) hz (fun _ h => h) (fun _ _ h => h) hen
  · intro l m e1 f1 g h1 h2 h3 h4
    by_cases hl : l = k
    · by_cases hm : m = k
      · rw [hl, hm]
      · rw [if_pos hl] at h1
        rw [if_neg hm] at h2
        simp only [Option.some.injEq] at h1
        subst h1
        rcases hob g h3 with h5 | h5
        · rw [hl]; exact (h.inj m k f1 e0 g h2 he0 h4 h5).symm
        · have := h.blt h2 h4; omega
    · rw [if_neg hl] at h1
      by_cases hm : m = k
      · rw [if_pos hm] at h2
        simp only [Option.some.injEq] at h2
        subst h2
        rcases hob g h4 with h5 | h5
        · rw [hm]; exact h.inj l k e1 e0 g h1 he0 h3 h5
        · have := h.blt h1 h3; omega
      · rw [if_neg hm] at h2
        exact h.inj l m e1 f1 g h1 h2 h3 h4
  · intro l e1 g h1 h2
    by_cases hl : l = k
    · rw [if_pos hl] at h1
      simp only [Option.some.injEq] at h1
      subst h1
      rcases hob g h2 with h5 | h5
      · exact h.own k e0 g he0 h5
      · exact .inl (Nat.le_trans h.grown h5)
    · rw [if_neg hl] at h1
      exact h.own l e1 g h1 h2
  · rcases h.own k e0 g he0 e' with h5 | h5
    · omega
    · exact h2 h5

/-- An entry of one block. -/
theorem Rel.updEntry {X : Ctx} {s : F} {a : Act} (h : Rel X env Z s a w) {k : Nat} {b0 b : Blk} {e0 e : Ent} (hb0 : s.key k = some b0) (he0 : env k = some e0) (hs0 : b0.kind.isNs = false ∧ b0.kind.isD = false) (hs : e.sub = [])
    (hg : w.grownBy w' (ob e0.v)) (hnz : ∀ g, ob e0.v = some g → ¬ Z g) (hB : BRel (fun l => if l = k then some e else env l) Z w' b e)
    (hge : e0.n ≤ e.n) (heq : e.n = e0.n → e = e0) (hob : ∀ g, ob e.v = some g → ob e0.v = some g ∨ w.heap.size ≤ g) (hd : b.kind.isD = false := by rfl) :
    Rel X (fun l => if l = k then some e else env l) Z (s.setK k b) a w' := by
  have hd0 := hs0.2
  have hs0 := ((h.blk k b0 e0 hb0 he0).plain hs0.1).1
  have has0 : ∀ g, e0.has g → ob e0.v = some g := fun g hg => by
    rcases hg with hg | ⟨c, hc, _⟩
    · exact hg
    · rw [hs0] at hc; cases hc
  have has : ∀ g, e.has g → ob e.v = some g := fun g hg => by
    rcases hg with hg | ⟨c, hc, _⟩
    · exact hg
    · rw [hs] at hc; cases hc
  exact h.updEntry2 hb0 he0 ⟨hg.os, hg.tape, hg.output, hg.size, fun g h1 h2 => hg.block g h1 fun e' => h2 (.inl e'.symm)⟩ (fun g hg' => hnz g (has0 g hg')) hB (.of hge heq) (fun g hg' => (hob g (has g hg')).elim (fun h => .inl (.inl h)) .inr) hd0 hd

/-- An array is frozen: from now on nothing is written there. -/
theorem Rel.freeze {X : Ctx} {s : F} {a : Act} (h : Rel X env Z s a w) {k : Nat} {b0 : Blk} {e0 : Ent} (hb0 : s.key k = some b0) (he0 : env k = some e0) (hk : b0.kind.isBox = false) (hd0 : b0.kind.isD = false) :
    Rel X env (fun g => Z g ∨ ob e0.v = some g) (s.setK k ⟨.frz, b0.T, b0.E, b0.rows⟩) a w := by
  have id : ∀ k e, env k = some e → ∃ e', env k = some e' ∧ e.n ≤ e'.n ∧ (e'.n = e.n → e' = e) := fun k e hk => ⟨e, hk, Nat.le_refl _, fun _ => rfl⟩
  refine
    { size := h.size
      tmps := fun t ht => (h.tmps t ht).mono (fun _ _ => rfl) (fun _ h => .inl h) id
      tmpo := h.tmpo
      dom := ?_
      blk := ?_
      inj := h.inj
      own := h.own
      zlt := fun g hg => hg.elim (h.zlt g) fun hg => h.blt he0 (.inl hg)
      z0 := fun g hg => .inl (h.z0 g hg)
      znew := fun g hg => hg.elim (h.znew g) fun hg => .inr (h.own k e0 g he0 (.inl hg))
      os := h.os
      tape := h.tape
      output := h.output
      grown := h.grown
      keep := h.keep
      defers := (h.defers.mono (fun _ _ => rfl) (fun _ h => .inl h) id).turn (fun b1 h1 => by rw [hb0] at h1; simp only [Option.some.injEq] at h1; rw [← h1]; exact hd0) rfl
      hand := h.hand }
  · intro l
    simp only [F.setK]
    by_cases e' : l = k
    · subst e'; simp [he0]
    · simp only [e', if_false]; exact h.dom l
  · intro l b' e' h1 h2
    simp only [F.setK] at h1
    by_cases hl : l = k
    · rw [if_pos hl] at h1
      rw [hl, he0] at h2
      simp only [Option.some.injEq] at h1 h2
      subst h1 h2
      have hB := h.blk k b0 e0 hb0 he0
      have hns : b0.kind.isNs = false := by cases hkk : b0.kind <;> first | rfl | (rw [hkk] at hk; cases hk)
      have hst0 : b0.kind.st = 0 := by cases hkk : b0.kind <;> first | rfl | (rw [hkk] at hk; cases hk)
      refine ⟨hB.hn, hB.hE, hB.hlen, fun hb => (by cases hb), hB.hst.trans hst0, fun _ => hB.plain hns, fun _ _ _ hb => (by cases hb), fun _ => ?_⟩
      rcases hB.arr hk with h0 | ⟨g, cap, cs, h1, h2, h3, h4, h5, h6, h7, h8, h9⟩
      · exact .inl h0
      · have hob : ob e0.v = some g := by rw [h1]; simp only [ob]; rw [if_neg (by omega)]
        exact .inr ⟨g, cap, cs, h1, h2, h3, h4, h5, h6, fun hk => (by cases hk), fun _ => .inr hob,
          fun i j r v hi hj => let ⟨c, q1, q2, q3⟩ := h9 i j r v hi hj; ⟨c, q1, q2.mono (fun _ _ => rfl) (fun _ h => .inl h) id, q3⟩⟩
    · rw [if_neg hl] at h1
      refine (h.blk l b' e' h1 h2).mono (fun _ _ => rfl) (fun _ _ => rfl) (fun _ h => .inl h) (fun g hg hz hz' => ?_) id
      rcases hz' with hz' | hz'
      · exact hz hz'
      · exact hl (h.inj l k e' e0 g h2 he0 hg (.inl hz'))

/-- What an array's slice tells: its rows, read. -/
theorem Rel.readArr {X : Ctx} {s : F} {a : Act} (h : Rel X env Z s a w) {k n : Nat} {b : Blk} {c : Value} (hv : VRel env Z w (.slc k n) c) (hb : s.key k = some b) (hn : b.rows.length = n) :
    ∃ e, env k = some e ∧ c = e.v ∧ BRel env Z w b e := by
  cases hv with
  | slc _ _ _ e he hle h1 hc =>
    have hB := h.blk k b e hb he
    exact ⟨e, he, hc (by rw [hB.hn]; exact hn.symm), hB⟩
end

end Go.Proofs.YteiniiakpdijmaaDoor.AI
