/- Ways: what they cost, and the way that goes down the costs. -/
import Derived.Test.YteiniiakpdijmaaDoorSg
namespace Go.Proofs.YteiniiakpdijmaaDoor.AI
open Go.RowKit
set_option linter.unusedVariables false
set_option linter.unusedSimpArgs false

/-! ### What a way costs -/
def egN (nb : Nb) (i j : Nat) : Nat → Nat → Option Int
  | 0, _ => none
  | r + 1, d => match nb i d with
    | some (k, w) => if k = j then some w else egN nb i j r (d + 1)
    | none => egN nb i j r (d + 1)
/-- The cost of the step from one cell to another. -/
def eg (nb : Nb) (i j : Nat) : Option Int := egN nb i j 8 0
def wc (nb : Nb) : List Nat → Option Int
  | [] => some 0
  | i :: l => match l with
    | [] => some 0
    | j :: _ => (eg nb i j).bind fun w => (wc nb l).map fun c => w + c
theorem wc_one (nb : Nb) (i : Nat) : wc nb [i] = some 0 := rfl
theorem wc_cons (nb : Nb) (i j : Nat) (l : List Nat) : wc nb (i :: j :: l) = (eg nb i j).bind fun w => (wc nb (j :: l)).map fun c => w + c := rfl
def NbInj (nb : Nb) : Prop := ∀ i d e j w u, nb i d = some (j, w) → nb i e = some (j, u) → d = e
theorem egN_some {nb : Nb} {i j : Nat} {w : Int} : ∀ (r d : Nat), egN nb i j r d = some w → ∃ e, d ≤ e ∧ e < d + r ∧ nb i e = some (j, w)
  | 0, d, h => by cases h
  | r + 1, d, h => by
    unfold egN at h
    cases hb : nb i d with
    | none =>
      rw [hb] at h
      obtain ⟨e, a, b, c⟩ := egN_some r (d + 1) h
      exact ⟨e, by omega, by omega, c⟩
    | some q =>
      obtain ⟨k, u⟩ := q
      rw [hb] at h
      simp only at h
      split at h
      · rename_i hk
        subst hk
        simp only [Option.some.injEq] at h
        subst h
        exact ⟨d, by omega, by omega, hb⟩
      · obtain ⟨e, a, b, c⟩ := egN_some r (d + 1) h
        exact ⟨e, by omega, by omega, c⟩
theorem eg_some {nb : Nb} {i j : Nat} {w : Int} (h : eg nb i j = some w) : ∃ d, d < 8 ∧ nb i d = some (j, w) := by
  obtain ⟨e, a, b, c⟩ := egN_some 8 0 h
  exact ⟨e, by omega, c⟩
theorem egN_none {nb : Nb} {i j : Nat} : ∀ (r d : Nat), egN nb i j r d = none → ∀ e w, d ≤ e → e < d + r → nb i e ≠ some (j, w)
  | 0, d, h, e, w, a, b => by omega
  | r + 1, d, h, e, w, a, b => by
    unfold egN at h
    cases hb : nb i d with
    | none =>
      rw [hb] at h
      by_cases he : e = d
      · subst he; rw [hb]; simp
      · exact egN_none r (d + 1) h e w (by omega) (by omega)
    | some q =>
      obtain ⟨k, u⟩ := q
      rw [hb] at h
      simp only at h
      split at h
      · cases h
      · rename_i hk
        by_cases he : e = d
        · subst he
          rw [hb]
          intro z
          simp only [Option.some.injEq, Prod.mk.injEq] at z
          exact hk z.1
        · exact egN_none r (d + 1) h e w (by omega) (by omega)
theorem eg_of {nb : Nb} (hi : NbInj nb) {i j d : Nat} {w : Int} (hd : d < 8) (h : nb i d = some (j, w)) : eg nb i j = some w := by
  cases he : eg nb i j with
  | none => exact absurd h (egN_none 8 0 he d w (by omega) (by omega))
  | some u =>
    obtain ⟨e, a, b⟩ := eg_some he
    have := hi _ _ _ _ _ _ h b
    subst this
    rw [h] at b
    simp only [Option.some.injEq, Prod.mk.injEq, true_and] at b
    rw [b]
theorem wc_bound {n : Nat} {nb : Nb} (ho : NbOk n nb) : ∀ (l : List Nat) (c : Int), wc nb l = some c → 0 ≤ c ∧ c ≤ 19 * l.length
  | [], c, h => by simp only [wc, Option.some.injEq] at h; subst h; simp
  | [i], c, h => by simp only [wc, Option.some.injEq] at h; subst h; simp
  | i :: j :: l, c, h => by
    rw [wc_cons] at h
    cases he : eg nb i j with
    | none => rw [he] at h; cases h
    | some w =>
      cases hc : wc nb (j :: l) with
      | none => rw [he, hc] at h; cases h
      | some u =>
        rw [he, hc] at h
        simp only [Option.bind_some, Option.map_some, Option.some.injEq] at h
        obtain ⟨d, a, b⟩ := eg_some he
        have := ho.pos _ _ _ _ b
        have ih := wc_bound ho (j :: l) u hc
        simp only [List.length_cons] at ih ⊢
        omega
/-- No way is cheaper than the least costs. -/
theorem wc_least {n : Nat} {nb : Nb} {b : Nat} {c : Nat → Int} (ho : NbOk n nb) (hs : NbSym nb) (hr : Right n nb (· = b) c) (hb : b < n) :
    ∀ (l : List Nat) (i : Nat) (u : Int), wc nb (i :: l) = some u → (i :: l).getLast? = some b → 0 ≤ c i ∧ c i ≤ u
  | [], i, u, h, hl => by
    simp only [wc, Option.some.injEq] at h
    simp only [List.getLast?_singleton, Option.some.injEq] at hl
    subst h hl
    have := hr.zero i hb rfl
    omega
  | j :: l, i, u, h, hl => by
    rw [wc_cons] at h
    cases he : eg nb i j with
    | none => rw [he] at h; cases h
    | some w =>
      cases hc : wc nb (j :: l) with
      | none => rw [he, hc] at h; cases h
      | some v =>
        rw [he, hc] at h
        simp only [Option.bind_some, Option.map_some, Option.some.injEq] at h
        rw [List.getLast?_cons_cons] at hl
        have ih := wc_least ho hs hr hb l j v hc hl
        obtain ⟨d, x, y⟩ := eg_some he
        obtain ⟨e, z1, z2⟩ := hs _ _ _ _ x y
        have := hr.edge j e i w (ho.lt _ _ _ _ y).2 z1 z2 ih.1
        omega

/-! ### Down the costs -/
def dN (nb : Nb) (cs : List Int) (i : Nat) : Nat → Nat → Option Nat
  | 0, _ => none
  | r + 1, d => match nb i d with
    | some (j, w) => if cg cs j + w = cg cs i then some d else dN nb cs i r (d + 1)
    | none => dN nb cs i r (d + 1)
def nxt (nb : Nb) (cs : List Int) (i : Nat) : Option Nat := (dN nb cs i 8 0).bind fun d => (nb i d).map fun q => q.1
def wk (nb : Nb) (cs : List Int) : Nat → Nat → List Nat
  | 0, _ => []
  | f + 1, i => if cg cs i ≤ 0 then [] else match nxt nb cs i with
    | some j => j :: wk nb cs f j
    | none => []
theorem dN_some {nb : Nb} {cs : List Int} {i e : Nat} : ∀ (r d : Nat), dN nb cs i r d = some e → d ≤ e ∧ e < d + r ∧ ∃ j w, nb i e = some (j, w) ∧ cg cs j + w = cg cs i
  | 0, d, h => by cases h
  | r + 1, d, h => by
    unfold dN at h
    cases hb : nb i d with
    | none =>
      rw [hb] at h
      obtain ⟨a, b, c⟩ := dN_some r (d + 1) h
      exact ⟨by omega, by omega, c⟩
    | some q =>
      obtain ⟨j, w⟩ := q
      rw [hb] at h
      simp only at h
      split at h
      · rename_i hk
        simp only [Option.some.injEq] at h
        subst h
        exact ⟨by omega, by omega, j, w, hb, hk⟩
      · obtain ⟨a, b, c⟩ := dN_some r (d + 1) h
        exact ⟨by omega, by omega, c⟩
theorem dN_none {nb : Nb} {cs : List Int} {i : Nat} : ∀ (r d : Nat), dN nb cs i r d = none → ∀ e j w, d ≤ e → e < d + r → nb i e = some (j, w) → cg cs j + w ≠ cg cs i
  | 0, d, h, e, j, w, a, b, c => by omega
  | r + 1, d, h, e, j, w, a, b, c => by
    unfold dN at h
    by_cases he : e = d
    · subst he
      rw [c] at h
      simp only at h
      split at h
      · cases h
      · assumption
    · cases hb : nb i d with
      | none => rw [hb] at h; exact dN_none r (d + 1) h e j w (by omega) (by omega) c
      | some q =>
        obtain ⟨k, u⟩ := q
        rw [hb] at h
        simp only at h
        split at h
        · cases h
        · exact dN_none r (d + 1) h e j w (by omega) (by omega) c
theorem nxt_some {n : Nat} {nb : Nb} {src : Nat → Prop} {cs : List Int} (ho : NbOk n nb) (hs : NbSym nb) (hr : Right n nb src (cg cs)) {i : Nat} (hi : i < n) (h0 : 0 < cg cs i) :
    ∃ d j w, dN nb cs i 8 0 = some d ∧ d < 8 ∧ nb i d = some (j, w) ∧ nxt nb cs i = some j ∧ j < n ∧ 0 ≤ cg cs j ∧ cg cs j + w = cg cs i ∧ 10 ≤ w := by
  cases hd : dN nb cs i 8 0 with
  | none =>
    exfalso
    rcases hr.back i hi (by omega) with ⟨a, b⟩ | ⟨k, d, w, a, b, c, e, f⟩
    · omega
    · obtain ⟨e', x, y⟩ := hs _ _ _ _ b c
      exact dN_none 8 0 hd e' k w (by omega) (by omega) y (by omega)
  | some d =>
    obtain ⟨a, b, j, w, c, e⟩ := dN_some 8 0 hd
    have := ho.pos _ _ _ _ c
    refine ⟨d, j, w, rfl, by omega, c, ?_, (ho.lt _ _ _ _ c).2, (hr.edge i d j w hi (by omega) c (by omega)).1, e, this.1⟩
    unfold nxt
    rw [hd]
    simp [c]
/-- The way down the costs. -/
theorem wk_way {n : Nat} {nb : Nb} {src : Nat → Prop} {cs : List Int} (ho : NbOk n nb) (hs : NbSym nb) (hj : NbInj nb) (hr : Right n nb src (cg cs)) :
    ∀ (f i : Nat), i < n → 0 ≤ cg cs i → cg cs i < 10 * f → wc nb (i :: wk nb cs f i) = some (cg cs i) ∧ (∃ b, (i :: wk nb cs f i).getLast? = some b ∧ b < n ∧ cg cs b = 0) ∧ (∀ x, x ∈ i :: wk nb cs f i → x < n) ∧ ((wk nb cs f i).length : Int) * 10 ≤ cg cs i
  | 0, i, hi, h0, hf => by omega
  | f + 1, i, hi, h0, hf => by
    unfold wk
    by_cases hz : cg cs i ≤ 0
    · rw [if_pos hz]
      have e : cg cs i = 0 := by omega
      refine ⟨by rw [e]; rfl, ⟨i, rfl, hi, e⟩, ?_, by simp; omega⟩
      intro x hx
      rw [List.mem_singleton] at hx
      subst hx
      exact hi
    · rw [if_neg hz]
      obtain ⟨d, j, w, h1, h2, h3, h4, h5, h6, h7, h8⟩ := nxt_some ho hs hr hi (by omega)
      obtain ⟨k1, k2, k3, k4⟩ := wk_way ho hs hj hr f j h5 h6 (by omega)
      rw [h4]
      simp only
      refine ⟨?_, ?_, ?_, ?_⟩
      · rw [wc_cons, eg_of hj h2 h3, k1]
        simp only [Option.bind_some, Option.map_some, Option.some.injEq]
        omega
      · rw [List.getLast?_cons_cons]
        exact k2
      · intro x hx
        rcases List.mem_cons.1 hx with rfl | hx
        · exact hi
        · exact k3 x hx
      · simp only [List.length_cons]
        omega
theorem Right.zero_iff {n : Nat} {nb : Nb} {src : Nat → Prop} {c : Nat → Int} (ho : NbOk n nb) (hr : Right n nb src c) {i : Nat} (hi : i < n) : c i = 0 ↔ src i := by
  constructor
  · intro h
    rcases hr.back i hi (by omega) with a | ⟨k, d, w, a, b, e, f, g⟩
    · exact a.1
    · have := ho.pos _ _ _ _ e
      omega
  · exact hr.zero i hi

/-! ### Steps lead to different cells -/
theorem stp_inj {W H : Int} {n : Nat} {x y d e : Int} (hi : ins W H n x y = true) (h1 : 0 ≤ d) (h2 : d < 8) (h3 : 0 ≤ e) (h4 : e < 8) (h : stp x y d = stp x y e) : d = e := by
  have r := ins_rng hi
  unfold stp at h
  rw [if_neg (by omega), if_neg (by omega), nr_id (n := x) (by omega) (by omega), nr_id (n := y) (by omega) (by omega)] at h
  simp only [Prod.mk.injEq] at h
  have a : dX d = dX e := by omega
  have b : dY d = dY e := by omega
  unfold dX at a
  unfold dY at b
  have hd : d = 0 ∨ d = 1 ∨ d = 2 ∨ d = 3 ∨ d = 4 ∨ d = 5 ∨ d = 6 ∨ d = 7 := by omega
  have he : e = 0 ∨ e = 1 ∨ e = 2 ∨ e = 3 ∨ e = 4 ∨ e = 5 ∨ e = 6 ∨ e = 7 := by omega
  rcases hd with rfl | rfl | rfl | rfl | rfl | rfl | rfl | rfl <;> rcases he with rfl | rfl | rfl | rfl | rfl | rfl | rfl | rfl <;> first | rfl | (simp at a b)
theorem nbG_inj (W H : Int) (cells bl : List (List AVal)) (cls : Int) : NbInj (nbG W H cells bl cls) := by
  intro i d e j w u h k
  obtain ⟨h1, h2, h3, h4⟩ := nbG_some h
  obtain ⟨k1, k2, k3, k4⟩ := nbG_some k
  have a := step_ins (W := W) (H := H) (cells := cells) (bl := bl) (cls := cls) (x := px W i) (y := py W i) (d := d) (by rw [h3])
  have b := step_ins (W := W) (H := H) (cells := cells) (bl := bl) (cls := cls) (x := px W i) (y := py W i) (d := e) (by rw [k3])
  have p := pos_nm a.2
  have q := pos_nm b.2
  rw [← h4] at p
  rw [← k4] at q
  have := stp_inj a.1 (by omega) (by omega) (by omega) (by omega) (Prod.ext (p.1.symm.trans q.1) (p.2.symm.trans q.2))
  omega
end Go.Proofs.YteiniiakpdijmaaDoor.AI
