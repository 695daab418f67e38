/- Shortest ways: what relaxing comes to, and that there is one answer. -/
import Derived.Test.YteiniiakpdijmaaDoorLp
namespace Go.Proofs.YteiniiakpdijmaaDoor.AI
open Go.RowKit
set_option linter.unusedVariables false

/-! ### Costs -/
/-- The cost of a cell, -1 where there is none. -/
def cg (cs : List Int) (i : Nat) : Int := cs.getD i (-1)
theorem cg_lt {cs : List Int} {i : Nat} (h : 0 ≤ cg cs i) : i < cs.length := by
  by_cases h1 : i < cs.length
  · exact h1
  · unfold cg at h
    rw [List.getD_eq_getElem?_getD, List.getElem?_eq_none (by omega)] at h
    simp at h
theorem cg_set {cs : List Int} {i : Nat} (j : Nat) (v : Int) (h : i < cs.length) : cg (cs.set i v) j = if i = j then v else cg cs j := by
  unfold cg
  rw [List.getD_eq_getElem?_getD, List.getD_eq_getElem?_getD, List.getElem?_set]
  by_cases h1 : i = j
  · subst h1
    simp [h]
  · simp [h1]
/-- The neighbor by direction, and what the step costs. -/
abbrev Nb := Nat → Nat → Option (Nat × Int)
structure NbOk (n : Nat) (nb : Nb) : Prop where
  lt : ∀ i d j w, nb i d = some (j, w) → i < n ∧ j < n
  pos : ∀ i d j w, nb i d = some (j, w) → 10 ≤ w ∧ w ≤ 19
def NbSym (nb : Nb) : Prop := ∀ i d j w, d < 8 → nb i d = some (j, w) → ∃ e, e < 8 ∧ nb j e = some (i, w)

/-- The least costs from sources. -/
structure Right (n : Nat) (nb : Nb) (src : Nat → Prop) (c : Nat → Int) : Prop where
  low : ∀ i, i < n → -1 ≤ c i
  zero : ∀ i, i < n → src i → c i = 0
  edge : ∀ i d j w, i < n → d < 8 → nb i d = some (j, w) → 0 ≤ c i → 0 ≤ c j ∧ c j ≤ c i + w
  back : ∀ j, j < n → 0 ≤ c j → (src j ∧ c j = 0) ∨ ∃ i d w, i < n ∧ d < 8 ∧ nb i d = some (j, w) ∧ 0 ≤ c i ∧ c j = c i + w
theorem Right.le {n : Nat} {nb : Nb} {src : Nat → Prop} {c e : Nat → Int} (ho : NbOk n nb) (hc : Right n nb src c) (he : Right n nb src e) :
    ∀ (m : Nat) (j : Nat), j < n → 0 ≤ e j → e j ≤ m → 0 ≤ c j ∧ c j ≤ e j := by
  intro m
  induction m using Nat.strongRecOn with
  | ind m ih =>
    intro j hj h0 hm
    rcases he.back j hj h0 with ⟨h1, h2⟩ | ⟨i, d, w, h1, h2, h3, h4, h5⟩
    · have := hc.zero j hj h1
      omega
    · have hw := ho.pos _ _ _ _ h3
      have k := ih (e i).toNat (by omega) i h1 h4 (by omega)
      have := hc.edge i d j w h1 h2 h3 k.1
      omega
theorem Right.eq {n : Nat} {nb : Nb} {src : Nat → Prop} {c e : Nat → Int} (ho : NbOk n nb) (hc : Right n nb src c) (he : Right n nb src e) (j : Nat) (hj : j < n) : c j = e j := by
  have l1 := hc.low j hj
  have l2 := he.low j hj
  by_cases h : 0 ≤ e j
  · have a := Right.le ho hc he (e j).toNat j hj h (by omega)
    have b := Right.le ho he hc (c j).toNat j hj a.1 (by omega)
    omega
  · by_cases h2 : 0 ≤ c j
    · have b := Right.le ho he hc (c j).toNat j hj h2 (by omega)
      omega
    · omega
/-- The triangle inequality. -/
theorem Right.tri {n : Nat} {nb : Nb} {b x : Nat} {c e : Nat → Int} (ho : NbOk n nb) (hs : NbSym nb) (hc : Right n nb (· = b) c) (he : Right n nb (· = x) e) :
    ∀ (m : Nat) (p : Nat), p < n → 0 ≤ c p → c p ≤ m → 0 ≤ e p → 0 ≤ e b ∧ e b ≤ e p + c p := by
  intro m
  induction m using Nat.strongRecOn with
  | ind m ih =>
    intro p hp h0 hm h1
    rcases hc.back p hp h0 with ⟨h2, h3⟩ | ⟨i, d, w, h2, h3, h4, h5, h6⟩
    · subst h2
      omega
    · have hw := ho.pos _ _ _ _ h4
      obtain ⟨q, q1, q2⟩ := hs _ _ _ _ h3 h4
      have k := he.edge p q i w hp q1 q2 h1
      have := ih (c i).toNat (by omega) i h2 h5 (by omega) k.1
      omega
theorem Right.tri' {n : Nat} {nb : Nb} {b x : Nat} {c e : Nat → Int} (ho : NbOk n nb) (hs : NbSym nb) (hc : Right n nb (· = b) c) (he : Right n nb (· = x) e) (p : Nat) (hp : p < n) (h0 : 0 ≤ c p) (h1 : 0 ≤ e p) : 0 ≤ e b ∧ e b ≤ e p + c p :=
  Right.tri ho hs hc he (c p).toNat p hp h0 (by omega) h1
/-- There and back costs the same. -/
theorem Right.sym {n : Nat} {nb : Nb} {a b : Nat} {c e : Nat → Int} (ho : NbOk n nb) (hs : NbSym nb) (ha : a < n) (hb : b < n) (hc : Right n nb (· = a) c) (he : Right n nb (· = b) e) : c b = e a := by
  have l1 := hc.low b hb
  have l2 := he.low a ha
  have z1 := hc.zero a ha rfl
  have z2 := he.zero b hb rfl
  by_cases h : 0 ≤ c b
  · have k1 := Right.tri' ho hs hc he b hb h (by omega)
    have k2 := Right.tri' ho hs he hc a ha k1.1 (by omega)
    omega
  · by_cases h2 : 0 ≤ e a
    · have k2 := Right.tri' ho hs he hc a ha h2 (by omega)
      omega
    · omega
/-- Where more is possible, nothing costs more. -/
theorem Right.mono {n : Nat} {nb nc : Nb} {src : Nat → Prop} {c e : Nat → Int} (ho : NbOk n nb) (hm : ∀ i d j w, nb i d = some (j, w) → nc i d = some (j, w)) (hc : Right n nc src c) (he : Right n nb src e) :
    ∀ (m : Nat) (j : Nat), j < n → 0 ≤ e j → e j ≤ m → 0 ≤ c j ∧ c j ≤ e j := by
  intro m
  induction m using Nat.strongRecOn with
  | ind m ih =>
    intro j hj h0 hm'
    rcases he.back j hj h0 with ⟨h1, h2⟩ | ⟨i, d, w, h1, h2, h3, h4, h5⟩
    · have := hc.zero j hj h1
      omega
    · have hw := ho.pos _ _ _ _ h3
      have k := ih (e i).toNat (by omega) i h1 h4 (by omega)
      have := hc.edge i d j w h1 h2 (hm _ _ _ _ h3) k.1
      omega

/-! ### Relaxing -/
def rlx (v : Int) (o : Option (Nat × Int)) (cs : List Int) : List Int := match o with
  | none => cs
  | some (j, w) => if cg cs j < 0 ∨ v + w < cg cs j then cs.set j (v + w) else cs
def rlxN (nb : Nb) (k : Nat) (v : Int) : Nat → Nat → List Int → List Int
  | 0, _, cs => cs
  | r + 1, d, cs => rlxN nb k v r (d + 1) (rlx v (nb k d) cs)
theorem rlx_len (v : Int) (o : Option (Nat × Int)) (cs : List Int) : (rlx v o cs).length = cs.length := by
  unfold rlx
  split
  · rfl
  · split <;> simp
theorem rlxN_len (nb : Nb) (k : Nat) (v : Int) : ∀ (r d : Nat) (cs : List Int), (rlxN nb k v r d cs).length = cs.length
  | 0, _, cs => rfl
  | r + 1, d, cs => by rw [rlxN, rlxN_len nb k v r, rlx_len]
/-- Half way through the directions. -/
structure Half (nb : Nb) (k : Nat) (v : Int) (d : Nat) (c0 cs : List Int) : Prop where
  len : cs.length = c0.length
  old : ∀ j, cg cs j = cg c0 j ∨ ∃ e w, e < d ∧ nb k e = some (j, w) ∧ cg cs j = v + w ∧ (cg c0 j < 0 ∨ v + w < cg c0 j)
  new : ∀ e j w, e < d → nb k e = some (j, w) → 0 ≤ cg cs j ∧ cg cs j ≤ v + w
theorem Half.zero (nb : Nb) (k : Nat) (v : Int) (cs : List Int) : Half nb k v 0 cs cs := ⟨rfl, fun j => .inl rfl, fun e j w h => by omega⟩
theorem Half.step {n : Nat} {nb : Nb} {k : Nat} {v : Int} {d : Nat} {c0 cs : List Int} (ho : NbOk n nb) (hv : 0 ≤ v) (hn : c0.length = n) (h : Half nb k v d c0 cs) : Half nb k v (d + 1) c0 (rlx v (nb k d) cs) := by
  refine ⟨by rw [rlx_len, h.len], ?_, ?_⟩
  · intro j
    have hj := h.old j
    unfold rlx
    cases hb : nb k d with
    | none =>
      rcases hj with hj | ⟨e, w, h1, h2⟩
      · exact .inl hj
      · exact .inr ⟨e, w, by omega, h2⟩
    | some q =>
      obtain ⟨i, w⟩ := q
      have hp := ho.pos _ _ _ _ hb
      have hl := (ho.lt _ _ _ _ hb).2
      simp only
      by_cases h1 : cg cs i < 0 ∨ v + w < cg cs i
      · rw [if_pos h1, cg_set j _ (by rw [h.len]; omega)]
        by_cases h2 : i = j
        · subst h2
          rw [if_pos rfl]
          refine .inr ⟨d, w, by omega, hb, rfl, ?_⟩
          rcases hj with hj | ⟨e, u, a1, a2, a3, a4⟩
          · rw [← hj]; exact h1
          · have := ho.pos _ _ _ _ a2
            omega
        · rw [if_neg h2]
          rcases hj with hj | ⟨e, u, a1, a2⟩
          · exact .inl hj
          · exact .inr ⟨e, u, by omega, a2⟩
      · rw [if_neg h1]
        rcases hj with hj | ⟨e, u, a1, a2⟩
        · exact .inl hj
        · exact .inr ⟨e, u, by omega, a2⟩
  · intro e j w he hb
    unfold rlx
    cases hd : nb k d with
    | none =>
      have : e ≠ d := fun q => by subst q; rw [hd] at hb; cases hb
      exact h.new e j w (by omega) hb
    | some q =>
      obtain ⟨i, u⟩ := q
      have hp := ho.pos _ _ _ _ hd
      have hl := (ho.lt _ _ _ _ hd).2
      simp only
      by_cases h1 : cg cs i < 0 ∨ v + u < cg cs i
      · rw [if_pos h1, cg_set j _ (by rw [h.len]; omega)]
        by_cases h2 : i = j
        · subst h2
          rw [if_pos rfl]
          by_cases h3 : e = d
          · subst h3
            rw [hd] at hb
            simp only [Option.some.injEq, Prod.mk.injEq] at hb
            omega
          · have := h.new e i w (by omega) hb
            omega
        · rw [if_neg h2]
          have h3 : e ≠ d := fun q => by
            subst q
            rw [hd] at hb
            simp only [Option.some.injEq, Prod.mk.injEq] at hb
            exact h2 hb.1
          exact h.new e j w (by omega) hb
      · rw [if_neg h1]
        by_cases h3 : e = d
        · subst h3
          rw [hd] at hb
          simp only [Option.some.injEq, Prod.mk.injEq] at hb
          obtain ⟨rfl, rfl⟩ := hb
          omega
        · exact h.new e j w (by omega) hb
theorem rlxN_half {n : Nat} {nb : Nb} {k : Nat} {v : Int} {c0 : List Int} (ho : NbOk n nb) (hv : 0 ≤ v) (hn : c0.length = n) : ∀ (r d : Nat) (cs : List Int), Half nb k v d c0 cs → Half nb k v (d + r) c0 (rlxN nb k v r d cs)
  | 0, d, cs, h => h
  | r + 1, d, cs, h => by
    have := rlxN_half ho hv hn r (d + 1) _ (Half.step ho hv hn h)
    rw [show d + (r + 1) = d + 1 + r by omega]
    exact this
/-- A cell that is relaxed already changes nothing. -/
theorem rlx_idle {v : Int} {o : Option (Nat × Int)} {cs : List Int} (h : ∀ j w, o = some (j, w) → 0 ≤ cg cs j ∧ cg cs j ≤ v + w) : rlx v o cs = cs := by
  unfold rlx
  split
  · rfl
  · rename_i j w
    have := h j w rfl
    rw [if_neg (by omega)]
theorem rlxN_idle {nb : Nb} {k : Nat} {v : Int} {cs : List Int} : ∀ (r d : Nat), (∀ e j w, d ≤ e → e < d + r → nb k e = some (j, w) → 0 ≤ cg cs j ∧ cg cs j ≤ v + w) → rlxN nb k v r d cs = cs
  | 0, d, h => rfl
  | r + 1, d, h => by
    rw [rlxN, rlx_idle fun j w q => h d j w (by omega) (by omega) q]
    exact rlxN_idle r (d + 1) fun e j w h1 h2 => h e j w (by omega) (by omega)

/-! ### What is settled -/
structure Part (n : Nat) (nb : Nb) (src : Nat → Prop) (cs : List Int) (S : List Nat) : Prop where
  len : cs.length = n
  low : ∀ i, -1 ≤ cg cs i
  zero : ∀ i, i < n → src i → cg cs i = 0
  nodup : S.Nodup
  sub : ∀ i, i ∈ S → i < n ∧ 0 ≤ cg cs i ∧ ∀ d j w, d < 8 → nb i d = some (j, w) → 0 ≤ cg cs j ∧ cg cs j ≤ cg cs i + w
  back : ∀ j, 0 ≤ cg cs j → (src j ∧ cg cs j = 0) ∨ ∃ i d w, i ∈ S ∧ d < 8 ∧ nb i d = some (j, w) ∧ cg cs j = cg cs i + w
  big : ∀ j, cg cs j ≤ 19 * S.length
theorem nodup_len : ∀ (n : Nat) (S : List Nat), S.Nodup → (∀ i, i ∈ S → i < n) → S.length ≤ n
  | 0, S, _, h => by
    cases S with
    | nil => simp
    | cons a S => have := h a (by simp); omega
  | n + 1, S, hn, h => by
    by_cases hm : n ∈ S
    · have k := nodup_len n (S.erase n) (hn.erase n) fun i hi => by
        have h1 := (List.Nodup.mem_erase_iff hn).1 hi
        have := h i h1.2
        omega
      rw [List.length_erase_of_mem hm] at k
      omega
    · have := nodup_len n S hn fun i hi => by
        have h1 := h i hi
        have : i ≠ n := fun e => hm (e ▸ hi)
        omega
      omega
theorem Part.few {n : Nat} {nb : Nb} {src : Nat → Prop} {cs : List Int} {S : List Nat} (h : Part n nb src cs S) : S.length ≤ n := nodup_len n S h.nodup fun i hi => (h.sub i hi).1
theorem Part.settle {n : Nat} {nb : Nb} {src : Nat → Prop} {cs ds : List Int} {S : List Nat} {k : Nat} (ho : NbOk n nb) (h : Part n nb src cs S) (hk : k < n) (h0 : 0 ≤ cg cs k) (hS : k ∉ S)
    (h1 : ∀ i, i ∈ S → cg cs i ≤ cg cs k) (hd : Half nb k (cg cs k) 8 cs ds) : Part n nb src ds (k :: S) := by
  -- what is settled keeps its cost
  have keep : ∀ i, 0 ≤ cg cs i → cg cs i ≤ cg cs k → cg ds i = cg cs i := fun i a b => by
    rcases hd.old i with q | ⟨e, w, q1, q2, q3, q4⟩
    · exact q
    · have := ho.pos _ _ _ _ q2
      omega
  have less : ∀ j, 0 ≤ cg cs j → 0 ≤ cg ds j ∧ cg ds j ≤ cg cs j := fun j a => by
    rcases hd.old j with q | ⟨e, w, q1, q2, q3, q4⟩
    · omega
    · have := ho.pos _ _ _ _ q2
      omega
  have kk := keep k h0 (by omega)
  have ks : ∀ i, i ∈ S → cg ds i = cg cs i := fun i hi => keep i (h.sub i hi).2.1 (h1 i hi)
  refine ⟨by rw [hd.len, h.len], ?_, ?_, ?_, ?_, ?_, ?_⟩
  · intro i
    have := h.low i
    rcases hd.old i with q | ⟨e, w, q1, q2, q3, q4⟩
    · omega
    · have := ho.pos _ _ _ _ q2
      omega
  · intro i hi hs
    have z := h.zero i hi hs
    have := less i (by omega)
    omega
  · exact List.nodup_cons.2 ⟨hS, h.nodup⟩
  · intro i hi
    rcases List.mem_cons.1 hi with rfl | hi
    · refine ⟨hk, by omega, fun d j w a b => ?_⟩
      rw [kk]
      exact hd.new d j w a b
    · obtain ⟨a1, a2, a3⟩ := h.sub i hi
      refine ⟨a1, by rw [ks i hi]; exact a2, fun d j w a b => ?_⟩
      have := a3 d j w a b
      have := less j this.1
      rw [ks i hi]
      omega
  · intro j hj
    rcases hd.old j with q | ⟨e, w, q1, q2, q3, q4⟩
    · rcases h.back j (by omega) with ⟨a, b⟩ | ⟨i, d, w, a1, a2, a3, a4⟩
      · exact .inl ⟨a, by omega⟩
      · exact .inr ⟨i, d, w, List.mem_cons_of_mem _ a1, a2, a3, by rw [ks i a1]; omega⟩
    · exact .inr ⟨k, e, w, List.mem_cons_self, q1, q2, by omega⟩
  · intro j
    have b := h.big j
    have bk := h.big k
    rw [List.length_cons]
    rcases hd.old j with q | ⟨e, w, q1, q2, q3, q4⟩
    · omega
    · have := ho.pos _ _ _ _ q2
      omega
theorem Part.done {n : Nat} {nb : Nb} {src : Nat → Prop} {cs : List Int} {S : List Nat} (h : Part n nb src cs S) (hd : ∀ j, 0 ≤ cg cs j → j ∈ S) : Right n nb src (cg cs) := by
  refine ⟨fun i _ => h.low i, h.zero, fun i d j w h1 h2 h3 h4 => (h.sub i (hd i h4)).2.2 d j w h2 h3, fun j h1 h2 => ?_⟩
  rcases h.back j h2 with a | ⟨i, d, w, a1, a2, a3, a4⟩
  · exact .inl a
  · exact .inr ⟨i, d, w, (h.sub i a1).1, a2, a3, (h.sub i a1).2.1, a4⟩
/-- At the beginning. -/
theorem Part.start {n : Nat} {nb : Nb} {src : Nat → Prop} {cs : List Int} (hl : cs.length = n) (h : ∀ i, i < n → (src i ∧ cg cs i = 0) ∨ (¬ src i ∧ cg cs i = -1)) : Part n nb src cs [] := by
  have hn : ∀ i, ¬ i < n → cg cs i = -1 := fun i hi => by
    unfold cg
    rw [List.getD_eq_getElem?_getD, List.getElem?_eq_none (by omega)]
    rfl
  refine ⟨hl, fun i => ?_, fun i hi hs => ?_, List.nodup_nil, fun i hi => (by cases hi), fun j hj => ?_, fun j => ?_⟩
  · by_cases hi : i < n
    · rcases h i hi with a | a <;> omega
    · have := hn i hi; omega
  · rcases h i hi with a | a
    · exact a.2
    · exact absurd hs a.1
  · by_cases hi : j < n
    · rcases h j hi with a | a
      · exact .inl a
      · omega
    · have := hn j hi; omega
  · by_cases hi : j < n
    · rcases h j hi with a | a <;> simp <;> omega
    · have := hn j hi; simp; omega
theorem cost_ext {n : Nat} {cs ds : List Int} (h1 : cs.length = n) (h2 : ds.length = n) (h : ∀ j, j < n → cg cs j = cg ds j) : cs = ds := by
  apply List.ext_getElem (by omega)
  intro j a b
  have := h j (by omega)
  unfold cg at this
  simpa [List.getD, a, b] using this
end Go.Proofs.YteiniiakpdijmaaDoor.AI
