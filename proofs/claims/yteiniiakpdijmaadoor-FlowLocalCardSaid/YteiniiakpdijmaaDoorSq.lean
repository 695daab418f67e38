/- Shortest ways with buckets: what the waiting cells come to. -/
import Derived.Test.YteiniiakpdijmaaDoorSp
namespace Go.Proofs.YteiniiakpdijmaaDoor.AI
open Go.RowKit
set_option linter.unusedVariables false

/-! ### Buckets -/
def bk (B : List (List Nat)) (v : Nat) : List Nat := B.getD v []
def tot : List (List Nat) → Nat
  | [] => 0
  | l :: B => l.length + tot B
/-- As many buckets as a cost needs. -/
def extB (B : List (List Nat)) (v : Nat) : List (List Nat) := B ++ List.replicate (v + 1 - B.length) []
def addB (B : List (List Nat)) (v j : Nat) : List (List Nat) := (extB B v).set v (bk B v ++ [j])
theorem bk_out {B : List (List Nat)} {v : Nat} (h : B.length ≤ v) : bk B v = [] := by
  unfold bk
  rw [List.getD_eq_getElem?_getD, List.getElem?_eq_none h]
  rfl
theorem bk_set {B : List (List Nat)} {v : Nat} (l : List Nat) (h : v < B.length) (u : Nat) : bk (B.set v l) u = if v = u then l else bk B u := by
  unfold bk
  rw [List.getD_eq_getElem?_getD, List.getD_eq_getElem?_getD, List.getElem?_set]
  by_cases h1 : v = u
  · subst h1; simp [h]
  · simp [h1]
theorem extB_len (B : List (List Nat)) (v : Nat) : (extB B v).length = max B.length (v + 1) := by
  unfold extB
  rw [List.length_append, List.length_replicate]
  omega
theorem bk_extB (B : List (List Nat)) (v u : Nat) : bk (extB B v) u = bk B u := by
  unfold bk extB
  rw [List.getD_eq_getElem?_getD, List.getD_eq_getElem?_getD, List.getElem?_append]
  by_cases h : u < B.length
  · rw [if_pos h]
  · rw [if_neg h, List.getElem?_replicate, List.getElem?_eq_none (by omega)]
    split <;> rfl
theorem addB_len (B : List (List Nat)) (v j : Nat) : (addB B v j).length = max B.length (v + 1) := by
  unfold addB
  rw [List.length_set, extB_len]
theorem bk_addB (B : List (List Nat)) (v j u : Nat) : bk (addB B v j) u = if v = u then bk B v ++ [j] else bk B u := by
  unfold addB
  rw [bk_set _ (by rw [extB_len]; omega), bk_extB]
theorem tot_set : ∀ (B : List (List Nat)) (v : Nat) (l : List Nat), v < B.length → tot (B.set v l) + (bk B v).length = tot B + l.length
  | [], v, l, h => by simp at h
  | b :: B, 0, l, h => by simp [tot, bk]; omega
  | b :: B, v + 1, l, h => by
    have ih := tot_set B v l (by simpa using h)
    have e : bk (b :: B) (v + 1) = bk B v := by simp [bk]
    simp only [List.set_cons_succ, tot, e]
    omega
theorem tot_append : ∀ (B : List (List Nat)) (k : Nat), tot (B ++ List.replicate k []) = tot B
  | [], 0 => rfl
  | [], k + 1 => by simpa [tot, List.replicate_succ] using tot_append [] k
  | b :: B, k => by simp [tot, tot_append B k]
theorem tot_addB (B : List (List Nat)) (v j : Nat) : tot (addB B v j) = tot B + 1 := by
  have h := tot_set (extB B v) v (bk B v ++ [j]) (by rw [extB_len]; omega)
  have e : tot (extB B v) = tot B := tot_append B _
  rw [bk_extB, e, List.length_append, List.length_singleton] at h
  unfold addB
  omega
theorem bk_tot : ∀ (B : List (List Nat)) (v : Nat), (bk B v).length ≤ tot B
  | [], v => by simp [bk]
  | b :: B, 0 => by simp [bk, tot]
  | b :: B, v + 1 => by
    have := bk_tot B v
    have e : bk (b :: B) (v + 1) = bk B v := by simp [bk]
    rw [e]
    simp only [tot]
    omega
theorem tot_zero : ∀ (B : List (List Nat)), (∀ v, bk B v = []) → tot B = 0
  | [], h => rfl
  | b :: B, h => by
    have h0 := h 0
    have h1 := tot_zero B fun v => by have := h (v + 1); simpa [bk] using this
    simp only [bk, List.getD_cons_zero] at h0
    simp [tot, h0, h1]

/-! ### Relaxing, with buckets -/
def rlxB (v : Int) (o : Option (Nat × Int)) (q : List Int × List (List Nat)) : List Int × List (List Nat) := match o with
  | none => q
  | some (j, w) => if cg q.1 j < 0 ∨ v + w < cg q.1 j then (q.1.set j (v + w), addB q.2 (v + w).toNat j) else q
def rlxBN (nb : Nb) (k : Nat) (v : Int) : Nat → Nat → List Int × List (List Nat) → List Int × List (List Nat)
  | 0, _, q => q
  | r + 1, d, q => rlxBN nb k v r (d + 1) (rlxB v (nb k d) q)
theorem rlxB_fst (v : Int) (o : Option (Nat × Int)) (q : List Int × List (List Nat)) : (rlxB v o q).1 = rlx v o q.1 := by
  cases o with
  | none => rfl
  | some p =>
    obtain ⟨j, w⟩ := p
    simp only [rlxB, rlx]
    split <;> rfl
theorem rlxBN_fst (nb : Nb) (k : Nat) (v : Int) : ∀ (r d : Nat) (q : List Int × List (List Nat)), (rlxBN nb k v r d q).1 = rlxN nb k v r d q.1
  | 0, d, q => rfl
  | r + 1, d, q => by rw [rlxBN, rlxN, rlxBN_fst nb k v r, rlxB_fst]
theorem rlxB_idle {v : Int} {o : Option (Nat × Int)} {q : List Int × List (List Nat)} (h : ∀ j w, o = some (j, w) → 0 ≤ cg q.1 j ∧ cg q.1 j ≤ v + w) : rlxB v o q = q := by
  unfold rlxB
  split
  · rfl
  · rename_i j w
    have := h j w rfl
    rw [if_neg (by omega)]
theorem rlxBN_idle {nb : Nb} {k : Nat} {v : Int} {q : List Int × List (List Nat)} : ∀ (r d : Nat), (∀ e j w, d ≤ e → e < d + r → nb k e = some (j, w) → 0 ≤ cg q.1 j ∧ cg q.1 j ≤ v + w) → rlxBN nb k v r d q = q
  | 0, d, h => rfl
  | r + 1, d, h => by
    rw [rlxBN, rlxB_idle fun j w q => h d j w (by omega) (by omega) q]
    exact rlxBN_idle r (d + 1) fun e j w h1 h2 => h e j w (by omega) (by omega)
structure HalfB (n : Nat) (nb : Nb) (k c d : Nat) (c0 : List Int) (B0 : List (List Nat)) (q : List Int × List (List Nat)) : Prop where
  half : Half nb k c d c0 q.1
  slot : ∀ j, 0 ≤ cg q.1 j → cg q.1 j = cg c0 j ∨ j ∈ bk q.2 (cg q.1 j).toNat
  keep : ∀ v x, x ∈ bk B0 v → x ∈ bk q.2 v
  ent : ∀ v x, x ∈ bk q.2 v → x ∈ bk B0 v ∨ (x < n ∧ 0 ≤ cg q.1 x ∧ cg q.1 x ≤ v)
  cur : ∀ u, u ≤ c → bk q.2 u = bk B0 u
  blen : q.2.length ≤ max B0.length (c + 20)
  tot : tot q.2 ≤ tot B0 + d
theorem HalfB.zero (n : Nat) (nb : Nb) (k c : Nat) (cs : List Int) (B : List (List Nat)) : HalfB n nb k c 0 cs B (cs, B) :=
  ⟨Half.zero nb k c cs, fun j _ => .inl rfl, fun v x h => h, fun v x h => .inl h, fun u _ => rfl, by simp; omega, by simp⟩
theorem HalfB.step {n : Nat} {nb : Nb} {k c d : Nat} {c0 : List Int} {B0 : List (List Nat)} {q : List Int × List (List Nat)} (ho : NbOk n nb) (hn : c0.length = n) (h : HalfB n nb k c d c0 B0 q) : HalfB n nb k c (d + 1) c0 B0 (rlxB c (nb k d) q) := by
  have hh : Half nb k c (d + 1) c0 (rlxB c (nb k d) q).1 := by
    rw [rlxB_fst]
    exact Half.step ho (by omega) hn h.half
  refine ⟨hh, ?_, ?_, ?_, ?_, ?_, ?_⟩
  all_goals unfold rlxB
  all_goals cases hb : nb k d with
    | none =>
      first
      | exact h.slot
      | exact h.keep
      | exact h.ent
      | exact h.cur
      | exact h.blen
      | (have := h.tot; simp only; omega)
    | some p =>
      obtain ⟨i, w⟩ := p
      have hp := ho.pos _ _ _ _ hb
      have hl := (ho.lt _ _ _ _ hb).2
      have hlen := h.half.len
      simp only
      by_cases h1 : cg q.1 i < 0 ∨ (c : Int) + w < cg q.1 i
      · rw [if_pos h1]
        simp only
        first
        | -- slot
          intro j hj
          rw [cg_set j _ (by omega)] at hj ⊢
          by_cases h2 : i = j
          · subst h2
            rw [if_pos rfl]
            right
            rw [bk_addB, if_pos rfl]
            simp
          · rw [if_neg h2] at hj ⊢
            rcases h.slot j hj with a | a
            · exact .inl a
            · right
              rw [bk_addB]
              split
              · rename_i e
                rw [e]
                exact List.mem_append_left _ a
              · exact a
        | -- keep
          intro v x hx
          have := h.keep v x hx
          rw [bk_addB]
          split
          · rename_i e
            rw [e]
            exact List.mem_append_left _ this
          · exact this
        | -- ent
          intro v x hx
          have key : x ∈ bk q.2 v → x ∈ bk B0 v ∨ (x < n ∧ 0 ≤ cg (q.1.set i (c + w)) x ∧ cg (q.1.set i (c + w)) x ≤ v) := fun hx => by
            rcases h.ent v x hx with a | ⟨a, b, e⟩
            · exact .inl a
            · right
              rw [cg_set x _ (by omega)]
              split
              · rename_i e2
                subst e2
                omega
              · exact ⟨a, b, e⟩
          rw [bk_addB] at hx
          split at hx
          · rename_i e
            rcases List.mem_append.1 hx with a | a
            · exact key (e ▸ a)
            · right
              rw [List.mem_singleton] at a
              subst a
              rw [cg_set x _ (by omega), if_pos rfl]
              omega
          · exact key hx
        | -- cur
          intro u hu
          rw [bk_addB, if_neg (by omega)]
          exact h.cur u hu
        | -- blen
          rw [addB_len]
          have := h.blen
          omega
        | -- tot
          rw [tot_addB]
          have := h.tot
          omega
      · rw [if_neg h1]
        first
        | exact h.slot
        | exact h.keep
        | exact h.ent
        | exact h.cur
        | exact h.blen
        | (have := h.tot; omega)
theorem rlxBN_half {n : Nat} {nb : Nb} {k c : Nat} {c0 : List Int} {B0 : List (List Nat)} (ho : NbOk n nb) (hn : c0.length = n) : ∀ (r d : Nat) (q : List Int × List (List Nat)), HalfB n nb k c d c0 B0 q → HalfB n nb k c (d + r) c0 B0 (rlxBN nb k c r d q)
  | 0, d, q, h => h
  | r + 1, d, q, h => by
    have := rlxBN_half ho hn r (d + 1) _ (HalfB.step ho hn h)
    rw [show d + (r + 1) = d + 1 + r by omega]
    exact this

/-! ### What waits -/
structure Que (n : Nat) (nb : Nb) (src : Nat → Prop) (g : Nat) (cs : List Int) (S : List Nat) (B : List (List Nat)) (c : Nat) : Prop where
  part : Part n nb src cs S
  slot : ∀ j, 0 ≤ cg cs j → j ∉ S → j ∈ bk B (cg cs j).toNat
  ent : ∀ v i, i ∈ bk B v → i < n ∧ 0 ≤ cg cs i ∧ cg cs i ≤ v
  done : ∀ i, i ∈ S → cg cs i ≤ c
  front : ∀ v, v < c → bk B v = []
  blen : B.length ≤ 19 * S.length + 1
  tot : tot B ≤ g + 8 * S.length
theorem Que.pop {n : Nat} {nb : Nb} {src : Nat → Prop} {g : Nat} {cs : List Int} {S : List Nat} {B : List (List Nat)} {c p : Nat} {l : List Nat} (h : Que n nb src g cs S B c) (hc : c < B.length)
    (h1 : ∀ x, x ∈ bk B c → x = p ∨ x ∈ l) (h2 : ∀ x, x ∈ l → x ∈ bk B c) (h3 : l.length + 1 = (bk B c).length) (hp : cg cs p ≠ c ∨ p ∈ S) : Que n nb src g cs S (B.set c l) c := by
  refine ⟨h.part, ?_, ?_, h.done, ?_, by rw [List.length_set]; exact h.blen, ?_⟩
  · intro j a b
    have := h.slot j a b
    rw [bk_set l hc]
    split
    · rename_i e
      rw [← e] at this
      rcases h1 j this with q | q
      · subst q
        rcases hp with hp | hp
        · exact absurd (by omega) hp
        · exact absurd hp b
      · exact q
    · exact this
  · intro v i a
    rw [bk_set l hc] at a
    split at a
    · rename_i e
      exact e ▸ h.ent c i (h2 i a)
    · exact h.ent v i a
  · intro v a
    rw [bk_set l hc, if_neg (by omega)]
    exact h.front v a
  · have := tot_set B c l hc
    have := h.tot
    omega
/-- A cell is taken out of its bucket and examined. -/
theorem Que.take {n : Nat} {nb : Nb} {src : Nat → Prop} {g : Nat} {cs : List Int} {S : List Nat} {B : List (List Nat)} {c p : Nat} {l : List Nat} (ho : NbOk n nb) (h : Que n nb src g cs S B c) (hc : c < B.length)
    (h0 : p ∈ bk B c) (h1 : ∀ x, x ∈ bk B c → x = p ∨ x ∈ l) (h2 : ∀ x, x ∈ l → x ∈ bk B c) (h3 : l.length + 1 = (bk B c).length) (hp : cg cs p = c) :
    (∃ S', Que n nb src g (rlxBN nb p c 8 0 (cs, B.set c l)).1 S' (rlxBN nb p c 8 0 (cs, B.set c l)).2 c) ∧ bk (rlxBN nb p c 8 0 (cs, B.set c l)).2 c = l ∧ c < (rlxBN nb p c 8 0 (cs, B.set c l)).2.length := by
  by_cases hS : p ∈ S
  · have e := rlxBN_idle (nb := nb) (k := p) (v := (c : Int)) (q := (cs, B.set c l)) 8 0 fun e j w a b d => by
      rw [← hp]
      exact (h.part.sub p hS).2.2 e j w (by omega) d
    rw [e]
    exact ⟨⟨S, h.pop hc h1 h2 h3 (.inr hS)⟩, by simp only; rw [bk_set l hc, if_pos rfl], by simp only; rw [List.length_set]; exact hc⟩
  · have H := rlxBN_half ho h.part.len 8 0 _ (HalfB.zero n nb p c cs (B.set c l))
    have hset : ∀ u, bk (B.set c l) u = if c = u then l else bk B u := bk_set l hc
    have htot := tot_set B c l hc
    generalize hq : rlxBN nb p c 8 0 (cs, B.set c l) = q at H ⊢
    have hd : Half nb p (cg cs p) 8 cs q.1 := by rw [hp]; exact H.half
    have hpn := (h.ent c p h0).1
    have P := Part.settle ho h.part hpn (by omega) hS (fun i hi => by have := h.done i hi; omega) hd
    have less : ∀ j, 0 ≤ cg cs j → 0 ≤ cg q.1 j ∧ cg q.1 j ≤ cg cs j := fun j a => by
      rcases hd.old j with b | ⟨e, w, q1, q2, q3, q4⟩
      · omega
      · have := ho.pos _ _ _ _ q2
        omega
    refine ⟨⟨p :: S, P, ?_, ?_, ?_, ?_, ?_, ?_⟩, ?_, ?_⟩
    · intro j a b
      rw [List.mem_cons, not_or] at b
      rcases H.slot j a with e | e
      · rw [e]
        refine H.keep _ _ ?_
        have := h.slot j (by omega) b.2
        rw [hset]
        split
        · rename_i e2
          rw [← e2] at this
          rcases h1 j this with r | r
          · exact absurd r b.1
          · exact r
        · exact this
      · exact e
    · intro v i a
      rcases H.ent v i a with e | e
      · have k : i < n ∧ 0 ≤ cg cs i ∧ cg cs i ≤ v := by
          rw [hset] at e
          split at e
          · rename_i e2
            exact e2 ▸ h.ent c i (h2 i e)
          · exact h.ent v i e
        have := less i k.2.1
        omega
      · exact e
    · intro i a
      rcases List.mem_cons.1 a with rfl | a
      · have := less i (by omega)
        omega
      · have := h.done i a
        have := less i (h.part.sub i a).2.1
        omega
    · intro v a
      rw [H.cur v (by omega), hset, if_neg (by omega)]
      exact h.front v a
    · have b := H.blen
      rw [List.length_set] at b
      have := h.part.big p
      have := h.blen
      rw [List.length_cons]
      omega
    · have t := H.tot
      have := h.tot
      rw [List.length_cons]
      omega
    · rw [H.cur c (Nat.le_refl _), hset, if_pos rfl]
    · have k := H.keep
      have cu := H.cur c (Nat.le_refl _)
      by_cases hlt : c < q.2.length
      · exact hlt
      · exfalso
        have hb := H.blen
        -- buckets are never taken away
        have mono : ∀ (r d : Nat) (q0 : List Int × List (List Nat)), q0.2.length ≤ (rlxBN nb p c r d q0).2.length := by
          intro r
          induction r with
          | zero => intro d q0; exact Nat.le_refl _
          | succ r ih =>
            intro d q0
            refine Nat.le_trans ?_ (ih (d + 1) _)
            unfold rlxB
            split
            · exact Nat.le_refl _
            · split
              · simp only [addB_len]; omega
              · exact Nat.le_refl _
        have := mono 8 0 (cs, B.set c l)
        rw [hq, List.length_set] at this
        omega
theorem Que.next {n : Nat} {nb : Nb} {src : Nat → Prop} {g : Nat} {cs : List Int} {S : List Nat} {B : List (List Nat)} {c : Nat} (h : Que n nb src g cs S B c) (he : bk B c = []) : Que n nb src g cs S B (c + 1) := by
  refine ⟨h.part, h.slot, h.ent, fun i hi => ?_, fun v hv => ?_, h.blen, h.tot⟩
  · have := h.done i hi
    omega
  · by_cases e : v = c
    · subst e; exact he
    · exact h.front v (by omega)
theorem Que.max {n : Nat} {nb : Nb} {src : Nat → Prop} {g : Nat} {cs : List Int} {S : List Nat} {B : List (List Nat)} {c : Nat} (h : Que n nb src g cs S B c) : B.length ≤ 19 * n + 1 ∧ Go.Proofs.YteiniiakpdijmaaDoor.AI.tot B ≤ g + 8 * n := by
  have := h.part.few
  have := h.blen
  have := h.tot
  omega
theorem Que.end {n : Nat} {nb : Nb} {src : Nat → Prop} {g : Nat} {cs : List Int} {S : List Nat} {B : List (List Nat)} {c : Nat} (h : Que n nb src g cs S B c) (hc : B.length ≤ c) : Right n nb src (cg cs) ∧ Go.Proofs.YteiniiakpdijmaaDoor.AI.tot B = 0 := by
  have e : ∀ v, bk B v = [] := fun v => by
    by_cases hv : v < c
    · exact h.front v hv
    · exact bk_out (by omega)
  refine ⟨h.part.done fun j hj => ?_, tot_zero B e⟩
  by_cases hS : j ∈ S
  · exact hS
  · have := h.slot j hj hS
    rw [e] at this
    cases this
end Go.Proofs.YteiniiakpdijmaaDoor.AI
