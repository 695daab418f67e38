/- A region, in its order and in any order. -/
import Derived.Test.YtoiimiohobollaaGreatAI14
namespace Go.Proofs.YtoiimiohobollaaGreat.AI
open Go.RowKit
set_option linter.unusedVariables false

/-! ### What the order's bits say -/

def beforeStep (acc : Array Nat) (o : Oper) : Array Nat :=
  acc.push (o.after.foldl (fun s e => if Region.binds .any e then s ||| 2 ^ e.on ||| acc.getD e.on 0 else s) 0)

theorem bits_fold (A : Array Nat) (i : Nat) : ∀ (l : List Edge) (s : Nat), (l.foldl (fun s e => if Region.binds .any e then s ||| 2 ^ e.on ||| A.getD e.on 0 else s) s).testBit i = true →
    s.testBit i = true ∨ ∃ e ∈ l, Region.binds .any e = true ∧ (i = e.on ∨ (A.getD e.on 0).testBit i = true)
  | [], s, h => .inl h
  | e :: l, s, h => by
    simp only [List.foldl_cons] at h
    rcases bits_fold A i l _ h with h1 | ⟨e', he, hb⟩
    · by_cases hbd : Region.binds .any e = true
      · rw [if_pos hbd] at h1
        simp only [Nat.testBit_or, Bool.or_eq_true] at h1
        rcases h1 with (h1 | h1) | h1
        · exact .inl h1
        · refine .inr ⟨e, .head _, hbd, .inl ?_⟩
          rw [Nat.testBit_two_pow] at h1
          exact (of_decide_eq_true h1).symm
        · exact .inr ⟨e, .head _, hbd, .inr h1⟩
      · rw [if_neg hbd] at h1; exact .inl h1
    · exact .inr ⟨e', .tail _ he, hb⟩

theorem before_go : ∀ (l : List Oper) (acc : Array Nat), acc.size + l.length = (l.foldl beforeStep acc).size ∧ (∀ j, j < acc.size → (l.foldl beforeStep acc).getD j 0 = acc.getD j 0) ∧
    ∀ j o i, l[j]? = some o → ((l.foldl beforeStep acc).getD (acc.size + j) 0).testBit i = true →
      ∃ e ∈ o.after, Region.binds .any e = true ∧ (i = e.on ∨ ((l.foldl beforeStep acc).getD e.on 0).testBit i = true)
  | [], acc => ⟨rfl, fun _ _ => rfl, fun j o i h => by simp at h⟩
  | o :: l, acc => by
    obtain ⟨h1, h2, h3⟩ := before_go l (beforeStep acc o)
    have hs : (beforeStep acc o).size = acc.size + 1 := by simp [beforeStep]
    have keep : ∀ j, j < acc.size → (beforeStep acc o).getD j 0 = acc.getD j 0 := fun j hj => by
      simp only [beforeStep, Array.getD_eq_getD_getElem?]
      rw [Array.getElem?_push_lt hj]
      simp [hj]
    refine ⟨by simp only [List.foldl_cons, List.length_cons]; omega, fun j hj => by rw [List.foldl_cons, h2 j (by omega), keep j hj], fun j o' i hj hb => ?_⟩
    rw [List.foldl_cons] at hb ⊢
    cases j with
    | zero =>
      simp only [List.getElem?_cons_zero, Option.some.injEq] at hj
      subst hj
      rw [h2 _ (by omega)] at hb
      have : (beforeStep acc o).getD (acc.size + 0) 0 = o.after.foldl (fun s e => if Region.binds .any e then s ||| 2 ^ e.on ||| acc.getD e.on 0 else s) 0 := by
        simp [beforeStep]
      rw [this, ← Array.foldl_toList] at hb
      rcases bits_fold acc i _ _ hb with h0 | ⟨e, he, hbd, h0⟩
      · simp at h0
      · refine ⟨e, Array.mem_toList_iff.1 he, hbd, h0.imp id fun h0 => ?_⟩
        have hlt : e.on < acc.size := by
          rcases Nat.lt_or_ge e.on acc.size with h | h
          · exact h
          · simp [Array.getD_eq_getD_getElem?, Array.getElem?_eq_none h] at h0
        rw [h2 _ (by omega), keep _ hlt]
        exact h0
    | succ j =>
      exact h3 j o' i (by simpa using hj) (by rw [hs, show acc.size + 1 + j = acc.size + (j + 1) by omega]; exact hb)

theorem before_spec {ops : Array Oper} {j i : Nat} {o : Oper} (hj : ops[j]? = some o) (h : ((Region.before ops).getD j 0).testBit i = true) :
    ∃ e ∈ o.after, Region.binds .any e = true ∧ (i = e.on ∨ ((Region.before ops).getD e.on 0).testBit i = true) := by
  have heq : Region.before ops = ops.toList.foldl beforeStep #[] := by
    unfold Region.before
    rw [← Array.foldl_toList]
    rfl
  rw [heq] at h ⊢
  exact (before_go ops.toList #[]).2.2 j o i (by simpa using hj) (by simpa using h)

theorem before_lt {ops : Array Oper} {j i : Nat} (h : ((Region.before ops).getD j 0).testBit i = true) : j < ops.size := by
  have heq : Region.before ops = ops.toList.foldl beforeStep #[] := by
    unfold Region.before
    rw [← Array.foldl_toList]
    rfl
  have hs := (before_go ops.toList #[]).1
  rw [← heq] at hs
  rcases Nat.lt_or_ge j ops.size with h' | h'
  · exact h'
  · have : (Region.before ops).size ≤ j := by simp at hs; omega
    simp [Array.getD_eq_getD_getElem?, Array.getElem?_eq_none this] at h

theorem edgesOk_spec {ops : Array Oper} (h : edgesOk ops = true) {j : Nat} {o : Oper} (hj : ops[j]? = some o) {e : Edge} (he : e ∈ o.after) (hb : Region.binds .any e = true) : e.on < j := by
  unfold edgesOk at h
  rw [List.all_eq_true] at h
  have hm : (o, j) ∈ ops.toList.zipIdx := by
    rw [List.mem_zipIdx_iff_getElem?]
    simpa using hj
  have h1 := h (o, j) hm
  have h2 := Array.all_eq_true_iff_forall_mem.1 h1 e he
  simp only [hb, Bool.not_true, Bool.false_or] at h2
  exact nblt h2

/-! ### Every two that clash are ordered -/

theorem conflict_of {a b : List Ev} (h : clash a b) : conflict a.reverse b.reverse = true := by
  unfold conflict
  rw [List.any_eq_true]
  obtain ⟨l, ⟨⟨e, he, hw, hl⟩, ⟨f, hf, hl'⟩⟩ | ⟨⟨e, he, hl⟩, ⟨f, hf, hw, hl'⟩⟩⟩ := h
  · refine ⟨e, by simpa using he, ?_⟩
    rw [List.any_eq_true]
    exact ⟨f, by simpa using hf, by rw [hw, (Loc.beq_iff _ _).2 (hl.trans hl'.symm)]; rfl⟩
  · refine ⟨e, by simpa using he, ?_⟩
    rw [List.any_eq_true]
    exact ⟨f, by simpa using hf, by rw [hw, (Loc.beq_iff _ _).2 (hl.trans hl'.symm)]; simp⟩

theorem ordOne_spec {B : Array Nat} {j : Nat} {e : List Ev} (L : Nat → List Ev) : ∀ m, ordOne B j e m ((List.range m).reverse.map L) = true → ∀ i, i < m → conflict (L i) e = true → (B.getD j 0).testBit i = true
  | 0, _, i, hi, _ => by omega
  | m + 1, h, i, hi, hc => by
    rw [List.range_succ, List.reverse_append] at h
    simp only [List.reverse_cons, List.reverse_nil, List.nil_append, List.singleton_append, List.map_cons, ordOne, Nat.add_sub_cancel, Bool.and_eq_true, Bool.or_eq_true, Bool.not_eq_true'] at h
    by_cases e' : i = m
    · subst e'
      rcases h.1 with h1 | h1
      · rw [hc] at h1; cases h1
      · exact h1
    · exact ordOne_spec L m h.2 i (by omega) hc

theorem ordAll_spec {B : Array Nat} (L : Nat → List Ev) : ∀ m, ordAll B m ((List.range m).reverse.map L) = true → ∀ j, j < m → ∀ i, i < j → conflict (L i) (L j) = true → (B.getD j 0).testBit i = true
  | 0, _, j, hj => by omega
  | m + 1, h, j, hj => by
    intro i hi hc
    rw [List.range_succ, List.reverse_append] at h
    simp only [List.reverse_cons, List.reverse_nil, List.nil_append, List.singleton_append, List.map_cons, ordAll, Nat.add_sub_cancel, Bool.and_eq_true] at h
    by_cases e' : j = m
    · subst e'
      exact ordOne_spec L j h.1 i hi hc
    · exact ordAll_spec L m h.2 j (by omega) i hi hc

/-! ### How many are left -/

def left (D : Nat → Bool) : Nat → Nat
  | 0 => 0
  | m + 1 => left D m + (if D m = true then 0 else 1)

theorem left_set {D : Nat → Bool} {i : Nat} (hi : D i = false) : ∀ m, (i < m → left (fun j => j == i || D j) m + 1 = left D m) ∧ (m ≤ i → left (fun j => j == i || D j) m = left D m)
  | 0 => ⟨fun h => by omega, fun _ => rfl⟩
  | m + 1 => by
    obtain ⟨h1, h2⟩ := left_set hi m
    refine ⟨fun h => ?_, fun h => ?_⟩
    · simp only [left]
      by_cases e : m = i
      · subst e
        rw [h2 (Nat.le_refl _)]
        simp [hi]
      · have := h1 (by omega)
        have hb : (m == i) = false := by simp [e]
        simp only [hb, Bool.false_or]
        omega
    · simp only [left]
      rw [h2 (by omega)]
      have hb : (m == i) = false := by simp; omega
      simp only [hb, Bool.false_or]

theorem left_zero {D : Nat → Bool} : ∀ m, left D m = 0 → ∀ j, j < m → D j = true
  | 0, _, j, hj => by omega
  | m + 1, h, j, hj => by
    simp only [left] at h
    by_cases e : j = m
    · subst e
      by_cases hd : D j = true
      · exact hd
      · rw [if_neg hd] at h; omega
    · exact left_zero m (by omega) j (by omega)

theorem left_le {D : Nat → Bool} : ∀ m, left D m ≤ m
  | 0 => Nat.le_refl _
  | m + 1 => by
    have := left_le (D := D) m
    simp only [left]
    split <;> omega

section
variable {P : Program} {TT : TypeId → Option TI} {TU : TypeId → Option (List TypeId)} {X : Ctx} {s s1 : F} {a : Act} {w : World} {n : Nat}
variable {C : FuncId → List AVal → List Blk → Call} {ownF : FuncId → Bool} {Q : Exit → Act → World → Prop}

theorem any_sim (hT : TOk P TT) (hC : COk P X.GL C) (hF : ∀ f us bs r, (C f us bs).o = some r → FOk P f) {ops : Array Oper} {id : Nat} {st : Nat → F} {es : Nat → List Ev}
    (hst : ∀ j, j < ops.size → (opM TT TU X.GL C ownF ops id j).trace (st j) = some ((), st (j + 1), es j))
    (hedge : edgesOk ops = true) (hord : ∀ i j, i < j → j < ops.size → clash (es i) (es j) → ((Region.before ops).getD j 0).testBit i = true)
    (hQ : ∀ a w, RelE X (st ops.size) a w → Q .normal a w) :
    ∀ (fuel : Nat) (listed : Array Bool) (a : Act) (w : World), listed.size = ops.size → left (fun j => listed.getD j false) ops.size ≤ fuel →
      (∀ i j, ((Region.before ops).getD j 0).testBit i = true → listed.getD j false = true → listed.getD i false = true) →
      RelE X (done (fun j => listed.getD j false) st es ops.size) a w → wpAny P .any ops Q fuel listed a w := by
  have hN : ∀ k, k ≤ ops.size → (st k).N = (st 0).N := by
    intro k
    induction k with
    | zero => intro _; rfl
    | succ k ih => intro hk; rw [(trace_stays _ _ _ _ _ (hst k (by omega))).1]; exact ih (by omega)
  have fin : ∀ (listed : Array Bool) (a : Act) (w : World), (∀ j, j < ops.size → listed.getD j false = true) → RelE X (done (fun j => listed.getD j false) st es ops.size) a w → Q .normal a w := by
    intro listed a w hall hR
    refine hQ a w ?_
    have : done (fun j => listed.getD j false) st es ops.size = st ops.size := by
      apply F.ext_same
      · rw [done_N, hN _ (Nat.le_refl _)]
      · intro l
        exact done_all hst ops.size (Nat.le_refl _) l fun j hj _ => hall j hj
    rw [this] at hR
    exact hR
  have stuck : ∀ (listed : Array Bool), listed.size = ops.size → Region.ready .any ops listed = [] → ∀ j, j < ops.size → listed.getD j false = true := by
    intro listed hsz hr j
    induction j using Nat.strongRecOn with
    | _ j ih =>
      intro hj
      by_cases hl : listed.getD j false = true
      · exact hl
      · exfalso
        have hmem : j ∈ Region.ready .any ops listed := by
          rw [mem_ready]
          have hlt : j < listed.size := by omega
          refine ⟨?_, ops[j], by simp [hj], fun e he hb => ?_⟩
          · simp [hlt] at hl ⊢; exact hl
          · exact ih e.on (edgesOk_spec hedge (by simp [hj]) he hb) (by have := edgesOk_spec hedge (j := j) (o := ops[j]) (by simp [hj]) he hb; omega)
        rw [hr] at hmem
        cases hmem
  intro fuel
  induction fuel with
  | zero =>
    intro listed a w hsz hleft hdown hR
    have hall := left_zero _ (Nat.le_zero.1 hleft)
    refine ⟨?_, fin listed a w hall hR⟩
    cases hr : Region.ready .any ops listed with
    | nil => rfl
    | cons x xs =>
      have hx : x ∈ Region.ready .any ops listed := by rw [hr]; exact .head _
      obtain ⟨h0, o, ho, _⟩ := mem_ready.1 hx
      have hlt : x < ops.size := (Array.getElem?_eq_some_iff.1 ho).1
      have h1 := hall x hlt
      have hlt' : x < listed.size := by omega
      simp [hlt'] at h0 h1
      rw [h0] at h1
      cases h1
  | succ fuel ih =>
    intro listed a w hsz hleft hdown hR
    refine ⟨fun hr => fin listed a w (stuck listed hsz hr) hR, fun i hi => ?_⟩
    obtain ⟨h0, o, ho, hedges⟩ := mem_ready.1 hi
    have hlt : i < ops.size := (Array.getElem?_eq_some_iff.1 ho).1
    have hlt' : i < listed.size := by omega
    have hDi : (fun j => listed.getD j false) i = false := by simp [hlt'] at h0 ⊢; exact h0
    have hready : ∀ j, ((Region.before ops).getD i 0).testBit j = true → listed.getD j false = true := by
      intro j hj
      obtain ⟨e, he, hb, h⟩ := before_spec ho hj
      rcases h with rfl | h
      · exact hedges e he hb
      · exact hdown j e.on h (hedges e he hb)
    have hstep := done_step (before := fun i j => ((Region.before ops).getD j 0).testBit i = true) hst hord (D := fun j => listed.getD j false) hdown hlt hDi hready
    have hD' : (fun j => j == i || listed.getD j false) = fun j => (listed.setIfInBounds i true).getD j false := by
      funext j
      by_cases e : j = i
      · subst e; simp [hlt']
      · have hb : (j == i) = false := by simp [e]
        simp only [hb, Bool.false_or]
        rw [getD_set_ne false (fun h => e h.symm)]
    have hop : opM TT TU X.GL C ownF ops id i = aop TT TU X.GL C ownF ops ((1000 + 200 * id + i) * 16) o := by simp only [opM, ho]
    rw [hop] at hstep
    refine aop_sim hT hC hF ho ⟨_, hstep⟩ hR fun a' w' hR' => ?_
    refine ih (listed.setIfInBounds i true) a' w' (by simp [hsz]) ?_ ?_ ?_
    · rw [← hD']
      have := (left_set (D := fun j => listed.getD j false) hDi ops.size).1 hlt
      omega
    · intro j k hb hk
      rw [← congrFun hD' k] at hk
      rw [← congrFun hD' j]
      rcases Bool.or_eq_true_iff.1 hk with hk | hk
      · have : k = i := by simpa using hk
        subst this
        simp [hready j hb]
      · simp [hdown j k hb hk]
    · rw [← hD']; exact hR'

theorem region_sim (hm : P.follows .mixedOrders = true) (hT : TOk P TT) (hC : COk P X.GL C) (hF : ∀ f us bs r, (C f us bs).o = some r → FOk P f) {ops : Array Oper} {id : Nat} {draw : Bool} {s : St} {k : St → Option CR} {r : CR}
    (h : region TT TU X.GL C ownF id ops draw s k = some r) (hR : RelE X s.toF a w)
    (hK : ∀ s' a' w', k s' = some r → s'.tmps.length = s.tmps.length → RelE X s'.toF a' w' → Q .normal a' w') : (Code.region id ops draw).wp P Q a w := by
  unfold region at h
  obtain ⟨st, es, s', h0, hn, hlen, hst, hk⟩ := goOps_run ops.toList 0 [] s _ r (fun j o hj => by simpa using hj) h
  simp only [Nat.zero_add, Array.length_toList, List.append_nil] at h0 hn hst hk
  cases draw with
  | false =>
    simp only [Bool.not_false, Bool.true_or, cond_true] at hk
    refine wp_region ?_
    have := range_wpOps (P := P) (Q := Q) (ops := ops) (fun i a w => RelE X (st i) a w) (m := ops.size) (fun a w h => hK s' a w hk hlen (by rw [← hn]; exact h))
      (fun i hi a w k hk hR => by
        have hoi : ops[i]? = some ops[i] := by simp [hi]
        have hop : opM TT TU X.GL C ownF ops id i = aop TT TU X.GL C ownF ops ((1000 + 200 * id + i) * 16) ops[i] := by simp only [opM, hoi]
        have := hst i hi
        rw [hop] at this
        exact aop_sim hT hC hF hoi ⟨_, this⟩ hR hk) ops.size 0 (by omega) a w (by rw [h0]; exact hR)
    simpa using this
  | true =>
    simp only [Bool.not_true, Bool.false_or] at hk
    cases hc : (edgesOk ops && ordAll (Region.before ops) ops.size ((List.range ops.size).reverse.map fun j => (es j).reverse)) with
    | false => rw [hc] at hk; cases hk
    | true =>
      rw [hc] at hk
      simp only [cond_true] at hk
      simp only [Bool.and_eq_true] at hc
      refine wp_region_any hm ?_
      refine any_sim hT hC hF hst hc.1 (fun i j hij hj hcl => ordAll_spec (fun j => (es j).reverse) ops.size hc.2 j hj i hij (conflict_of hcl)) (fun a w hR => hK s' a w hk hlen (by rw [← hn]; exact hR))
        ops.size _ a _ (by simp) (left_le _) ?_ ?_
      · intro i j hb hj
        have : j < ops.size := before_lt hb
        simp [this] at hj
      · have hD : (fun j => (Array.replicate ops.size false).getD j false) = fun _ => false := by
          funext j
          simp only [Array.getD_eq_getD_getElem?, Array.getElem?_replicate]
          split <;> rfl
        rw [hD]
        have : done (fun _ => false) st es ops.size = st 0 := by
          apply F.ext_same
          · rw [done_N]
          · intro l
            exact (done_more (i := 0) ops.size (by omega) fun j _ _ h => by cases h).trans (by rw [done_zero]; exact .refl _ l)
        rw [this, h0]
        obtain ⟨env, Z, hR⟩ := hR
        exact ⟨env, Z, hR.drew⟩
end

end Go.Proofs.YtoiimiohobollaaGreat.AI
