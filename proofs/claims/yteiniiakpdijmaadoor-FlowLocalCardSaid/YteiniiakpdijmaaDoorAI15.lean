/- A region, in its order and in any order. -/
import Derived.Test.YteiniiakpdijmaaDoorAI14
namespace Go.Proofs.YteiniiakpdijmaaDoor.AI
open Go.RowKit
set_option linter.unusedVariables false

/-! ### What the order's bits say -/

def beforeStep (acc : Array Nat) (o : Oper) : Array Nat :=
  acc.push (o.after.foldl (fun s e => if Region.binds .any e then s ||| 2 ^ e.on ||| acc.getD e.on 0 else s) 0)

theorem bits_fold (A : Array Nat) (i : Nat) : ∀ (l : List Edge) (s : Nat), (l.foldl (fun s e => if Region.binds .any e then s ||| 2 ^ e.on ||| A.getD e.on 0 else s) s).testBit i = true →
    s.testBit i = true ∨ ∃ e ∈ l, Region.binds .any e = true ∧ (i = e.on ∨ (A.getD e.on 0).testBit i = true)
  | [], s, h => .inl h
  | e :: l, s, h => by
    simp only [List.foldl_cons] at h
    rcases bits_fold A i l _ h with h1 | ⟨e', he, hb⟩
    · by_cases hbd : Region.binds .any e = true
      · rw [if_pos hbd] at h1
        simp only [Nat.testBit_or, Bool.or_eq_true] at h1
        rcases h1 with (h1 | h1) | h1
        · exact .inl h1
        · refine .inr ⟨e, .head _, hbd, .inl ?_⟩
          rw [Nat.testBit_two_pow] at h1
          exact (of_decide_eq_true h1).symm
        · exact .inr ⟨e, .head _, hbd, .inr h1⟩
      · rw [if_neg hbd] at h1; exact .inl h1
    · exact .inr ⟨e', .tail _ he, hb⟩

theorem before_go : ∀ (l : List Oper) (acc : Array Nat), acc.size + l.length = (l.foldl beforeStep acc).size ∧ (∀ j, j < acc.size → (l.foldl beforeStep acc).getD j 0 = acc.getD j 0) ∧
    ∀ j o i, l[j]? = some o → ((l.foldl beforeStep acc).getD (acc.size + j) 0).testBit i = true →
      ∃ e ∈ o.after, Region.binds .any e = true ∧ (i = e.on ∨ ((l.foldl beforeStep acc).getD e.on 0).testBit i = true)
  | [], acc => ⟨rfl, fun _ _ => rfl, fun j o i h => by simp at h⟩
  | o :: l, acc => by
    obtain ⟨h1, h2, h3⟩ := before_go l (beforeStep acc o)
    have hs : (beforeStep acc o).size = acc.size + 1 := by simp [beforeStep]
    have keep : ∀ j, j < acc.size → (beforeStep acc o).getD j 0 = acc.getD j 0 := fun j hj => by
      simp only [beforeStep, Array.getD_eq_getD_getElem?]
      rw [Array.getElem?_push_lt hj]
      simp [hj]
    refine ⟨by simp only [List.foldl_cons, List.length_cons]; omega, fun j hj => by rw [List.foldl_cons, h2 j (by omega), keep j hj], fun j o' i hj hb => ?_⟩
    rw [List.foldl_cons] at hb ⊢
    cases j with
    | zero =>
      simp only [List.getElem?_cons_zero, Option.some.injEq] at hj
      subst hj
      rw [h2 _ (by omega)] at hb
      have : (beforeStep acc o).getD (acc.size + 0) 0 = o.after.foldl (fun s e => if Region.binds .any e then s ||| 2 ^ e.on ||| acc.getD e.on 0 else s) 0 := by
        simp [beforeStep]
      rw [this, ← Array.foldl_toList] at hb
      rcases bits_fold acc i _ _ hb with h0 | ⟨e, he, hbd, h0⟩
      · simp at h0
      · refine ⟨e, Array.mem_toList_iff.1 he, hbd, h0.imp id fun h0 => ?_⟩
        have hlt : e.on < acc.size := by
          rcases Nat.lt_or_ge e.on acc.size with h | h
          · exact h
          · simp [Array.getD_eq_getD_getElem?, Array.getElem?_eq_none h] at h0
        rw [h2 _ (by omega), keep _ hlt]
        exact h0
    | succ j =>
      exact h3 j o' i (by simpa using hj) (by rw [hs, show acc.size + 1 + j = acc.size + (j + 1) by omega]; exact hb)

theorem before_spec {ops : Array Oper} {j i : Nat} {o : Oper} (hj : ops[j]? = some o) (h : ((Region.before ops).getD j 0).testBit i = true) :
    ∃ e ∈ o.after, Region.binds .any e = true ∧ (i = e.on ∨ ((Region.before ops).getD e.on 0).testBit i = true) := by
  have heq : Region.before ops = ops.toList.foldl beforeStep #[] := by
    unfold Region.before
    rw [← Array.foldl_toList]
    rfl
  rw [heq] at h ⊢
  exact (before_go ops.toList #[]).2.2 j o i (by simpa using hj) (by simpa using h)

theorem before_lt {ops : Array Oper} {j i : Nat} (h : ((Region.before ops).getD j 0).testBit i = true) : j < ops.size := by
  have heq : Region.before ops = ops.toList.foldl beforeStep #[] := by
    unfold Region.before
    rw [← Array.foldl_toList]
    rfl
  have hs := (before_go ops.toList #[]).1
  rw [← heq] at hs
  rcases Nat.lt_or_ge j ops.size with h' | h'
  · exact h'
  · have : (Region.before ops).size ≤ j := by simp at hs; omega
    simp [Array.getD_eq_getD_getElem?, Array.getElem?_eq_none this] at h

theorem edgesOk_spec {ops : Array Oper} (h : edgesOk ops = true) {j : Nat} {o : Oper} (hj : ops[j]? = some o) {e : Edge} (he : e ∈ o.after) (hb : Region.binds .any e = true) : e.on < j := by
  unfold edgesOk at h
  rw [List.all_eq_true] at h
  have hm : (o, j) ∈ ops.toList.zipIdx := by
    rw [List.mem_zipIdx_iff_getElem?]
    simpa using hj
  have h1 := h (o, j) hm
  have h2 := Array.all_eq_true_iff_forall_mem.1 h1 e he
  simp only [hb, Bool.not_true, Bool.false_or] at h2
  exact nblt h2

/-! ### Every two that clash are ordered -/

theorem conflict_of {a b : List Ev} (h : clash a b) : conflict a.reverse b.reverse = true := by
  unfold conflict
  rw [List.any_eq_true]
  obtain ⟨l, ⟨⟨e, he, hw, hl⟩, ⟨f, hf, hl'⟩⟩ | ⟨⟨e, he, hl⟩, ⟨f, hf, hw, hl'⟩⟩⟩ := h
  · refine ⟨e, by simpa using he, ?_⟩
    rw [List.any_eq_true]
    exact ⟨f, by simpa using hf, by rw [hw, (Loc.beq_iff _ _).2 (hl.trans hl'.symm)]; rfl⟩
  · refine ⟨e, by simpa using he, ?_⟩
    rw [List.any_eq_true]
    exact ⟨f, by simpa using hf, by rw [hw, (Loc.beq_iff _ _).2 (hl.trans hl'.symm)]; simp⟩

theorem ordOne_spec {B : Array Nat} {j : Nat} {e : List Ev} (L : Nat → List Ev) : ∀ m, ordOne B j e m ((List.range m).reverse.map L) = true → ∀ i, i < m → conflict (L i) e = true → (B.getD j 0).testBit i = true
  | 0, _, i, hi, _ => by omega
  | m + 1, h, i, hi, hc => by
    rw [List.range_succ, List.reverse_append] at h
    simp only [List.reverse_cons, List.reverse_nil, List.nil_append, List.singleton_append, List.map_cons, ordOne, Nat.add_sub_cancel, Bool.and_eq_true, Bool.or_eq_true, Bool.not_eq_true'] at h
    by_cases e' : i = m
    · subst e'
      rcases h.1 with h1 | h1
      · rw [hc] at h1; cases h1
      · exact h1
    · exact ordOne_spec L m h.2 i (by omega) hc

theorem ordAll_spec {B : Array Nat} (L : Nat → List Ev) : ∀ m, ordAll B m ((List.range m).reverse.map L) = true → ∀ j, j < m → ∀ i, i < j → conflict (L i) (L j) = true → (B.getD j 0).testBit i = true
  | 0, _, j, hj => by omega
  | m + 1, h, j, hj => by
    intro i hi hc
    rw [List.range_succ, List.reverse_append] at h
    simp only [List.reverse_cons, List.reverse_nil, List.nil_append, List.singleton_append, List.map_cons, ordAll, Nat.add_sub_cancel, Bool.and_eq_true] at h
    by_cases e' : j = m
    · subst e'
      exact ordOne_spec L j h.1 i hi hc
    · exact ordAll_spec L m h.2 j (by omega) i hi hc

/-! ### How many are left -/

def left (D : Nat → Bool) : Nat → Nat
  | 0 => 0
  | m + 1 => left D m + (if D m = true then 0 else 1)

theorem left_set {D : Nat → Bool} {i : Nat} (hi : D i = false) : ∀ m, (i < m → left (fun j => j == i || D j) m + 1 = left D m) ∧ (m ≤ i → left (fun j => j == i || D j) m = left D m)
  | 0 => ⟨fun h => by omega, fun _ => rfl⟩
  | m + 1 => by
    obtain ⟨h1, h2⟩ := left_set hi m
    refine ⟨fun h => ?_, fun h => ?_⟩
    · simp only [left]
      by_cases e : m = i
      · subst e
        rw [h2 (Nat.le_refl _)]
        simp [hi]
      · have := h1 (by omega)
        have hb : (m == i) = false := by simp [e]
        simp only [hb, Bool.false_or]
        omega
    · simp only [left]
      rw [h2 (by omega)]
      have hb : (m == i) = false := by simp; omega
      simp only [hb, Bool.false_or]

theorem left_zero {D : Nat → Bool} : ∀ m, left D m = 0 → ∀ j, j < m → D j = true
  | 0, _, j, hj => by omega
  | m + 1, h, j, hj => by
    simp only [left] at h
    by_cases e : j = m
    · subst e
      by_cases hd : D j = true
      · exact hd
      · rw [if_neg hd] at h; omega
    · exact left_zero m (by omega) j (by omega)

theorem left_le {D : Nat → Bool} : ∀ m, left D m ≤ m
  | 0 => Nat.le_refl _
  | m + 1 => by
    have := left_le (D := D) m
    simp only [left]
    split <;> omega

section
variable {P : Program} {TT : TypeId → Option TI} {TU : TypeId → Option (List TypeId)} {X : Ctx} {s s1 : F} {a : Act} {w : World} {n : Nat}
variable {C : FuncId → List AVal → List Blk → Call} {ownF : FuncId → Bool} {Q : Exit → Act → World → Prop}

theorem any_sim (hT : TOk P TT) (hC : COk P X.GL C) (hF : ∀ f us bs r, (C f us bs).o = some r → FOk P f) {ops : Array Oper} {id : Nat} {st : Nat → F} {es : Nat → List Ev}
    (hst : ∀ j, j < ops.size → (opM TT TU X.GL C ownF ops id j).trace (st j) = some ((), st (j + 1), es j))
    (hedge : edgesOk ops = true) (hord : ∀ i j, i < j → j < ops.size → clash (es i) (es j) → ((Region.before ops).getD j 0).testBit i = true)
    (hQ : ∀ a w, RelE X (st ops.size) a w → Q .normal a w) :
    ∀ (fuel : Nat) (listed : Array Bool) (a : Act) (w : World), listed.size = ops.size → left (fun j => listed.getD j false) ops.size ≤ fuel →
      (∀ i j, ((Region.before ops).getD j 0).testBit i = true → listed.getD j false = true → listed.getD i false = true) →
      RelE X (done (fun j => listed.getD j false) st es ops.size) a w → wpAny P .any ops Q fuel listed a w := by
  have hN : ∀ k, k ≤ ops.size → (st k).N = (st 0).N := by
    intro k
    induction k with
    | zero => intro _; rfl
    | succ k ih => intro hk; rw [(trace_stays _ _ _ _ _ (hst k (by omega))).1]; exact ih (by omega)
  have fin : ∀ (listed : Array Bool) (a : Act) (w : World), (∀ j, j < ops.size → listed.getD j false = true) → RelE X (done (fun j => listed.getD j false) st es ops.size) a w → Q .normal a w := by
    intro listed a w hall hR
    refine hQ a w ?_
    have : done (fun j => listed.getD j false) st es ops.size = st ops.size := by
      apply F.ext_same
      · rw [done_N, hN _ (Nat.le_refl _)]
      · intro l
        exact done_all hst ops.size (Nat.le_refl _) l fun j hj _ => hall j hj
    rw [this] at hR
    exact hR
  have stuck : ∀ (listed : Array Bool), listed.size = ops.size → Region.ready .any ops listed = [] → ∀ j, j < ops.size → listed.getD j false = true := by
    intro listed hsz hr j
    induction j using Nat.strongRecOn with
    | _ j ih =>
      intro hj
      by_cases hl : listed.getD j false = true
      · exact hl
      · exfalso
        have hmem : j ∈ Region.ready .any ops listed := by
          rw [mem_ready]
          have hlt : j < listed.size := by omega
          refine ⟨?_, ops[j], by simp [hj], fun e he hb => ?_⟩
          · simp [hlt] at hl ⊢; exact hl
          · exact ih e.on (edgesOk_spec hedge (by simp [hj]) he hb) (by have := edgesOk_spec hedge (j := j) (o := ops[j]) (by simp [hj]) he hb; omega)
        rw [hr] at hmem
        cases hmem
  intro fuel
  induction fuel with
  | zero =>
    intro listed a w hsz hleft hdown hR
    have hall := left_zero _ (Nat.le_zero.1 hleft)
    refine ⟨?_, fin listed a w hall hR⟩
    cases hr : Region.ready .any ops listed with
    | nil => rfl
    | cons x xs =>
      have hx : x ∈ Region.ready .any ops listed := by rw [hr]; exact .head _
      obtain ⟨h0, o, ho, _⟩ := mem_ready.1 hx
      have hlt : x < ops.size := (Array.getElem?_eq_some_iff.1 ho).1
      have h1 := hall x hlt
      have hlt' : x < listed.size := by omega
      simp [hlt'] at h0 h1
      rw [h0] at h1
      cases h1
  | succ fuel ih =>
    intro listed a w hsz hleft hdown hR
    refine ⟨fun hr => fin listed a w (stuck listed hsz hr) hR, fun i hi => ?_⟩
    obtain ⟨h0, o, ho, hedges⟩ := mem_ready.1 hi
    have hlt : i < ops.size := (Array.getElem?_eq_some_iff.1 ho).1
    have hlt' : i < listed.size := by omega
    have hDi : (fun j => listed.getD j false) i = false := by simp [hlt'] at h0 ⊢; exact h0
    have hready : ∀ j, ((Region.before ops).getD i 0).testBit j = true → listed.getD j false = true := by
      intro j hj
      obtain ⟨e, he, hb, h⟩ := before_spec ho hj
      rcases h with rfl | h
      · exact hedges e he hb
      · exact hdown j e.on h (hedges e he hb)
    have hstep := done_step (before := fun i j => ((Region.before ops).getD j 0).testBit i = true) hst hord (D := fun j => listed.getD j false) hdown hlt hDi hready
    have hD' : (fun j => j == i || listed.getD j false) = fun j => (listed.setIfInBounds i true).getD j false := by
      funext j
      by_cases e : j = i
      · subst e; simp [hlt']
      · have hb : (j == i) = false := by simp [e]
        simp only [hb, Bool.false_or]
        rw [getD_set_ne false (fun h => e h.symm)]
    have hop : opM TT TU X.GL C ownF ops id i = aop TT TU X.GL C ownF ops (keyAt id i o) o := by simp only [opM, ho]
    rw [hop] at hstep
    refine aop_sim hT hC hF ho ⟨_, hstep⟩ hR fun a' w' hR' => ?_
    refine ih (listed.setIfInBounds i true) a' w' (by simp [hsz]) ?_ ?_ ?_
    · rw [← hD']
      have := (left_set (D := fun j => listed.getD j false) hDi ops.size).1 hlt
      omega
    · intro j k hb hk
      rw [← congrFun hD' k] at hk
      rw [← congrFun hD' j]
      rcases Bool.or_eq_true_iff.1 hk with hk | hk
      · have : k = i := by simpa using hk
        subst this
        simp [hready j hb]
      · simp [hdown j k hb hk]
    · rw [← hD']; exact hR'

/-! ### A region is over -/
theorem niK_sim {env env' : Nat → Option Ent} {Z : Nat → Prop} (he : ∀ k e, env k = some e → ∃ e', env' k = some e' ∧ e'.v = e.v ∧ e'.n = e.n ∧ e'.E = e.E) {v : AVal} {c : Value} (hn : niK v = true) (hv : VRel env Z w v c) : VRel env' Z w v c := by
  cases hv with
  | slc k n c e hk hle h1 h =>
    obtain ⟨e', p1, p2, p3, p4⟩ := he k e hk
    exact .slc k n c e' p1 (by rw [p3]; exact hle) h1 (by rw [p3, p2]; exact h)
  | ref k n i j c e hk hle h1 h =>
    obtain ⟨e', p1, p2, p3, p4⟩ := he k e hk
    exact .ref k n i j c e' p1 (by rw [p3]; exact hle) h1 (by rw [p3, p2, p4]; exact h)
  | dead => exact .dead _
  | sc => exact .sc _
  | emp => exact .emp _
  | roE => exact .roE _ _ _
  | ro E rows b o cap f h1 h2 h3 h4 h5 => exact (VRel.ro E rows b o cap f h1 h2 h3 h4 h5).anyEnv rfl
  | rptr l b o f h1 h2 h3 => exact (VRel.rptr l b o f h1 h2 h3).anyEnv rfl
  | agg => cases hn
  | tup => cases hn
  | clo => cases hn
  | inn => cases hn
  | ipt => cases hn
theorem niC_sim {env env' : Nat → Option Ent} {Z : Nat → Prop} (he : ∀ k e, env k = some e → ∃ e', env' k = some e' ∧ e'.v = e.v ∧ e'.n = e.n ∧ e'.E = e.E) {v : AVal} {c : Value} (hn : niC v = true) (hv : VRel env Z w v c) : VRel env' Z w v c := by
  cases v with
  | clo f l =>
    simp only [niC, List.all_eq_true] at hn
    cases hv with
    | clo _ _ cs hl h => exact .clo f l cs hl fun i v c h1 h2 => niK_sim he (hn v (List.mem_of_getElem? h1)) (h i v c h1 h2)
  | agg l => cases hn
  | tup l => cases hn
  | inn => cases hn
  | ipt => cases hn
  | _ => exact niK_sim he rfl hv
theorem niT_sim {env env' : Nat → Option Ent} {Z : Nat → Prop} (he : ∀ k e, env k = some e → ∃ e', env' k = some e' ∧ e'.v = e.v ∧ e'.n = e.n ∧ e'.E = e.E) {v : AVal} {c : Value} (hn : niT v = true) (hv : VRel env Z w v c) : VRel env' Z w v c := by
  cases v with
  | agg l =>
    simp only [niT, List.all_eq_true] at hn
    cases hv with
    | agg _ cs hl h => exact .agg l cs hl fun i v c h1 h2 => niC_sim he (hn v (List.mem_of_getElem? h1)) (h i v c h1 h2)
  | tup l => cases hn
  | _ => exact niC_sim he hn hv
theorem niA_sim {env env' : Nat → Option Ent} {Z : Nat → Prop} (he : ∀ k e, env k = some e → ∃ e', env' k = some e' ∧ e'.v = e.v ∧ e'.n = e.n ∧ e'.E = e.E) {v : AVal} {c : Value} (hn : niA v = true) (hv : VRel env Z w v c) : VRel env' Z w v c := by
  cases v with
  | tup l =>
    simp only [niA, List.all_eq_true] at hn
    cases hv with
    | tup _ cs hl h => exact .tup l cs hl fun i v c h1 h2 => niT_sim he (hn v (List.mem_of_getElem? h1)) (h i v c h1 h2)
  | _ => exact niT_sim he hn hv

theorem lookK_map (f : Blk → Blk) : ∀ (h : List (Nat × Blk)) (k : Nat), lookK (h.map fun p => (p.1, f p.2)) k = (lookK h k).map f
  | [], k => rfl
  | (k', b) :: h, k => by
    simp only [List.map_cons, lookK, lookK_map f h k]
    cases Nat.beq k' k <;> rfl

/-- What becomes of an entry. -/
def restE (k : BKind) (e : Ent) : Ent := match k with | .ns 2 _ _ => ⟨e.v, e.n, e.E, 0, 0, e.sub⟩ | _ => e
theorem restE_v (k : BKind) (e : Ent) : (restE k e).v = e.v ∧ (restE k e).n = e.n ∧ (restE k e).E = e.E ∧ (restE k e).sub = e.sub := by
  unfold restE; split <;> exact ⟨rfl, rfl, rfl, rfl⟩

theorem niC_cell {v : AVal} (h : cellOk v = true) : niC v = true := by
  cases v <;> first | rfl | cases h | exact h

theorem settle_sim {s : St} (h : RelE X s.toF a w) : RelE X (settle s).toF a w ∧ (settle s).tmps.length = s.tmps.length := by
  cases hN : hasN s.heap with
  | false =>
    have : settle s = s := by unfold settle; rw [hN]; rfl
    rw [this]
    exact ⟨h, rfl⟩
  | true =>
  have hse : settle s = ⟨s.tmps.map fun v => bif niA v then v else .dead, s.heap.map fun p => (p.1, ⟨restK p.2.kind, p.2.T, p.2.E, p.2.rows⟩)⟩ := by unfold settle; rw [hN]; rfl
  rw [hse]
  obtain ⟨env, Z, hR⟩ := h
  refine ⟨?_, by simp⟩
  let f : Blk → Blk := fun b => ⟨restK b.kind, b.T, b.E, b.rows⟩
  let env' : Nat → Option Ent := fun k => (env k).bind fun e => (lookK s.heap k).map fun b => restE b.kind e
  have hkey : ∀ k, (St.toF ⟨s.tmps.map fun v => bif niA v then v else .dead, s.heap.map fun p => (p.1, f p.2)⟩).key k = (s.toF.key k).map f := fun k => lookK_map f s.heap k
  have htmp : ∀ t, (St.toF ⟨s.tmps.map fun v => bif niA v then v else .dead, s.heap.map fun p => (p.1, f p.2)⟩).tmp t = bif niA (s.toF.tmp t) then s.toF.tmp t else .dead := fun t => by
    show (s.tmps.map fun v => bif niA v then v else .dead).getD t .dead = bif niA (s.tmps.getD t .dead) then s.tmps.getD t .dead else .dead
    simp only [List.getD_eq_getElem?_getD, List.getElem?_map]
    cases s.tmps[t]? <;> rfl
  have hget : ∀ k e, env k = some e → ∃ b, s.toF.key k = some b ∧ env' k = some (restE b.kind e) := fun k e hk => by
    have hd := hR.dom k
    rw [hk] at hd
    obtain ⟨b, hb⟩ := Option.isSome_iff_exists.1 (show (s.toF.key k).isSome = true by simpa using hd.symm)
    refine ⟨b, hb, ?_⟩
    have : lookK s.heap k = some b := hb
    simp only [env', hk, this, Option.bind_some, Option.map_some]
  have hback : ∀ k e', env' k = some e' → ∃ e b, env k = some e ∧ s.toF.key k = some b ∧ e' = restE b.kind e := fun k e' hk => by
    simp only [env'] at hk
    cases h1 : env k with
    | none => rw [h1] at hk; cases hk
    | some e =>
      obtain ⟨b, hb, h2⟩ := hget k e h1
      have h3 : env' k = some e' := hk
      rw [h2] at h3
      simp only [Option.some.injEq] at h3
      exact ⟨e, b, rfl, hb, h3.symm⟩
  have he : ∀ k e, env k = some e → ∃ e', env' k = some e' ∧ e'.v = e.v ∧ e'.n = e.n ∧ e'.E = e.E := fun k e hk => by
    obtain ⟨b, _, h2⟩ := hget k e hk
    obtain ⟨q1, q2, q3, _⟩ := restE_v b.kind e
    exact ⟨_, h2, q1, q2, q3⟩
  have hhas : ∀ (b : Blk) (e : Ent) (g : Nat), (restE b.kind e).has g ↔ e.has g := fun b e g => by
    obtain ⟨q1, _, _, q2⟩ := restE_v b.kind e
    simp only [Ent.has, q1, q2]
  have hDef : DfrOk env' Z w ((St.toF ⟨s.tmps.map fun v => bif niA v then v else .dead, s.heap.map fun p => (p.1, f p.2)⟩).key dkey) a.defers := by
    rw [hkey]
    have hD := hR.defers
    unfold DfrOk at hD ⊢
    cases hk : s.toF.key dkey with
    | none => rw [hk] at hD; exact hD
    | some b =>
      rw [hk] at hD
      simp only [Option.map_some, f] at hD ⊢
      generalize b.kind = kk at hD
      cases kk with
      | dfr g l =>
        obtain ⟨cs, h0, h1, h2, h3⟩ := hD
        exact ⟨cs, h0, h1, h2, fun i v c p q => niK_sim he (List.all_eq_true.1 h0 v (List.mem_of_getElem? p)) (h3 i v c p q)⟩
      | ns st T E =>
        have hr : ∃ st', restK (.ns st T E) = .ns st' T E := by
          unfold restK
          split
          · rename_i h; simp only [BKind.ns.injEq] at h; obtain ⟨_, rfl, rfl⟩ := h; exact ⟨_, rfl⟩
          · exact ⟨_, rfl⟩
        obtain ⟨st', hr⟩ := hr
        rw [hr]
        exact hD
      | _ => exact hD
  refine ⟨env', Z, ?_⟩
  refine
    { size := by simpa [St.toF] using hR.size
      tmps := fun t ht => ?_
      tmpo := fun t ht => ?_
      dom := fun k => ?_
      blk := fun k b' e' h1 h2 => ?_
      inj := fun k l e f g h1 h2 h3 h4 => ?_
      own := fun k e g h1 h2 => ?_
      zlt := hR.zlt
      z0 := hR.z0
      znew := hR.znew
      os := hR.os
      tape := hR.tape
      output := hR.output
      grown := hR.grown
      keep := hR.keep
      defers := hDef
      hand := fun k f hf => ?_ }
  · rw [htmp]
    have ht' : t < s.toF.N := by simpa [St.toF] using ht
    cases hn : niA (s.toF.tmp t) with
    | true => exact niA_sim he hn (hR.tmps t ht')
    | false => exact .dead _
  · rw [htmp, hR.tmpo t (by simpa [St.toF] using ht)]
    rfl
  · rw [hkey]
    cases h1 : env k with
    | none =>
      have hd := hR.dom k
      rw [h1] at hd
      have : s.toF.key k = none := by simpa using hd.symm
      simp only [env', h1, this]; rfl
    | some e =>
      obtain ⟨b, hb, h2⟩ := hget k e h1
      rw [h2, hb]; rfl
  · rw [hkey] at h1
    obtain ⟨e, b, q1, q2, rfl⟩ := hback k e' h2
    rw [q2] at h1
    simp only [Option.map_some, Option.some.injEq] at h1
    subst h1
    have hB := hR.blk k b e q2 q1
    obtain ⟨r1, r2, r3, r4⟩ := restE_v b.kind e
    refine ⟨by rw [r2]; exact hB.hn, by rw [r3]; exact hB.hE, hB.hlen, fun hb => ?_, ?_, fun hb => ?_, fun st T E hb => ?_, fun hb => ?_⟩
    · have hb' : b.kind = .box := by
        cases hk : b.kind with
        | ns st T E => simp only [f, hk, restK] at hb; split at hb <;> cases hb
        | box => rfl
        | arr => simp only [f, hk, restK] at hb; cases hb
        | frz => simp only [f, hk, restK] at hb; cases hb
        | dfr => simp only [f, hk, restK] at hb; cases hb
      obtain ⟨g, cs, r, p1, p2, p3, p4, p5, p6⟩ := hB.box hb'
      exact ⟨g, cs, r, by rw [r1]; exact p1, p2, p3, p4, p5, fun j v c hv hc => let ⟨x1, x2, x3⟩ := p6 j v c hv hc; ⟨niC_sim he (niC_cell x2) x1, x2, x3⟩⟩
    · have h0 := hB.hst
      simp only [f]
      unfold restE restK
      split
      · rename_i hk; rw [hk]; rfl
      · rename_i hno
        split
        · rename_i hk; exact absurd hk (hno _ _)
        · exact h0
    · have hb' : b.kind.isNs = false := by
        cases hk : b.kind with
        | ns st T E => simp only [f, hk, restK] at hb; split at hb <;> cases hb
        | _ => rfl
      have := hB.plain hb'
      rw [r4]
      refine ⟨this.1, ?_⟩
      unfold restE
      split
      · rfl
      · exact this.2
    · have main : ∀ st0, b.kind = .ns st0 T E → (st = st0 ∨ st = 0 ∧ st0 = 2) → NRel env' Z w (f b) (restE b.kind e) st T E := fun st0 hk hst => by
        have hN := hB.ns st0 T E hk
        refine ⟨hN.one, by rw [r4]; exact hN.len, ?_, fun i r c hr hc => ?_, by rw [r4]; exact hN.dist, by rw [r4, r1]; exact hN.outer⟩
        · rcases hN.out with h0 | ⟨g, cap, cs, h1, h2, h3, h4, h5, h6, h7, h8⟩
          · rw [r1]; exact .inl h0
          · rw [r1, r4]
            refine .inr ⟨g, cap, cs, h1, h2, h3, h4, h5, h6, h7, fun i c hc hp => h8 i c hc fun h => ?_⟩
            subst h
            have hs : st = 1 := by rcases hst with h | h <;> omega
            have : (restE b.kind e).pos = e.pos := by rw [hk]; rfl
            rw [← this]; exact hp hs
        · rw [r4] at hc
          obtain ⟨rr, q1, q2⟩ := hN.inn i r c hr hc
          refine ⟨rr, q1, q2.len, ?_⟩
          rcases q2.mem with h0 | ⟨g, o, cap, cs, h1, h2, h3, h4, h5, h6, h7, h8⟩
          · exact .inl h0
          · exact .inr ⟨g, o, cap, cs, h1, h2, h3, h4, h5, h6, h7, fun i j r v hi hj => let ⟨c, q1, q2, q3⟩ := h8 i j r v hi hj; ⟨c, q1, q2.anyEnv q3.1, q3⟩⟩
      simp only [f] at hb
      unfold restK at hb
      split at hb
      · rename_i hk
        simp only [BKind.ns.injEq] at hb
        obtain ⟨rfl, rfl, rfl⟩ := hb
        exact main 2 hk (.inr ⟨rfl, rfl⟩)
      · exact main st hb (.inl rfl)
    · have hb' : b.kind.isBox = false := by
        cases hk : b.kind with
        | ns st T E => simp only [f, hk, restK] at hb; split at hb <;> cases hb
        | box => simp only [f, hk, restK] at hb; cases hb
        | _ => rfl
      have hk' : (f b).kind = b.kind := by
        cases hk : b.kind with
        | ns st T E => rw [hk] at hb'; cases hb'
        | _ => simp only [f, hk, restK]
      rw [r1, hk']
      rcases hB.arr hb' with h0 | ⟨g, cap, cs, h1, h2, h3, h4, h5, h6, h7, h8, h9⟩
      · exact .inl h0
      · exact .inr ⟨g, cap, cs, h1, h2, h3, h4, h5, h6, h7, h8, fun i j r v hi hj => let ⟨c, q1, q2, q3⟩ := h9 i j r v hi hj; ⟨c, q1, q2.anyEnv q3.1, q3⟩⟩
  · obtain ⟨e1, b1, q1, q2, rfl⟩ := hback k e h1
    obtain ⟨e2, b2, q3, q4, rfl⟩ := hback l f h2
    exact hR.inj k l e1 e2 g q1 q3 ((hhas b1 e1 g).1 h3) ((hhas b2 e2 g).1 h4)
  · obtain ⟨e1, b1, q1, q2, rfl⟩ := hback k e h1
    exact hR.own k e1 g q1 ((hhas b1 e1 g).1 h2)
  · obtain ⟨e, q1, q2, q3⟩ := hR.hand k f hf
    obtain ⟨e', p1, p2, p3, p4⟩ := he k e q1
    exact ⟨e', p1, by rw [p3]; exact q2, fun h => by rw [p2, p4]; exact q3 (by rw [← p3]; exact h)⟩

theorem region_sim (hm : P.follows .mixedOrders = true) (hT : TOk P TT) (hC : COk P X.GL C) (hF : ∀ f us bs r, (C f us bs).o = some r → FOk P f) {ops : Array Oper} {id : Nat} {draw : Bool} {s : St} {k : St → Option CR} {r : CR}
    (h : region TT TU X.GL C ownF id ops draw s k = some r) (hR : RelE X s.toF a w)
    (hK : ∀ s' a' w', k s' = some r → s'.tmps.length = s.tmps.length → RelE X s'.toF a' w' → Q .normal a' w') : (Code.region id ops draw).wp P Q a w := by
  unfold region at h
  obtain ⟨st, es, s', h0, hn, hlen, hst, hk⟩ := goOps_run ops.toList 0 [] s _ r (fun j o hj => by simpa using hj) h
  simp only [Nat.zero_add, Array.length_toList, List.append_nil] at h0 hn hst hk
  cases draw with
  | false =>
    simp only [Bool.not_false, Bool.true_or, cond_true] at hk
    refine wp_region ?_
    have := range_wpOps (P := P) (Q := Q) (ops := ops) (fun i a w => RelE X (st i) a w) (m := ops.size) (fun a w h => have q := settle_sim (s := s') (by rw [← hn]; exact h); hK _ a w hk (q.2.trans hlen) q.1)
      (fun i hi a w k hk hR => by
        have hoi : ops[i]? = some ops[i] := by simp [hi]
        have hop : opM TT TU X.GL C ownF ops id i = aop TT TU X.GL C ownF ops (keyAt id i ops[i]) ops[i] := by simp only [opM, hoi]
        have := hst i hi
        rw [hop] at this
        exact aop_sim hT hC hF hoi ⟨_, this⟩ hR hk) ops.size 0 (by omega) a w (by rw [h0]; exact hR)
    simpa using this
  | true =>
    simp only [Bool.not_true, Bool.false_or] at hk
    cases hc : (edgesOk ops && ordAll (Region.before ops) ops.size ((List.range ops.size).reverse.map fun j => (es j).reverse)) with
    | false => rw [hc] at hk; cases hk
    | true =>
      rw [hc] at hk
      simp only [cond_true] at hk
      simp only [Bool.and_eq_true] at hc
      refine wp_region_any hm ?_
      refine any_sim hT hC hF hst hc.1 (fun i j hij hj hcl => ordAll_spec (fun j => (es j).reverse) ops.size hc.2 j hj i hij (conflict_of hcl)) (fun a w hR => have q := settle_sim (s := s') (by rw [← hn]; exact hR); hK _ a w hk (q.2.trans hlen) q.1)
        ops.size _ a _ (by simp) (left_le _) ?_ ?_
      · intro i j hb hj
        have : j < ops.size := before_lt hb
        simp [this] at hj
      · have hD : (fun j => (Array.replicate ops.size false).getD j false) = fun _ => false := by
          funext j
          simp only [Array.getD_eq_getD_getElem?, Array.getElem?_replicate]
          split <;> rfl
        rw [hD]
        have : done (fun _ => false) st es ops.size = st 0 := by
          apply F.ext_same
          · rw [done_N]
          · intro l
            exact (done_more (i := 0) ops.size (by omega) fun j _ _ h => by cases h).trans (by rw [done_zero]; exact .refl _ l)
        rw [this, h0]
        obtain ⟨env, Z, hR⟩ := hR
        exact ⟨env, Z, hR.drew⟩
end

end Go.Proofs.YteiniiakpdijmaaDoor.AI
