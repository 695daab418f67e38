/- One operation of a region, with its guard; a region in its order and in any order. -/
import Derived.Test.YteiniiakpdijmaaDoorAI13
namespace Go.Proofs.YteiniiakpdijmaaDoor.AI
open Go.RowKit
set_option linter.unusedVariables false

section
variable {P : Program} {TT : TypeId → Option TI} {TU : TypeId → Option (List TypeId)} {X : Ctx} {env : Nat → Option Ent} {Z : Nat → Prop} {s s1 : F} {a : Act} {w : World} {t : TypeId} {n : Nat}
variable {C : FuncId → List AVal → List Blk → Call} {ownF : FuncId → Bool} {Q : Exit → Act → World → Prop}

/-- An abstract state and a machine's. -/
def RelE (X : Ctx) (s : F) (a : Act) (w : World) : Prop := ∃ env Z, Rel X env Z s a w

theorem Rel.putDst (h : Rel X env Z s a w) {d : Option Tmp} {v : AVal} {c : Value} {s' : F} (hv : VRel env Z w v c) (hd : Gives (setDst d v) s () s') : Rel X env Z s' (a.put d c) w := by
  unfold setDst at hd
  split at hd
  · obtain ⟨_, rfl⟩ := hd.ret
    exact h
  · obtain ⟨hlt, h2⟩ := hd.setT
    obtain ⟨_, rfl⟩ := h2.ret
    exact h.setT hv hlt

theorem Rel.putOff (h : Rel X env Z s a w) (hk : s.key dkey = none) {f : FuncId} {l : List AVal} {cs : Array Value} {T : TypeId} (hn : l.all niK = true) (hl : l.length = cs.size)
    (hv : ∀ (i : Nat) (v : AVal) (c : Value), l[i]? = some v → cs[i]? = some c → VRel env Z w v c) :
    ∃ env', Rel X env' Z (s.setK dkey ⟨.dfr f l, T, 0, []⟩) { a with defers := { target := .fn (.func f) cs, args := #[] } :: a.defers } w := by
  have hek : env dkey = none := by
    have := h.dom dkey
    rw [hk] at this
    simpa using this
  have hds := h.defers.nil fun b hb => by rw [hk] at hb; cases hb
  have hB : ∀ (k : BKind), k.isBox = false → k.isNs = false → k.st = 0 → BRel (fun l => if l = dkey then some (⟨.slice none 0 0, 0, 0, 0, 0, []⟩ : Ent) else env l) Z w ⟨k, T, 0, []⟩ ⟨.slice none 0 0, 0, 0, 0, 0, []⟩ := fun k h1 h2 h3 =>
    ⟨rfl, rfl, fun i r hr => (by simp at hr), fun hb => (by simp only at hb; rw [hb] at h1; cases h1), h3.symm, fun _ => ⟨rfl, rfl⟩, fun _ _ _ hb => (by simp only at hb; rw [hb] at h2; cases h2), fun _ => .inl ⟨rfl, none, rfl⟩⟩
  have R1 := h.newEntry (w' := w) (b := ⟨.arr, T, 0, []⟩) (e := ⟨.slice none 0 0, 0, 0, 0, 0, []⟩) ⟨rfl, rfl, rfl, Nat.le_refl _, fun _ _ => rfl⟩ hk (hB .arr rfl rfl rfl) (fun g hg => by have := has_one rfl hg; simp [ob] at this)
  refine ⟨_, { R1 with
    dom := fun k => ?_
    blk := fun k b e h1 h2 => ?_
    defers := ?_ }⟩
  · have := R1.dom k
    simp only [F.setK] at this ⊢
    by_cases e' : k = dkey
    · simp [e']
    · simpa only [e', if_false] using this
  · simp only [F.setK] at h1
    by_cases hk' : k = dkey
    · rw [if_pos hk'] at h1 h2
      simp only [Option.some.injEq] at h1 h2
      subst h1 h2
      exact hB _ rfl rfl rfl
    · rw [if_neg hk'] at h1
      exact R1.blk k b e (by simp only [F.setK]; rw [if_neg hk']; exact h1) h2
  · simp only [F.setK, if_true]
    exact ⟨cs, hn, by simp only [hds], hl, fun i v c p q => (hv i v c p q).mono (fun _ _ => rfl) (fun _ h => h) (env_more hek)⟩

theorem deferOp_sim {o : Oper} {c : Go.Call} {s' : F} (ho : o.op = .defer c) (h : Gives (deferOp X.GL o c) s () s') (hR : Rel X env Z s a w) {K : Act → World → Prop} (hK : ∀ a' w', RelE X s' a' w' → K a' w') : o.wp P a w K Q := by
  unfold deferOp at h
  split at h
  · rename_i t hcal
    split at h
    · rename_i hemp
      obtain ⟨g, s2, h1, h2⟩ := h.bind
      obtain ⟨rfl, hg⟩ := evalO_sim h1 hR
      split at h2
      · rename_i f l
        have h3 := h2.getK
        cases hk : s2.key dkey with
        | some b => rw [hk] at h3; exact h3.fail
        | none =>
          rw [hk] at h3
          obtain ⟨hnk, h3⟩ := h3.assert
          have h4 := h3.setK
          generalize hx : a.eval (.tmp t) = fv at hg
          cases hg with
          | clo _ _ cs hl hh =>
            have hca : c.args = #[] := Array.isEmpty_iff.1 hemp
            have hrun : (execOp a.eval o).run P w = .ok (.defer { target := .fn (.func f) cs, args := #[] }) w := by
              unfold execOp
              simp only [ho, resolve, hcal, hx, Deferred.ofValue, Sem.run_bind, Sem.run_pure, Result.andThen_ok, hca, Array.map_empty, Array.append_empty]
            unfold Oper.wp
            rw [hrun, Oper.upon_defer]
            obtain ⟨env', R2⟩ := hR.putOff hk (f := f) (T := o.type) hnk hl hh
            exact hK _ _ ⟨env', Z, R2.putDst (.sc undef) h4⟩
      · exact h2.fail
    · exact h.fail
  · exact h.fail

theorem perform_sim (hT : TOk P TT) (hC : COk P X.GL C) (hF : ∀ f us bs r, (C f us bs).o = some r → FOk P f) {key0 : Nat} {o : Oper} {s' : F}
    (h : Gives (perform TT TU X.GL C ownF key0 o) s () s') (hR : Rel X env Z s a w) {K : Act → World → Prop} (hK : ∀ a' w', RelE X s' a' w' → K a' w') : o.wp P a w K Q := by
  unfold perform at h
  split at h
  · rename_i c ho
    exact deferOp_sim ho h hR hK
  obtain ⟨v, s1, h1, h2⟩ := h.bind
  have hO := doOp_sim hT hC hF h1 hR
  unfold Oper.wp
  generalize (execOp a.eval o).run P w = r at hO
  cases r with
  | ok n w' =>
    cases n with
    | value c =>
      obtain ⟨env', Z', q1, q2⟩ := hO
      exact hK _ _ ⟨env', Z', q1.putDst q2 h2⟩
    | skip =>
      obtain ⟨env', Z', q1, q2⟩ := hO
      exact hK _ _ ⟨env', Z', q1.putDst q2 h2⟩
    | enter f args =>
      refine Calls.mono hO fun e w'' ⟨c, he, env', Z', q1, q2⟩ => ?_
      subst he
      exact hK _ _ ⟨env', Z', q1.putDst q2 h2⟩
    | _ => exact hO.elim
  | halt x w' => exact hO.elim

theorem aop_sim (hT : TOk P TT) (hC : COk P X.GL C) (hF : ∀ f us bs r, (C f us bs).o = some r → FOk P f) {key0 : Nat} {o : Oper} {s' : F} {ops : Array Oper} {i : Nat} (hi : ops[i]? = some o)
    (h : Gives (aop TT TU X.GL C ownF ops key0 o) s () s') (hR : RelE X s a w) {K : Act → World → Prop} (hK : ∀ a' w', RelE X s' a' w' → K a' w') : wpOp P ops Q i K a w := by
  obtain ⟨env, Z, hR⟩ := hR
  unfold wpOp
  simp only [hi]
  unfold aop at h
  cases hg : o.guard with
  | none =>
    rw [hg] at h
    simp only [Region.wanted, hg, if_true]
    exact .inl (perform_sim hT hC hF h hR hK)
  | some jw =>
    obtain ⟨j, want⟩ := jw
    rw [hg] at h
    simp only at h
    cases hd : (ops[j]?).bind (·.dst) with
    | none => rw [hd] at h; exact h.fail
    | some d =>
      rw [hd] at h
      simp only at h
      have skip : ∀ {s' : F}, Gives (skipOp o) s () s' → RelE X s' (a.put o.dst undef) w := fun h2 => ⟨env, Z, hR.putDst (.sc undef) h2⟩
      have val : ∀ x, s.tmp d = .sc x → a.tmps[d]? = some x := fun x hx => by
        have hlt : d < s.N := by
          rcases Nat.lt_or_ge d s.N with h | h
          · exact h
          · rw [hR.tmpo d h] at hx; cases hx
        have := hR.tmps d hlt
        rw [hx] at this
        have hsz := hR.size
        have hlt' : d < a.tmps.size := by rw [hsz]; exact hlt
        generalize hc : a.tmps.getD d undef = c at this
        cases this
        simp [hlt'] at hc ⊢
        exact hc
      have yb : ∀ b, s.tmp d = .sc (.bool b) → yielded ops a.tmps j = some b := fun b hb => by
        simp only [yielded, hd, Option.bind_some, val _ hb]
      simp only [Region.wanted, hg]
      rcases h.br with ⟨h1, h2⟩ | ⟨h1, h2⟩ | ⟨h1, h2⟩
      · cases want with
        | true =>
          simp only [cond_true] at h2
          simp only [yb _ h1, beq_self_eq_true, if_true]
          exact .inl (perform_sim hT hC hF h2 hR hK)
        | false =>
          simp only [cond_false] at h2
          simp only [yb _ h1]
          exact hK _ _ (skip h2)
      · cases want with
        | false =>
          simp only [cond_false] at h2
          simp only [yb _ h1, beq_self_eq_true, if_true]
          exact .inl (perform_sim hT hC hF h2 hR hK)
        | true =>
          simp only [cond_true] at h2
          simp only [yb _ h1]
          exact hK _ _ (skip h2)
      · cases hn : notBool (s.tmp d) with
        | false => rw [hn] at h2; exact h2.fail
        | true =>
          rw [hn] at h2
          simp only [cond_true] at h2
          have hy : yielded ops a.tmps j = none := by
            cases hx : s.tmp d with
            | sc x =>
              simp only [yielded, hd, Option.bind_some, val x hx]
              cases x <;> first | rfl | exact absurd hx (h1 _)
            | _ => rw [hx] at hn; cases hn
          simp only [hy]
          exact hK _ _ (skip h2)

/-! ### The region's run on lists, as a run of steps -/

def opM (TT : TypeId → Option TI) (TU : TypeId → Option (List TypeId)) (GL : Nat → Option (List AVal)) (C : FuncId → List AVal → List Blk → Call) (ownF : FuncId → Bool) (ops : Array Oper) (id : Nat) (i : Nat) : AM Unit :=
  match ops[i]? with
  | some o => aop TT TU GL C ownF ops (keyAt id i o) o
  | none => .ret ()

/-- 'm' operations from 'i' on: the states and the logs. -/
theorem goOps_run {GL : Nat → Option (List AVal)} {ops : Array Oper} {id : Nat} : ∀ (rest : List Oper) (i : Nat) (logs : List (List Ev)) (s : St) (k : St → List (List Ev) → Option CR) (r : CR),
    (∀ j o, rest[j]? = some o → ops[i + j]? = some o) → goOps TT TU GL C ownF ops id rest i logs s k = some r →
    ∃ (st : Nat → F) (es : Nat → List Ev) (s' : St), st i = s.toF ∧ st (i + rest.length) = s'.toF ∧ s'.tmps.length = s.tmps.length ∧
      (∀ j, j < rest.length → (opM TT TU GL C ownF ops id (i + j)).trace (st (i + j)) = some ((), st (i + j + 1), es (i + j))) ∧
      k s' (((List.range rest.length).reverse.map fun j => (es (i + j)).reverse) ++ logs) = some r
  | [], i, logs, s, k, r, hrest, h => ⟨fun _ => s.toF, fun _ => [], s, rfl, rfl, rfl, fun j hj => by simp at hj, by simpa [goOps] using h⟩
  | o :: rest, i, logs, s, k, r, hrest, h => by
    simp only [goOps] at h
    obtain ⟨u, s1, es1, h1, h2, h3⟩ := run_trace _ _ _ _ _ h
    obtain ⟨st, es, s', q1, q2, q3, q4, q5⟩ := goOps_run rest (i + 1) _ s1 k r (fun j o' hj => by
      have := hrest (j + 1) o' (by simpa using hj)
      rw [show i + 1 + j = i + (j + 1) by omega]; exact this) h2
    have hlast : i + 1 + rest.length = i + (o :: rest).length := by simp; omega
    refine ⟨fun j => if j = i then s.toF else st j, fun j => if j = i then es1 else es j, s', if_pos rfl, ?_, by omega, ?_, ?_⟩
    · simp only
      rw [if_neg (by simp), ← hlast]; exact q2
    · intro j hj
      simp only
      cases j with
      | zero =>
        simp only [Nat.add_zero, if_true]
        rw [if_neg (by omega), q1]
        have h0 := hrest 0 o rfl
        simp only [Nat.add_zero] at h0
        simp only [opM, h0]
        exact h1
      | succ j =>
        rw [if_neg (by omega), if_neg (by omega), if_neg (by omega)]
        have := q4 j (by simpa using hj)
        rw [show i + (j + 1) = i + 1 + j by omega]
        exact this
    · have : (List.range (o :: rest).length).reverse.map (fun j => ((fun j => if j = i then es1 else es j) (i + j)).reverse) = (List.range rest.length).reverse.map (fun j => (es (i + 1 + j)).reverse) ++ [es1.reverse] := by
        rw [List.length_cons, List.range_succ_eq_map, List.reverse_cons, List.map_append, ← List.map_reverse, List.map_map]
        congr 1
        · apply List.map_congr_left
          intro j _
          simp only [Function.comp]
          rw [if_neg (by omega)]
          rw [show i + Nat.succ j = i + 1 + j by omega]
        · simp
      rw [this, List.append_assoc]
      simpa using q5

theorem range_wpOps {ops : Array Oper} (K : Nat → Act → World → Prop) {m : Nat} (hlast : ∀ a w, K m a w → Q .normal a w) (hstep : ∀ i, i < m → ∀ a w (k : Act → World → Prop), (∀ a w, K (i + 1) a w → k a w) → K i a w → wpOp P ops Q i k a w) :
    ∀ d i, i + d = m → ∀ a w, K i a w → wpOps P ops Q ((List.range m).drop i) a w := by
  intro d
  induction d with
  | zero =>
    intro i hi a w h
    have : i = m := by omega
    subst this
    simp only [List.drop_eq_nil_of_le (as := List.range i) (i := i) (by simp), wpOps]
    exact hlast _ _ h
  | succ d ih =>
    intro i hi a w h
    have hlt : i < (List.range m).length := by simp; omega
    rw [List.drop_eq_getElem_cons hlt, wpOps_cons]
    simp only [List.getElem_range]
    exact hstep i (by omega) a w _ (fun a w h => ih (i + 1) (by omega) a w h) h
end

end Go.Proofs.YteiniiakpdijmaaDoor.AI
