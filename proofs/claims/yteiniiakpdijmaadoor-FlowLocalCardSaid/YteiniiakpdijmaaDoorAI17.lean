/- A function's call. -/
import Derived.Test.YteiniiakpdijmaaDoorAI16
namespace Go.Proofs.YteiniiakpdijmaaDoor.AI
open Go.RowKit
set_option linter.unusedVariables false

section
variable {P : Program} {TT : TypeId → Option TI} {TU : TypeId → Option (List TypeId)} {X : Ctx} {env env' : Nat → Option Ent} {Z : Nat → Prop} {s s1 : F} {a : Act} {w : World} {n : Nat}
variable {C : FuncId → List AVal → List Blk → Call} {ownF : FuncId → Bool} {Q : Exit → Act → World → Prop}

/-- What is packed so far. -/
structure Packs (own : Bool) (env : Nat → Option Ent) (heap : List (Nat × Blk)) (news : List (Nat × Blk)) : Prop where
  look : ∀ (i k : Nat) (b : Blk), news[i]? = some (k, b) → lookK heap k = some b ∧ b.kind = .arr
  inj : ∀ (i j k : Nat) (b b' : Blk), news[i]? = some (k, b) → news[j]? = some (k, b') → i = j
  none : own = false → news = []

theorem envOf_more {env : Nat → Option Ent} {news more : List (Nat × Blk)} : ∀ k e, envOf env news k = some e → envOf env (news ++ more) k = some e := fun k e h => by
  simp only [envOf] at h ⊢
  have : k < news.length := by
    rcases Nat.lt_or_ge k news.length with h' | h'
    · exact h'
    · rw [List.getElem?_eq_none h'] at h; cases h
  rw [List.getElem?_append_left this]
  exact h

theorem VRel.envMore {v : AVal} {c : Value} {news more : List (Nat × Blk)} (h : VRel (envOf env news) Z w v c) : VRel (envOf env (news ++ more)) Z w v c :=
  h.mono (fun _ _ => rfl) (fun _ h => h) fun k e hk => ⟨e, envOf_more k e hk, Nat.le_refl _, fun _ => rfl⟩

/-- Blocks that may be told by their rows. -/
def Zout (own : Bool) (Z : Nat → Prop) (env : Nat → Option Ent) : Nat → Prop := fun g => Z g ∨ (own = false ∧ ∃ k e, env k = some e ∧ ob e.v = some g)

theorem lookK_none {h : List (Nat × Blk)} {k : Nat} (hn : (lookK h k).isSome = false) : ∀ (i : Nat) (b : Blk), h[i]? ≠ some (k, b) := by
  induction h with
  | nil => intro i b hi; simp at hi
  | cons p h ih =>
    obtain ⟨k', b'⟩ := p
    simp only [lookK] at hn
    by_cases e : k' = k
    · subst e; simp at hn
    · simp only [nbeq_ne e, cond_false] at hn
      intro i b hi
      cases i with
      | zero => simp at hi; exact e hi.1
      | succ i => exact ih hn i b (by simpa using hi)

theorem packC_sim {R : Type} {own : Bool} {st : St} (hR : Rel X env Z st.toF a w) {v : AVal} {c : Value} {news : List (Nat × Blk)} {k : AVal → List (Nat × Blk) → Option R} {r : R}
    (h : packC own st.heap v news k = some r) (hv : VRel env Z w v c) (hp : Packs own env st.heap news) :
    ∃ u more, k u (news ++ more) = some r ∧ VRel (envOf env (news ++ more)) (Zout own Z env) w u c ∧ Packs own env st.heap (news ++ more) := by
  unfold packC at h
  have hZ : ∀ g, Z g → Zout own Z env g := fun g hg => .inl hg
  have nil : ∀ {u : AVal}, k u news = some r → VRel (envOf env news) (Zout own Z env) w u c → ∃ u more, k u (news ++ more) = some r ∧ VRel (envOf env (news ++ more)) (Zout own Z env) w u c ∧ Packs own env st.heap (news ++ more) := fun {u} q1 q2 =>
    ⟨u, [], by simpa using q1, by simpa using q2, by simpa using hp⟩
  have later : ∀ {u : AVal}, VRel env Z w u c → flat u = true → VRel (envOf env news) (Zout own Z env) w u c := fun {u} hu hf => (hu.mono (fun _ _ => rfl) hZ fun k e hk => ⟨e, hk, Nat.le_refl _, fun _ => rfl⟩).anyEnv hf
  split at h
  · rename_i key m
    split at h
    · cases h
    · rename_i b hb
      cases hbox : (b.kind.isBox || b.kind.isD) with
      | true => rw [hbox] at h; cases h
      | false =>
        rw [hbox] at h
        simp only [cond_false] at h
        simp only [Bool.or_eq_false_iff] at hbox
        have hkb : b.kind.isBox = false := hbox.1
        cases hlen : verEq b.rows.length m with
        | false => rw [hlen] at h; cases h
        | true =>
          rw [hlen] at h
          simp only [cond_true] at h
          have hlm : b.rows.length = m := nbeq_eq hlen
          subst hlm
          obtain ⟨e, he, rfl, hB⟩ := hR.readArr hv hb rfl
          cases hown : (own && b.kind.isArr) with
          | false =>
            rw [hown] at h
            simp only [cond_false] at h
            refine nil h (((hB.asRo hkb (Z' := Zout own Z env) hZ fun g hg => ?_)).anyEnv rfl)
            cases own with
            | false => exact .inr ⟨rfl, key, e, he, hg⟩
            | true =>
              simp only [Bool.true_and] at hown
              have hfrz : b.kind = .frz := by
                cases hk : b.kind with
                | box => rw [hk] at hkb; cases hkb
                | ns => rw [hk] at hkb; cases hkb
                | arr => rw [hk] at hown; cases hown
                | frz => rfl
                | dfr f l => rw [hk] at hbox; cases hbox.2
              rcases hB.arr hkb with ⟨h0, ad, h1⟩ | ⟨g', cap, cs, h1, h2, h3, h4, h5, h6, h7, h8, h9⟩
              · rw [h1] at hg; cases ad <;> simp [ob] at hg
              · rw [h1] at hg
                simp only [ob] at hg
                rw [if_neg (by omega)] at hg
                simp only [Option.some.injEq] at hg
                subst hg
                exact .inl (h8 hfrz)
          | true =>
            rw [hown] at h
            simp only [cond_true] at h
            simp only [Bool.and_eq_true] at hown
            obtain ⟨rfl, hisarr⟩ := hown
            cases hc : (lookK news key).isSome with
            | true => rw [hc] at h; cases h
            | false =>
              rw [hc] at h
              simp only [cond_false] at h
              have harr : b.kind = .arr := by
                cases hk : b.kind <;> rw [hk] at hisarr <;> first | rfl | cases hisarr
              have hlook : envOf env (news ++ [(key, b)]) news.length = some e := by simp [envOf, he]
              refine ⟨_, [(key, b)], h, ?_, ?_, ?_, fun h => by cases h⟩
              · cases hv with
                | slc _ _ _ e' he' hle h1 hh =>
                  rw [he] at he'
                  simp only [Option.some.injEq] at he'
                  subst he'
                  exact .slc _ _ _ e hlook hle h1 fun _ => rfl
              · intro i k0 b0 hi
                rcases Nat.lt_or_ge i news.length with hlt | hge
                · rw [List.getElem?_append_left hlt] at hi; exact hp.look i k0 b0 hi
                · rw [List.getElem?_append_right hge] at hi
                  cases hd : i - news.length with
                  | zero =>
                    rw [hd] at hi
                    simp only [List.getElem?_cons_zero, Option.some.injEq, Prod.mk.injEq] at hi
                    obtain ⟨rfl, rfl⟩ := hi
                    exact ⟨hb, harr⟩
                  | succ d => rw [hd] at hi; simp at hi
              · have hno := lookK_none hc
                intro i j k0 b0 b1 hi hj
                rcases Nat.lt_or_ge i news.length with hlt | hge
                · rw [List.getElem?_append_left hlt] at hi
                  rcases Nat.lt_or_ge j news.length with hlt' | hge'
                  · rw [List.getElem?_append_left hlt'] at hj; exact hp.inj i j k0 b0 b1 hi hj
                  · rw [List.getElem?_append_right hge'] at hj
                    cases hd : j - news.length with
                    | zero =>
                      rw [hd] at hj
                      simp only [List.getElem?_cons_zero, Option.some.injEq, Prod.mk.injEq] at hj
                      obtain ⟨rfl, rfl⟩ := hj
                      exact absurd hi (hno i b0)
                    | succ d => rw [hd] at hj; simp at hj
                · rw [List.getElem?_append_right hge] at hi
                  cases hd : i - news.length with
                  | zero =>
                    rw [hd] at hi
                    simp only [List.getElem?_cons_zero, Option.some.injEq, Prod.mk.injEq] at hi
                    obtain ⟨rfl, rfl⟩ := hi
                    rcases Nat.lt_or_ge j news.length with hlt' | hge'
                    · rw [List.getElem?_append_left hlt'] at hj
                      exact absurd hj (hno j b1)
                    · rw [List.getElem?_append_right hge'] at hj
                      cases hd' : j - news.length with
                      | zero => omega
                      | succ d => rw [hd'] at hj; simp at hj
                  | succ d => rw [hd] at hi; simp at hi
  · exact nil h (by cases hv; exact .sc _)
  · exact nil h (by cases hv; exact .roE _ _ _)
  · exact nil h (later hv rfl)
  · rename_i f l
    cases hr : l.all isRp with
    | true =>
      rw [hr] at h
      exact nil h (later hv hr)
    | false => rw [hr] at h; cases h
  · cases h

theorem VRels.envMore {l : List AVal} {cs : List Value} {news more : List (Nat × Blk)} (h : VRels (envOf env news) Z w l cs) : VRels (envOf env (news ++ more)) Z w l cs :=
  ⟨h.1, fun i v c q1 q2 => (h.2 i v c q1 q2).envMore⟩

theorem packCs_sim {R : Type} {own : Bool} {st : St} (hR : Rel X env Z st.toF a w) {r : R} : ∀ (l : List AVal) (cs : List Value) (news : List (Nat × Blk)) (k : List AVal → List (Nat × Blk) → Option R),
    packCs own st.heap l news k = some r → VRels env Z w l cs → Packs own env st.heap news →
    ∃ us more, k us (news ++ more) = some r ∧ VRels (envOf env (news ++ more)) (Zout own Z env) w us cs ∧ Packs own env st.heap (news ++ more)
  | [], cs, news, k, h, hl, hp => by
    have hcs : cs = [] := hl.inv_nil
    subst hcs
    exact ⟨[], [], by simpa [packCs] using h, .nil, by simpa using hp⟩
  | v :: l, cs, news, k, h, hl, hp => by
    obtain ⟨c, ds, rfl, hc, hds⟩ := hl.inv
    simp only [packCs] at h
    obtain ⟨u, more, h1, h2, h3⟩ := packC_sim hR h hc hp
    obtain ⟨us, more', h4, h5, h6⟩ := packCs_sim hR l ds _ _ h1 hds h3
    exact ⟨u :: us, more ++ more', by rw [← List.append_assoc]; exact h4, .cons (by rw [← List.append_assoc]; exact h2.envMore) (by rw [← List.append_assoc]; exact h5), by rw [← List.append_assoc]; exact h6⟩

theorem packV_sim {R : Type} {own : Bool} {st : St} (hR : Rel X env Z st.toF a w) {v : AVal} {c : Value} {news : List (Nat × Blk)} {k : AVal → List (Nat × Blk) → Option R} {r : R}
    (h : packV own st.heap v news k = some r) (hv : VRel env Z w v c) (hp : Packs own env st.heap news) :
    ∃ u more, k u (news ++ more) = some r ∧ VRel (envOf env (news ++ more)) (Zout own Z env) w u c ∧ Packs own env st.heap (news ++ more) := by
  unfold packV at h
  split at h
  · rename_i l
    cases hv with
    | agg _ cs hl hh =>
      obtain ⟨us, more, h1, h2, h3⟩ := packCs_sim hR l cs.toList _ _ h ⟨by simpa using hl, fun i v c q1 q2 => hh i v c q1 (by simpa using q2)⟩ hp
      exact ⟨_, more, h1, .agg _ _ (by have := h2.1; simpa using this) fun i v c q1 q2 => h2.2 i v c q1 (by simpa using q2), h3⟩
  · exact packC_sim hR h hv hp

theorem packVs_sim {R : Type} {own : Bool} {st : St} (hR : Rel X env Z st.toF a w) {r : R} : ∀ (l : List AVal) (cs : List Value) (news : List (Nat × Blk)) (k : List AVal → List (Nat × Blk) → Option R),
    packVs own st.heap l news k = some r → VRels env Z w l cs → Packs own env st.heap news →
    ∃ us more, k us (news ++ more) = some r ∧ VRels (envOf env (news ++ more)) (Zout own Z env) w us cs ∧ Packs own env st.heap (news ++ more)
  | [], cs, news, k, h, hl, hp => by
    have hcs : cs = [] := hl.inv_nil
    subst hcs
    exact ⟨[], [], by simpa [packVs] using h, .nil, by simpa using hp⟩
  | v :: l, cs, news, k, h, hl, hp => by
    obtain ⟨c, ds, rfl, hc, hds⟩ := hl.inv
    simp only [packVs] at h
    obtain ⟨u, more, h1, h2, h3⟩ := packV_sim hR h hc hp
    obtain ⟨us, more', h4, h5, h6⟩ := packVs_sim hR l ds _ _ h1 hds h3
    exact ⟨u :: us, more ++ more', by rw [← List.append_assoc]; exact h4, .cons (by rw [← List.append_assoc]; exact h2.envMore) (by rw [← List.append_assoc]; exact h5), by rw [← List.append_assoc]; exact h6⟩

def resRun (tmps : Array Value) : ResultVar → Sem Value
  | .tmp t => pure (tmps.getD t undef)
  | .cell a t => do loadVar t (← asAddr (tmps.getD a undef))

theorem results_eq (fn : Func) (tmps : Array Value) : results fn tmps = (do
    let vs ← fn.results.mapM (resRun tmps)
    pure (if h : vs.size = 1 then vs[0] else .tuple vs)) := by
  unfold results
  congr 1

theorem run_res (tmps : Array Value) : ∀ (rs : List ResultVar) (w : World) (cs : List Value),
    (∀ (i : Nat) r, rs[i]? = some r → ∃ c, cs[i]? = some c ∧ (resRun tmps r).run P w = .ok c w) → cs.length = rs.length →
    (rs.mapM (resRun tmps)).run P w = .ok cs w
  | [], w, cs, h, hl => by
    have : cs = [] := List.length_eq_zero_iff.1 hl
    subst this; rfl
  | r :: rs, w, [], h, hl => by simp at hl
  | r :: rs, w, c :: cs, h, hl => by
    obtain ⟨c', hc', h0⟩ := h 0 r rfl
    simp only [List.getElem?_cons_zero, Option.some.injEq] at hc'
    subst hc'
    have ih := run_res tmps rs w cs (fun i r hr => by simpa using h (i + 1) r (by simpa using hr)) (by simpa using hl)
    rw [List.mapM_cons]
    simp only [Sem.run_bind, h0, Result.andThen_ok, ih, Sem.run_pure]

theorem resVars_sim (hT : TOk P TT) {st : St} (hR : Rel X env Z st.toF a w) {r : CR} : ∀ (rs : List ResultVar) (k : List AVal → Option CR), resVars TT st rs k = some r →
    ∃ vs cs, k vs = some r ∧ VRels env Z w vs cs ∧ cs.length = rs.length ∧
      (∀ (i : Nat) q, rs[i]? = some q → ∃ c, cs[i]? = some c ∧ (resRun a.tmps q).run P w = .ok c w)
  | [], k, h => ⟨[], [], h, .nil, rfl, fun i q hq => by simp at hq⟩
  | q :: rs, k, h => by
    simp only [resVars] at h
    have tmpv : ∀ t, VRel env Z w (st.tmps.getD t .dead) (a.tmps.getD t undef) := fun t => by
      rcases Nat.lt_or_ge t st.tmps.length with h' | h'
      · exact hR.tmps t h'
      · simp [List.getD, List.getElem?_eq_none h']; exact .dead _
    have one : ∃ v c, resVars TT st rs (fun vs => k (v :: vs)) = some r ∧ VRel env Z w v c ∧ (resRun a.tmps q).run P w = .ok c w := by
      unfold resVar at h
      split at h
      · rename_i t
        exact ⟨_, _, h, tmpv t, rfl⟩
      · rename_i t ty
        obtain ⟨v, s', es', h1, h2, h3⟩ := run_trace _ _ _ _ _ h
        obtain ⟨_, c, q1, q2⟩ := loadOp_sim hT ⟨_, h1⟩ hR (tmpv t)
        refine ⟨v, c, h2, q2, ?_⟩
        simp only [Instr.loadAt, Sem.run_bind, resRun] at q1 ⊢
        generalize a.tmps.getD t undef = x at q1 ⊢
        unfold Instr.sureAddr at q1
        split at q1
        · exact q1
        · simp only [stuck] at q1
          cases q1
    obtain ⟨v, c, h1, h2, h3⟩ := one
    obtain ⟨vs, cs, h4, h5, h6, h7⟩ := resVars_sim hT hR rs _ h1
    refine ⟨v :: vs, c :: cs, h4, .cons h2 h5, by simp [h6], fun i q' hq => ?_⟩
    cases i with
    | zero =>
      simp only [List.getElem?_cons_zero, Option.some.injEq] at hq
      subst hq
      exact ⟨c, rfl, h3⟩
    | succ i => exact h7 i q' (by simpa using hq)

theorem ownVs_sim {own : Bool} : ∀ (key : Nat) (ts : List TypeId) (vs : List AVal) (cs : List Value) (env : Nat → Option Ent) (s s1 : F) (us : List AVal), Gives (ownVs TT own key ts vs) s us s1 → Rel X env Z s a w → VRels env Z w vs cs →
    ∃ env1, Rel X env1 Z s1 a w ∧ VRels env1 Z w us cs ∧ (∀ l f, env l = some f → env1 l = some f)
  | key, t :: ts, v :: vs, cs, env, s, s1, us, h, hR, hv => by
    obtain ⟨c, ds, rfl, hc, hds⟩ := hv.inv
    simp only [ownVs] at h
    obtain ⟨u, s2, h1, h2⟩ := h.bind
    obtain ⟨q, s3, h3, h4⟩ := h2.bind
    obtain ⟨rfl, rfl⟩ := h4.ret
    obtain ⟨env1, r1, r2, r3⟩ := ownV_sim h1 hR hc
    obtain ⟨env2, q1, q2, q3⟩ := ownVs_sim u.2 ts vs ds env1 s2 _ q h3 r1 ⟨hds.1, fun i v c p1 p2 => (hds.2 i v c p1 p2).moreEnv r3⟩
    exact ⟨env2, q1, .cons (r2.moreEnv q3) q2, fun l f hl => q3 l f (r3 l f hl)⟩
  | key, [], vs, cs, env, s, s1, us, h, hR, hv => by
    have h' : Gives (.ret vs) s us s1 := by cases vs <;> exact h
    obtain ⟨rfl, rfl⟩ := h'.ret
    exact ⟨env, hR, hv, fun _ _ h => h⟩
  | key, t :: ts, [], cs, env, s, s1, us, h, hR, hv => by
    have h' : Gives (.ret ([] : List AVal)) s us s1 := h
    obtain ⟨rfl, rfl⟩ := h'.ret
    exact ⟨env, hR, hv, fun _ _ h => h⟩

/-- What a call may count on: no blocks handed over. -/
def X0 (GL : Nat → Option (List AVal)) (w : World) (Z0 : Nat → Prop) (hz : ∀ g, Z0 g → g < w.heap.size) (hg : ∀ g l, GL g = some l → VRel (fun _ => none) Z0 w (.rptr l) (.pointer (some ⟨g, 0, none⟩))) : Ctx :=
  ⟨w, Z0, fun _ => False, GL, fun _ => none, (fun _ _ h => by cases h), hz, fun _ _ h => h, hg⟩

theorem init_sim {GL : Nat → Option (List AVal)} {fn : Func} {args : List AVal}
    {w : World} {Z0 : Nat → Prop} {cs : Array Value} (hz : ∀ g, Z0 g → g < w.heap.size) (hg : ∀ g l, GL g = some l → VRel (fun _ => none) Z0 w (.rptr l) (.pointer (some ⟨g, 0, none⟩)))
    (ha : VRels (fun _ => none) Z0 w args cs.toList) :
    RelE (X0 GL w Z0 hz hg) (initSt fn args).toF { tmps := cs ++ Array.replicate (fn.ntmps - cs.size) undef, defers := [] } w := by
  have hlen : args.length = cs.size := by have := ha.1; simpa using this
  refine ⟨fun _ => none, Z0, ?_⟩
  exact
    { size := by simp [initSt, St.toF, hlen]
      tmps := fun t ht => by
        show VRel _ _ _ ((args ++ List.replicate (fn.ntmps - args.length) (AVal.sc undef)).getD t .dead) _
        rcases Nat.lt_or_ge t args.length with hlt | hge
        · have e1 : (args ++ List.replicate (fn.ntmps - args.length) (AVal.sc undef)).getD t .dead = args[t] := by simp [List.getD, List.getElem?_append_left hlt, hlt]
          have e2 : (cs ++ Array.replicate (fn.ntmps - cs.size) undef).getD t undef = cs[t]'(by omega) := by
            rw [Array.getD_eq_getD_getElem?, Array.getElem?_append_left (by omega)]
            simp [show t < cs.size by omega]
          rw [e1, e2]
          exact ha.2 t _ _ (by simp [hlt]) (by simp [show t < cs.size by omega])
        · have hlt' : t < args.length + (fn.ntmps - args.length) := by have : t < (args ++ List.replicate (fn.ntmps - args.length) (AVal.sc undef)).length := ht; simpa using this
          have e1 : (args ++ List.replicate (fn.ntmps - args.length) (AVal.sc undef)).getD t .dead = .sc undef := by
            simp only [List.getD, List.getElem?_append_right hge, List.getElem?_replicate]
            rw [if_pos (by omega)]; rfl
          have e2 : (cs ++ Array.replicate (fn.ntmps - cs.size) undef).getD t undef = undef := by
            rw [Array.getD_eq_getD_getElem?, Array.getElem?_append_right (by omega), Array.getElem?_replicate]
            split <;> rfl
          rw [e1, e2]
          exact .sc _
      tmpo := fun t ht => by
        show (args ++ List.replicate (fn.ntmps - args.length) (AVal.sc undef)).getD t .dead = .dead
        have ht' : (args ++ List.replicate (fn.ntmps - args.length) (AVal.sc undef)).length ≤ t := ht
        simp [List.getD, List.getElem?_eq_none ht']
      dom := fun k => rfl
      blk := fun k b e h1 h2 => by cases h2
      inj := fun k l e f g h1 => by cases h1
      own := fun k e g h1 => by cases h1
      zlt := hz
      z0 := fun _ h => h
      znew := fun _ h => .inl h
      os := rfl
      tape := rfl
      output := rfl
      grown := Nat.le_refl _
      keep := fun _ _ _ => rfl
      defers := rfl
      hand := fun _ _ h => by cases h }

theorem finish_sim {GL : Nat → Option (List AVal)} (hT : TOk P TT) {fn : Func} {own : Bool} {r : CR} {w : World} {Z0 : Nat → Prop} (hz : ∀ g, Z0 g → g < w.heap.size) (hg : ∀ g l, GL g = some l → VRel (fun _ => none) Z0 w (.rptr l) (.pointer (some ⟨g, 0, none⟩)))
    {s' : St} {a' : Act} {w' : World} (hR : RelE (X0 GL w Z0 hz hg) s'.toF a' w') (hfin : finish TT own fn s' = some r) :
    ∃ v, (results fn a'.tmps).run P w' = .ok v w' ∧ ∃ c env' Z', Ending.returned v = .returned c ∧ CallPost w Z0 r c w' env' Z' := by
  obtain ⟨env, Z, hR⟩ := hR
  unfold finish at hfin
  obtain ⟨vs, cs', h1, h2, h3, h4⟩ := resVars_sim hT hR _ _ hfin
  obtain ⟨vs1, s1, es1, g1, h1, _⟩ := run_trace _ _ _ _ _ h1
  obtain ⟨env1, hR1, h21, _⟩ := ownVs_sim (X := X0 GL w Z0 hz hg) 0 fn.resultTypes.toList vs cs' env _ _ vs1 ⟨_, g1⟩ hR h2
  obtain ⟨us, news, h5, h6, h7⟩ := packVs_sim (own := own) hR1 vs1 cs' [] _ h1 h21 ⟨fun i k b hi => by simp at hi, fun i j k b b' hi => by simp at hi, fun _ => rfl⟩
  simp only [List.nil_append] at h5 h6 h7
  have hmap := run_res (P := P) a'.tmps fn.results.toList w' cs' h4 h3
  have hres : (results fn a'.tmps).run P w' = .ok (if h : cs'.toArray.size = 1 then cs'.toArray[0] else .tuple cs'.toArray) w' := by
    rw [results_eq, Array.mapM_eq_mapM_toList, map_eq_pure_bind]
    simp only [Sem.run_bind, hmap]
    rfl
  replace hR := hR1
  refine ⟨_, hres, _, envOf env1 news, Zout own Z env1, rfl, ?_⟩
  have post : ∀ (u : AVal) (c : Value), r = ⟨true, u, [], news.map (·.2)⟩ → VRel (envOf env1 news) (Zout own Z env1) w' u c → CallPost w Z0 r c w' (envOf env1 news) (Zout own Z env1) := by
    intro u c hr hu
    subst hr
    have hzo : own = true → ∀ g, Zout own Z env1 g → Z g := fun ho g hg => hg.elim id fun h => by rw [ho] at h; cases h.1
    exact
      { res := hu
        news := fun i b hi => by
          simp only [List.getElem?_map] at hi
          cases hn : news[i]? with
          | none => rw [hn] at hi; cases hi
          | some p =>
            obtain ⟨k, b'⟩ := p
            rw [hn] at hi
            simp only [Option.map_some, Option.some.injEq] at hi
            subst hi
            obtain ⟨q1, q2⟩ := h7.look i k b' hn
            have hd := hR.dom k
            have hkey : s1.toF.key k = some b' := q1
            rw [hkey] at hd
            obtain ⟨e, he⟩ := Option.isSome_iff_exists.1 (by simpa using hd)
            have hB := hR.blk k b' e hkey he
            have hown : own = true := by
              cases own with
              | true => rfl
              | false =>
                rw [h7.none rfl] at hn
                simp at hn
            refine ⟨q2, e, by simp [envOf, hn, he], ?_⟩
            exact hB.mono (fun _ _ => rfl) (fun _ _ => rfl) (fun g hg => .inl hg) (fun g hg hnz hz => hnz (hzo hown g hz)) (fun k e hk => ⟨e, hk, Nat.le_refl _, fun _ => rfl⟩) |>.anyEnv (by rw [q2]; simp)
        inj := fun k l e f g h1 h2 h3 h4 => by
          simp only [envOf] at h1 h2
          cases hk : news[k]? with
          | none => rw [hk] at h1; cases h1
          | some p =>
            cases hl : news[l]? with
            | none => rw [hl] at h2; cases h2
            | some q =>
              obtain ⟨p1, p2⟩ := p
              obtain ⟨q1, q2⟩ := q
              rw [hk] at h1
              rw [hl] at h2
              have := hR.inj _ _ e f g h1 h2 h3 h4
              simp only at this
              subst this
              exact h7.inj k l p1 p2 q2 hk hl
        own := fun k e g h1 h2 => by
          simp only [envOf] at h1
          cases hk : news[k]? with
          | none => rw [hk] at h1; cases h1
          | some p =>
            rw [hk] at h1
            exact (hR.own _ e g h1 h2).resolve_right id
        z0 := fun g hg => .inl (hR.z0 g hg)
        znew := fun g hg => by
          rcases hg with hg | ⟨_, k, e, he, ho⟩
          · exact (hR.znew g hg).elim .inl fun h => .inr (h.resolve_right id)
          · exact .inr ((hR.own k e g he (.inl ho)).resolve_right id)
        zlt := fun g hg => by
          rcases hg with hg | ⟨_, k, e, he, ho⟩
          · exact hR.zlt g hg
          · exact hR.blt he (.inl ho)
        wider := ⟨hR.os, hR.tape, hR.output, hR.grown, fun g hg => hR.keep g hg id⟩ }
  have hlen := h6.1
  split at h5
  · rename_i u
    simp only [Option.some.injEq] at h5
    simp only [List.length_singleton] at hlen
    have h1 : cs'.toArray.size = 1 := by simp [← hlen]
    rw [dif_pos h1]
    exact post u _ h5.symm (h6.2 0 u _ rfl (by
      rw [List.getElem?_eq_getElem (by omega)]
      simp))
  · rename_i hne
    simp only [Option.some.injEq] at h5
    have h1 : ¬ cs'.toArray.size = 1 := by
      intro hc
      have hul : us.length = 1 := by simp at hc; omega
      match us, hul with
      | [u], _ => exact hne u rfl
    rw [dif_neg h1]
    exact post _ _ h5.symm (.tup _ _ (by simpa using hlen) fun i v c q1 q2 => h6.2 i v c q1 (by simpa using q2))

theorem noDfr_nil {s : St} (h : noDfr s = true) (hR : Rel X env Z s.toF a w) : a.defers = [] := hR.defers.nil fun b hb => by
  unfold noDfr at h
  have hb' : lookK s.heap dkey = some b := hb
  rw [hb'] at h
  simpa using h

theorem fcall_wp {GL : Nat → Option (List AVal)} (hm : P.follows .mixedOrders = true) (hT : TOk P TT) (hC : COk P GL C) (hF : ∀ f us bs r, (C f us bs).o = some r → FOk P f)
    {f : FuncId} {fn : Func} {own : Bool} {L : LT'} {args : List AVal} {r : CR} (hf : P.funcs[f]? = some fn) (hL : ∀ p ∈ loopsOf fn, LoopOk TT TU GL C ownF L p) (h : fcall TT TU GL C ownF own L fn args = some r) {c : Code} (hb : fn.body = some c)
    {w : World} {Z0 : Nat → Prop} {cs : Array Value} (hz : ∀ g, Z0 g → g < w.heap.size) (hg : ∀ g l, GL g = some l → VRel (fun _ => none) Z0 w (.rptr l) (.pointer (some ⟨g, 0, none⟩)))
    (ha : VRels (fun _ => none) Z0 w args cs.toList) :
    c.wp P (bodyPost P fn fun e w' => ∃ c env' Z', e = .returned c ∧ CallPost w Z0 r c w' env' Z') { tmps := cs ++ Array.replicate (fn.ntmps - cs.size) undef, defers := [] } w := by
  unfold fcall at h
  rw [hb] at h
  simp only at h
  refine execT_sim (X := X0 GL w Z0 hz hg) hm hT hC hF hb h hL (init_sim hz hg ha) fun e s' a' w' he hl hR => ?_
  have fin : (bif noDfr s' then finish TT own fn s' else none) = some r → a'.defers = [] ∧ ∃ v, (results fn a'.tmps).run P w' = .ok v w' ∧ ∃ c env' Z', Ending.returned v = .returned c ∧ CallPost w Z0 r c w' env' Z' := by
    intro hfin
    cases hd : noDfr s' with
    | false => rw [hd] at hfin; cases hfin
    | true =>
      rw [hd] at hfin
      obtain ⟨env, Z, hR'⟩ := hR
      exact ⟨noDfr_nil hd hR', finish_sim hT hz hg ⟨env, Z, hR'⟩ hfin⟩
  cases e with
  | normal => exact fin he
  | exit id => cases he
  | goto l => cases he
  | ret => exact fin he

/-- **A function's run is a call of it.** -/
theorem fcall_sim {GL : Nat → Option (List AVal)} (hm : P.follows .mixedOrders = true) (hT : TOk P TT) (hC : COk P GL C) (hF : ∀ f us bs r, (C f us bs).o = some r → FOk P f)
    {f : FuncId} {fn : Func} {own : Bool} {L : LT'} {args : List AVal} {r : CR} (hf : P.funcs[f]? = some fn) (hL : ∀ p ∈ loopsOf fn, LoopOk TT TU GL C ownF L p) (h : fcall TT TU GL C ownF own L fn args = some r)
    {w : World} {Z0 : Nat → Prop} {cs : Array Value} (hz : ∀ g, Z0 g → g < w.heap.size) (hg : ∀ g l, GL g = some l → VRel (fun _ => none) Z0 w (.rptr l) (.pointer (some ⟨g, 0, none⟩)))
    (ha : VRels (fun _ => none) Z0 w args cs.toList) : Calls P f cs w fun e w' => ∃ c env' Z', e = .returned c ∧ CallPost w Z0 r c w' env' Z' := by
  cases hb : fn.body with
  | none => unfold fcall at h; rw [hb] at h; cases h
  | some c => exact calls_of_wp hf hb (fcall_wp hm hT hC hF hf hL h hb hz hg ha)

/-- A call that was put off. -/
structure DOk (P : Program) (GL : Nat → Option (List AVal)) (f : FuncId) (RD : List AVal → Call) : Prop where
  fok : FOk P f
  run : ∀ us r, (RD us).o = some r → ∀ (w : World) (Z0 : Nat → Prop) (cs : Array Value), (∀ g, Z0 g → g < w.heap.size) →
    (∀ g l, GL g = some l → VRel (fun _ => none) Z0 w (.rptr l) (.pointer (some ⟨g, 0, none⟩))) → VRels (fun _ => none) Z0 w us cs.toList →
    ∀ u, CallsD P f cs u w fun e u' w' => u' = u ∧ ∃ c env' Z', e = .returned c ∧ CallPost w Z0 r c w' env' Z'

theorem dOk_of {GL : Nat → Option (List AVal)} (hm : P.follows .mixedOrders = true) (hT : TOk P TT) (hC : COk P GL C) (hF : ∀ f us bs r, (C f us bs).o = some r → FOk P f)
    {f : FuncId} {fn : Func} {own : Bool} {L : LT'} (hf : P.funcs[f]? = some fn) (hfok : FOk P f) (hL : ∀ p ∈ loopsOf fn, LoopOk TT TU GL C ownF L p) {S : List AVal → Call}
    (hS : ∀ us r, (S us).o = some r → ∃ us', (∀ (env : Nat → Option Ent) (Z : Nat → Prop) (w : World) (cs : List Value), VRels env Z w us cs → VRels env Z w us' cs) ∧ fcall TT TU GL C ownF own L fn us' = some ⟨true, r.res, [], r.news⟩) : DOk P GL f S :=
  ⟨hfok, fun us r h w Z0 cs hz hg ha u => by
    obtain ⟨us', h1, h2⟩ := hS us r h
    cases hb : fn.body with
    | none => unfold fcall at h2; rw [hb] at h2; cases h2
    | some c =>
      refine (callsD_of_wp hf hb (fcall_wp hm hT hC hF hf hL h2 hb hz hg (h1 _ _ _ _ ha))).mono ?_
      rintro e u' w' ⟨hu, c, env', Z', rfl, hP⟩
      exact ⟨hu, c, env', Z', rfl, ⟨hP.res, hP.news, hP.inj, hP.own, hP.z0, hP.znew, hP.zlt, hP.wider⟩⟩⟩

theorem fcallD_sim {GL : Nat → Option (List AVal)} (hm : P.follows .mixedOrders = true) (hT : TOk P TT) (hC : COk P GL C) (hF : ∀ f us bs r, (C f us bs).o = some r → FOk P f)
    {f : FuncId} {fn : Func} {own : Bool} {L : LT'} {args : List AVal} {r : CR} (hf : P.funcs[f]? = some fn) (hL : ∀ p ∈ loopsOf fn, LoopOk TT TU GL C ownF L p) {fD : FuncId} {RD : List AVal → Call} (hD : DOk P GL fD RD) (h : fcallD TT TU GL C ownF own L fD RD fn args = some r)
    {w : World} {Z0 : Nat → Prop} {cs : Array Value} (hz : ∀ g, Z0 g → g < w.heap.size) (hg : ∀ g l, GL g = some l → VRel (fun _ => none) Z0 w (.rptr l) (.pointer (some ⟨g, 0, none⟩)))
    (ha : VRels (fun _ => none) Z0 w args cs.toList) : Calls P f cs w fun e w' => ∃ c env' Z', e = .returned c ∧ CallPost w Z0 r c w' env' Z' := by
  cases hb : fn.body with
  | none => unfold fcallD at h; rw [hb] at h; cases h
  | some c =>
  refine calls_of_wp_defers hf hb ?_
  unfold fcallD at h
  rw [hb] at h
  simp only at h
  refine execT_sim (X := X0 GL w Z0 hz hg) hm hT hC hF hb h hL (init_sim hz hg ha) fun e s' a' w' he hl hR => ?_
  have fin : (match lookK s'.heap dkey with
      | none => finish TT own fn s'
      | some b => match b.kind with
        | .dfr g l => bif Nat.beq fD g then (snapCaps false l).run s' [] fun us s' _ => (RD us).q fun _ => finish TT own fn s' else none
        | _ => none) = some r → Leaves P fn a'.tmps (fun e w' => ∃ c env' Z', e = .returned c ∧ CallPost w Z0 r c w' env' Z') a'.defers .returning w' := by
    intro hfin
    obtain ⟨env, Z, hR'⟩ := hR
    have hds := hR'.defers
    have hkey : s'.toF.key dkey = lookK s'.heap dkey := rfl
    rw [hkey] at hds
    cases hk : lookK s'.heap dkey with
    | none =>
      rw [hk] at hds hfin
      have hds : a'.defers = [] := hds
      rw [hds]
      exact finish_sim hT hz hg ⟨env, Z, hR'⟩ hfin
    | some b =>
      rw [hk] at hds hfin
      simp only at hfin
      unfold DfrOk at hds
      simp only at hds
      generalize b.kind = kk at hds hfin
      cases kk with
      | dfr g l =>
        simp only at hfin
        obtain ⟨cs', hnk, hds, hl', hv⟩ := hds
        cases hfd : Nat.beq fD g with
        | false => rw [hfd] at hfin; cases hfin
        | true =>
          rw [hfd] at hfin
          simp only [cond_true] at hfin
          have hfd := nbeq_eq hfd
          subst hfd
          obtain ⟨us, s2, es, h1, h2, h3⟩ := run_trace _ _ _ _ _ hfin
          obtain ⟨⟨Zs, fz, hus⟩, hrp⟩ := snapCaps_sim l us cs'.toList s'.toF s2.toF Z ⟨_, h1⟩ hR' ⟨by simpa using hl', fun i v c q1 q2 => hv i v c q1 (by simpa using q2)⟩
          obtain ⟨r0, hrd, h2⟩ := (RD us).ok _ _ h2
          · have hzlt : ∀ g, Zs g → g < w'.heap.size := fun g hg => (fz.own g hg).elim (hR'.zlt g) fun ⟨k, e, he, ho⟩ => hR'.blt he (.inl ho)
            have hargs : VRels (fun _ => none) Zs w' us cs'.toList := ⟨hus.1, fun i u c q1 q2 => (hus.2 i u c q1 q2).anyEnv (isRp_flat (List.all_eq_true.1 hrp u (List.mem_of_getElem? q1)))⟩
            have hcall := hD.run us r0 hrd w' Zs cs' hzlt (fun g l hg => hR'.glob fz.more g l hg) hargs .returning
            rw [hds]
            obtain ⟨fn', hfn, hname, hbody⟩ := hD.fok
            refine ⟨by simp, _, _, fD, cs', rfl, ?_, hcall.mono ?_⟩
            · simp only [invoke, callFunc, Sem.run_bind, Sem.run_pure, Result.andThen_ok, run_program, hfn, hname, hbody, Bool.false_eq_true, if_false, Array.empty_append]
            · rintro e u' w'' ⟨rfl, c, env', Zc, rfl, hP⟩
              have hs2 : s2.toF = s'.toF := fz.same rfl
              have hR2 : Rel (X0 GL w Z0 hz hg) env Z s2.toF a' w'' := by
                rw [hs2]
                exact hR'.later hP.wider (fun _ h => h) (fun _ h => .inl h) fun g hg => Nat.lt_of_lt_of_le (hR'.zlt g hg) hP.wider.size
              exact finish_sim hT hz hg ⟨env, Z, hR2⟩ h2
      | _ => cases hfin
  cases e with
  | normal => exact fin he
  | exit id => cases he
  | goto l => cases he
  | ret => exact fin he

/-! ### A function's run on blocks that were handed over -/
theorem lookK_numK : ∀ (bs : List Blk) (i k : Nat), lookK (numK i bs) k = if i ≤ k then bs[k - i]? else none
  | [], i, k => by simp [numK, lookK]
  | b :: bs, i, k => by
    simp only [numK, lookK]
    by_cases e : i = k
    · subst e; simp
    · simp only [nbeq_ne e, cond_false]
      rw [lookK_numK bs (i + 1) k]
      by_cases h : i ≤ k
      · rw [if_pos h, if_pos (by omega), show k - i = (k - (i + 1)) + 1 by omega]
        simp
      · rw [if_neg h, if_neg (by omega)]
theorem lookK_num0 (bs : List Blk) (k : Nat) : lookK (numK 0 bs) k = bs[k]? := by
  rw [lookK_numK, if_pos (Nat.zero_le _), Nat.sub_zero]
theorem numK_length : ∀ (i : Nat) (bs : List Blk), (numK i bs).length = bs.length
  | i, [] => rfl
  | i, b :: bs => by simp [numK, numK_length (i + 1) bs]
theorem numK_get : ∀ (bs : List Blk) (i j : Nat) (b : Blk), bs[j]? = some b → (numK i bs)[j]? = some (i + j, b)
  | [], i, j, b, h => by simp at h
  | b0 :: bs, i, 0, b, h => by simp at h; subst h; rfl
  | b0 :: bs, i, j + 1, b, h => by
    have := numK_get bs (i + 1) j b (by simpa using h)
    simp only [numK, List.getElem?_cons_succ, this]
    congr 2
    omega

/-- The entries of the blocks that were handed over. -/
def envLo (m : Nat) (env : Nat → Option Ent) : Nat → Option Ent := fun i => if i < m then env i else none
theorem envLo_get {m : Nat} {k : Nat} {e : Ent} (h : envLo m env k = some e) : k < m ∧ env k = some e := by
  unfold envLo at h
  split at h
  · exact ⟨by assumption, h⟩
  · cases h
/-- Blocks that may be told by their rows. -/
def ZH (m : Nat) (Z : Nat → Prop) (env : Nat → Option Ent) : Nat → Prop := fun g => Z g ∨ ∃ k e, m ≤ k ∧ env k = some e ∧ ob e.v = some g

theorem packH_sim {R : Type} {m : Nat} {st : St} (hR : Rel X env Z st.toF a w) {v : AVal} {c : Value} {k : AVal → Option R} {r : R} (h : packH m st.heap v k = some r) (hv : VRel env Z w v c) :
    ∃ u, k u = some r ∧ VRel (envLo m env) (ZH m Z env) w u c ∧ cellOk u = true := by
  unfold packH at h
  have later : ∀ {u : AVal}, VRel env Z w u c → flat u = true → VRel (envLo m env) (ZH m Z env) w u c := fun {u} hu hf => (hu.mono (fun _ _ => rfl) (fun _ h => .inl h) fun k e hk => ⟨e, hk, Nat.le_refl _, fun _ => rfl⟩).anyEnv hf
  split at h
  · rename_i key n
    split at h
    · cases h
    · rename_i b hb
      cases hbox : (b.kind.isBox && !b.kind.isNs) with
      | true => rw [hbox] at h; cases h
      | false =>
        rw [hbox] at h
        simp only [cond_false] at h
        cases hlen : verEq b.rows.length n with
        | false => rw [hlen] at h; cases h
        | true =>
          rw [hlen] at h
          simp only [cond_true] at h
          have hlm : b.rows.length = n := nbeq_eq hlen
          subst hlm
          obtain ⟨e, he, rfl, hB⟩ := hR.readArr hv hb rfl
          cases hlt : Nat.blt key m with
          | true =>
            rw [hlt] at h
            simp only [cond_true] at h
            have hlt' := nblt hlt
            cases hv with
            | slc _ _ _ e' he' hle h1 hh =>
              rw [he] at he'
              simp only [Option.some.injEq] at he'
              subst he'
              exact ⟨_, h, .slc _ _ _ e (by simp only [envLo, hlt', if_true]; exact he) hle h1 fun _ => rfl, rfl⟩
          | false =>
            rw [hlt] at h
            simp only [cond_false] at h
            cases hkb : b.kind.isBox with
            | true => rw [hkb] at h; cases h
            | false =>
            rw [hkb] at h
            simp only [cond_false] at h
            have hge : m ≤ key := by
              rcases Nat.lt_or_ge key m with h' | h'
              · rw [nblt_of h'] at hlt; cases hlt
              · exact h'
            exact ⟨_, h, (hB.asRo hkb (Z' := ZH m Z env) (fun _ h => .inl h) fun g hg => .inr ⟨key, e, hge, he, hg⟩).anyEnv rfl, rfl⟩
  · rename_i x
    cases hx : oneC x with
    | false => rw [hx] at h; cases h
    | true =>
      rw [hx] at h
      exact ⟨_, h, by cases hv; exact .sc _, hx⟩
  · exact ⟨_, h, by cases hv; exact .roE _ _ _, rfl⟩
  · exact ⟨_, h, later hv rfl, rfl⟩
  · rename_i f l
    cases hr : l.all isRp with
    | false => rw [hr] at h; cases h
    | true =>
      rw [hr] at h
      exact ⟨_, h, later hv hr, flat_cellOk (v := .clo f l) hr⟩
  · cases h
theorem packHs_sim {R : Type} {m : Nat} {st : St} (hR : Rel X env Z st.toF a w) {r : R} : ∀ (l : List AVal) (cs : List Value) (k : List AVal → Option R), packHs m st.heap l k = some r → VRels env Z w l cs →
    ∃ us, k us = some r ∧ VRels (envLo m env) (ZH m Z env) w us cs ∧ us.all cellOk = true
  | [], cs, k, h, hl => by
    rw [hl.inv_nil]
    exact ⟨[], h, .nil, rfl⟩
  | v :: l, cs, k, h, hl => by
    obtain ⟨c, ds, rfl, hc, hds⟩ := hl.inv
    simp only [packHs] at h
    obtain ⟨u, h1, q1, q2⟩ := packH_sim hR h hc
    obtain ⟨us, h2, q3, q4⟩ := packHs_sim hR l ds _ h1 hds
    exact ⟨u :: us, h2, .cons q1 q3, by simp [q2, q4]⟩
theorem packHV_sim {R : Type} {m : Nat} {st : St} (hR : Rel X env Z st.toF a w) {v : AVal} {c : Value} {k : AVal → Option R} {r : R} (h : packHV m st.heap v k = some r) (hv : VRel env Z w v c) :
    ∃ u, k u = some r ∧ VRel (envLo m env) (ZH m Z env) w u c := by
  unfold packHV at h
  split at h
  · rename_i l
    cases hv with
    | agg _ cs hl hh =>
      obtain ⟨us, h1, h2, _⟩ := packHs_sim hR l cs.toList _ h ⟨by simpa using hl, fun i v c q1 q2 => hh i v c q1 (by simpa using q2)⟩
      exact ⟨_, h1, .agg _ _ (by simpa using h2.1) fun i v c q1 q2 => h2.2 i v c q1 (by simpa using q2)⟩
  · obtain ⟨u, h1, h2, _⟩ := packH_sim hR h hv
    exact ⟨u, h1, h2⟩
theorem packHVs_sim {R : Type} {m : Nat} {st : St} (hR : Rel X env Z st.toF a w) {r : R} : ∀ (l : List AVal) (cs : List Value) (k : List AVal → Option R), packHVs m st.heap l k = some r → VRels env Z w l cs →
    ∃ us, k us = some r ∧ VRels (envLo m env) (ZH m Z env) w us cs
  | [], cs, k, h, hl => by
    rw [hl.inv_nil]
    exact ⟨[], h, .nil⟩
  | v :: l, cs, k, h, hl => by
    obtain ⟨c, ds, rfl, hc, hds⟩ := hl.inv
    simp only [packHVs] at h
    obtain ⟨u, h1, q1⟩ := packHV_sim hR h hc
    obtain ⟨us, h2, q3⟩ := packHVs_sim hR l ds _ h1 hds
    exact ⟨u :: us, h2, .cons q1 q3⟩

theorem outBlk_sim {R : Type} {m : Nat} {st : St} (hR : Rel X env Z st.toF a w) {k : Nat} {b : Blk} {kk : List (List AVal) → Option R} {r0 : R} {e : Ent} (hk : k < m) (h : outBlk m st.heap k b kk = some r0) (he : env k = some e) :
    ∃ rows, kk rows = some r0 ∧ BRel (envLo m env) (ZH m Z env) w ⟨b.kind, b.T, b.E, rows⟩ e := by
  unfold outBlk at h
  split at h
  · cases h
  · rename_i b' hb'
    cases hc : (Nat.beq b'.T b.T && Nat.beq b'.E b.E) with
    | false => rw [hc] at h; cases h
    | true =>
      rw [hc] at h
      simp only [cond_true] at h
      simp only [Bool.and_eq_true] at hc
      have hT := nbeq_eq hc.1
      have hE := nbeq_eq hc.2
      have hB := hR.blk k b' e hb' he
      have hnz : ∀ g, e.has g → ¬ Z g → ¬ ZH m Z env g := fun g hg hnz hz => by
        rcases hz with hz | ⟨k', e', h1, h2, h3⟩
        · exact hnz hz
        · have := hR.inj k k' e e' g he h2 hg (.inl h3)
          omega
      split at h
      · rename_i hkb hkb'
        obtain ⟨g, cs, r, h1, h2, h3, h4, h5, h6⟩ := hB.box hkb'
        rw [h2] at h
        simp only at h
        · have hv : VRels env Z w r cs.toList := ⟨by simpa using h5, fun j v c q1 q2 => (h6 j v c q1 (by simpa using q2)).1⟩
          obtain ⟨u, hu, p1, p2⟩ := packHs_sim hR r cs.toList _ h hv
          have hlen : u.length = cs.size := by simpa using p1.1
          refine ⟨[u], hu, by rw [hB.hn, h2]; rfl, by rw [hB.hE, hE], fun i r' hr' => ?_, fun _ => ⟨g, cs, u, h1, rfl, by rw [← hT]; exact h3, hnz g (.inl (by rw [h1]; rfl)) h4, hlen, fun j v c hvj hcj => ⟨p1.2 j v c hvj (by simpa using hcj), List.all_eq_true.1 p2 v (List.mem_of_getElem? hvj), ?_⟩⟩, by rw [hB.hst, hkb, hkb'], fun _ => hB.plain (by rw [hkb']; rfl), fun st T E hn => (by simp only at hn; rw [hkb] at hn; cases hn), fun hn => (by simp only at hn; rw [hkb] at hn; cases hn)⟩
          · cases i with
            | zero =>
              simp only [List.getElem?_cons_zero, Option.some.injEq] at hr'
              subst hr'
              rw [hlen, ← h5, ← hE]
              exact hB.hlen 0 r (by rw [h2]; rfl)
            | succ i => simp at hr'
          · have hj : j < r.length := by rw [h5]; exact (Array.getElem?_eq_some_iff.1 hcj).1
            exact (h6 j r[j] c (by simp [hj]) hcj).2.2
      · rename_i hkb hkb'
        refine ⟨_, h, ?_⟩
        have hb2 : (⟨b.kind, b.T, b.E, b'.rows⟩ : Blk) = b' := by rw [hkb, ← hkb', ← hT, ← hE]
        rw [hb2]
        exact (hB.mono (fun _ _ => rfl) (fun _ _ => rfl) (fun _ h => .inl h) hnz (fun k e hk => ⟨e, hk, Nat.le_refl _, fun _ => rfl⟩)).anyEnv (by rw [hkb']; simp)
      · rename_i st0 T0 E0 st T' E' hkb hkb'
        cases hq : (Nat.beq st0 0 && Nat.beq st 0 && Nat.beq T' T0 && Nat.beq E' E0) with
        | false => rw [hq] at h; cases h
        | true =>
          rw [hq] at h
          simp only [cond_true] at h
          simp only [Bool.and_eq_true] at hq
          obtain ⟨⟨⟨q1, q2⟩, q3⟩, q4⟩ := hq
          have q1 := nbeq_eq q1
          have q2 := nbeq_eq q2
          have q3 := nbeq_eq q3
          have q4 := nbeq_eq q4
          subst q1 q2 q3 q4
          refine ⟨_, h, ?_⟩
          have hb2 : (⟨b.kind, b.T, b.E, b'.rows⟩ : Blk) = b' := by rw [hkb, ← hkb', ← hT, ← hE]
          rw [hb2]
          exact (hB.mono (fun _ _ => rfl) (fun _ _ => rfl) (fun _ h => .inl h) hnz (fun k e hk => ⟨e, hk, Nat.le_refl _, fun _ => rfl⟩)).anyEnv (by rw [hkb']; simp)
      · cases h
theorem outBlks_sim {R : Type} {m : Nat} {st : St} (hR : Rel X env Z st.toF a w) {r0 : R} : ∀ (l : List (Nat × Blk)) (kk : List (List (List AVal)) → Option R), outBlks m st.heap l kk = some r0 →
    (∀ (j k : Nat) (b : Blk), l[j]? = some (k, b) → k < m ∧ ∃ e, env k = some e) →
    ∃ os, kk os = some r0 ∧ os.length = l.length ∧ ∀ (j k : Nat) (b : Blk) (rows : List (List AVal)) (e : Ent), l[j]? = some (k, b) → os[j]? = some rows → env k = some e → BRel (envLo m env) (ZH m Z env) w ⟨b.kind, b.T, b.E, rows⟩ e
  | [], kk, h, hl => ⟨[], h, rfl, fun j k b rows e hj => by simp at hj⟩
  | (k0, b0) :: l, kk, h, hl => by
    simp only [outBlks] at h
    obtain ⟨hk, e0, he0⟩ := hl 0 k0 b0 rfl
    obtain ⟨rows, h1, h2⟩ := outBlk_sim hR hk h he0
    obtain ⟨os, h3, h4, h5⟩ := outBlks_sim hR l _ h1 fun j k b hj => hl (j + 1) k b (by simpa using hj)
    refine ⟨rows :: os, h3, by simp [h4], fun j k b rows' e hj hr he => ?_⟩
    cases j with
    | zero =>
      simp only [List.getElem?_cons_zero, Option.some.injEq, Prod.mk.injEq] at hj hr
      obtain ⟨rfl, rfl⟩ := hj
      subst hr
      rw [he0] at he
      simp only [Option.some.injEq] at he
      subst he
      exact h2
    | succ j => exact h5 j k b rows' e (by simpa using hj) (by simpa using hr) he

/-- **A function's run on blocks that were handed over is a call of it.** -/
theorem fcallH_sim {GL : Nat → Option (List AVal)} (hm : P.follows .mixedOrders = true) (hT : TOk P TT) (hC : COk P GL C) (hF : ∀ f us bs r, (C f us bs).o = some r → FOk P f)
    {f : FuncId} {fn : Func} {L : LT'} {args : List AVal} {bs : List Blk} {r : CR} (hf : P.funcs[f]? = some fn) (hL : ∀ p ∈ loopsOf fn, LoopOk TT TU GL C ownF L p) (h : fcallH TT TU GL C ownF L fn args (numK 0 bs) = some r) (hbs : bs.length ≤ 1000)
    {w : World} {Z0 : Nat → Prop} {env0 : Nat → Option Ent} {cs : Array Value} (hz : ∀ g, Z0 g → g < w.heap.size) (hg : ∀ g l, GL g = some l → VRel (fun _ => none) Z0 w (.rptr l) (.pointer (some ⟨g, 0, none⟩)))
    (hP : HandPre w Z0 env0 bs) (ha : VRels env0 Z0 w args cs.toList) : Calls P f cs w fun e w' => ∃ c env' Z', e = .returned c ∧ HandPost w Z0 env0 bs r c w' env' Z' := by
  unfold fcallH at h
  split at h
  · cases h
  · rename_i c hb
    have hbl : ∀ k e, env0 k = some e → ∃ b, bs[k]? = some b ∧ BRel env0 Z0 w b e ∧ (b.kind ≠ .frz ∧ b.kind.isD = false) := fun k e hk => by
      have hlt := hP.dom k e hk
      obtain ⟨e', h1, h2⟩ := hP.blk k bs[k] (by simp [hlt])
      rw [hk] at h1
      simp only [Option.some.injEq] at h1
      subst h1
      exact ⟨bs[k], by simp [hlt], h2, hP.kind k bs[k] (by simp [hlt])⟩
    let X : Ctx := ⟨w, Z0, ofEnv env0, GL, env0, fun k e hk => Nat.lt_of_lt_of_le (hP.dom k e hk) hbs, hz, fun g hzg ⟨k, e, h1, h2⟩ => by
      obtain ⟨b, _, h3, h4⟩ := hbl k e h1
      exact h3.notZ h4.1 h4.2 g h2 hzg, hg⟩
    refine calls_of_wp hf hb ?_
    have hlen : args.length = cs.size := by have := ha.1; simpa using this
    have hR0 : RelE X (initStH fn args (numK 0 bs)).toF { tmps := cs ++ Array.replicate (fn.ntmps - cs.size) undef, defers := [] } w := by
      refine ⟨env0, Z0, ?_⟩
      exact
        { size := by simp [initStH, St.toF, hlen]
          tmps := fun t ht => by
            show VRel _ _ _ ((args ++ List.replicate (fn.ntmps - args.length) (AVal.sc undef)).getD t .dead) _
            rcases Nat.lt_or_ge t args.length with hlt | hge
            · have e1 : (args ++ List.replicate (fn.ntmps - args.length) (AVal.sc undef)).getD t .dead = args[t] := by simp [List.getD, List.getElem?_append_left hlt, hlt]
              have e2 : (cs ++ Array.replicate (fn.ntmps - cs.size) undef).getD t undef = cs[t]'(by omega) := by
                rw [Array.getD_eq_getD_getElem?, Array.getElem?_append_left (by omega)]
                simp [show t < cs.size by omega]
              rw [e1, e2]
              exact ha.2 t _ _ (by simp [hlt]) (by simp [show t < cs.size by omega])
            · have hlt' : t < args.length + (fn.ntmps - args.length) := by have : t < (args ++ List.replicate (fn.ntmps - args.length) (AVal.sc undef)).length := ht; simpa using this
              have e1 : (args ++ List.replicate (fn.ntmps - args.length) (AVal.sc undef)).getD t .dead = .sc undef := by
                simp only [List.getD, List.getElem?_append_right hge, List.getElem?_replicate]
                rw [if_pos (by omega)]; rfl
              have e2 : (cs ++ Array.replicate (fn.ntmps - cs.size) undef).getD t undef = undef := by
                rw [Array.getD_eq_getD_getElem?, Array.getElem?_append_right (by omega), Array.getElem?_replicate]
                split <;> rfl
              rw [e1, e2]
              exact .sc _
          tmpo := fun t ht => by
            show (args ++ List.replicate (fn.ntmps - args.length) (AVal.sc undef)).getD t .dead = .dead
            have ht' : (args ++ List.replicate (fn.ntmps - args.length) (AVal.sc undef)).length ≤ t := ht
            simp [List.getD, List.getElem?_eq_none ht']
          dom := fun k => by
            show (env0 k).isSome = (lookK (numK 0 bs) k).isSome
            rw [lookK_num0]
            cases hk : env0 k with
            | some e =>
              obtain ⟨b, h1, _⟩ := hbl k e hk
              rw [h1]
              rfl
            | none =>
              cases hb : bs[k]? with
              | none => rfl
              | some b =>
                obtain ⟨e, h1, _⟩ := hP.blk k b hb
                rw [hk] at h1
                cases h1
          blk := fun k b e h1 h2 => by
            have h1' : lookK (numK 0 bs) k = some b := h1
            rw [lookK_num0] at h1'
            obtain ⟨e', h3, h4⟩ := hP.blk k b h1'
            rw [h2] at h3
            simp only [Option.some.injEq] at h3
            subst h3
            exact h4
          inj := hP.inj
          own := fun k e g h1 h2 => .inr ⟨k, e, h1, h2⟩
          zlt := hz
          z0 := fun _ h => h
          znew := fun _ h => .inl h
          os := rfl
          tape := rfl
          output := rfl
          grown := Nat.le_refl _
          keep := fun _ _ _ => rfl
          defers := by
            show DfrOk env0 Z0 w (lookK (numK 0 bs) dkey) []
            rw [lookK_num0]
            cases hb : bs[dkey]? with
            | none => rfl
            | some b => exact .of (hP.kind dkey b hb).2
          hand := fun k f hk => ⟨f, hk, Nat.le_refl _, fun _ => ⟨rfl, rfl⟩⟩ }
    refine execT_sim (X := X) hm hT hC hF hb h hL hR0 fun e s' a' w' he hl hR => ?_
    have fin : (bif noDfr s' then finishH TT fn (numK 0 bs) s' else none) = some r → a'.defers = [] ∧ ∃ v, (results fn a'.tmps).run P w' = .ok v w' ∧ ∃ c env' Z', Ending.returned v = .returned c ∧ HandPost w Z0 env0 bs r c w' env' Z' := by
      intro hfin
      obtain ⟨env, Z, hR⟩ := hR
      cases hd : noDfr s' with
      | false => rw [hd] at hfin; cases hfin
      | true =>
      rw [hd] at hfin
      simp only [cond_true] at hfin
      have hds := noDfr_nil hd hR
      unfold finishH at hfin
      obtain ⟨vs, cs', h1, h2, h3, h4⟩ := resVars_sim hT hR _ _ hfin
      have hmap := run_res (P := P) a'.tmps fn.results.toList w' cs' h4 h3
      have hres : (results fn a'.tmps).run P w' = .ok (if h : cs'.toArray.size = 1 then cs'.toArray[0] else .tuple cs'.toArray) w' := by
        rw [results_eq, Array.mapM_eq_mapM_toList, map_eq_pure_bind]
        simp only [Sem.run_bind, hmap]
        rfl
      rw [numK_length] at h1
      obtain ⟨us, h1, h6⟩ := packHVs_sim hR vs cs' _ h1 h2
      have hfs := outBlks_sim hR _ _ h1 fun j k b hj => by
        have hjl : j < bs.length := by
          have := (List.getElem?_eq_some_iff.1 hj).1
          rwa [numK_length] at this
        rw [numK_get bs 0 j bs[j] (by simp [hjl])] at hj
        simp only [Option.some.injEq, Prod.mk.injEq] at hj
        obtain ⟨rfl, rfl⟩ := hj
        obtain ⟨e0, he0, _⟩ := hP.blk (0 + j) bs[j] (by simp [hjl])
        obtain ⟨e, q1, _⟩ := hR.hand _ e0 he0
        exact ⟨by omega, e, q1⟩
      clear h1
      obtain ⟨os, h1, ho1, ho2⟩ := hfs
      · rw [numK_length] at ho1
        refine ⟨hds, _, hres, _, envLo bs.length env, ZH bs.length Z env, rfl, ?_⟩
        have post : ∀ (u : AVal) (c : Value), r = ⟨true, u, os, []⟩ → VRel (envLo bs.length env) (ZH bs.length Z env) w' u c → HandPost w Z0 env0 bs r c w' (envLo bs.length env) (ZH bs.length Z env) := by
          intro u c hr hu
          subst hr
          exact
            { res := hu
              len := ho1
              blk := fun i b rows hi hrows => by
                have hlt : i < bs.length := (List.getElem?_eq_some_iff.1 hi).1
                obtain ⟨e0, he0, _⟩ := hP.blk i b hi
                obtain ⟨e, q1, _⟩ := hR.hand i e0 he0
                have hout := ho2 i (0 + i) b rows e (numK_get bs 0 i b hi) hrows (by rw [Nat.zero_add]; exact q1)
                exact ⟨e, by simp only [envLo, hlt, if_true]; exact q1, hout⟩
              mono := fun i f hi => by
                obtain ⟨e, q1, q2, q3⟩ := hR.hand i f hi
                have hlt := hP.dom i f hi
                exact ⟨e, by simp only [envLo, hlt, if_true]; exact q1, q2, q3⟩
              dom := fun i e hi => (envLo_get hi).1
              inj := fun k l e f g h1 h2 h3 h4 => hR.inj k l e f g (envLo_get h1).2 (envLo_get h2).2 h3 h4
              own := fun k e g h1 h2 => hR.own k e g (envLo_get h1).2 h2
              z0 := fun g hg => .inl (hR.z0 g hg)
              znew := fun g hg => by
                rcases hg with hg | ⟨k, e, _, he, ho⟩
                · exact hR.znew g hg
                · exact .inr (hR.own k e g he (.inl ho))
              zlt := fun g hg => by
                rcases hg with hg | ⟨k, e, _, he, ho⟩
                · exact hR.zlt g hg
                · exact hR.blt he (.inl ho)
              os := hR.os
              tape := hR.tape
              output := hR.output
              size := hR.grown
              block := fun g h1 h2 => hR.keep g h1 h2 }
        have hlen := h6.1
        split at h1
        · rename_i u
          simp only [Option.some.injEq] at h1
          simp only [List.length_singleton] at hlen
          have h1' : cs'.toArray.size = 1 := by simp [← hlen]
          rw [dif_pos h1']
          exact post u _ h1.symm (h6.2 0 u _ rfl (by
            rw [List.getElem?_eq_getElem (by omega)]
            simp))
        · rename_i hne
          simp only [Option.some.injEq] at h1
          have h1' : ¬ cs'.toArray.size = 1 := by
            intro hc
            have hul : us.length = 1 := by simp at hc; omega
            match us, hul with
            | [u], _ => exact hne u rfl
          rw [dif_neg h1']
          exact post _ _ h1.symm (.tup _ _ (by simpa using hlen) fun i v c q1 q2 => h6.2 i v c q1 (by simpa using q2))
    cases e with
    | normal => exact fin he
    | exit id => cases he
    | goto l => cases he
    | ret => exact fin he
end

end Go.Proofs.YteiniiakpdijmaaDoor.AI
