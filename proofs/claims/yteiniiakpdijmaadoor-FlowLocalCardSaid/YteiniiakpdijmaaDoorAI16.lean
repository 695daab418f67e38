/- Code. -/
import Derived.Test.YteiniiakpdijmaaDoorAI15
import Derived.ScopeJumps
namespace Go.Proofs.YteiniiakpdijmaaDoor.AI
open Go.RowKit
set_option linter.unusedVariables false

section
variable {P : Program} {TT : TypeId → Option TI} {TU : TypeId → Option (List TypeId)} {X : Ctx} {env env' : Nat → Option Ent} {Z : Nat → Prop} {s s1 : F} {a : Act} {w : World} {n : Nat}
variable {C : FuncId → List AVal → List Blk → Call} {ownF : FuncId → Bool} {Q : Exit → Act → World → Prop}

theorem lookK_keepH (old : List (Nat × Blk)) (used : List Nat) (k : Nat) : ∀ h : List (Nat × Blk), lookK (keepH old used h) k = if (lookK old k).isSome || memN k used || Nat.blt k 1000 then lookK h k else none
  | [] => by simp [keepH, lookK]
  | (k', b) :: h => by
    have ih := lookK_keepH old used k h
    simp only [keepH]
    cases hk : ((lookK old k').isSome || memN k' used || Nat.blt k' 1000) with
    | true =>
      simp only [cond_true, lookK]
      by_cases e : k' = k
      · subst e; simp [hk]
      · simp only [nbeq_ne e, cond_false]; exact ih
    | false =>
      simp only [cond_false, lookK]
      by_cases e : k' = k
      · subst e; rw [ih]; simp [hk]
      · simp only [nbeq_ne e, cond_false]; exact ih

theorem nblt_of {a b : Nat} (h : a < b) : Nat.blt a b = true := by simp only [Nat.blt, Nat.ble_eq]; omega
theorem lookK_mem : ∀ {h : List (Nat × Blk)} {k : Nat} {b : Blk}, lookK h k = some b → (k, b) ∈ h
  | [], _, _, h => by cases h
  | (k', b') :: l, k, b, h => by
    simp only [lookK] at h
    by_cases e : k' = k
    · subst e
      simp at h
      subst h
      exact .head _
    · simp only [nbeq_ne e, cond_false] at h
      exact .tail _ (lookK_mem h)

theorem memN_iff {k : Nat} : ∀ {l : List Nat}, memN k l = true ↔ k ∈ l
  | [] => by simp [memN]
  | x :: l => by
    simp only [memN, Bool.or_eq_true, List.mem_cons, memN_iff (l := l)]
    constructor
    · rintro (h | h)
      · exact .inl (nbeq_eq h).symm
      · exact .inr h
    · rintro (rfl | h)
      · exact .inl (Nat.beq_refl k)
      · exact .inr h

theorem keepT_get : ∀ (os ns : List AVal) (t : Nat) (v : AVal), (keepT os ns)[t]? = some v → (v = .dead ∨ ns[t]? = some v) ∧ t < ns.length
  | [], ns, t, v, h => by simp [keepT] at h
  | o :: os, [], t, v, h => by simp [keepT] at h
  | o :: os, n :: ns, 0, v, h => by
    simp only [keepT, List.getElem?_cons_zero, Option.some.injEq] at h
    subst h
    refine ⟨?_, by simp⟩
    cases isDead o <;> simp
  | o :: os, n :: ns, t + 1, v, h => by
    simp only [keepT, List.getElem?_cons_succ] at h
    obtain ⟨h1, h2⟩ := keepT_get os ns t v h
    exact ⟨by simpa using h1, by simp; omega⟩
theorem keepT_length : ∀ (os ns : List AVal), os.length = ns.length → (keepT os ns).length = ns.length
  | [], [], _ => rfl
  | [], _ :: _, h => by simp at h
  | _ :: _, [], h => by simp at h
  | o :: os, n :: ns, h => by simp [keepT, keepT_length os ns (by simpa using h)]

theorem VRel.keepI {v : AVal} {c : Value} (h : VRel env Z w v c) (hs : okK v = true) (hk : ∀ k ∈ keysIn v, env' k = env k) : VRel env' Z w v c := by
  cases h with
  | slc k n c e he hle h1 h => exact .slc k n c e ((hk k (.head _)).trans he) hle h1 h
  | ref k n i j c e he hle h1 h => exact .ref k n i j c e ((hk k (.head _)).trans he) hle h1 h
  | dead c => exact .dead c
  | sc _ => exact .sc _
  | emp a => exact .emp a
  | roE E a cap => exact .roE E a cap
  | ro E rows b o cap f hcap hz hr hc h => exact (VRel.ro E rows b o cap f hcap hz hr hc h).anyEnv rfl
  | rptr l b o f hz hc h => exact (VRel.rptr l b o f hz hc h).anyEnv rfl
  | agg l cs hl h => cases hs
  | tup l cs hl h => cases hs
  | clo f l cs hl h => cases hs
  | inn => cases hs
  | ipt => cases hs
theorem VRel.keepC {v : AVal} {c : Value} (h : VRel env Z w v c) (hs : okC v = true) (hk : ∀ k ∈ keysC v, env' k = env k) : VRel env' Z w v c := by
  cases h with
  | clo f l cs hl h => exact .clo f l cs hl fun i v c h1 h2 => (h i v c h1 h2).keepI (List.all_eq_true.1 hs v (List.mem_of_getElem? h1)) fun k hkv => hk k (List.mem_flatMap.2 ⟨v, List.mem_of_getElem? h1, hkv⟩)
  | slc k n c e he hle h1 h => exact (VRel.slc k n c e he hle h1 h).keepI rfl hk
  | ref k n i j c e he hle h1 h => exact (VRel.ref k n i j c e he hle h1 h).keepI rfl hk
  | dead c => exact .dead c
  | sc _ => exact .sc _
  | emp a => exact .emp a
  | roE E a cap => exact .roE E a cap
  | ro E rows b o cap f hcap hz hr hc h => exact (VRel.ro E rows b o cap f hcap hz hr hc h).anyEnv rfl
  | rptr l b o f hz hc h => exact (VRel.rptr l b o f hz hc h).anyEnv rfl
  | agg l cs hl h => cases hs
  | tup l cs hl h => cases hs
  | inn => cases hs
  | ipt => cases hs
theorem VRel.keepT {v : AVal} {c : Value} (h : VRel env Z w v c) (hs : okT v = true) (hk : ∀ k ∈ keysT v, env' k = env k) : VRel env' Z w v c := by
  have other : okC v = true → (∀ k ∈ keysC v, env' k = env k) → VRel env' Z w v c := fun h1 h2 => h.keepC h1 h2
  cases v with
  | agg l =>
    cases h with
    | agg _ cs hl h => exact .agg _ _ hl fun i v c h1 h2 => (h i v c h1 h2).keepC (List.all_eq_true.1 hs v (List.mem_of_getElem? h1)) fun k hkv => hk k (List.mem_flatMap.2 ⟨v, List.mem_of_getElem? h1, hkv⟩)
  | tup l => cases hs
  | _ => exact other hs hk
theorem VRel.keepA {v : AVal} {c : Value} (h : VRel env Z w v c) (hs : okA v = true) (hk : ∀ k ∈ keysA v, env' k = env k) : VRel env' Z w v c := by
  have other : okT v = true → (∀ k ∈ keysT v, env' k = env k) → VRel env' Z w v c := fun h1 h2 => h.keepT h1 h2
  cases v with
  | tup l =>
    cases h with
    | tup _ cs hl h => exact .tup _ _ hl fun i v c h1 h2 => (h i v c h1 h2).keepT (List.all_eq_true.1 hs v (List.mem_of_getElem? h1)) fun k hkv => hk k (List.mem_flatMap.2 ⟨v, List.mem_of_getElem? h1, hkv⟩)
  | _ => exact other hs hk
theorem forget_sim {R : Type} {s s' : St} {k : St → Option R} {r : R} (h : forget s s' k = some r) (hR : RelE X s'.toF a w) :
    ∃ u, k u = some r ∧ u.tmps.length = s'.tmps.length ∧ RelE X u.toF a w := by
  unfold forget at h
  simp only at h
  generalize hts : keepT s.tmps s'.tmps = ts at h
  generalize hh : keepH s.heap (ts.flatMap keysA) s'.heap = hp at h
  cases hc : (ts.all okA && Nat.beq s.tmps.length s'.tmps.length && hp.all fun p => boxOk hp p.2) with
  | false => rw [hc] at h; cases h
  | true =>
    rw [hc] at h
    simp only [cond_true] at h
    simp only [Bool.and_eq_true] at hc
    obtain ⟨⟨hc1, hc2⟩, hc3⟩ := hc
    have hlen := nbeq_eq hc2
    have htl : ts.length = s'.tmps.length := by rw [← hts]; exact keepT_length _ _ hlen
    refine ⟨⟨ts, hp⟩, h, htl, ?_⟩
    obtain ⟨env, Z, hR⟩ := hR
    have hlook : ∀ k b, lookK hp k = some b → lookK s'.heap k = some b := fun k b hk => by
      rw [← hh, lookK_keepH] at hk
      split at hk
      · exact hk
      · cases hk
    have hused : ∀ k, k ∈ ts.flatMap keysA → lookK hp k = lookK s'.heap k := fun k hk => by
      rw [← hh, lookK_keepH]
      simp [memN_iff.2 hk]
    have hlo : ∀ k, k < 1000 → lookK hp k = lookK s'.heap k := fun k hk => by
      rw [← hh, lookK_keepH]
      simp [nblt_of hk]
    let env' : Nat → Option Ent := fun k => if (lookK hp k).isSome then env k else none
    have henv : ∀ k e, env' k = some e → env k = some e := fun k e hk => by
      simp only [env'] at hk
      split at hk
      · exact hk
      · cases hk
    have hin : ∀ k, (lookK hp k).isSome = true → env' k = env k := fun k hk => by simp only [env', hk, if_true]
    have hdomk : ∀ k, lookK s'.heap k = none → env k = none := fun k hk => by
      have := hR.dom k
      have h2 : s'.toF.key k = none := hk
      rw [h2] at this
      simpa using this
    have hkeep : ∀ k, k ∈ ts.flatMap keysA → env' k = env k := fun k hk => by
      cases hl : lookK hp k with
      | some b => exact hin k (by rw [hl]; rfl)
      | none =>
        have := hdomk k (by rw [← hused k hk]; exact hl)
        simp only [env', hl, Option.isSome_none, Bool.false_eq_true, if_false, this]
    have hsz := hR.size
    have hDef : DfrOk env' Z w (lookK hp dkey) a.defers := by
      have hD : DfrOk env Z w (lookK s'.heap dkey) a.defers := hR.defers
      have h9 := hlo dkey (by decide)
      cases hk : lookK s'.heap dkey with
      | none => rw [h9, hk]; rw [hk] at hD; exact hD
      | some b =>
        rw [h9, hk]
        rw [hk] at hD
        have hck := List.all_eq_true.1 hc3 (dkey, b) (lookK_mem (by rw [h9]; exact hk))
        unfold DfrOk at hD ⊢
        simp only at hD ⊢
        simp only [boxOk] at hck
        generalize hkk : b.kind = kk at hD hck ⊢
        cases kk with
        | dfr f l =>
          obtain ⟨cs, h0, h1, h2, h3⟩ := hD
          refine ⟨cs, h0, h1, h2, fun i v c p q => ?_⟩
          simp only [BKind.isBx, cond_false, BKind.dl, List.all_eq_true, Bool.or_eq_true, Bool.and_eq_true] at hck
          rcases hck v (List.mem_of_getElem? p) with hfl | hks
          · exact (h3 i v c p q).anyEnv hfl
          · exact (h3 i v c p q).keepC hks.1 fun k hk => hin k (hks.2 k hk)
        | _ => exact hD
    refine ⟨env', Z, ?_⟩
    exact
      { size := by show a.tmps.size = ts.length; rw [htl]; exact hsz
        tmps := fun t ht => by
          have ht' : t < ts.length := ht
          have hv : ts[t]? = some (ts.getD t .dead) := by simp [List.getD, ht']
          show VRel env' Z w (ts.getD t .dead) _
          generalize ts.getD t .dead = v at hv
          obtain ⟨h1, h2⟩ := keepT_get s.tmps s'.tmps t v (by rw [hts]; exact hv)
          rcases h1 with rfl | h1
          · exact .dead _
          · have h3 := hR.tmps t h2
            have h4 : s'.toF.tmp t = v := by show s'.tmps.getD t .dead = v; simp [List.getD, h1]
            rw [h4] at h3
            refine h3.keepA (List.all_eq_true.1 hc1 v (List.mem_of_getElem? hv)) fun k hk => hkeep k ?_
            exact List.mem_flatMap.2 ⟨v, List.mem_of_getElem? hv, hk⟩
        tmpo := fun t ht => by
          have ht' : ts.length ≤ t := ht
          show ts.getD t .dead = .dead
          simp [List.getD, List.getElem?_eq_none ht']
        dom := fun k => by
          show (env' k).isSome = (lookK hp k).isSome
          cases hl : lookK hp k with
          | some b =>
            rw [hin k (by rw [hl]; rfl)]
            have := hR.dom k
            have h2 : s'.toF.key k = some b := hlook k b hl
            rw [h2] at this
            exact this
          | none => simp only [env', hl, Option.isSome_none, Bool.false_eq_true, if_false]
        blk := fun k b e h1 h2 => by
          have h1' : lookK hp k = some b := h1
          have hB := hR.blk k b e (hlook k b h1') (henv k e h2)
          by_cases hb : b.kind = .box
          · refine ⟨hB.hn, hB.hE, hB.hlen, fun _ => ?_, hB.hst, hB.plain, fun st T E hn => (by rw [hb] at hn; cases hn), fun hn => (by rw [hb] at hn; cases hn)⟩
            obtain ⟨g, cs, r, q1, q2, q3, q4, q5, q6⟩ := hB.box hb
            refine ⟨g, cs, r, q1, q2, q3, q4, q5, fun j v c hv hcv => ⟨?_, (q6 j v c hv hcv).2⟩⟩
            have hck := List.all_eq_true.1 hc3 (k, b) (lookK_mem h1')
            have hbox : b.kind.isBx = true := by rw [hb]; rfl
            simp only [boxOk, hbox, cond_true, q2, List.all_cons, List.all_nil, Bool.and_true, List.all_eq_true, Bool.or_eq_true, Bool.and_eq_true] at hck
            rcases hck v (List.mem_of_getElem? hv) with hfl | hks
            · exact (q6 j v c hv hcv).1.anyEnv hfl
            · exact (q6 j v c hv hcv).1.keepC hks.1 fun k hk => hin k (hks.2 k hk)
          · exact (hR.blk k b e (hlook k b h1') (henv k e h2)).anyEnv hb
        inj := fun k l e f g h1 h2 => hR.inj k l e f g (henv k e h1) (henv l f h2)
        own := fun k e g h1 => hR.own k e g (henv k e h1)
        zlt := hR.zlt
        z0 := hR.z0
        znew := hR.znew
        os := hR.os
        tape := hR.tape
        output := hR.output
        grown := hR.grown
        keep := hR.keep
        defers := hDef
        hand := fun k f hk => by
          obtain ⟨e, h1, h2, h3⟩ := hR.hand k f hk
          refine ⟨e, ?_, h2, h3⟩
          cases hl : lookK hp k with
          | some b => rw [hin k (by rw [hl]; rfl)]; exact h1
          | none =>
            rw [hlo k (X.hlo k f hk)] at hl
            rw [hdomk k hl] at h1
            cases h1 }

theorem maskT_get : ∀ (m : List Bool) (l : List AVal) (t : Nat), (maskT m l).getD t .dead = l.getD t .dead ∨ (maskT m l).getD t .dead = .dead
  | [], l, t => .inl (by cases l <;> rfl)
  | b :: m, [], t => .inl rfl
  | b :: m, v :: l, 0 => by
    simp only [maskT, List.getD_cons_zero]
    cases b with
    | true => exact .inl rfl
    | false => exact .inr rfl
  | b :: m, v :: l, t + 1 => by simpa [maskT] using maskT_get m l t
theorem maskT_length : ∀ (m : List Bool) (l : List AVal), (maskT m l).length = l.length
  | [], l => by cases l <;> rfl
  | b :: m, [] => rfl
  | b :: m, v :: l => by simp [maskT, maskT_length m l]

theorem maskS0_sim (m : List Bool) {s : St} (hR : RelE X s.toF a w) : RelE X (maskS0 m s).toF a w := by
  obtain ⟨env, Z, hR⟩ := hR
  have hl := maskT_length m s.tmps
  refine ⟨env, Z, { hR with
    size := by show a.tmps.size = (maskT m s.tmps).length; rw [hl]; exact hR.size
    tmps := fun t ht => ?_
    tmpo := fun t ht => ?_
    dom := hR.dom
    blk := hR.blk
    defers := hR.defers }⟩
  · have ht' : t < s.tmps.length := by rw [← hl]; exact ht
    show VRel env Z w ((maskT m s.tmps).getD t .dead) _
    rcases maskT_get m s.tmps t with h | h
    · rw [h]; exact hR.tmps t ht'
    · rw [h]; exact .dead _
  · show (maskT m s.tmps).getD t .dead = .dead
    have ht' : (maskT m s.tmps).length ≤ t := ht
    simp [List.getD, List.getElem?_eq_none ht']

theorem lookK_keepU (used : List Nat) (k : Nat) : ∀ h : List (Nat × Blk), lookK (keepU used h) k = if memN k used || Nat.blt k 1000 then lookK h k else none
  | [] => by simp [keepU, lookK]
  | (k', b) :: h => by
    have ih := lookK_keepU used k h
    simp only [keepU]
    cases hk : (memN k' used || Nat.blt k' 1000) with
    | true =>
      simp only [cond_true, lookK]
      by_cases e : k' = k
      · subst e; simp [hk]
      · simp only [nbeq_ne e, cond_false]; exact ih
    | false =>
      simp only [cond_false, lookK]
      by_cases e : k' = k
      · subst e; rw [ih]; simp [hk]
      · simp only [nbeq_ne e, cond_false]; exact ih
theorem tidy_tmps (s : St) : (tidy s).tmps = s.tmps := by
  unfold tidy
  cases s.tmps.all okA && (keepU (usedK s) s.heap).all (fun p => boxOk (keepU (usedK s) s.heap) p.2) <;> rfl
theorem tidy_sim {s : St} (hR : RelE X s.toF a w) : RelE X (tidy s).toF a w := by
  unfold tidy
  cases hc : s.tmps.all okA && (keepU (usedK s) s.heap).all (fun p => boxOk (keepU (usedK s) s.heap) p.2) with
  | false => exact hR
  | true =>
    simp only [cond_true]
    simp only [Bool.and_eq_true] at hc
    obtain ⟨hc1, hc3⟩ := hc
    obtain ⟨env, Z, hR⟩ := hR
    have hus : ∀ k ∈ s.tmps.flatMap keysA, k ∈ usedK s := fun k hk => by
      unfold usedK
      exact List.mem_append_left _ (List.mem_append_left _ hk)
    generalize usedK s = used at *
    generalize hh : keepU used s.heap = hp at *
    have hlook : ∀ k b, lookK hp k = some b → lookK s.heap k = some b := fun k b hk => by
      rw [← hh, lookK_keepU] at hk
      split at hk
      · exact hk
      · cases hk
    have hused : ∀ k, k ∈ used → lookK hp k = lookK s.heap k := fun k hk => by
      rw [← hh, lookK_keepU]
      simp [memN_iff.2 hk]
    have hlo : ∀ k, k < 1000 → lookK hp k = lookK s.heap k := fun k hk => by
      rw [← hh, lookK_keepU]
      simp [nblt_of hk]
    let env' : Nat → Option Ent := fun k => if (lookK hp k).isSome then env k else none
    have henv : ∀ k e, env' k = some e → env k = some e := fun k e hk => by
      simp only [env'] at hk
      split at hk
      · exact hk
      · cases hk
    have hin : ∀ k, (lookK hp k).isSome = true → env' k = env k := fun k hk => by simp only [env', hk, if_true]
    have hdomk : ∀ k, lookK s.heap k = none → env k = none := fun k hk => by
      have := hR.dom k
      have h2 : s.toF.key k = none := hk
      rw [h2] at this
      simpa using this
    have hkeep : ∀ k, k ∈ used → env' k = env k := fun k hk => by
      cases hl : lookK hp k with
      | some b => exact hin k (by rw [hl]; rfl)
      | none =>
        have := hdomk k (by rw [← hused k hk]; exact hl)
        simp only [env', hl, Option.isSome_none, Bool.false_eq_true, if_false, this]
    have hDef : DfrOk env' Z w (lookK hp dkey) a.defers := by
      have hD : DfrOk env Z w (lookK s.heap dkey) a.defers := hR.defers
      have h9 := hlo dkey (by decide)
      cases hk : lookK s.heap dkey with
      | none => rw [h9, hk]; rw [hk] at hD; exact hD
      | some b =>
        rw [h9, hk]
        rw [hk] at hD
        have hck := List.all_eq_true.1 hc3 (dkey, b) (lookK_mem (by rw [h9]; exact hk))
        unfold DfrOk at hD ⊢
        simp only at hD ⊢
        simp only [boxOk] at hck
        generalize hkk : b.kind = kk at hD hck ⊢
        cases kk with
        | dfr f l =>
          obtain ⟨cs, h0, h1, h2, h3⟩ := hD
          refine ⟨cs, h0, h1, h2, fun i v c p q => ?_⟩
          simp only [BKind.isBx, cond_false, BKind.dl, List.all_eq_true, Bool.or_eq_true, Bool.and_eq_true] at hck
          rcases hck v (List.mem_of_getElem? p) with hfl | hks
          · exact (h3 i v c p q).anyEnv hfl
          · exact (h3 i v c p q).keepC hks.1 fun k hk => hin k (hks.2 k hk)
        | _ => exact hD
    refine ⟨env', Z, ?_⟩
    exact
      { size := hR.size
        tmps := fun t ht => by
          have ht' : t < s.tmps.length := ht
          have hv : s.tmps[t]? = some (s.tmps.getD t .dead) := by simp [List.getD, ht']
          show VRel env' Z w (s.tmps.getD t .dead) _
          have h3 := hR.tmps t ht
          have h4 : s.toF.tmp t = s.tmps.getD t .dead := rfl
          rw [h4] at h3
          refine h3.keepA (List.all_eq_true.1 hc1 _ (List.mem_of_getElem? hv)) fun k hk => hkeep k (hus k ?_)
          exact List.mem_flatMap.2 ⟨_, List.mem_of_getElem? hv, hk⟩
        tmpo := hR.tmpo
        dom := fun k => by
          show (env' k).isSome = (lookK hp k).isSome
          cases hl : lookK hp k with
          | some b =>
            rw [hin k (by rw [hl]; rfl)]
            have := hR.dom k
            have h2 : s.toF.key k = some b := hlook k b hl
            rw [h2] at this
            exact this
          | none => simp only [env', hl, Option.isSome_none, Bool.false_eq_true, if_false]
        blk := fun k b e h1 h2 => by
          have h1' : lookK hp k = some b := h1
          have hB := hR.blk k b e (hlook k b h1') (henv k e h2)
          by_cases hb : b.kind = .box
          · refine ⟨hB.hn, hB.hE, hB.hlen, fun _ => ?_, hB.hst, hB.plain, fun st T E hn => (by rw [hb] at hn; cases hn), fun hn => (by rw [hb] at hn; cases hn)⟩
            obtain ⟨g, cs, r, q1, q2, q3, q4, q5, q6⟩ := hB.box hb
            refine ⟨g, cs, r, q1, q2, q3, q4, q5, fun j v c hv hcv => ⟨?_, (q6 j v c hv hcv).2⟩⟩
            have hck := List.all_eq_true.1 hc3 (k, b) (lookK_mem h1')
            have hbox : b.kind.isBx = true := by rw [hb]; rfl
            simp only [boxOk, hbox, cond_true, q2, List.all_cons, List.all_nil, Bool.and_true, List.all_eq_true, Bool.or_eq_true, Bool.and_eq_true] at hck
            rcases hck v (List.mem_of_getElem? hv) with hfl | hks
            · exact (q6 j v c hv hcv).1.anyEnv hfl
            · exact (q6 j v c hv hcv).1.keepC hks.1 fun k hk => hin k (hks.2 k hk)
          · exact (hR.blk k b e (hlook k b h1') (henv k e h2)).anyEnv hb
        inj := fun k l e f g h1 h2 => hR.inj k l e f g (henv k e h1) (henv l f h2)
        own := fun k e g h1 => hR.own k e g (henv k e h1)
        zlt := hR.zlt
        z0 := hR.z0
        znew := hR.znew
        os := hR.os
        tape := hR.tape
        output := hR.output
        grown := hR.grown
        keep := hR.keep
        defers := hDef
        hand := fun k f hk => by
          obtain ⟨e, h1, h2, h3⟩ := hR.hand k f hk
          refine ⟨e, ?_, h2, h3⟩
          cases hl : lookK hp k with
          | some b => rw [hin k (by rw [hl]; rfl)]; exact h1
          | none =>
            rw [hlo k (X.hlo k f hk)] at hl
            rw [hdomk k hl] at h1
            cases h1 }
theorem maskS_sim (m : List Bool) {s : St} (hR : RelE X s.toF a w) : RelE X (maskS m s).toF a w := tidy_sim (maskS0_sim m hR)
theorem maskS_tmps (m : List Bool) (s : St) : (maskS m s).tmps = maskT m s.tmps := tidy_tmps _
theorem pre_sim (ops : Array Oper) {s : St} (hR : RelE X s.toF a w) : RelE X (pre ops s).toF a w ∧ (pre ops s).tmps.length = s.tmps.length := by
  unfold pre
  split
  · split
    · split
      · exact ⟨maskS_sim _ hR, by rw [maskS_tmps, maskT_length]⟩
      · exact ⟨hR, rfl⟩
    · exact ⟨hR, rfl⟩
  · exact ⟨hR, rfl⟩

def exitOf : Ex → Exit
  | .normal => .normal
  | .exit id => .exit id
  | .ret => .ret
  | .goto l => .goto l

theorem loop_sim {r : CR} {c : Code} {body : St → (Ex → St → Option CR) → Option CR}
    (hbody : ∀ (s : St) (k : Ex → St → Option CR) (a : Act) (w : World) (Q : Exit → Act → World → Prop), body s k = some r → RelE X s.toF a w → (∀ e s' a' w', k e s' = some r → s'.tmps.length = s.tmps.length → RelE X s'.toF a' w' → Q (exitOf e) a' w') → c.wp P Q a w) :
    ∀ (m : Nat) (s : St) (k : Ex → St → Option CR) (a : Act) (w : World) (Q : Exit → Act → World → Prop), loopN body m s k = some r → RelE X s.toF a w →
      (∀ e s' a' w', k e s' = some r → s'.tmps.length = s.tmps.length → RelE X s'.toF a' w' → Q (exitOf e) a' w') → Code.rounds P c Q m a w
  | 0, s, k, a, w, Q, h, _, _ => by cases h
  | m + 1, s, k, a, w, Q, h, hR, hK => by
    rw [rounds_succ]
    simp only [loopN] at h
    refine hbody s _ a w _ h hR fun e s' a' w' he hl hR' => ?_
    cases e with
    | normal =>
      obtain ⟨u, h1, h2, h3⟩ := forget_sim he hR'
      exact loop_sim hbody m u k a' w' Q h1 h3 fun e s'' a'' w'' q1 q2 q3 => hK e s'' a'' w'' q1 (by omega) q3
    | exit id => exact hK (.exit id) s' a' w' he hl hR'
    | ret => exact hK .ret s' a' w' he hl hR'
    | goto l => exact hK (.goto l) s' a' w' he hl hR'

theorem exec_sim (hm : P.follows .mixedOrders = true) (hT : TOk P TT) (hC : COk P X.GL C) (hF : ∀ f us bs r, (C f us bs).o = some r → FOk P f) {r : CR} {L : LT'} :
    ∀ (c : Code) (i : Nat) (s : St) (k : Ex → St → Option CR) (a : Act) (w : World) (Q : Exit → Act → World → Prop), exec TT TU X.GL C ownF L c i s k = some r → (∀ p ∈ loopsIn i c, LoopOk TT TU X.GL C ownF L p) → RelE X s.toF a w →
      (∀ e s' a' w', k e s' = some r → s'.tmps.length = s.tmps.length → RelE X s'.toF a' w' → Q (exitOf e) a' w') → c.wp P Q a w := by
  intro c
  induction c with
  | skip => exact fun i s k a w Q h hL hR hK => wp_skip (hK .normal s a w h rfl hR)
  | region id ops draw => exact fun i s k a w Q h hL hR hK => region_sim hm hT hC hF h (pre_sim ops hR).1 fun s' a' w' q1 q2 q3 => hK .normal s' a' w' q1 (by rw [q2, (pre_sim ops hR).2]) q3
  | seq x y ihx ihy =>
    intro i s k a w Q h hL hR hK
    simp only [loopsIn, List.mem_append] at hL
    refine wp_seq (ihx i s _ a w _ h (fun p hp => hL p (.inl hp)) hR fun e s' a' w' q1 q2 q3 => ?_)
    cases e with
    | normal => exact ihy i s' k a' w' Q q1 (fun p hp => hL p (.inr hp)) q3 fun e s'' a'' w'' p1 p2 p3 => hK e s'' a'' w'' p1 (by omega) p3
    | exit id => exact hK (.exit id) s' a' w' q1 q2 q3
    | ret => exact hK .ret s' a' w' q1 q2 q3
    | goto l => exact hK (.goto l) s' a' w' q1 q2 q3
  | cond c x y ihx ihy =>
    intro i s k a w Q h hL hR hK
    simp only [loopsIn, List.mem_append] at hL
    simp only [exec] at h
    split at h
    · rename_i t
      split at h
      · rename_i v hv
        obtain ⟨env, Z, hR⟩ := hR
        have hne : s.tmps.getD t .dead ≠ .dead := by rw [hv]; simp
        have hlt : t < s.tmps.length := by
          rcases Nat.lt_or_ge t s.tmps.length with h' | h'
          · exact h'
          · simp [List.getD, List.getElem?_eq_none h'] at hne
        have hval : a.eval (.tmp t) = .bool v := by
          have := hR.tmps t hlt
          have h4 : s.toF.tmp t = .sc (.bool v) := hv
          rw [h4] at this
          generalize hc : a.tmps.getD t undef = cc at this
          cases this
          exact hc
        cases v with
        | true =>
          simp only [cond_true] at h
          refine wp_cond_true hval (ihx i _ k a w Q h (fun p hp => hL p (.inl hp)) (by rw [toF_setAt_same s t _ hv (by simp)]; exact ⟨env, Z, hR⟩) fun e s'' a'' w'' p1 p2 p3 => hK e s'' a'' w'' p1 (by simpa [setAt_length] using p2) p3)
        | false =>
          simp only [cond_false] at h
          refine wp_cond_false hval (ihy i _ k a w Q h (fun p hp => hL p (.inr hp)) (by rw [toF_setAt_same s t _ hv (by simp)]; exact ⟨env, Z, hR⟩) fun e s'' a'' w'' p1 p2 p3 => hK e s'' a'' w'' p1 (by simpa [setAt_length] using p2) p3)
      · cases h
    · rename_i v
      cases v with
      | true => exact wp_cond_true rfl (ihx i s k a w Q h (fun p hp => hL p (.inl hp)) hR hK)
      | false => exact wp_cond_false rfl (ihy i s k a w Q h (fun p hp => hL p (.inr hp)) hR hK)
    · cases h
  | block id c ih =>
    intro i s k a w Q h hL hR hK
    refine wp_block (ih id s _ a w _ h hL hR fun e s' a' w' q1 q2 q3 => ?_)
    cases e with
    | normal => exact hK .normal s' a' w' q1 q2 q3
    | exit id' =>
      simp only [exitOf, Exit.inBlock]
      cases hb : Nat.beq id' id with
      | true =>
        simp only [hb, cond_true] at q1
        rw [if_pos (nbeq_eq hb)]
        exact hK .normal s' a' w' q1 q2 q3
      | false =>
        simp only [hb, cond_false] at q1
        rw [if_neg (fun e => by subst e; simp at hb)]
        exact hK (.exit id') s' a' w' q1 q2 q3
    | ret => exact hK .ret s' a' w' q1 q2 q3
    | goto l => exact hK (.goto l) s' a' w' q1 q2 q3
  | loop c ih =>
    intro i s k a w Q h hL hR hK
    simp only [exec] at h
    cases hi : Nat.ble 1000 i with
    | true => rw [hi] at h; cases h
    | false =>
    rw [hi] at h
    simp only [cond_false] at h
    obtain ⟨m, M, W, hrun⟩ := hL (i, c) (by simp [loopsIn]) s k r h
    have hbo : bodyOf TT TU X.GL C ownF L (i, c) = fun s k => exec TT TU X.GL C ownF L c i s k := by
      unfold bodyOf
      simp only [hi, cond_false]
    rw [hbo] at hrun
    exact wp_loop_rounds m (loop_sim (fun s k a w Q h1 h2 h3 => ih i s k a w Q h1 (fun p hp => hL p (by simp [loopsIn, hp])) h2 h3) m _ _ a w Q hrun (maskS_sim M hR) fun e s' a' w' q1 q2 q3 => hK e (maskS (W e) s') a' w' q1 (by
      rw [maskS_tmps, maskT_length]
      rw [maskS_tmps, maskT_length] at q2
      exact q2) (maskS_sim _ q3))
  | exit id => exact fun i s k a w Q h hL hR hK => wp_exit (hK (.exit id) s a w h rfl hR)
  | ret => exact fun i s k a w Q h hL hR hK => wp_ret (hK .ret s a w h rfl hR)
  | goto l => exact fun i s k a w Q h hL hR hK => wp_goto (hK (.goto l) s a w h rfl hR)
  | _ => intro i s k a w Q h; cases h

/-- Behind a label: so many passes are left. -/
def Passes (X : Ctx) (body : St → (Ex → St → Option CR) → Option CR) (r : CR) (N : Nat) (kk : Ex → St → Option CR) (n : Nat) (a : Act) (w : World) : Prop :=
  ∃ s, loopN body n s kk = some r ∧ RelE X s.toF a w ∧ s.tmps.length = N

theorem pass_sim (hm : P.follows .mixedOrders = true) (hT : TOk P TT) (hC : COk P X.GL C) (hF : ∀ f us bs r, (C f us bs).o = some r → FOk P f) {r : CR} {L : LT'} {b : Code} {l N n : Nat} {kk : Ex → St → Option CR}
    (hL : ∀ p ∈ loopsIn 0 b, LoopOk TT TU X.GL C ownF L p) {Q : Exit → Act → World → Prop} {R : Act → World → Prop} (hRn : ∀ a w, Passes X (bodyOf TT TU X.GL C ownF L (1000 + l, b)) r N kk n a w → R a w)
    (hN : ∀ s' a' w', kk (.exit 1000000) s' = some r → s'.tmps.length = N → RelE X s'.toF a' w' → Q .normal a' w')
    (hQ : ∀ s' a' w', kk .ret s' = some r → s'.tmps.length = N → RelE X s'.toF a' w' → Q .ret a' w')
    {a : Act} {w : World} (h : Passes X (bodyOf TT TU X.GL C ownF L (1000 + l, b)) r N kk (n + 1) a w) : b.wp P (Exit.jump l R Q) a w := by
  obtain ⟨s, h1, h2, h3⟩ := h
  simp only [loopN] at h1
  have hb : ∀ s k, bodyOf TT TU X.GL C ownF L (1000 + l, b) s k = exec TT TU X.GL C ownF L b 0 s fun e s' => match e with
    | .goto l' => bif Nat.beq (1000 + l') (1000 + l) then k .normal s' else none
    | .normal => k (.exit 1000000) s'
    | .ret => k .ret s'
    | .exit _ => none := fun s k => by
    unfold bodyOf
    rw [show Nat.ble 1000 (1000 + l, b).1 = true from Nat.ble_eq_true_of_le (Nat.le_add_right _ _)]
    rfl
  rw [hb] at h1
  refine exec_sim hm hT hC hF b 0 s _ a w _ h1 hL h2 fun e s' a' w' he hl hR => ?_
  cases e with
  | normal => exact hN s' a' w' he (by omega) hR
  | exit id => cases he
  | ret => exact hQ s' a' w' he (by omega) hR
  | goto l' =>
    simp only at he
    cases hl' : Nat.beq (1000 + l') (1000 + l) with
    | false => rw [hl'] at he; cases he
    | true =>
      rw [hl'] at he
      simp only [cond_true] at he
      have hll : l' = l := by have := nbeq_eq hl'; omega
      obtain ⟨u, q1, q2, q3⟩ := forget_sim he hR
      exact ⟨hll, hRn _ _ ⟨u, q1, q3, by omega⟩⟩

theorem jump_mono {l : Nat} {J J' : Act → World → Prop} {Q : Exit → Act → World → Prop} {e : Exit} (h : ∀ a w, J a w → J' a w) (hq : Exit.jump l J Q e a w) : Exit.jump l J' Q e a w := by
  cases e with
  | goto l' => exact ⟨hq.1, h _ _ hq.2⟩
  | _ => exact hq

theorem least_of {p : Nat → Prop} (h : ∃ n, p n) : ∃ n, p n ∧ ∀ m, p m → n ≤ m := by
  obtain ⟨n, hn⟩ := h
  induction n using Nat.strongRecOn with
  | _ n ih =>
    by_cases hm : ∃ m, m < n ∧ p m
    · obtain ⟨m, h1, h2⟩ := hm
      exact ih m h1 h2
    · exact ⟨n, hn, fun m h2 => Nat.le_of_not_lt fun h1 => hm ⟨m, h1, h2⟩⟩

open Classical in
/-- A function's code: with a label, or with none. -/
theorem execT_sim (hm : P.follows .mixedOrders = true) (hT : TOk P TT) (hC : COk P X.GL C) (hF : ∀ f us bs r, (C f us bs).o = some r → FOk P f) {r : CR} {L : LT'} {fn : Func} {c : Code} (hb : fn.body = some c)
    {s : St} {k : Ex → St → Option CR} {a : Act} {w : World} {Q : Exit → Act → World → Prop} (h : execT TT TU X.GL C ownF L c s k = some r) (hL : ∀ p ∈ loopsOf fn, LoopOk TT TU X.GL C ownF L p) (hR : RelE X s.toF a w)
    (hK : ∀ e s' a' w', k e s' = some r → s'.tmps.length = s.tmps.length → RelE X s'.toF a' w' → Q (exitOf e) a' w') : c.wp P Q a w := by
  unfold execT at h
  unfold loopsOf at hL
  rw [hb] at hL
  simp only at hL
  cases hs : scopeParts c with
  | none =>
    rw [hs] at h hL
    exact exec_sim hm hT hC hF c 0 s k a w Q h hL hR hK
  | some p =>
    obtain ⟨x, l, b⟩ := p
    rw [hs] at h hL
    simp only at h hL
    have hc : c = .scope (.seq x (.seq (.label l) b)) ∧ (findLabel x l).isNone = true := by
      unfold scopeParts at hs
      split at hs
      · rename_i a' l' b'
        cases hf : (findLabel a' l').isNone with
        | false => rw [hf] at hs; cases hs
        | true =>
          rw [hf] at hs
          simp only [cond_true, Option.some.injEq, Prod.mk.injEq] at hs
          obtain ⟨rfl, rfl, rfl⟩ := hs
          exact ⟨rfl, hf⟩
      · cases hs
    obtain ⟨rfl, hfl⟩ := hc
    have hfind : findLabel (.seq x (.seq (.label l) b)) l = some (.seq .skip b) := by
      have : findLabel x l = none := Option.isNone_iff_eq_none.1 hfl
      simp [findLabel, this]
    have hLb : ∀ p ∈ loopsIn 0 b, LoopOk TT TU X.GL C ownF L p := fun p hp => hL p (.tail _ (List.mem_append_right _ hp))
    have hLx : ∀ p ∈ loopsIn 0 x, LoopOk TT TU X.GL C ownF L p := fun p hp => hL p (.tail _ (List.mem_append_left _ hp))
    -- what follows the passes
    let N := s.tmps.length
    have main : ∀ (W : Ex → List Bool) (m : Nat) (a1 : Act) (w1 : World),
        Passes X (bodyOf TT TU X.GL C ownF L (1000 + l, b)) r N (fun e s' => (fun (e : Ex) (s'' : St) => match e with
          | .exit id => bif Nat.beq id 1000000 then k .normal s'' else none
          | .ret => k .ret s''
          | _ => none) e (maskS (W e) s')) m a1 w1 → b.wp P (Exit.jump l (fun a w => ∃ n, n < m ∧ Passes X (bodyOf TT TU X.GL C ownF L (1000 + l, b)) r N (fun e s' => (fun (e : Ex) (s'' : St) => match e with
          | .exit id => bif Nat.beq id 1000000 then k .normal s'' else none
          | .ret => k .ret s''
          | _ => none) e (maskS (W e) s')) n a w) Q) a1 w1 := by
      intro W m a1 w1 hp
      cases m with
      | zero => obtain ⟨s0, h1, _⟩ := hp; cases h1
      | succ m =>
        refine pass_sim hm hT hC hF hLb (fun a w hp => ⟨m, Nat.lt_succ_self m, hp⟩) (fun s' a' w' q1 q2 q3 => ?_) (fun s' a' w' q1 q2 q3 => ?_) hp
        · exact hK .normal _ a' w' q1 (by rw [maskS_tmps, maskT_length]; exact q2) (maskS_sim _ q3)
        · exact hK .ret _ a' w' q1 (by rw [maskS_tmps, maskT_length]; exact q2) (maskS_sim _ q3)
    let kkW : (Ex → List Bool) → Ex → St → Option CR := fun W e s' => (fun (e : Ex) (s'' : St) => match e with
          | .exit id => bif Nat.beq id 1000000 then k .normal s'' else none
          | .ret => k .ret s''
          | _ => none) e (maskS (W e) s')
    let PW : Nat → Act → World → Prop := fun n a w => ∃ W, Passes X (bodyOf TT TU X.GL C ownF L (1000 + l, b)) r N (kkW W) n a w
    have step : ∀ n a1 w1, PW n a1 w1 → b.wp P (Exit.jump l (fun a w => ∃ n', n' < n ∧ PW n' a w) Q) a1 w1 := fun n a1 w1 ⟨W, hp⟩ =>
      wp_mono (main W n a1 w1 hp) fun e a w hq => jump_mono (fun a w ⟨n', h1, h2⟩ => ⟨n', h1, W, h2⟩) hq
    refine wp_scope_jumps l (fun a w => ∃ n, PW n a w) (fun a w => if h : ∃ n, PW n a w then Classical.choose (least_of h) else 0) hfind ?_ ?_
    · refine wp_seq (exec_sim hm hT hC hF x 0 s _ a w _ h hLx hR fun e s' a' w' q1 q2 q3 => ?_)
      cases e with
      | normal =>
        simp only at q1
        obtain ⟨m, M, W, hrun⟩ := hL (1000 + l, b) (.head _) s' _ r q1
        refine wp_seq (wp_label ?_)
        exact wp_mono (step m a' w' ⟨W, maskS M s', hrun, maskS_sim M q3, by rw [maskS_tmps, maskT_length]; exact q2⟩) fun e a w hq => jump_mono (fun a w ⟨n', _, h2⟩ => ⟨n', h2⟩) hq
      | exit id => cases q1
      | ret => exact hK .ret s' a' w' q1 q2 q3
      | goto l' => cases q1
    · intro a1 w1 hJ
      refine wp_seq (wp_skip ?_)
      have hn := (Classical.choose_spec (least_of hJ)).1
      refine wp_mono (step _ a1 w1 hn) fun e a w hq => jump_mono (fun a w ⟨n', h1, h2⟩ => ⟨⟨n', h2⟩, ?_⟩) hq
      have h3 : ∃ n, PW n a w := ⟨n', h2⟩
      simp only [dif_pos h3, dif_pos hJ]
      exact Nat.lt_of_le_of_lt ((Classical.choose_spec (least_of h3)).2 n' h2) h1
end

end Go.Proofs.YteiniiakpdijmaaDoor.AI
