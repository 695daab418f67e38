/- An interpreter of the model's code on abstract values, and the proof that it tells what the code does (what this law needs of it). -/
import Derived.Test.YtoiimiohobollaaGreatHA1
namespace Go.Proofs.YtoiimiohobollaaGreat.AI
set_option linter.unusedVariables false
set_option linter.unusedSimpArgs false
section
open Go.RowKit
section
variable {P : Program} {TT : TypeId → Option TI} {TU : TypeId → Option (List TypeId)} {X : Ctx} {env : NE} {Z : Nat → Prop} {s s1 : F} {a : Act} {w : World} {t : TypeId} {n : Nat}
theorem decV_sim {own : Bool} {key0 : Nat} {r : CR} {c0 : Value} {w0 w' : World} {Z0 Zc : Nat → Prop} {env' : NE} (hP : CallPost w0 Z0 r c0 w' env' Zc) (hX : X.w0.heap.size ≤ w0.heap.size)
    {t : TypeId} {v out : AVal} {idx idx' : Nat} (hZ : Z = Zc ∨ ∀ ti, TT t = some ti → ∀ l ∈ ti.leaf, isSl l = false)
    (h : Gives (decV TT own key0 r.news t v idx) s (out, idx') s1) (hT : Taking X env' w0.heap.size idx env Z s a w') :
    ∃ env1, Taking X env' w0.heap.size idx' env1 Z s1 a w' ∧ (∀ l f, env l = some f → env1 l = some f) ∧ ∀ c, VRel env' Zc w' v c → VRel env1 Z w' out c := by
  unfold decV at h
  cases ht : TT t with
  | none => rw [ht] at h; exact h.fail
  | some ti =>
    rw [ht] at h
    simp only at h
    have hZ' : Z = Zc ∨ ∀ l ∈ ti.leaf, isSl l = false := hZ.imp id fun h => h ti ht
    split at h
    · obtain ⟨hc, h2⟩ := h.assert
      obtain ⟨p, s2, h3, h4⟩ := h2.bind
      obtain ⟨h5, rfl⟩ := h4.ret
      simp only [Prod.mk.injEq] at h5
      obtain ⟨rfl, rfl⟩ := h5
      obtain ⟨env1, q1, q2, q3, q4⟩ := decM_sim hP hX ti.leaf 0 (aggL v) idx p.1 p.2 env s _ hZ' h3 hT
      refine ⟨env1, q1, q2, fun c hv => ?_⟩
      split at hc
      · rename_i l
        have hlen := nbeq_eq hc
        cases hv with
        | agg _ cs hl hh =>
          refine .agg _ _ (by rw [q3, ← hlen, hl]) fun i u c hu hci => q4 i u hu c ?_
          have hi : i < l.length := by rw [hl]; exact (Array.getElem?_eq_some_iff.1 hci).1
          simp only [aggL, Nat.zero_add]
          have : l.getD i .dead = l[i] := by simp [List.getD, hi]
          rw [this]
          exact hh i l[i] c (by simp [hi]) hci
      · cases hc
    · split at h
      · rename_i l hl
        obtain ⟨p, s2, h3, h4⟩ := h.bind
        split at h4
        · rename_i u hu
          obtain ⟨h5, rfl⟩ := h4.ret
          simp only [Prod.mk.injEq] at h5
          obtain ⟨rfl, rfl⟩ := h5
          obtain ⟨env1, q1, q2, q3, q4⟩ := decM_sim hP hX [l] 0 [v] idx p.1 p.2 env s _ (hZ'.imp id fun h t ht' => h t (by rw [hl]; exact ht')) h3 hT
          exact ⟨env1, q1, q2, fun c hv => q4 0 _ (by rw [hu]; rfl) c hv⟩
        · exact h4.fail
      · exact h.fail
theorem decTup_sim {own : Bool} {key0 : Nat} {r : CR} {c0 : Value} {w0 w' : World} {Z0 Zc : Nat → Prop} {env' : NE} (hP : CallPost w0 Z0 r c0 w' env' Zc) (hX : X.w0.heap.size ≤ w0.heap.size) :
    ∀ (ts : List TypeId) (j : Nat) (l : List AVal) (idx : Nat) (out : List AVal) (idx' : Nat) (env : NE) (s s1 : F), (Z = Zc ∨ ∀ t ∈ ts, ∀ ti, TT t = some ti → ∀ l ∈ ti.leaf, isSl l = false) →
      Gives (decTup TT own key0 r.news ts j l idx) s (out, idx') s1 → Taking X env' w0.heap.size idx env Z s a w' →
      ∃ env1, Taking X env' w0.heap.size idx' env1 Z s1 a w' ∧ (∀ l f, env l = some f → env1 l = some f) ∧ out.length = ts.length ∧
        ∀ i v, out[i]? = some v → ∀ c, VRel env' Zc w' (l.getD (j + i) .dead) c → VRel env1 Z w' v c
  | [], j, l, idx, out, idx', env, s, s1, hZ, h, hT => by
    obtain ⟨h1, rfl⟩ := h.ret
    simp only [Prod.mk.injEq] at h1
    obtain ⟨rfl, rfl⟩ := h1
    exact ⟨env, hT, fun _ _ h => h, rfl, fun i v hv => by simp at hv⟩
  | t :: ts, j, l, idx, out, idx', env, s, s1, hZ, h, hT => by
    unfold decTup at h
    obtain ⟨⟨p1, p2⟩, s2, h1, h2⟩ := h.bind
    obtain ⟨⟨o1, o2⟩, s3, h3, h4⟩ := h2.bind
    obtain ⟨h5, rfl⟩ := h4.ret
    simp only [Prod.mk.injEq] at h5
    obtain ⟨rfl, rfl⟩ := h5
    obtain ⟨env1, q1, q2, q3⟩ := decV_sim hP hX (hZ.imp id fun h => h t (.head _)) h1 hT
    obtain ⟨env2, r1, r2, r3, r4⟩ := decTup_sim hP hX ts (j + 1) l p2 o1 _ env1 s2 _ (hZ.imp id fun h t ht => h t (.tail _ ht)) h3 q1
    refine ⟨env2, r1, fun l f hl => r2 l f (q2 l f hl), by simp [r3], fun i v hv c hc => ?_⟩
    cases i with
    | zero =>
      simp only [List.getElem?_cons_zero, Option.some.injEq] at hv
      subst hv
      rw [Nat.add_zero] at hc
      exact (q3 c hc).mono (fun _ _ => rfl) (fun _ h => h) fun k e hk => ⟨e, r2 k e hk, Nat.le_refl _, fun _ => rfl⟩
    | succ i =>
      simp only [List.getElem?_cons_succ] at hv
      exact r4 i v hv c (by rw [show j + 1 + i = j + (i + 1) by omega]; exact hc)
theorem Rel.glob (h : Rel X env Z s a w) {Z' : Nat → Prop} (hz : ∀ g, Z g → Z' g) (g : Nat) (l : List AVal) (hg : X.GL g = some l) : VRel (fun _ => none) Z' w (.rptr l) (.pointer (some ⟨g, 0, none⟩)) :=
  (X.glob g l hg).mono (fun q hq => h.keep q (X.hzl q hq) (X.hzo q hq)) (fun q hq => hz q (h.z0 q hq)) fun k e hk => by cases hk
theorem mayHold_false {t : TypeId} (h : mayHold TT TU t = false) :
    (∀ ts, TU t = some ts → ∀ u ∈ ts, ∀ ti, TT u = some ti → ∀ l ∈ ti.leaf, isSl l = false) ∧ (TU t = none → ∀ ti, TT t = some ti → ∀ l ∈ ti.leaf, isSl l = false) := by
  unfold mayHold at h
  constructor
  · intro ts hts u hu ti hti l hl
    rw [hts] at h
    simp only [List.any_eq_false] at h
    have := h u hu
    rw [hti] at this
    simp only [List.any_eq_true, not_exists, not_and] at this
    have := this l hl
    simpa using this
  · intro hn ti hti l hl
    rw [hn, hti] at h
    simp only [List.any_eq_false] at h
    simpa using h l hl
theorem callH_sim {C : FuncId → List AVal → List Blk → Call} (hC : COk P X.GL C) {f : FuncId} {args : List AVal} {v : AVal} {cs : Array Value}
    (h : Gives (callH TT TU C t f args) s v s1) (hR : Rel X env Z s a w) (hv : VRels env Z w args cs.toList) :
    Calls P f cs w fun e w' => ∃ c env' Z', e = .returned c ∧ Rel X env' Z' s1 a w' ∧ VRel env' Z' w' v c := by
  unfold callH at h
  obtain ⟨acc, s2, h1, h2⟩ := h.bind
  obtain ⟨rfl, hcol⟩ := collect_sim _ _ _ _ _ _ h1 ⟨fun i k b hi => by simp at hi, fun i j k b b' hi => by simp at hi⟩
  split at h2
  · rename_i p0 acc0 us bs hus hbs
    generalize hacc : p0 :: acc0 = acc at *
    obtain ⟨r, hr, h3⟩ := h2.call
    obtain ⟨hpre, h4⟩ := h3.assert
    obtain ⟨_, s4, h5, h6⟩ := h4.bind
    simp only [Bool.and_eq_true] at hpre
    obtain ⟨hbl, hbg⟩ := renBlks_get acc bs hbs
    have hbne : ∃ b bs', bs = b :: bs' := by
      cases bs with
      | nil => rw [← hacc] at hbl; simp at hbl
      | cons b bs' => exact ⟨b, bs', rfl⟩
    -- the entries
    have hent : ∀ i k b, acc[i]? = some (k, b) → ∃ e, env k = some e ∧ BRel env Z w b e := fun i k b hi => by
      have hk := hcol.look i k b hi
      have hd := hR.dom k
      rw [hk] at hd
      obtain ⟨e, he⟩ := Option.isSome_iff_exists.1 (by simpa using hd)
      exact ⟨e, he, hR.blk k b e hk he⟩
    have hget : ∀ i e, envOf env acc i = some e → ∃ k b, acc[i]? = some (k, b) ∧ env k = some e := fun i e hi => by
      simp only [envOf] at hi
      cases hp : acc[i]? with
      | none => rw [hp] at hi; cases hi
      | some p => rw [hp] at hi; exact ⟨p.1, p.2, rfl, hi⟩
    have hofs : ∀ g, ofEnv (envOf env acc) g → ∃ i k b e, acc[i]? = some (k, b) ∧ env k = some e ∧ ob e.v = some g := fun g ⟨i, e, h1, h2⟩ => by
      obtain ⟨k, b, h3, h4⟩ := hget i e h1
      exact ⟨i, k, b, e, h3, h4, h2⟩
    have hHP : HandPre w Z (envOf env acc) bs := by
      refine ⟨fun i e hi => ?_, fun i b' hi => ?_, fun i b' hi => ?_, fun k l e f g h1 h2 h3 h4 => ?_⟩
      · obtain ⟨k, b, h3, _⟩ := hget i e hi
        rw [hbl]
        exact (List.getElem?_eq_some_iff.1 h3).1
      · have hlt : i < acc.length := by rw [← hbl]; exact (List.getElem?_eq_some_iff.1 hi).1
        obtain ⟨b1, q1, q2⟩ := hbg i acc[i].1 acc[i].2 (by simp [hlt])
        rw [hi] at q1
        simp only [Option.some.injEq] at q1
        subst q1
        obtain ⟨e, he, hB⟩ := hent i acc[i].1 acc[i].2 (by simp [hlt])
        exact ⟨e, by rw [envOf_get (k := acc[i].1) (b := acc[i].2) (by simp [hlt])]; exact he, (renBlk_sim q2 hB).1⟩
      · have hlt : i < acc.length := by rw [← hbl]; exact (List.getElem?_eq_some_iff.1 hi).1
        obtain ⟨b1, q1, q2⟩ := hbg i acc[i].1 acc[i].2 (by simp [hlt])
        rw [hi] at q1
        simp only [Option.some.injEq] at q1
        subst q1
        obtain ⟨e, he, hB⟩ := hent i acc[i].1 acc[i].2 (by simp [hlt])
        exact (renBlk_sim q2 hB).2.2.2.2
      · obtain ⟨k', b, h5, h6⟩ := hget k e h1
        obtain ⟨l', b', h7, h8⟩ := hget l f h2
        have := hR.inj k' l' e f g h6 h8 h3 h4
        subst this
        exact hcol.inj k l k' b b' h5 h7
    -- the call
    have hargs := renVs_sim args us cs.toList hus hv
    obtain ⟨b1, bs1, rfl⟩ := hbne
    refine (hC.hand f us b1 bs1 r hr hpre.1 w Z (envOf env acc) cs hR.zlt (fun g l hg => hR.glob (fun _ h => h) g l hg) hHP hargs).mono ?_
    rintro e w' ⟨c, env', Z', rfl, hP⟩
    obtain ⟨q1, q2, q3, q4⟩ := putBack_sim acc r.outs _ s4 h5 hcol.inj
    let env1 : NE := fun l => match idxK acc l 0 with | some q => env' q | none => env l
    have henv1 : ∀ q k b, acc[q]? = some (k, b) → env1 k = env' q := fun q k b hq => by
      simp only [env1, hcol.idx hq]
    have hold : ∀ k, idxK acc k 0 = none → env1 k = env k := fun k hk => by simp only [env1, hk]
    have hmono : ∀ k e, env k = some e → ∃ e', env1 k = some e' ∧ e.n ≤ e'.n ∧ (e'.n = e.n → e' = e) := fun k e hk => by
      cases hi : idxK acc k 0 with
      | none => exact ⟨e, by rw [hold k hi]; exact hk, Nat.le_refl _, fun _ => rfl⟩
      | some q =>
        obtain ⟨b, hb⟩ := idxK_get hi
        obtain ⟨e', p1, p2, p3⟩ := hP.mono q e (by rw [envOf_get hb]; exact hk)
        exact ⟨e', by rw [henv1 q k b hb]; exact p1, p2, p3⟩
    have hnot : ∀ g, Z g → ¬ ofEnv (envOf env acc) g := fun g hg hof => by
      obtain ⟨i, k, b, e, p1, p2, p3⟩ := hofs g hof
      obtain ⟨e0, he0, hB⟩ := hent i k b p1
      rw [p2] at he0
      simp only [Option.some.injEq] at he0
      subst he0
      obtain ⟨b', r1, r2⟩ := hbg i k b p1
      have := renBlk_sim r2 hB
      exact hB.notZ (by rw [← this.2.1]; exact this.2.2.2.2) g p3 hg
    have hzb : ∀ g, Z g → w'.heap[g]? = w.heap[g]? := fun g hg => hP.block g (hR.zlt g hg) (hnot g hg)
    have hother : ∀ k e g, idxK acc k 0 = none → env k = some e → ob e.v = some g → ¬ ofEnv (envOf env acc) g := fun k e g hk he hg hof => by
      obtain ⟨i, k', b, e', p1, p2, p3⟩ := hofs g hof
      have := hR.inj k k' e e' g he p2 hg p3
      subst this
      rw [hcol.idx p1] at hk
      cases hk
    have hown1 : ∀ q e g, env' q = some e → ob e.v = some g → w.heap.size ≤ g ∨ ∃ i k b e0, acc[i]? = some (k, b) ∧ env k = some e0 ∧ ob e0.v = some g := fun q e g h1 h2 => (hP.own q e g h1 h2).imp id (hofs g)
    have hX := hR.grown
    have hR1 : Rel X env1 Z' s4 a w' := by
      refine
        { size := by rw [q1]; exact hR.size
          tmps := fun u hu => by rw [q2]; exact (hR.tmps u (by rw [← q1]; exact hu)).mono hzb hP.z0 hmono
          tmpo := fun u hu => by rw [q2]; exact hR.tmpo u (by rw [← q1]; exact hu)
          dom := fun k => ?_
          blk := fun k b e h1 h2 => ?_
          inj := fun k l e f g h1 h2 h3 h4 => ?_
          own := fun k e g h1 h2 => ?_
          zlt := hP.zlt
          z0 := fun g hg => hP.z0 g (hR.z0 g hg)
          znew := fun g hg => ?_
          os := hP.os.trans hR.os
          tape := hP.tape.trans hR.tape
          output := hP.output.trans hR.output
          grown := Nat.le_trans hX hP.size
          keep := fun g h1 h2 => ?_
          defers := hR.defers
          hand := hand_step hR.hand hmono }
      · cases hi : idxK acc k 0 with
        | none =>
          rw [hold k hi, q4 k (idxK_none acc k 0 hi)]
          exact hR.dom k
        | some q =>
          obtain ⟨b, hb⟩ := idxK_get hi
          obtain ⟨rows, b', p1, p2, p3⟩ := q3 q k b hb
          obtain ⟨e0, he0, _⟩ := hent q k b hb
          obtain ⟨e', p4, _⟩ := hP.mono q e0 (by rw [envOf_get hb]; exact he0)
          rw [p3, henv1 q k b hb, p4]
          rfl
      · cases hi : idxK acc k 0 with
        | none =>
          rw [q4 k (idxK_none acc k 0 hi)] at h1
          rw [hold k hi] at h2
          have hB := hR.blk k b e h1 h2
          exact hB.mono (fun g hg => hP.block g (hR.blt h2 hg) (hother k e g hi h2 hg)) hzb hP.z0
            (fun g hg hnz hz => (hP.znew g hz).elim hnz fun h => h.elim (fun h => by have := hR.blt h2 hg; omega) (hother k e g hi h2 hg)) hmono
        | some q =>
          obtain ⟨b0, hb⟩ := idxK_get hi
          obtain ⟨rows, b', p1, p2, p3⟩ := q3 q k b0 hb
          rw [p3] at h1
          simp only [Option.some.injEq] at h1
          subst h1
          rw [henv1 q k b0 hb] at h2
          obtain ⟨b2, r1, r2⟩ := hbg q k b0 hb
          obtain ⟨e0, he0, hB0⟩ := hent q k b0 hb
          have hren := renBlk_sim r2 hB0
          obtain ⟨e2, p4, p5⟩ := hP.blk q b2 rows r1 p1
          rw [h2] at p4
          simp only [Option.some.injEq] at p4
          subst p4
          rw [hren.2.1, hren.2.2.1, hren.2.2.2.1] at p5
          exact backBlk_sim p2 p5 henv1
      · cases hk : idxK acc k 0 with
        | none =>
          rw [hold k hk] at h1
          cases hl : idxK acc l 0 with
          | none =>
            rw [hold l hl] at h2
            exact hR.inj k l e f g h1 h2 h3 h4
          | some q =>
            obtain ⟨b, hb⟩ := idxK_get hl
            rw [henv1 q l b hb] at h2
            rcases hP.own q f g h2 h4 with h5 | h5
            · have := hR.blt h1 h3; omega
            · exact absurd h5 (hother k e g hk h1 h3)
        | some q =>
          obtain ⟨b, hb⟩ := idxK_get hk
          rw [henv1 q k b hb] at h1
          cases hl : idxK acc l 0 with
          | none =>
            rw [hold l hl] at h2
            rcases hP.own q e g h1 h3 with h5 | h5
            · have := hR.blt h2 h4; omega
            · exact absurd h5 (hother l f g hl h2 h4)
          | some q' =>
            obtain ⟨b', hb'⟩ := idxK_get hl
            rw [henv1 q' l b' hb'] at h2
            have := hP.inj q q' e f g h1 h2 h3 h4
            subst this
            rw [hb] at hb'
            simp only [Option.some.injEq, Prod.mk.injEq] at hb'
            exact hb'.1
      · cases hk : idxK acc k 0 with
        | none =>
          rw [hold k hk] at h1
          exact hR.own k e g h1 h2
        | some q =>
          obtain ⟨b, hb⟩ := idxK_get hk
          rw [henv1 q k b hb] at h1
          rcases hown1 q e g h1 h2 with h5 | ⟨i, k', b', e0, p1, p2, p3⟩
          · exact .inl (by omega)
          · exact hR.own k' e0 g p2 p3
      · rcases hP.znew g hg with h5 | h5 | h5
        · exact hR.znew g h5
        · exact .inr (.inl (by omega))
        · obtain ⟨i, k', b', e0, p1, p2, p3⟩ := hofs g h5
          exact .inr (hR.own k' e0 g p2 p3)
      · refine (hP.block g (by omega) fun hof => ?_).trans (hR.keep g h1 h2)
        obtain ⟨i, k', b', e0, p1, p2, p3⟩ := hofs g hof
        rcases hR.own k' e0 g p2 p3 with h5 | h5
        · omega
        · exact h2 h5
    split at h6
    · rename_i u hu
      obtain ⟨rfl, rfl⟩ := h6.ret
      exact ⟨c, env1, Z', rfl, hR1, decRH_sim hu hP.res henv1⟩
    · exact h6.fail
  · exact h2.fail
theorem callA_sim {C : FuncId → List AVal → List Blk → Call} {ownF : FuncId → Bool} (hC : COk P X.GL C) {key0 : Nat} {f : FuncId} {args : List AVal} {v : AVal} {cs : Array Value}
    (h : Gives (callA TT TU C ownF key0 t f args) s v s1) (hR : Rel X env Z s a w) (hv : VRels env Z w args cs.toList) :
    Calls P f cs w fun e w' => ∃ c env' Z', e = .returned c ∧ Rel X env' Z' s1 a w' ∧ VRel env' Z' w' v c := by
  unfold callA at h
  cases hh : handed ownF f args with
  | true => rw [hh] at h; exact callH_sim hC h hR hv
  | false =>
  rw [hh] at h
  simp only [cond_false] at h
  obtain ⟨us, s2, h1, h2⟩ := h.bind
  obtain ⟨r, hr, h3⟩ := h2.call
  obtain ⟨hpre, h3⟩ := h3.assert
  obtain ⟨⟨Zs, fz, hus⟩, hpl⟩ := snapArgs_sim args us cs.toList s s2 Z h1 hR hv
  have hzlt : ∀ g, Zs g → g < w.heap.size := fun g hg => (fz.own g hg).elim (hR.zlt g) fun ⟨k, e, he, ho⟩ => hR.blt he ho
  have hargs : VRels (fun _ => none) Zs w us cs.toList := ⟨hus.1, fun i u c q1 q2 => hpl u (List.mem_of_getElem? q1) _ _ _ _ _ (hus.2 i u c q1 q2)⟩
  refine (hC.nil f us r hr hpre w Zs cs hzlt (fun g l hg => hR.glob fz.more g l hg) hargs).mono ?_
  rintro e w' ⟨c, env', Zc, rfl, hP⟩
  -- the caller's state behind the call
  have hX : X.w0.heap.size ≤ w.heap.size := hR.grown
  have key : ∀ Z'', (∀ g, (if mayHold TT TU t then Zs g else Z g) → Z'' g) → (∀ g, Z'' g → (if mayHold TT TU t then Zs g else Z g) ∨ w.heap.size ≤ g) → (∀ g, Z'' g → g < w'.heap.size) →
      Taking X env' w.heap.size 0 env Z'' s2 a w' := fun Z'' k1 k2 k3 =>
    ⟨fz.rel.later hP.wider k1 k2 k3, fun l f g hl hg => .inl (hR.blt hl hg)⟩
  have fin : ∀ Z'', Taking X env' w.heap.size 0 env Z'' s2 a w' → (Z'' = Zc ∨ mayHold TT TU t = false) → ∃ c' env'' Z', (Ending.returned c : Ending) = .returned c' ∧ Rel X env'' Z' s1 a w' ∧ VRel env'' Z' w' v c' := by
    intro Z'' hT hZ
    unfold decRes at h3
    cases htu : TU t with
    | some ts =>
      rw [htu] at h3
      simp only at h3
      obtain ⟨hc, h4⟩ := h3.assert
      obtain ⟨⟨o1, o2⟩, s4, h5, h6⟩ := h4.bind
      obtain ⟨rfl, rfl⟩ := h6.ret
      obtain ⟨env1, q1, _, q3, q4⟩ := decTup_sim (TT := TT) hP hX ts 0 (tupL r.res) 0 o1 o2 env s2 _ (hZ.imp id fun h => (mayHold_false h).1 ts htu) h5 hT
      have hres := hP.res
      refine ⟨c, env1, Z'', rfl, q1.rel, ?_⟩
      generalize r.res = rr at hc q4 hres
      split at hc
      · rename_i l
        have hlen := nbeq_eq hc
        cases hres with
        | tup _ cs' hl hh =>
          refine .tup _ _ (by rw [q3, ← hlen, hl]) fun i u c hu hci => q4 i u hu c ?_
          have hi : i < l.length := by rw [hl]; exact (Array.getElem?_eq_some_iff.1 hci).1
          simp only [tupL, Nat.zero_add]
          have : l.getD i .dead = l[i] := by simp [List.getD, hi]
          rw [this]
          exact hh i l[i] c (by simp [hi]) hci
      · cases hc
    | none =>
      rw [htu] at h3
      obtain ⟨⟨o1, o2⟩, s4, h5, h6⟩ := h3.bind
      obtain ⟨rfl, rfl⟩ := h6.ret
      obtain ⟨env1, q1, _, q3⟩ := decV_sim (TT := TT) hP hX (hZ.imp id fun h => (mayHold_false h).2 htu) h5 hT
      exact ⟨c, env1, Z'', rfl, q1.rel, q3 c hP.res⟩
  cases hm : mayHold TT TU t with
  | true =>
    refine fin Zc (key Zc (fun g hg => ?_) (fun g hg => ?_) hP.zlt) (.inl rfl)
    · rw [hm] at hg; exact hP.z0 g hg
    · rw [hm]; exact (hP.znew g hg)
  | false =>
    refine fin Z (key Z (fun g hg => ?_) (fun g hg => ?_) fun g hg => Nat.lt_of_lt_of_le (hR.zlt g hg) hP.wider.size) (.inr hm)
    · rw [hm] at hg; exact hg
    · rw [hm]; exact .inl hg
theorem ofConst_sim (v : Value) : VRel env Z w (ofConst v) v := by
  unfold ofConst
  split
  · exact .emp _
  · rename_i cs
    refine .agg _ _ (by simp) fun i u c hu hc => ?_
    rw [List.getElem?_map] at hu
    have hc' : cs.toList[i]? = some c := by simpa using hc
    rw [hc'] at hu
    simp only [Option.map_some, Option.some.injEq] at hu
    rw [← hu]
    unfold ofCell
    split
    · exact .emp _
    · exact .sc _
  · exact .sc _
theorem evalO_sim {x : Operand} {v : AVal} (h : Gives (evalO X.GL x) s v s1) (hR : Rel X env Z s a w) : s1 = s ∧ VRel env Z w v (a.eval x) := by
  unfold evalO at h
  split at h
  · rename_i t
    have h := h.getT
    obtain ⟨rfl, rfl⟩ := h.ret
    refine ⟨rfl, ?_⟩
    rcases Nat.lt_or_ge t s1.N with hlt | hge
    · exact hR.tmps t hlt
    · rw [hR.tmpo t hge]; exact .dead _
  · rename_i v
    obtain ⟨rfl, rfl⟩ := h.ret
    exact ⟨rfl, ofConst_sim v⟩
  · rename_i g
    split at h
    · rename_i l hl
      obtain ⟨rfl, rfl⟩ := h.ret
      exact ⟨rfl, (hR.glob (fun _ h => h) g l hl).anyEnv rfl⟩
    · exact h.fail
  · rename_i f
    obtain ⟨rfl, rfl⟩ := h.ret
    exact ⟨rfl, .clo f [] #[] rfl fun i v c hv => by simp at hv⟩
theorem evalOs_sim : ∀ {xs : List Operand} {vs : List AVal} {s s1 : F}, Gives (evalOs X.GL xs) s vs s1 → Rel X env Z s a w → s1 = s ∧ VRels env Z w vs (xs.map a.eval)
  | [], vs, s, s1, h, hR => by
    obtain ⟨rfl, rfl⟩ := h.ret
    exact ⟨rfl, .nil⟩
  | x :: xs, vs, s, s1, h, hR => by
    obtain ⟨v, s2, h1, h2⟩ := h.bind
    obtain ⟨vs', s3, h3, h4⟩ := h2.bind
    obtain ⟨rfl, hv⟩ := evalO_sim h1 hR
    obtain ⟨rfl, hvs⟩ := evalOs_sim h3 hR
    obtain ⟨rfl, rfl⟩ := h4.ret
    exact ⟨rfl, .cons hv hvs⟩
def Out (P : Program) (R : Value → World → Prop) : Result Next → Prop
  | .ok (.value c) w' => R c w'
  | .ok .skip w' => R undef w'
  | .ok (.enter f args) w' => Calls P f args w' fun e w'' => ∃ c, e = .returned c ∧ R c w''
  | _ => False
def Holds (X : Ctx) (s : F) (a : Act) (v : AVal) (c : Value) (w : World) : Prop := ∃ env Z, Rel X env Z s a w ∧ VRel env Z w v c
theorem map_zip_fst {α β : Type} : ∀ (xs : List α) (ys : List β), xs.length = ys.length → (xs.zip ys).map (·.1) = xs
  | [], ys, h => by simp
  | x :: xs, [], h => by simp at h
  | x :: xs, y :: ys, h => by simp [map_zip_fst xs ys (by simpa using h)]
theorem map_zip_snd {α β : Type} : ∀ (xs : List α) (ys : List β), xs.length = ys.length → (xs.zip ys).map (·.2) = ys
  | [], ys, h => by cases ys with | nil => rfl | cons y ys => simp at h
  | x :: xs, [], h => by simp at h
  | x :: xs, y :: ys, h => by simp [map_zip_snd xs ys (by simpa using h)]
theorem build_parts {parts : Array (Nat × Operand)} {vs : List AVal} (h : VRels env Z w vs ((parts.toList.map (·.2)).map a.eval)) :
    ((parts.toList.map (·.1)).zip vs).map (·.1) = ((parts.map fun (i, x) => (i, a.eval x)).toList).map (·.1) ∧
    VRels env Z w (((parts.toList.map (·.1)).zip vs).map (·.2)) (((parts.map fun (i, x) => (i, a.eval x)).toList).map (·.2)) := by
  have hl : (parts.toList.map (·.1)).length = vs.length := by have := h.1; simp at this; simp [this]
  rw [map_zip_fst _ _ hl, map_zip_snd _ _ hl]
  constructor
  · simp [Function.comp_def]
  · have : ((parts.map fun (i, x) => (i, a.eval x)).toList).map (·.2) = (parts.toList.map (·.2)).map a.eval := by simp [Function.comp_def]
    rw [this]; exact h
theorem run_places {fs : Array Field} (hsz : ∀ f ∈ fs.toList, ∃ i, P.info? f.type = some i) (w : World) :
    (fs.mapM fun f => do pure (f.offset, ← sizeOf f.type) : Sem (Array (Nat × Nat))).run P w = .ok (fs.toList.map fun f => (f.offset, P.cellsOf f.type)).toArray w := by
  have key : ∀ (l : List Field), (∀ f ∈ l, ∃ i, P.info? f.type = some i) → (l.mapM fun f => do pure (f.offset, ← sizeOf f.type) : Sem (List (Nat × Nat))).run P w = .ok (l.map fun f => (f.offset, P.cellsOf f.type)) w := by
    intro l
    induction l with
    | nil => intro _; rfl
    | cons f l ih =>
      intro hl
      obtain ⟨i, hi⟩ := hl f (.head _)
      have ih := ih fun f hf => hl f (.tail _ hf)
      have hc : P.cellsOf f.type = i.size := by simp [Program.cellsOf, hi]
      simp only [List.mapM_cons, Sem.run_bind, run_sizeOf' hi, Result.andThen_ok, Sem.run_pure, ih, List.map_cons, hc]
  rw [Array.mapM_eq_mapM_toList, map_eq_pure_bind, Sem.run_bind, key _ hsz]
  rfl
theorem zero_rels {z : Value} {zs : List Value} (hz : z.cells.toList = zs) (h1 : ∀ c ∈ zs, oneC c = true) : VRels env Z w (zs.map ofCell) z.cells.toList := by
  rw [hz]; exact (zero_sim h1).1
theorem agg_of {cells : List AVal} {cs : Array Value} (h : VRels env Z w cells cs.toList) : VRel env Z w (.agg cells) (.agg cs) :=
  .agg _ _ (by have := h.1; simpa using this) fun i v c q1 q2 => h.2 i v c q1 (by simpa using q2)
theorem build_sim (hT : TOk P TT) {fs : Array Field} {ti : TI} {vs : List AVal} {parts : Array (Nat × Operand)} {cells : List AVal} (ht : TT t = some ti) (hd : ti.desc = .struct fs) (hall : ∀ f ∈ fs.toList, (TT f.type).isSome = true)
    (hv : VRels env Z w vs ((parts.toList.map (·.2)).map a.eval))
    (hf : fillA (fun i => (fs[i]?).bind fun f => (TT f.type).map fun tf => (f.offset, tf.size)) (ti.zero.map ofCell) ((parts.toList.map (·.1)).zip vs) = some cells) :
    ∃ c, (Instr.build t (parts.map fun (i, x) => (i, a.eval x))).run P w = .ok c w ∧ VRel env Z w (.agg cells) c := by
  obtain ⟨i, z, hi, hsz, hbs, hz0, hz1, hlf, hzl, hone⟩ := hT.info t ti ht
  have hdd := hT.desc t ti ht
  rw [hd] at hdd
  obtain ⟨p1, p2⟩ := build_parts hv
  obtain ⟨cc', h1, h2⟩ := fillA_sim _ _ _ cells z.cells hf p1 p2 (zero_rels hz1 hone)
  have hinfo : ∀ f ∈ fs.toList, ∃ i, P.info? f.type = some i := fun f hf => by
    obtain ⟨tf, htf⟩ := Option.isSome_iff_exists.1 (hall f hf)
    obtain ⟨i, _, hi, _⟩ := hT.info _ tf htf
    exact ⟨i, hi⟩
  have hplace : (fun i => (fs[i]?).bind fun f => (TT f.type).map fun tf => (f.offset, tf.size)) = fun (i : Nat) => (fs.toList.map fun (f : Field) => (f.offset, P.cellsOf f.type)).toArray[i]? := by
    funext i
    have hrhs : (fs.toList.map fun (f : Field) => (f.offset, P.cellsOf f.type)).toArray[i]? = (fs[i]?).map fun (f : Field) => (f.offset, P.cellsOf f.type) := by simp
    rw [hrhs]
    cases hfi : fs[i]? with
    | none => rfl
    | some f =>
      have hmem : f ∈ fs.toList := by
        have : fs.toList[i]? = some f := by simpa using hfi
        exact List.mem_of_getElem? this
      obtain ⟨tf, htf⟩ := Option.isSome_iff_exists.1 (hall f hmem)
      obtain ⟨i', _, hi', hs', _⟩ := hT.info _ tf htf
      simp [htf, Program.cellsOf, hi', hs']
  refine ⟨.agg cc', ?_, agg_of h2⟩
  rw [hplace] at h1
  simp only [Instr.build, Sem.run_bind, run_zeroValue' hi hz0, Result.andThen_ok, run_underlying hdd, run_places hinfo, h1]
  rfl
theorem buildArr_sim (hT : TOk P TT) {e : TypeId} {len : Nat} {ti te : TI} {vs : List AVal} {parts : Array (Nat × Operand)} {cells : List AVal} (ht : TT t = some ti) (hd : ti.desc = .array len e) (hte : TT e = some te)
    (hv : VRels env Z w vs ((parts.toList.map (·.2)).map a.eval))
    (hf : fillA (fun i => some (i * te.size, te.size)) (ti.zero.map ofCell) ((parts.toList.map (·.1)).zip vs) = some cells) :
    ∃ c, (Instr.build t (parts.map fun (i, x) => (i, a.eval x))).run P w = .ok c w ∧ VRel env Z w (.agg cells) c := by
  obtain ⟨i, z, hi, hsz, hbs, hz0, hz1, hlf, hzl, hone⟩ := hT.info t ti ht
  obtain ⟨ie, ze, hie, hsze, _⟩ := hT.info e te hte
  have hdd := hT.desc t ti ht
  rw [hd] at hdd
  obtain ⟨p1, p2⟩ := build_parts hv
  obtain ⟨cc', h1, h2⟩ := fillA_sim _ _ _ cells z.cells hf p1 p2 (zero_rels hz1 hone)
  refine ⟨.agg cc', ?_, agg_of h2⟩
  simp only [Instr.build, Sem.run_bind, run_zeroValue' hi hz0, Result.andThen_ok, run_underlying hdd, run_sizeOf' hie, hsze, h1]
  rfl
theorem buildSlice_sim (hT : TOk P TT) {e : TypeId} {len kk : Nat} {ti te : TI} {vs : List AVal} {parts : Array (Nat × Operand)} {cells : List AVal} {v : AVal} (ht : TT t = some ti) (hd : ti.desc = .slice e) (hte : TT e = some te)
    (hne : te.size ≠ 0) (hmax : ¬ len * te.size > 16777216)
    (hv : VRels env Z w vs ((parts.toList.map (·.2)).map a.eval))
    (hf : fillA (fun i => some (i * te.size, te.size)) ((List.replicate len (te.zero.map ofCell)).flatten) ((parts.toList.map (·.1)).zip vs) = some cells)
    (h : Gives ((snaps true cells).bind fun cs => .test (cs.all flat && Nat.beq cs.length (len * te.size)) (newBlk kk ⟨.arr, e, te.size, chunk te.size len cs⟩ (.slc kk len)) .fail) s v s1) (hR : Rel X env Z s a w) :
    ∃ c w' env' Z', (Instr.buildSlice t len (parts.map fun (i, x) => (i, a.eval x))).run P w = .ok c w' ∧ Rel X env' Z' s1 a w' ∧ VRel env' Z' w' v c := by
  obtain ⟨ie, z, hi, hsz, hbs, hz0, hz1, hlf, hzl, hone⟩ := hT.info e te hte
  have hdd := hT.desc t ti ht
  rw [hd] at hdd
  have hzs : z.cells.size = te.size := by rw [← hzl, ← hz1]; simp
  obtain ⟨p1, p2⟩ := build_parts hv
  obtain ⟨cc', h1, h2⟩ := fillA_sim _ _ _ cells ((Array.range (len * z.cells.size)).map (z.cells[· % z.cells.size]!)) hf p1 p2 (zeros_sim hz1 hone len)
  obtain ⟨cs, s2, h3, h4⟩ := h.bind
  obtain ⟨Z', fz, hcs⟩ := snaps_sim cells cs cc'.toList s s2 Z h3 hR h2
  obtain ⟨hc, h5⟩ := h4.assert
  obtain ⟨hk, rfl, rfl⟩ := h5.newBlk
  simp only [Bool.and_eq_true] at hc
  have hlen := nbeq_eq hc.2
  have hR' : Rel X env Z' s2 a w := by simpa using fz.rel
  have hA : cc'.size = len * te.size := by have := hcs.1; simp at this; omega
  have hle : len ≤ len * te.size := Nat.le_mul_of_pos_right _ (by omega)
  obtain ⟨env', q1, q2⟩ := hR'.newArr (Wider.alloc w (.cells cc' e)) hk (T := e) (E := te.size) (rows := chunk te.size len cs) (cap := len) (Nat.le_refl _) (heap_alloc_new' w _) (by rw [chunk_length]; exact Nat.le_refl _) (by simp only [maxLen]; omega) hA (chunk_flat hcs hlen hc.1)
  rw [chunk_length] at q2
  refine ⟨_, _, env', Z', ?_, q1, q2⟩
  simp only [Instr.buildSlice, Sem.run_bind, run_underlying hdd, Result.andThen_ok, run_sizeOf' hi]
  have hno : ¬ len * ie.size > 2 ^ 24 := by rw [hsz]; omega
  by_cases h0 : len * ie.size = 0
  · have hl0 : len = 0 := by
      rcases Nat.mul_eq_zero.1 h0 with h | h
      · exact h
      · omega
    subst hl0
    have hr0 : Array.range 0 = (#[] : Array Nat) := rfl
    have e0 : ∀ (f : Nat → Value), Array.map f (#[] : Array Nat) = #[] := fun f => by simp
    simp only [Nat.zero_mul, hr0, e0] at h1
    have hng : ¬ (0 > 2 ^ 24) := by omega
    simp only [Nat.zero_mul, hng, if_false, if_true, Sem.run_pure, Result.andThen_ok, hr0, e0, hsz, h1, run_newRow, Sem.run_bind]
  · simp only [hno, if_false, h0, Sem.run_bind, run_zeroValue' hi hz0, Result.andThen_ok, Sem.run_pure]
    rw [← hzs] at h1
    rw [hsz, ← hzs]
    simp only [h1, Sem.run_bind, run_newRow, Result.andThen_ok]
    rfl
theorem Rel.newRo (h : Rel X env Z s a w) {T : TypeId} {cells : List AVal} {cs : Array Value} (hv : VRels env Z w cells cs.toList) (hok : cells.all flat = true) :
    ∃ Z', Rel X env Z' s a (w.alloc (.cells cs T)) ∧ VRel env Z' (w.alloc (.cells cs T)) (.rptr cells) (.pointer (some ⟨w.heap.size, 0, none⟩)) := by
  have hw := Wider.alloc w (.cells cs T)
  have hsz : w.heap.size < (w.alloc (.cells cs T)).heap.size := by
    have := heap_alloc_new' w (.cells cs T)
    exact (Array.getElem?_eq_some_iff.1 this).1
  refine ⟨fun g => Z g ∨ g = w.heap.size, h.later hw (fun g hg => .inl hg) (fun g hg => hg.imp id fun e => by omega) (fun g hg => hg.elim (fun hg => Nat.lt_of_lt_of_le (h.zlt g hg) hw.size) fun e => by omega), ?_⟩
  have key : ∀ (j : Nat) (v : AVal), cells[j]? = some v → flat v = true ∧ VRel env Z w v (cs.getD j undef) ∧ cs[j]? = some (cs.getD j undef) := fun j v hj => by
    have hlt : j < cs.size := by
      have := hv.1
      rw [← Array.length_toList, ← this]
      exact (List.getElem?_eq_some_iff.1 hj).1
    have hcs : cs[j]? = some (cs.getD j undef) := by simp [hlt]
    exact ⟨List.all_eq_true.1 hok v (List.mem_of_getElem? hj), hv.2 j v _ hj (by simpa using hcs), hcs⟩
  refine .rptr _ w.heap.size 0 (fun j => cs.getD j undef) (.inr rfl) (fun j v hj => ?_) fun j v hj => ?_
  · obtain ⟨h1, h2, h3⟩ := key j v hj
    exact ⟨h1, h2.oneC (flat_cellOk h1), by rw [Nat.zero_add]; exact cell_block (heap_alloc_new' w _) h3⟩
  · obtain ⟨h1, h2, h3⟩ := key j v hj
    exact h2.mono (fun g hg => hw.block g (h.zlt g hg)) (fun g hg => .inl hg) fun k e hk => ⟨e, hk, Nat.le_refl _, fun _ => rfl⟩
theorem run_equal_slice {t e : TypeId} {p : Option Addr} {n c : Nat} (h : P.underlying t = some (.slice e)) (w : World) : (Op.equal t (.slice p n c) (.slice none 0 0)).run P w = .ok p.isNone w := by
  have key : ∀ m, (Op.equalIn (m + 1) t (.slice p n c) (.slice none 0 0)).run P w = .ok p.isNone w := fun m => by
    simp only [Op.equalIn, Sem.run_bind, run_underlying h, Result.andThen_ok]
    cases p <;> rfl
  exact key 9999
theorem nilA_sim (hT : TOk P TT) {neg : Bool} {x v : AVal} {c : Value} {ox oy : Operand} (h : Gives (nilA TT t neg x) s v s1) (hx : VRel env Z w x c) :
    s1 = s ∧ ∃ u, (do eqGuard (bif neg then .neq else .eql) t ox oy c (.slice none 0 0); binOp (bif neg then .neq else .eql) t c (.slice none 0 0)).run P w = .ok u w ∧ VRel env Z w v u := by
  have main : ∀ (e : TypeId), P.underlying t = some (.slice e) → ∀ (p : Option Addr) (n m : Nat),
      (do eqGuard (bif neg then .neq else .eql) t ox oy (.slice p n m) (.slice none 0 0); binOp (bif neg then .neq else .eql) t (.slice p n m) (.slice none 0 0)).run P w = .ok (.bool (bif neg then !p.isNone else p.isNone)) w := by
    intro e he p n m
    have hg : (eqGuard (bif neg then .neq else .eql) t ox oy (.slice p n m) (.slice none 0 0)).run P w = .ok () w := run_eqGuard_sc _ _ (fun _ _ h => (by cases h)) (fun h => (by cases h))
    have hq := run_equal_slice (p := p) (n := n) (c := m) he w
    simp only [Sem.run_bind, hg, Result.andThen_ok]
    cases neg with
    | false =>
      show (do pure (.bool (← Op.equal t (.slice p n m) (.slice none 0 0))) : Sem Value).run P w = _
      simp only [Sem.run_bind, hq, Result.andThen_ok]
      rfl
    | true =>
      show (do pure (.bool (!(← Op.equal t (.slice p n m) (.slice none 0 0)))) : Sem Value).run P w = _
      simp only [Sem.run_bind, hq, Result.andThen_ok]
      rfl
  unfold nilA at h
  split at h
  · rename_i ti ht
    split at h
    · rename_i e hd
      have hdd := hT.desc t ti ht
      rw [hd] at hdd
      split at h
      · rename_i E rows
        have h1 := h.deny
        obtain ⟨rfl, rfl⟩ := h1.2.ret
        cases hx with
        | roE => simp at h1
        | ro _ _ b o cap f hcap hz hr hc hh =>
          refine ⟨rfl, _, main e hdd _ _ _, ?_⟩
          have : (bif neg then !(some (⟨b, o, none⟩ : Addr)).isNone else (some (⟨b, o, none⟩ : Addr)).isNone) = neg := by cases neg <;> rfl
          rw [this]
          exact .sc _
      · obtain ⟨rfl, rfl⟩ := h.ret
        cases hx
        exact ⟨rfl, _, main e hdd _ _ _, .sc _⟩
      · exact h.fail
    · exact h.fail
  · exact h.fail
end
end
section
open Go.RowKit
section
variable {P : Program} {TT : TypeId → Option TI} {TU : TypeId → Option (List TypeId)} {X : Ctx} {env : NE} {Z : Nat → Prop} {s s1 : F} {a : Act} {w : World} {t : TypeId} {n : Nat}
def FOk (P : Program) (f : FuncId) : Prop := ∃ fn, P.funcs[f]? = some fn ∧ (fn.name == "runtime.NumGoroutine") = false ∧ fn.body.isNone = false
theorem callA_fok {C : FuncId → List AVal → List Blk → Call} {ownF : FuncId → Bool} (hF : ∀ f us bs r, (C f us bs).o = some r → FOk P f) {key0 : Nat} {f : FuncId} {args : List AVal} {v : AVal}
    (h : Gives (callA TT TU C ownF key0 t f args) s v s1) : FOk P f := by
  unfold callA at h
  cases hh : handed ownF f args with
  | true =>
    rw [hh] at h
    simp only [cond_true] at h
    unfold callH at h
    obtain ⟨acc, s2, _, h2⟩ := h.bind
    split at h2
    · obtain ⟨r, hr, _⟩ := h2.call
      exact hF f _ _ r hr
    · exact h2.fail
  | false =>
    rw [hh] at h
    simp only [cond_false] at h
    obtain ⟨us, s3, _, h4⟩ := h.bind
    obtain ⟨r, hr, _⟩ := h4.call
    exact hF f us [] r hr
theorem out_value {R : Value → World → Prop} {x : Sem Value} {u : Value} {w' : World} (h : x.run P w = .ok u w') (hR : R u w') : Out P R ((do pure (Next.value (← x)) : Sem Next).run P w) := by
  simp only [Sem.run_bind, h, Result.andThen_ok, Sem.run_pure]
  exact hR
theorem out_skip {R : Value → World → Prop} {x : Sem Unit} {w' : World} (h : x.run P w = .ok () w') (hR : R undef w') : Out P R ((do x; pure Next.skip : Sem Next).run P w) := by
  simp only [Sem.run_bind, h, Result.andThen_ok, Sem.run_pure]
  exact hR
theorem ownC_sim {own : Bool} {key : Nat} {t : LT} {v u : AVal} {c : Value} (h : Gives (ownC own key t v) s u s1) (hR : Rel X env Z s a w) (hv : VRel env Z w v c) :
    ∃ env1, Rel X env1 Z s1 a w ∧ VRel env1 Z w u c ∧ (∀ l f, env l = some f → env1 l = some f) := by
  unfold ownC at h
  split at h
  · cases own with
    | true =>
      simp only [cond_true, newBlk] at h
      have h2 := h.getK
      cases hk : s.key key with
      | some x => rw [hk] at h2; exact h2.fail
      | none =>
        rw [hk] at h2
        have h3 := h2.setK
        obtain ⟨rfl, rfl⟩ := h3.ret
        cases hv with
        | emp ad =>
          obtain ⟨env1, q1, q2, q3⟩ := hR.newEmpty' hk ad
          exact ⟨env1, q1, q2, q3⟩
    | false =>
      simp only [cond_false] at h
      obtain ⟨rfl, rfl⟩ := h.ret
      cases hv
      exact ⟨env, hR, .roE _ _ _, fun _ _ h => h⟩
  · obtain ⟨hc, h2⟩ := h.assert
    obtain ⟨rfl, rfl⟩ := h2.ret
    exact ⟨env, hR, ro_norm hc hv, fun _ _ h => h⟩
  · obtain ⟨rfl, rfl⟩ := h.ret
    exact ⟨env, hR, hv, fun _ _ h => h⟩
theorem VRel.moreEnv {env1 : NE} {v : AVal} {c : Value} (h : VRel env Z w v c) (he : ∀ l f, env l = some f → env1 l = some f) : VRel env1 Z w v c :=
  h.mono (fun _ _ => rfl) (fun _ h => h) fun k e hk => ⟨e, he k e hk, Nat.le_refl _, fun _ => rfl⟩
theorem ownCs_sim {own : Bool} : ∀ (key : Nat) (ts : List LT) (vs : List AVal) (cs : List Value) (env : NE) (s s1 : F) (p : List AVal × Nat), Gives (ownCs own key ts vs) s p s1 → Rel X env Z s a w → VRels env Z w vs cs →
    ∃ env1, Rel X env1 Z s1 a w ∧ VRels env1 Z w p.1 cs ∧ (∀ l f, env l = some f → env1 l = some f)
  | key, t :: ts, v :: vs, cs, env, s, s1, p, h, hR, hv => by
    obtain ⟨c, ds, rfl, hc, hds⟩ := hv.inv
    simp only [ownCs] at h
    obtain ⟨u, s2, h1, h2⟩ := h.bind
    obtain ⟨q, s3, h3, h4⟩ := h2.bind
    obtain ⟨rfl, rfl⟩ := h4.ret
    obtain ⟨env1, r1, r2, r3⟩ := ownC_sim h1 hR hc
    obtain ⟨env2, q1, q2, q3⟩ := ownCs_sim (key + 1) ts vs ds env1 s2 _ q h3 r1 ⟨hds.1, fun i v c p1 p2 => (hds.2 i v c p1 p2).moreEnv r3⟩
    exact ⟨env2, q1, .cons (r2.moreEnv q3) q2, fun l f hl => q3 l f (r3 l f hl)⟩
  | key, [], vs, cs, env, s, s1, p, h, hR, hv => by
    have h' : Gives (.ret (vs, key)) s p s1 := by cases vs <;> exact h
    obtain ⟨rfl, rfl⟩ := h'.ret
    exact ⟨env, hR, hv, fun _ _ h => h⟩
  | key, t :: ts, [], cs, env, s, s1, p, h, hR, hv => by
    have h' : Gives (.ret (([] : List AVal), key)) s p s1 := h
    obtain ⟨rfl, rfl⟩ := h'.ret
    exact ⟨env, hR, hv, fun _ _ h => h⟩
theorem ownV_sim {own : Bool} {key : Nat} {t : TypeId} {v : AVal} {c : Value} {p : AVal × Nat} (h : Gives (ownV TT own key t v) s p s1) (hR : Rel X env Z s a w) (hv : VRel env Z w v c) :
    ∃ env1, Rel X env1 Z s1 a w ∧ VRel env1 Z w p.1 c ∧ (∀ l f, env l = some f → env1 l = some f) := by
  unfold ownV at h
  split at h
  · obtain ⟨rfl, rfl⟩ := h.ret
    exact ⟨env, hR, hv, fun _ _ h => h⟩
  · split at h
    · rename_i l
      obtain ⟨q, s2, h1, h2⟩ := h.bind
      obtain ⟨rfl, rfl⟩ := h2.ret
      cases hv with
      | agg _ cs hl hh =>
        obtain ⟨env1, q1, q2, q3⟩ := ownCs_sim key _ l cs.toList env s _ q h1 hR ⟨by simpa using hl, fun i v c q1 q2 => hh i v c q1 (by simpa using q2)⟩
        exact ⟨env1, q1, .agg _ _ (by have := q2.1; simpa using this) fun i v c p1 p2 => q2.2 i v c p1 (by simpa using p2), q3⟩
    · split at h
      · obtain ⟨u, s2, h1, h2⟩ := h.bind
        obtain ⟨rfl, rfl⟩ := h2.ret
        exact ownC_sim h1 hR hv
      · obtain ⟨rfl, rfl⟩ := h.ret
        exact ⟨env, hR, hv, fun _ _ h => h⟩
theorem doOp_sim (hT : TOk P TT) {C : FuncId → List AVal → List Blk → Call} {ownF : FuncId → Bool} (hC : COk P X.GL C) (hF : ∀ f us bs r, (C f us bs).o = some r → FOk P f) {key0 : Nat} {o : Oper} {v : AVal}
    (h : Gives (doOp TT TU X.GL C ownF key0 o) s v s1) (hR : Rel X env Z s a w) : Out P (Holds X s1 a v) ((execOp a.eval o).run P w) := by
  unfold doOp at h
  unfold execOp
  split at h
  · -- move
    rename_i x hop
    rw [hop]
    obtain ⟨rfl, hv⟩ := evalO_sim h hR
    exact ⟨env, Z, hR, hv⟩
  · -- assign
    rename_i x hop
    rw [hop]
    split at h
    · split at h
      · rename_i ti ht
        split at h
        · rename_i e hde
          split at h
          · rename_i te hte
            split at h
            · exact h.fail
            · obtain ⟨hk, rfl, rfl⟩ := h.newBlk
              obtain ⟨env', q1, q2⟩ := hR.newEmpty hk (T := e) (E := te.size) none
              exact ⟨env', Z, q1, q2⟩
          · exact h.fail
        · exact h.fail
      · exact h.fail
    · obtain ⟨rfl, hv⟩ := evalO_sim h hR
      exact ⟨env, Z, hR, hv⟩
  · -- pick
    rename_i c x y hop
    rw [hop]
    split at h
    · rename_i tt
      have hb : ∀ b, s.tmp tt = .sc (.bool b) → a.eval (.tmp tt) = .bool b := fun b hb => by
        have hlt : tt < s.N := by
          rcases Nat.lt_or_ge tt s.N with h | h
          · exact h
          · rw [hR.tmpo tt h] at hb; cases hb
        have := hR.tmps tt hlt
        rw [hb] at this
        generalize hx : a.tmps.getD tt undef = xx at this
        cases this
        exact hx
      rcases h.br with ⟨h1, h2⟩ | ⟨h1, h2⟩ | ⟨_, h2⟩
      · obtain ⟨rfl, hv⟩ := evalO_sim h2 hR
        simp only [hb true h1, asBool, Sem.run_bind, Sem.run_pure, Result.andThen_ok, if_true]
        exact ⟨env, Z, hR, hv⟩
      · obtain ⟨rfl, hv⟩ := evalO_sim h2 hR
        simp only [hb false h1, asBool, Sem.run_bind, Sem.run_pure, Result.andThen_ok, Bool.false_eq_true, if_false]
        exact ⟨env, Z, hR, hv⟩
      · exact h2.fail
    · exact h.fail
  · -- alloc
    rename_i T hop
    rw [hop]
    split at h
    · rename_i ti ht
      split at h
      · rename_i hsz
        obtain ⟨i, z, hi, hs, hbs, hz0, hz1, hlf, hzl, hone⟩ := hT.info T ti ht
        cases hot : ownF (ownTag + T) with
        | false =>
          rw [hot] at h
          obtain ⟨hk, rfl, rfl⟩ := h.newBlk
          obtain ⟨q1, q2, _⟩ := zero_sim (env := env) (Z := Z) (w := w) hone
          rw [← hz1] at q1 q2
          obtain ⟨env', r1, r2⟩ := hR.newBox hk (T := T) (cells := z.cells.toList.map ofCell) (cs := z.cells) q1 q2
          refine out_value (u := .pointer (some ⟨w.heap.size, 0, none⟩)) (w' := w.alloc (.cells z.cells T)) (by simp only [Instr.alloc, Sem.run_bind, run_zeroValue' hi hz0, Result.andThen_ok, newVar, run_newRow, Sem.run_pure]) ⟨env', Z, ?_, r2⟩
          rw [hz1, List.length_map, ← hsz] at r1
          exact r1
        | true =>
          rw [hot] at h
          obtain ⟨p, s2, h1, h2⟩ := h.bind
          obtain ⟨hc, h3⟩ := h2.assert
          obtain ⟨hk, rfl, rfl⟩ := h3.newBlk
          simp only [Bool.and_eq_true] at hc
          have hlen := nbeq_eq hc.1
          obtain ⟨env1, hR1, hv1, _⟩ := ownCs_sim (key0 + 1) ti.leaf (ti.zero.map ofCell) z.cells.toList env _ s2 p h1 hR (zero_rels hz1 hone)
          obtain ⟨env', r1, r2⟩ := hR1.newBox hk (T := T) (cells := p.1) (cs := z.cells) hv1 hc.2
          refine out_value (u := .pointer (some ⟨w.heap.size, 0, none⟩)) (w' := w.alloc (.cells z.cells T)) (by simp only [Instr.alloc, Sem.run_bind, run_zeroValue' hi hz0, Result.andThen_ok, newVar, run_newRow, Sem.run_pure]) ⟨env', Z, ?_, r2⟩
          rw [hlen] at r1
          exact r1
      · exact h.fail
    · exact h.fail
  · -- box
    rename_i T x hop
    rw [hop]
    obtain ⟨u, s2, h1, h2⟩ := h.bind
    obtain ⟨rfl, hv⟩ := evalO_sim h1 hR
    cases hro : ownF (roTag + T) with
    | true =>
      rw [hro] at h2
      simp only [cond_true] at h2
      cases hcl : cellish u with
      | false => rw [hcl] at h2; exact h2.fail
      | true =>
        rw [hcl] at h2
        simp only [cond_true] at h2
        obtain ⟨cs, s3, h3, h4⟩ := h2.bind
        obtain ⟨hc, h5⟩ := h4.assert
        obtain ⟨rfl, rfl⟩ := h5.ret
        obtain ⟨Z1, fz, hcs⟩ := snaps_sim (cellsA u) cs _ s2 _ Z h3 hR (cellsA_sim hv hcl)
        have hR1 : Rel X env Z1 s1 a w := by simpa using fz.rel
        obtain ⟨Z', r1, r2⟩ := hR1.newRo (T := T) hcs hc
        exact out_value (u := .pointer (some ⟨w.heap.size, 0, none⟩)) (w' := w.alloc (.cells (a.eval x).cells T)) (by simp only [Instr.box, newVar, Sem.run_bind, run_newRow, Result.andThen_ok, Sem.run_pure]) ⟨env, Z', r1, r2⟩
    | false =>
    rw [hro] at h2
    simp only [cond_false] at h2
    obtain ⟨hc, h3⟩ := h2.assert
    obtain ⟨hk, rfl, rfl⟩ := h3.newBlk
    have hcl : cellish u = true := by
      cases u <;> first | rfl | (simp [cellsA] at hc; exact hc)
    have hcells := cellsA_sim hv hcl
    obtain ⟨env', r1, r2⟩ := hR.newBox hk (T := T) (cells := cellsA u) (cs := (a.eval x).cells) hcells hc
    exact out_value (u := .pointer (some ⟨w.heap.size, 0, none⟩)) (w' := w.alloc (.cells (a.eval x).cells T)) (by simp only [Instr.box, newVar, Sem.run_bind, run_newRow, Result.andThen_ok, Sem.run_pure]) ⟨env', Z, r1, r2⟩
  · -- build
    rename_i T parts hop
    rw [hop]
    obtain ⟨vs, s2, h1, h2⟩ := h.bind
    obtain ⟨rfl, hv⟩ := evalOs_sim h1 hR
    split at h2
    · rename_i ti ht
      split at h2
      · rename_i fs hd
        split at h2
        · exact h2.fail
        · rename_i hall
          split at h2
          · rename_i cells hf
            have hall' : ∀ f ∈ fs.toList, (TT f.type).isSome = true := by
              simp only [Bool.not_eq_true', Bool.not_eq_false, Array.all_eq_true_iff_forall_mem] at hall
              exact fun f hf => hall f (Array.mem_toList_iff.1 hf)
            obtain ⟨c, q1, q2⟩ := build_sim hT ht hd hall' hv hf
            cases hot : ownF (ownTag + T) with
            | false =>
              rw [hot] at h2
              obtain ⟨rfl, rfl⟩ := h2.ret
              exact out_value q1 ⟨env, Z, hR, q2⟩
            | true =>
              rw [hot] at h2
              obtain ⟨p, s3, h3, h4⟩ := h2.bind
              obtain ⟨rfl, rfl⟩ := h4.ret
              obtain ⟨env1, r1, r2, _⟩ := ownV_sim h3 hR q2
              exact out_value q1 ⟨env1, Z, r1, r2⟩
          · exact h2.fail
      · rename_i len e hd
        split at h2
        · rename_i te hte
          split at h2
          · rename_i cells hf
            obtain ⟨rfl, rfl⟩ := h2.ret
            obtain ⟨c, q1, q2⟩ := buildArr_sim hT ht hd hte hv hf
            exact out_value q1 ⟨env, Z, hR, q2⟩
          · exact h2.fail
        · exact h2.fail
      · exact h2.fail
    · exact h2.fail
  · -- buildSlice
    rename_i T len parts hop
    rw [hop]
    obtain ⟨vs, s2, h1, h2⟩ := h.bind
    obtain ⟨rfl, hv⟩ := evalOs_sim h1 hR
    split at h2
    · rename_i ti ht
      split at h2
      · rename_i e hd
        split at h2
        · rename_i te hte
          split at h2
          · exact h2.fail
          · rename_i hne
            split at h2
            · exact h2.fail
            · rename_i hmax
              split at h2
              · rename_i cells hf
                obtain ⟨c, w', env', Z', q1, q2, q3⟩ := buildSlice_sim hT ht hd hte hne hmax hv hf h2 hR
                exact out_value q1 ⟨env', Z', q2, q3⟩
              · exact h2.fail
        · exact h2.fail
      · exact h2.fail
    · exact h2.fail
  · -- load
    rename_i T x hop
    rw [hop]
    obtain ⟨u, s2, h1, h2⟩ := h.bind
    obtain ⟨rfl, hv⟩ := evalO_sim h1 hR
    obtain ⟨rfl, c, q1, q2⟩ := loadOp_sim hT h2 hR hv
    exact out_value q1 ⟨env, Z, hR, q2⟩
  · -- store
    rename_i T x y hop
    rw [hop]
    obtain ⟨u, s2, h1, h2⟩ := h.bind
    obtain ⟨rfl, hv⟩ := evalO_sim h1 hR
    obtain ⟨u', s3, h3, h4⟩ := h2.bind
    obtain ⟨rfl, hv'⟩ := evalO_sim h3 hR
    obtain ⟨w', env', Z', q1, q2, rfl⟩ := storeA_sim hT h4 hR hv hv'
    exact out_skip q1 ⟨env', Z', q2, .sc _⟩
  · -- nilCheck
    rename_i x hop
    rw [hop]
    obtain ⟨u, s2, h1, h2⟩ := h.bind
    obtain ⟨rfl, hv⟩ := evalO_sim h1 hR
    split at h2
    · rename_i k n i j
      have h3 := h2.getK
      split at h3
      · rename_i b hb
        obtain ⟨hc, h4⟩ := h3.assert
        obtain ⟨rfl, rfl⟩ := h4.ret
        obtain ⟨e, he, _⟩ := hv.ref_ent
        obtain ⟨_, g, hg, hp⟩ := hv.inv_ref he (by rw [(hR.blk k b e hb he).hn]; exact (nbeq_eq hc).symm)
        dsimp only
        rw [hp]
        exact ⟨env, Z, hR, by rw [← hp]; exact hv⟩
      · exact h3.fail
    · obtain ⟨rfl, rfl⟩ := h2.ret
      dsimp only
      generalize hx : a.eval x = xx at hv
      cases hv with
      | rptr _ b o f hz hc hh => exact ⟨env, Z, hR, .rptr _ b o f hz hc hh⟩
    · exact h2.fail
  · -- binOp
    rename_i op T x y Ty hop
    rw [hop]
    split at h
    · obtain ⟨u, s2, h1, h2⟩ := h.bind
      obtain ⟨rfl, hv⟩ := evalO_sim h1 hR
      obtain ⟨rfl, c, q1, q2⟩ := nilA_sim hT (ox := x) (oy := .const (.slice none 0 0)) h2 hv
      exact out_value q1 ⟨env, Z, hR, q2⟩
    · obtain ⟨u, s2, h1, h2⟩ := h.bind
      obtain ⟨rfl, hv⟩ := evalO_sim h1 hR
      obtain ⟨rfl, c, q1, q2⟩ := nilA_sim hT (ox := x) (oy := .const (.slice none 0 0)) h2 hv
      exact out_value q1 ⟨env, Z, hR, q2⟩
    · obtain ⟨u, s2, h1, h2⟩ := h.bind
      obtain ⟨rfl, hv⟩ := evalO_sim h1 hR
      obtain ⟨u', s3, h3, h4⟩ := h2.bind
      obtain ⟨rfl, hv'⟩ := evalO_sim h3 hR
      obtain ⟨rfl, c, q1, q2⟩ := binOpA_sim hT (ox := x) (oy := y) h4 hv hv'
      exact out_value q1 ⟨env, Z, hR, q2⟩
  · -- a function's value
    rename_i f first caps hop
    rw [hop]
    split at h
    · rename_i he
      obtain ⟨vs, s2, h1, h2⟩ := h.bind
      obtain ⟨rfl, hv⟩ := evalOs_sim h1 hR
      obtain ⟨rfl, rfl⟩ := h2.ret
      have hf : first = #[] := by simpa using he
      subst hf
      exact out_value (u := .func (.func f) #[] (caps.map a.eval)) (w' := w) (by simp [Instr.makeFunc]) ⟨env, Z, hR, .clo f vs _ (by have := hv.1; simpa using this) fun i v c q1 q2 => hv.2 i v c q1 (by simpa using q2)⟩
    · exact h.fail
  · -- unOp
    rename_i op T x hop
    rw [hop]
    obtain ⟨u, s2, h1, h2⟩ := h.bind
    obtain ⟨rfl, hv⟩ := evalO_sim h1 hR
    obtain ⟨rfl, c, q1, q2⟩ := unOpA_sim (P := P) h2 hv
    exact out_value q1 ⟨env, Z, hR, q2⟩
  · -- convert
    rename_i S D x hop
    rw [hop]
    split at h
    · rename_i ts hts
      obtain ⟨u, s2, h1, h2⟩ := h.bind
      obtain ⟨rfl, hv⟩ := evalO_sim h1 hR
      obtain ⟨rfl, c, q1, q2⟩ := convA_sim hT (src := S) ⟨_, hT.desc _ _ hts⟩ h2 hv
      exact out_value q1 ⟨env, Z, hR, q2⟩
    · exact h.fail
  · -- makeSlice
    rename_i T l c hop
    rw [hop]
    obtain ⟨u, s2, h1, h2⟩ := h.bind
    obtain ⟨rfl, hv⟩ := evalO_sim h1 hR
    obtain ⟨u', s3, h3, h4⟩ := h2.bind
    obtain ⟨rfl, hv'⟩ := evalO_sim h3 hR
    obtain ⟨c, w', env', q1, q2, q3⟩ := makeSliceA_sim hT h4 hR hv hv'
    exact out_value q1 ⟨env', Z, q2, q3⟩
  · -- slice
    rename_i T x lo hi mx hop
    rw [hop]
    split at h
    · -- s[:0:0]
      rename_i m
      split at h
      · obtain ⟨u, s2, h1, h2⟩ := h.bind
        obtain ⟨rfl, hv⟩ := evalO_sim h1 hR
        split at h2
        · rename_i ti ht
          split at h2
          · rename_i e hd
            split at h2
            · rename_i te hte
              obtain ⟨p, s3, h3, h4⟩ := h2.bind
              obtain ⟨rfl, base, cap, hb, _⟩ := rowsOfA_sim h3 hR hv
              obtain ⟨rfl, rfl⟩ := h4.ret
              obtain ⟨ie, z, hie, _⟩ := hT.info e te hte
              have hdd := hT.desc _ _ ht
              rw [hd] at hdd
              have hsb : ∀ (y : Nat) (code : BoundsCode), (Instr.sliceBound (.int .i64 0) y code).run P w = .ok 0 w := fun y code => by
                simp only [Instr.sliceBound, asIntOf, Sem.run_bind, Sem.run_pure, Result.andThen_ok]
                rw [if_pos ⟨by omega, by omega⟩]
                rfl
              refine out_value (u := .slice base 0 0) (w' := w) ?_ ⟨env, Z, hR, .emp _⟩
              have hk : (Option.map a.eval (some (.const (.int .i64 0)))) = some (.int .i64 0) := rfl
              have hm : ∀ mm, (Option.map a.eval (some (.const mm))) = some mm := fun _ => rfl
              rw [hb]
              simp only [Option.map_none, hm, Instr.sliceAt, Sem.run_bind, run_underlying hdd, Result.andThen_ok, Instr.slice]
              simp only [Instr.sliceBounds, Sem.run_bind, hsb, Result.andThen_ok, Sem.run_pure, run_sizeOf' hie, if_true]
            · exact h2.fail
          · exact h2.fail
        · exact h2.fail
      · exact h.fail
    · obtain ⟨u, s2, h1, h2⟩ := h.bind
      obtain ⟨rfl, hv⟩ := evalO_sim h1 hR
      have opt : ∀ {x : Option Operand} {v : Option AVal} {s s1 : F}, Gives (evalOpt X.GL x) s v s1 → Rel X env Z s a w → s1 = s ∧ (∀ u, v = some u → ∃ c, x.map a.eval = some c ∧ VRel env Z w u c) ∧ (v = none → x.map a.eval = none) := by
        intro x v s s1 h hR
        unfold evalOpt at h
        split at h
        · obtain ⟨rfl, rfl⟩ := h.ret
          exact ⟨rfl, fun u hu => (by cases hu), fun _ => rfl⟩
        · obtain ⟨v', s2, h1, h2⟩ := h.bind
          obtain ⟨rfl, hv⟩ := evalO_sim h1 hR
          obtain ⟨rfl, rfl⟩ := h2.ret
          exact ⟨rfl, fun u hu => by simp only [Option.some.injEq] at hu; subst hu; exact ⟨_, rfl, hv⟩, fun h => by cases h⟩
      obtain ⟨l, s3, h3, h4⟩ := h2.bind
      obtain ⟨rfl, hl1, hl2⟩ := opt h3 hR
      obtain ⟨hh, s4, h5, h6⟩ := h4.bind
      obtain ⟨rfl, hh1, hh2⟩ := opt h5 hR
      split at h6
      · rename_i ti ht
        split at h6
        · rename_i e hd
          split at h6
          · rename_i te hte
            obtain ⟨rfl, c, q1, q2⟩ := sliceA_sim hT ht hd hte h6 hv hl1 hl2 hh1 hh2
            exact out_value q1 ⟨env, Z, hR, q2⟩
          · exact h6.fail
        · exact h6.fail
      · exact h6.fail
  · -- fieldAddr
    rename_i T x f hop
    rw [hop]
    obtain ⟨u, s2, h1, h2⟩ := h.bind
    obtain ⟨rfl, hv⟩ := evalO_sim h1 hR
    obtain ⟨rfl, c, q1, q2⟩ := fieldAddrA_sim hT h2 hR hv
    exact out_value q1 ⟨env, Z, hR, q2⟩
  · -- field
    rename_i T x f hop
    rw [hop]
    obtain ⟨u, s2, h1, h2⟩ := h.bind
    obtain ⟨rfl, hv⟩ := evalO_sim h1 hR
    obtain ⟨rfl, c, q1, q2⟩ := fieldA_sim hT h2 hv
    exact out_value q1 ⟨env, Z, hR, q2⟩
  · -- indexAddr
    rename_i T x i hop
    rw [hop]
    obtain ⟨u, s2, h1, h2⟩ := h.bind
    obtain ⟨rfl, hv⟩ := evalO_sim h1 hR
    obtain ⟨u', s3, h3, h4⟩ := h2.bind
    obtain ⟨rfl, hv'⟩ := evalO_sim h3 hR
    split at h4
    · generalize hxi : a.eval i = xi at hv'
      cases hv'
      obtain ⟨rfl, c, q1, q2⟩ := indexAddrA_sim hT h4 hR hv
      exact out_value (by rw [hxi]; exact q1) ⟨env, Z, hR, q2⟩
    · exact h4.fail
  · -- index
    rename_i T x i hop
    rw [hop]
    obtain ⟨u, s2, h1, h2⟩ := h.bind
    obtain ⟨rfl, hv⟩ := evalO_sim h1 hR
    obtain ⟨u', s3, h3, h4⟩ := h2.bind
    obtain ⟨rfl, hv'⟩ := evalO_sim h3 hR
    split at h4
    · generalize hxi : a.eval i = xi at hv'
      cases hv'
      obtain ⟨rfl, c, q1, q2⟩ := indexA_sim hT h4 hv
      exact out_value (by rw [hxi]; exact q1) ⟨env, Z, hR, q2⟩
    · exact h4.fail
  · -- extract
    rename_i x i hop
    rw [hop]
    obtain ⟨u, s2, h1, h2⟩ := h.bind
    obtain ⟨rfl, hv⟩ := evalO_sim h1 hR
    split at h2
    · split at h2
      · rename_i l _ v' hl
        obtain ⟨rfl, rfl⟩ := h2.ret
        generalize hx : a.eval x = xx at hv
        cases hv with
        | tup _ cs hlen hh =>
          have hlt : i < cs.size := by rw [← hlen]; exact (List.getElem?_eq_some_iff.1 hl).1
          refine out_value (u := cs[i]) (w' := w) ?_ ⟨env, Z, hR, hh i _ _ hl (by simp [hlt])⟩
          rw [hx]
          simp [Instr.extract, hlt]
      · exact h2.fail
    · exact h2.fail
  · -- a call
    rename_i c hop
    rw [hop]
    split at h
    · rename_i f hcal
      obtain ⟨vs, s2, h1, h2⟩ := h.bind
      obtain ⟨rfl, hv⟩ := evalOs_sim h1 hR
      have hv' : VRels env Z w vs (c.args.map a.eval).toList := by simpa using hv
      have hcall := callA_sim (P := P) hC h2 hR hv'
      have hok : FOk P f := callA_fok hF h2
      obtain ⟨fn, hfn, hname, hbody⟩ := hok
      have hrun : (do let d ← resolve a.eval c o.type; invoke d.target d.args : Sem Next).run P w = .ok (.enter f (c.args.map a.eval)) w := by
        simp only [resolve, hcal, Act.eval, Deferred.ofValue, Sem.run_bind, Sem.run_pure, Result.andThen_ok, invoke, callFunc, run_program, hfn, hname, hbody, Bool.false_eq_true, if_false, Array.append_empty, Array.empty_append]
      show Out P (Holds X s1 a v) ((do let d ← resolve a.eval c o.type; invoke d.target d.args : Sem Next).run P w)
      rw [hrun]
      exact hcall.mono fun e w' ⟨c, env', Z', he, q1, q2⟩ => ⟨c, he, env', Z', q1, q2⟩
    · rename_i tt hcal
      obtain ⟨g, s2, h1, h2⟩ := h.bind
      obtain ⟨rfl, hg⟩ := evalO_sim h1 hR
      split at h2
      · rename_i f l
        obtain ⟨vs, s3, h3, h4⟩ := h2.bind
        obtain ⟨rfl, hv⟩ := evalOs_sim h3 hR
        generalize hx : a.eval (.tmp tt) = fv at hg
        cases hg with
        | clo _ _ cs hl hh =>
          have hv' : VRels env Z w (vs ++ l) ((c.args.map a.eval) ++ cs).toList := by
            rw [Array.toList_append]
            exact VRels.append (by simpa using hv) ⟨by simpa using hl, fun i v c q1 q2 => hh i v c q1 (by simpa using q2)⟩
          have hcall := callA_sim (P := P) hC h4 hR hv'
          have hok : FOk P f := callA_fok hF h4
          obtain ⟨fn, hfn, hname, hbody⟩ := hok
          have hrun : (do let d ← resolve a.eval c o.type; invoke d.target d.args : Sem Next).run P w = .ok (.enter f (c.args.map a.eval ++ cs)) w := by
            simp only [resolve, hcal, hx, Deferred.ofValue, Sem.run_bind, Sem.run_pure, Result.andThen_ok, invoke, callFunc, run_program, hfn, hname, hbody, Bool.false_eq_true, if_false, Array.empty_append]
          show Out P (Holds X s1 a v) ((do let d ← resolve a.eval c o.type; invoke d.target d.args : Sem Next).run P w)
          rw [hrun]
          exact hcall.mono fun e w' ⟨c, env', Z', he, q1, q2⟩ => ⟨c, he, env', Z', q1, q2⟩
      · exact h2.fail
    · rename_i b hcal
      obtain ⟨vs, s2, h1, h2⟩ := h.bind
      obtain ⟨rfl, hv⟩ := evalOs_sim h1 hR
      unfold builtinA at h2
      have hres : ∀ (b : Builtin), c.callee = .builtin b → (do let d ← resolve a.eval c o.type; invoke d.target d.args : Sem Next) = builtin b c.argTypes o.type (c.args.map fun | .const _ => true | _ => false) (c.args.map a.eval) := by
        intro b hb
        unfold resolve
        rw [hb]
        rfl
      show Out P (Holds X s1 a v) ((do let d ← resolve a.eval c o.type; invoke d.target d.args : Sem Next).run P w)
      rw [hres _ hcal]
      have hargs : (c.args.map a.eval) = (c.args.toList.map a.eval).toArray := by apply Array.ext'; simp
      have hts : c.argTypes = c.argTypes.toList.toArray := rfl
      split at h2
      · rename_i t' v' ht
        obtain ⟨d, ds, hde, hd, hds⟩ := hv.inv
        have := hds.inv_nil
        subst this
        obtain ⟨rfl, u, q1, q2⟩ := lenA_sim hT (ty := o.type) h2 hR hd
        rw [hargs, hde, hts, ht]
        exact out_value q1 ⟨env, Z, hR, q2⟩
      · obtain ⟨rfl, u, q1, q2⟩ := maxA_sim (P := P) (ts := c.argTypes) (ty := o.type) h2 hv
        rw [hargs]
        exact out_value q1 ⟨env, Z, hR, q2⟩
      · obtain ⟨rfl, u, q1, q2⟩ := minA_sim (P := P) (ts := c.argTypes) (ty := o.type) h2 hv
        rw [hargs]
        exact out_value q1 ⟨env, Z, hR, q2⟩
      · rename_i t' u' sv xv ht
        split at h2
        · rename_i htu
          subst htu
          obtain ⟨d, ds, hde, hd, hds⟩ := hv.inv
          obtain ⟨d', ds', rfl, hd', hds'⟩ := hds.inv
          have := hds'.inv_nil
          subst this
          obtain ⟨u, w', env', q1, q2, q3⟩ := appendA_sim hT (ty := o.type) h2 hR hd hd'
          rw [hargs, hde, hts, ht]
          exact out_value q1 ⟨env', Z, q2, q3⟩
        · exact h2.fail
      · rename_i t' u' sv xv ht
        obtain ⟨d, ds, hde, hd, hds⟩ := hv.inv
        obtain ⟨d', ds', rfl, hd', hds'⟩ := hds.inv
        have := hds'.inv_nil
        subst this
        obtain ⟨u, w', env', q1, q2, q3⟩ := copyA_sim hT (t' := u') (ty := o.type) h2 hR hd hd'
        rw [hargs, hde, hts, ht]
        exact out_value q1 ⟨env', Z, q2, q3⟩
      · exact h2.fail
    · exact h.fail
  · exact h.fail
end
end
section
open Go.RowKit
section
variable {P : Program} {TT : TypeId → Option TI} {TU : TypeId → Option (List TypeId)} {X : Ctx} {env : NE} {Z : Nat → Prop} {s s1 : F} {a : Act} {w : World} {t : TypeId} {n : Nat}
variable {C : FuncId → List AVal → List Blk → Call} {ownF : FuncId → Bool} {Q : Exit → Act → World → Prop}
def RelE (X : Ctx) (s : F) (a : Act) (w : World) : Prop := ∃ env Z, Rel X env Z s a w
theorem Rel.putDst (h : Rel X env Z s a w) {d : Option Tmp} {v : AVal} {c : Value} {s' : F} (hv : VRel env Z w v c) (hd : Gives (setDst d v) s () s') : Rel X env Z s' (a.put d c) w := by
  unfold setDst at hd
  split at hd
  · obtain ⟨_, rfl⟩ := hd.ret
    exact h
  · obtain ⟨hlt, h2⟩ := hd.setT
    obtain ⟨_, rfl⟩ := h2.ret
    exact h.setT hv hlt
theorem perform_sim (hT : TOk P TT) (hC : COk P X.GL C) (hF : ∀ f us bs r, (C f us bs).o = some r → FOk P f) {key0 : Nat} {o : Oper} {s' : F}
    (h : Gives (perform TT TU X.GL C ownF key0 o) s () s') (hR : Rel X env Z s a w) {K : Act → World → Prop} (hK : ∀ a' w', RelE X s' a' w' → K a' w') : o.wp P a w K Q := by
  unfold perform at h
  obtain ⟨v, s1, h1, h2⟩ := h.bind
  have hO := doOp_sim hT hC hF h1 hR
  unfold Oper.wp
  generalize (execOp a.eval o).run P w = r at hO
  cases r with
  | ok n w' =>
    cases n with
    | value c =>
      obtain ⟨env', Z', q1, q2⟩ := hO
      exact hK _ _ ⟨env', Z', q1.putDst q2 h2⟩
    | skip =>
      obtain ⟨env', Z', q1, q2⟩ := hO
      exact hK _ _ ⟨env', Z', q1.putDst q2 h2⟩
    | enter f args =>
      refine Calls.mono hO fun e w'' ⟨c, he, env', Z', q1, q2⟩ => ?_
      subst he
      exact hK _ _ ⟨env', Z', q1.putDst q2 h2⟩
    | _ => exact hO.elim
  | halt x w' => exact hO.elim
theorem aop_sim (hT : TOk P TT) (hC : COk P X.GL C) (hF : ∀ f us bs r, (C f us bs).o = some r → FOk P f) {key0 : Nat} {o : Oper} {s' : F} {ops : Array Oper} {i : Nat} (hi : ops[i]? = some o)
    (h : Gives (aop TT TU X.GL C ownF ops key0 o) s () s') (hR : RelE X s a w) {K : Act → World → Prop} (hK : ∀ a' w', RelE X s' a' w' → K a' w') : wpOp P ops Q i K a w := by
  obtain ⟨env, Z, hR⟩ := hR
  unfold wpOp
  simp only [hi]
  unfold aop at h
  cases hg : o.guard with
  | none =>
    rw [hg] at h
    simp only [Region.wanted, hg, if_true]
    exact .inl (perform_sim hT hC hF h hR hK)
  | some jw =>
    obtain ⟨j, want⟩ := jw
    rw [hg] at h
    simp only at h
    cases hd : (ops[j]?).bind (·.dst) with
    | none => rw [hd] at h; exact h.fail
    | some d =>
      rw [hd] at h
      simp only at h
      have skip : ∀ {s' : F}, Gives (skipOp o) s () s' → RelE X s' (a.put o.dst undef) w := fun h2 => ⟨env, Z, hR.putDst (.sc undef) h2⟩
      have val : ∀ x, s.tmp d = .sc x → a.tmps[d]? = some x := fun x hx => by
        have hlt : d < s.N := by
          rcases Nat.lt_or_ge d s.N with h | h
          · exact h
          · rw [hR.tmpo d h] at hx; cases hx
        have := hR.tmps d hlt
        rw [hx] at this
        have hsz := hR.size
        have hlt' : d < a.tmps.size := by rw [hsz]; exact hlt
        generalize hc : a.tmps.getD d undef = c at this
        cases this
        simp [hlt'] at hc ⊢
        exact hc
      have yb : ∀ b, s.tmp d = .sc (.bool b) → yielded ops a.tmps j = some b := fun b hb => by
        simp only [yielded, hd, Option.bind_some, val _ hb]
      simp only [Region.wanted, hg]
      rcases h.br with ⟨h1, h2⟩ | ⟨h1, h2⟩ | ⟨h1, h2⟩
      · cases want with
        | true =>
          simp only [cond_true] at h2
          simp only [yb _ h1, beq_self_eq_true, if_true]
          exact .inl (perform_sim hT hC hF h2 hR hK)
        | false =>
          simp only [cond_false] at h2
          simp only [yb _ h1]
          exact hK _ _ (skip h2)
      · cases want with
        | false =>
          simp only [cond_false] at h2
          simp only [yb _ h1, beq_self_eq_true, if_true]
          exact .inl (perform_sim hT hC hF h2 hR hK)
        | true =>
          simp only [cond_true] at h2
          simp only [yb _ h1]
          exact hK _ _ (skip h2)
      · cases hn : notBool (s.tmp d) with
        | false => rw [hn] at h2; exact h2.fail
        | true =>
          rw [hn] at h2
          simp only [cond_true] at h2
          have hy : yielded ops a.tmps j = none := by
            cases hx : s.tmp d with
            | sc x =>
              simp only [yielded, hd, Option.bind_some, val x hx]
              cases x <;> first | rfl | exact absurd hx (h1 _)
            | _ => rw [hx] at hn; cases hn
          simp only [hy]
          exact hK _ _ (skip h2)
def opM (TT : TypeId → Option TI) (TU : TypeId → Option (List TypeId)) (GL : Nat → Option (List AVal)) (C : FuncId → List AVal → List Blk → Call) (ownF : FuncId → Bool) (ops : Array Oper) (id : Nat) (i : Nat) : AM Unit :=
  match ops[i]? with
  | some o => aop TT TU GL C ownF ops ((1000 + 200 * id + i) * 16) o
  | none => .ret ()
theorem goOps_run {GL : Nat → Option (List AVal)} {ops : Array Oper} {id : Nat} : ∀ (rest : List Oper) (i : Nat) (logs : List (List Ev)) (s : St) (k : St → List (List Ev) → Option CR) (r : CR),
    (∀ j o, rest[j]? = some o → ops[i + j]? = some o) → goOps TT TU GL C ownF ops id rest i logs s k = some r →
    ∃ (st : Nat → F) (es : Nat → List Ev) (s' : St), st i = s.toF ∧ st (i + rest.length) = s'.toF ∧ s'.tmps.length = s.tmps.length ∧
      (∀ j, j < rest.length → (opM TT TU GL C ownF ops id (i + j)).trace (st (i + j)) = some ((), st (i + j + 1), es (i + j))) ∧
      k s' (((List.range rest.length).reverse.map fun j => (es (i + j)).reverse) ++ logs) = some r
  | [], i, logs, s, k, r, hrest, h => ⟨fun _ => s.toF, fun _ => [], s, rfl, rfl, rfl, fun j hj => by simp at hj, by simpa [goOps] using h⟩
  | o :: rest, i, logs, s, k, r, hrest, h => by
    simp only [goOps] at h
    obtain ⟨u, s1, es1, h1, h2, h3⟩ := run_trace _ _ _ _ _ h
    obtain ⟨st, es, s', q1, q2, q3, q4, q5⟩ := goOps_run rest (i + 1) _ s1 k r (fun j o' hj => by
      have := hrest (j + 1) o' (by simpa using hj)
      rw [show i + 1 + j = i + (j + 1) by omega]; exact this) h2
    have hlast : i + 1 + rest.length = i + (o :: rest).length := by simp; omega
    refine ⟨fun j => if j = i then s.toF else st j, fun j => if j = i then es1 else es j, s', if_pos rfl, ?_, by omega, ?_, ?_⟩
    · simp only
      rw [if_neg (by simp), ← hlast]; exact q2
    · intro j hj
      simp only
      cases j with
      | zero =>
        simp only [Nat.add_zero, if_true]
        rw [if_neg (by omega), q1]
        have h0 := hrest 0 o rfl
        simp only [Nat.add_zero] at h0
        simp only [opM, h0]
        exact h1
      | succ j =>
        rw [if_neg (by omega), if_neg (by omega), if_neg (by omega)]
        have := q4 j (by simpa using hj)
        rw [show i + (j + 1) = i + 1 + j by omega]
        exact this
    · have : (List.range (o :: rest).length).reverse.map (fun j => ((fun j => if j = i then es1 else es j) (i + j)).reverse) = (List.range rest.length).reverse.map (fun j => (es (i + 1 + j)).reverse) ++ [es1.reverse] := by
        rw [List.length_cons, List.range_succ_eq_map, List.reverse_cons, List.map_append, ← List.map_reverse, List.map_map]
        congr 1
        · apply List.map_congr_left
          intro j _
          simp only [Function.comp]
          rw [if_neg (by omega)]
          rw [show i + Nat.succ j = i + 1 + j by omega]
        · simp
      rw [this, List.append_assoc]
      simpa using q5
theorem range_wpOps {ops : Array Oper} (K : Nat → Act → World → Prop) {m : Nat} (hlast : ∀ a w, K m a w → Q .normal a w) (hstep : ∀ i, i < m → ∀ a w (k : Act → World → Prop), (∀ a w, K (i + 1) a w → k a w) → K i a w → wpOp P ops Q i k a w) :
    ∀ d i, i + d = m → ∀ a w, K i a w → wpOps P ops Q ((List.range m).drop i) a w := by
  intro d
  induction d with
  | zero =>
    intro i hi a w h
    have : i = m := by omega
    subst this
    simp only [List.drop_eq_nil_of_le (as := List.range i) (i := i) (by simp), wpOps]
    exact hlast _ _ h
  | succ d ih =>
    intro i hi a w h
    have hlt : i < (List.range m).length := by simp; omega
    rw [List.drop_eq_getElem_cons hlt, wpOps_cons]
    simp only [List.getElem_range]
    exact hstep i (by omega) a w _ (fun a w h => ih (i + 1) (by omega) a w h) h
end
end
section
open Go.RowKit
def beforeStep (acc : Array Nat) (o : Oper) : Array Nat :=
  acc.push (o.after.foldl (fun s e => if Region.binds .any e then s ||| 2 ^ e.on ||| acc.getD e.on 0 else s) 0)
theorem bits_fold (A : Array Nat) (i : Nat) : ∀ (l : List Edge) (s : Nat), (l.foldl (fun s e => if Region.binds .any e then s ||| 2 ^ e.on ||| A.getD e.on 0 else s) s).testBit i = true →
    s.testBit i = true ∨ ∃ e ∈ l, Region.binds .any e = true ∧ (i = e.on ∨ (A.getD e.on 0).testBit i = true)
  | [], s, h => .inl h
  | e :: l, s, h => by
    simp only [List.foldl_cons] at h
    rcases bits_fold A i l _ h with h1 | ⟨e', he, hb⟩
    · by_cases hbd : Region.binds .any e = true
      · rw [if_pos hbd] at h1
        simp only [Nat.testBit_or, Bool.or_eq_true] at h1
        rcases h1 with (h1 | h1) | h1
        · exact .inl h1
        · refine .inr ⟨e, .head _, hbd, .inl ?_⟩
          rw [Nat.testBit_two_pow] at h1
          exact (of_decide_eq_true h1).symm
        · exact .inr ⟨e, .head _, hbd, .inr h1⟩
      · rw [if_neg hbd] at h1; exact .inl h1
    · exact .inr ⟨e', .tail _ he, hb⟩
theorem before_go : ∀ (l : List Oper) (acc : Array Nat), acc.size + l.length = (l.foldl beforeStep acc).size ∧ (∀ j, j < acc.size → (l.foldl beforeStep acc).getD j 0 = acc.getD j 0) ∧
    ∀ j o i, l[j]? = some o → ((l.foldl beforeStep acc).getD (acc.size + j) 0).testBit i = true →
      ∃ e ∈ o.after, Region.binds .any e = true ∧ (i = e.on ∨ ((l.foldl beforeStep acc).getD e.on 0).testBit i = true)
  | [], acc => ⟨rfl, fun _ _ => rfl, fun j o i h => by simp at h⟩
  | o :: l, acc => by
    obtain ⟨h1, h2, h3⟩ := before_go l (beforeStep acc o)
    have hs : (beforeStep acc o).size = acc.size + 1 := by simp [beforeStep]
    have keep : ∀ j, j < acc.size → (beforeStep acc o).getD j 0 = acc.getD j 0 := fun j hj => by
      simp only [beforeStep, Array.getD_eq_getD_getElem?]
      rw [Array.getElem?_push_lt hj]
      simp [hj]
    refine ⟨by simp only [List.foldl_cons, List.length_cons]; omega, fun j hj => by rw [List.foldl_cons, h2 j (by omega), keep j hj], fun j o' i hj hb => ?_⟩
    rw [List.foldl_cons] at hb ⊢
    cases j with
    | zero =>
      simp only [List.getElem?_cons_zero, Option.some.injEq] at hj
      subst hj
      rw [h2 _ (by omega)] at hb
      have : (beforeStep acc o).getD (acc.size + 0) 0 = o.after.foldl (fun s e => if Region.binds .any e then s ||| 2 ^ e.on ||| acc.getD e.on 0 else s) 0 := by
        simp [beforeStep]
      rw [this, ← Array.foldl_toList] at hb
      rcases bits_fold acc i _ _ hb with h0 | ⟨e, he, hbd, h0⟩
      · simp at h0
      · refine ⟨e, Array.mem_toList_iff.1 he, hbd, h0.imp id fun h0 => ?_⟩
        have hlt : e.on < acc.size := by
          rcases Nat.lt_or_ge e.on acc.size with h | h
          · exact h
          · simp [Array.getD_eq_getD_getElem?, Array.getElem?_eq_none h] at h0
        rw [h2 _ (by omega), keep _ hlt]
        exact h0
    | succ j =>
      exact h3 j o' i (by simpa using hj) (by rw [hs, show acc.size + 1 + j = acc.size + (j + 1) by omega]; exact hb)
theorem before_spec {ops : Array Oper} {j i : Nat} {o : Oper} (hj : ops[j]? = some o) (h : ((Region.before ops).getD j 0).testBit i = true) :
    ∃ e ∈ o.after, Region.binds .any e = true ∧ (i = e.on ∨ ((Region.before ops).getD e.on 0).testBit i = true) := by
  have heq : Region.before ops = ops.toList.foldl beforeStep #[] := by
    unfold Region.before
    rw [← Array.foldl_toList]
    rfl
  rw [heq] at h ⊢
  exact (before_go ops.toList #[]).2.2 j o i (by simpa using hj) (by simpa using h)
theorem before_lt {ops : Array Oper} {j i : Nat} (h : ((Region.before ops).getD j 0).testBit i = true) : j < ops.size := by
  have heq : Region.before ops = ops.toList.foldl beforeStep #[] := by
    unfold Region.before
    rw [← Array.foldl_toList]
    rfl
  have hs := (before_go ops.toList #[]).1
  rw [← heq] at hs
  rcases Nat.lt_or_ge j ops.size with h' | h'
  · exact h'
  · have : (Region.before ops).size ≤ j := by simp at hs; omega
    simp [Array.getD_eq_getD_getElem?, Array.getElem?_eq_none this] at h
theorem edgesOk_spec {ops : Array Oper} (h : edgesOk ops = true) {j : Nat} {o : Oper} (hj : ops[j]? = some o) {e : Edge} (he : e ∈ o.after) (hb : Region.binds .any e = true) : e.on < j := by
  unfold edgesOk at h
  rw [List.all_eq_true] at h
  have hm : (o, j) ∈ ops.toList.zipIdx := by
    rw [List.mem_zipIdx_iff_getElem?]
    simpa using hj
  have h1 := h (o, j) hm
  have h2 := Array.all_eq_true_iff_forall_mem.1 h1 e he
  simp only [hb, Bool.not_true, Bool.false_or] at h2
  exact nblt h2
theorem conflict_of {a b : List Ev} (h : clash a b) : conflict a.reverse b.reverse = true := by
  unfold conflict
  rw [List.any_eq_true]
  obtain ⟨l, ⟨⟨e, he, hw, hl⟩, ⟨f, hf, hl'⟩⟩ | ⟨⟨e, he, hl⟩, ⟨f, hf, hw, hl'⟩⟩⟩ := h
  · refine ⟨e, by simpa using he, ?_⟩
    rw [List.any_eq_true]
    exact ⟨f, by simpa using hf, by rw [hw, (Loc.beq_iff _ _).2 (hl.trans hl'.symm)]; rfl⟩
  · refine ⟨e, by simpa using he, ?_⟩
    rw [List.any_eq_true]
    exact ⟨f, by simpa using hf, by rw [hw, (Loc.beq_iff _ _).2 (hl.trans hl'.symm)]; simp⟩
theorem ordOne_spec {B : Array Nat} {j : Nat} {e : List Ev} (L : Nat → List Ev) : ∀ m, ordOne B j e m ((List.range m).reverse.map L) = true → ∀ i, i < m → conflict (L i) e = true → (B.getD j 0).testBit i = true
  | 0, _, i, hi, _ => by omega
  | m + 1, h, i, hi, hc => by
    rw [List.range_succ, List.reverse_append] at h
    simp only [List.reverse_cons, List.reverse_nil, List.nil_append, List.singleton_append, List.map_cons, ordOne, Nat.add_sub_cancel, Bool.and_eq_true, Bool.or_eq_true, Bool.not_eq_true'] at h
    by_cases e' : i = m
    · subst e'
      rcases h.1 with h1 | h1
      · rw [hc] at h1; cases h1
      · exact h1
    · exact ordOne_spec L m h.2 i (by omega) hc
theorem ordAll_spec {B : Array Nat} (L : Nat → List Ev) : ∀ m, ordAll B m ((List.range m).reverse.map L) = true → ∀ j, j < m → ∀ i, i < j → conflict (L i) (L j) = true → (B.getD j 0).testBit i = true
  | 0, _, j, hj => by omega
  | m + 1, h, j, hj => by
    intro i hi hc
    rw [List.range_succ, List.reverse_append] at h
    simp only [List.reverse_cons, List.reverse_nil, List.nil_append, List.singleton_append, List.map_cons, ordAll, Nat.add_sub_cancel, Bool.and_eq_true] at h
    by_cases e' : j = m
    · subst e'
      exact ordOne_spec L j h.1 i hi hc
    · exact ordAll_spec L m h.2 j (by omega) i hi hc
def left (D : Nat → Bool) : Nat → Nat
  | 0 => 0
  | m + 1 => left D m + (if D m = true then 0 else 1)
theorem left_set {D : Nat → Bool} {i : Nat} (hi : D i = false) : ∀ m, (i < m → left (fun j => j == i || D j) m + 1 = left D m) ∧ (m ≤ i → left (fun j => j == i || D j) m = left D m)
  | 0 => ⟨fun h => by omega, fun _ => rfl⟩
  | m + 1 => by
    obtain ⟨h1, h2⟩ := left_set hi m
    refine ⟨fun h => ?_, fun h => ?_⟩
    · simp only [left]
      by_cases e : m = i
      · subst e
        rw [h2 (Nat.le_refl _)]
        simp [hi]
      · have := h1 (by omega)
        have hb : (m == i) = false := by simp [e]
        simp only [hb, Bool.false_or]
        omega
    · simp only [left]
      rw [h2 (by omega)]
      have hb : (m == i) = false := by simp; omega
      simp only [hb, Bool.false_or]
theorem left_zero {D : Nat → Bool} : ∀ m, left D m = 0 → ∀ j, j < m → D j = true
  | 0, _, j, hj => by omega
  | m + 1, h, j, hj => by
    simp only [left] at h
    by_cases e : j = m
    · subst e
      by_cases hd : D j = true
      · exact hd
      · rw [if_neg hd] at h; omega
    · exact left_zero m (by omega) j (by omega)
theorem left_le {D : Nat → Bool} : ∀ m, left D m ≤ m
  | 0 => Nat.le_refl _
  | m + 1 => by
    have := left_le (D := D) m
    simp only [left]
    split <;> omega
section
variable {P : Program} {TT : TypeId → Option TI} {TU : TypeId → Option (List TypeId)} {X : Ctx} {s s1 : F} {a : Act} {w : World} {n : Nat}
variable {C : FuncId → List AVal → List Blk → Call} {ownF : FuncId → Bool} {Q : Exit → Act → World → Prop}
theorem any_sim (hT : TOk P TT) (hC : COk P X.GL C) (hF : ∀ f us bs r, (C f us bs).o = some r → FOk P f) {ops : Array Oper} {id : Nat} {st : Nat → F} {es : Nat → List Ev}
    (hst : ∀ j, j < ops.size → (opM TT TU X.GL C ownF ops id j).trace (st j) = some ((), st (j + 1), es j))
    (hedge : edgesOk ops = true) (hord : ∀ i j, i < j → j < ops.size → clash (es i) (es j) → ((Region.before ops).getD j 0).testBit i = true)
    (hQ : ∀ a w, RelE X (st ops.size) a w → Q .normal a w) :
    ∀ (fuel : Nat) (listed : Array Bool) (a : Act) (w : World), listed.size = ops.size → left (fun j => listed.getD j false) ops.size ≤ fuel →
      (∀ i j, ((Region.before ops).getD j 0).testBit i = true → listed.getD j false = true → listed.getD i false = true) →
      RelE X (done (fun j => listed.getD j false) st es ops.size) a w → wpAny P .any ops Q fuel listed a w := by
  have hN : ∀ k, k ≤ ops.size → (st k).N = (st 0).N := by
    intro k
    induction k with
    | zero => intro _; rfl
    | succ k ih => intro hk; rw [(trace_stays _ _ _ _ _ (hst k (by omega))).1]; exact ih (by omega)
  have fin : ∀ (listed : Array Bool) (a : Act) (w : World), (∀ j, j < ops.size → listed.getD j false = true) → RelE X (done (fun j => listed.getD j false) st es ops.size) a w → Q .normal a w := by
    intro listed a w hall hR
    refine hQ a w ?_
    have : done (fun j => listed.getD j false) st es ops.size = st ops.size := by
      apply F.ext_same
      · rw [done_N, hN _ (Nat.le_refl _)]
      · intro l
        exact done_all hst ops.size (Nat.le_refl _) l fun j hj _ => hall j hj
    rw [this] at hR
    exact hR
  have stuck : ∀ (listed : Array Bool), listed.size = ops.size → Region.ready .any ops listed = [] → ∀ j, j < ops.size → listed.getD j false = true := by
    intro listed hsz hr j
    induction j using Nat.strongRecOn with
    | _ j ih =>
      intro hj
      by_cases hl : listed.getD j false = true
      · exact hl
      · exfalso
        have hmem : j ∈ Region.ready .any ops listed := by
          rw [mem_ready]
          have hlt : j < listed.size := by omega
          refine ⟨?_, ops[j], by simp [hj], fun e he hb => ?_⟩
          · simp [hlt] at hl ⊢; exact hl
          · exact ih e.on (edgesOk_spec hedge (by simp [hj]) he hb) (by have := edgesOk_spec hedge (j := j) (o := ops[j]) (by simp [hj]) he hb; omega)
        rw [hr] at hmem
        cases hmem
  intro fuel
  induction fuel with
  | zero =>
    intro listed a w hsz hleft hdown hR
    have hall := left_zero _ (Nat.le_zero.1 hleft)
    refine ⟨?_, fin listed a w hall hR⟩
    cases hr : Region.ready .any ops listed with
    | nil => rfl
    | cons x xs =>
      have hx : x ∈ Region.ready .any ops listed := by rw [hr]; exact .head _
      obtain ⟨h0, o, ho, _⟩ := mem_ready.1 hx
      have hlt : x < ops.size := (Array.getElem?_eq_some_iff.1 ho).1
      have h1 := hall x hlt
      have hlt' : x < listed.size := by omega
      simp [hlt'] at h0 h1
      rw [h0] at h1
      cases h1
  | succ fuel ih =>
    intro listed a w hsz hleft hdown hR
    refine ⟨fun hr => fin listed a w (stuck listed hsz hr) hR, fun i hi => ?_⟩
    obtain ⟨h0, o, ho, hedges⟩ := mem_ready.1 hi
    have hlt : i < ops.size := (Array.getElem?_eq_some_iff.1 ho).1
    have hlt' : i < listed.size := by omega
    have hDi : (fun j => listed.getD j false) i = false := by simp [hlt'] at h0 ⊢; exact h0
    have hready : ∀ j, ((Region.before ops).getD i 0).testBit j = true → listed.getD j false = true := by
      intro j hj
      obtain ⟨e, he, hb, h⟩ := before_spec ho hj
      rcases h with rfl | h
      · exact hedges e he hb
      · exact hdown j e.on h (hedges e he hb)
    have hstep := done_step (before := fun i j => ((Region.before ops).getD j 0).testBit i = true) hst hord (D := fun j => listed.getD j false) hdown hlt hDi hready
    have hD' : (fun j => j == i || listed.getD j false) = fun j => (listed.setIfInBounds i true).getD j false := by
      funext j
      by_cases e : j = i
      · subst e; simp [hlt']
      · have hb : (j == i) = false := by simp [e]
        simp only [hb, Bool.false_or]
        rw [getD_set_ne false (fun h => e h.symm)]
    have hop : opM TT TU X.GL C ownF ops id i = aop TT TU X.GL C ownF ops ((1000 + 200 * id + i) * 16) o := by simp only [opM, ho]
    rw [hop] at hstep
    refine aop_sim hT hC hF ho ⟨_, hstep⟩ hR fun a' w' hR' => ?_
    refine ih (listed.setIfInBounds i true) a' w' (by simp [hsz]) ?_ ?_ ?_
    · rw [← hD']
      have := (left_set (D := fun j => listed.getD j false) hDi ops.size).1 hlt
      omega
    · intro j k hb hk
      rw [← congrFun hD' k] at hk
      rw [← congrFun hD' j]
      rcases Bool.or_eq_true_iff.1 hk with hk | hk
      · have : k = i := by simpa using hk
        subst this
        simp [hready j hb]
      · simp [hdown j k hb hk]
    · rw [← hD']; exact hR'
theorem region_sim (hm : P.follows .mixedOrders = true) (hT : TOk P TT) (hC : COk P X.GL C) (hF : ∀ f us bs r, (C f us bs).o = some r → FOk P f) {ops : Array Oper} {id : Nat} {draw : Bool} {s : St} {k : St → Option CR} {r : CR}
    (h : region TT TU X.GL C ownF id ops draw s k = some r) (hR : RelE X s.toF a w)
    (hK : ∀ s' a' w', k s' = some r → s'.tmps.length = s.tmps.length → RelE X s'.toF a' w' → Q .normal a' w') : (Code.region id ops draw).wp P Q a w := by
  unfold region at h
  obtain ⟨st, es, s', h0, hn, hlen, hst, hk⟩ := goOps_run ops.toList 0 [] s _ r (fun j o hj => by simpa using hj) h
  simp only [Nat.zero_add, Array.length_toList, List.append_nil] at h0 hn hst hk
  cases draw with
  | false =>
    simp only [Bool.not_false, Bool.true_or, cond_true] at hk
    refine wp_region ?_
    have := range_wpOps (P := P) (Q := Q) (ops := ops) (fun i a w => RelE X (st i) a w) (m := ops.size) (fun a w h => hK s' a w hk hlen (by rw [← hn]; exact h))
      (fun i hi a w k hk hR => by
        have hoi : ops[i]? = some ops[i] := by simp [hi]
        have hop : opM TT TU X.GL C ownF ops id i = aop TT TU X.GL C ownF ops ((1000 + 200 * id + i) * 16) ops[i] := by simp only [opM, hoi]
        have := hst i hi
        rw [hop] at this
        exact aop_sim hT hC hF hoi ⟨_, this⟩ hR hk) ops.size 0 (by omega) a w (by rw [h0]; exact hR)
    simpa using this
  | true =>
    simp only [Bool.not_true, Bool.false_or] at hk
    cases hc : (edgesOk ops && ordAll (Region.before ops) ops.size ((List.range ops.size).reverse.map fun j => (es j).reverse)) with
    | false => rw [hc] at hk; cases hk
    | true =>
      rw [hc] at hk
      simp only [cond_true] at hk
      simp only [Bool.and_eq_true] at hc
      refine wp_region_any hm ?_
      refine any_sim hT hC hF hst hc.1 (fun i j hij hj hcl => ordAll_spec (fun j => (es j).reverse) ops.size hc.2 j hj i hij (conflict_of hcl)) (fun a w hR => hK s' a w hk hlen (by rw [← hn]; exact hR))
        ops.size _ a _ (by simp) (left_le _) ?_ ?_
      · intro i j hb hj
        have : j < ops.size := before_lt hb
        simp [this] at hj
      · have hD : (fun j => (Array.replicate ops.size false).getD j false) = fun _ => false := by
          funext j
          simp only [Array.getD_eq_getD_getElem?, Array.getElem?_replicate]
          split <;> rfl
        rw [hD]
        have : done (fun _ => false) st es ops.size = st 0 := by
          apply F.ext_same
          · rw [done_N]
          · intro l
            exact (done_more (i := 0) ops.size (by omega) fun j _ _ h => by cases h).trans (by rw [done_zero]; exact .refl _ l)
        rw [this, h0]
        obtain ⟨env, Z, hR⟩ := hR
        exact ⟨env, Z, hR.drew⟩
end
end
section
open Go.RowKit
section
variable {P : Program} {TT : TypeId → Option TI} {TU : TypeId → Option (List TypeId)} {X : Ctx} {env env' : NE} {Z : Nat → Prop} {s s1 : F} {a : Act} {w : World} {n : Nat}
variable {C : FuncId → List AVal → List Blk → Call} {ownF : FuncId → Bool} {Q : Exit → Act → World → Prop}
theorem lookK_keepH (old : LB) (used : List Nat) (k : Nat) : ∀ h : LB, lookK (keepH old used h) k = if (lookK old k).isSome || memN k used || Nat.blt k 1000 then lookK h k else none
  | [] => by simp [keepH, lookK]
  | (k', b) :: h => by
    have ih := lookK_keepH old used k h
    simp only [keepH]
    cases hk : ((lookK old k').isSome || memN k' used || Nat.blt k' 1000) with
    | true =>
      simp only [cond_true, lookK]
      by_cases e : k' = k
      · subst e; simp [hk]
      · simp only [nbeq_ne e, cond_false]; exact ih
    | false =>
      simp only [cond_false, lookK]
      by_cases e : k' = k
      · subst e; rw [ih]; simp [hk]
      · simp only [nbeq_ne e, cond_false]; exact ih
theorem nblt_of {a b : Nat} (h : a < b) : Nat.blt a b = true := by simp only [Nat.blt, Nat.ble_eq]; omega
theorem lookK_mem : ∀ {h : LB} {k : Nat} {b : Blk}, lookK h k = some b → (k, b) ∈ h
  | [], _, _, h => by cases h
  | (k', b') :: l, k, b, h => by
    simp only [lookK] at h
    by_cases e : k' = k
    · subst e
      simp at h
      subst h
      exact .head _
    · simp only [nbeq_ne e, cond_false] at h
      exact .tail _ (lookK_mem h)
theorem memN_iff {k : Nat} : ∀ {l : List Nat}, memN k l = true ↔ k ∈ l
  | [] => by simp [memN]
  | x :: l => by
    simp only [memN, Bool.or_eq_true, List.mem_cons, memN_iff (l := l)]
    constructor
    · rintro (h | h)
      · exact .inl (nbeq_eq h).symm
      · exact .inr h
    · rintro (rfl | h)
      · exact .inl (Nat.beq_refl k)
      · exact .inr h
theorem keepT_get : ∀ (os ns : List AVal) (t : Nat) (v : AVal), (keepT os ns)[t]? = some v → (v = .dead ∨ ns[t]? = some v) ∧ t < ns.length
  | [], ns, t, v, h => by simp [keepT] at h
  | o :: os, [], t, v, h => by simp [keepT] at h
  | o :: os, n :: ns, 0, v, h => by
    simp only [keepT, List.getElem?_cons_zero, Option.some.injEq] at h
    subst h
    refine ⟨?_, by simp⟩
    cases isDead o <;> simp
  | o :: os, n :: ns, t + 1, v, h => by
    simp only [keepT, List.getElem?_cons_succ] at h
    obtain ⟨h1, h2⟩ := keepT_get os ns t v h
    exact ⟨by simpa using h1, by simp; omega⟩
theorem keepT_length : ∀ (os ns : List AVal), os.length = ns.length → (keepT os ns).length = ns.length
  | [], [], _ => rfl
  | [], _ :: _, h => by simp at h
  | _ :: _, [], h => by simp at h
  | o :: os, n :: ns, h => by simp [keepT, keepT_length os ns (by simpa using h)]
theorem VRel.keepI {v : AVal} {c : Value} (h : VRel env Z w v c) (hs : okK v = true) (hk : ∀ k ∈ keysIn v, env' k = env k) : VRel env' Z w v c := by
  cases h with
  | slc k n c e he hle h1 h => exact .slc k n c e ((hk k (.head _)).trans he) hle h1 h
  | ref k n i j c e he hle h1 h => exact .ref k n i j c e ((hk k (.head _)).trans he) hle h1 h
  | dead c => exact .dead c
  | sc _ => exact .sc _
  | emp a => exact .emp a
  | roE E a cap => exact .roE E a cap
  | ro E rows b o cap f hcap hz hr hc h => exact (VRel.ro E rows b o cap f hcap hz hr hc h).anyEnv rfl
  | rptr l b o f hz hc h => exact (VRel.rptr l b o f hz hc h).anyEnv rfl
  | agg l cs hl h => cases hs
  | tup l cs hl h => cases hs
  | clo f l cs hl h => cases hs
theorem VRel.keepC {v : AVal} {c : Value} (h : VRel env Z w v c) (hs : okC v = true) (hk : ∀ k ∈ keysC v, env' k = env k) : VRel env' Z w v c := by
  cases h with
  | clo f l cs hl h => exact .clo f l cs hl fun i v c h1 h2 => (h i v c h1 h2).keepI (List.all_eq_true.1 hs v (List.mem_of_getElem? h1)) fun k hkv => hk k (List.mem_flatMap.2 ⟨v, List.mem_of_getElem? h1, hkv⟩)
  | slc k n c e he hle h1 h => exact (VRel.slc k n c e he hle h1 h).keepI rfl hk
  | ref k n i j c e he hle h1 h => exact (VRel.ref k n i j c e he hle h1 h).keepI rfl hk
  | dead c => exact .dead c
  | sc _ => exact .sc _
  | emp a => exact .emp a
  | roE E a cap => exact .roE E a cap
  | ro E rows b o cap f hcap hz hr hc h => exact (VRel.ro E rows b o cap f hcap hz hr hc h).anyEnv rfl
  | rptr l b o f hz hc h => exact (VRel.rptr l b o f hz hc h).anyEnv rfl
  | agg l cs hl h => cases hs
  | tup l cs hl h => cases hs
theorem VRel.keepT {v : AVal} {c : Value} (h : VRel env Z w v c) (hs : okT v = true) (hk : ∀ k ∈ keysT v, env' k = env k) : VRel env' Z w v c := by
  have other : okC v = true → (∀ k ∈ keysC v, env' k = env k) → VRel env' Z w v c := fun h1 h2 => h.keepC h1 h2
  cases v with
  | agg l =>
    cases h with
    | agg _ cs hl h => exact .agg _ _ hl fun i v c h1 h2 => (h i v c h1 h2).keepC (List.all_eq_true.1 hs v (List.mem_of_getElem? h1)) fun k hkv => hk k (List.mem_flatMap.2 ⟨v, List.mem_of_getElem? h1, hkv⟩)
  | tup l => cases hs
  | _ => exact other hs hk
theorem VRel.keepA {v : AVal} {c : Value} (h : VRel env Z w v c) (hs : okA v = true) (hk : ∀ k ∈ keysA v, env' k = env k) : VRel env' Z w v c := by
  have other : okT v = true → (∀ k ∈ keysT v, env' k = env k) → VRel env' Z w v c := fun h1 h2 => h.keepT h1 h2
  cases v with
  | tup l =>
    cases h with
    | tup _ cs hl h => exact .tup _ _ hl fun i v c h1 h2 => (h i v c h1 h2).keepT (List.all_eq_true.1 hs v (List.mem_of_getElem? h1)) fun k hkv => hk k (List.mem_flatMap.2 ⟨v, List.mem_of_getElem? h1, hkv⟩)
  | _ => exact other hs hk
theorem forget_sim {R : Type} {s s' : St} {k : St → Option R} {r : R} (h : forget s s' k = some r) (hR : RelE X s'.toF a w) :
    ∃ u, k u = some r ∧ u.tmps.length = s'.tmps.length ∧ RelE X u.toF a w := by
  unfold forget at h
  simp only at h
  generalize hts : keepT s.tmps s'.tmps = ts at h
  generalize hh : keepH s.heap (ts.flatMap keysA) s'.heap = hp at h
  cases hc : (ts.all okA && Nat.beq s.tmps.length s'.tmps.length && hp.all fun p => boxOk hp p.2) with
  | false => rw [hc] at h; cases h
  | true =>
    rw [hc] at h
    simp only [cond_true] at h
    simp only [Bool.and_eq_true] at hc
    obtain ⟨⟨hc1, hc2⟩, hc3⟩ := hc
    have hlen := nbeq_eq hc2
    have htl : ts.length = s'.tmps.length := by rw [← hts]; exact keepT_length _ _ hlen
    refine ⟨⟨ts, hp⟩, h, htl, ?_⟩
    obtain ⟨env, Z, hR⟩ := hR
    have hlook : ∀ k b, lookK hp k = some b → lookK s'.heap k = some b := fun k b hk => by
      rw [← hh, lookK_keepH] at hk
      split at hk
      · exact hk
      · cases hk
    have hused : ∀ k, k ∈ ts.flatMap keysA → lookK hp k = lookK s'.heap k := fun k hk => by
      rw [← hh, lookK_keepH]
      simp [memN_iff.2 hk]
    have hlo : ∀ k, k < 1000 → lookK hp k = lookK s'.heap k := fun k hk => by
      rw [← hh, lookK_keepH]
      simp [nblt_of hk]
    let env' : NE := fun k => if (lookK hp k).isSome then env k else none
    have henv : ∀ k e, env' k = some e → env k = some e := fun k e hk => by
      simp only [env'] at hk
      split at hk
      · exact hk
      · cases hk
    have hin : ∀ k, (lookK hp k).isSome = true → env' k = env k := fun k hk => by simp only [env', hk, if_true]
    have hdomk : ∀ k, lookK s'.heap k = none → env k = none := fun k hk => by
      have := hR.dom k
      have h2 : s'.toF.key k = none := hk
      rw [h2] at this
      simpa using this
    have hkeep : ∀ k, k ∈ ts.flatMap keysA → env' k = env k := fun k hk => by
      cases hl : lookK hp k with
      | some b => exact hin k (by rw [hl]; rfl)
      | none =>
        have := hdomk k (by rw [← hused k hk]; exact hl)
        simp only [env', hl, Option.isSome_none, Bool.false_eq_true, if_false, this]
    have hsz := hR.size
    refine ⟨env', Z, ?_⟩
    exact
      { size := by show a.tmps.size = ts.length; rw [htl]; exact hsz
        tmps := fun t ht => by
          have ht' : t < ts.length := ht
          have hv : ts[t]? = some (ts.getD t .dead) := by simp [List.getD, ht']
          show VRel env' Z w (ts.getD t .dead) _
          generalize ts.getD t .dead = v at hv
          obtain ⟨h1, h2⟩ := keepT_get s.tmps s'.tmps t v (by rw [hts]; exact hv)
          rcases h1 with rfl | h1
          · exact .dead _
          · have h3 := hR.tmps t h2
            have h4 : s'.toF.tmp t = v := by show s'.tmps.getD t .dead = v; simp [List.getD, h1]
            rw [h4] at h3
            refine h3.keepA (List.all_eq_true.1 hc1 v (List.mem_of_getElem? hv)) fun k hk => hkeep k ?_
            exact List.mem_flatMap.2 ⟨v, List.mem_of_getElem? hv, hk⟩
        tmpo := fun t ht => by
          have ht' : ts.length ≤ t := ht
          show ts.getD t .dead = .dead
          simp [List.getD, List.getElem?_eq_none ht']
        dom := fun k => by
          show (env' k).isSome = (lookK hp k).isSome
          cases hl : lookK hp k with
          | some b =>
            rw [hin k (by rw [hl]; rfl)]
            have := hR.dom k
            have h2 : s'.toF.key k = some b := hlook k b hl
            rw [h2] at this
            exact this
          | none => simp only [env', hl, Option.isSome_none, Bool.false_eq_true, if_false]
        blk := fun k b e h1 h2 => by
          have h1' : lookK hp k = some b := h1
          have hB := hR.blk k b e (hlook k b h1') (henv k e h2)
          by_cases hb : b.kind = .box
          · refine ⟨hB.hn, hB.hE, hB.hlen, fun _ => ?_, fun hn => absurd hb hn⟩
            obtain ⟨g, cs, r, q1, q2, q3, q4, q5, q6⟩ := hB.box hb
            refine ⟨g, cs, r, q1, q2, q3, q4, q5, fun j v c hv hcv => ⟨?_, (q6 j v c hv hcv).2⟩⟩
            have hck := List.all_eq_true.1 hc3 (k, b) (lookK_mem h1')
            have hbox : b.kind.isBox = true := by rw [hb]; rfl
            simp only [boxOk, hbox, cond_true, q2, List.all_cons, List.all_nil, Bool.and_true, List.all_eq_true, Bool.or_eq_true, Bool.and_eq_true] at hck
            rcases hck v (List.mem_of_getElem? hv) with hfl | hks
            · exact (q6 j v c hv hcv).1.anyEnv hfl
            · exact (q6 j v c hv hcv).1.keepC hks.1 fun k hk => hin k (hks.2 k hk)
          · exact (hR.blk k b e (hlook k b h1') (henv k e h2)).anyEnv hb
        inj := fun k l e f g h1 h2 => hR.inj k l e f g (henv k e h1) (henv l f h2)
        own := fun k e g h1 => hR.own k e g (henv k e h1)
        zlt := hR.zlt
        z0 := hR.z0
        znew := hR.znew
        os := hR.os
        tape := hR.tape
        output := hR.output
        grown := hR.grown
        keep := hR.keep
        defers := hR.defers
        hand := fun k f hk => by
          obtain ⟨e, h1, h2, h3⟩ := hR.hand k f hk
          refine ⟨e, ?_, h2, h3⟩
          cases hl : lookK hp k with
          | some b => rw [hin k (by rw [hl]; rfl)]; exact h1
          | none =>
            rw [hlo k (X.hlo k f hk)] at hl
            rw [hdomk k hl] at h1
            cases h1 }
theorem maskT_get : ∀ (m : List Bool) (l : List AVal) (t : Nat), (maskT m l).getD t .dead = l.getD t .dead ∨ (maskT m l).getD t .dead = .dead
  | [], l, t => .inl (by cases l <;> rfl)
  | b :: m, [], t => .inl rfl
  | b :: m, v :: l, 0 => by
    simp only [maskT, List.getD_cons_zero]
    cases b with
    | true => exact .inl rfl
    | false => exact .inr rfl
  | b :: m, v :: l, t + 1 => by simpa [maskT] using maskT_get m l t
theorem maskT_length : ∀ (m : List Bool) (l : List AVal), (maskT m l).length = l.length
  | [], l => by cases l <;> rfl
  | b :: m, [] => rfl
  | b :: m, v :: l => by simp [maskT, maskT_length m l]
theorem maskS0_sim (m : List Bool) {s : St} (hR : RelE X s.toF a w) : RelE X (maskS0 m s).toF a w := by
  obtain ⟨env, Z, hR⟩ := hR
  have hl := maskT_length m s.tmps
  refine ⟨env, Z, { hR with
    size := by show a.tmps.size = (maskT m s.tmps).length; rw [hl]; exact hR.size
    tmps := fun t ht => ?_
    tmpo := fun t ht => ?_
    dom := hR.dom
    blk := hR.blk
    defers := hR.defers }⟩
  · have ht' : t < s.tmps.length := by rw [← hl]; exact ht
    show VRel env Z w ((maskT m s.tmps).getD t .dead) _
    rcases maskT_get m s.tmps t with h | h
    · rw [h]; exact hR.tmps t ht'
    · rw [h]; exact .dead _
  · show (maskT m s.tmps).getD t .dead = .dead
    have ht' : (maskT m s.tmps).length ≤ t := ht
    simp [List.getD, List.getElem?_eq_none ht']
theorem lookK_keepU (used : List Nat) (k : Nat) : ∀ h : LB, lookK (keepU used h) k = if memN k used || Nat.blt k 1000 then lookK h k else none
  | [] => by simp [keepU, lookK]
  | (k', b) :: h => by
    have ih := lookK_keepU used k h
    simp only [keepU]
    cases hk : (memN k' used || Nat.blt k' 1000) with
    | true =>
      simp only [cond_true, lookK]
      by_cases e : k' = k
      · subst e; simp [hk]
      · simp only [nbeq_ne e, cond_false]; exact ih
    | false =>
      simp only [cond_false, lookK]
      by_cases e : k' = k
      · subst e; rw [ih]; simp [hk]
      · simp only [nbeq_ne e, cond_false]; exact ih
theorem tidy_tmps (s : St) : (tidy s).tmps = s.tmps := by
  unfold tidy
  cases s.tmps.all okA && (keepU (usedK s) s.heap).all (fun p => boxOk (keepU (usedK s) s.heap) p.2) <;> rfl
theorem tidy_sim {s : St} (hR : RelE X s.toF a w) : RelE X (tidy s).toF a w := by
  unfold tidy
  cases hc : s.tmps.all okA && (keepU (usedK s) s.heap).all (fun p => boxOk (keepU (usedK s) s.heap) p.2) with
  | false => exact hR
  | true =>
    simp only [cond_true]
    simp only [Bool.and_eq_true] at hc
    obtain ⟨hc1, hc3⟩ := hc
    obtain ⟨env, Z, hR⟩ := hR
    have hus : ∀ k ∈ s.tmps.flatMap keysA, k ∈ usedK s := fun k hk => by
      unfold usedK
      exact List.mem_append_left _ (List.mem_append_left _ hk)
    generalize usedK s = used at *
    generalize hh : keepU used s.heap = hp at *
    have hlook : ∀ k b, lookK hp k = some b → lookK s.heap k = some b := fun k b hk => by
      rw [← hh, lookK_keepU] at hk
      split at hk
      · exact hk
      · cases hk
    have hused : ∀ k, k ∈ used → lookK hp k = lookK s.heap k := fun k hk => by
      rw [← hh, lookK_keepU]
      simp [memN_iff.2 hk]
    have hlo : ∀ k, k < 1000 → lookK hp k = lookK s.heap k := fun k hk => by
      rw [← hh, lookK_keepU]
      simp [nblt_of hk]
    let env' : NE := fun k => if (lookK hp k).isSome then env k else none
    have henv : ∀ k e, env' k = some e → env k = some e := fun k e hk => by
      simp only [env'] at hk
      split at hk
      · exact hk
      · cases hk
    have hin : ∀ k, (lookK hp k).isSome = true → env' k = env k := fun k hk => by simp only [env', hk, if_true]
    have hdomk : ∀ k, lookK s.heap k = none → env k = none := fun k hk => by
      have := hR.dom k
      have h2 : s.toF.key k = none := hk
      rw [h2] at this
      simpa using this
    have hkeep : ∀ k, k ∈ used → env' k = env k := fun k hk => by
      cases hl : lookK hp k with
      | some b => exact hin k (by rw [hl]; rfl)
      | none =>
        have := hdomk k (by rw [← hused k hk]; exact hl)
        simp only [env', hl, Option.isSome_none, Bool.false_eq_true, if_false, this]
    refine ⟨env', Z, ?_⟩
    exact
      { size := hR.size
        tmps := fun t ht => by
          have ht' : t < s.tmps.length := ht
          have hv : s.tmps[t]? = some (s.tmps.getD t .dead) := by simp [List.getD, ht']
          show VRel env' Z w (s.tmps.getD t .dead) _
          have h3 := hR.tmps t ht
          have h4 : s.toF.tmp t = s.tmps.getD t .dead := rfl
          rw [h4] at h3
          refine h3.keepA (List.all_eq_true.1 hc1 _ (List.mem_of_getElem? hv)) fun k hk => hkeep k (hus k ?_)
          exact List.mem_flatMap.2 ⟨_, List.mem_of_getElem? hv, hk⟩
        tmpo := hR.tmpo
        dom := fun k => by
          show (env' k).isSome = (lookK hp k).isSome
          cases hl : lookK hp k with
          | some b =>
            rw [hin k (by rw [hl]; rfl)]
            have := hR.dom k
            have h2 : s.toF.key k = some b := hlook k b hl
            rw [h2] at this
            exact this
          | none => simp only [env', hl, Option.isSome_none, Bool.false_eq_true, if_false]
        blk := fun k b e h1 h2 => by
          have h1' : lookK hp k = some b := h1
          have hB := hR.blk k b e (hlook k b h1') (henv k e h2)
          by_cases hb : b.kind = .box
          · refine ⟨hB.hn, hB.hE, hB.hlen, fun _ => ?_, fun hn => absurd hb hn⟩
            obtain ⟨g, cs, r, q1, q2, q3, q4, q5, q6⟩ := hB.box hb
            refine ⟨g, cs, r, q1, q2, q3, q4, q5, fun j v c hv hcv => ⟨?_, (q6 j v c hv hcv).2⟩⟩
            have hck := List.all_eq_true.1 hc3 (k, b) (lookK_mem h1')
            have hbox : b.kind.isBox = true := by rw [hb]; rfl
            simp only [boxOk, hbox, cond_true, q2, List.all_cons, List.all_nil, Bool.and_true, List.all_eq_true, Bool.or_eq_true, Bool.and_eq_true] at hck
            rcases hck v (List.mem_of_getElem? hv) with hfl | hks
            · exact (q6 j v c hv hcv).1.anyEnv hfl
            · exact (q6 j v c hv hcv).1.keepC hks.1 fun k hk => hin k (hks.2 k hk)
          · exact (hR.blk k b e (hlook k b h1') (henv k e h2)).anyEnv hb
        inj := fun k l e f g h1 h2 => hR.inj k l e f g (henv k e h1) (henv l f h2)
        own := fun k e g h1 => hR.own k e g (henv k e h1)
        zlt := hR.zlt
        z0 := hR.z0
        znew := hR.znew
        os := hR.os
        tape := hR.tape
        output := hR.output
        grown := hR.grown
        keep := hR.keep
        defers := hR.defers
        hand := fun k f hk => by
          obtain ⟨e, h1, h2, h3⟩ := hR.hand k f hk
          refine ⟨e, ?_, h2, h3⟩
          cases hl : lookK hp k with
          | some b => rw [hin k (by rw [hl]; rfl)]; exact h1
          | none =>
            rw [hlo k (X.hlo k f hk)] at hl
            rw [hdomk k hl] at h1
            cases h1 }
theorem maskS_sim (m : List Bool) {s : St} (hR : RelE X s.toF a w) : RelE X (maskS m s).toF a w := tidy_sim (maskS0_sim m hR)
theorem maskS_tmps (m : List Bool) (s : St) : (maskS m s).tmps = maskT m s.tmps := tidy_tmps _
def exitOf : Ex → Exit
  | .normal => .normal
  | .exit id => .exit id
  | .ret => .ret
theorem loop_sim {r : CR} {c : Code} {body : St → (Ex → St → Option CR) → Option CR}
    (hbody : ∀ (s : St) (k : Ex → St → Option CR) (a : Act) (w : World) (Q : Exit → Act → World → Prop), body s k = some r → RelE X s.toF a w → (∀ e s' a' w', k e s' = some r → s'.tmps.length = s.tmps.length → RelE X s'.toF a' w' → Q (exitOf e) a' w') → c.wp P Q a w) :
    ∀ (m : Nat) (s : St) (k : Ex → St → Option CR) (a : Act) (w : World) (Q : Exit → Act → World → Prop), loopN body m s k = some r → RelE X s.toF a w →
      (∀ e s' a' w', k e s' = some r → s'.tmps.length = s.tmps.length → RelE X s'.toF a' w' → Q (exitOf e) a' w') → Code.rounds P c Q m a w
  | 0, s, k, a, w, Q, h, _, _ => by cases h
  | m + 1, s, k, a, w, Q, h, hR, hK => by
    rw [rounds_succ]
    simp only [loopN] at h
    refine hbody s _ a w _ h hR fun e s' a' w' he hl hR' => ?_
    cases e with
    | normal =>
      obtain ⟨u, h1, h2, h3⟩ := forget_sim he hR'
      exact loop_sim hbody m u k a' w' Q h1 h3 fun e s'' a'' w'' q1 q2 q3 => hK e s'' a'' w'' q1 (by omega) q3
    | exit id => exact hK (.exit id) s' a' w' he hl hR'
    | ret => exact hK .ret s' a' w' he hl hR'
theorem exec_sim (hm : P.follows .mixedOrders = true) (hT : TOk P TT) (hC : COk P X.GL C) (hF : ∀ f us bs r, (C f us bs).o = some r → FOk P f) {r : CR} {L : LT'} :
    ∀ (c : Code) (i : Nat) (s : St) (k : Ex → St → Option CR) (a : Act) (w : World) (Q : Exit → Act → World → Prop), exec TT TU X.GL C ownF L c i s k = some r → (∀ p ∈ loopsIn i c, LoopOk TT TU X.GL C ownF L p) → RelE X s.toF a w →
      (∀ e s' a' w', k e s' = some r → s'.tmps.length = s.tmps.length → RelE X s'.toF a' w' → Q (exitOf e) a' w') → c.wp P Q a w := by
  intro c
  induction c with
  | skip => exact fun i s k a w Q h hL hR hK => wp_skip (hK .normal s a w h rfl hR)
  | region id ops draw => exact fun i s k a w Q h hL hR hK => region_sim hm hT hC hF h hR fun s' a' w' q1 q2 q3 => hK .normal s' a' w' q1 q2 q3
  | seq x y ihx ihy =>
    intro i s k a w Q h hL hR hK
    simp only [loopsIn, List.mem_append] at hL
    refine wp_seq (ihx i s _ a w _ h (fun p hp => hL p (.inl hp)) hR fun e s' a' w' q1 q2 q3 => ?_)
    cases e with
    | normal => exact ihy i s' k a' w' Q q1 (fun p hp => hL p (.inr hp)) q3 fun e s'' a'' w'' p1 p2 p3 => hK e s'' a'' w'' p1 (by omega) p3
    | exit id => exact hK (.exit id) s' a' w' q1 q2 q3
    | ret => exact hK .ret s' a' w' q1 q2 q3
  | cond c x y ihx ihy =>
    intro i s k a w Q h hL hR hK
    simp only [loopsIn, List.mem_append] at hL
    simp only [exec] at h
    split at h
    · rename_i t
      split at h
      · rename_i v hv
        obtain ⟨env, Z, hR⟩ := hR
        have hne : s.tmps.getD t .dead ≠ .dead := by rw [hv]; simp
        have hlt : t < s.tmps.length := by
          rcases Nat.lt_or_ge t s.tmps.length with h' | h'
          · exact h'
          · simp [List.getD, List.getElem?_eq_none h'] at hne
        have hval : a.eval (.tmp t) = .bool v := by
          have := hR.tmps t hlt
          have h4 : s.toF.tmp t = .sc (.bool v) := hv
          rw [h4] at this
          generalize hc : a.tmps.getD t undef = cc at this
          cases this
          exact hc
        cases v with
        | true =>
          simp only [cond_true] at h
          refine wp_cond_true hval (ihx i _ k a w Q h (fun p hp => hL p (.inl hp)) (by rw [toF_setAt_same s t _ hv (by simp)]; exact ⟨env, Z, hR⟩) fun e s'' a'' w'' p1 p2 p3 => hK e s'' a'' w'' p1 (by simpa [setAt_length] using p2) p3)
        | false =>
          simp only [cond_false] at h
          refine wp_cond_false hval (ihy i _ k a w Q h (fun p hp => hL p (.inr hp)) (by rw [toF_setAt_same s t _ hv (by simp)]; exact ⟨env, Z, hR⟩) fun e s'' a'' w'' p1 p2 p3 => hK e s'' a'' w'' p1 (by simpa [setAt_length] using p2) p3)
      · cases h
    · rename_i v
      cases v with
      | true => exact wp_cond_true rfl (ihx i s k a w Q h (fun p hp => hL p (.inl hp)) hR hK)
      | false => exact wp_cond_false rfl (ihy i s k a w Q h (fun p hp => hL p (.inr hp)) hR hK)
    · cases h
  | block id c ih =>
    intro i s k a w Q h hL hR hK
    refine wp_block (ih id s _ a w _ h hL hR fun e s' a' w' q1 q2 q3 => ?_)
    cases e with
    | normal => exact hK .normal s' a' w' q1 q2 q3
    | exit id' =>
      simp only [exitOf, Exit.inBlock]
      cases hb : Nat.beq id' id with
      | true =>
        simp only [hb, cond_true] at q1
        rw [if_pos (nbeq_eq hb)]
        exact hK .normal s' a' w' q1 q2 q3
      | false =>
        simp only [hb, cond_false] at q1
        rw [if_neg (fun e => by subst e; simp at hb)]
        exact hK (.exit id') s' a' w' q1 q2 q3
    | ret => exact hK .ret s' a' w' q1 q2 q3
  | loop c ih =>
    intro i s k a w Q h hL hR hK
    simp only [exec] at h
    obtain ⟨m, M, W, hrun⟩ := hL (i, c) (by simp [loopsIn]) s k r h
    exact wp_loop_rounds m (loop_sim (fun s k a w Q h1 h2 h3 => ih i s k a w Q h1 (fun p hp => hL p (by simp [loopsIn, hp])) h2 h3) m _ _ a w Q hrun (maskS_sim M hR) fun e s' a' w' q1 q2 q3 => hK e (maskS (W e) s') a' w' q1 (by
      rw [maskS_tmps, maskT_length]
      rw [maskS_tmps, maskT_length] at q2
      exact q2) (maskS_sim _ q3))
  | exit id => exact fun i s k a w Q h hL hR hK => wp_exit (hK (.exit id) s a w h rfl hR)
  | ret => exact fun i s k a w Q h hL hR hK => wp_ret (hK .ret s a w h rfl hR)
  | _ => intro i s k a w Q h; cases h
end
end
section
open Go.RowKit
section
variable {P : Program} {TT : TypeId → Option TI} {TU : TypeId → Option (List TypeId)} {X : Ctx} {env env' : NE} {Z : Nat → Prop} {s s1 : F} {a : Act} {w : World} {n : Nat}
variable {C : FuncId → List AVal → List Blk → Call} {ownF : FuncId → Bool} {Q : Exit → Act → World → Prop}
structure Packs (own : Bool) (env : NE) (heap : LB) (news : LB) : Prop where
  look : ∀ (i k : Nat) (b : Blk), news[i]? = some (k, b) → lookK heap k = some b ∧ b.kind = .arr
  inj : ∀ (i j k : Nat) (b b' : Blk), news[i]? = some (k, b) → news[j]? = some (k, b') → i = j
  none : own = false → news = []
theorem envOf_more {env : NE} {news more : LB} : ∀ k e, envOf env news k = some e → envOf env (news ++ more) k = some e := fun k e h => by
  simp only [envOf] at h ⊢
  have : k < news.length := by
    rcases Nat.lt_or_ge k news.length with h' | h'
    · exact h'
    · rw [List.getElem?_eq_none h'] at h; cases h
  rw [List.getElem?_append_left this]
  exact h
theorem VRel.envMore {v : AVal} {c : Value} {news more : LB} (h : VRel (envOf env news) Z w v c) : VRel (envOf env (news ++ more)) Z w v c :=
  h.mono (fun _ _ => rfl) (fun _ h => h) fun k e hk => ⟨e, envOf_more k e hk, Nat.le_refl _, fun _ => rfl⟩
def Zout (own : Bool) (Z : Nat → Prop) (env : NE) : Nat → Prop := fun g => Z g ∨ (own = false ∧ ∃ k e, env k = some e ∧ ob e.v = some g)
theorem lookK_none {h : LB} {k : Nat} (hn : (lookK h k).isSome = false) : ∀ (i : Nat) (b : Blk), h[i]? ≠ some (k, b) := by
  induction h with
  | nil => intro i b hi; simp at hi
  | cons p h ih =>
    obtain ⟨k', b'⟩ := p
    simp only [lookK] at hn
    by_cases e : k' = k
    · subst e; simp at hn
    · simp only [nbeq_ne e, cond_false] at hn
      intro i b hi
      cases i with
      | zero => simp at hi; exact e hi.1
      | succ i => exact ih hn i b (by simpa using hi)
theorem packC_sim {R : Type} {own : Bool} {st : St} (hR : Rel X env Z st.toF a w) {v : AVal} {c : Value} {news : LB} {k : AVal → LB → Option R} {r : R}
    (h : packC own st.heap v news k = some r) (hv : VRel env Z w v c) (hp : Packs own env st.heap news) :
    ∃ u more, k u (news ++ more) = some r ∧ VRel (envOf env (news ++ more)) (Zout own Z env) w u c ∧ Packs own env st.heap (news ++ more) := by
  unfold packC at h
  have hZ : ∀ g, Z g → Zout own Z env g := fun g hg => .inl hg
  have nil : ∀ {u : AVal}, k u news = some r → VRel (envOf env news) (Zout own Z env) w u c → ∃ u more, k u (news ++ more) = some r ∧ VRel (envOf env (news ++ more)) (Zout own Z env) w u c ∧ Packs own env st.heap (news ++ more) := fun {u} q1 q2 =>
    ⟨u, [], by simpa using q1, by simpa using q2, by simpa using hp⟩
  have later : ∀ {u : AVal}, VRel env Z w u c → flat u = true → VRel (envOf env news) (Zout own Z env) w u c := fun {u} hu hf => (hu.mono (fun _ _ => rfl) hZ fun k e hk => ⟨e, hk, Nat.le_refl _, fun _ => rfl⟩).anyEnv hf
  split at h
  · rename_i key m
    split at h
    · cases h
    · rename_i b hb
      cases hbox : b.kind.isBox with
      | true => rw [hbox] at h; cases h
      | false =>
        rw [hbox] at h
        simp only [cond_false] at h
        have hkb : b.kind ≠ .box := fun e => by rw [e] at hbox; cases hbox
        cases hlen : verEq b.rows.length m with
        | false => rw [hlen] at h; cases h
        | true =>
          rw [hlen] at h
          simp only [cond_true] at h
          have hlm : b.rows.length = m := nbeq_eq hlen
          subst hlm
          obtain ⟨e, he, rfl, hB⟩ := hR.readArr hv hb rfl hkb
          cases hown : (own && b.kind.isArr) with
          | false =>
            rw [hown] at h
            simp only [cond_false] at h
            refine nil h (((hB.asRo hkb (Z' := Zout own Z env) hZ fun g hg => ?_)).anyEnv rfl)
            cases own with
            | false => exact .inr ⟨rfl, key, e, he, hg⟩
            | true =>
              simp only [Bool.true_and] at hown
              have hfrz : b.kind = .frz := by
                cases hk : b.kind with
                | box => exact absurd hk hkb
                | arr => rw [hk] at hown; cases hown
                | frz => rfl
              rcases hB.arr hkb with ⟨h0, ad, h1⟩ | ⟨g', cap, cs, h1, h2, h3, h4, h5, h6, h7, h8, h9⟩
              · rw [h1] at hg; cases ad <;> simp [ob] at hg
              · rw [h1] at hg
                simp only [ob] at hg
                rw [if_neg (by omega)] at hg
                simp only [Option.some.injEq] at hg
                subst hg
                exact .inl (h8 hfrz)
          | true =>
            rw [hown] at h
            simp only [cond_true] at h
            simp only [Bool.and_eq_true] at hown
            obtain ⟨rfl, hisarr⟩ := hown
            cases hc : (lookK news key).isSome with
            | true => rw [hc] at h; cases h
            | false =>
              rw [hc] at h
              simp only [cond_false] at h
              have harr : b.kind = .arr := by
                cases hk : b.kind <;> rw [hk] at hisarr <;> first | rfl | cases hisarr
              have hlook : envOf env (news ++ [(key, b)]) news.length = some e := by simp [envOf, he]
              refine ⟨_, [(key, b)], h, ?_, ?_, ?_, fun h => by cases h⟩
              · cases hv with
                | slc _ _ _ e' he' hle h1 hh =>
                  rw [he] at he'
                  simp only [Option.some.injEq] at he'
                  subst he'
                  exact .slc _ _ _ e hlook hle h1 fun _ => rfl
              · intro i k0 b0 hi
                rcases Nat.lt_or_ge i news.length with hlt | hge
                · rw [List.getElem?_append_left hlt] at hi; exact hp.look i k0 b0 hi
                · rw [List.getElem?_append_right hge] at hi
                  cases hd : i - news.length with
                  | zero =>
                    rw [hd] at hi
                    simp only [List.getElem?_cons_zero, Option.some.injEq, Prod.mk.injEq] at hi
                    obtain ⟨rfl, rfl⟩ := hi
                    exact ⟨hb, harr⟩
                  | succ d => rw [hd] at hi; simp at hi
              · have hno := lookK_none hc
                intro i j k0 b0 b1 hi hj
                rcases Nat.lt_or_ge i news.length with hlt | hge
                · rw [List.getElem?_append_left hlt] at hi
                  rcases Nat.lt_or_ge j news.length with hlt' | hge'
                  · rw [List.getElem?_append_left hlt'] at hj; exact hp.inj i j k0 b0 b1 hi hj
                  · rw [List.getElem?_append_right hge'] at hj
                    cases hd : j - news.length with
                    | zero =>
                      rw [hd] at hj
                      simp only [List.getElem?_cons_zero, Option.some.injEq, Prod.mk.injEq] at hj
                      obtain ⟨rfl, rfl⟩ := hj
                      exact absurd hi (hno i b0)
                    | succ d => rw [hd] at hj; simp at hj
                · rw [List.getElem?_append_right hge] at hi
                  cases hd : i - news.length with
                  | zero =>
                    rw [hd] at hi
                    simp only [List.getElem?_cons_zero, Option.some.injEq, Prod.mk.injEq] at hi
                    obtain ⟨rfl, rfl⟩ := hi
                    rcases Nat.lt_or_ge j news.length with hlt' | hge'
                    · rw [List.getElem?_append_left hlt'] at hj
                      exact absurd hj (hno j b1)
                    · rw [List.getElem?_append_right hge'] at hj
                      cases hd' : j - news.length with
                      | zero => omega
                      | succ d => rw [hd'] at hj; simp at hj
                  | succ d => rw [hd] at hi; simp at hi
  · exact nil h (by cases hv; exact .sc _)
  · exact nil h (by cases hv; exact .roE _ _ _)
  · exact nil h (later hv rfl)
  · rename_i f l
    cases hr : l.all isRp with
    | true =>
      rw [hr] at h
      exact nil h (later hv hr)
    | false => rw [hr] at h; cases h
  · cases h
theorem VRels.envMore {l : List AVal} {cs : List Value} {news more : LB} (h : VRels (envOf env news) Z w l cs) : VRels (envOf env (news ++ more)) Z w l cs :=
  ⟨h.1, fun i v c q1 q2 => (h.2 i v c q1 q2).envMore⟩
theorem packCs_sim {R : Type} {own : Bool} {st : St} (hR : Rel X env Z st.toF a w) {r : R} : ∀ (l : List AVal) (cs : List Value) (news : LB) (k : List AVal → LB → Option R),
    packCs own st.heap l news k = some r → VRels env Z w l cs → Packs own env st.heap news →
    ∃ us more, k us (news ++ more) = some r ∧ VRels (envOf env (news ++ more)) (Zout own Z env) w us cs ∧ Packs own env st.heap (news ++ more)
  | [], cs, news, k, h, hl, hp => by
    have hcs : cs = [] := hl.inv_nil
    subst hcs
    exact ⟨[], [], by simpa [packCs] using h, .nil, by simpa using hp⟩
  | v :: l, cs, news, k, h, hl, hp => by
    obtain ⟨c, ds, rfl, hc, hds⟩ := hl.inv
    simp only [packCs] at h
    obtain ⟨u, more, h1, h2, h3⟩ := packC_sim hR h hc hp
    obtain ⟨us, more', h4, h5, h6⟩ := packCs_sim hR l ds _ _ h1 hds h3
    exact ⟨u :: us, more ++ more', by rw [← List.append_assoc]; exact h4, .cons (by rw [← List.append_assoc]; exact h2.envMore) (by rw [← List.append_assoc]; exact h5), by rw [← List.append_assoc]; exact h6⟩
theorem packV_sim {R : Type} {own : Bool} {st : St} (hR : Rel X env Z st.toF a w) {v : AVal} {c : Value} {news : LB} {k : AVal → LB → Option R} {r : R}
    (h : packV own st.heap v news k = some r) (hv : VRel env Z w v c) (hp : Packs own env st.heap news) :
    ∃ u more, k u (news ++ more) = some r ∧ VRel (envOf env (news ++ more)) (Zout own Z env) w u c ∧ Packs own env st.heap (news ++ more) := by
  unfold packV at h
  split at h
  · rename_i l
    cases hv with
    | agg _ cs hl hh =>
      obtain ⟨us, more, h1, h2, h3⟩ := packCs_sim hR l cs.toList _ _ h ⟨by simpa using hl, fun i v c q1 q2 => hh i v c q1 (by simpa using q2)⟩ hp
      exact ⟨_, more, h1, .agg _ _ (by have := h2.1; simpa using this) fun i v c q1 q2 => h2.2 i v c q1 (by simpa using q2), h3⟩
  · exact packC_sim hR h hv hp
theorem packVs_sim {R : Type} {own : Bool} {st : St} (hR : Rel X env Z st.toF a w) {r : R} : ∀ (l : List AVal) (cs : List Value) (news : LB) (k : List AVal → LB → Option R),
    packVs own st.heap l news k = some r → VRels env Z w l cs → Packs own env st.heap news →
    ∃ us more, k us (news ++ more) = some r ∧ VRels (envOf env (news ++ more)) (Zout own Z env) w us cs ∧ Packs own env st.heap (news ++ more)
  | [], cs, news, k, h, hl, hp => by
    have hcs : cs = [] := hl.inv_nil
    subst hcs
    exact ⟨[], [], by simpa [packVs] using h, .nil, by simpa using hp⟩
  | v :: l, cs, news, k, h, hl, hp => by
    obtain ⟨c, ds, rfl, hc, hds⟩ := hl.inv
    simp only [packVs] at h
    obtain ⟨u, more, h1, h2, h3⟩ := packV_sim hR h hc hp
    obtain ⟨us, more', h4, h5, h6⟩ := packVs_sim hR l ds _ _ h1 hds h3
    exact ⟨u :: us, more ++ more', by rw [← List.append_assoc]; exact h4, .cons (by rw [← List.append_assoc]; exact h2.envMore) (by rw [← List.append_assoc]; exact h5), by rw [← List.append_assoc]; exact h6⟩
def resRun (tmps : Array Value) : ResultVar → Sem Value
  | .tmp t => pure (tmps.getD t undef)
  | .cell a t => do loadVar t (← asAddr (tmps.getD a undef))
theorem results_eq (fn : Func) (tmps : Array Value) : results fn tmps = (do
    let vs ← fn.results.mapM (resRun tmps)
    pure (if h : vs.size = 1 then vs[0] else .tuple vs)) := by
  unfold results
  congr 1
theorem run_res (tmps : Array Value) : ∀ (rs : List ResultVar) (w : World) (cs : List Value),
    (∀ (i : Nat) r, rs[i]? = some r → ∃ c, cs[i]? = some c ∧ (resRun tmps r).run P w = .ok c w) → cs.length = rs.length →
    (rs.mapM (resRun tmps)).run P w = .ok cs w
  | [], w, cs, h, hl => by
    have : cs = [] := List.length_eq_zero_iff.1 hl
    subst this; rfl
  | r :: rs, w, [], h, hl => by simp at hl
  | r :: rs, w, c :: cs, h, hl => by
    obtain ⟨c', hc', h0⟩ := h 0 r rfl
    simp only [List.getElem?_cons_zero, Option.some.injEq] at hc'
    subst hc'
    have ih := run_res tmps rs w cs (fun i r hr => by simpa using h (i + 1) r (by simpa using hr)) (by simpa using hl)
    rw [List.mapM_cons]
    simp only [Sem.run_bind, h0, Result.andThen_ok, ih, Sem.run_pure]
theorem resVars_sim (hT : TOk P TT) {st : St} (hR : Rel X env Z st.toF a w) {r : CR} : ∀ (rs : List ResultVar) (k : List AVal → Option CR), resVars TT st rs k = some r →
    ∃ vs cs, k vs = some r ∧ VRels env Z w vs cs ∧ cs.length = rs.length ∧
      (∀ (i : Nat) q, rs[i]? = some q → ∃ c, cs[i]? = some c ∧ (resRun a.tmps q).run P w = .ok c w)
  | [], k, h => ⟨[], [], h, .nil, rfl, fun i q hq => by simp at hq⟩
  | q :: rs, k, h => by
    simp only [resVars] at h
    have tmpv : ∀ t, VRel env Z w (st.tmps.getD t .dead) (a.tmps.getD t undef) := fun t => by
      rcases Nat.lt_or_ge t st.tmps.length with h' | h'
      · exact hR.tmps t h'
      · simp [List.getD, List.getElem?_eq_none h']; exact .dead _
    have one : ∃ v c, resVars TT st rs (fun vs => k (v :: vs)) = some r ∧ VRel env Z w v c ∧ (resRun a.tmps q).run P w = .ok c w := by
      unfold resVar at h
      split at h
      · rename_i t
        exact ⟨_, _, h, tmpv t, rfl⟩
      · rename_i t ty
        obtain ⟨v, s', es', h1, h2, h3⟩ := run_trace _ _ _ _ _ h
        obtain ⟨_, c, q1, q2⟩ := loadOp_sim hT ⟨_, h1⟩ hR (tmpv t)
        refine ⟨v, c, h2, q2, ?_⟩
        simp only [Instr.loadAt, Sem.run_bind, resRun] at q1 ⊢
        generalize a.tmps.getD t undef = x at q1 ⊢
        unfold Instr.sureAddr at q1
        split at q1
        · exact q1
        · simp only [stuck] at q1
          cases q1
    obtain ⟨v, c, h1, h2, h3⟩ := one
    obtain ⟨vs, cs, h4, h5, h6, h7⟩ := resVars_sim hT hR rs _ h1
    refine ⟨v :: vs, c :: cs, h4, .cons h2 h5, by simp [h6], fun i q' hq => ?_⟩
    cases i with
    | zero =>
      simp only [List.getElem?_cons_zero, Option.some.injEq] at hq
      subst hq
      exact ⟨c, rfl, h3⟩
    | succ i => exact h7 i q' (by simpa using hq)
theorem ownVs_sim {own : Bool} : ∀ (key : Nat) (ts : List TypeId) (vs : List AVal) (cs : List Value) (env : NE) (s s1 : F) (us : List AVal), Gives (ownVs TT own key ts vs) s us s1 → Rel X env Z s a w → VRels env Z w vs cs →
    ∃ env1, Rel X env1 Z s1 a w ∧ VRels env1 Z w us cs ∧ (∀ l f, env l = some f → env1 l = some f)
  | key, t :: ts, v :: vs, cs, env, s, s1, us, h, hR, hv => by
    obtain ⟨c, ds, rfl, hc, hds⟩ := hv.inv
    simp only [ownVs] at h
    obtain ⟨u, s2, h1, h2⟩ := h.bind
    obtain ⟨q, s3, h3, h4⟩ := h2.bind
    obtain ⟨rfl, rfl⟩ := h4.ret
    obtain ⟨env1, r1, r2, r3⟩ := ownV_sim h1 hR hc
    obtain ⟨env2, q1, q2, q3⟩ := ownVs_sim u.2 ts vs ds env1 s2 _ q h3 r1 ⟨hds.1, fun i v c p1 p2 => (hds.2 i v c p1 p2).moreEnv r3⟩
    exact ⟨env2, q1, .cons (r2.moreEnv q3) q2, fun l f hl => q3 l f (r3 l f hl)⟩
  | key, [], vs, cs, env, s, s1, us, h, hR, hv => by
    have h' : Gives (.ret vs) s us s1 := by cases vs <;> exact h
    obtain ⟨rfl, rfl⟩ := h'.ret
    exact ⟨env, hR, hv, fun _ _ h => h⟩
  | key, t :: ts, [], cs, env, s, s1, us, h, hR, hv => by
    have h' : Gives (.ret ([] : List AVal)) s us s1 := h
    obtain ⟨rfl, rfl⟩ := h'.ret
    exact ⟨env, hR, hv, fun _ _ h => h⟩
theorem fcall_sim {GL : Nat → Option (List AVal)} (hm : P.follows .mixedOrders = true) (hT : TOk P TT) (hC : COk P GL C) (hF : ∀ f us bs r, (C f us bs).o = some r → FOk P f)
    {f : FuncId} {fn : Func} {own : Bool} {L : LT'} {args : List AVal} {r : CR} (hf : P.funcs[f]? = some fn) (hL : ∀ p ∈ loopsOf fn, LoopOk TT TU GL C ownF L p) (h : fcall TT TU GL C ownF own L fn args = some r)
    {w : World} {Z0 : Nat → Prop} {cs : Array Value} (hz : ∀ g, Z0 g → g < w.heap.size) (hg : ∀ g l, GL g = some l → VRel (fun _ => none) Z0 w (.rptr l) (.pointer (some ⟨g, 0, none⟩)))
    (ha : VRels (fun _ => none) Z0 w args cs.toList) : Calls P f cs w fun e w' => ∃ c env' Z', e = .returned c ∧ CallPost w Z0 r c w' env' Z' := by
  unfold fcall at h
  split at h
  · cases h
  · rename_i c hb
    let X : Ctx := ⟨w, Z0, fun _ => False, GL, fun _ => none, (fun _ _ h => by cases h), hz, fun _ _ h => h, hg⟩
    refine calls_of_wp hf hb ?_
    have hlen : args.length = cs.size := by have := ha.1; simpa using this
    have hR0 : RelE X (initSt fn args).toF { tmps := cs ++ Array.replicate (fn.ntmps - cs.size) undef, defers := [] } w := by
      refine ⟨fun _ => none, Z0, ?_⟩
      exact
        { size := by simp [initSt, St.toF, hlen]
          tmps := fun t ht => by
            show VRel _ _ _ ((args ++ List.replicate (fn.ntmps - args.length) (AVal.sc undef)).getD t .dead) _
            rcases Nat.lt_or_ge t args.length with hlt | hge
            · have e1 : (args ++ List.replicate (fn.ntmps - args.length) (AVal.sc undef)).getD t .dead = args[t] := by simp [List.getD, List.getElem?_append_left hlt, hlt]
              have e2 : (cs ++ Array.replicate (fn.ntmps - cs.size) undef).getD t undef = cs[t]'(by omega) := by
                rw [Array.getD_eq_getD_getElem?, Array.getElem?_append_left (by omega)]
                simp [show t < cs.size by omega]
              rw [e1, e2]
              exact ha.2 t _ _ (by simp [hlt]) (by simp [show t < cs.size by omega])
            · have hlt' : t < args.length + (fn.ntmps - args.length) := by have : t < (args ++ List.replicate (fn.ntmps - args.length) (AVal.sc undef)).length := ht; simpa using this
              have e1 : (args ++ List.replicate (fn.ntmps - args.length) (AVal.sc undef)).getD t .dead = .sc undef := by
                simp only [List.getD, List.getElem?_append_right hge, List.getElem?_replicate]
                rw [if_pos (by omega)]; rfl
              have e2 : (cs ++ Array.replicate (fn.ntmps - cs.size) undef).getD t undef = undef := by
                rw [Array.getD_eq_getD_getElem?, Array.getElem?_append_right (by omega), Array.getElem?_replicate]
                split <;> rfl
              rw [e1, e2]
              exact .sc _
          tmpo := fun t ht => by
            show (args ++ List.replicate (fn.ntmps - args.length) (AVal.sc undef)).getD t .dead = .dead
            have ht' : (args ++ List.replicate (fn.ntmps - args.length) (AVal.sc undef)).length ≤ t := ht
            simp [List.getD, List.getElem?_eq_none ht']
          dom := fun k => rfl
          blk := fun k b e h1 h2 => by cases h2
          inj := fun k l e f g h1 => by cases h1
          own := fun k e g h1 => by cases h1
          zlt := hz
          z0 := fun _ h => h
          znew := fun _ h => .inl h
          os := rfl
          tape := rfl
          output := rfl
          grown := Nat.le_refl _
          keep := fun _ _ _ => rfl
          defers := rfl
          hand := fun _ _ h => by cases h }
    refine exec_sim (X := X) hm hT hC hF c 0 _ _ _ w _ h (by simpa only [loopsOf, hb] using hL) hR0 fun e s' a' w' he hl hR => ?_
    have fin : finish TT own fn s' = some r → a'.defers = [] ∧ ∃ v, (results fn a'.tmps).run P w' = .ok v w' ∧ ∃ c env' Z', Ending.returned v = .returned c ∧ CallPost w Z0 r c w' env' Z' := by
      intro hfin
      obtain ⟨env, Z, hR⟩ := hR
      unfold finish at hfin
      obtain ⟨vs, cs', h1, h2, h3, h4⟩ := resVars_sim hT hR _ _ hfin
      obtain ⟨vs1, s1, es1, g1, h1, _⟩ := run_trace _ _ _ _ _ h1
      obtain ⟨env1, hR1, h21, _⟩ := ownVs_sim (X := X) 0 fn.resultTypes.toList vs cs' env _ _ vs1 ⟨_, g1⟩ hR h2
      obtain ⟨us, news, h5, h6, h7⟩ := packVs_sim (own := own) hR1 vs1 cs' [] _ h1 h21 ⟨fun i k b hi => by simp at hi, fun i j k b b' hi => by simp at hi, fun _ => rfl⟩
      simp only [List.nil_append] at h5 h6 h7
      have hmap := run_res (P := P) a'.tmps fn.results.toList w' cs' h4 h3
      have hres : (results fn a'.tmps).run P w' = .ok (if h : cs'.toArray.size = 1 then cs'.toArray[0] else .tuple cs'.toArray) w' := by
        rw [results_eq, Array.mapM_eq_mapM_toList, map_eq_pure_bind]
        simp only [Sem.run_bind, hmap]
        rfl
      replace hR := hR1
      refine ⟨hR.defers, _, hres, _, envOf env1 news, Zout own Z env1, rfl, ?_⟩
      have post : ∀ (u : AVal) (c : Value), r = ⟨true, u, [], news.map (·.2)⟩ → VRel (envOf env1 news) (Zout own Z env1) w' u c → CallPost w Z0 r c w' (envOf env1 news) (Zout own Z env1) := by
        intro u c hr hu
        subst hr
        have hzo : own = true → ∀ g, Zout own Z env1 g → Z g := fun ho g hg => hg.elim id fun h => by rw [ho] at h; cases h.1
        exact
          { res := hu
            news := fun i b hi => by
              simp only [List.getElem?_map] at hi
              cases hn : news[i]? with
              | none => rw [hn] at hi; cases hi
              | some p =>
                obtain ⟨k, b'⟩ := p
                rw [hn] at hi
                simp only [Option.map_some, Option.some.injEq] at hi
                subst hi
                obtain ⟨q1, q2⟩ := h7.look i k b' hn
                have hd := hR.dom k
                have hkey : s1.toF.key k = some b' := q1
                rw [hkey] at hd
                obtain ⟨e, he⟩ := Option.isSome_iff_exists.1 (by simpa using hd)
                have hB := hR.blk k b' e hkey he
                have hown : own = true := by
                  cases own with
                  | true => rfl
                  | false =>
                    rw [h7.none rfl] at hn
                    simp at hn
                refine ⟨q2, e, by simp [envOf, hn, he], ?_⟩
                exact hB.mono (fun _ _ => rfl) (fun _ _ => rfl) (fun g hg => .inl hg) (fun g hg hnz hz => hnz (hzo hown g hz)) (fun k e hk => ⟨e, hk, Nat.le_refl _, fun _ => rfl⟩) |>.anyEnv (by rw [q2]; simp)
            inj := fun k l e f g h1 h2 h3 h4 => by
              simp only [envOf] at h1 h2
              cases hk : news[k]? with
              | none => rw [hk] at h1; cases h1
              | some p =>
                cases hl : news[l]? with
                | none => rw [hl] at h2; cases h2
                | some q =>
                  obtain ⟨p1, p2⟩ := p
                  obtain ⟨q1, q2⟩ := q
                  rw [hk] at h1
                  rw [hl] at h2
                  have := hR.inj _ _ e f g h1 h2 h3 h4
                  simp only at this
                  subst this
                  exact h7.inj k l p1 p2 q2 hk hl
            own := fun k e g h1 h2 => by
              simp only [envOf] at h1
              cases hk : news[k]? with
              | none => rw [hk] at h1; cases h1
              | some p =>
                rw [hk] at h1
                exact (hR.own _ e g h1 h2).resolve_right id
            z0 := fun g hg => .inl (hR.z0 g hg)
            znew := fun g hg => by
              rcases hg with hg | ⟨_, k, e, he, ho⟩
              · exact (hR.znew g hg).elim .inl fun h => .inr (h.resolve_right id)
              · exact .inr ((hR.own k e g he ho).resolve_right id)
            zlt := fun g hg => by
              rcases hg with hg | ⟨_, k, e, he, ho⟩
              · exact hR.zlt g hg
              · exact hR.blt he ho
            wider := ⟨hR.os, hR.tape, hR.output, hR.grown, fun g hg => hR.keep g hg id⟩ }
      have hlen := h6.1
      split at h5
      · rename_i u
        simp only [Option.some.injEq] at h5
        simp only [List.length_singleton] at hlen
        have h1 : cs'.toArray.size = 1 := by simp [← hlen]
        rw [dif_pos h1]
        exact post u _ h5.symm (h6.2 0 u _ rfl (by
          rw [List.getElem?_eq_getElem (by omega)]
          simp))
      · rename_i hne
        simp only [Option.some.injEq] at h5
        have h1 : ¬ cs'.toArray.size = 1 := by
          intro hc
          have hul : us.length = 1 := by simp at hc; omega
          match us, hul with
          | [u], _ => exact hne u rfl
        rw [dif_neg h1]
        exact post _ _ h5.symm (.tup _ _ (by simpa using hlen) fun i v c q1 q2 => h6.2 i v c q1 (by simpa using q2))
    cases e with
    | normal => exact fin he
    | exit id => cases he
    | ret => exact fin he
theorem lookK_numK : ∀ (bs : List Blk) (i k : Nat), lookK (numK i bs) k = if i ≤ k then bs[k - i]? else none
  | [], i, k => by simp [numK, lookK]
  | b :: bs, i, k => by
    simp only [numK, lookK]
    by_cases e : i = k
    · subst e; simp
    · simp only [nbeq_ne e, cond_false]
      rw [lookK_numK bs (i + 1) k]
      by_cases h : i ≤ k
      · rw [if_pos h, if_pos (by omega), show k - i = (k - (i + 1)) + 1 by omega]
        simp
      · rw [if_neg h, if_neg (by omega)]
theorem lookK_num0 (bs : List Blk) (k : Nat) : lookK (numK 0 bs) k = bs[k]? := by
  rw [lookK_numK, if_pos (Nat.zero_le _), Nat.sub_zero]
theorem numK_length : ∀ (i : Nat) (bs : List Blk), (numK i bs).length = bs.length
  | i, [] => rfl
  | i, b :: bs => by simp [numK, numK_length (i + 1) bs]
theorem numK_get : ∀ (bs : List Blk) (i j : Nat) (b : Blk), bs[j]? = some b → (numK i bs)[j]? = some (i + j, b)
  | [], i, j, b, h => by simp at h
  | b0 :: bs, i, 0, b, h => by simp at h; subst h; rfl
  | b0 :: bs, i, j + 1, b, h => by
    have := numK_get bs (i + 1) j b (by simpa using h)
    simp only [numK, List.getElem?_cons_succ, this]
    congr 2
    omega
def envLo (m : Nat) (env : NE) : NE := fun i => if i < m then env i else none
theorem envLo_get {m : Nat} {k : Nat} {e : Ent} (h : envLo m env k = some e) : k < m ∧ env k = some e := by
  unfold envLo at h
  split at h
  · exact ⟨by assumption, h⟩
  · cases h
def ZH (m : Nat) (Z : Nat → Prop) (env : NE) : Nat → Prop := fun g => Z g ∨ ∃ k e, m ≤ k ∧ env k = some e ∧ ob e.v = some g
theorem packH_sim {R : Type} {m : Nat} {st : St} (hR : Rel X env Z st.toF a w) {v : AVal} {c : Value} {k : AVal → Option R} {r : R} (h : packH m st.heap v k = some r) (hv : VRel env Z w v c) :
    ∃ u, k u = some r ∧ VRel (envLo m env) (ZH m Z env) w u c ∧ cellOk u = true := by
  unfold packH at h
  have later : ∀ {u : AVal}, VRel env Z w u c → flat u = true → VRel (envLo m env) (ZH m Z env) w u c := fun {u} hu hf => (hu.mono (fun _ _ => rfl) (fun _ h => .inl h) fun k e hk => ⟨e, hk, Nat.le_refl _, fun _ => rfl⟩).anyEnv hf
  split at h
  · rename_i key n
    split at h
    · cases h
    · rename_i b hb
      cases hbox : b.kind.isBox with
      | true => rw [hbox] at h; cases h
      | false =>
        rw [hbox] at h
        simp only [cond_false] at h
        have hkb : b.kind ≠ .box := fun e => by rw [e] at hbox; cases hbox
        cases hlen : verEq b.rows.length n with
        | false => rw [hlen] at h; cases h
        | true =>
          rw [hlen] at h
          simp only [cond_true] at h
          have hlm : b.rows.length = n := nbeq_eq hlen
          subst hlm
          obtain ⟨e, he, rfl, hB⟩ := hR.readArr hv hb rfl hkb
          cases hlt : Nat.blt key m with
          | true =>
            rw [hlt] at h
            simp only [cond_true] at h
            have hlt' := nblt hlt
            cases hv with
            | slc _ _ _ e' he' hle h1 hh =>
              rw [he] at he'
              simp only [Option.some.injEq] at he'
              subst he'
              exact ⟨_, h, .slc _ _ _ e (by simp only [envLo, hlt', if_true]; exact he) hle h1 fun _ => rfl, rfl⟩
          | false =>
            rw [hlt] at h
            simp only [cond_false] at h
            have hge : m ≤ key := by
              rcases Nat.lt_or_ge key m with h' | h'
              · rw [nblt_of h'] at hlt; cases hlt
              · exact h'
            exact ⟨_, h, (hB.asRo hkb (Z' := ZH m Z env) (fun _ h => .inl h) fun g hg => .inr ⟨key, e, hge, he, hg⟩).anyEnv rfl, rfl⟩
  · rename_i x
    cases hx : oneC x with
    | false => rw [hx] at h; cases h
    | true =>
      rw [hx] at h
      exact ⟨_, h, by cases hv; exact .sc _, hx⟩
  · exact ⟨_, h, by cases hv; exact .roE _ _ _, rfl⟩
  · exact ⟨_, h, later hv rfl, rfl⟩
  · rename_i f l
    cases hr : l.all isRp with
    | false => rw [hr] at h; cases h
    | true =>
      rw [hr] at h
      exact ⟨_, h, later hv hr, rfl⟩
  · cases h
theorem packHs_sim {R : Type} {m : Nat} {st : St} (hR : Rel X env Z st.toF a w) {r : R} : ∀ (l : List AVal) (cs : List Value) (k : List AVal → Option R), packHs m st.heap l k = some r → VRels env Z w l cs →
    ∃ us, k us = some r ∧ VRels (envLo m env) (ZH m Z env) w us cs ∧ us.all cellOk = true
  | [], cs, k, h, hl => by
    rw [hl.inv_nil]
    exact ⟨[], h, .nil, rfl⟩
  | v :: l, cs, k, h, hl => by
    obtain ⟨c, ds, rfl, hc, hds⟩ := hl.inv
    simp only [packHs] at h
    obtain ⟨u, h1, q1, q2⟩ := packH_sim hR h hc
    obtain ⟨us, h2, q3, q4⟩ := packHs_sim hR l ds _ h1 hds
    exact ⟨u :: us, h2, .cons q1 q3, by simp [q2, q4]⟩
theorem packHV_sim {R : Type} {m : Nat} {st : St} (hR : Rel X env Z st.toF a w) {v : AVal} {c : Value} {k : AVal → Option R} {r : R} (h : packHV m st.heap v k = some r) (hv : VRel env Z w v c) :
    ∃ u, k u = some r ∧ VRel (envLo m env) (ZH m Z env) w u c := by
  unfold packHV at h
  split at h
  · rename_i l
    cases hv with
    | agg _ cs hl hh =>
      obtain ⟨us, h1, h2, _⟩ := packHs_sim hR l cs.toList _ h ⟨by simpa using hl, fun i v c q1 q2 => hh i v c q1 (by simpa using q2)⟩
      exact ⟨_, h1, .agg _ _ (by simpa using h2.1) fun i v c q1 q2 => h2.2 i v c q1 (by simpa using q2)⟩
  · obtain ⟨u, h1, h2, _⟩ := packH_sim hR h hv
    exact ⟨u, h1, h2⟩
theorem packHVs_sim {R : Type} {m : Nat} {st : St} (hR : Rel X env Z st.toF a w) {r : R} : ∀ (l : List AVal) (cs : List Value) (k : List AVal → Option R), packHVs m st.heap l k = some r → VRels env Z w l cs →
    ∃ us, k us = some r ∧ VRels (envLo m env) (ZH m Z env) w us cs
  | [], cs, k, h, hl => by
    rw [hl.inv_nil]
    exact ⟨[], h, .nil⟩
  | v :: l, cs, k, h, hl => by
    obtain ⟨c, ds, rfl, hc, hds⟩ := hl.inv
    simp only [packHVs] at h
    obtain ⟨u, h1, q1⟩ := packHV_sim hR h hc
    obtain ⟨us, h2, q3⟩ := packHVs_sim hR l ds _ h1 hds
    exact ⟨u :: us, h2, .cons q1 q3⟩
theorem outBlk_sim {R : Type} {m : Nat} {st : St} (hR : Rel X env Z st.toF a w) {k : Nat} {b : Blk} {kk : List (List AVal) → Option R} {r0 : R} {e : Ent} (hk : k < m) (h : outBlk m st.heap k b kk = some r0) (he : env k = some e) :
    ∃ rows, kk rows = some r0 ∧ BRel (envLo m env) (ZH m Z env) w ⟨b.kind, b.T, b.E, rows⟩ e := by
  unfold outBlk at h
  split at h
  · cases h
  · rename_i b' hb'
    cases hc : (Nat.beq b'.T b.T && Nat.beq b'.E b.E) with
    | false => rw [hc] at h; cases h
    | true =>
      rw [hc] at h
      simp only [cond_true] at h
      simp only [Bool.and_eq_true] at hc
      have hT := nbeq_eq hc.1
      have hE := nbeq_eq hc.2
      have hB := hR.blk k b' e hb' he
      have hnz : ∀ g, ob e.v = some g → ¬ Z g → ¬ ZH m Z env g := fun g hg hnz hz => by
        rcases hz with hz | ⟨k', e', h1, h2, h3⟩
        · exact hnz hz
        · have := hR.inj k k' e e' g he h2 hg h3
          omega
      split at h
      · rename_i hkb hkb'
        obtain ⟨g, cs, r, h1, h2, h3, h4, h5, h6⟩ := hB.box hkb'
        rw [h2] at h
        simp only at h
        · have hv : VRels env Z w r cs.toList := ⟨by simpa using h5, fun j v c q1 q2 => (h6 j v c q1 (by simpa using q2)).1⟩
          obtain ⟨u, hu, p1, p2⟩ := packHs_sim hR r cs.toList _ h hv
          have hlen : u.length = cs.size := by simpa using p1.1
          refine ⟨[u], hu, by rw [hB.hn, h2]; rfl, by rw [hB.hE, hE], fun i r' hr' => ?_, fun _ => ⟨g, cs, u, h1, rfl, by rw [← hT]; exact h3, hnz g (by rw [h1]; rfl) h4, hlen, fun j v c hvj hcj => ⟨p1.2 j v c hvj (by simpa using hcj), List.all_eq_true.1 p2 v (List.mem_of_getElem? hvj), ?_⟩⟩, fun hn => absurd hkb hn⟩
          · cases i with
            | zero =>
              simp only [List.getElem?_cons_zero, Option.some.injEq] at hr'
              subst hr'
              rw [hlen, ← h5, ← hE]
              exact hB.hlen 0 r (by rw [h2]; rfl)
            | succ i => simp at hr'
          · have hj : j < r.length := by rw [h5]; exact (Array.getElem?_eq_some_iff.1 hcj).1
            exact (h6 j r[j] c (by simp [hj]) hcj).2.2
      · rename_i hkb hkb'
        refine ⟨_, h, ?_⟩
        have hb2 : (⟨b.kind, b.T, b.E, b'.rows⟩ : Blk) = b' := by rw [hkb, ← hkb', ← hT, ← hE]
        rw [hb2]
        exact (hB.mono (fun _ _ => rfl) (fun _ _ => rfl) (fun _ h => .inl h) hnz (fun k e hk => ⟨e, hk, Nat.le_refl _, fun _ => rfl⟩)).anyEnv (by rw [hkb']; simp)
      · cases h
theorem outBlks_sim {R : Type} {m : Nat} {st : St} (hR : Rel X env Z st.toF a w) {r0 : R} : ∀ (l : LB) (kk : List (List (List AVal)) → Option R), outBlks m st.heap l kk = some r0 →
    (∀ (j k : Nat) (b : Blk), l[j]? = some (k, b) → k < m ∧ ∃ e, env k = some e) →
    ∃ os, kk os = some r0 ∧ os.length = l.length ∧ ∀ (j k : Nat) (b : Blk) (rows : List (List AVal)) (e : Ent), l[j]? = some (k, b) → os[j]? = some rows → env k = some e → BRel (envLo m env) (ZH m Z env) w ⟨b.kind, b.T, b.E, rows⟩ e
  | [], kk, h, hl => ⟨[], h, rfl, fun j k b rows e hj => by simp at hj⟩
  | (k0, b0) :: l, kk, h, hl => by
    simp only [outBlks] at h
    obtain ⟨hk, e0, he0⟩ := hl 0 k0 b0 rfl
    obtain ⟨rows, h1, h2⟩ := outBlk_sim hR hk h he0
    obtain ⟨os, h3, h4, h5⟩ := outBlks_sim hR l _ h1 fun j k b hj => hl (j + 1) k b (by simpa using hj)
    refine ⟨rows :: os, h3, by simp [h4], fun j k b rows' e hj hr he => ?_⟩
    cases j with
    | zero =>
      simp only [List.getElem?_cons_zero, Option.some.injEq, Prod.mk.injEq] at hj hr
      obtain ⟨rfl, rfl⟩ := hj
      subst hr
      rw [he0] at he
      simp only [Option.some.injEq] at he
      subst he
      exact h2
    | succ j => exact h5 j k b rows' e (by simpa using hj) (by simpa using hr) he
theorem fcallH_sim {GL : Nat → Option (List AVal)} (hm : P.follows .mixedOrders = true) (hT : TOk P TT) (hC : COk P GL C) (hF : ∀ f us bs r, (C f us bs).o = some r → FOk P f)
    {f : FuncId} {fn : Func} {L : LT'} {args : List AVal} {bs : List Blk} {r : CR} (hf : P.funcs[f]? = some fn) (hL : ∀ p ∈ loopsOf fn, LoopOk TT TU GL C ownF L p) (h : fcallH TT TU GL C ownF L fn args (numK 0 bs) = some r) (hbs : bs.length ≤ 1000)
    {w : World} {Z0 : Nat → Prop} {env0 : NE} {cs : Array Value} (hz : ∀ g, Z0 g → g < w.heap.size) (hg : ∀ g l, GL g = some l → VRel (fun _ => none) Z0 w (.rptr l) (.pointer (some ⟨g, 0, none⟩)))
    (hP : HandPre w Z0 env0 bs) (ha : VRels env0 Z0 w args cs.toList) : Calls P f cs w fun e w' => ∃ c env' Z', e = .returned c ∧ HandPost w Z0 env0 bs r c w' env' Z' := by
  unfold fcallH at h
  split at h
  · cases h
  · rename_i c hb
    have hbl : ∀ k e, env0 k = some e → ∃ b, bs[k]? = some b ∧ BRel env0 Z0 w b e ∧ b.kind ≠ .frz := fun k e hk => by
      have hlt := hP.dom k e hk
      obtain ⟨e', h1, h2⟩ := hP.blk k bs[k] (by simp [hlt])
      rw [hk] at h1
      simp only [Option.some.injEq] at h1
      subst h1
      exact ⟨bs[k], by simp [hlt], h2, hP.kind k bs[k] (by simp [hlt])⟩
    let X : Ctx := ⟨w, Z0, ofEnv env0, GL, env0, fun k e hk => Nat.lt_of_lt_of_le (hP.dom k e hk) hbs, hz, fun g hzg ⟨k, e, h1, h2⟩ => by
      obtain ⟨b, _, h3, h4⟩ := hbl k e h1
      exact h3.notZ h4 g h2 hzg, hg⟩
    refine calls_of_wp hf hb ?_
    have hlen : args.length = cs.size := by have := ha.1; simpa using this
    have hR0 : RelE X (initStH fn args (numK 0 bs)).toF { tmps := cs ++ Array.replicate (fn.ntmps - cs.size) undef, defers := [] } w := by
      refine ⟨env0, Z0, ?_⟩
      exact
        { size := by simp [initStH, St.toF, hlen]
          tmps := fun t ht => by
            show VRel _ _ _ ((args ++ List.replicate (fn.ntmps - args.length) (AVal.sc undef)).getD t .dead) _
            rcases Nat.lt_or_ge t args.length with hlt | hge
            · have e1 : (args ++ List.replicate (fn.ntmps - args.length) (AVal.sc undef)).getD t .dead = args[t] := by simp [List.getD, List.getElem?_append_left hlt, hlt]
              have e2 : (cs ++ Array.replicate (fn.ntmps - cs.size) undef).getD t undef = cs[t]'(by omega) := by
                rw [Array.getD_eq_getD_getElem?, Array.getElem?_append_left (by omega)]
                simp [show t < cs.size by omega]
              rw [e1, e2]
              exact ha.2 t _ _ (by simp [hlt]) (by simp [show t < cs.size by omega])
            · have hlt' : t < args.length + (fn.ntmps - args.length) := by have : t < (args ++ List.replicate (fn.ntmps - args.length) (AVal.sc undef)).length := ht; simpa using this
              have e1 : (args ++ List.replicate (fn.ntmps - args.length) (AVal.sc undef)).getD t .dead = .sc undef := by
                simp only [List.getD, List.getElem?_append_right hge, List.getElem?_replicate]
                rw [if_pos (by omega)]; rfl
              have e2 : (cs ++ Array.replicate (fn.ntmps - cs.size) undef).getD t undef = undef := by
                rw [Array.getD_eq_getD_getElem?, Array.getElem?_append_right (by omega), Array.getElem?_replicate]
                split <;> rfl
              rw [e1, e2]
              exact .sc _
          tmpo := fun t ht => by
            show (args ++ List.replicate (fn.ntmps - args.length) (AVal.sc undef)).getD t .dead = .dead
            have ht' : (args ++ List.replicate (fn.ntmps - args.length) (AVal.sc undef)).length ≤ t := ht
            simp [List.getD, List.getElem?_eq_none ht']
          dom := fun k => by
            show (env0 k).isSome = (lookK (numK 0 bs) k).isSome
            rw [lookK_num0]
            cases hk : env0 k with
            | some e =>
              obtain ⟨b, h1, _⟩ := hbl k e hk
              rw [h1]
              rfl
            | none =>
              cases hb : bs[k]? with
              | none => rfl
              | some b =>
                obtain ⟨e, h1, _⟩ := hP.blk k b hb
                rw [hk] at h1
                cases h1
          blk := fun k b e h1 h2 => by
            have h1' : lookK (numK 0 bs) k = some b := h1
            rw [lookK_num0] at h1'
            obtain ⟨e', h3, h4⟩ := hP.blk k b h1'
            rw [h2] at h3
            simp only [Option.some.injEq] at h3
            subst h3
            exact h4
          inj := hP.inj
          own := fun k e g h1 h2 => .inr ⟨k, e, h1, h2⟩
          zlt := hz
          z0 := fun _ h => h
          znew := fun _ h => .inl h
          os := rfl
          tape := rfl
          output := rfl
          grown := Nat.le_refl _
          keep := fun _ _ _ => rfl
          defers := rfl
          hand := fun k f hk => ⟨f, hk, Nat.le_refl _, fun _ => rfl⟩ }
    refine exec_sim (X := X) hm hT hC hF c 0 _ _ _ w _ h (by simpa only [loopsOf, hb] using hL) hR0 fun e s' a' w' he hl hR => ?_
    have fin : finishH TT fn (numK 0 bs) s' = some r → a'.defers = [] ∧ ∃ v, (results fn a'.tmps).run P w' = .ok v w' ∧ ∃ c env' Z', Ending.returned v = .returned c ∧ HandPost w Z0 env0 bs r c w' env' Z' := by
      intro hfin
      obtain ⟨env, Z, hR⟩ := hR
      unfold finishH at hfin
      obtain ⟨vs, cs', h1, h2, h3, h4⟩ := resVars_sim hT hR _ _ hfin
      have hmap := run_res (P := P) a'.tmps fn.results.toList w' cs' h4 h3
      have hres : (results fn a'.tmps).run P w' = .ok (if h : cs'.toArray.size = 1 then cs'.toArray[0] else .tuple cs'.toArray) w' := by
        rw [results_eq, Array.mapM_eq_mapM_toList, map_eq_pure_bind]
        simp only [Sem.run_bind, hmap]
        rfl
      rw [numK_length] at h1
      obtain ⟨us, h1, h6⟩ := packHVs_sim hR vs cs' _ h1 h2
      have hfs := outBlks_sim hR _ _ h1 fun j k b hj => by
        have hjl : j < bs.length := by
          have := (List.getElem?_eq_some_iff.1 hj).1
          rwa [numK_length] at this
        rw [numK_get bs 0 j bs[j] (by simp [hjl])] at hj
        simp only [Option.some.injEq, Prod.mk.injEq] at hj
        obtain ⟨rfl, rfl⟩ := hj
        obtain ⟨e0, he0, _⟩ := hP.blk (0 + j) bs[j] (by simp [hjl])
        obtain ⟨e, q1, _⟩ := hR.hand _ e0 he0
        exact ⟨by omega, e, q1⟩
      clear h1
      obtain ⟨os, h1, ho1, ho2⟩ := hfs
      · rw [numK_length] at ho1
        refine ⟨hR.defers, _, hres, _, envLo bs.length env, ZH bs.length Z env, rfl, ?_⟩
        have post : ∀ (u : AVal) (c : Value), r = ⟨true, u, os, []⟩ → VRel (envLo bs.length env) (ZH bs.length Z env) w' u c → HandPost w Z0 env0 bs r c w' (envLo bs.length env) (ZH bs.length Z env) := by
          intro u c hr hu
          subst hr
          exact
            { res := hu
              len := ho1
              blk := fun i b rows hi hrows => by
                have hlt : i < bs.length := (List.getElem?_eq_some_iff.1 hi).1
                obtain ⟨e0, he0, _⟩ := hP.blk i b hi
                obtain ⟨e, q1, _⟩ := hR.hand i e0 he0
                have hout := ho2 i (0 + i) b rows e (numK_get bs 0 i b hi) hrows (by rw [Nat.zero_add]; exact q1)
                exact ⟨e, by simp only [envLo, hlt, if_true]; exact q1, hout⟩
              mono := fun i f hi => by
                obtain ⟨e, q1, q2, q3⟩ := hR.hand i f hi
                have hlt := hP.dom i f hi
                exact ⟨e, by simp only [envLo, hlt, if_true]; exact q1, q2, q3⟩
              dom := fun i e hi => (envLo_get hi).1
              inj := fun k l e f g h1 h2 h3 h4 => hR.inj k l e f g (envLo_get h1).2 (envLo_get h2).2 h3 h4
              own := fun k e g h1 h2 => hR.own k e g (envLo_get h1).2 h2
              z0 := fun g hg => .inl (hR.z0 g hg)
              znew := fun g hg => by
                rcases hg with hg | ⟨k, e, _, he, ho⟩
                · exact hR.znew g hg
                · exact .inr (hR.own k e g he ho)
              zlt := fun g hg => by
                rcases hg with hg | ⟨k, e, _, he, ho⟩
                · exact hR.zlt g hg
                · exact hR.blt he ho
              os := hR.os
              tape := hR.tape
              output := hR.output
              size := hR.grown
              block := fun g h1 h2 => hR.keep g h1 h2 }
        have hlen := h6.1
        split at h1
        · rename_i u
          simp only [Option.some.injEq] at h1
          simp only [List.length_singleton] at hlen
          have h1' : cs'.toArray.size = 1 := by simp [← hlen]
          rw [dif_pos h1']
          exact post u _ h1.symm (h6.2 0 u _ rfl (by
            rw [List.getElem?_eq_getElem (by omega)]
            simp))
        · rename_i hne
          simp only [Option.some.injEq] at h1
          have h1' : ¬ cs'.toArray.size = 1 := by
            intro hc
            have hul : us.length = 1 := by simp at hc; omega
            match us, hul with
            | [u], _ => exact hne u rfl
          rw [dif_neg h1']
          exact post _ _ h1.symm (.tup _ _ (by simpa using hlen) fun i v c q1 q2 => h6.2 i v c q1 (by simpa using q2))
    cases e with
    | normal => exact fin he
    | exit id => cases he
    | ret => exact fin he
end
end
section
open Go.RowKit
def leafOf (P : Program) : Nat → TypeId → List LT
  | 0, _ => []
  | n + 1, t => match P.underlying t with
    | some .bool => [.bool]
    | some (.int k) => [.int k]
    | some .string => [.str]
    | some (.slice e) => [.sl e (P.cellsOf e)]
    | some (.struct fs) => fs.toList.flatMap fun f => leafOf P n f.type
    | some (.array m e) => (List.replicate m (leafOf P n e)).flatten
    | _ => match P.info? t with
      | some i => List.replicate i.size .other
      | none => []
def ttOf (P : Program) (eq : Bool) (t : TypeId) : Option TI :=
  match P.underlying t, P.info? t with
  | some d, some i => match i.zero with
    | some z => if (leafOf P 8 t).length = i.size ∧ z.cells.toList.length = i.size ∧ z.cells.toList.all oneC = true then
        some ⟨d, i.size, i.bytes, z.cells.toList, leafOf P 8 t, eq && (!P.stoodInHeld t && !P.eqGuardType P.depth t)⟩ else none
    | none => none
  | _, _ => none
theorem ttOf_ok (P : Program) (eq : Bool) : TOk P (ttOf P eq) := by
  have key : ∀ t ti, ttOf P eq t = some ti → ∃ d i z, P.underlying t = some d ∧ P.info? t = some i ∧ i.zero = some z ∧ (leafOf P 8 t).length = i.size ∧ z.cells.toList.length = i.size ∧ z.cells.toList.all oneC = true ∧
      ti = ⟨d, i.size, i.bytes, z.cells.toList, leafOf P 8 t, eq && (!P.stoodInHeld t && !P.eqGuardType P.depth t)⟩ := by
    intro t ti h
    unfold ttOf at h
    split at h
    · rename_i d i hd hi
      split at h
      · rename_i z hz
        split at h
        · rename_i hc
          simp only [Option.some.injEq] at h
          exact ⟨d, i, z, hd, hi, hz, hc.1, hc.2.1, hc.2.2, h.symm⟩
        · cases h
      · cases h
    · cases h
  refine ⟨fun t ti h => ?_, fun t ti h he => ?_, fun t ti h => ?_⟩
  · obtain ⟨d, i, z, h1, h2, h3, h4, h5, h6, rfl⟩ := key t ti h
    exact h1
  · obtain ⟨d, i, z, h1, h2, h3, h4, h5, h6, rfl⟩ := key t ti h
    have he' : eq = true ∧ P.stoodInHeld t = false ∧ P.eqGuardType P.depth t = false := by simpa using he
    exact he'.2
  · obtain ⟨d, i, z, h1, h2, h3, h4, h5, h6, rfl⟩ := key t ti h
    exact ⟨i, z, h2, rfl, rfl, h3, rfl, h4, h5, fun c hc => List.all_eq_true.1 h6 c hc⟩
def tabTT (l : List (Nat × TI)) : TypeId → Option TI :=
  fun t => match l with
  | [] => none
  | (k, ti) :: rest => bif Nat.beq k t then some ti else tabTT rest t
def TabOk (P : Program) (l : List (Nat × TI)) : Prop := ∀ p ∈ l, ∃ eq, ttOf P eq p.1 = some p.2
theorem TabOk.nil {P : Program} : TabOk P [] := fun p hp => (by cases hp)
theorem TabOk.cons {P : Program} {k : Nat} {ti : TI} {l : List (Nat × TI)} (eq : Bool) (h : ttOf P eq k = some ti) (hl : TabOk P l) : TabOk P ((k, ti) :: l) := fun p hp => by
  rcases List.mem_cons.1 hp with rfl | hp
  · exact ⟨eq, h⟩
  · exact hl p hp
theorem tabTT_ok {P : Program} {l : List (Nat × TI)} (h : TabOk P l) : TOk P (tabTT l) := by
  have key : ∀ (l : List (Nat × TI)), TabOk P l → ∀ t ti, tabTT l t = some ti → ∃ eq, ttOf P eq t = some ti := by
    intro l
    induction l with
    | nil => intro _ t ti h; cases h
    | cons p l ih =>
      obtain ⟨k, ti⟩ := p
      intro h t ti' ht
      simp only [tabTT] at ht
      cases hk : Nat.beq k t with
      | true =>
        rw [hk] at ht
        simp only [cond_true, Option.some.injEq] at ht
        subst ht
        rw [← nbeq_eq hk]
        exact h _ (.head _)
      | false =>
        rw [hk] at ht
        exact ih (fun p hp => h p (.tail _ hp)) t ti' ht
  have hk := key l h
  exact ⟨fun t ti ht => let ⟨eq, h⟩ := hk t ti ht; (ttOf_ok P eq).desc t ti h, fun t ti ht => let ⟨eq, h⟩ := hk t ti ht; (ttOf_ok P eq).eqOk t ti h, fun t ti ht => let ⟨eq, h⟩ := hk t ti ht; (ttOf_ok P eq).info t ti h⟩
def tabTU (l : List (Nat × List TypeId)) : TypeId → Option (List TypeId) :=
  fun t => match l with
  | [] => none
  | (k, ts) :: rest => bif Nat.beq k t then some ts else tabTU rest t
def ext (f : FuncId) (S : List AVal → Call) (C : FuncId → List AVal → List Blk → Call) : FuncId → List AVal → List Blk → Call :=
  fun g us bs => bif Nat.beq f g && bs.isEmpty then S us else C g us bs
def extH (f : FuncId) (S : List AVal → List Blk → Call) (C : FuncId → List AVal → List Blk → Call) : FuncId → List AVal → List Blk → Call :=
  fun g us bs => bif Nat.beq f g && !bs.isEmpty then S us bs else C g us bs
def noC : FuncId → List AVal → List Blk → Call := fun _ _ _ => Call.none
structure Lib (P : Program) (GL : Nat → Option (List AVal)) (C : FuncId → List AVal → List Blk → Call) : Prop where
  ok : COk P GL C
  fok : ∀ f us bs r, (C f us bs).o = some r → FOk P f
theorem Lib.none {P : Program} {GL : Nat → Option (List AVal)} : Lib P GL noC := ⟨⟨fun f us r h => (by cases h), fun f us b bs r h => (by cases h)⟩, fun f us bs r h => (by cases h)⟩
theorem fok_of {P : Program} {f : FuncId} {fn : Func} (hf : P.funcs[f]? = some fn) (h1 : (fn.name == "runtime.NumGoroutine") = false) (h2 : fn.body.isNone = false) : FOk P f := ⟨fn, hf, h1, h2⟩
theorem Lib.extD {P : Program} {TT : TypeId → Option TI} {TU : TypeId → Option (List TypeId)} {GL : Nat → Option (List AVal)} {C : FuncId → List AVal → List Blk → Call} {ownF : FuncId → Bool}
    (h : Lib P GL C) (hm : P.follows .mixedOrders = true) (hT : TOk P TT) {f : FuncId} {fn : Func} (hf : P.funcs[f]? = some fn) (hfok : FOk P f) {S : List AVal → Call} {own : Bool}
    (L : LT') (hL : ∀ p ∈ loopsOf fn, LoopOk TT TU GL C ownF L p)
    (hS : ∀ us r, (S us).o = some r → ∀ (env : NE) (Z : Nat → Prop) (w : World) (cs : List Value), VRels env Z w us cs → ∃ us', VRels env Z w us' cs ∧ fcall TT TU GL C ownF own L fn us' = some ⟨true, r.res, [], r.news⟩) : Lib P GL (ext f S C) := by
  refine ⟨⟨fun g us r hr hp w Z0 cs hz hg ha => ?_, fun g us b bs r hr hp => ?_⟩, fun g us bs r hr => ?_⟩
  · simp only [AI.ext, List.isEmpty_nil, Bool.and_true] at hr
    cases hk : Nat.beq f g with
    | true =>
      rw [hk] at hr
      simp only [cond_true] at hr
      obtain ⟨us', hno, hn⟩ := hS us r hr _ _ _ _ ha
      rw [← nbeq_eq hk]
      refine (fcall_sim hm hT h.ok h.fok hf hL hn hz hg hno).mono ?_
      rintro e w' ⟨c, env', Z', rfl, hP⟩
      exact ⟨c, env', Z', rfl, ⟨hP.res, hP.news, hP.inj, hP.own, hP.z0, hP.znew, hP.zlt, hP.wider⟩⟩
    | false =>
      rw [hk] at hr
      exact h.ok.nil g us r hr hp w Z0 cs hz hg ha
  · simp only [AI.ext, List.isEmpty_cons, Bool.and_false, cond_false] at hr
    exact h.ok.hand g us b bs r hr hp
  · simp only [AI.ext] at hr
    cases hk : (Nat.beq f g && bs.isEmpty) with
    | true =>
      simp only [Bool.and_eq_true] at hk
      rw [← nbeq_eq hk.1]; exact hfok
    | false => rw [hk] at hr; exact h.fok g us bs r hr
theorem Lib.ext {P : Program} {TT : TypeId → Option TI} {TU : TypeId → Option (List TypeId)} {GL : Nat → Option (List AVal)} {C : FuncId → List AVal → List Blk → Call} {ownF : FuncId → Bool}
    (h : Lib P GL C) (hm : P.follows .mixedOrders = true) (hT : TOk P TT) {f : FuncId} {fn : Func} (hf : P.funcs[f]? = some fn) (hfok : FOk P f) {S : List AVal → Call} {own : Bool}
    (L : LT') (hL : ∀ p ∈ loopsOf fn, LoopOk TT TU GL C ownF L p)
    (hS : ∀ us r, (S us).o = some r → ∃ us', (∀ (env : NE) (Z : Nat → Prop) (w : World) (cs : List Value), VRels env Z w us cs → VRels env Z w us' cs) ∧ fcall TT TU GL C ownF own L fn us' = some ⟨true, r.res, [], r.news⟩) : Lib P GL (ext f S C) :=
  h.extD hm hT hf hfok L hL fun us r hr env Z w cs hv => let ⟨us', h1, h2⟩ := hS us r hr; ⟨us', h1 env Z w cs hv, h2⟩
theorem Lib.extHD {P : Program} {TT : TypeId → Option TI} {TU : TypeId → Option (List TypeId)} {GL : Nat → Option (List AVal)} {C : FuncId → List AVal → List Blk → Call} {ownF : FuncId → Bool}
    (h : Lib P GL C) (hm : P.follows .mixedOrders = true) (hT : TOk P TT) {f : FuncId} {fn : Func} (hf : P.funcs[f]? = some fn) (hfok : FOk P f) {S : List AVal → List Blk → Call}
    (L : LT') (hL : ∀ p ∈ loopsOf fn, LoopOk TT TU GL C ownF L p)
    (hS : ∀ us bs r, (S us bs).o = some r → bs.length ≤ 1000 ∧ ∀ (env : NE) (Z : Nat → Prop) (w : World) (cs : List Value), VRels env Z w us cs → ∃ us', VRels env Z w us' cs ∧ fcallH TT TU GL C ownF L fn us' (numK 0 bs) = some r) : Lib P GL (extH f S C) := by
  refine ⟨⟨fun g us r hr hp => ?_, fun g us b bs r hr hp w Z0 env0 cs hz hg hHP ha => ?_⟩, fun g us bs r hr => ?_⟩
  · simp only [AI.extH, List.isEmpty_nil, Bool.not_true, Bool.and_false, cond_false] at hr
    exact h.ok.nil g us r hr hp
  · simp only [AI.extH, List.isEmpty_cons, Bool.not_false, Bool.and_true] at hr
    cases hk : Nat.beq f g with
    | true =>
      rw [hk] at hr
      simp only [cond_true] at hr
      obtain ⟨hl, hx⟩ := hS us (b :: bs) r hr
      obtain ⟨us', hno, hn⟩ := hx _ _ _ _ ha
      rw [← nbeq_eq hk]
      exact fcallH_sim hm hT h.ok h.fok hf hL hn hl hz hg hHP hno
    | false =>
      rw [hk] at hr
      exact h.ok.hand g us b bs r hr hp w Z0 env0 cs hz hg hHP ha
  · simp only [AI.extH] at hr
    cases hk : (Nat.beq f g && !bs.isEmpty) with
    | true =>
      simp only [Bool.and_eq_true] at hk
      rw [← nbeq_eq hk.1]; exact hfok
    | false => rw [hk] at hr; exact h.fok g us bs r hr
end
section
open Go.RowKit
abbrev i64 (n : Int) : AVal := .sc (.int .i64 n)
abbrev bo (b : Bool) : AVal := .sc (.bool b)
abbrev uu : AVal := .sc (.tuple #[])
def wr (n : Int) : Int := IntKind.wrap .i64 n
def noL : LT' := fun _ _ _ => none
def noG : Nat → Option (List AVal) := fun _ => none
def FU : Nat := 18446744073709551616
def cI (r : List AVal) (j : Nat) : Int := toI (r.getD j .dead)
def cB (r : List AVal) (j : Nat) : Bool := toB (r.getD j .dead)
def cS (r : List AVal) (j : Nat) : ByteArray := toS (r.getD j .dead)
def cR (r : List AVal) (j : Nat) : List (List AVal) := roRows (r.getD j .dead)
theorem verEq_rfl (a : Nat) : verEq a a = true := by simp [verEq]
theorem verEq_of {a b : Nat} (h : a = b) : verEq a b = true := by subst h; exact verEq_rfl a
inductive FK where
  | dead | int (k : IntKind) | bool | str | ro (E : Nat) | emp | uu | slc (k pos : Nat) | ref (k n i j : Nat) | any | clo (f : Nat) (ts : List (List LT)) | cloR (f : Nat) (l : List (Nat × Nat × Nat × Nat))
inductive SK where
  | f (x : FK)
  | agg (l : List FK)
  | rptr (l : List FK)
def blkAt (l : LB) (j : Nat) : Nat × Blk := l.getD j (0, default)
def blkLen (h : LB) (pos : Nat) : Nat := (blkAt h pos).2.rows.length
def cIa (l : List AVal) (j : Nat) : AVal := l.getD j .dead
def rptrL : AVal → List AVal | .rptr l => l | _ => []
def cloL : AVal → List AVal | .clo _ l => l | _ => []
def chkX (arg : Bool) : LT → AVal → Bool
  | .int k, .sc (.int k' _) => kEq k k'
  | .bool, .sc (.bool _) => true
  | .str, .sc (.string _) => true
  | .sl _ E, .ro E' rows => Nat.beq E' E || (arg && rows.isEmpty)
  | _, _ => false
def chkXs (arg : Bool) : List LT → Nat → List AVal → Bool
  | [], _, _ => true
  | t :: ts, j, r => chkX arg t (r.getD j .dead) && chkXs arg ts (j + 1) r
def chkCap (arg : Bool) (ts : List LT) : AVal → Bool
  | .rptr r => Nat.beq r.length ts.length && chkXs arg ts 0 r
  | _ => false
def chkCaps (arg : Bool) : List (List LT) → Nat → List AVal → Bool
  | [], _, _ => true
  | ts :: tss, j, l => chkCap arg ts (cIa l j) && chkCaps arg tss (j + 1) l
def decCaps : List (List LT) → Nat → List AVal → List AVal
  | [], _, _ => []
  | ts :: tss, j, l => .rptr (dec ts (rptrL (cIa l j))) :: decCaps tss (j + 1) l
def sameRefs : List (Nat × Nat × Nat × Nat) → List AVal → Bool
  | [], [] => true
  | (k, n, i, j) :: ks, .ref k' n' i' j' :: l => Nat.beq k' k && Nat.beq n' n && Nat.beq i' i && Nat.beq j' j && sameRefs ks l
  | _, _ => false
def refsOf : List (Nat × Nat × Nat × Nat) → List AVal
  | [] => []
  | (k, n, i, j) :: ks => .ref k n i j :: refsOf ks
theorem sameRefs_eq : ∀ (ks : List (Nat × Nat × Nat × Nat)) (l : List AVal), sameRefs ks l = true → refsOf ks = l
  | [], [], _ => rfl
  | [], _ :: _, h => by cases h
  | (_, _, _, _) :: _, [], h => by cases h
  | (k, n, i, j) :: ks, v :: l, h => by
    cases v <;> first | cases h | skip
    simp only [sameRefs, Bool.and_eq_true] at h
    obtain ⟨⟨⟨⟨h1, h2⟩, h3⟩, h4⟩, h5⟩ := h
    rw [nbeq_eq h1, nbeq_eq h2, nbeq_eq h3, nbeq_eq h4, refsOf, sameRefs_eq ks l h5]
def chkF (arg : Bool) (h : LB) : FK → AVal → Bool
  | .dead, _ => true
  | .int k, .sc (.int k' _) => kEq k k'
  | .bool, .sc (.bool _) => true
  | .str, .sc (.string _) => true
  | .ro E, .ro E' rows => Nat.beq E' E || (arg && rows.isEmpty)
  | .emp, .emp => true
  | .uu, .sc (.tuple a) => a.isEmpty
  | .slc k pos, .slc k' n => Nat.beq k' k && verEq n (blkLen h pos)
  | .ref k n i j, .ref k' n' i' j' => Nat.beq k' k && Nat.beq n' n && Nat.beq i' i && Nat.beq j' j
  | .clo f tss, .clo f' l => Nat.beq f' f && Nat.beq l.length tss.length && chkCaps arg tss 0 l
  | .cloR f ks, .clo f' l => Nat.beq f' f && sameRefs ks l
  | _, _ => false
def decF (h : LB) : FK → AVal → AVal
  | .dead, _ => .dead
  | .int k, v => .sc (.int k (toI v))
  | .bool, v => .sc (.bool (toB v))
  | .str, v => .sc (.string (toS v))
  | .ro E, v => .ro E (roRows v)
  | .emp, _ => .emp
  | .uu, _ => .sc (.tuple #[])
  | .slc k pos, _ => .slc k (blkLen h pos)
  | .ref k n i j, _ => .ref k n i j
  | .clo f tss, v => .clo f (decCaps tss 0 (cloL v))
  | .cloR f ks, _ => .clo f (refsOf ks)
  | .any, v => v
def chkFs (arg : Bool) (h : LB) : List FK → Nat → List AVal → Bool
  | [], _, _ => true
  | k :: ks, j, l => chkF arg h k (cIa l j) && chkFs arg h ks (j + 1) l
def decFs (h : LB) : List FK → Nat → List AVal → List AVal
  | [], _, _ => []
  | k :: ks, j, l => decF h k (cIa l j) :: decFs h ks (j + 1) l
def noDead : List FK → Bool
  | [] => true
  | .dead :: _ => false
  | _ :: ks => noDead ks
def chkS1 (arg : Bool) (h : LB) : SK → AVal → Bool
  | .f k, v => chkF arg h k v
  | .agg ks, .agg l => noDead ks && Nat.beq l.length ks.length && chkFs arg h ks 0 l
  | .rptr ks, .rptr l => noDead ks && Nat.beq l.length ks.length && chkFs arg h ks 0 l
  | _, _ => false
def decS1 (h : LB) : SK → AVal → AVal
  | .f k, v => decF h k v
  | .agg ks, v => .agg (decFs h ks 0 (aggL v))
  | .rptr ks, v => .rptr (decFs h ks 0 (rptrL v))
def chkT (arg : Bool) (h : LB) : List SK → Nat → List AVal → Bool
  | [], _, _ => true
  | k :: ks, j, l => chkS1 arg h k (cIa l j) && chkT arg h ks (j + 1) l
def decT (h : LB) : List SK → Nat → List AVal → List AVal
  | [], _, _ => []
  | k :: ks, j, l => decS1 h k (cIa l j) :: decT h ks (j + 1) l
def maskOf : List SK → List Bool
  | [] => []
  | .f .dead :: ks => false :: maskOf ks
  | _ :: ks => true :: maskOf ks
structure HK where
  key : Nat
  kind : BKind
  T : TypeId
  E : Nat
  box : Option (List FK)
def kindEq : BKind → BKind → Bool
  | .box, .box | .arr, .arr | .frz, .frz => true
  | _, _ => false
def rows0 (b : Blk) : List AVal := b.rows.getD 0 []
def chkB (H : LB) (h : HK) (p : Nat × Blk) : Bool :=
  Nat.beq p.1 h.key && kindEq p.2.kind h.kind && Nat.beq p.2.T h.T && Nat.beq p.2.E h.E &&
    (match h.box with | none => true | some ks => Nat.beq p.2.rows.length 1 && noDead ks && Nat.beq (rows0 p.2).length ks.length && chkFs false H ks 0 (rows0 p.2))
def decB (H : LB) (h : HK) (p : Nat × Blk) : Nat × Blk :=
  (h.key, ⟨h.kind, h.T, h.E, match h.box with | none => p.2.rows | some ks => [decFs H ks 0 (rows0 p.2)]⟩)
def chkH (H : LB) : List HK → Nat → Bool
  | [], _ => true
  | h :: hs, j => chkB H h (blkAt H j) && chkH H hs (j + 1)
def decH (H : LB) : List HK → Nat → LB
  | [], _ => []
  | h :: hs, j => decB H h (blkAt H j) :: decH H hs (j + 1)
def chkS (ks : List SK) (hs : List HK) (s : St) : Bool :=
  Nat.beq s.tmps.length ks.length && Nat.beq s.heap.length hs.length && chkT false s.heap ks 0 s.tmps && chkH s.heap hs 0
def decS (ks : List SK) (hs : List HK) (s : St) : St := ⟨decT s.heap ks 0 s.tmps, decH s.heap hs 0⟩
theorem drop_step {l : List AVal} {j : Nat} (h : j < l.length) : l.drop j = cIa l j :: l.drop (j + 1) := by
  rw [List.drop_eq_getElem_cons h]
  simp [cIa, List.getD, h]
theorem chkX_dec {t : LT} {v : AVal} (h : chkX false t v = true) : decL t v = v := by
  cases t with
  | int k =>
    cases v <;> first | cases h | skip
    rename_i x
    cases x <;> first | cases h | skip
    obtain rfl := kEq_eq h
    rfl
  | bool =>
    cases v <;> first | cases h | skip
    rename_i x
    cases x <;> first | rfl | cases h
  | str =>
    cases v <;> first | cases h | skip
    rename_i x
    cases x <;> first | rfl | cases h
  | sl T E =>
    cases v <;> first | cases h | skip
    simp only [chkX, Bool.false_and, Bool.or_false] at h
    obtain rfl := nbeq_eq h
    rfl
  | other => cases h
theorem chkXs_dec : ∀ (ts : List LT) (j : Nat) (r : List AVal), chkXs false ts j r = true → r.length = j + ts.length → decFrom ts j r = r.drop j
  | [], j, r, _, hl => by simp [decFrom, hl]
  | t :: ts, j, r, h, hl => by
    simp only [chkXs, Bool.and_eq_true] at h
    simp only [List.length_cons] at hl
    rw [drop_step (by omega)]
    simp only [decFrom, chkX_dec h.1, chkXs_dec ts (j + 1) r h.2 (by omega)]
    rfl
theorem chkCaps_dec : ∀ (tss : List (List LT)) (j : Nat) (l : List AVal), chkCaps false tss j l = true → l.length = j + tss.length → decCaps tss j l = l.drop j
  | [], j, l, _, hl => by simp [decCaps, hl]
  | ts :: tss, j, l, h, hl => by
    simp only [chkCaps, Bool.and_eq_true] at h
    simp only [List.length_cons] at hl
    rw [drop_step (by omega)]
    have h1 := h.1
    have : AVal.rptr (dec ts (rptrL (cIa l j))) = cIa l j := by
      generalize cIa l j = v at h1
      cases v <;> first | cases h1 | skip
      simp only [chkCap, Bool.and_eq_true] at h1
      have := chkXs_dec ts 0 _ h1.2 (by have := nbeq_eq h1.1; omega)
      rw [List.drop_zero] at this
      simp only [rptrL, dec, this]
    simp only [decCaps, this, chkCaps_dec tss (j + 1) l h.2 (by omega)]
theorem decCaps_rp : ∀ (tss : List (List LT)) (j : Nat) (l : List AVal), (decCaps tss j l).all isRp = true
  | [], _, _ => rfl
  | ts :: tss, j, l => by simp [decCaps, isRp, decCaps_rp tss (j + 1) l]
theorem chkX_L {t : LT} {v : AVal} (h : chkX true t v = true) : chkL t v = true := by
  cases t <;> cases v <;> first | exact h | (rename_i x; cases x <;> first | exact h | cases h) | cases h
theorem chkXs_from : ∀ (ts : List LT) (j : Nat) (r : List AVal), chkXs true ts j r = true → chkFrom ts j r = true
  | [], _, _, _ => rfl
  | t :: ts, j, r, h => by
    simp only [chkXs, Bool.and_eq_true] at h
    simp only [chkFrom, chkX_L h.1, chkXs_from ts (j + 1) r h.2, Bool.and_self]
theorem chkCap_norm {ts : List LT} {v : AVal} (h : chkCap true ts v = true) {env : NE} {Z : Nat → Prop} {w : World} {c : Value} (hv : VRel env Z w v c) : VRel env Z w (.rptr (dec ts (rptrL v))) c := by
  cases v <;> first | cases h | skip
  rename_i r
  simp only [chkCap, Bool.and_eq_true] at h
  have hk : chk ts r = true := by simp only [chk, h.1, chkXs_from ts 0 r h.2, Bool.and_self]
  cases hv with
  | rptr _ b o f hz h1 h2 =>
    refine .rptr _ b o f hz (fun j v hj => ?_) fun j v hj => ?_
    · obtain ⟨q1, u, q2, q3⟩ := dec_get hk hj
      exact ⟨q1, (h1 j u q2).2⟩
    · obtain ⟨q1, u, q2, q3⟩ := dec_get hk hj
      exact q3 _ _ _ _ (h2 j u q2)
theorem chkCaps_norm {env : NE} {Z : Nat → Prop} {w : World} : ∀ (tss : List (List LT)) (j : Nat) (l : List AVal) (cs : List Value), chkCaps true tss j l = true → l.length = j + tss.length → VRels env Z w l cs → VRels env Z w (decCaps tss j l) (cs.drop j)
  | [], j, l, cs, _, hl, hv => by
    have := hv.1
    rw [List.drop_eq_nil_of_le (by simp at hl; omega)]
    exact .nil
  | ts :: tss, j, l, cs, hc, hl, hv => by
    simp only [chkCaps, Bool.and_eq_true] at hc
    simp only [List.length_cons] at hl
    have hlen := hv.1
    have hj : j < cs.length := by omega
    have hjl : j < l.length := by omega
    rw [List.drop_eq_getElem_cons hj]
    refine .cons (chkCap_norm hc.1 ?_) (chkCaps_norm tss (j + 1) l cs hc.2 (by omega) hv)
    have : cIa l j = l[j] := by simp [cIa, List.getD, hjl]
    rw [this]
    exact hv.2 j _ _ (by simp [hjl]) (by simp [hj])
theorem chkF_dec {h : LB} {k : FK} {v : AVal} (hc : chkF false h k v = true) (hd : k ≠ .dead) : decF h k v = v := by
  cases k with
  | dead => exact absurd rfl hd
  | int k =>
    cases v <;> first | cases hc | skip
    rename_i x
    cases x <;> first | cases hc | skip
    obtain rfl := kEq_eq hc
    rfl
  | bool =>
    cases v <;> first | cases hc | skip
    rename_i x
    cases x <;> first | rfl | cases hc
  | str =>
    cases v <;> first | cases hc | skip
    rename_i x
    cases x <;> first | rfl | cases hc
  | ro E =>
    cases v <;> first | cases hc | skip
    simp only [chkF, Bool.false_and, Bool.or_false] at hc
    obtain rfl := nbeq_eq hc
    rfl
  | emp => cases v <;> first | rfl | cases hc
  | uu =>
    cases v <;> first | cases hc | skip
    rename_i x
    cases x <;> first | cases hc | skip
    rename_i a
    have : a = #[] := by simpa [chkF] using hc
    subst this
    rfl
  | slc k pos =>
    cases v <;> first | cases hc | skip
    simp only [chkF, Bool.and_eq_true] at hc
    obtain rfl := nbeq_eq hc.1
    have := nbeq_eq hc.2
    simp only [decF, this]
  | ref k n i j =>
    cases v <;> first | cases hc | skip
    simp only [chkF, Bool.and_eq_true] at hc
    obtain rfl := nbeq_eq hc.1.1.1
    obtain rfl := nbeq_eq hc.1.1.2
    obtain rfl := nbeq_eq hc.1.2
    obtain rfl := nbeq_eq hc.2
    rfl
  | clo f tss =>
    cases v <;> first | cases hc | skip
    rename_i f' l
    simp only [chkF, Bool.and_eq_true] at hc
    obtain rfl : f' = f := nbeq_eq hc.1.1
    have := chkCaps_dec tss 0 l hc.2 (by have := nbeq_eq hc.1.2; omega)
    rw [List.drop_zero] at this
    simp only [decF, cloL, this]
  | cloR f ks =>
    cases v <;> first | cases hc | skip
    rename_i f' l
    simp only [chkF, Bool.and_eq_true] at hc
    obtain rfl : f' = f := nbeq_eq hc.1
    simp only [decF, sameRefs_eq ks l hc.2]
  | any => rfl
theorem chkFs_dec {h : LB} : ∀ (ks : List FK) (j : Nat) (l : List AVal), chkFs false h ks j l = true → noDead ks = true → l.length = j + ks.length → decFs h ks j l = l.drop j
  | [], j, l, _, _, hl => by simp [decFs, hl]
  | k :: ks, j, l, hc, hn, hl => by
    simp only [chkFs, Bool.and_eq_true] at hc
    have hk : k ≠ .dead := fun e => by subst e; cases hn
    have hn' : noDead ks = true := by cases k <;> first | exact absurd rfl hk | exact hn
    simp only [List.length_cons] at hl
    rw [drop_step (by omega)]
    simp only [decFs, chkF_dec hc.1 hk, chkFs_dec ks (j + 1) l hc.2 hn' (by omega)]
theorem chkS1_dec {h : LB} {k : SK} {v : AVal} (hc : chkS1 false h k v = true) (hd : k ≠ .f .dead) : decS1 h k v = v := by
  cases k with
  | f x => exact chkF_dec hc fun e => hd (by rw [e])
  | agg ks =>
    cases v <;> first | cases hc | skip
    rename_i l
    simp only [chkS1, Bool.and_eq_true] at hc
    have hl := nbeq_eq hc.1.2
    simp only [decS1, aggL, chkFs_dec ks 0 l hc.2 hc.1.1 (by omega), List.drop_zero]
  | rptr ks =>
    cases v <;> first | cases hc | skip
    rename_i l
    simp only [chkS1, Bool.and_eq_true] at hc
    have hl := nbeq_eq hc.1.2
    simp only [decS1, rptrL, chkFs_dec ks 0 l hc.2 hc.1.1 (by omega), List.drop_zero]
theorem chkT_dec {h : LB} : ∀ (ks : List SK) (j : Nat) (l : List AVal), chkT false h ks j l = true → l.length = j + ks.length → decT h ks j l = maskT (maskOf ks) (l.drop j)
  | [], j, l, _, hl => by simp [decT, maskOf, hl, maskT]
  | k :: ks, j, l, hc, hl => by
    simp only [chkT, Bool.and_eq_true] at hc
    simp only [List.length_cons] at hl
    rw [drop_step (by omega)]
    simp only [decT, chkT_dec ks (j + 1) l hc.2 (by omega)]
    by_cases hk : k = .f .dead
    · subst hk; rfl
    · rw [chkS1_dec hc.1 hk]
      have : maskOf (k :: ks) = true :: maskOf ks := by
        cases k with
        | f x => cases x <;> first | rfl | exact absurd rfl hk
        | _ => rfl
      rw [this]
      rfl
theorem chkB_dec {H : LB} {h : HK} {p : Nat × Blk} (hc : chkB H h p = true) : decB H h p = p := by
  obtain ⟨k, ⟨kind, T, E, rows⟩⟩ := p
  obtain ⟨k', kind', T', E', box⟩ := h
  simp only [chkB, Bool.and_eq_true] at hc
  obtain ⟨⟨⟨⟨h1, h2⟩, h3⟩, h4⟩, h5⟩ := hc
  obtain rfl : k = k' := nbeq_eq h1
  obtain rfl : T = T' := nbeq_eq h3
  obtain rfl : E = E' := nbeq_eq h4
  have : kind = kind' := by cases kind <;> cases kind' <;> first | rfl | cases h2
  subst this
  cases box with
  | none => rfl
  | some ks =>
    simp only [Bool.and_eq_true] at h5
    obtain ⟨⟨⟨q1, q2⟩, q3⟩, q4⟩ := h5
    have q1 := nbeq_eq q1
    have q3 := nbeq_eq q3
    match rows, q1 with
    | [r], _ =>
      simp only [decB, rows0, List.getD_cons_zero] at q3 q4 ⊢
      rw [chkFs_dec ks 0 r q4 q2 (by omega), List.drop_zero]
theorem chkH_dec {H : LB} : ∀ (hs : List HK) (j : Nat), chkH H hs j = true → H.length = j + hs.length → decH H hs j = H.drop j
  | [], j, _, hl => by simp [decH, hl]
  | h :: hs, j, hc, hl => by
    simp only [chkH, Bool.and_eq_true] at hc
    simp only [List.length_cons] at hl
    have hj : j < H.length := by omega
    rw [List.drop_eq_getElem_cons hj]
    have : blkAt H j = H[j] := by simp [blkAt, List.getD, hj]
    rw [this] at hc
    simp only [decH, this, chkB_dec hc.1, chkH_dec hs (j + 1) hc.2 (by omega)]
theorem chkS_dec {ks : List SK} {hs : List HK} {s : St} (hc : chkS ks hs s = true) : decS ks hs s = maskS0 (maskOf ks) s := by
  simp only [chkS, Bool.and_eq_true] at hc
  obtain ⟨⟨⟨h1, h2⟩, h3⟩, h4⟩ := hc
  have h1 := nbeq_eq h1
  have h2 := nbeq_eq h2
  simp only [decS, maskS0, chkT_dec ks 0 s.tmps h3 (by omega), chkH_dec hs 0 h4 (by omega), List.drop_zero]
theorem maskT_twice : ∀ (m : List Bool) (l : List AVal), maskT m (maskT m l) = maskT m l
  | [], l => by cases l <;> rfl
  | b :: m, [] => rfl
  | b :: m, v :: l => by
    simp only [maskT, maskT_twice m l]
    cases b <;> rfl
theorem maskS_twice (m : List Bool) (s : St) : maskS0 m (maskS m s) = maskS m s := by
  have h := maskS_tmps m s
  have e : maskS0 m (maskS m s) = ⟨maskT m (maskS m s).tmps, (maskS m s).heap⟩ := rfl
  rw [e, h, maskT_twice, ← h]
def chkA (ks : List SK) (us : List AVal) : Bool := Nat.beq us.length ks.length && chkT true [] ks 0 us
def decA (ks : List SK) (us : List AVal) : List AVal := decT [] ks 0 us
def NormOf (us us' : List AVal) : Prop := ∀ (env : NE) (Z : Nat → Prop) (w : World) (cs : List Value), VRels env Z w us cs → VRels env Z w us' cs
theorem chkF_arg {h : LB} (k : FK) (v : AVal) (hk : ∀ E, k ≠ .ro E) (hk' : ∀ f tss, k ≠ .clo f tss) : chkF true h k v = chkF false h k v := by
  cases k with
  | ro E => exact absurd rfl (hk E)
  | clo f tss => exact absurd rfl (hk' f tss)
  | _ =>
    cases v with
    | sc x => cases x <;> rfl
    | _ => rfl
theorem chkF_norm {k : FK} {v : AVal} (hc : chkF true [] k v = true) (env : NE) (Z : Nat → Prop) (w : World) (c : Value) (hv : VRel env Z w v c) : VRel env Z w (decF [] k v) c := by
  by_cases hd : k = .dead
  · subst hd; exact .dead _
  · cases k with
    | ro E =>
      cases v <;> first | cases hc | skip
      simp only [chkF, Bool.true_and] at hc
      exact ro_norm hc hv
    | clo f tss =>
      cases v <;> first | cases hc | skip
      rename_i f' l
      simp only [chkF, Bool.and_eq_true] at hc
      obtain rfl : f' = f := nbeq_eq hc.1.1
      cases hv with
      | clo _ _ cs hl hh =>
        have := chkCaps_norm (env := env) (Z := Z) (w := w) tss 0 l cs.toList hc.2 (by have := nbeq_eq hc.1.2; omega) ⟨by simpa using hl, fun i v c q1 q2 => hh i v c q1 (by simpa using q2)⟩
        rw [List.drop_zero] at this
        exact .clo _ _ _ (by have := this.1; simpa [decF, cloL] using this) fun i v c q1 q2 => this.2 i v c q1 (by simpa using q2)
    | _ =>
      rw [chkF_arg _ _ (fun E => by simp) (fun f tss => by simp)] at hc
      rw [chkF_dec hc hd]
      exact hv
theorem chkFs_norm {env : NE} {Z : Nat → Prop} {w : World} : ∀ (ks : List FK) (j : Nat) (l : List AVal) (cs : List Value), chkFs true [] ks j l = true → l.length = j + ks.length → VRels env Z w l cs → VRels env Z w (decFs [] ks j l) (cs.drop j)
  | [], j, l, cs, _, hl, hv => by
    have := hv.1
    rw [List.drop_eq_nil_of_le (by simp at hl; omega)]
    exact .nil
  | k :: ks, j, l, cs, hc, hl, hv => by
    simp only [chkFs, Bool.and_eq_true] at hc
    simp only [List.length_cons] at hl
    have hlen := hv.1
    have hj : j < cs.length := by omega
    have hjl : j < l.length := by omega
    rw [List.drop_eq_getElem_cons hj]
    refine .cons (chkF_norm hc.1 _ _ _ _ ?_) (chkFs_norm ks (j + 1) l cs hc.2 (by omega) hv)
    have : cIa l j = l[j] := by simp [cIa, List.getD, hjl]
    rw [this]
    exact hv.2 j _ _ (by simp [hjl]) (by simp [hj])
theorem chkS1_norm {k : SK} {v : AVal} (hc : chkS1 true [] k v = true) (env : NE) (Z : Nat → Prop) (w : World) (c : Value) (hv : VRel env Z w v c) : VRel env Z w (decS1 [] k v) c := by
  cases k with
  | f x => exact chkF_norm hc env Z w c hv
  | agg ks =>
    cases v <;> first | cases hc | skip
    rename_i l
    simp only [chkS1, Bool.and_eq_true] at hc
    have hl := nbeq_eq hc.1.2
    cases hv with
    | agg _ cs h1 h2 =>
      have := chkFs_norm (env := env) (Z := Z) (w := w) ks 0 l cs.toList hc.2 (by omega) ⟨by simpa using h1, fun i v c q1 q2 => h2 i v c q1 (by simpa using q2)⟩
      rw [List.drop_zero] at this
      simp only [decS1, aggL]
      exact .agg _ _ (by have := this.1; simpa using this) fun i v c q1 q2 => this.2 i v c q1 (by simpa using q2)
  | rptr ks =>
    cases v <;> first | cases hc | skip
    rename_i l
    simp only [chkS1, Bool.and_eq_true] at hc
    have hl := nbeq_eq hc.1.2
    cases hv with
    | rptr _ b o f hz h1 h2 =>
      have hd : ∀ (ks : List FK) (j : Nat) (l : List AVal), chkFs true [] ks j l = true → noDead ks = true → ∀ (i : Nat) (v : AVal), (decFs [] ks j l)[i]? = some v → (∃ u, l[j + i]? = some u → True) ∧ ∃ k, k ∈ ks ∧ chkF true [] k (cIa l (j + i)) = true ∧ v = decF [] k (cIa l (j + i)) ∧ k ≠ .dead := by
        intro ks
        induction ks with
        | nil => intro j l _ _ i v hv; simp [decFs] at hv
        | cons k ks ih =>
          intro j l hc hn i v hv
          simp only [chkFs, Bool.and_eq_true] at hc
          have hk : k ≠ .dead := fun e => by subst e; cases hn
          have hn' : noDead ks = true := by cases k <;> first | exact absurd rfl hk | exact hn
          cases i with
          | zero =>
            simp only [decFs, List.getElem?_cons_zero, Option.some.injEq] at hv
            exact ⟨⟨.dead, fun _ => trivial⟩, k, .head _, hc.1, hv.symm, hk⟩
          | succ i =>
            simp only [decFs, List.getElem?_cons_succ] at hv
            obtain ⟨p, k', q1, q2, q3, q4⟩ := ih (j + 1) l hc.2 hn' i v hv
            rw [show j + 1 + i = j + (i + 1) by omega] at q2 q3
            exact ⟨⟨.dead, fun _ => trivial⟩, k', .tail _ q1, q2, q3, q4⟩
      have hlen : ∀ (ks : List FK) (j : Nat), (decFs [] ks j l).length = ks.length := by
        intro ks; induction ks with
        | nil => intro j; rfl
        | cons k ks ih => intro j; simp [decFs, ih]
      have key : ∀ (j : Nat) (v : AVal), (decFs [] ks 0 l)[j]? = some v → flat v = true ∧ Go.Proofs.YtoiimiohobollaaGreat.AI.oneC (f j) = true ∧ w.cell? ⟨b, o + j, none⟩ = some (f j) ∧ VRel env Z w v (f j) := by
        intro j v hj
        obtain ⟨_, k, _, q2, rfl, q4⟩ := hd ks 0 l hc.2 hc.1.1 j v hj
        rw [Nat.zero_add] at q2 ⊢
        have hjl : j < l.length := by
          have := (List.getElem?_eq_some_iff.1 hj).1
          rw [hlen] at this
          omega
        have he : cIa l j = l[j] := by simp [cIa, List.getD, hjl]
        have hj' : l[j]? = some (cIa l j) := by rw [he]; simp [hjl]
        refine ⟨?_, (h1 j _ hj').2.1, (h1 j _ hj').2.2, chkF_norm q2 _ _ _ _ (h2 j _ hj')⟩
        have hfl := (h1 j _ hj').1
        cases k with
        | slc k pos => generalize cIa l j = v at hfl q2; cases v <;> first | cases q2 | cases hfl
        | ref k n i' j' => generalize cIa l j = v at hfl q2; cases v <;> first | cases q2 | cases hfl
        | uu => generalize cIa l j = v at hfl q2; cases v <;> first | cases q2 | (rename_i x; cases x <;> first | cases q2 | cases hfl)
        | dead => exact absurd rfl q4
        | any => exact hfl
        | clo f tss => exact decCaps_rp _ _ _
        | cloR f ks =>
          generalize cIa l j = v at hfl q2
          cases v <;> first | cases q2 | skip
          simp only [chkF, Bool.and_eq_true] at q2
          simp only [decF, sameRefs_eq _ _ q2.2]
          exact hfl
        | _ => rfl
      exact .rptr _ b o f hz (fun j v hj => ⟨(key j v hj).1, (key j v hj).2.1, (key j v hj).2.2.1⟩) fun j v hj => (key j v hj).2.2.2
theorem chkT_norm {env : NE} {Z : Nat → Prop} {w : World} : ∀ (ks : List SK) (j : Nat) (l : List AVal) (cs : List Value), chkT true [] ks j l = true → l.length = j + ks.length → VRels env Z w l cs → VRels env Z w (decT [] ks j l) (cs.drop j)
  | [], j, l, cs, _, hl, hv => by
    have := hv.1
    rw [List.drop_eq_nil_of_le (by simp at hl; omega)]
    exact .nil
  | k :: ks, j, l, cs, hc, hl, hv => by
    simp only [chkT, Bool.and_eq_true] at hc
    simp only [List.length_cons] at hl
    have hlen := hv.1
    have hj : j < cs.length := by omega
    have hjl : j < l.length := by omega
    rw [List.drop_eq_getElem_cons hj]
    refine .cons (chkS1_norm hc.1 _ _ _ _ ?_) (chkT_norm ks (j + 1) l cs hc.2 (by omega) hv)
    have : cIa l j = l[j] := by simp [cIa, List.getD, hjl]
    rw [this]
    exact hv.2 j _ _ (by simp [hjl]) (by simp [hj])
theorem chkA_norm {ks : List SK} {us : List AVal} (h : chkA ks us = true) : NormOf us (decA ks us) := fun env Z w cs hv => by
  simp only [chkA, Bool.and_eq_true] at h
  have hl := nbeq_eq h.1
  have := chkT_norm (env := env) (Z := Z) (w := w) ks 0 us cs h.2 (by omega) hv
  rwa [List.drop_zero] at this
end
section
open Go.RowKit
section
variable {P : Program} {TT : TypeId → Option TI} {TU : TypeId → Option (List TypeId)} {GL : Nat → Option (List AVal)} {C : FuncId → List AVal → List Blk → Call} {ownF : FuncId → Bool}
section
variable {T U : Type} {f : T → Option CR} {A B : Option CR} {A' B' : Option T} {c c' : Bool} {Y : Option CR}
theorem n_cond (hc : c = c') (h1 : A = A'.bind f) (h2 : B = B'.bind f) : (bif c then A else B) = (bif c' then A' else B').bind f := by
  subst hc
  cases c with
  | true => exact h1
  | false => exact h2
theorem n_condH (hc : c = c') (h1 : c' = true → A = A'.bind f) (h2 : c' = false → B = B'.bind f) : (bif c then A else B) = (bif c' then A' else B').bind f := by
  subst hc
  cases c with
  | true => exact h1 rfl
  | false => exact h2 rfl
theorem n_al {a b : Bool} (h : (a && b) = true) : a = true := by cases a <;> first | rfl | cases h
theorem n_ar {a b : Bool} (h : (a && b) = true) : b = true := by cases a <;> cases b <;> first | rfl | cases h
theorem n_tn {a : Bool} (h : a = true) : (!a) = false := by rw [h]; rfl
theorem n_fn {a : Bool} (h : a = false) : (!a) = true := by rw [h]; rfl
theorem n_true (hc : c = true) (h : A = Y) : (bif c then A else B) = Y := by rw [hc]; exact h
theorem n_false (hc : c = false) (h : B = Y) : (bif c then A else B) = Y := by rw [hc]; exact h
theorem n_bind {x : Option U} {K : U → Option CR} {K' : U → Option T} (h : ∀ u, K u = (K' u).bind f) : x.bind K = (x.bind K').bind f := by
  cases x with
  | none => rfl
  | some u => exact h u
theorem n_andL {a b b' : Bool} (ha : a = true) (hb : b = b') : (a && b) = b' := by rw [ha, hb]; rfl
theorem n_andR {a a' b : Bool} (ha : a = a') (hb : b = true) : (a && b) = a' := by rw [ha, hb]; exact Bool.and_true _
theorem n_and {a a' b b' : Bool} (ha : a = a') (hb : b = b') : (a && b) = (a' && b') := by rw [ha, hb]
end
theorem loopOk_of {L : LT'} {p : Nat × Code} (ks : List SK) (hs : List HK) (W : Ex → List Bool) (m : Nat) (B : St → (Ex → St → Option CR) → Option CR)
    (hL : ∀ s k, L p.1 s k = bif chkS ks hs (maskS (maskOf ks) s) then B (maskS (maskOf ks) s) k else none)
    (hB : ∀ s k, loopN (bodyOf TT TU GL C ownF L p) m (decS ks hs s) (fun e s' => k e (maskS (W e) s')) = B s k) : LoopOk TT TU GL C ownF L p := by
  intro s k r h
  rw [hL] at h
  cases hc : chkS ks hs (maskS (maskOf ks) s) with
  | false => rw [hc] at h; cases h
  | true =>
    rw [hc] at h
    simp only [cond_true] at h
    refine ⟨m, maskOf ks, W, ?_⟩
    rw [← hB, chkS_dec hc, maskS_twice] at h
    exact h
def lp (fn : Func) (i : Nat) : Nat × Code := (loopsOf fn).getD i (0, .skip)
theorem loops_of {fn : Func} {Q : Nat × Code → Prop} (n : Nat) (h : (loopsOf fn).length = n) (hq : ∀ i, i < n → Q (lp fn i)) : ∀ p ∈ loopsOf fn, Q p := by
  intro p hp
  obtain ⟨i, hi, rfl⟩ := List.mem_iff_getElem.1 hp
  have := hq i (by omega)
  simpa [lp, List.getD, hi] using this
theorem below0 {Q : Nat → Prop} : ∀ i, i < 0 → Q i := fun i h => absurd h (Nat.not_lt_zero i)
theorem belowS {Q : Nat → Prop} {n : Nat} (h : ∀ i, i < n → Q i) (hn : Q n) : ∀ i, i < n + 1 → Q i := fun i hi => by
  rcases Nat.lt_or_ge i n with h' | h'
  · exact h i h'
  · obtain rfl : i = n := by omega
    exact hn
theorem Lib.fn (h : Lib P GL C) (hm : P.follows .mixedOrders = true) (hT : TOk P TT) {f : FuncId} {fn : Func} (hf : P.funcs[f]? = some fn) (h1 : (fn.name == "runtime.NumGoroutine") = false) (h2 : fn.body.isNone = false)
    (own : Bool) (L : LT') (hL : ∀ p ∈ loopsOf fn, LoopOk TT TU GL C ownF L p) {S : List AVal → Call} (ks : List SK) {T : Type} {F : List AVal → Option T} {enc : T → CR}
    (hS : ∀ us, S us = bif chkA ks us then Call.of (F us) enc else Call.none)
    (hrun : ∀ us, fcall TT TU GL C ownF own L fn (decA ks us) = (F us).bind fun t => some (enc t))
    (henc : ∀ t, enc t = ⟨true, (enc t).res, [], (enc t).news⟩) : Lib P GL (AI.ext f S C) := by
  refine h.ext hm hT hf (fok_of hf h1 h2) L hL (own := own) fun us r hr => ?_
  rw [hS] at hr
  cases hc : chkA ks us with
  | false => rw [hc] at hr; cases hr
  | true =>
    rw [hc] at hr
    simp only [cond_true, Call.of] at hr
    refine ⟨decA ks us, chkA_norm hc, ?_⟩
    rw [hrun]
    cases hF : F us with
    | none => rw [hF] at hr; cases hr
    | some t =>
      rw [hF] at hr
      simp only [Option.map_some, Option.some.injEq] at hr
      subst hr
      simp only [Option.bind_some]
      rw [← henc]
theorem Lib.clone (h : Lib P GL C) (hm : P.follows .mixedOrders = true) (hT : TOk P TT) {f : FuncId} {fn : Func} (hf : P.funcs[f]? = some fn) (h1 : (fn.name == "runtime.NumGoroutine") = false) (h2 : fn.body.isNone = false)
    (own : Bool) (L : LT') (hL : ∀ p ∈ loopsOf fn, LoopOk TT TU GL C ownF L p) {S : List AVal → Call} (E : Nat) {F1 : List (List AVal) → Option (List (List AVal))} {enc : List (List AVal) → CR}
    (hS : ∀ us, S us = bif chkA [.f (.ro E)] us then Call.of (bif (roRows (cIa us 0)).isEmpty then some [] else F1 (roRows (cIa us 0))) enc else Call.none)
    (hrun : ∀ rows, fcall TT TU GL C ownF own L fn [.ro E rows] = (F1 rows).bind fun t => some (enc t))
    (he : ∀ a cap, fcall TT TU GL C ownF own L fn [.sc (.slice a 0 cap)] = some (enc []))
    (henc : ∀ t, enc t = ⟨true, (enc t).res, [], (enc t).news⟩) : Lib P GL (AI.ext f S C) := by
  refine h.extD hm hT hf (fok_of hf h1 h2) L hL (own := own) fun us r hr env Z w cs hv => ?_
  rw [hS] at hr
  cases hc : chkA [.f (.ro E)] us with
  | false => rw [hc] at hr; cases hr
  | true =>
    rw [hc] at hr
    simp only [cond_true, Call.of] at hr
    have hn := chkA_norm hc env Z w cs hv
    have hd : decA [.f (.ro E)] us = [.ro E (roRows (cIa us 0))] := rfl
    rw [hd] at hn
    generalize roRows (cIa us 0) = rows at hr hn
    cases hemp : rows.isEmpty with
    | false =>
      rw [hemp] at hr
      simp only [cond_false] at hr
      refine ⟨_, hn, ?_⟩
      rw [hrun]
      cases hF : F1 rows with
      | none => rw [hF] at hr; cases hr
      | some t =>
        rw [hF] at hr
        simp only [Option.map_some, Option.some.injEq] at hr
        subst hr
        simp only [Option.bind_some]
        rw [← henc]
    | true =>
      rw [hemp] at hr
      simp only [cond_true, Option.map_some, Option.some.injEq] at hr
      subst hr
      obtain rfl : rows = [] := List.isEmpty_iff.1 hemp
      obtain ⟨c, ds, rfl, h3, h4⟩ := hn.inv
      have := h4.inv_nil
      subst this
      have hz : ∃ a cap, c = .slice a 0 cap := by
        cases h3 with
        | roE _ a cap => exact ⟨a, cap, rfl⟩
        | ro _ _ b o cap => exact ⟨_, cap, rfl⟩
      obtain ⟨a, cap, rfl⟩ := hz
      refine ⟨[.sc (.slice a 0 cap)], .cons (.sc _) .nil, ?_⟩
      rw [he, ← henc]
theorem mask_rels {env : NE} {Z : Nat → Prop} {w : World} {us : List AVal} {cs : List Value} (m : List Bool) (h : VRels env Z w us cs) : VRels env Z w (maskT m us) cs := by
  refine ⟨by rw [maskT_length]; exact h.1, fun i v c q1 q2 => ?_⟩
  have hi : i < us.length := by rw [← maskT_length m us]; exact (List.getElem?_eq_some_iff.1 q1).1
  have e : (maskT m us).getD i .dead = v := by rw [List.getD_eq_getElem?_getD, q1]; rfl
  rcases maskT_get m us i with h' | h'
  · rw [e] at h'
    have : us[i]? = some v := by rw [h', List.getD_eq_getElem?_getD, List.getElem?_eq_getElem hi]; rfl
    exact h.2 i v c this q2
  · rw [e] at h'
    rw [h']
    exact .dead _
theorem Lib.fnH (h : Lib P GL C) (hm : P.follows .mixedOrders = true) (hT : TOk P TT) {f : FuncId} {fn : Func} (hf : P.funcs[f]? = some fn) (h1 : (fn.name == "runtime.NumGoroutine") = false) (h2 : fn.body.isNone = false)
    (L : LT') (hL : ∀ p ∈ loopsOf fn, LoopOk TT TU GL C ownF L p) {S : List AVal → List Blk → Call} (ks : List SK) (hs : List HK) (hlen : Nat.ble hs.length 1000 = true) {T : Type} {F : List AVal → LB → Option T} {enc : List AVal → LB → T → CR}
    (hS : ∀ us bs, S us bs = Call.guard (chkS ks hs ⟨us, numK 0 bs⟩) (Call.of (F us (numK 0 bs)) (enc us (numK 0 bs))))
    (hrun : ∀ us H, fcallH TT TU GL C ownF L fn (decT H ks 0 us) (decH H hs 0) = (F us H).bind fun t => some (enc us H t)) : Lib P GL (AI.extH f S C) := by
  refine h.extHD hm hT hf (fok_of hf h1 h2) L hL fun us bs r hr => ?_
  rw [hS] at hr
  cases hc : chkS ks hs ⟨us, numK 0 bs⟩ with
  | false => rw [hc] at hr; simp [Call.guard] at hr
  | true =>
    rw [hc] at hr
    simp only [Call.guard, cond_true, Call.of] at hr
    have hd := chkS_dec hc
    simp only [decS, maskS0, St.mk.injEq] at hd
    have hbl : bs.length ≤ 1000 := by
      simp only [chkS, Bool.and_eq_true] at hc
      have := nbeq_eq hc.1.1.2
      rw [numK_length] at this
      have h3 := Nat.le_of_ble_eq_true hlen
      omega
    refine ⟨hbl, fun env Z w cs hv => ⟨maskT (maskOf ks) us, mask_rels _ hv, ?_⟩⟩
    have hrn := hrun us (numK 0 bs)
    rw [hd.1, hd.2] at hrn
    rw [hrn]
    cases hF : F us (numK 0 bs) with
    | none => rw [hF] at hr; cases hr
    | some t =>
      rw [hF] at hr
      simpa using hr
end
end
section
open Go.RowKit
inductive Ty (P : Program) : LT → AVal → Prop where
  | int (k : IntKind) (n : Int) (h : (Lit.int k n).wf = true) : Ty P (.int k) (.sc (.int k n))
  | bool (b : Bool) : Ty P .bool (.sc (.bool b))
  | str (s : ByteArray) (h : s.size ≤ maxLen) (hb : s.size ≤ reachBytes) : Ty P .str (.sc (.string s))
  | sl (T : TypeId) (E : Nat) (rows : List (List AVal)) (hl : rows.length ≤ maxLen) (hb : rows.length * P.bytesOf T ≤ reachBytes) (hn : ∀ r ∈ rows, r.length = (leafOf P 8 T).length)
      (h : ∀ r ∈ rows, ∀ (j : Nat) (t : LT) (v : AVal), (leafOf P 8 T)[j]? = some t → r[j]? = some v → Ty P t v) : Ty P (.sl T E) (.ro E rows)
def TyL (P : Program) (ts : List LT) (l : List AVal) : Prop := l.length = ts.length ∧ ∀ (j : Nat) (t : LT) (v : AVal), ts[j]? = some t → l[j]? = some v → Ty P t v
theorem Ty.flat {P : Program} {t : LT} {v : AVal} (h : Ty P t v) : flat v = true := by cases h <;> rfl
def fieldsOk (P : Program) (rec : TypeId → Bool) : List Field → Nat → Bool
  | [], _ => true
  | f :: fs, o => Nat.beq f.offset o && rec f.type && fieldsOk P rec fs (o + P.cellsOf f.type)
def fieldsSum (P : Program) : List Field → Nat
  | [] => 0
  | f :: fs => P.cellsOf f.type + fieldsSum P fs
def shapeOk (P : Program) : Nat → TypeId → Bool
  | 0, _ => false
  | n + 1, t => match P.underlying t with
    | some .bool => Nat.beq (P.cellsOf t) 1
    | some (.int _) => Nat.beq (P.cellsOf t) 1
    | some .string => Nat.beq (P.cellsOf t) 1
    | some (.slice e) => Nat.beq (P.cellsOf t) 1 && Nat.blt 0 (P.cellsOf e) && shapeOk P n e
    | some (.struct fs) => Nat.beq (P.cellsOf t) (fieldsSum P fs.toList) && fieldsOk P (shapeOk P n) fs.toList 0
    | some (.array m e) => Nat.beq (P.cellsOf t) (m * P.cellsOf e) && shapeOk P n e
    | _ => false
theorem leafOf_stable {P : Program} : ∀ (n m : Nat) (t : TypeId), shapeOk P n t = true → n ≤ m → leafOf P m t = leafOf P n t
  | 0, m, t, h, _ => by cases h
  | n + 1, 0, t, h, hm => by omega
  | n + 1, m + 1, t, h, hm => by
    have ih := leafOf_stable (P := P) n m
    simp only [shapeOk] at h
    simp only [leafOf]
    split at h
    all_goals first | (rename_i hu; rw [hu]) | rfl | skip
    · -- struct
      rename_i fs hu
      simp only [Bool.and_eq_true] at h
      have : ∀ (l : List Field) (o : Nat), fieldsOk P (shapeOk P n) l o = true → l.flatMap (fun f => leafOf P m f.type) = l.flatMap fun f => leafOf P n f.type := by
        intro l
        induction l with
        | nil => intro o _; rfl
        | cons f l ihl =>
          intro o ho
          simp only [fieldsOk, Bool.and_eq_true] at ho
          simp only [List.flatMap_cons, ih f.type ho.1.2 (by omega), ihl _ ho.2]
      exact this _ _ h.2
    · simp only [Bool.and_eq_true] at h
      show (List.replicate _ (leafOf P m _)).flatten = (List.replicate _ (leafOf P n _)).flatten
      rw [ih _ h.2 (by omega)]
    all_goals cases h
section
variable {P : Program} {W : World} {H : Type} {enc : TypeId × Value → H}
abbrev ZW (W : World) : Nat → Prop := fun g => g < W.heap.size
theorem vrels_append {env : NE} {Z : Nat → Prop} {w : World} : ∀ {l m : List AVal} {cs ds : List Value}, VRels env Z w l cs → VRels env Z w m ds → VRels env Z w (l ++ m) (cs ++ ds)
  | [], m, cs, ds, h, k => by
    obtain rfl := h.inv_nil
    exact k
  | v :: l, m, cs, ds, h, k => by
    obtain ⟨c, cs', rfl, hc, hcs⟩ := h.inv
    exact .cons hc (vrels_append hcs k)
theorem tyL_append {ts us : List LT} {l m : List AVal} (h : TyL P ts l) (k : TyL P us m) : TyL P (ts ++ us) (l ++ m) := by
  refine ⟨by simp [h.1, k.1], fun j t v ht hv => ?_⟩
  rcases Nat.lt_or_ge j ts.length with hj | hj
  · rw [List.getElem?_append_left hj] at ht
    rw [List.getElem?_append_left (by rw [h.1]; exact hj)] at hv
    exact h.2 j t v ht hv
  · rw [List.getElem?_append_right hj] at ht
    rw [List.getElem?_append_right (by rw [h.1]; exact hj), h.1] at hv
    exact k.2 _ t v ht hv
def wOk (P : Program) (t : TypeId) (d : DataW H) : Prop := (d.weights P t).all (· ≤ reachBytes) = true
theorem wEach_cons {t : TypeId} {ts : List TypeId} {d : DataW H} {ds : List (DataW H)} (h : (DataW.weightsEach P (t :: ts) (d :: ds)).all (· ≤ reachBytes) = true) : wOk P t d ∧ (DataW.weightsEach P ts ds).all (· ≤ reachBytes) = true := by
  simp only [DataW.weightsEach, List.all_append, Bool.and_eq_true] at h
  exact h
theorem wAll_get {e : TypeId} : ∀ {ds : List (DataW H)}, (DataW.weightsAll P e ds).all (· ≤ reachBytes) = true → ∀ d ∈ ds, wOk P e d
  | d0 :: ds, h, d, hd => by
    simp only [DataW.weightsAll, List.all_append, Bool.and_eq_true] at h
    rcases List.mem_cons.1 hd with rfl | hd
    · exact h.1
    · exact wAll_get h.2 d hd
theorem open_fields {fuel n : Nat} (IH : ∀ (t : TypeId) (cs : List Value) (y : DataW H × List MemPlace), shapeOk P n t = true → DataW.trod enc P W 0 (fun _ => true) true fuel t cs = some y → wOk P t y.1 →
      ∃ l, VRels (fun _ => none) (ZW W) W l cs ∧ TyL P (leafOf P n t) l) (cs : List Value) :
    ∀ (fs : List Field) (o : Nat) (xs : List (DataW H × List MemPlace)), fieldsOk P (shapeOk P n) fs o = true →
      (fs.mapM fun f => DataW.trod enc P W 0 (fun _ => true) true fuel f.type ((cs.drop f.offset).take (P.cellsOf f.type))) = some xs → o + fieldsSum P fs = cs.length → (DataW.weightsEach P (fs.map (·.type)) (xs.map (·.1))).all (· ≤ reachBytes) = true →
      ∃ l, VRels (fun _ => none) (ZW W) W l (cs.drop o) ∧ TyL P (fs.flatMap fun f => leafOf P n f.type) l
  | [], o, xs, hf, hm, hl, hw => by
    simp only [fieldsSum, Nat.add_zero] at hl
    rw [List.drop_eq_nil_of_le (by omega)]
    exact ⟨[], .nil, rfl, fun j t v ht => by simp at ht⟩
  | f :: fs, o, xs, hf, hm, hl, hw => by
    simp only [fieldsOk, Bool.and_eq_true] at hf
    obtain ⟨⟨h1, h2⟩, h3⟩ := hf
    have h1 := nbeq_eq h1
    rw [List.mapM_cons] at hm
    cases hx : DataW.trod enc P W 0 (fun _ => true) true fuel f.type ((cs.drop f.offset).take (P.cellsOf f.type)) with
    | none => rw [hx] at hm; cases hm
    | some y =>
      rw [hx] at hm
      cases hys : fs.mapM fun f => DataW.trod enc P W 0 (fun _ => true) true fuel f.type ((cs.drop f.offset).take (P.cellsOf f.type)) with
      | none => rw [hys] at hm; cases hm
      | some ys =>
        simp only [fieldsSum] at hl
        rw [hys] at hm
        obtain rfl : y :: ys = xs := by simpa using hm
        obtain ⟨w1, w2⟩ := wEach_cons (by simpa using hw)
        obtain ⟨l, q1, q2⟩ := IH f.type _ y h2 hx w1
        obtain ⟨l', q3, q4⟩ := open_fields IH cs fs (o + P.cellsOf f.type) ys h3 hys (by omega) (by simpa using w2)
        refine ⟨l ++ l', ?_, by rw [List.flatMap_cons]; exact tyL_append q2 q4⟩
        have : cs.drop o = (cs.drop f.offset).take (P.cellsOf f.type) ++ cs.drop (o + P.cellsOf f.type) := by
          rw [h1, ← List.drop_drop, List.take_append_drop]
        rw [this]
        exact vrels_append q1 q3
theorem open_elems {fuel n : Nat} {e : TypeId} (IH : ∀ (t : TypeId) (cs : List Value) (y : DataW H × List MemPlace), shapeOk P n t = true → DataW.trod enc P W 0 (fun _ => true) true fuel t cs = some y → wOk P t y.1 →
      ∃ l, VRels (fun _ => none) (ZW W) W l cs ∧ TyL P (leafOf P n t) l) (he : shapeOk P n e = true) (cs : List Value) :
    ∀ (m i : Nat), (∀ k, k < m → ∃ y, DataW.trod enc P W 0 (fun _ => true) true fuel e ((cs.drop ((i + k) * P.cellsOf e)).take (P.cellsOf e)) = some y ∧ wOk P e y.1) → (i + m) * P.cellsOf e = cs.length →
      ∃ l, VRels (fun _ => none) (ZW W) W l (cs.drop (i * P.cellsOf e)) ∧ TyL P ((List.replicate m (leafOf P n e)).flatten) l
  | 0, i, h, hl => by
    rw [List.drop_eq_nil_of_le (by rw [Nat.add_zero] at hl; omega)]
    exact ⟨[], .nil, rfl, fun j t v ht => by simp at ht⟩
  | m + 1, i, h, hl => by
    obtain ⟨y, hy, hwy⟩ := h 0 (by omega)
    obtain ⟨l, q1, q2⟩ := IH e _ y he hy hwy
    obtain ⟨l', q3, q4⟩ := open_elems IH he cs m (i + 1) (fun k hk => by
      obtain ⟨y, hy, hwy⟩ := h (k + 1) (by omega)
      exact ⟨y, by rw [show i + 1 + k = i + (k + 1) by omega]; exact hy, hwy⟩) (by rw [show i + 1 + m = i + (m + 1) by omega]; exact hl)
    refine ⟨l ++ l', ?_, by rw [List.replicate_succ, List.flatten_cons]; exact tyL_append q2 q4⟩
    have : cs.drop (i * P.cellsOf e) = (cs.drop ((i + 0) * P.cellsOf e)).take (P.cellsOf e) ++ cs.drop ((i + 1) * P.cellsOf e) := by
      rw [Nat.add_zero, Nat.succ_mul, ← List.drop_drop, List.take_append_drop]
    rw [this]
    exact vrels_append q1 q3
theorem open_trod (fuel : Nat) : ∀ (n : Nat) (t : TypeId) (cs : List Value) (y : DataW H × List MemPlace), n ≤ 8 → shapeOk P n t = true → DataW.trod enc P W 0 (fun _ => true) true fuel t cs = some y → wOk P t y.1 →
    ∃ l, VRels (fun _ => none) (ZW W) W l cs ∧ TyL P (leafOf P n t) l := by
  induction fuel with
  | zero => intro n t cs y _ _ h; simp [DataW.trod] at h
  | succ fuel IH =>
    intro n t cs y hn8 hs h hw
    cases n with
    | zero => cases hs
    | succ n =>
      have one : ∀ {lt : LT} {v : AVal} {c : Value}, VRel (fun _ => none) (ZW W) W v c → Ty P lt v → ∃ l, VRels (fun _ => none) (ZW W) W l [c] ∧ TyL P [lt] l := fun {lt v c} h1 h2 =>
        ⟨[v], .cons h1 .nil, rfl, fun j t u ht hu => by
          cases j with
          | zero =>
            simp only [List.getElem?_cons_zero, Option.some.injEq] at ht hu
            subst ht hu
            exact h2
          | succ j => simp at ht⟩
      rw [DataW.trod_step] at h
      simp only [shapeOk] at hs
      simp only [leafOf]
      unfold DataW.trodStep at h
      cases hu : P.underlying t with
      | none => rw [hu] at hs; cases hs
      | some d =>
        rw [hu] at hs h
        cases d with
        | bool =>
          simp only at h
          split at h <;> first | (rename_i heq; cases heq) | skip
          all_goals first | cases h | skip
          exact one (.sc _) (.bool _)
        | int k =>
          simp only at h
          split at h <;> first | (rename_i heq; cases heq) | skip
          all_goals first | cases h | skip
          split at h
          · rename_i hk
            obtain ⟨rfl, hw⟩ := hk
            exact one (.sc _) (.int _ _ hw)
          · cases h
        | string =>
          simp only at h
          split at h <;> first | (rename_i heq; cases heq) | skip
          all_goals first | cases h | skip
          split at h
          · rename_i hk
            simp only [Option.some.injEq] at h
            subst h
            exact one (.sc _) (.str _ hk (by simpa [wOk, DataW.weights] using hw))
          · cases h
        | slice e =>
          simp only [Bool.and_eq_true] at hs
          obtain ⟨⟨hc1, hce⟩, hse⟩ := hs
          have hce := nblt hce
          have hst : leafOf P 8 e = leafOf P n e := leafOf_stable n 8 e hse (by omega)
          have nil : ∀ (a : Option Addr) (cap : Nat), ∃ l, VRels (fun _ => none) (ZW W) W l [.slice a 0 cap] ∧ TyL P [.sl e (P.cellsOf e)] l := fun a cap =>
            one (.roE _ _ _) (.sl _ _ [] (Nat.zero_le _) (by simp) (fun r hr => by cases hr) fun r hr => by cases hr)
          obtain ⟨a, len, cap, rfl⟩ : ∃ a len cap, cs = [.slice a len cap] := by
            cases cs with
            | nil => cases h
            | cons c cs' =>
              cases cs' with
              | nil =>
                cases c <;> first | exact ⟨_, _, _, rfl⟩ | cases h | (rename_i q1; cases q1 <;> cases h)
              | cons c' cs'' => exfalso; cases c <;> first | cases h | (rename_i q1 q2 q3; cases q1 <;> first | cases h | (cases q2 <;> first | cases h | (cases q3 <;> cases h))) | (rename_i q1; cases q1 <;> cases h)
          cases a with
          | none =>
            cases len with
            | zero => exact nil _ _
            | succ len => cases h
          | some a =>
            simp only at h
            split at h
            · rename_i hcond
              obtain ⟨hb, hlc, hcm⟩ := hcond
              simp only [Option.bind_eq_some_iff] at h
              obtain ⟨elems, hel, hrest⟩ := h
              simp only [Option.map_eq_some_iff] at hrest
              obtain ⟨rest, _, rfl⟩ := hrest
              simp only [wOk, DataW.weights, hu, List.all_cons, List.all_append, Bool.and_eq_true, decide_eq_true_eq, List.length_map] at hw
              cases len with
              | zero => exact nil _ _
              | succ len =>
                have hlen := mapM_some_length hel
                simp only [List.length_range] at hlen
                have hget := mapM_some_get hel
                have key : ∀ i, i < len + 1 → ∃ vs l, W.cells? 0 (a.add (i * P.cellsOf e)) (P.cellsOf e) = some vs ∧ VRels (fun _ => none) (ZW W) W l vs ∧ TyL P (leafOf P n e) l := by
                  intro i hi
                  have := hget i i (by simp [hi])
                  have hi' : i < elems.length := by omega
                  rw [List.getElem?_eq_getElem hi', Option.bind_eq_some_iff] at this
                  obtain ⟨vs, h1, h2⟩ := this
                  obtain ⟨l, q1, q2⟩ := IH n e vs _ (by omega) hse h2 (wAll_get hw.2.1 _ (List.mem_map_of_mem (List.getElem_mem hi')))
                  exact ⟨vs, l, h1, q1, q2⟩
                have hcell : ∀ i vs, i < len + 1 → W.cells? 0 (a.add (i * P.cellsOf e)) (P.cellsOf e) = some vs → vs.length = P.cellsOf e ∧ ∀ j, j < P.cellsOf e → W.cell? ⟨a.block, a.off + (i * P.cellsOf e + j), none⟩ = vs[j]? := by
                  intro i vs hi hv
                  unfold World.cells? at hv
                  split at hv
                  · have hl := mapM_some_length hv
                    simp only [List.length_range] at hl
                    refine ⟨hl, fun j hj => ?_⟩
                    have := mapM_some_get hv j j (by simp [hj])
                    rw [← this]
                    have hj' : j < vs.length := by omega
                    have hsome : W.cell? ((a.add (i * P.cellsOf e)).add j) = some vs[j] := by rw [this]; simp [hj']
                    congr 1
                    unfold Addr.add
                    by_cases h0 : j = 0
                    · subst h0
                      rw [if_pos rfl]
                      by_cases h1 : i * P.cellsOf e = 0
                      · rw [if_pos h1, h1]
                        have hsp : a.spot = none := by
                          have hs := hsome
                          simp only [Addr.add, if_pos, h1] at hs
                          unfold World.cell? at hs
                          split at hs
                          · split at hs
                            · cases hs
                            · rename_i hns; simpa using hns
                          · cases hs
                        cases a; simp at hsp ⊢; exact hsp.symm
                      · rw [if_neg h1]; simp
                    · rw [if_neg h0]
                      by_cases h1 : i * P.cellsOf e = 0
                      · rw [if_pos h1, h1]; simp
                      · rw [if_neg h1]; simp [Nat.add_assoc]
                  · cases hv
                -- the rows
                have rowsF : ∃ (g : Nat → List AVal) (f : Nat → List Value), ∀ i, i < len + 1 → W.cells? 0 (a.add (i * P.cellsOf e)) (P.cellsOf e) = some (f i) ∧ VRels (fun _ => none) (ZW W) W (g i) (f i) ∧ TyL P (leafOf P n e) (g i) := by
                  refine ⟨fun i => if hi : i < len + 1 then (key i hi).choose_spec.choose else [], fun i => if hi : i < len + 1 then (key i hi).choose else [], fun i hi => ?_⟩
                  simp only [hi, dif_pos]
                  exact (key i hi).choose_spec.choose_spec
                obtain ⟨g, f, hgf⟩ := rowsF
                let rows := (List.range (len + 1)).map g
                have hrl : rows.length = len + 1 := by simp [rows]
                have hrow : ∀ i r, rows[i]? = some r → i < len + 1 ∧ r = g i := by
                  intro i r hr
                  have hi : i < rows.length := (List.getElem?_eq_some_iff.1 hr).1
                  rw [hrl] at hi
                  simp only [rows, List.getElem?_map, List.getElem?_range hi, Option.map_some, Option.some.injEq] at hr
                  exact ⟨hi, hr.symm⟩
                have hmem : ∀ r ∈ rows, ∃ i, i < len + 1 ∧ r = g i := by
                  intro r hr
                  obtain ⟨i, hi⟩ := List.getElem?_of_mem hr
                  exact ⟨i, hrow i r hi⟩
                have hz : a.block < W.heap.size := by
                  obtain ⟨h1, _⟩ := hgf 0 (by omega)
                  obtain ⟨hl, hc⟩ := hcell 0 _ (by omega) h1
                  have h2 := hc 0 hce
                  rw [List.getElem?_eq_getElem (by omega)] at h2
                  unfold World.cell? at h2
                  split at h2
                  · rename_i hh
                    exact (Array.getElem?_eq_some_iff.1 hh).1
                  · cases h2
                have hab : (.slice (some a) (len + 1) cap : Value) = .slice (some ⟨a.block, a.off, none⟩) rows.length cap := by
                  rw [hrl]
                  have hsp : a.spot = none := by
                    obtain ⟨h1, _⟩ := hgf 0 (by omega)
                    unfold World.cells? at h1
                    split at h1
                    · have := mapM_some_get h1 0 0 (by simp [hce])
                      have hl := mapM_some_length h1
                      simp only [List.length_range] at hl
                      rw [List.getElem?_eq_getElem (by omega)] at this
                      simp only [Nat.zero_mul, Addr.add, if_pos] at this
                      unfold World.cell? at this
                      split at this
                      · split at this
                        · cases this
                        · rename_i hns; simpa using hns
                      · cases this
                    · cases h1
                  cases a; simp at hsp ⊢; exact hsp
                refine one (v := .ro (P.cellsOf e) rows) (by
                  rw [hab]
                  refine .ro _ rows a.block a.off cap (fun i j => (f i).getD j undef) (by omega) hz (fun i r hr => ?_) (fun i j r v hr hv => ?_) fun i j r v hr hv => ?_
                  · obtain ⟨hi, rfl⟩ := hrow i r hr
                    obtain ⟨h1, h2, h3⟩ := hgf i hi
                    rw [h2.1]
                    exact (hcell i _ hi h1).1
                  · obtain ⟨hi, rfl⟩ := hrow i r hr
                    obtain ⟨h1, h2, h3⟩ := hgf i hi
                    obtain ⟨h4, h5⟩ := hcell i _ hi h1
                    have hj : j < (g i).length := (List.getElem?_eq_some_iff.1 hv).1
                    have hjf : j < (f i).length := by rw [← h2.1]; exact hj
                    have hjt : j < (leafOf P n e).length := by rw [← h3.1]; exact hj
                    have hty := h3.2 j _ v (List.getElem?_eq_getElem hjt) hv
                    have hgd : (f i).getD j undef = (f i)[j] := by simp [List.getD, hjf]
                    refine ⟨hty.flat, ?_, ?_⟩
                    · have := h2.2 j v _ hv (by rw [List.getElem?_eq_getElem hjf])
                      rw [hgd]
                      exact this.oneC (flat_cellOk hty.flat)
                    · rw [h5 j (by omega), hgd, List.getElem?_eq_getElem hjf]
                  · obtain ⟨hi, rfl⟩ := hrow i r hr
                    obtain ⟨h1, h2, h3⟩ := hgf i hi
                    have hj : j < (g i).length := (List.getElem?_eq_some_iff.1 hv).1
                    have hjf : j < (f i).length := by rw [← h2.1]; exact hj
                    have hgd : (f i).getD j undef = (f i)[j] := by simp [List.getD, hjf]
                    simp only [hgd]
                    exact h2.2 j v _ hv (by rw [List.getElem?_eq_getElem hjf])) (.sl _ _ rows (by omega) (by
                    rw [hrl, ← hlen]
                    exact Nat.le_trans (Nat.mul_le_mul_right _ (Nat.le_add_right _ _)) hw.1) (fun r hr => ?_) fun r hr j t v ht hv => ?_)
                · obtain ⟨i, hi, rfl⟩ := hmem r hr
                  rw [hst]
                  exact (hgf i hi).2.2.1
                · obtain ⟨i, hi, rfl⟩ := hmem r hr
                  rw [hst] at ht
                  exact (hgf i hi).2.2.2 j t v ht hv
            · cases h
        | struct fs =>
          simp only [Bool.and_eq_true] at hs
          have hs1 := nbeq_eq hs.1
          simp only at h
          split at h
          · rename_i hl
            simp only [Option.map_eq_some_iff] at h
            obtain ⟨xs, hxs, rfl⟩ := h
            have := open_fields (fun t cs y h1 h2 h3 => IH n t cs y (by omega) h1 h2 h3) cs fs.toList 0 xs hs.2 hxs (by omega) (by simpa only [wOk, DataW.weights, hu] using hw)
            rw [List.drop_zero] at this
            exact this
          · cases h
        | array m e =>
          simp only [Bool.and_eq_true] at hs
          have hs1 := nbeq_eq hs.1
          simp only at h
          split at h
          · rename_i hl
            simp only [Option.map_eq_some_iff] at h
            obtain ⟨xs, hxs, rfl⟩ := h
            have hw' : (DataW.weightsAll P e (xs.map (·.1))).all (· ≤ reachBytes) = true := by simpa only [wOk, DataW.weights, hu] using hw
            have := open_elems (fun t cs y h1 h2 h3 => IH n t cs y (by omega) h1 h2 h3) hs.2 cs m 0 (fun k hk => by
              have h1 := mapM_some_get hxs k k (by simp [hk])
              have h2 := mapM_some_length hxs
              simp only [List.length_range] at h2
              rw [List.getElem?_eq_getElem (by omega)] at h1
              rw [Nat.zero_add]
              exact ⟨_, h1, wAll_get hw' _ (List.mem_map_of_mem (List.getElem_mem _))⟩) (by rw [Nat.zero_add]; omega)
            rw [Nat.zero_mul, List.drop_zero] at this
            exact this
          · cases h
        | _ => cases hs
end
end
section
open Go.RowKit
section
variable {P : Program} {W : World} {H : Type} {enc : TypeId × Value → H}
def ArgOk (P : Program) (t : TypeId) (a : AVal) : Prop :=
  match P.underlying t with
  | some (.struct _) | some (.array _ _) => ∃ l, a = .agg l ∧ TyL P (leafOf P 8 t) l
  | _ => ∃ lt, leafOf P 8 t = [lt] ∧ Ty P lt a
def ArgsOk (P : Program) : List TypeId → List AVal → Prop
  | [], [] => True
  | t :: ts, a :: us => ArgOk P t a ∧ ArgsOk P ts us
  | _, _ => False
theorem open_arg {base : Nat} {t : TypeId} {v : Value} {d : DataW H} {p : List MemPlace} (hs : shapeOk P 8 t = true) (hv : Value.okWide P W .any base t v) (h : DataW.Trod enc P W 0 (fun _ => true) true t v d p) (hw : wOk P t d) :
    ∃ a, VRel (fun _ => none) (ZW W) W a v ∧ ArgOk P t a := by
  obtain ⟨fuel, h⟩ := h
  obtain ⟨l, h1, h2⟩ := open_trod fuel 8 t _ _ (Nat.le_refl _) hs h hw
  unfold ArgOk
  have hs' := hs
  obtain ⟨m, hm⟩ : ∃ m, m + 1 = 8 := ⟨7, rfl⟩
  rw [← hm] at hs'
  simp only [shapeOk] at hs'
  have agg : ∀ cs, v = .agg cs → ∃ a, VRel (fun _ => none) (ZW W) W a v ∧ ∃ l, a = .agg l ∧ TyL P (leafOf P 8 t) l := by
    rintro cs rfl
    have hl := h1.1
    exact ⟨.agg l, .agg _ _ (by simpa [Value.cells] using hl) fun i u c q1 q2 => h1.2 i u c q1 (by simpa [Value.cells] using q2), l, rfl, h2⟩
  have one : v.cells = #[v] → (leafOf P 8 t).length = 1 → ∃ a, VRel (fun _ => none) (ZW W) W a v ∧ ∃ lt, leafOf P 8 t = [lt] ∧ Ty P lt a := by
    intro hc hlen
    rw [hc] at h1
    match hlf : leafOf P 8 t, hlen with
    | [lt], _ =>
      rw [hlf] at h2
      obtain ⟨a, rfl⟩ := List.length_eq_one_iff.1 h2.1
      exact ⟨a, h1.2 0 a v rfl rfl, lt, rfl, h2.2 0 lt a rfl rfl⟩
  cases hu : P.underlying t with
  | none => rw [hu] at hs'; cases hs'
  | some d =>
    rw [hu] at hs'
    simp only [Value.okWide, hu, Cell.okWide] at hv
    cases d with
    | struct fs =>
      obtain ⟨cs, rfl, _⟩ := hv
      exact agg cs rfl
    | array m e =>
      obtain ⟨cs, rfl, _⟩ := hv
      exact agg cs rfl
    | bool =>
      refine one ?_ (by rw [← hm]; simp only [leafOf, hu]; rfl)
      cases v <;> first | rfl | (simp [Cell.ok, hu] at hv)
    | int k =>
      refine one ?_ (by rw [← hm]; simp only [leafOf, hu]; rfl)
      cases v <;> first | rfl | (simp [Cell.ok, hu] at hv)
    | string =>
      refine one ?_ (by rw [← hm]; simp only [leafOf, hu]; rfl)
      cases v <;> first | rfl | (simp [Cell.ok, hu] at hv)
    | slice e =>
      refine one ?_ (by rw [← hm]; simp only [leafOf, hu]; rfl)
      cases v <;> first | rfl | (simp [Cell.ok, hu] at hv)
    | _ => cases hs'
theorem open_args {base : Nat} : ∀ {ts : List TypeId} {vs : List Value} {ds : List (DataW H)} {ps : List MemPlace}, ts.all (shapeOk P 8) = true → (∀ (j : Nat) t v, ts[j]? = some t → vs[j]? = some v → Value.okWide P W .any base t v) →
    DataW.TrodAll enc P W 0 (fun _ => true) true ts vs ds ps → (DataW.weightsEach P ts ds).all (· ≤ reachBytes) = true → ∃ us, VRels (fun _ => none) (ZW W) W us vs ∧ ArgsOk P ts us
  | [], [], [], _, _, _, _, _ => ⟨[], .nil, trivial⟩
  | t :: ts, v :: vs, d :: ds, _, hs, hv, h, hw => by
    obtain ⟨p, q, h1, h2, _⟩ := h
    simp only [List.all_cons, Bool.and_eq_true] at hs
    obtain ⟨w1, w2⟩ := wEach_cons hw
    obtain ⟨a, q1, q2⟩ := open_arg hs.1 (hv 0 t v rfl rfl) h1 w1
    obtain ⟨us, q3, q4⟩ := open_args hs.2 (fun j t v ht hv' => hv (j + 1) t v (by simpa using ht) (by simpa using hv')) h2 w2
    exact ⟨a :: us, .cons q1 q3, q2, q4⟩
  | [], _ :: _, _, _, _, _, h, _ => h.elim
  | [], [], _ :: _, _, _, _, h, _ => h.elim
  | _ :: _, [], _, _, _, _, h, _ => h.elim
  | _ :: _, _ :: _, [], _, _, _, h, _ => h.elim
theorem weights_left : ∀ {ts us : List TypeId} {ds gs : List (DataW H)}, (DataW.weightsEach P (ts ++ us) (ds ++ gs)).all (· ≤ reachBytes) = true → (DataW.weightsEach P ts ds).all (· ≤ reachBytes) = true
  | [], us, ds, gs, h => by cases ds <;> rfl
  | t :: ts, us, [], gs, h => rfl
  | t :: ts, us, d :: ds, gs, h => by
    obtain ⟨w1, w2⟩ := wEach_cons (h : (DataW.weightsEach P (t :: (ts ++ us)) (d :: (ds ++ gs))).all (· ≤ reachBytes) = true)
    simp only [DataW.weightsEach, List.all_append, Bool.and_eq_true]
    exact ⟨w1, weights_left w2⟩
theorem back_args (hl : laidOutB P = true) {W' : World} (hb : Below W.heap.size W W') : ∀ {ts : List TypeId} {vs : List Value} {ds : List (DataW H)} {ps : List MemPlace}, ts.all (fun t => P.readableRec t && decide (t < P.types.size)) = true →
    DataW.TrodAll enc P W 0 (fun _ => true) true ts vs ds ps → DataW.TrodAll enc P W' 0 (fun b => decide (b < W.heap.size)) true ts vs ds ps
  | [], [], [], _, _, h => h
  | t :: ts, v :: vs, d :: ds, _, hs, h => by
    obtain ⟨p, q, h1, h2, rfl⟩ := h
    simp only [List.all_cons, Bool.and_eq_true, decide_eq_true_eq] at hs
    refine ⟨p, q, Below.trod hl hs.1.1 hs.1.2 h1 hb ?_, back_args hl hb (by simpa using hs.2) h2, rfl⟩
    obtain ⟨m, hm⟩ := h1
    exact DataW.trod_lt m _ _ _ hm
  | [], _ :: _, _, _, _, h => h.elim
  | [], [], _ :: _, _, _, h => h.elim
  | _ :: _, [], _, _, _, h => h.elim
  | _ :: _, _ :: _, [], _, _, h => h.elim
theorem law_calls_g {GL : Nat → Option (List AVal)} {C : FuncId → List AVal → List Blk → Call} (hlib : Lib P GL C) (hgl : ∀ g l, GL g = some l → VRel (fun _ => none) (ZW W) W (.rptr l) (.pointer (some ⟨g, 0, none⟩))) {f : FuncId} {args : Array Value} {us : List AVal} (hv : VRels (fun _ => none) (ZW W) W us args.toList)
    (h : (C f us []).o = some ⟨true, bo true, [], []⟩) : Calls P f args W fun e W' => e = .returned (.bool true) ∧ Below W.heap.size W W' := by
  refine (hlib.ok.nil f us _ h rfl W (ZW W) args (fun _ h => h) hgl hv).mono ?_
  rintro e W' ⟨c, env', Z', rfl, hP⟩
  have : c = .bool true := by
    have hr := hP.res
    cases hr
    rfl
  subst this
  exact ⟨rfl, hP.wider.os, hP.wider.tape, hP.wider.output, hP.wider.size, hP.wider.block⟩
theorem law_calls {C : FuncId → List AVal → List Blk → Call} (hlib : Lib P noG C) {f : FuncId} {args : Array Value} {us : List AVal} (hv : VRels (fun _ => none) (ZW W) W us args.toList)
    (h : (C f us []).o = some ⟨true, bo true, [], []⟩) : Calls P f args W fun e W' => e = .returned (.bool true) ∧ Below W.heap.size W W' :=
  law_calls_g hlib (fun g l hg => by cases hg) hv h
end
end
end Go.Proofs.YtoiimiohobollaaGreat.AI
