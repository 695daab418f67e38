/- A call, whole; then every operation. -/
import Derived.Test.YteiniiakpdijmaaDoorAI11
namespace Go.Proofs.YteiniiakpdijmaaDoor.AI
open Go.RowKit
set_option linter.unusedVariables false

section
variable {P : Program} {TT : TypeId → Option TI} {TU : TypeId → Option (List TypeId)} {X : Ctx} {env : Nat → Option Ent} {Z : Nat → Prop} {s s1 : F} {a : Act} {w : World} {t : TypeId} {n : Nat}

theorem decV_sim {own : Bool} {key0 : Nat} {r : CR} {c0 : Value} {w0 w' : World} {Z0 Zc : Nat → Prop} {env' : Nat → Option Ent} (hP : CallPost w0 Z0 r c0 w' env' Zc) (hX : X.w0.heap.size ≤ w0.heap.size)
    {t : TypeId} {v out : AVal} {idx idx' : Nat} (hZ : Z = Zc ∨ ∀ ti, TT t = some ti → ∀ l ∈ ti.leaf, isSl l = false)
    (h : Gives (decV TT own key0 r.news t v idx) s (out, idx') s1) (hT : Taking X env' w0.heap.size idx env Z s a w') :
    ∃ env1, Taking X env' w0.heap.size idx' env1 Z s1 a w' ∧ (∀ l f, env l = some f → env1 l = some f) ∧ ∀ c, VRel env' Zc w' v c → VRel env1 Z w' out c := by
  unfold decV at h
  cases ht : TT t with
  | none => rw [ht] at h; exact h.fail
  | some ti =>
    rw [ht] at h
    simp only at h
    have hZ' : Z = Zc ∨ ∀ l ∈ ti.leaf, isSl l = false := hZ.imp id fun h => h ti ht
    split at h
    · obtain ⟨hc, h2⟩ := h.assert
      obtain ⟨p, s2, h3, h4⟩ := h2.bind
      obtain ⟨h5, rfl⟩ := h4.ret
      simp only [Prod.mk.injEq] at h5
      obtain ⟨rfl, rfl⟩ := h5
      obtain ⟨env1, q1, q2, q3, q4⟩ := decM_sim hP hX ti.leaf 0 (aggL v) idx p.1 p.2 env s _ hZ' h3 hT
      refine ⟨env1, q1, q2, fun c hv => ?_⟩
      split at hc
      · rename_i l
        have hlen := nbeq_eq hc
        cases hv with
        | agg _ cs hl hh =>
          refine .agg _ _ (by rw [q3, ← hlen, hl]) fun i u c hu hci => q4 i u hu c ?_
          have hi : i < l.length := by rw [hl]; exact (Array.getElem?_eq_some_iff.1 hci).1
          simp only [aggL, Nat.zero_add]
          have : l.getD i .dead = l[i] := by simp [List.getD, hi]
          rw [this]
          exact hh i l[i] c (by simp [hi]) hci
      · cases hc
    · split at h
      · rename_i l hl
        obtain ⟨p, s2, h3, h4⟩ := h.bind
        split at h4
        · rename_i u hu
          obtain ⟨h5, rfl⟩ := h4.ret
          simp only [Prod.mk.injEq] at h5
          obtain ⟨rfl, rfl⟩ := h5
          obtain ⟨env1, q1, q2, q3, q4⟩ := decM_sim hP hX [l] 0 [v] idx p.1 p.2 env s _ (hZ'.imp id fun h t ht' => h t (by rw [hl]; exact ht')) h3 hT
          exact ⟨env1, q1, q2, fun c hv => q4 0 _ (by rw [hu]; rfl) c hv⟩
        · exact h4.fail
      · exact h.fail

theorem decTup_sim {own : Bool} {key0 : Nat} {r : CR} {c0 : Value} {w0 w' : World} {Z0 Zc : Nat → Prop} {env' : Nat → Option Ent} (hP : CallPost w0 Z0 r c0 w' env' Zc) (hX : X.w0.heap.size ≤ w0.heap.size) :
    ∀ (ts : List TypeId) (j : Nat) (l : List AVal) (idx : Nat) (out : List AVal) (idx' : Nat) (env : Nat → Option Ent) (s s1 : F), (Z = Zc ∨ ∀ t ∈ ts, ∀ ti, TT t = some ti → ∀ l ∈ ti.leaf, isSl l = false) →
      Gives (decTup TT own key0 r.news ts j l idx) s (out, idx') s1 → Taking X env' w0.heap.size idx env Z s a w' →
      ∃ env1, Taking X env' w0.heap.size idx' env1 Z s1 a w' ∧ (∀ l f, env l = some f → env1 l = some f) ∧ out.length = ts.length ∧
        ∀ i v, out[i]? = some v → ∀ c, VRel env' Zc w' (l.getD (j + i) .dead) c → VRel env1 Z w' v c
  | [], j, l, idx, out, idx', env, s, s1, hZ, h, hT => by
    obtain ⟨h1, rfl⟩ := h.ret
    simp only [Prod.mk.injEq] at h1
    obtain ⟨rfl, rfl⟩ := h1
    exact ⟨env, hT, fun _ _ h => h, rfl, fun i v hv => by simp at hv⟩
  | t :: ts, j, l, idx, out, idx', env, s, s1, hZ, h, hT => by
    unfold decTup at h
    obtain ⟨⟨p1, p2⟩, s2, h1, h2⟩ := h.bind
    obtain ⟨⟨o1, o2⟩, s3, h3, h4⟩ := h2.bind
    obtain ⟨h5, rfl⟩ := h4.ret
    simp only [Prod.mk.injEq] at h5
    obtain ⟨rfl, rfl⟩ := h5
    obtain ⟨env1, q1, q2, q3⟩ := decV_sim hP hX (hZ.imp id fun h => h t (.head _)) h1 hT
    obtain ⟨env2, r1, r2, r3, r4⟩ := decTup_sim hP hX ts (j + 1) l p2 o1 _ env1 s2 _ (hZ.imp id fun h t ht => h t (.tail _ ht)) h3 q1
    refine ⟨env2, r1, fun l f hl => r2 l f (q2 l f hl), by simp [r3], fun i v hv c hc => ?_⟩
    cases i with
    | zero =>
      simp only [List.getElem?_cons_zero, Option.some.injEq] at hv
      subst hv
      rw [Nat.add_zero] at hc
      exact (q3 c hc).mono (fun _ _ => rfl) (fun _ h => h) fun k e hk => ⟨e, r2 k e hk, Nat.le_refl _, fun _ => rfl⟩
    | succ i =>
      simp only [List.getElem?_cons_succ] at hv
      exact r4 i v hv c (by rw [show j + 1 + i = j + (i + 1) by omega]; exact hc)

theorem Rel.glob (h : Rel X env Z s a w) {Z' : Nat → Prop} (hz : ∀ g, Z g → Z' g) (g : Nat) (l : List AVal) (hg : X.GL g = some l) : VRel (fun _ => none) Z' w (.rptr l) (.pointer (some ⟨g, 0, none⟩)) :=
  (X.glob g l hg).mono (fun q hq => h.keep q (X.hzl q hq) (X.hzo q hq)) (fun q hq => hz q (h.z0 q hq)) fun k e hk => by cases hk

theorem mayHold_false {t : TypeId} (h : mayHold TT TU t = false) :
    (∀ ts, TU t = some ts → ∀ u ∈ ts, ∀ ti, TT u = some ti → ∀ l ∈ ti.leaf, isSl l = false) ∧ (TU t = none → ∀ ti, TT t = some ti → ∀ l ∈ ti.leaf, isSl l = false) := by
  unfold mayHold at h
  constructor
  · intro ts hts u hu ti hti l hl
    rw [hts] at h
    simp only [List.any_eq_false] at h
    have := h u hu
    rw [hti] at this
    simp only [List.any_eq_true, not_exists, not_and] at this
    have := this l hl
    simpa using this
  · intro hn ti hti l hl
    rw [hn, hti] at h
    simp only [List.any_eq_false] at h
    simpa using h l hl

theorem callH_sim {C : FuncId → List AVal → List Blk → Call} (hC : COk P X.GL C) {f : FuncId} {args : List AVal} {v : AVal} {cs : Array Value}
    (h : Gives (callH TT TU C t f args) s v s1) (hR : Rel X env Z s a w) (hv : VRels env Z w args cs.toList) :
    Calls P f cs w fun e w' => ∃ c env' Z', e = .returned c ∧ Rel X env' Z' s1 a w' ∧ VRel env' Z' w' v c := by
  unfold callH at h
  obtain ⟨acc, s2, h1, h2⟩ := h.bind
  obtain ⟨rfl, hcol⟩ := collect_sim _ _ _ _ _ _ h1 ⟨fun i k b hi => by simp at hi, fun i j k b b' hi => by simp at hi⟩
  split at h2
  · rename_i p0 acc0 us bs hus hbs
    generalize hacc : p0 :: acc0 = acc at *
    obtain ⟨r, hr, h3⟩ := h2.call
    obtain ⟨hpre, h4⟩ := h3.assert
    obtain ⟨_, s4, h5, h6⟩ := h4.bind
    simp only [Bool.and_eq_true] at hpre
    obtain ⟨hbl, hbg⟩ := renBlks_get acc bs hbs
    have hbne : ∃ b bs', bs = b :: bs' := by
      cases bs with
      | nil => rw [← hacc] at hbl; simp at hbl
      | cons b bs' => exact ⟨b, bs', rfl⟩
    -- the entries
    have hent : ∀ i k b, acc[i]? = some (k, b) → ∃ e, env k = some e ∧ BRel env Z w b e := fun i k b hi => by
      have hk := hcol.look i k b hi
      have hd := hR.dom k
      rw [hk] at hd
      obtain ⟨e, he⟩ := Option.isSome_iff_exists.1 (by simpa using hd)
      exact ⟨e, he, hR.blk k b e hk he⟩
    have hget : ∀ i e, envOf env acc i = some e → ∃ k b, acc[i]? = some (k, b) ∧ env k = some e := fun i e hi => by
      simp only [envOf] at hi
      cases hp : acc[i]? with
      | none => rw [hp] at hi; cases hi
      | some p => rw [hp] at hi; exact ⟨p.1, p.2, rfl, hi⟩
    have hofs : ∀ g, ofEnv (envOf env acc) g → ∃ i k b e, acc[i]? = some (k, b) ∧ env k = some e ∧ e.has g := fun g ⟨i, e, h1, h2⟩ => by
      obtain ⟨k, b, h3, h4⟩ := hget i e h1
      exact ⟨i, k, b, e, h3, h4, h2⟩
    have hHP : HandPre w Z (envOf env acc) bs := by
      refine ⟨fun i e hi => ?_, fun i b' hi => ?_, fun i b' hi => ?_, fun i b' hi => ?_, fun k l e f g h1 h2 h3 h4 => ?_⟩
      · obtain ⟨k, b, h3, _⟩ := hget i e hi
        rw [hbl]
        exact (List.getElem?_eq_some_iff.1 h3).1
      · have hlt : i < acc.length := by rw [← hbl]; exact (List.getElem?_eq_some_iff.1 hi).1
        obtain ⟨b1, q1, q2⟩ := hbg i acc[i].1 acc[i].2 (by simp [hlt])
        rw [hi] at q1
        simp only [Option.some.injEq] at q1
        subst q1
        obtain ⟨e, he, hB⟩ := hent i acc[i].1 acc[i].2 (by simp [hlt])
        exact ⟨e, by rw [envOf_get (k := acc[i].1) (b := acc[i].2) (by simp [hlt])]; exact he, (renBlk_sim q2 hB).1⟩
      · have hlt : i < acc.length := by rw [← hbl]; exact (List.getElem?_eq_some_iff.1 hi).1
        obtain ⟨b1, q1, q2⟩ := hbg i acc[i].1 acc[i].2 (by simp [hlt])
        rw [hi] at q1
        simp only [Option.some.injEq] at q1
        subst q1
        obtain ⟨e, he, hB⟩ := hent i acc[i].1 acc[i].2 (by simp [hlt])
        exact (renBlk_sim q2 hB).2.2.2.2.1
      · have hlt : i < acc.length := by rw [← hbl]; exact (List.getElem?_eq_some_iff.1 hi).1
        obtain ⟨b1, q1, q2⟩ := hbg i acc[i].1 acc[i].2 (by simp [hlt])
        rw [hi] at q1
        simp only [Option.some.injEq] at q1
        subst q1
        obtain ⟨e, he, hB⟩ := hent i acc[i].1 acc[i].2 (by simp [hlt])
        exact (renBlk_sim q2 hB).2.2.2.2.2
      · obtain ⟨k', b, h5, h6⟩ := hget k e h1
        obtain ⟨l', b', h7, h8⟩ := hget l f h2
        have := hR.inj k' l' e f g h6 h8 h3 h4
        subst this
        exact hcol.inj k l k' b b' h5 h7
    -- the call
    have hargs := renVs_sim args us cs.toList hus hv
    obtain ⟨b1, bs1, rfl⟩ := hbne
    refine (hC.hand f us b1 bs1 r hr hpre.1 w Z (envOf env acc) cs hR.zlt (fun g l hg => hR.glob (fun _ h => h) g l hg) hHP hargs).mono ?_
    rintro e w' ⟨c, env', Z', rfl, hP⟩
    obtain ⟨q1, q2, q3, q4⟩ := putBack_sim acc r.outs _ s4 h5 hcol.inj
    let env1 : Nat → Option Ent := fun l => match idxK acc l 0 with | some q => (env' q).bind (fun e => (acc[q]?).map fun p => stir p.2.kind e) | none => env l
    have henv1 : ∀ q k b, acc[q]? = some (k, b) → env1 k = (env' q).map (stir b.kind) := fun q k b hq => by
      simp only [env1, hcol.idx hq, hq]
      cases env' q <;> rfl
    have henv2 : ∀ q k b e, acc[q]? = some (k, b) → env' q = some e → ∃ e', env1 k = some e' ∧ e'.v = e.v ∧ e'.n = e.n ∧ e'.E = e.E := fun q k b e hq he => by
      obtain ⟨s1, s2, s3, _⟩ := stir_v b.kind e
      exact ⟨stir b.kind e, by rw [henv1 q k b hq, he]; rfl, s1, s2, s3⟩
    have henv3 : ∀ q k b e, acc[q]? = some (k, b) → env1 k = some e → ∃ e', env' q = some e' ∧ e = stir b.kind e' := fun q k b e hq he => by
      rw [henv1 q k b hq] at he
      cases hh : env' q with
      | none => rw [hh] at he; cases he
      | some e' => rw [hh] at he; simp only [Option.map_some, Option.some.injEq] at he; exact ⟨e', rfl, he.symm⟩
    have hold : ∀ k, idxK acc k 0 = none → env1 k = env k := fun k hk => by simp only [env1, hk]
    have hmono : ∀ k e, env k = some e → ∃ e', env1 k = some e' ∧ e.le e' := fun k e hk => by
      cases hi : idxK acc k 0 with
      | none => exact ⟨e, by rw [hold k hi]; exact hk, .refl e⟩
      | some q =>
        obtain ⟨b, hb⟩ := idxK_get hi
        obtain ⟨e1, p1, p2, p3⟩ := hP.mono q e (by rw [envOf_get hb]; exact hk)
        obtain ⟨rows, b', o1, o2, o3⟩ := q3 q k b hb
        obtain ⟨b2, r1, r2⟩ := hbg q k b hb
        obtain ⟨e0, he0, hB0⟩ := hent q k b hb
        rw [hk] at he0
        simp only [Option.some.injEq] at he0
        subst he0
        have hren := renBlk_sim r2 hB0
        obtain ⟨e2, p4, p5⟩ := hP.blk q b2 rows r1 o1
        rw [p1] at p4
        simp only [Option.some.injEq] at p4
        subst p4
        refine ⟨stir b.kind e1, by rw [henv1 q k b hb, p1]; rfl, ?_⟩
        have h0 : e.st = 0 := by rw [hB0.hst, ← hren.2.1]; exact hren.2.2.2.2.2
        have h1 : e1.st = 0 := by rw [p5.hst]; exact hren.2.2.2.2.2
        cases hkk : b.kind with
        | ns st T E => exact ⟨p2, fun h => (p3 h).1, fun h => (p3 h).2, fun _ => by rw [h0]; exact Nat.zero_le _, fun _ h => absurd h (by simp [stir, h0]), fun _ h => absurd h (by simp [stir, h0])⟩
        | box | arr | frz | dfr =>
          have a1 := hB0.plain (by rw [hkk]; rfl)
          have a2 := p5.plain (by show b2.kind.isNs = false; rw [hren.2.1, hkk]; rfl)
          exact ⟨p2, fun h => (p3 h).1, fun h => (p3 h).2, fun _ => by rw [h0]; exact Nat.zero_le _, fun _ _ => a2.1.trans a1.1.symm, fun _ _ => a2.2.trans a1.2.symm⟩
    have hnot : ∀ g, Z g → ¬ ofEnv (envOf env acc) g := fun g hg hof => by
      obtain ⟨i, k, b, e, p1, p2, p3⟩ := hofs g hof
      obtain ⟨e0, he0, hB⟩ := hent i k b p1
      rw [p2] at he0
      simp only [Option.some.injEq] at he0
      subst he0
      obtain ⟨b', r1, r2⟩ := hbg i k b p1
      have := renBlk_sim r2 hB
      exact hB.notZ (by rw [← this.2.1]; exact this.2.2.2.2.1.1) (by rw [← this.2.1]; exact this.2.2.2.2.1.2) g p3 hg
    have hzb : ∀ g, Z g → w'.heap[g]? = w.heap[g]? := fun g hg => hP.block g (hR.zlt g hg) (hnot g hg)
    have hother : ∀ k e g, idxK acc k 0 = none → env k = some e → e.has g → ¬ ofEnv (envOf env acc) g := fun k e g hk he hg hof => by
      obtain ⟨i, k', b, e', p1, p2, p3⟩ := hofs g hof
      have := hR.inj k k' e e' g he p2 hg p3
      subst this
      rw [hcol.idx p1] at hk
      cases hk
    have hown1 : ∀ q e g, env' q = some e → e.has g → w.heap.size ≤ g ∨ ∃ i k b e0, acc[i]? = some (k, b) ∧ env k = some e0 ∧ e0.has g := fun q e g h1 h2 => (hP.own q e g h1 h2).imp id (hofs g)
    have hX := hR.grown
    have hR1 : Rel X env1 Z' s4 a w' := by
      refine
        { size := by rw [q1]; exact hR.size
          tmps := fun u hu => by rw [q2]; exact (hR.tmps u (by rw [← q1]; exact hu)).mono2 hzb hP.z0 hmono
          tmpo := fun u hu => by rw [q2]; exact hR.tmpo u (by rw [← q1]; exact hu)
          dom := fun k => ?_
          blk := fun k b e h1 h2 => ?_
          inj := fun k l e f g h1 h2 h3 h4 => ?_
          own := fun k e g h1 h2 => ?_
          zlt := hP.zlt
          z0 := fun g hg => hP.z0 g (hR.z0 g hg)
          znew := fun g hg => ?_
          os := hP.os.trans hR.os
          tape := hP.tape.trans hR.tape
          output := hP.output.trans hR.output
          grown := Nat.le_trans hX hP.size
          keep := fun g h1 h2 => ?_
          defers := ?_
          hand := hand_step2 hR.hand hmono }
      rotate_left
      rotate_left
      rotate_left
      rotate_left
      rotate_left
      rotate_left
      · have hD := hR.defers.mono2 hzb hP.z0 hmono
        cases hi : idxK acc dkey 0 with
        | none => rw [q4 dkey (idxK_none acc dkey 0 hi)]; exact hD
        | some q =>
          obtain ⟨b, hb⟩ := idxK_get hi
          obtain ⟨rows, b', p1, p2, p3⟩ := q3 q dkey b hb
          obtain ⟨b2, r1, r2⟩ := hbg q dkey b hb
          obtain ⟨e0, he0, hB0⟩ := hent q dkey b hb
          have hren := renBlk_sim r2 hB0
          have hbD : b.kind.isD = false := by rw [← hren.2.1]; exact hren.2.2.2.2.1.2
          have hds := hD.nil fun b0 h0 => by rw [hcol.look q dkey b hb] at h0; simp only [Option.some.injEq] at h0; rw [← h0]; exact hbD
          rw [p3, hds]
          exact .of (backBlk_isD p2 hbD)
      · cases hi : idxK acc k 0 with
        | none =>
          rw [hold k hi, q4 k (idxK_none acc k 0 hi)]
          exact hR.dom k
        | some q =>
          obtain ⟨b, hb⟩ := idxK_get hi
          obtain ⟨rows, b', p1, p2, p3⟩ := q3 q k b hb
          obtain ⟨e0, he0, _⟩ := hent q k b hb
          obtain ⟨e', p4, _⟩ := hP.mono q e0 (by rw [envOf_get hb]; exact he0)
          rw [p3, henv1 q k b hb, p4]
          rfl
      · cases hi : idxK acc k 0 with
        | none =>
          rw [q4 k (idxK_none acc k 0 hi)] at h1
          rw [hold k hi] at h2
          have hB := hR.blk k b e h1 h2
          exact hB.mono2 (fun g hg => hP.block g (hR.blt h2 hg) (hother k e g hi h2 hg)) hzb hP.z0
            (fun g hg hnz hz => (hP.znew g hz).elim hnz fun h => h.elim (fun h => by have := hR.blt h2 hg; omega) (hother k e g hi h2 hg)) hmono
        | some q =>
          obtain ⟨b0, hb⟩ := idxK_get hi
          obtain ⟨rows, b', p1, p2, p3⟩ := q3 q k b0 hb
          rw [p3] at h1
          simp only [Option.some.injEq] at h1
          subst h1
          obtain ⟨e3, h2', rfl⟩ := henv3 q k b0 e hb h2
          obtain ⟨b2, r1, r2⟩ := hbg q k b0 hb
          obtain ⟨e0, he0, hB0⟩ := hent q k b0 hb
          have hren := renBlk_sim r2 hB0
          obtain ⟨e2, p4, p5⟩ := hP.blk q b2 rows r1 p1
          rw [h2'] at p4
          simp only [Option.some.injEq] at p4
          subst p4
          rw [hren.2.1, hren.2.2.1, hren.2.2.2.1] at p5
          exact backBlk_sim p2 p5 henv2
      · cases hk : idxK acc k 0 with
        | none =>
          rw [hold k hk] at h1
          cases hl : idxK acc l 0 with
          | none =>
            rw [hold l hl] at h2
            exact hR.inj k l e f g h1 h2 h3 h4
          | some q =>
            obtain ⟨b, hb⟩ := idxK_get hl
            obtain ⟨f', h2', rfl⟩ := henv3 q l b f hb h2
            have h4 := (stir_has _ _ _).1 h4
            rcases hP.own q f' g h2' h4 with h5 | h5
            · have := hR.blt h1 h3; omega
            · exact absurd h5 (hother k e g hk h1 h3)
        | some q =>
          obtain ⟨b, hb⟩ := idxK_get hk
          obtain ⟨e', h1', rfl⟩ := henv3 q k b e hb h1
          have h3 := (stir_has _ _ _).1 h3
          cases hl : idxK acc l 0 with
          | none =>
            rw [hold l hl] at h2
            rcases hP.own q e' g h1' h3 with h5 | h5
            · have := hR.blt h2 h4; omega
            · exact absurd h5 (hother l f g hl h2 h4)
          | some q' =>
            obtain ⟨b', hb'⟩ := idxK_get hl
            obtain ⟨f', h2', rfl⟩ := henv3 q' l b' f hb' h2
            have h4 := (stir_has _ _ _).1 h4
            have := hP.inj q q' e' f' g h1' h2' h3 h4
            subst this
            rw [hb] at hb'
            simp only [Option.some.injEq, Prod.mk.injEq] at hb'
            exact hb'.1
      · cases hk : idxK acc k 0 with
        | none =>
          rw [hold k hk] at h1
          exact hR.own k e g h1 h2
        | some q =>
          obtain ⟨b, hb⟩ := idxK_get hk
          obtain ⟨e', h1', rfl⟩ := henv3 q k b e hb h1
          have h2 := (stir_has _ _ _).1 h2
          rcases hown1 q e' g h1' h2 with h5 | ⟨i, k', b', e0, p1, p2, p3⟩
          · exact .inl (by omega)
          · exact hR.own k' e0 g p2 p3
      · rcases hP.znew g hg with h5 | h5 | h5
        · exact hR.znew g h5
        · exact .inr (.inl (by omega))
        · obtain ⟨i, k', b', e0, p1, p2, p3⟩ := hofs g h5
          exact .inr (hR.own k' e0 g p2 p3)
      · refine (hP.block g (by omega) fun hof => ?_).trans (hR.keep g h1 h2)
        obtain ⟨i, k', b', e0, p1, p2, p3⟩ := hofs g hof
        rcases hR.own k' e0 g p2 p3 with h5 | h5
        · omega
        · exact h2 h5
    split at h6
    · rename_i u hu
      obtain ⟨rfl, rfl⟩ := h6.ret
      exact ⟨c, env1, Z', rfl, hR1, decRH_sim hu hP.res henv2⟩
    · exact h6.fail
  · exact h2.fail

theorem callA_sim {C : FuncId → List AVal → List Blk → Call} {ownF : FuncId → Bool} (hC : COk P X.GL C) {key0 : Nat} {f : FuncId} {args : List AVal} {v : AVal} {cs : Array Value}
    (h : Gives (callA TT TU C ownF key0 t f args) s v s1) (hR : Rel X env Z s a w) (hv : VRels env Z w args cs.toList) :
    Calls P f cs w fun e w' => ∃ c env' Z', e = .returned c ∧ Rel X env' Z' s1 a w' ∧ VRel env' Z' w' v c := by
  unfold callA at h
  cases hh : handed ownF f args with
  | true => rw [hh] at h; exact callH_sim hC h hR hv
  | false =>
  rw [hh] at h
  simp only [cond_false] at h
  obtain ⟨us, s2, h1, h2⟩ := h.bind
  obtain ⟨r, hr, h3⟩ := h2.call
  obtain ⟨hpre, h3⟩ := h3.assert
  obtain ⟨⟨Zs, fz, hus⟩, hpl⟩ := snapArgs_sim args us cs.toList s s2 Z h1 hR hv
  have hzlt : ∀ g, Zs g → g < w.heap.size := fun g hg => (fz.own g hg).elim (hR.zlt g) fun ⟨k, e, he, ho⟩ => hR.blt he (.inl ho)
  have hargs : VRels (fun _ => none) Zs w us cs.toList := ⟨hus.1, fun i u c q1 q2 => hpl u (List.mem_of_getElem? q1) _ _ _ _ _ (hus.2 i u c q1 q2)⟩
  refine (hC.nil f us r hr hpre w Zs cs hzlt (fun g l hg => hR.glob fz.more g l hg) hargs).mono ?_
  rintro e w' ⟨c, env', Zc, rfl, hP⟩
  -- the caller's state behind the call
  have hX : X.w0.heap.size ≤ w.heap.size := hR.grown
  have key : ∀ Z'', (∀ g, (if mayHold TT TU t then Zs g else Z g) → Z'' g) → (∀ g, Z'' g → (if mayHold TT TU t then Zs g else Z g) ∨ w.heap.size ≤ g) → (∀ g, Z'' g → g < w'.heap.size) →
      Taking X env' w.heap.size 0 env Z'' s2 a w' := fun Z'' k1 k2 k3 =>
    ⟨fz.rel.later hP.wider k1 k2 k3, fun l f g hl hg => .inl (hR.blt hl hg)⟩
  have fin : ∀ Z'', Taking X env' w.heap.size 0 env Z'' s2 a w' → (Z'' = Zc ∨ mayHold TT TU t = false) → ∃ c' env'' Z', (Ending.returned c : Ending) = .returned c' ∧ Rel X env'' Z' s1 a w' ∧ VRel env'' Z' w' v c' := by
    intro Z'' hT hZ
    unfold decRes at h3
    cases htu : TU t with
    | some ts =>
      rw [htu] at h3
      simp only at h3
      obtain ⟨hc, h4⟩ := h3.assert
      obtain ⟨⟨o1, o2⟩, s4, h5, h6⟩ := h4.bind
      obtain ⟨rfl, rfl⟩ := h6.ret
      obtain ⟨env1, q1, _, q3, q4⟩ := decTup_sim (TT := TT) hP hX ts 0 (tupL r.res) 0 o1 o2 env s2 _ (hZ.imp id fun h => (mayHold_false h).1 ts htu) h5 hT
      have hres := hP.res
      refine ⟨c, env1, Z'', rfl, q1.rel, ?_⟩
      generalize r.res = rr at hc q4 hres
      split at hc
      · rename_i l
        have hlen := nbeq_eq hc
        cases hres with
        | tup _ cs' hl hh =>
          refine .tup _ _ (by rw [q3, ← hlen, hl]) fun i u c hu hci => q4 i u hu c ?_
          have hi : i < l.length := by rw [hl]; exact (Array.getElem?_eq_some_iff.1 hci).1
          simp only [tupL, Nat.zero_add]
          have : l.getD i .dead = l[i] := by simp [List.getD, hi]
          rw [this]
          exact hh i l[i] c (by simp [hi]) hci
      · cases hc
    | none =>
      rw [htu] at h3
      obtain ⟨⟨o1, o2⟩, s4, h5, h6⟩ := h3.bind
      obtain ⟨rfl, rfl⟩ := h6.ret
      obtain ⟨env1, q1, _, q3⟩ := decV_sim (TT := TT) hP hX (hZ.imp id fun h => (mayHold_false h).2 htu) h5 hT
      exact ⟨c, env1, Z'', rfl, q1.rel, q3 c hP.res⟩
  cases hm : mayHold TT TU t with
  | true =>
    refine fin Zc (key Zc (fun g hg => ?_) (fun g hg => ?_) hP.zlt) (.inl rfl)
    · rw [hm] at hg; exact hP.z0 g hg
    · rw [hm]; exact (hP.znew g hg)
  | false =>
    refine fin Z (key Z (fun g hg => ?_) (fun g hg => ?_) fun g hg => Nat.lt_of_lt_of_le (hR.zlt g hg) hP.wider.size) (.inr hm)
    · rw [hm] at hg; exact hg
    · rw [hm]; exact .inl hg

/-! ### Every operation -/

theorem ofConst_sim (v : Value) : VRel env Z w (ofConst v) v := by
  unfold ofConst
  split
  · exact .emp _
  · rename_i cs
    refine .agg _ _ (by simp) fun i u c hu hc => ?_
    rw [List.getElem?_map] at hu
    have hc' : cs.toList[i]? = some c := by simpa using hc
    rw [hc'] at hu
    simp only [Option.map_some, Option.some.injEq] at hu
    rw [← hu]
    unfold ofCell
    split
    · exact .emp _
    · exact .sc _
  · exact .sc _

theorem evalO_sim {x : Operand} {v : AVal} (h : Gives (evalO X.GL x) s v s1) (hR : Rel X env Z s a w) : s1 = s ∧ VRel env Z w v (a.eval x) := by
  unfold evalO at h
  split at h
  · rename_i t
    have h := h.getT
    obtain ⟨rfl, rfl⟩ := h.ret
    refine ⟨rfl, ?_⟩
    rcases Nat.lt_or_ge t s1.N with hlt | hge
    · exact hR.tmps t hlt
    · rw [hR.tmpo t hge]; exact .dead _
  · rename_i v
    obtain ⟨rfl, rfl⟩ := h.ret
    exact ⟨rfl, ofConst_sim v⟩
  · rename_i g
    split at h
    · rename_i l hl
      obtain ⟨rfl, rfl⟩ := h.ret
      exact ⟨rfl, (hR.glob (fun _ h => h) g l hl).anyEnv rfl⟩
    · exact h.fail
  · rename_i f
    obtain ⟨rfl, rfl⟩ := h.ret
    exact ⟨rfl, .clo f [] #[] rfl fun i v c hv => by simp at hv⟩

theorem evalOs_sim : ∀ {xs : List Operand} {vs : List AVal} {s s1 : F}, Gives (evalOs X.GL xs) s vs s1 → Rel X env Z s a w → s1 = s ∧ VRels env Z w vs (xs.map a.eval)
  | [], vs, s, s1, h, hR => by
    obtain ⟨rfl, rfl⟩ := h.ret
    exact ⟨rfl, .nil⟩
  | x :: xs, vs, s, s1, h, hR => by
    obtain ⟨v, s2, h1, h2⟩ := h.bind
    obtain ⟨vs', s3, h3, h4⟩ := h2.bind
    obtain ⟨rfl, hv⟩ := evalO_sim h1 hR
    obtain ⟨rfl, hvs⟩ := evalOs_sim h3 hR
    obtain ⟨rfl, rfl⟩ := h4.ret
    exact ⟨rfl, .cons hv hvs⟩

/-- What an operation's run must be: a value (or none, of a store), or a call. -/
def Out (P : Program) (R : Value → World → Prop) : Result Next → Prop
  | .ok (.value c) w' => R c w'
  | .ok .skip w' => R undef w'
  | .ok (.enter f args) w' => Calls P f args w' fun e w'' => ∃ c, e = .returned c ∧ R c w''
  | _ => False

/-- The state that the interpreter tells. -/
def Holds (X : Ctx) (s : F) (a : Act) (v : AVal) (c : Value) (w : World) : Prop := ∃ env Z, Rel X env Z s a w ∧ VRel env Z w v c

theorem snaps_length {frz : Bool} : ∀ (l us : List AVal) (s s1 : F), Gives (snaps frz l) s us s1 → us.length = l.length
  | [], us, s, s1, h => by obtain ⟨rfl, _⟩ := h.ret; rfl
  | v :: l, us, s, s1, h => by
    obtain ⟨u, s2, h1, h2⟩ := h.bind
    obtain ⟨us', s3, h3, h4⟩ := h2.bind
    obtain ⟨rfl, _⟩ := h4.ret
    simp [snaps_length l us' s2 s3 h3]

theorem map_zip_fst {α β : Type} : ∀ (xs : List α) (ys : List β), xs.length = ys.length → (xs.zip ys).map (·.1) = xs
  | [], ys, h => by simp
  | x :: xs, [], h => by simp at h
  | x :: xs, y :: ys, h => by simp [map_zip_fst xs ys (by simpa using h)]
theorem map_zip_snd {α β : Type} : ∀ (xs : List α) (ys : List β), xs.length = ys.length → (xs.zip ys).map (·.2) = ys
  | [], ys, h => by cases ys with | nil => rfl | cons y ys => simp at h
  | x :: xs, [], h => by simp at h
  | x :: xs, y :: ys, h => by simp [map_zip_snd xs ys (by simpa using h)]

theorem vrels_len {vs : List AVal} {xs : List Operand} (h : VRels env Z w vs (xs.map a.eval)) : vs.length = xs.length := by have := h.1; simpa using this

theorem build_parts {parts : Array (Nat × Operand)} {vs : List AVal} (h : VRels env Z w vs ((parts.toList.map (·.2)).map a.eval)) :
    ((parts.toList.map (·.1)).zip vs).map (·.1) = ((parts.map fun (i, x) => (i, a.eval x)).toList).map (·.1) ∧
    VRels env Z w (((parts.toList.map (·.1)).zip vs).map (·.2)) (((parts.map fun (i, x) => (i, a.eval x)).toList).map (·.2)) := by
  have hl : (parts.toList.map (·.1)).length = vs.length := by have := h.1; simp at this; simp [this]
  rw [map_zip_fst _ _ hl, map_zip_snd _ _ hl]
  constructor
  · simp [Function.comp_def]
  · have : ((parts.map fun (i, x) => (i, a.eval x)).toList).map (·.2) = (parts.toList.map (·.2)).map a.eval := by simp [Function.comp_def]
    rw [this]; exact h

theorem run_places {fs : Array Field} (hsz : ∀ f ∈ fs.toList, ∃ i, P.info? f.type = some i) (w : World) :
    (fs.mapM fun f => do pure (f.offset, ← sizeOf f.type) : Sem (Array (Nat × Nat))).run P w = .ok (fs.toList.map fun f => (f.offset, P.cellsOf f.type)).toArray w := by
  have key : ∀ (l : List Field), (∀ f ∈ l, ∃ i, P.info? f.type = some i) → (l.mapM fun f => do pure (f.offset, ← sizeOf f.type) : Sem (List (Nat × Nat))).run P w = .ok (l.map fun f => (f.offset, P.cellsOf f.type)) w := by
    intro l
    induction l with
    | nil => intro _; rfl
    | cons f l ih =>
      intro hl
      obtain ⟨i, hi⟩ := hl f (.head _)
      have ih := ih fun f hf => hl f (.tail _ hf)
      have hc : P.cellsOf f.type = i.size := by simp [Program.cellsOf, hi]
      simp only [List.mapM_cons, Sem.run_bind, run_sizeOf' hi, Result.andThen_ok, Sem.run_pure, ih, List.map_cons, hc]
  rw [Array.mapM_eq_mapM_toList, map_eq_pure_bind, Sem.run_bind, key _ hsz]
  rfl

theorem zero_rels {z : Value} {zs : List Value} (hz : z.cells.toList = zs) (h1 : ∀ c ∈ zs, oneC c = true) : VRels env Z w (zs.map ofCell) z.cells.toList := by
  rw [hz]; exact (zero_sim h1).1

theorem agg_of {cells : List AVal} {cs : Array Value} (h : VRels env Z w cells cs.toList) : VRel env Z w (.agg cells) (.agg cs) :=
  .agg _ _ (by have := h.1; simpa using this) fun i v c q1 q2 => h.2 i v c q1 (by simpa using q2)

theorem build_sim (hT : TOk P TT) {fs : Array Field} {ti : TI} {vs : List AVal} {parts : Array (Nat × Operand)} {cells : List AVal} (ht : TT t = some ti) (hd : ti.desc = .struct fs) (hall : ∀ f ∈ fs.toList, (TT f.type).isSome = true)
    (hv : VRels env Z w vs ((parts.toList.map (·.2)).map a.eval))
    (hf : fillA (fun i => (fs[i]?).bind fun f => (TT f.type).map fun tf => (f.offset, tf.size)) (ti.zero.map ofCell) ((parts.toList.map (·.1)).zip vs) = some cells) :
    ∃ c, (Instr.build t (parts.map fun (i, x) => (i, a.eval x))).run P w = .ok c w ∧ VRel env Z w (.agg cells) c := by
  obtain ⟨i, z, hi, hsz, hbs, hz0, hz1, hlf, hzl, hone⟩ := hT.info t ti ht
  have hdd := hT.desc t ti ht
  rw [hd] at hdd
  obtain ⟨p1, p2⟩ := build_parts hv
  obtain ⟨cc', h1, h2⟩ := fillA_sim _ _ _ cells z.cells hf p1 p2 (zero_rels hz1 hone)
  have hinfo : ∀ f ∈ fs.toList, ∃ i, P.info? f.type = some i := fun f hf => by
    obtain ⟨tf, htf⟩ := Option.isSome_iff_exists.1 (hall f hf)
    obtain ⟨i, _, hi, _⟩ := hT.info _ tf htf
    exact ⟨i, hi⟩
  have hplace : (fun i => (fs[i]?).bind fun f => (TT f.type).map fun tf => (f.offset, tf.size)) = fun (i : Nat) => (fs.toList.map fun (f : Field) => (f.offset, P.cellsOf f.type)).toArray[i]? := by
    funext i
    have hrhs : (fs.toList.map fun (f : Field) => (f.offset, P.cellsOf f.type)).toArray[i]? = (fs[i]?).map fun (f : Field) => (f.offset, P.cellsOf f.type) := by simp
    rw [hrhs]
    cases hfi : fs[i]? with
    | none => rfl
    | some f =>
      have hmem : f ∈ fs.toList := by
        have : fs.toList[i]? = some f := by simpa using hfi
        exact List.mem_of_getElem? this
      obtain ⟨tf, htf⟩ := Option.isSome_iff_exists.1 (hall f hmem)
      obtain ⟨i', _, hi', hs', _⟩ := hT.info _ tf htf
      simp [htf, Program.cellsOf, hi', hs']
  refine ⟨.agg cc', ?_, agg_of h2⟩
  rw [hplace] at h1
  simp only [Instr.build, Sem.run_bind, run_zeroValue' hi hz0, Result.andThen_ok, run_underlying hdd, run_places hinfo, h1]
  rfl

theorem buildArr_sim (hT : TOk P TT) {e : TypeId} {len : Nat} {ti te : TI} {vs : List AVal} {parts : Array (Nat × Operand)} {cells : List AVal} (ht : TT t = some ti) (hd : ti.desc = .array len e) (hte : TT e = some te)
    (hv : VRels env Z w vs ((parts.toList.map (·.2)).map a.eval))
    (hf : fillA (fun i => some (i * te.size, te.size)) (ti.zero.map ofCell) ((parts.toList.map (·.1)).zip vs) = some cells) :
    ∃ c, (Instr.build t (parts.map fun (i, x) => (i, a.eval x))).run P w = .ok c w ∧ VRel env Z w (.agg cells) c := by
  obtain ⟨i, z, hi, hsz, hbs, hz0, hz1, hlf, hzl, hone⟩ := hT.info t ti ht
  obtain ⟨ie, ze, hie, hsze, _⟩ := hT.info e te hte
  have hdd := hT.desc t ti ht
  rw [hd] at hdd
  obtain ⟨p1, p2⟩ := build_parts hv
  obtain ⟨cc', h1, h2⟩ := fillA_sim _ _ _ cells z.cells hf p1 p2 (zero_rels hz1 hone)
  refine ⟨.agg cc', ?_, agg_of h2⟩
  simp only [Instr.build, Sem.run_bind, run_zeroValue' hi hz0, Result.andThen_ok, run_underlying hdd, run_sizeOf' hie, hsze, h1]
  rfl

theorem buildSlice_sim (hT : TOk P TT) {e : TypeId} {len kk : Nat} {ti te : TI} {vs : List AVal} {parts : Array (Nat × Operand)} {cells : List AVal} {v : AVal} (ht : TT t = some ti) (hd : ti.desc = .slice e) (hte : TT e = some te)
    (hne : te.size ≠ 0) (hmax : ¬ len * te.size > 16777216)
    (hv : VRels env Z w vs ((parts.toList.map (·.2)).map a.eval))
    (hf : fillA (fun i => some (i * te.size, te.size)) ((List.replicate len (te.zero.map ofCell)).flatten) ((parts.toList.map (·.1)).zip vs) = some cells)
    (h : Gives ((snapsE cells).bind fun cs => .test (cs.all flat && Nat.beq cs.length (len * te.size)) (newBlk kk ⟨.arr, e, te.size, chunk te.size len cs⟩ (.slc kk len)) .fail) s v s1) (hR : Rel X env Z s a w) :
    ∃ c w' env' Z', (Instr.buildSlice t len (parts.map fun (i, x) => (i, a.eval x))).run P w = .ok c w' ∧ Rel X env' Z' s1 a w' ∧ VRel env' Z' w' v c := by
  obtain ⟨ie, z, hi, hsz, hbs, hz0, hz1, hlf, hzl, hone⟩ := hT.info e te hte
  have hdd := hT.desc t ti ht
  rw [hd] at hdd
  have hzs : z.cells.size = te.size := by rw [← hzl, ← hz1]; simp
  obtain ⟨p1, p2⟩ := build_parts hv
  obtain ⟨cc', h1, h2⟩ := fillA_sim _ _ _ cells ((Array.range (len * z.cells.size)).map (z.cells[· % z.cells.size]!)) hf p1 p2 (zeros_sim hz1 hone len)
  obtain ⟨cs, s2, h3, h4⟩ := h.bind
  obtain ⟨Z', fz, hcs⟩ := snapsE_sim h3 hR h2
  obtain ⟨hc, h5⟩ := h4.assert
  obtain ⟨hk, rfl, rfl⟩ := h5.newBlk
  simp only [Bool.and_eq_true] at hc
  have hlen := nbeq_eq hc.2
  have hR' : Rel X env Z' s2 a w := by simpa using fz.rel
  have hA : cc'.size = len * te.size := by have := hcs.1; simp at this; omega
  have hle : len ≤ len * te.size := Nat.le_mul_of_pos_right _ (by omega)
  obtain ⟨env', q1, q2⟩ := hR'.newArr (Wider.alloc w (.cells cc' e)) hk (T := e) (E := te.size) (rows := chunk te.size len cs) (cap := len) (Nat.le_refl _) (heap_alloc_new' w _) (by rw [chunk_length]; exact Nat.le_refl _) (by simp only [maxLen]; omega) hA (chunk_flat hcs hlen hc.1)
  rw [chunk_length] at q2
  refine ⟨_, _, env', Z', ?_, q1, q2⟩
  simp only [Instr.buildSlice, Sem.run_bind, run_underlying hdd, Result.andThen_ok, run_sizeOf' hi]
  have hno : ¬ len * ie.size > 2 ^ 24 := by rw [hsz]; omega
  by_cases h0 : len * ie.size = 0
  · have hl0 : len = 0 := by
      rcases Nat.mul_eq_zero.1 h0 with h | h
      · exact h
      · omega
    subst hl0
    have hr0 : Array.range 0 = (#[] : Array Nat) := rfl
    have e0 : ∀ (f : Nat → Value), Array.map f (#[] : Array Nat) = #[] := fun f => by simp
    simp only [Nat.zero_mul, hr0, e0] at h1
    have hng : ¬ (0 > 2 ^ 24) := by omega
    simp only [Nat.zero_mul, hng, if_false, if_true, Sem.run_pure, Result.andThen_ok, hr0, e0, hsz, h1, run_newRow, Sem.run_bind]
  · simp only [hno, if_false, h0, Sem.run_bind, run_zeroValue' hi hz0, Result.andThen_ok, Sem.run_pure]
    rw [← hzs] at h1
    rw [hsz, ← hzs]
    simp only [h1, Sem.run_bind, run_newRow, Result.andThen_ok]
    rfl

/-- A new variable that nobody writes. -/
theorem Rel.newRo (h : Rel X env Z s a w) {T : TypeId} {cells : List AVal} {cs : Array Value} (hv : VRels env Z w cells cs.toList) (hok : cells.all flat = true) :
    ∃ Z', Rel X env Z' s a (w.alloc (.cells cs T)) ∧ VRel env Z' (w.alloc (.cells cs T)) (.rptr cells) (.pointer (some ⟨w.heap.size, 0, none⟩)) := by
  have hw := Wider.alloc w (.cells cs T)
  have hsz : w.heap.size < (w.alloc (.cells cs T)).heap.size := by
    have := heap_alloc_new' w (.cells cs T)
    exact (Array.getElem?_eq_some_iff.1 this).1
  refine ⟨fun g => Z g ∨ g = w.heap.size, h.later hw (fun g hg => .inl hg) (fun g hg => hg.imp id fun e => by omega) (fun g hg => hg.elim (fun hg => Nat.lt_of_lt_of_le (h.zlt g hg) hw.size) fun e => by omega), ?_⟩
  have key : ∀ (j : Nat) (v : AVal), cells[j]? = some v → flat v = true ∧ VRel env Z w v (cs.getD j undef) ∧ cs[j]? = some (cs.getD j undef) := fun j v hj => by
    have hlt : j < cs.size := by
      have := hv.1
      rw [← Array.length_toList, ← this]
      exact (List.getElem?_eq_some_iff.1 hj).1
    have hcs : cs[j]? = some (cs.getD j undef) := by simp [hlt]
    exact ⟨List.all_eq_true.1 hok v (List.mem_of_getElem? hj), hv.2 j v _ hj (by simpa using hcs), hcs⟩
  refine .rptr _ w.heap.size 0 (fun j => cs.getD j undef) (.inr rfl) (fun j v hj => ?_) fun j v hj => ?_
  · obtain ⟨h1, h2, h3⟩ := key j v hj
    exact ⟨h1, h2.oneC (flat_cellOk h1), by rw [Nat.zero_add]; exact cell_block (heap_alloc_new' w _) h3⟩
  · obtain ⟨h1, h2, h3⟩ := key j v hj
    exact h2.mono (fun g hg => hw.block g (h.zlt g hg)) (fun g hg => .inl hg) fun k e hk => ⟨e, hk, Nat.le_refl _, fun _ => rfl⟩

theorem run_equal_slice {t e : TypeId} {p : Option Addr} {n c : Nat} (h : P.underlying t = some (.slice e)) (w : World) : (Op.equal t (.slice p n c) (.slice none 0 0)).run P w = .ok p.isNone w := by
  have key : ∀ m, (Op.equalIn (m + 1) t (.slice p n c) (.slice none 0 0)).run P w = .ok p.isNone w := fun m => by
    simp only [Op.equalIn, Sem.run_bind, run_underlying h, Result.andThen_ok]
    cases p <;> rfl
  exact key 9999

theorem nilA_sim (hT : TOk P TT) {neg : Bool} {x v : AVal} {c : Value} {ox oy : Operand} (h : Gives (nilA TT t neg x) s v s1) (hx : VRel env Z w x c) :
    s1 = s ∧ ∃ u, (do eqGuard (bif neg then .neq else .eql) t ox oy c (.slice none 0 0); binOp (bif neg then .neq else .eql) t c (.slice none 0 0)).run P w = .ok u w ∧ VRel env Z w v u := by
  have main : ∀ (e : TypeId), P.underlying t = some (.slice e) → ∀ (p : Option Addr) (n m : Nat),
      (do eqGuard (bif neg then .neq else .eql) t ox oy (.slice p n m) (.slice none 0 0); binOp (bif neg then .neq else .eql) t (.slice p n m) (.slice none 0 0)).run P w = .ok (.bool (bif neg then !p.isNone else p.isNone)) w := by
    intro e he p n m
    have hg : (eqGuard (bif neg then .neq else .eql) t ox oy (.slice p n m) (.slice none 0 0)).run P w = .ok () w := run_eqGuard_sc _ _ (fun _ _ h => (by cases h)) (fun h => (by cases h))
    have hq := run_equal_slice (p := p) (n := n) (c := m) he w
    simp only [Sem.run_bind, hg, Result.andThen_ok]
    cases neg with
    | false =>
      show (do pure (.bool (← Op.equal t (.slice p n m) (.slice none 0 0))) : Sem Value).run P w = _
      simp only [Sem.run_bind, hq, Result.andThen_ok]
      rfl
    | true =>
      show (do pure (.bool (!(← Op.equal t (.slice p n m) (.slice none 0 0)))) : Sem Value).run P w = _
      simp only [Sem.run_bind, hq, Result.andThen_ok]
      rfl
  unfold nilA at h
  split at h
  · rename_i ti ht
    split at h
    · rename_i e hd
      have hdd := hT.desc t ti ht
      rw [hd] at hdd
      split at h
      · rename_i E rows
        have h1 := h.deny
        obtain ⟨rfl, rfl⟩ := h1.2.ret
        cases hx with
        | roE => simp at h1
        | ro _ _ b o cap f hcap hz hr hc hh =>
          refine ⟨rfl, _, main e hdd _ _ _, ?_⟩
          have : (bif neg then !(some (⟨b, o, none⟩ : Addr)).isNone else (some (⟨b, o, none⟩ : Addr)).isNone) = neg := by cases neg <;> rfl
          rw [this]
          exact .sc _
      · obtain ⟨rfl, rfl⟩ := h.ret
        cases hx
        exact ⟨rfl, _, main e hdd _ _ _, .sc _⟩
      · exact h.fail
    · exact h.fail
  · exact h.fail
end

end Go.Proofs.YteiniiakpdijmaaDoor.AI
