/- Calls: what goes along, what comes back. -/
import Derived.Test.YteiniiakpdijmaaDoorAI10
namespace Go.Proofs.YteiniiakpdijmaaDoor.AI
open Go.RowKit
set_option linter.unusedVariables false

section
variable {P : Program} {TT : TypeId → Option TI} {TU : TypeId → Option (List TypeId)} {X : Ctx} {env : Nat → Option Ent} {Z : Nat → Prop} {s s1 : F} {a : Act} {w : World} {t : TypeId} {n : Nat}

/-- A value that mentions no entry. -/
def PlainV (u : AVal) : Prop := ∀ (env env' : Nat → Option Ent) (Z : Nat → Prop) (w : World) (c : Value), VRel env Z w u c → VRel env' Z w u c

theorem plain_sc (x : Value) : PlainV (.sc x) := fun env env' Z w c h => by cases h; exact .sc _
theorem plain_flat {u : AVal} (h : flat u = true) : PlainV u := fun env env' Z w c hv => hv.anyEnv h
theorem plain_agg {l : List AVal} (h : ∀ u ∈ l, PlainV u) : PlainV (.agg l) := fun env env' Z w c hv => by
  cases hv with
  | agg _ cs hl hh => exact .agg _ _ hl fun i v c h1 h2 => h v (List.mem_of_getElem? h1) _ _ _ _ _ (hh i v c h1 h2)

theorem snapCaps_rp {frz : Bool} : ∀ (l us : List AVal) (s s1 : F), Gives (snapCaps frz l) s us s1 → us.all isRp = true
  | [], us, s, s1, h => by obtain ⟨rfl, _⟩ := h.ret; rfl
  | v :: l, us, s, s1, h => by
    obtain ⟨u, s2, h1, h2⟩ := h.bind
    obtain ⟨us', s3, h3, h4⟩ := h2.bind
    obtain ⟨rfl, _⟩ := h4.ret
    have h5 : isRp u = true := by
      unfold snapCap at h1
      split at h1
      · obtain ⟨rfl, _⟩ := h1.ret; rfl
      · cases frz with
        | true => exact h1.fail
        | false =>
          simp only [cond_false] at h1
          have h1 := h1.getK
          split at h1
          · split at h1
            · split at h1
              · obtain ⟨_, h2⟩ := h1.assert
                obtain ⟨rfl, _⟩ := h2.ret; rfl
              · exact h1.fail
            · exact h1.fail
          · exact h1.fail
      · exact h1.fail
    simp [h5, snapCaps_rp l us' s2 s3 h3]

theorem snap_plain {frz : Bool} {v u : AVal} (h : Gives (snap frz v) s u s1) : PlainV u := by
  unfold snap at h
  split at h
  · obtain ⟨rfl, _⟩ := h.ret; exact plain_flat rfl
  · have h := h.getK
    split at h
    · rename_i b hb
      cases hk : (b.kind.isBox || b.kind.isD) with
      | true => rw [hk] at h; exact h.fail
      | false =>
        rw [hk] at h
        simp only [cond_false] at h
        obtain ⟨_, h2⟩ := h.assert
        cases frz with
        | true => simp only [cond_true] at h2; have h3 := h2.setK; obtain ⟨rfl, _⟩ := h3.ret; exact plain_flat rfl
        | false => simp only [cond_false] at h2; obtain ⟨rfl, _⟩ := h2.ret; exact plain_flat rfl
    · exact h.fail
  · obtain ⟨rfl, _⟩ := h.ret; exact plain_sc _
  · obtain ⟨rfl, _⟩ := h.ret; exact plain_flat rfl
  · obtain ⟨rfl, _⟩ := h.ret; exact plain_flat rfl
  · obtain ⟨us, s2, h1, h2⟩ := h.bind
    obtain ⟨rfl, _⟩ := h2.ret
    exact plain_flat (snapCaps_rp _ _ _ _ h1)
  · exact h.fail

theorem snaps_plain {frz : Bool} : ∀ (l us : List AVal) (s s1 : F), Gives (snaps frz l) s us s1 → ∀ u ∈ us, PlainV u
  | [], us, s, s1, h => by obtain ⟨rfl, _⟩ := h.ret; simp
  | v :: l, us, s, s1, h => by
    obtain ⟨u, s2, h1, h2⟩ := h.bind
    obtain ⟨us', s3, h3, h4⟩ := h2.bind
    obtain ⟨rfl, _⟩ := h4.ret
    intro x hx
    rcases List.mem_cons.1 hx with rfl | hx
    · exact snap_plain h1
    · exact snaps_plain l us' s2 s3 h3 x hx

theorem snapArg_sim {frz : Bool} {v u : AVal} {c : Value} (h : Gives (snapArg frz v) s u s1) (hR : Rel X env Z s a w) (hv : VRel env Z w v c) :
    (∃ Z', Froze X env Z Z' frz s s1 a w ∧ VRel env Z' w u c) ∧ PlainV u := by
  unfold snapArg at h
  split at h
  · rename_i l
    obtain ⟨us, s2, h1, h2⟩ := h.bind
    obtain ⟨rfl, rfl⟩ := h2.ret
    cases hv with
    | agg _ cs hl hh =>
      obtain ⟨Z', f, hs⟩ := snaps_sim l us cs.toList s _ Z h1 hR ⟨by simpa using hl, fun i v c q1 q2 => hh i v c q1 (by simpa using q2)⟩
      exact ⟨⟨Z', f, .agg _ _ (by simpa using hs.1) fun i v c q1 q2 => hs.2 i v c q1 (by simpa using q2)⟩, plain_agg (snaps_plain l us s _ h1)⟩
  · exact ⟨snap_sim h hR hv, snap_plain h⟩

theorem snapArgs_sim {frz : Bool} : ∀ (l us : List AVal) (cs : List Value) (s s1 : F) (Z : Nat → Prop), Gives (snapArgs frz l) s us s1 → Rel X env Z s a w → VRels env Z w l cs →
    (∃ Z', Froze X env Z Z' frz s s1 a w ∧ VRels env Z' w us cs) ∧ ∀ u ∈ us, PlainV u
  | [], us, cs, s, s1, Z, h, hR, hl => by
    obtain ⟨rfl, rfl⟩ := h.ret
    exact ⟨⟨Z, .refl _ hR, hl⟩, by simp⟩
  | v :: l, us, cs, s, s1, Z, h, hR, hl => by
    obtain ⟨c, ds, rfl, hc, hds⟩ := hl.inv
    obtain ⟨u, s2, h1, h2⟩ := h.bind
    obtain ⟨us', s3, h3, h4⟩ := h2.bind
    obtain ⟨rfl, rfl⟩ := h4.ret
    obtain ⟨⟨Z1, f1, v1⟩, p1⟩ := snapArg_sim h1 hR hc
    obtain ⟨⟨Z2, f2, v2⟩, p2⟩ := snapArgs_sim l us' ds s2 s1 _ h3 f1.rel (hds.moreZ fun g hg => by cases frz <;> simp [hg, f1.more g hg])
    refine ⟨⟨_, f1.trans f2, .cons (v1.moreZ fun g hg => .inl hg) (v2.moreZ fun g hg => .inr hg)⟩, fun x hx => ?_⟩
    rcases List.mem_cons.1 hx with rfl | hx
    · exact p1
    · exact p2 x hx

/-- What a call leaves. -/
structure CallPost (w : World) (Z0 : Nat → Prop) (r : CR) (c : Value) (w' : World) (env' : Nat → Option Ent) (Z' : Nat → Prop) : Prop where
  res : VRel env' Z' w' r.res c
  news : ∀ i b, r.news[i]? = some b → b.kind = .arr ∧ ∃ e, env' i = some e ∧ BRel env' Z' w' b e
  inj : ∀ k l e f g, env' k = some e → env' l = some f → e.has g → f.has g → k = l
  own : ∀ k e g, env' k = some e → e.has g → w.heap.size ≤ g
  z0 : ∀ g, Z0 g → Z' g
  znew : ∀ g, Z' g → Z0 g ∨ w.heap.size ≤ g
  zlt : ∀ g, Z' g → g < w'.heap.size
  wider : Wider w w'

/-- A block of entries. -/
def ofEnv (env : Nat → Option Ent) (g : Nat) : Prop := ∃ k e, env k = some e ∧ e.has g
/-- What a call may count on of the blocks that it is handed. -/
structure HandPre (w : World) (Z0 : Nat → Prop) (env0 : Nat → Option Ent) (bs : List Blk) : Prop where
  dom : ∀ i e, env0 i = some e → i < bs.length
  blk : ∀ (i : Nat) (b : Blk), bs[i]? = some b → ∃ e, env0 i = some e ∧ BRel env0 Z0 w b e
  kind : ∀ (i : Nat) (b : Blk), bs[i]? = some b → b.kind ≠ .frz ∧ b.kind.isD = false
  rest : ∀ (i : Nat) (b : Blk), bs[i]? = some b → b.kind.st = 0
  inj : ∀ k l e f g, env0 k = some e → env0 l = some f → e.has g → f.has g → k = l
/-- What a call leaves of the blocks that it is handed. -/
structure HandPost (w : World) (Z0 : Nat → Prop) (env0 : Nat → Option Ent) (bs : List Blk) (r : CR) (c : Value) (w' : World) (env' : Nat → Option Ent) (Z' : Nat → Prop) : Prop where
  res : VRel env' Z' w' r.res c
  len : r.outs.length = bs.length
  blk : ∀ (i : Nat) (b : Blk) (rows : List (List AVal)), bs[i]? = some b → r.outs[i]? = some rows → ∃ e, env' i = some e ∧ BRel env' Z' w' ⟨b.kind, b.T, b.E, rows⟩ e
  mono : ∀ i f, env0 i = some f → ∃ e, env' i = some e ∧ f.n ≤ e.n ∧ (e.n = f.n → e.v = f.v ∧ e.E = f.E)
  dom : ∀ i e, env' i = some e → i < bs.length
  inj : ∀ k l e f g, env' k = some e → env' l = some f → e.has g → f.has g → k = l
  own : ∀ k e g, env' k = some e → e.has g → w.heap.size ≤ g ∨ ofEnv env0 g
  z0 : ∀ g, Z0 g → Z' g
  znew : ∀ g, Z' g → Z0 g ∨ w.heap.size ≤ g ∨ ofEnv env0 g
  zlt : ∀ g, Z' g → g < w'.heap.size
  os : w'.os = w.os
  tape : w'.tape = w.tape
  output : w'.output = w.output
  size : w.heap.size ≤ w'.heap.size
  block : ∀ g, g < w.heap.size → ¬ ofEnv env0 g → w'.heap[g]? = w.heap[g]?
structure COk (P : Program) (GL : Nat → Option (List AVal)) (C : FuncId → List AVal → List Blk → Call) : Prop where
  nil : ∀ f us r, (C f us []).o = some r → r.pre = true → ∀ (w : World) (Z0 : Nat → Prop) (cs : Array Value), (∀ g, Z0 g → g < w.heap.size) →
    (∀ g l, GL g = some l → VRel (fun _ => none) Z0 w (.rptr l) (.pointer (some ⟨g, 0, none⟩))) → VRels (fun _ => none) Z0 w us cs.toList →
    Calls P f cs w fun e w' => ∃ c env' Z', e = .returned c ∧ CallPost w Z0 r c w' env' Z'
  hand : ∀ f us b bs r, (C f us (b :: bs)).o = some r → r.pre = true → ∀ (w : World) (Z0 : Nat → Prop) (env0 : Nat → Option Ent) (cs : Array Value), (∀ g, Z0 g → g < w.heap.size) →
    (∀ g l, GL g = some l → VRel (fun _ => none) Z0 w (.rptr l) (.pointer (some ⟨g, 0, none⟩))) → HandPre w Z0 env0 (b :: bs) → VRels env0 Z0 w us cs.toList →
    Calls P f cs w fun e w' => ∃ c env' Z', e = .returned c ∧ HandPost w Z0 env0 (b :: bs) r c w' env' Z'

theorem Rel.later (h : Rel X env Z s a w) {w' : World} {Z' : Nat → Prop} (hw : Wider w w') (hz : ∀ g, Z g → Z' g) (hn : ∀ g, Z' g → Z g ∨ w.heap.size ≤ g) (hl : ∀ g, Z' g → g < w'.heap.size) : Rel X env Z' s a w' := by
  have hzb : ∀ g, Z g → w'.heap[g]? = w.heap[g]? := fun g hg => hw.block g (h.zlt g hg)
  have id : ∀ k e, env k = some e → ∃ e', env k = some e' ∧ e.n ≤ e'.n ∧ (e'.n = e.n → e' = e) := fun k e hk => ⟨e, hk, Nat.le_refl _, fun _ => rfl⟩
  have h0 := h.grown
  exact
    { size := h.size
      tmps := fun t ht => (h.tmps t ht).mono hzb hz id
      tmpo := h.tmpo
      dom := h.dom
      blk := fun k b e h1 h2 => (h.blk k b e h1 h2).mono (fun g hg => hw.block g (h.blt h2 hg)) hzb hz (fun g hg hnz hz' => (hn g hz').elim hnz fun hge => by have := h.blt h2 hg; omega) id
      inj := h.inj
      own := h.own
      zlt := hl
      z0 := fun g hg => hz g (h.z0 g hg)
      znew := fun g hg => (hn g hg).elim (h.znew g) fun hge => .inr (.inl (by omega))
      os := hw.os.trans h.os
      tape := hw.tape.trans h.tape
      output := hw.output.trans h.output
      grown := Nat.le_trans h.grown hw.size
      keep := fun g h1 h2 => (hw.block g (by omega)).trans (h.keep g h1 h2)
      defers := h.defers.mono hzb hz id
      hand := h.hand }

/-- One more entry, of a block that is there. -/
theorem Rel.addEntry (h : Rel X env Z s a w) {k : Nat} {b : Blk} {e : Ent} (hk : s.key k = none) (hB : BRel (fun l => if l = k then some e else env l) Z w b e)
    (hfresh : ∀ l f g, env l = some f → f.has g → ¬ e.has g) (hown : ∀ g, e.has g → X.w0.heap.size ≤ g) (hd : b.kind.isD = false) :
    Rel X (fun l => if l = k then some e else env l) Z (s.setK k b) a w := by
  have hek : env k = none := by
    have := h.dom k
    rw [hk] at this
    simpa using this
  refine
    { size := h.size
      tmps := fun t ht => (h.tmps t ht).mono (fun _ _ => rfl) (fun _ h => h) (env_more hek)
      tmpo := h.tmpo
      dom := ?_
      blk := ?_
      inj := ?_
      own := ?_
      zlt := h.zlt
      z0 := h.z0
      znew := h.znew
      os := h.os
      tape := h.tape
      output := h.output
      grown := h.grown
      keep := h.keep
      defers := (h.defers.mono (fun _ _ => rfl) (fun _ h => h) (env_more hek)).turn (fun b0 h0 => by rw [hk] at h0; cases h0) hd
      hand := hand_step h.hand (env_more hek) }
  · intro l
    simp only [F.setK]
    by_cases e' : l = k
    · simp [e']
    · simp only [e', if_false]; exact h.dom l
  · intro l b' e' h1 h2
    simp only [F.setK] at h1
    by_cases hl : l = k
    · rw [if_pos hl] at h1 h2
      simp only [Option.some.injEq] at h1 h2
      subst h1 h2
      exact hB
    · rw [if_neg hl] at h1 h2
      exact (h.blk l b' e' h1 h2).mono (fun _ _ => rfl) (fun _ _ => rfl) (fun _ h => h) (fun _ _ h => h) (env_more hek)
  · intro l m e1 f1 g h1 h2 h3 h4
    by_cases hl : l = k
    · by_cases hm : m = k
      · rw [hl, hm]
      · rw [if_pos hl] at h1
        rw [if_neg hm] at h2
        simp only [Option.some.injEq] at h1
        subst h1
        exact absurd h3 (hfresh m f1 g h2 h4)
    · rw [if_neg hl] at h1
      by_cases hm : m = k
      · rw [if_pos hm] at h2
        simp only [Option.some.injEq] at h2
        subst h2
        exact absurd h4 (hfresh l e1 g h1 h3)
      · rw [if_neg hm] at h2
        exact h.inj l m e1 f1 g h1 h2 h3 h4
  · intro l e1 g h1 h2
    by_cases hl : l = k
    · rw [if_pos hl] at h1
      simp only [Option.some.injEq] at h1
      subst h1
      exact .inl (hown g h2)
    · rw [if_neg hl] at h1
      exact h.own l e1 g h1 h2

/-- An array's relation asks nothing of the entries. -/
theorem BRel.anyEnv {b : Blk} {e : Ent} {env' : Nat → Option Ent} (h : BRel env Z w b e) (hk : b.kind ≠ .box) : BRel env' Z w b e := by
  refine ⟨h.hn, h.hE, h.hlen, fun hb => absurd hb hk, h.hst, h.plain, fun st T E hb => ?_, fun hb => ?_⟩
  · have hN := h.ns st T E hb
    refine ⟨hN.one, hN.len, hN.out, fun i r c hr hc => ?_, hN.dist, hN.outer⟩
    obtain ⟨rr, q1, q2⟩ := hN.inn i r c hr hc
    refine ⟨rr, q1, q2.len, ?_⟩
    rcases q2.mem with h0 | ⟨g, o, cap, cs, h1, h2, h3, h4, h5, h6, h7, h8⟩
    · exact .inl h0
    · exact .inr ⟨g, o, cap, cs, h1, h2, h3, h4, h5, h6, h7, fun i j r v hi hj => let ⟨c, q1, q2, q3⟩ := h8 i j r v hi hj; ⟨c, q1, q2.anyEnv q3.1, q3⟩⟩
  rcases h.arr hb with h0 | ⟨g, cap, cs, h1, h2, h3, h4, h5, h6, h7, h8, h9⟩
  · exact .inl h0
  · exact .inr ⟨g, cap, cs, h1, h2, h3, h4, h5, h6, h7, h8, fun i j r v hi hj => let ⟨c, q1, q2, q3⟩ := h9 i j r v hi hj; ⟨c, q1, q2.anyEnv q3.1, q3⟩⟩

/-- What stands while a call's answer is taken apart: the first 'k' of its new arrays have entries. -/
structure Taking (X : Ctx) (env' : Nat → Option Ent) (B : Nat) (k : Nat) (env : Nat → Option Ent) (Z : Nat → Prop) (s : F) (a : Act) (w : World) : Prop where
  rel : Rel X env Z s a w
  old : ∀ l f g, env l = some f → f.has g → g < B ∨ ∃ i f', i < k ∧ env' i = some f' ∧ f'.has g

theorem chkL_scalar {t : LT} {v : AVal} {c : Value} {env1 env2 : Nat → Option Ent} {Z1 Z2 : Nat → Prop} (h : chkL t v = true) (ht : isSl t = false) (hv : VRel env1 Z1 w v c) : VRel env2 Z2 w (decL t v) c := by
  cases t with
  | int k =>
    cases v <;> first | cases h | skip
    rename_i x
    cases x <;> first | cases h | skip
    rename_i k' n
    cases hv
    obtain rfl := kEq_eq h
    exact .sc _
  | bool =>
    cases v <;> first | cases h | skip
    rename_i x
    cases x <;> first | cases h | skip
    cases hv
    exact .sc _
  | str =>
    cases v <;> first | cases h | skip
    rename_i x
    cases x <;> first | cases h | skip
    cases hv
    exact .sc _
  | sl T E => cases ht
  | other => cases ht

theorem decM_sim {own : Bool} {key0 : Nat} {r : CR} {c0 : Value} {w0 w' : World} {Z0 Zc : Nat → Prop} {env' : Nat → Option Ent} (hP : CallPost w0 Z0 r c0 w' env' Zc) (hX : X.w0.heap.size ≤ w0.heap.size) :
    ∀ (ts : List LT) (j : Nat) (cells : List AVal) (idx : Nat) (out : List AVal) (idx' : Nat) (env : Nat → Option Ent) (s s1 : F), (Z = Zc ∨ ∀ t ∈ ts, isSl t = false) →
      Gives (decM own key0 r.news ts j cells idx) s (out, idx') s1 → Taking X env' w0.heap.size idx env Z s a w' →
      ∃ env1, Taking X env' w0.heap.size idx' env1 Z s1 a w' ∧ (∀ l f, env l = some f → env1 l = some f) ∧ out.length = ts.length ∧
        ∀ i v, out[i]? = some v → ∀ c, VRel env' Zc w' (cells.getD (j + i) .dead) c → VRel env1 Z w' v c
  | [], j, cells, idx, out, idx', env, s, s1, hZ, h, hT => by
    have := h.ret
    obtain ⟨h1, rfl⟩ := this
    simp only [Prod.mk.injEq] at h1
    obtain ⟨rfl, rfl⟩ := h1
    exact ⟨env, hT, fun _ _ h => h, rfl, fun i v hv => by simp at hv⟩
  | t :: ts, j, cells, idx, out, idx', env, s, s1, hZ, h, hT => by
    have hZ' : Z = Zc ∨ ∀ t ∈ ts, isSl t = false := hZ.imp id fun h t ht => h t (.tail _ ht)
    unfold decM at h
    split at h
    · -- an own array
      rename_i T E k n hcell
      have hZc : Z = Zc := hZ.resolve_right fun h => by have := h _ (.head _); simp [isSl] at this
      obtain ⟨hc, h2⟩ := h.assert
      simp only [Bool.and_eq_true] at hc
      have hlt := nblt hc.1
      have h3 := h2.getK
      cases hk : s.key (key0 + idx) with
      | some x => rw [hk] at h3; exact h3.fail
      | none =>
        rw [hk] at h3
        have h4 := h3.setK
        obtain ⟨p, s2, h5, h6⟩ := h4.bind
        obtain ⟨h7, rfl⟩ := h6.ret
        simp only [Prod.mk.injEq] at h7
        obtain ⟨rfl, rfl⟩ := h7
        generalize hb : r.news.getD idx default = b at hc h4 h5 h6
        have hbn : r.news[idx]? = some b := by
          rw [← hb]; simp [List.getD, hlt]
        obtain ⟨hkind, e, he, hB⟩ := hP.news idx b hbn
        have hok := hc.2
        simp only [okNew, Bool.and_eq_true] at hok
        obtain ⟨⟨⟨⟨q1, q2⟩, q3⟩, q4⟩, q5⟩ := hok
        have q1 := nbeq_eq q1
        have q2 := nbeq_eq q2
        have q4 := nbeq_eq q4
        have q5 := nbeq_eq q5
        have hblk : (⟨.arr, T, E, b.rows⟩ : Blk) = b := by rw [← q4, ← q5, ← hkind]
        have hT1 : Taking X env' w0.heap.size (idx + 1) (fun l => if l = key0 + idx then some e else env l) Z (s.setK (key0 + idx) ⟨.arr, T, E, b.rows⟩) a w' := by
          refine ⟨hT.rel.addEntry hk ?_ ?_ ?_ rfl, ?_⟩
          · rw [hblk, hZc]; exact hB.anyEnv (by rw [hkind]; simp)
          · intro l f g hl hg hg'
            rcases hT.old l f g hl hg with hlt' | ⟨i, f', hi, hf', hgf⟩
            · have := hP.own idx e g he hg'; omega
            · have := hP.inj i idx f' e g hf' he hgf hg'; omega
          · intro g hg
            have := hP.own idx e g he hg
            omega
          · intro l f g hl hg
            by_cases hlk : l = key0 + idx
            · rw [if_pos hlk] at hl
              simp only [Option.some.injEq] at hl
              subst hl
              exact .inr ⟨idx, e, Nat.lt_succ_self _, he, hg⟩
            · rw [if_neg hlk] at hl
              rcases hT.old l f g hl hg with h | ⟨i, f', hi, h⟩
              · exact .inl h
              · exact .inr ⟨i, f', by omega, h⟩
        obtain ⟨env1, hT2, hsub, hlen, hval⟩ := decM_sim hP hX ts (j + 1) cells (idx + 1) p.1 p.2 _ _ _ hZ' h5 hT1
        have hek : env (key0 + idx) = none := by
          have := hT.rel.dom (key0 + idx)
          rw [hk] at this
          simpa using this
        refine ⟨env1, hT2, fun l f hl => hsub l f ?_, by simp [hlen], fun i v hv c hc => ?_⟩
        · have : l ≠ key0 + idx := fun h => by rw [h, hek] at hl; cases hl
          rw [if_neg this]; exact hl
        · cases i with
          | zero =>
            simp only [List.getElem?_cons_zero, Option.some.injEq] at hv
            subst hv
            rw [Nat.add_zero, hcell] at hc
            cases hc with
            | slc _ _ _ e' he' hle h1 hval' =>
              rw [q1, he] at he'
              simp only [Option.some.injEq] at he'
              subst he'
              exact .slc _ _ _ e (hsub _ _ (if_pos rfl)) (by rw [hB.hn]; exact Nat.le_refl _) h1 fun _ => hval' (by rw [hB.hn]; exact q2.symm)
          | succ i =>
            simp only [List.getElem?_cons_succ] at hv
            exact hval i v hv c (by rw [show j + 1 + i = j + (i + 1) by omega]; exact hc)
    · rename_i hno
      obtain ⟨hc, h2⟩ := h.assert
      obtain ⟨p, s2, h5, h6⟩ := h2.bind
      obtain ⟨h7, rfl⟩ := h6.ret
      simp only [Prod.mk.injEq] at h7
      obtain ⟨rfl, rfl⟩ := h7
      obtain ⟨env1, hT2, hsub, hlen, hval⟩ := decM_sim hP hX ts (j + 1) cells idx p.1 p.2 _ _ _ hZ' h5 hT
      refine ⟨env1, hT2, hsub, by simp [hlen], fun i v hv c hc => ?_⟩
      cases i with
      | zero =>
        simp only [List.getElem?_cons_zero, Option.some.injEq] at hv
        subst hv
        rw [Nat.add_zero] at hc
        rcases hZ with hZc | hZs
        · rw [hZc]
          exact (chkL_dec ‹_› hc).anyEnv (decL_flat ‹_›)
        · exact chkL_scalar ‹_› (hZs _ (.head _)) hc
      | succ i =>
        simp only [List.getElem?_cons_succ] at hv
        exact hval i v hv c (by rw [show j + 1 + i = j + (i + 1) by omega]; exact hc)
/-! ### Calls that are handed blocks -/
/-- The entries of the arrays that go along. -/
def envOf (env : Nat → Option Ent) (news : List (Nat × Blk)) : Nat → Option Ent := fun i => (news[i]?).bind fun p => env p.1

/-- Blocks that are gathered: each once. -/
structure Coll (s : F) (acc : List (Nat × Blk)) : Prop where
  look : ∀ (i k : Nat) (b : Blk), acc[i]? = some (k, b) → s.key k = some b
  inj : ∀ (i j k : Nat) (b b' : Blk), acc[i]? = some (k, b) → acc[j]? = some (k, b') → i = j

theorem lookK_no {h : List (Nat × Blk)} {k : Nat} (hn : (lookK h k).isSome = false) : ∀ (i : Nat) (b : Blk), h[i]? ≠ some (k, b) := by
  induction h with
  | nil => intro i b hi; simp at hi
  | cons p h ih =>
    obtain ⟨k', b'⟩ := p
    simp only [lookK] at hn
    by_cases e : k' = k
    · subst e; simp at hn
    · simp only [nbeq_ne e, cond_false] at hn
      intro i b hi
      cases i with
      | zero => simp at hi; exact e hi.1
      | succ i => exact ih hn i b (by simpa using hi)

theorem collect_sim : ∀ (n : Nat) (todo : List Nat) (acc acc' : List (Nat × Blk)) (s s1 : F), Gives (collect n todo acc) s acc' s1 → Coll s acc → s1 = s ∧ Coll s acc'
  | 0, todo, acc, acc', s, s1, h, hc => by cases todo <;> exact h.fail
  | n + 1, [], acc, acc', s, s1, h, hc => by
    obtain ⟨rfl, rfl⟩ := h.ret
    exact ⟨rfl, hc⟩
  | n + 1, k :: todo, acc, acc', s, s1, h, hc => by
    simp only [collect] at h
    cases hk : (lookK acc k).isSome with
    | true =>
      rw [hk] at h
      exact collect_sim n todo acc acc' s s1 h hc
    | false =>
      rw [hk] at h
      simp only [cond_false] at h
      have h2 := h.getK
      cases hb : s.key k with
      | none => rw [hb] at h2; exact h2.fail
      | some b =>
        rw [hb] at h2
        refine collect_sim n _ _ acc' s s1 h2 ⟨fun i k0 b0 hi => ?_, fun i j k0 b0 b1 hi hj => ?_⟩
        · rcases Nat.lt_or_ge i acc.length with hlt | hge
          · rw [List.getElem?_append_left hlt] at hi; exact hc.look i k0 b0 hi
          · rw [List.getElem?_append_right hge] at hi
            cases hd : i - acc.length with
            | zero =>
              rw [hd] at hi
              simp only [List.getElem?_cons_zero, Option.some.injEq, Prod.mk.injEq] at hi
              obtain ⟨rfl, rfl⟩ := hi
              exact hb
            | succ d => rw [hd] at hi; simp at hi
        · have hno := lookK_no hk
          have last : ∀ i b0, (acc ++ [(k, b)])[i]? = some (k0, b0) → i < acc.length ∨ (i = acc.length ∧ k0 = k) := fun i b0 hi => by
            rcases Nat.lt_or_ge i acc.length with hlt | hge
            · exact .inl hlt
            · rw [List.getElem?_append_right hge] at hi
              cases hd : i - acc.length with
              | zero =>
                rw [hd] at hi
                simp only [List.getElem?_cons_zero, Option.some.injEq, Prod.mk.injEq] at hi
                exact .inr ⟨by omega, hi.1.symm⟩
              | succ d => rw [hd] at hi; simp at hi
          rcases last i b0 hi with h1 | ⟨h1, h3⟩
          · rcases last j b1 hj with h2 | ⟨h2, h4⟩
            · rw [List.getElem?_append_left h1] at hi
              rw [List.getElem?_append_left h2] at hj
              exact hc.inj i j k0 b0 b1 hi hj
            · rw [List.getElem?_append_left h1] at hi
              rw [h4] at hi
              exact absurd hi (hno i b0)
          · rcases last j b1 hj with h2 | ⟨h2, h4⟩
            · rw [List.getElem?_append_left h2] at hj
              rw [h3] at hj
              exact absurd hj (hno j b1)
            · omega

theorem idxK_spec : ∀ (l : List (Nat × Blk)) (k i q : Nat), idxK l k i = some q → i ≤ q ∧ ∃ b, l[q - i]? = some (k, b)
  | [], k, i, q, h => by cases h
  | (k', b) :: l, k, i, q, h => by
    simp only [idxK] at h
    by_cases e : k' = k
    · subst e
      simp only [Nat.beq_refl, cond_true, Option.some.injEq] at h
      subst h
      exact ⟨Nat.le_refl _, b, by simp⟩
    · simp only [nbeq_ne e, cond_false] at h
      obtain ⟨h1, b', h2⟩ := idxK_spec l k (i + 1) q h
      refine ⟨by omega, b', ?_⟩
      rw [show q - i = (q - (i + 1)) + 1 by omega]
      simpa using h2
theorem idxK_get {l : List (Nat × Blk)} {k q : Nat} (h : idxK l k 0 = some q) : ∃ b, l[q]? = some (k, b) := by
  obtain ⟨_, b, h2⟩ := idxK_spec l k 0 q h
  exact ⟨b, by simpa using h2⟩
theorem idxK_none : ∀ (l : List (Nat × Blk)) (k i : Nat), idxK l k i = none → ∀ (j : Nat) (b : Blk), l[j]? ≠ some (k, b)
  | [], k, i, h => fun j b hj => by simp at hj
  | (k', b) :: l, k, i, h => fun j b' hj => by
    simp only [idxK] at h
    by_cases e : k' = k
    · subst e; simp at h
    · simp only [nbeq_ne e, cond_false] at h
      cases j with
      | zero => simp at hj; exact e hj.1
      | succ j => exact idxK_none l k (i + 1) h j b' (by simpa using hj)
theorem Coll.idx {acc : List (Nat × Blk)} (hc : Coll s acc) {i k : Nat} {b : Blk} (h : acc[i]? = some (k, b)) : idxK acc k 0 = some i := by
  cases hq : idxK acc k 0 with
  | none => exact absurd h (idxK_none acc k 0 hq i b)
  | some q =>
    obtain ⟨b', h'⟩ := idxK_get hq
    rw [hc.inj q i k b' b h' h]

theorem envOf_get {acc : List (Nat × Blk)} {q k : Nat} {b : Blk} (h : acc[q]? = some (k, b)) : envOf env acc q = env k := by
  simp only [envOf, h, Option.bind_some]

theorem renC_sim {acc : List (Nat × Blk)} {v u : AVal} {c : Value} (h : renC acc v = some u) (hv : VRel env Z w v c) : VRel (envOf env acc) Z w u c ∧ (cellOk v = true → cellOk u = true) := by
  unfold renC at h
  split at h
  · split at h
    · rename_i q hq
      simp only [Option.some.injEq] at h
      subst h
      obtain ⟨b, hb⟩ := idxK_get hq
      cases hv with
      | ref _ _ _ _ _ e he hle h1 hh => exact ⟨.ref _ _ _ _ _ e (by rw [envOf_get hb]; exact he) hle h1 hh, fun _ => rfl⟩
    · cases h
  · split at h
    · rename_i q hq
      simp only [Option.some.injEq] at h
      subst h
      obtain ⟨b, hb⟩ := idxK_get hq
      cases hv with
      | slc _ _ _ e he hle h1 hh => exact ⟨.slc _ _ _ e (by rw [envOf_get hb]; exact he) hle h1 hh, fun _ => rfl⟩
    · cases h
  · cases hf : flat v with
    | false => rw [hf] at h; cases h
    | true =>
      rw [hf] at h
      simp only [cond_true, Option.some.injEq] at h
      subst h
      exact ⟨hv.anyEnv hf, fun h => h⟩
theorem renCs_sim {acc : List (Nat × Blk)} : ∀ (l us : List AVal) (cs : List Value), renCs acc l = some us → VRels env Z w l cs → VRels (envOf env acc) Z w us cs
  | [], us, cs, h, hl => by
    simp only [renCs, Option.some.injEq] at h
    subst h
    rw [hl.inv_nil]
    exact .nil
  | v :: l, us, cs, h, hl => by
    obtain ⟨c, ds, rfl, hc, hds⟩ := hl.inv
    simp only [renCs] at h
    split at h
    · rename_i u us' h1 h2
      simp only [Option.some.injEq] at h
      subst h
      exact .cons (renC_sim h1 hc).1 (renCs_sim l us' ds h2 hds)
    · cases h
theorem renV_sim {acc : List (Nat × Blk)} {v u : AVal} {c : Value} (h : renV acc v = some u) (hv : VRel env Z w v c) : VRel (envOf env acc) Z w u c := by
  unfold renV at h
  split at h
  · rename_i l
    split at h
    · rename_i us hus
      simp only [Option.some.injEq] at h
      subst h
      cases hv with
      | agg _ cs hl hh =>
        have := renCs_sim l us cs.toList hus ⟨by simpa using hl, fun i v c q1 q2 => hh i v c q1 (by simpa using q2)⟩
        exact .agg _ _ (by simpa using this.1) fun i v c q1 q2 => this.2 i v c q1 (by simpa using q2)
    · cases h
  · exact (renC_sim h hv).1
theorem renVs_sim {acc : List (Nat × Blk)} : ∀ (l us : List AVal) (cs : List Value), renVs acc l = some us → VRels env Z w l cs → VRels (envOf env acc) Z w us cs
  | [], us, cs, h, hl => by
    simp only [renVs, Option.some.injEq] at h
    subst h
    rw [hl.inv_nil]
    exact .nil
  | v :: l, us, cs, h, hl => by
    obtain ⟨c, ds, rfl, hc, hds⟩ := hl.inv
    simp only [renVs] at h
    split at h
    · rename_i u us' h1 h2
      simp only [Option.some.injEq] at h
      subst h
      exact .cons (renV_sim h1 hc) (renVs_sim l us' ds h2 hds)
    · cases h
theorem renCs_get {acc : List (Nat × Blk)} : ∀ (l us : List AVal), renCs acc l = some us → us.length = l.length ∧ ∀ (j : Nat) (u : AVal), us[j]? = some u → ∃ v, l[j]? = some v ∧ renC acc v = some u
  | [], us, h => by
    simp only [renCs, Option.some.injEq] at h
    subst h
    exact ⟨rfl, fun j u hj => by simp at hj⟩
  | v :: l, us, h => by
    simp only [renCs] at h
    split at h
    · rename_i u us' h1 h2
      simp only [Option.some.injEq] at h
      subst h
      obtain ⟨h3, h4⟩ := renCs_get l us' h2
      refine ⟨by simp [h3], fun j u hj => ?_⟩
      cases j with
      | zero => simp at hj; subst hj; exact ⟨v, rfl, h1⟩
      | succ j => exact h4 j u (by simpa using hj)
    · cases h

theorem renBlk_sim {acc : List (Nat × Blk)} {b b' : Blk} {e : Ent} (h : renBlk acc b = some b') (hB : BRel env Z w b e) : BRel (envOf env acc) Z w b' e ∧ b'.kind = b.kind ∧ b'.T = b.T ∧ b'.E = b.E ∧ (b'.kind ≠ .frz ∧ b'.kind.isD = false) ∧ b'.kind.st = 0 := by
  unfold renBlk at h
  split at h
  · rename_i hk
    split at h
    · rename_i rows' hrows
      simp only [Option.some.injEq] at h
      subst h
      obtain ⟨g, cs, r, h1, h2, h3, h4, h5, h6⟩ := hB.box hk
      rw [h2] at hrows
      simp only [renRows] at hrows
      split at hrows
      · rename_i u us hu hus
        simp only [Option.some.injEq] at hus hrows
        subst hus hrows
        obtain ⟨q1, q2⟩ := renCs_get r u hu
        refine ⟨⟨by rw [hB.hn, h2]; rfl, hB.hE, fun i r' hr' => ?_, fun _ => ⟨g, cs, u, h1, rfl, h3, h4, by rw [q1]; exact h5, fun j v c hv hc => ?_⟩, by rw [hB.hst, hk], fun _ => hB.plain (by rw [hk]; rfl), fun _ _ _ hb => (by cases hb), fun hn => (by cases hn)⟩, hk.symm, rfl, rfl, ⟨by simp, rfl⟩, rfl⟩
        · cases i with
          | zero =>
            simp only [List.getElem?_cons_zero, Option.some.injEq] at hr'
            subst hr'
            rw [q1]
            exact hB.hlen 0 r (by rw [h2]; rfl)
          | succ i => simp at hr'
        · obtain ⟨v0, hv0, hren⟩ := q2 j v hv
          obtain ⟨p1, p2, p3⟩ := h6 j v0 c hv0 hc
          obtain ⟨r1, r2⟩ := renC_sim hren p1
          exact ⟨r1, r2 p2, p3⟩
      · cases hrows
    · cases h
  · rename_i hk
    simp only [Option.some.injEq] at h
    subst h
    exact ⟨hB.anyEnv (by rw [hk]; simp), rfl, rfl, rfl, ⟨by rw [hk]; simp, by rw [hk]; rfl⟩, by rw [hk]; rfl⟩
  · cases h
  · rename_i st T E hk
    cases hst : Nat.beq st 0 with
    | false => rw [hst] at h; cases h
    | true =>
      rw [hst] at h
      simp only [cond_true, Option.some.injEq] at h
      subst h
      exact ⟨hB.anyEnv (by rw [hk]; simp), rfl, rfl, rfl, ⟨by rw [hk]; simp, by rw [hk]; rfl⟩, by rw [hk]; exact nbeq_eq hst⟩
  · cases h
theorem renBlks_get {acc : List (Nat × Blk)} : ∀ (l : List (Nat × Blk)) (bs : List Blk), renBlks acc l = some bs → bs.length = l.length ∧ ∀ (j k : Nat) (b : Blk), l[j]? = some (k, b) → ∃ b', bs[j]? = some b' ∧ renBlk acc b = some b'
  | [], bs, h => by
    simp only [renBlks, Option.some.injEq] at h
    subst h
    exact ⟨rfl, fun j k b hj => by simp at hj⟩
  | (k0, b0) :: l, bs, h => by
    simp only [renBlks] at h
    split at h
    · rename_i u us' h1 h2
      simp only [Option.some.injEq] at h
      subst h
      obtain ⟨h3, h4⟩ := renBlks_get l us' h2
      refine ⟨by simp [h3], fun j k b hj => ?_⟩
      cases j with
      | zero =>
        simp only [List.getElem?_cons_zero, Option.some.injEq, Prod.mk.injEq] at hj
        obtain ⟨rfl, rfl⟩ := hj
        exact ⟨u, rfl, h1⟩
      | succ j => exact h4 j k b (by simpa using hj)
    · cases h

/-- A block that is no frozen one is none that may be told by its rows. -/
theorem BRel.notZ {b : Blk} {e : Ent} (h : BRel env Z w b e) (hk : b.kind ≠ .frz) (hd : b.kind.isD = false) : ∀ g, e.has g → ¬ Z g := by
  intro g hg
  cases hb : b.kind with
  | box =>
    have hg := has_one (h.plain (by rw [hb]; rfl)).1 hg
    obtain ⟨g', cs, r, h1, _, _, h4, _⟩ := h.box hb
    rw [h1] at hg
    simp only [ob, Option.some.injEq] at hg
    subst hg
    exact h4
  | arr =>
    have hg := has_one (h.plain (by rw [hb]; rfl)).1 hg
    rcases h.arr (by rw [hb]; rfl) with ⟨_, a, h1⟩ | ⟨g', cap, cs, h1, _, _, h4, _, _, h7, _⟩
    · rw [h1] at hg; cases a <;> simp [ob] at hg
    · rw [h1] at hg
      simp only [ob] at hg
      rw [if_neg (by omega)] at hg
      simp only [Option.some.injEq] at hg
      subst hg
      exact h7 hb
  | frz => exact absurd hb hk
  | dfr f l =>
    have hg := has_one (h.plain (by rw [hb]; rfl)).1 hg
    rcases h.arr (by rw [hb]; rfl) with ⟨_, a, h1⟩ | ⟨g', cap, cs, h1, _, _, h4, _, _, h7, _⟩
    · rw [h1] at hg; cases a <;> simp [ob] at hg
    · rw [hb] at hd; cases hd
  | ns st T E => exact (h.ns _ _ _ hb).notZ g hg

/-- A block of slices that came back: spent, while the region lasts. -/
def stir (k : BKind) (e : Ent) : Ent := match k with | .ns _ _ _ => ⟨e.v, e.n, e.E, 2, 0, e.sub⟩ | _ => e
theorem stir_v (k : BKind) (e : Ent) : (stir k e).v = e.v ∧ (stir k e).n = e.n ∧ (stir k e).E = e.E ∧ (stir k e).sub = e.sub := by cases k <;> exact ⟨rfl, rfl, rfl, rfl⟩
theorem stir_has (k : BKind) (e : Ent) (g : Nat) : (stir k e).has g ↔ e.has g := by
  obtain ⟨h1, _, _, h2⟩ := stir_v k e
  simp only [Ent.has, h1, h2]

theorem backC_sim {acc : List (Nat × Blk)} {env' env1 : Nat → Option Ent} {v u : AVal} {c : Value} (h : backC acc v = some u) (hv : VRel env' Z w v c) (he : ∀ q k b e, acc[q]? = some (k, b) → env' q = some e → ∃ e', env1 k = some e' ∧ e'.v = e.v ∧ e'.n = e.n ∧ e'.E = e.E) :
    VRel env1 Z w u c ∧ (cellOk v = true → cellOk u = true) := by
  unfold backC at h
  split at h
  · split at h
    · rename_i p hp
      simp only [Option.some.injEq] at h
      subst h
      cases hv with
      | ref _ _ _ _ _ e hee hle h1 hh =>
        obtain ⟨e', p1, p2, p3, p4⟩ := he _ p.1 p.2 e hp hee
        exact ⟨.ref _ _ _ _ _ e' p1 (by rw [p3]; exact hle) h1 (by rw [p3, p2, p4]; exact hh), fun _ => rfl⟩
    · cases h
  · split at h
    · rename_i p hp
      simp only [Option.some.injEq] at h
      subst h
      cases hv with
      | slc _ _ _ e hee hle h1 hh =>
        obtain ⟨e', p1, p2, p3, _⟩ := he _ p.1 p.2 e hp hee
        exact ⟨.slc _ _ _ e' p1 (by rw [p3]; exact hle) h1 (by rw [p3, p2]; exact hh), fun _ => rfl⟩
    · cases h
  · cases hf : flat v with
    | false => rw [hf] at h; cases h
    | true =>
      rw [hf] at h
      simp only [cond_true, Option.some.injEq] at h
      subst h
      exact ⟨hv.anyEnv hf, fun h => h⟩
theorem backCs_get {acc : List (Nat × Blk)} : ∀ (l us : List AVal), backCs acc l = some us → us.length = l.length ∧ ∀ (j : Nat) (u : AVal), us[j]? = some u → ∃ v, l[j]? = some v ∧ backC acc v = some u
  | [], us, h => by
    simp only [backCs, Option.some.injEq] at h
    subst h
    exact ⟨rfl, fun j u hj => by simp at hj⟩
  | v :: l, us, h => by
    simp only [backCs] at h
    split at h
    · rename_i u us' h1 h2
      simp only [Option.some.injEq] at h
      subst h
      obtain ⟨h3, h4⟩ := backCs_get l us' h2
      refine ⟨by simp [h3], fun j u hj => ?_⟩
      cases j with
      | zero => simp at hj; subst hj; exact ⟨v, rfl, h1⟩
      | succ j => exact h4 j u (by simpa using hj)
    · cases h
theorem backBlk_sim {acc : List (Nat × Blk)} {env' env1 : Nat → Option Ent} {b b' : Blk} {rows : List (List AVal)} {e : Ent} (h : backBlk acc b rows = some b') (hB : BRel env' Z w ⟨b.kind, b.T, b.E, rows⟩ e) (he : ∀ q k b e, acc[q]? = some (k, b) → env' q = some e → ∃ e', env1 k = some e' ∧ e'.v = e.v ∧ e'.n = e.n ∧ e'.E = e.E) :
    BRel env1 Z w b' (stir b.kind e) := by
  unfold backBlk at h
  cases hk : b.kind with
  | box =>
    rw [hk] at h hB
    simp only at h
    split at h
    · rename_i rows' hrows
      simp only [Option.some.injEq] at h
      subst h
      obtain ⟨g, cs, r, h1, h2, h3, h4, h5, h6⟩ := hB.box rfl
      simp only at h2
      rw [h2] at hrows
      simp only [backRows] at hrows
      split at hrows
      · rename_i u us hu hus
        simp only [Option.some.injEq] at hus hrows
        subst hus hrows
        obtain ⟨q1, q2⟩ := backCs_get r u hu
        refine ⟨by show e.n = _; rw [hB.hn]; simp only [h2]; rfl, hB.hE, fun i r' hr' => ?_, fun _ => ⟨g, cs, u, h1, rfl, h3, h4, by rw [q1]; exact h5, fun j v c hv hc => ?_⟩, hB.hst, fun _ => hB.plain rfl, fun _ _ _ hb => (by cases hb), fun hn => (by cases hn)⟩
        · cases i with
          | zero =>
            simp only [List.getElem?_cons_zero, Option.some.injEq] at hr'
            subst hr'
            rw [q1]
            exact hB.hlen 0 r (by simp only [h2]; rfl)
          | succ i => simp at hr'
        · obtain ⟨v0, hv0, hren⟩ := q2 j v hv
          obtain ⟨p1, p2, p3⟩ := h6 j v0 c hv0 hc
          obtain ⟨r1, r2⟩ := backC_sim hren p1 he
          exact ⟨r1, r2 p2, p3⟩
      · cases hrows
    · cases h
  | arr =>
    rw [hk] at h hB
    simp only [Option.some.injEq] at h
    subst h
    exact hB.anyEnv (by simp)
  | frz =>
    rw [hk] at h hB
    simp only [Option.some.injEq] at h
    subst h
    exact hB.anyEnv (by simp)
  | dfr f l =>
    rw [hk] at h hB
    simp only [Option.some.injEq] at h
    subst h
    exact hB.anyEnv (by simp)
  | ns st T E =>
    rw [hk] at h hB
    simp only at h
    cases hst : Nat.beq st 0 with
    | false => rw [hst] at h; cases h
    | true =>
    rw [hst] at h
    simp only [cond_true, Option.some.injEq] at h
    subst h
    have hst := nbeq_eq hst
    subst hst
    have hB' := hB.anyEnv (env' := env1) (by simp)
    have hN := hB'.ns _ _ _ rfl
    refine ⟨hB'.hn, hB'.hE, hB'.hlen, fun hb => (by cases hb), rfl, fun hb => (by cases hb), fun st' T' E' hb => ?_, fun hb => (by cases hb)⟩
    simp only [BKind.ns.injEq] at hb
    obtain ⟨rfl, rfl, rfl⟩ := hb
    refine ⟨hN.one, hN.len, ?_, hN.inn, hN.dist, hN.outer⟩
    rcases hN.out with h0 | ⟨g, cap, cs, h1, h2, h3, h4, h5, h6, h7, h8⟩
    · exact .inl h0
    · exact .inr ⟨g, cap, cs, h1, h2, h3, h4, h5, h6, h7, fun i c hc _ => h8 i c hc fun h => (by cases h)⟩

theorem backBlk_isD {acc : List (Nat × Blk)} {b b' : Blk} {rows : List (List AVal)} (h : backBlk acc b rows = some b') (hd : b.kind.isD = false) : b'.kind.isD = false := by
  unfold backBlk at h
  split at h
  · split at h
    · simp only [Option.some.injEq] at h; subst h; rfl
    · cases h
  · rename_i st T E hk
    cases hst : Nat.beq st 0 with
    | false => rw [hst] at h; cases h
    | true => rw [hst] at h; simp only [cond_true, Option.some.injEq] at h; subst h; rfl
  · simp only [Option.some.injEq] at h; subst h; exact hd

theorem putBack_sim {acc : List (Nat × Blk)} : ∀ (l : List (Nat × Blk)) (outs : List (List (List AVal))) (s s1 : F), Gives (putBack acc l outs) s () s1 → (∀ (i j k : Nat) (b b' : Blk), l[i]? = some (k, b) → l[j]? = some (k, b') → i = j) →
    s1.N = s.N ∧ s1.tmp = s.tmp ∧ (∀ (i k : Nat) (b : Blk), l[i]? = some (k, b) → ∃ rows b', outs[i]? = some rows ∧ backBlk acc b rows = some b' ∧ s1.key k = some b') ∧ ∀ k, (∀ (i : Nat) (b : Blk), l[i]? ≠ some (k, b)) → s1.key k = s.key k
  | [], [], s, s1, h, hd => by
    obtain ⟨_, rfl⟩ := h.ret
    exact ⟨rfl, rfl, fun i k b hi => by simp at hi, fun _ _ => rfl⟩
  | [], _ :: _, s, s1, h, hd => h.fail
  | (_, _) :: _, [], s, s1, h, hd => h.fail
  | (k, b) :: l, rows :: os, s, s1, h, hd => by
    simp only [putBack] at h
    split at h
    · rename_i b' hb'
      have h2 := h.setK
      have hd' : ∀ (i j k : Nat) (b b' : Blk), l[i]? = some (k, b) → l[j]? = some (k, b') → i = j := fun i j k b b' h1 h2 => by
        have := hd (i + 1) (j + 1) k b b' (by simpa using h1) (by simpa using h2)
        omega
      obtain ⟨q1, q2, q3, q4⟩ := putBack_sim l os _ s1 h2 hd'
      have hno : ∀ (i : Nat) (b0 : Blk), l[i]? ≠ some (k, b0) := fun i b0 hi => by
        have := hd 0 (i + 1) k b b0 rfl (by simpa using hi)
        omega
      refine ⟨q1, q2, fun i k0 b0 hi => ?_, fun k0 hk0 => ?_⟩
      · cases i with
        | zero =>
          simp only [List.getElem?_cons_zero, Option.some.injEq, Prod.mk.injEq] at hi
          obtain ⟨rfl, rfl⟩ := hi
          refine ⟨rows, b', rfl, hb', ?_⟩
          rw [q4 k hno]
          simp [F.setK]
        | succ i => exact q3 i k0 b0 (by simpa using hi)
      · rw [q4 k0 fun i b0 hi => hk0 (i + 1) b0 (by simpa using hi)]
        have : k0 ≠ k := fun e => hk0 0 b (by rw [e]; rfl)
        simp [F.setK, this]
    · exact h.fail

theorem decHV_sim {v u : AVal} {c : Value} {env1 : Nat → Option Ent} (h : decHV TT t v = some u) (hv : VRel env Z w v c) : VRel env1 Z w u c := by
  unfold decHV at h
  split at h
  · cases h
  · rename_i ti ht
    split at h
    · split at h
      · rename_i l
        cases hc : chk ti.leaf l with
        | false => rw [hc] at h; cases h
        | true =>
          rw [hc] at h
          simp only [cond_true, Option.some.injEq] at h
          subst h
          cases hv with
          | agg _ cs hl hh =>
            refine .agg _ _ (by rw [dec, decFrom_length, ← chk_len hc, hl]) fun i v c hvi hci => ?_
            obtain ⟨hfl, p, hp, hv'⟩ := dec_get hc hvi
            exact (hv' _ _ _ _ (hh i p c hp hci)).anyEnv hfl
      · cases h
    · split at h
      · rename_i l _
        cases hc : chkL l v with
        | false => rw [hc] at h; cases h
        | true =>
          rw [hc] at h
          simp only [cond_true, Option.some.injEq] at h
          subst h
          exact (chkL_dec hc hv).anyEnv (decL_flat hc)
      · cases h
theorem decHT_sim {env1 : Nat → Option Ent} : ∀ (ts : List TypeId) (l us : List AVal) (cs : List Value), decHT TT ts l = some us → VRels env Z w l cs → VRels env1 Z w us cs
  | [], [], us, cs, h, hl => by
    simp only [decHT, Option.some.injEq] at h
    subst h
    rw [hl.inv_nil]
    exact .nil
  | [], _ :: _, us, cs, h, hl => by cases h
  | _ :: _, [], us, cs, h, hl => by cases h
  | t :: ts, v :: l, us, cs, h, hl => by
    obtain ⟨c, ds, rfl, hc, hds⟩ := hl.inv
    simp only [decHT] at h
    split at h
    · rename_i u us' h1 h2
      simp only [Option.some.injEq] at h
      subst h
      exact .cons (decHV_sim h1 hc) (decHT_sim ts l us' ds h2 hds)
    · cases h
theorem decRH_sim {acc : List (Nat × Blk)} {env' env1 : Nat → Option Ent} {v u : AVal} {c : Value} (h : decRH TT TU acc t v = some u) (hv : VRel env' Z w v c) (he : ∀ q k b e, acc[q]? = some (k, b) → env' q = some e → ∃ e', env1 k = some e' ∧ e'.v = e.v ∧ e'.n = e.n ∧ e'.E = e.E) : VRel env1 Z w u c := by
  unfold decRH at h
  split at h
  · split at h
    · rename_i p hp
      simp only [Option.some.injEq] at h
      subst h
      cases hv with
      | slc _ _ _ e hee hle h1 hh =>
        obtain ⟨e', p1, p2, p3, _⟩ := he _ p.1 p.2 e hp hee
        exact .slc _ _ _ e' p1 (by rw [p3]; exact hle) h1 (by rw [p3, p2]; exact hh)
    · cases h
  · simp only [Option.some.injEq] at h
    subst h
    cases hv with
    | tup _ cs hl hh => exact .tup _ _ hl fun i v c q1 q2 => by simp at q1
  · split at h
    · split at h
      · rename_i us hus
        simp only [Option.some.injEq] at h
        subst h
        cases hv with
        | tup _ cs hl hh =>
          have := decHT_sim (env1 := env1) _ _ us cs.toList hus ⟨by simpa using hl, fun i v c q1 q2 => hh i v c q1 (by simpa using q2)⟩
          exact .tup _ _ (by simpa using this.1) fun i v c q1 q2 => this.2 i v c q1 (by simpa using q2)
      · cases h
    · cases h
  · split at h
    · cases h
    · exact decHV_sim h hv
end

end Go.Proofs.YteiniiakpdijmaaDoor.AI
