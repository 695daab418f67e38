/- Every operation of a region. -/
import Derived.Test.YteiniiakpdijmaaDoorAI12
namespace Go.Proofs.YteiniiakpdijmaaDoor.AI
open Go.RowKit
set_option linter.unusedVariables false

section
variable {P : Program} {TT : TypeId → Option TI} {TU : TypeId → Option (List TypeId)} {X : Ctx} {env : Nat → Option Ent} {Z : Nat → Prop} {s s1 : F} {a : Act} {w : World} {t : TypeId} {n : Nat}

/-- Functions that the model does not itself stand in for. -/
def FOk (P : Program) (f : FuncId) : Prop := ∃ fn, P.funcs[f]? = some fn ∧ (fn.name == "runtime.NumGoroutine") = false ∧ fn.body.isNone = false

theorem callA_fok {C : FuncId → List AVal → List Blk → Call} {ownF : FuncId → Bool} (hF : ∀ f us bs r, (C f us bs).o = some r → FOk P f) {key0 : Nat} {f : FuncId} {args : List AVal} {v : AVal}
    (h : Gives (callA TT TU C ownF key0 t f args) s v s1) : FOk P f := by
  unfold callA at h
  cases hh : handed ownF f args with
  | true =>
    rw [hh] at h
    simp only [cond_true] at h
    unfold callH at h
    obtain ⟨acc, s2, _, h2⟩ := h.bind
    split at h2
    · obtain ⟨r, hr, _⟩ := h2.call
      exact hF f _ _ r hr
    · exact h2.fail
  | false =>
    rw [hh] at h
    simp only [cond_false] at h
    obtain ⟨us, s3, _, h4⟩ := h.bind
    obtain ⟨r, hr, _⟩ := h4.call
    exact hF f us [] r hr
theorem out_value {R : Value → World → Prop} {x : Sem Value} {u : Value} {w' : World} (h : x.run P w = .ok u w') (hR : R u w') : Out P R ((do pure (Next.value (← x)) : Sem Next).run P w) := by
  simp only [Sem.run_bind, h, Result.andThen_ok, Sem.run_pure]
  exact hR
theorem out_skip {R : Value → World → Prop} {x : Sem Unit} {w' : World} (h : x.run P w = .ok () w') (hR : R undef w') : Out P R ((do x; pure Next.skip : Sem Next).run P w) := by
  simp only [Sem.run_bind, h, Result.andThen_ok, Sem.run_pure]
  exact hR

theorem nestK_or (T E : Nat) : nestK TT T E = .arr ∨ (E = 1 ∧ ∃ T' E', nestK TT T E = .ns 0 T' E') := by
  unfold nestK
  split
  · split
    · cases h : (isSlT TT T && Nat.beq E 1) with
      | false => exact .inl rfl
      | true =>
        simp only [Bool.and_eq_true] at h
        exact .inr ⟨nbeq_eq h.2, _, _, rfl⟩
    · exact .inl rfl
  · exact .inl rfl

theorem ownC_sim {own : Bool} {key : Nat} {t : LT} {v u : AVal} {c : Value} (h : Gives (ownC TT own key t v) s u s1) (hR : Rel X env Z s a w) (hv : VRel env Z w v c) :
    ∃ env1, Rel X env1 Z s1 a w ∧ VRel env1 Z w u c ∧ (∀ l f, env l = some f → env1 l = some f) := by
  unfold ownC at h
  split at h
  · cases own with
    | true =>
      simp only [cond_true, newBlk] at h
      have h2 := h.getK
      cases hk : s.key key with
      | some x => rw [hk] at h2; exact h2.fail
      | none =>
        rw [hk] at h2
        have h3 := h2.setK
        obtain ⟨rfl, rfl⟩ := h3.ret
        cases hv with
        | emp ad =>
          rename_i T E
          rcases nestK_or (TT := TT) T E with hn | ⟨rfl, T', E', hn⟩
          · rw [hn]
            obtain ⟨env1, q1, q2, q3⟩ := hR.newEmpty' hk ad
            exact ⟨env1, q1, q2, q3⟩
          · rw [hn]
            obtain ⟨env1, q1, q2, q3⟩ := hR.newNs hk ad
            exact ⟨env1, q1, q2, q3⟩
    | false =>
      simp only [cond_false] at h
      obtain ⟨rfl, rfl⟩ := h.ret
      cases hv
      exact ⟨env, hR, .roE _ _ _, fun _ _ h => h⟩
  · obtain ⟨hc, h2⟩ := h.assert
    obtain ⟨rfl, rfl⟩ := h2.ret
    exact ⟨env, hR, ro_norm hc hv, fun _ _ h => h⟩
  · obtain ⟨rfl, rfl⟩ := h.ret
    exact ⟨env, hR, hv, fun _ _ h => h⟩

theorem VRel.moreEnv {env1 : Nat → Option Ent} {v : AVal} {c : Value} (h : VRel env Z w v c) (he : ∀ l f, env l = some f → env1 l = some f) : VRel env1 Z w v c :=
  h.mono (fun _ _ => rfl) (fun _ h => h) fun k e hk => ⟨e, he k e hk, Nat.le_refl _, fun _ => rfl⟩

theorem ownCs_sim {own : Bool} : ∀ (key : Nat) (ts : List LT) (vs : List AVal) (cs : List Value) (env : Nat → Option Ent) (s s1 : F) (p : List AVal × Nat), Gives (ownCs TT own key ts vs) s p s1 → Rel X env Z s a w → VRels env Z w vs cs →
    ∃ env1, Rel X env1 Z s1 a w ∧ VRels env1 Z w p.1 cs ∧ (∀ l f, env l = some f → env1 l = some f)
  | key, t :: ts, v :: vs, cs, env, s, s1, p, h, hR, hv => by
    obtain ⟨c, ds, rfl, hc, hds⟩ := hv.inv
    simp only [ownCs] at h
    obtain ⟨u, s2, h1, h2⟩ := h.bind
    obtain ⟨q, s3, h3, h4⟩ := h2.bind
    obtain ⟨rfl, rfl⟩ := h4.ret
    obtain ⟨env1, r1, r2, r3⟩ := ownC_sim h1 hR hc
    obtain ⟨env2, q1, q2, q3⟩ := ownCs_sim (key + 1) ts vs ds env1 s2 _ q h3 r1 ⟨hds.1, fun i v c p1 p2 => (hds.2 i v c p1 p2).moreEnv r3⟩
    exact ⟨env2, q1, .cons (r2.moreEnv q3) q2, fun l f hl => q3 l f (r3 l f hl)⟩
  | key, [], vs, cs, env, s, s1, p, h, hR, hv => by
    have h' : Gives (.ret (vs, key)) s p s1 := by cases vs <;> exact h
    obtain ⟨rfl, rfl⟩ := h'.ret
    exact ⟨env, hR, hv, fun _ _ h => h⟩
  | key, t :: ts, [], cs, env, s, s1, p, h, hR, hv => by
    have h' : Gives (.ret (([] : List AVal), key)) s p s1 := h
    obtain ⟨rfl, rfl⟩ := h'.ret
    exact ⟨env, hR, hv, fun _ _ h => h⟩

theorem ownV_sim {own : Bool} {key : Nat} {t : TypeId} {v : AVal} {c : Value} {p : AVal × Nat} (h : Gives (ownV TT own key t v) s p s1) (hR : Rel X env Z s a w) (hv : VRel env Z w v c) :
    ∃ env1, Rel X env1 Z s1 a w ∧ VRel env1 Z w p.1 c ∧ (∀ l f, env l = some f → env1 l = some f) := by
  unfold ownV at h
  split at h
  · obtain ⟨rfl, rfl⟩ := h.ret
    exact ⟨env, hR, hv, fun _ _ h => h⟩
  · split at h
    · rename_i l
      obtain ⟨q, s2, h1, h2⟩ := h.bind
      obtain ⟨rfl, rfl⟩ := h2.ret
      cases hv with
      | agg _ cs hl hh =>
        obtain ⟨env1, q1, q2, q3⟩ := ownCs_sim key _ l cs.toList env s _ q h1 hR ⟨by simpa using hl, fun i v c q1 q2 => hh i v c q1 (by simpa using q2)⟩
        exact ⟨env1, q1, .agg _ _ (by have := q2.1; simpa using this) fun i v c p1 p2 => q2.2 i v c p1 (by simpa using p2), q3⟩
    · split at h
      · obtain ⟨u, s2, h1, h2⟩ := h.bind
        obtain ⟨rfl, rfl⟩ := h2.ret
        exact ownC_sim h1 hR hv
      · obtain ⟨rfl, rfl⟩ := h.ret
        exact ⟨env, hR, hv, fun _ _ h => h⟩

theorem doOp_sim (hT : TOk P TT) {C : FuncId → List AVal → List Blk → Call} {ownF : FuncId → Bool} (hC : COk P X.GL C) (hF : ∀ f us bs r, (C f us bs).o = some r → FOk P f) {key0 : Nat} {o : Oper} {v : AVal}
    (h : Gives (doOp TT TU X.GL C ownF key0 o) s v s1) (hR : Rel X env Z s a w) : Out P (Holds X s1 a v) ((execOp a.eval o).run P w) := by
  unfold doOp at h
  unfold execOp
  split at h
  · -- move
    rename_i x hop
    rw [hop]
    obtain ⟨rfl, hv⟩ := evalO_sim h hR
    exact ⟨env, Z, hR, hv⟩
  · -- assign
    rename_i x hop
    rw [hop]
    split at h
    · split at h
      · rename_i ti ht
        split at h
        · rename_i e hde
          split at h
          · rename_i te hte
            split at h
            · exact h.fail
            · obtain ⟨hk, rfl, rfl⟩ := h.newBlk
              obtain ⟨env', q1, q2⟩ := hR.newEmpty hk (T := e) (E := te.size) none
              exact ⟨env', Z, q1, q2⟩
          · exact h.fail
        · exact h.fail
      · exact h.fail
    · obtain ⟨rfl, hv⟩ := evalO_sim h hR
      exact ⟨env, Z, hR, hv⟩
  · -- pick
    rename_i c x y hop
    rw [hop]
    split at h
    · rename_i tt
      have hb : ∀ b, s.tmp tt = .sc (.bool b) → a.eval (.tmp tt) = .bool b := fun b hb => by
        have hlt : tt < s.N := by
          rcases Nat.lt_or_ge tt s.N with h | h
          · exact h
          · rw [hR.tmpo tt h] at hb; cases hb
        have := hR.tmps tt hlt
        rw [hb] at this
        generalize hx : a.tmps.getD tt undef = xx at this
        cases this
        exact hx
      rcases h.br with ⟨h1, h2⟩ | ⟨h1, h2⟩ | ⟨_, h2⟩
      · obtain ⟨rfl, hv⟩ := evalO_sim h2 hR
        simp only [hb true h1, asBool, Sem.run_bind, Sem.run_pure, Result.andThen_ok, if_true]
        exact ⟨env, Z, hR, hv⟩
      · obtain ⟨rfl, hv⟩ := evalO_sim h2 hR
        simp only [hb false h1, asBool, Sem.run_bind, Sem.run_pure, Result.andThen_ok, Bool.false_eq_true, if_false]
        exact ⟨env, Z, hR, hv⟩
      · exact h2.fail
    · exact h.fail
  · -- alloc
    rename_i T hop
    rw [hop]
    split at h
    · rename_i ti ht
      split at h
      · rename_i hsz
        obtain ⟨i, z, hi, hs, hbs, hz0, hz1, hlf, hzl, hone⟩ := hT.info T ti ht
        cases hot : ownF (ownTag + T) with
        | false =>
          rw [hot] at h
          obtain ⟨hk, rfl, rfl⟩ := h.newBlk
          obtain ⟨q1, q2, _⟩ := zero_sim (env := env) (Z := Z) (w := w) hone
          rw [← hz1] at q1 q2
          obtain ⟨env', r1, r2⟩ := hR.newBox hk (T := T) (cells := z.cells.toList.map ofCell) (cs := z.cells) q1 q2
          refine out_value (u := .pointer (some ⟨w.heap.size, 0, none⟩)) (w' := w.alloc (.cells z.cells T)) (by simp only [Instr.alloc, Sem.run_bind, run_zeroValue' hi hz0, Result.andThen_ok, newVar, run_newRow, Sem.run_pure]) ⟨env', Z, ?_, r2⟩
          rw [hz1, List.length_map, ← hsz] at r1
          exact r1
        | true =>
          rw [hot] at h
          obtain ⟨p, s2, h1, h2⟩ := h.bind
          obtain ⟨hc, h3⟩ := h2.assert
          obtain ⟨hk, rfl, rfl⟩ := h3.newBlk
          simp only [Bool.and_eq_true] at hc
          have hlen := nbeq_eq hc.1
          obtain ⟨env1, hR1, hv1, _⟩ := ownCs_sim (key0 + 1) ti.leaf (ti.zero.map ofCell) z.cells.toList env _ s2 p h1 hR (zero_rels hz1 hone)
          obtain ⟨env', r1, r2⟩ := hR1.newBox hk (T := T) (cells := p.1) (cs := z.cells) hv1 hc.2
          refine out_value (u := .pointer (some ⟨w.heap.size, 0, none⟩)) (w' := w.alloc (.cells z.cells T)) (by simp only [Instr.alloc, Sem.run_bind, run_zeroValue' hi hz0, Result.andThen_ok, newVar, run_newRow, Sem.run_pure]) ⟨env', Z, ?_, r2⟩
          rw [hlen] at r1
          exact r1
      · exact h.fail
    · exact h.fail
  · -- box
    rename_i T x hop
    rw [hop]
    obtain ⟨u, s2, h1, h2⟩ := h.bind
    obtain ⟨rfl, hv⟩ := evalO_sim h1 hR
    cases hro : ownF (roTag + T) with
    | true =>
      rw [hro] at h2
      simp only [cond_true] at h2
      cases hcl : cellish u with
      | false => rw [hcl] at h2; exact h2.fail
      | true =>
        rw [hcl] at h2
        simp only [cond_true] at h2
        obtain ⟨cs, s3, h3, h4⟩ := h2.bind
        obtain ⟨hc, h5⟩ := h4.assert
        obtain ⟨rfl, rfl⟩ := h5.ret
        obtain ⟨Z1, fz, hcs⟩ := snaps_sim (cellsA u) cs _ s2 _ Z h3 hR (cellsA_sim hv hcl)
        have hR1 : Rel X env Z1 s1 a w := by simpa using fz.rel
        obtain ⟨Z', r1, r2⟩ := hR1.newRo (T := T) hcs hc
        exact out_value (u := .pointer (some ⟨w.heap.size, 0, none⟩)) (w' := w.alloc (.cells (a.eval x).cells T)) (by simp only [Instr.box, newVar, Sem.run_bind, run_newRow, Result.andThen_ok, Sem.run_pure]) ⟨env, Z', r1, r2⟩
    | false =>
    rw [hro] at h2
    simp only [cond_false] at h2
    obtain ⟨hc, h3⟩ := h2.assert
    obtain ⟨hk, rfl, rfl⟩ := h3.newBlk
    have hcl : cellish u = true := by
      cases u <;> first | rfl | (simp [cellsA] at hc; exact hc)
    have hcells := cellsA_sim hv hcl
    obtain ⟨env', r1, r2⟩ := hR.newBox hk (T := T) (cells := cellsA u) (cs := (a.eval x).cells) hcells hc
    exact out_value (u := .pointer (some ⟨w.heap.size, 0, none⟩)) (w' := w.alloc (.cells (a.eval x).cells T)) (by simp only [Instr.box, newVar, Sem.run_bind, run_newRow, Result.andThen_ok, Sem.run_pure]) ⟨env', Z, r1, r2⟩
  · -- build
    rename_i T parts hop
    rw [hop]
    obtain ⟨vs, s2, h1, h2⟩ := h.bind
    obtain ⟨rfl, hv⟩ := evalOs_sim h1 hR
    split at h2
    · rename_i ti ht
      split at h2
      · rename_i fs hd
        split at h2
        · exact h2.fail
        · rename_i hall
          split at h2
          · rename_i cells hf
            have hall' : ∀ f ∈ fs.toList, (TT f.type).isSome = true := by
              simp only [Bool.not_eq_true', Bool.not_eq_false, Array.all_eq_true_iff_forall_mem] at hall
              exact fun f hf => hall f (Array.mem_toList_iff.1 hf)
            obtain ⟨c, q1, q2⟩ := build_sim hT ht hd hall' hv hf
            cases hot : ownF (ownTag + T) with
            | false =>
              rw [hot] at h2
              obtain ⟨rfl, rfl⟩ := h2.ret
              exact out_value q1 ⟨env, Z, hR, q2⟩
            | true =>
              rw [hot] at h2
              obtain ⟨p, s3, h3, h4⟩ := h2.bind
              obtain ⟨rfl, rfl⟩ := h4.ret
              obtain ⟨env1, r1, r2, _⟩ := ownV_sim h3 hR q2
              exact out_value q1 ⟨env1, Z, r1, r2⟩
          · exact h2.fail
      · rename_i len e hd
        split at h2
        · rename_i te hte
          split at h2
          · rename_i cells hf
            obtain ⟨rfl, rfl⟩ := h2.ret
            obtain ⟨c, q1, q2⟩ := buildArr_sim hT ht hd hte hv hf
            exact out_value q1 ⟨env, Z, hR, q2⟩
          · exact h2.fail
        · exact h2.fail
      · exact h2.fail
    · exact h2.fail
  · -- buildSlice
    rename_i T len parts hop
    rw [hop]
    obtain ⟨vs, s2, h1, h2⟩ := h.bind
    obtain ⟨rfl, hv⟩ := evalOs_sim h1 hR
    split at h2
    · rename_i ti ht
      split at h2
      · rename_i e hd
        split at h2
        · rename_i te hte
          split at h2
          · exact h2.fail
          · rename_i hne
            split at h2
            · exact h2.fail
            · rename_i hmax
              split at h2
              · rename_i cells hf
                obtain ⟨c, w', env', Z', q1, q2, q3⟩ := buildSlice_sim hT ht hd hte hne hmax hv hf h2 hR
                exact out_value q1 ⟨env', Z', q2, q3⟩
              · exact h2.fail
        · exact h2.fail
      · exact h2.fail
    · exact h2.fail
  · -- load
    rename_i T x hop
    rw [hop]
    obtain ⟨u, s2, h1, h2⟩ := h.bind
    obtain ⟨rfl, hv⟩ := evalO_sim h1 hR
    cases hsn : ownF (snapTag + T) with
    | true =>
      rw [hsn] at h2
      simp only [cond_true] at h2
      obtain ⟨u', s3, h3, h4⟩ := h2.bind
      obtain ⟨rfl, c, q1, q2⟩ := loadOp_sim hT h3 hR hv
      obtain ⟨⟨Z', fz, hv'⟩, _⟩ := snapArg_sim h4 hR q2
      exact out_value q1 ⟨env, Z', by simpa using fz.rel, hv'⟩
    | false =>
    rw [hsn] at h2
    simp only [cond_false] at h2
    obtain ⟨rfl, c, q1, q2⟩ := loadOp_sim hT h2 hR hv
    exact out_value q1 ⟨env, Z, hR, q2⟩
  · -- store
    rename_i T x y hop
    rw [hop]
    obtain ⟨u, s2, h1, h2⟩ := h.bind
    obtain ⟨rfl, hv⟩ := evalO_sim h1 hR
    obtain ⟨u', s3, h3, h4⟩ := h2.bind
    obtain ⟨rfl, hv'⟩ := evalO_sim h3 hR
    split at h4
    · obtain ⟨w', env', Z', q1, q2, rfl⟩ := storeN_sim hT h4 hR hv hv'
      exact out_skip q1 ⟨env', Z', q2, .sc _⟩
    · obtain ⟨w', env', Z', q1, q2, rfl⟩ := storeA_sim hT h4 hR hv hv'
      exact out_skip q1 ⟨env', Z', q2, .sc _⟩
  · -- nilCheck
    rename_i x hop
    rw [hop]
    obtain ⟨u, s2, h1, h2⟩ := h.bind
    obtain ⟨rfl, hv⟩ := evalO_sim h1 hR
    split at h2
    · rename_i k n i j
      have h3 := h2.getK
      split at h3
      · rename_i b hb
        obtain ⟨hc, h4⟩ := h3.assert
        obtain ⟨rfl, rfl⟩ := h4.ret
        obtain ⟨e, he, _⟩ := hv.ref_ent
        obtain ⟨_, g, hg, hp⟩ := hv.inv_ref he (by rw [(hR.blk k b e hb he).hn]; exact (nbeq_eq hc).symm)
        dsimp only
        rw [hp]
        exact ⟨env, Z, hR, by rw [← hp]; exact hv⟩
      · exact h3.fail
    · obtain ⟨rfl, rfl⟩ := h2.ret
      dsimp only
      generalize hx : a.eval x = xx at hv
      cases hv with
      | rptr _ b o f hz hc hh => exact ⟨env, Z, hR, .rptr _ b o f hz hc hh⟩
    · exact h2.fail
  · -- binOp
    rename_i op T x y Ty hop
    rw [hop]
    split at h
    · obtain ⟨u, s2, h1, h2⟩ := h.bind
      obtain ⟨rfl, hv⟩ := evalO_sim h1 hR
      obtain ⟨rfl, c, q1, q2⟩ := nilA_sim hT (ox := x) (oy := .const (.slice none 0 0)) h2 hv
      exact out_value q1 ⟨env, Z, hR, q2⟩
    · obtain ⟨u, s2, h1, h2⟩ := h.bind
      obtain ⟨rfl, hv⟩ := evalO_sim h1 hR
      obtain ⟨rfl, c, q1, q2⟩ := nilA_sim hT (ox := x) (oy := .const (.slice none 0 0)) h2 hv
      exact out_value q1 ⟨env, Z, hR, q2⟩
    · obtain ⟨u, s2, h1, h2⟩ := h.bind
      obtain ⟨rfl, hv⟩ := evalO_sim h1 hR
      obtain ⟨u', s3, h3, h4⟩ := h2.bind
      obtain ⟨rfl, hv'⟩ := evalO_sim h3 hR
      obtain ⟨rfl, c, q1, q2⟩ := binOpA_sim hT (ox := x) (oy := y) h4 hv hv'
      exact out_value q1 ⟨env, Z, hR, q2⟩
  · -- a function's value
    rename_i f first caps hop
    rw [hop]
    split at h
    · rename_i he
      obtain ⟨vs, s2, h1, h2⟩ := h.bind
      obtain ⟨rfl, hv⟩ := evalOs_sim h1 hR
      obtain ⟨rfl, rfl⟩ := h2.ret
      have hf : first = #[] := by simpa using he
      subst hf
      exact out_value (u := .func (.func f) #[] (caps.map a.eval)) (w' := w) (by simp [Instr.makeFunc]) ⟨env, Z, hR, .clo f vs _ (by have := hv.1; simpa using this) fun i v c q1 q2 => hv.2 i v c q1 (by simpa using q2)⟩
    · exact h.fail
  · -- unOp
    rename_i op T x hop
    rw [hop]
    obtain ⟨u, s2, h1, h2⟩ := h.bind
    obtain ⟨rfl, hv⟩ := evalO_sim h1 hR
    obtain ⟨rfl, c, q1, q2⟩ := unOpA_sim (P := P) h2 hv
    exact out_value q1 ⟨env, Z, hR, q2⟩
  · -- convert
    rename_i S D x hop
    rw [hop]
    split at h
    · rename_i ts hts
      obtain ⟨u, s2, h1, h2⟩ := h.bind
      obtain ⟨rfl, hv⟩ := evalO_sim h1 hR
      obtain ⟨rfl, c, q1, q2⟩ := convA_sim hT (src := S) ⟨_, hT.desc _ _ hts⟩ h2 hv
      exact out_value q1 ⟨env, Z, hR, q2⟩
    · exact h.fail
  · -- makeSlice
    rename_i T l c hop
    rw [hop]
    obtain ⟨u, s2, h1, h2⟩ := h.bind
    obtain ⟨rfl, hv⟩ := evalO_sim h1 hR
    obtain ⟨u', s3, h3, h4⟩ := h2.bind
    obtain ⟨rfl, hv'⟩ := evalO_sim h3 hR
    obtain ⟨c, w', env', q1, q2, q3⟩ := makeSliceA_sim hT h4 hR hv hv'
    exact out_value q1 ⟨env', Z, q2, q3⟩
  · -- slice
    rename_i T x lo hi mx hop
    rw [hop]
    split at h
    · -- s[:0:0]
      rename_i m
      split at h
      · obtain ⟨u, s2, h1, h2⟩ := h.bind
        obtain ⟨rfl, hv⟩ := evalO_sim h1 hR
        split at h2
        · rename_i ti ht
          split at h2
          · rename_i e hd
            split at h2
            · rename_i te hte
              obtain ⟨p, s3, h3, h4⟩ := h2.bind
              obtain ⟨rfl, base, cap, hb, _⟩ := rowsOfA_sim h3 hR hv
              obtain ⟨rfl, rfl⟩ := h4.ret
              obtain ⟨ie, z, hie, _⟩ := hT.info e te hte
              have hdd := hT.desc _ _ ht
              rw [hd] at hdd
              have hsb : ∀ (y : Nat) (code : BoundsCode), (Instr.sliceBound (.int .i64 0) y code).run P w = .ok 0 w := fun y code => by
                simp only [Instr.sliceBound, asIntOf, Sem.run_bind, Sem.run_pure, Result.andThen_ok]
                rw [if_pos ⟨by omega, by omega⟩]
                rfl
              refine out_value (u := .slice base 0 0) (w' := w) ?_ ⟨env, Z, hR, .emp _⟩
              have hk : (Option.map a.eval (some (.const (.int .i64 0)))) = some (.int .i64 0) := rfl
              have hm : ∀ mm, (Option.map a.eval (some (.const mm))) = some mm := fun _ => rfl
              rw [hb]
              simp only [Option.map_none, hm, Instr.sliceAt, Sem.run_bind, run_underlying hdd, Result.andThen_ok, Instr.slice]
              simp only [Instr.sliceBounds, Sem.run_bind, hsb, Result.andThen_ok, Sem.run_pure, run_sizeOf' hie, if_true]
            · exact h2.fail
          · exact h2.fail
        · exact h2.fail
      · exact h.fail
    · obtain ⟨u, s2, h1, h2⟩ := h.bind
      obtain ⟨rfl, hv⟩ := evalO_sim h1 hR
      have opt : ∀ {x : Option Operand} {v : Option AVal} {s s1 : F}, Gives (evalOpt X.GL x) s v s1 → Rel X env Z s a w → s1 = s ∧ (∀ u, v = some u → ∃ c, x.map a.eval = some c ∧ VRel env Z w u c) ∧ (v = none → x.map a.eval = none) := by
        intro x v s s1 h hR
        unfold evalOpt at h
        split at h
        · obtain ⟨rfl, rfl⟩ := h.ret
          exact ⟨rfl, fun u hu => (by cases hu), fun _ => rfl⟩
        · obtain ⟨v', s2, h1, h2⟩ := h.bind
          obtain ⟨rfl, hv⟩ := evalO_sim h1 hR
          obtain ⟨rfl, rfl⟩ := h2.ret
          exact ⟨rfl, fun u hu => by simp only [Option.some.injEq] at hu; subst hu; exact ⟨_, rfl, hv⟩, fun h => by cases h⟩
      obtain ⟨l, s3, h3, h4⟩ := h2.bind
      obtain ⟨rfl, hl1, hl2⟩ := opt h3 hR
      obtain ⟨hh, s4, h5, h6⟩ := h4.bind
      obtain ⟨rfl, hh1, hh2⟩ := opt h5 hR
      split at h6
      · rename_i ti ht
        split at h6
        · rename_i e hd
          split at h6
          · rename_i te hte
            split at h6
            · obtain ⟨c, env', q1, q2, q3⟩ := sliceN_sim hT ht hd hte h6 hR hv hl1 hl2 hh1 hh2
              exact out_value q1 ⟨env', Z, q2, q3⟩
            · obtain ⟨rfl, c, q1, q2⟩ := sliceA_sim hT ht hd hte h6 hv hl1 hl2 hh1 hh2
              exact out_value q1 ⟨env, Z, hR, q2⟩
          · exact h6.fail
        · exact h6.fail
      · exact h6.fail
  · -- fieldAddr
    rename_i T x f hop
    rw [hop]
    obtain ⟨u, s2, h1, h2⟩ := h.bind
    obtain ⟨rfl, hv⟩ := evalO_sim h1 hR
    obtain ⟨rfl, c, q1, q2⟩ := fieldAddrA_sim hT h2 hR hv
    exact out_value q1 ⟨env, Z, hR, q2⟩
  · -- field
    rename_i T x f hop
    rw [hop]
    obtain ⟨u, s2, h1, h2⟩ := h.bind
    obtain ⟨rfl, hv⟩ := evalO_sim h1 hR
    obtain ⟨rfl, c, q1, q2⟩ := fieldA_sim hT h2 hv
    exact out_value q1 ⟨env, Z, hR, q2⟩
  · -- indexAddr
    rename_i T x i hop
    rw [hop]
    obtain ⟨u, s2, h1, h2⟩ := h.bind
    obtain ⟨rfl, hv⟩ := evalO_sim h1 hR
    obtain ⟨u', s3, h3, h4⟩ := h2.bind
    obtain ⟨rfl, hv'⟩ := evalO_sim h3 hR
    split at h4
    · generalize hxi : a.eval i = xi at hv'
      cases hv'
      obtain ⟨rfl, c, q1, q2⟩ := indexAddrA_sim hT h4 hR hv
      exact out_value (by rw [hxi]; exact q1) ⟨env, Z, hR, q2⟩
    · exact h4.fail
  · -- index
    rename_i T x i hop
    rw [hop]
    obtain ⟨u, s2, h1, h2⟩ := h.bind
    obtain ⟨rfl, hv⟩ := evalO_sim h1 hR
    obtain ⟨u', s3, h3, h4⟩ := h2.bind
    obtain ⟨rfl, hv'⟩ := evalO_sim h3 hR
    split at h4
    · generalize hxi : a.eval i = xi at hv'
      cases hv'
      obtain ⟨rfl, c, q1, q2⟩ := indexA_sim hT h4 hv
      exact out_value (by rw [hxi]; exact q1) ⟨env, Z, hR, q2⟩
    · exact h4.fail
  · -- extract
    rename_i x i hop
    rw [hop]
    obtain ⟨u, s2, h1, h2⟩ := h.bind
    obtain ⟨rfl, hv⟩ := evalO_sim h1 hR
    split at h2
    · split at h2
      · rename_i l _ v' hl
        obtain ⟨rfl, rfl⟩ := h2.ret
        generalize hx : a.eval x = xx at hv
        cases hv with
        | tup _ cs hlen hh =>
          have hlt : i < cs.size := by rw [← hlen]; exact (List.getElem?_eq_some_iff.1 hl).1
          refine out_value (u := cs[i]) (w' := w) ?_ ⟨env, Z, hR, hh i _ _ hl (by simp [hlt])⟩
          rw [hx]
          simp [Instr.extract, hlt]
      · exact h2.fail
    · exact h2.fail
  · -- a call
    rename_i c hop
    rw [hop]
    split at h
    · rename_i f hcal
      obtain ⟨vs, s2, h1, h2⟩ := h.bind
      obtain ⟨rfl, hv⟩ := evalOs_sim h1 hR
      have hv' : VRels env Z w vs (c.args.map a.eval).toList := by simpa using hv
      have hcall := callA_sim (P := P) hC h2 hR hv'
      have hok : FOk P f := callA_fok hF h2
      obtain ⟨fn, hfn, hname, hbody⟩ := hok
      have hrun : (do let d ← resolve a.eval c o.type; invoke d.target d.args : Sem Next).run P w = .ok (.enter f (c.args.map a.eval)) w := by
        simp only [resolve, hcal, Act.eval, Deferred.ofValue, Sem.run_bind, Sem.run_pure, Result.andThen_ok, invoke, callFunc, run_program, hfn, hname, hbody, Bool.false_eq_true, if_false, Array.append_empty, Array.empty_append]
      show Out P (Holds X s1 a v) ((do let d ← resolve a.eval c o.type; invoke d.target d.args : Sem Next).run P w)
      rw [hrun]
      exact hcall.mono fun e w' ⟨c, env', Z', he, q1, q2⟩ => ⟨c, he, env', Z', q1, q2⟩
    · rename_i tt hcal
      obtain ⟨g, s2, h1, h2⟩ := h.bind
      obtain ⟨rfl, hg⟩ := evalO_sim h1 hR
      split at h2
      · rename_i f l
        obtain ⟨vs, s3, h3, h4⟩ := h2.bind
        obtain ⟨rfl, hv⟩ := evalOs_sim h3 hR
        generalize hx : a.eval (.tmp tt) = fv at hg
        cases hg with
        | clo _ _ cs hl hh =>
          have hv' : VRels env Z w (vs ++ l) ((c.args.map a.eval) ++ cs).toList := by
            rw [Array.toList_append]
            exact VRels.append (by simpa using hv) ⟨by simpa using hl, fun i v c q1 q2 => hh i v c q1 (by simpa using q2)⟩
          have hcall := callA_sim (P := P) hC h4 hR hv'
          have hok : FOk P f := callA_fok hF h4
          obtain ⟨fn, hfn, hname, hbody⟩ := hok
          have hrun : (do let d ← resolve a.eval c o.type; invoke d.target d.args : Sem Next).run P w = .ok (.enter f (c.args.map a.eval ++ cs)) w := by
            simp only [resolve, hcal, hx, Deferred.ofValue, Sem.run_bind, Sem.run_pure, Result.andThen_ok, invoke, callFunc, run_program, hfn, hname, hbody, Bool.false_eq_true, if_false, Array.empty_append]
          show Out P (Holds X s1 a v) ((do let d ← resolve a.eval c o.type; invoke d.target d.args : Sem Next).run P w)
          rw [hrun]
          exact hcall.mono fun e w' ⟨c, env', Z', he, q1, q2⟩ => ⟨c, he, env', Z', q1, q2⟩
      · exact h2.fail
    · rename_i b hcal
      obtain ⟨vs, s2, h1, h2⟩ := h.bind
      obtain ⟨rfl, hv⟩ := evalOs_sim h1 hR
      unfold builtinA at h2
      have hres : ∀ (b : Builtin), c.callee = .builtin b → (do let d ← resolve a.eval c o.type; invoke d.target d.args : Sem Next) = builtin b c.argTypes o.type (c.args.map fun | .const _ => true | _ => false) (c.args.map a.eval) := by
        intro b hb
        unfold resolve
        rw [hb]
        rfl
      show Out P (Holds X s1 a v) ((do let d ← resolve a.eval c o.type; invoke d.target d.args : Sem Next).run P w)
      rw [hres _ hcal]
      have hargs : (c.args.map a.eval) = (c.args.toList.map a.eval).toArray := by apply Array.ext'; simp
      have hts : c.argTypes = c.argTypes.toList.toArray := rfl
      split at h2
      · rename_i t' v' ht
        obtain ⟨d, ds, hde, hd, hds⟩ := hv.inv
        have := hds.inv_nil
        subst this
        obtain ⟨rfl, u, q1, q2⟩ := lenA_sim hT (ty := o.type) h2 hR hd
        rw [hargs, hde, hts, ht]
        exact out_value q1 ⟨env, Z, hR, q2⟩
      · obtain ⟨rfl, u, q1, q2⟩ := maxA_sim (P := P) (ts := c.argTypes) (ty := o.type) h2 hv
        rw [hargs]
        exact out_value q1 ⟨env, Z, hR, q2⟩
      · obtain ⟨rfl, u, q1, q2⟩ := minA_sim (P := P) (ts := c.argTypes) (ty := o.type) h2 hv
        rw [hargs]
        exact out_value q1 ⟨env, Z, hR, q2⟩
      · rename_i t' u' sv xv ht
        split at h2
        · rename_i htu
          subst htu
          obtain ⟨d, ds, hde, hd, hds⟩ := hv.inv
          obtain ⟨d', ds', rfl, hd', hds'⟩ := hds.inv
          have := hds'.inv_nil
          subst this
          obtain ⟨u, w', env', q1, q2, q3⟩ := appendA_sim hT (ty := o.type) h2 hR hd hd'
          rw [hargs, hde, hts, ht]
          exact out_value q1 ⟨env', Z, q2, q3⟩
        · exact h2.fail
      · rename_i t' u' sv xv ht
        obtain ⟨d, ds, hde, hd, hds⟩ := hv.inv
        obtain ⟨d', ds', rfl, hd', hds'⟩ := hds.inv
        have := hds'.inv_nil
        subst this
        obtain ⟨u, w', env', q1, q2, q3⟩ := copyA_sim hT (t' := u') (ty := o.type) h2 hR hd hd'
        rw [hargs, hde, hts, ht]
        exact out_value q1 ⟨env', Z, q2, q3⟩
      · exact h2.fail
    · exact h.fail
  · exact h.fail
end

end Go.Proofs.YteiniiakpdijmaaDoor.AI
