/- What makes and writes memory. -/
import Derived.Test.YteiniiakpdijmaaDoorAI6
namespace Go.Proofs.YteiniiakpdijmaaDoor.AI
open Go.RowKit
set_option linter.unusedVariables false

section
variable {P : Program} {TT : TypeId → Option TI} {X : Ctx} {env : Nat → Option Ent} {Z : Nat → Prop} {s s1 : F} {a : Act} {w : World}

/-- Values and their cells, place by place. -/
def VRels (env : Nat → Option Ent) (Z : Nat → Prop) (w : World) (vs : List AVal) (cs : List Value) : Prop :=
  vs.length = cs.length ∧ ∀ (i : Nat) (v : AVal) (c : Value), vs[i]? = some v → cs[i]? = some c → VRel env Z w v c

theorem VRels.nil : VRels env Z w [] [] := ⟨rfl, fun i v c h => by simp at h⟩
theorem VRels.cons {v : AVal} {c : Value} {vs : List AVal} {cs : List Value} (h : VRel env Z w v c) (hs : VRels env Z w vs cs) : VRels env Z w (v :: vs) (c :: cs) := by
  refine ⟨by simp [hs.1], fun i u d hu hd => ?_⟩
  cases i with
  | zero =>
    simp only [List.getElem?_cons_zero, Option.some.injEq] at hu hd
    subst hu hd
    exact h
  | succ i =>
    simp only [List.getElem?_cons_succ] at hu hd
    exact hs.2 i u d hu hd
theorem VRels.inv {v : AVal} {vs : List AVal} {cs : List Value} (h : VRels env Z w (v :: vs) cs) : ∃ c ds, cs = c :: ds ∧ VRel env Z w v c ∧ VRels env Z w vs ds := by
  cases cs with
  | nil => have := h.1; simp at this
  | cons c ds =>
    refine ⟨c, ds, rfl, h.2 0 v c rfl rfl, by have := h.1; simpa using this, fun i u d hu hd => h.2 (i + 1) u d (by simpa using hu) (by simpa using hd)⟩
theorem VRels.inv_nil {cs : List Value} (h : VRels env Z w [] cs) : cs = [] := by
  cases cs with
  | nil => rfl
  | cons c ds => have := h.1; simp at this

theorem maxFrom_sim {k : IntKind} : ∀ (l : List AVal) (x : Int) (v : AVal) (cs : List Value), Gives (maxFrom k x l) s v s1 → VRels env Z w l cs →
    s1 = s ∧ ∃ u, (cs.foldlM Builtin.max2 (.int k x)).run P w = .ok u w ∧ VRel env Z w v u
  | [], x, v, cs, h, hl => by
    obtain rfl := hl.inv_nil
    obtain ⟨rfl, rfl⟩ := h.ret
    exact ⟨rfl, _, rfl, .sc _⟩
  | y :: l, x, v, cs, h, hl => by
    obtain ⟨c, ds, rfl, hc, hds⟩ := hl.inv
    unfold maxFrom at h
    split at h
    · rename_i heq; cases heq
    · rename_i k' b rest heq
      cases heq
      split at h
      · rename_i hk
        obtain rfl := kEq_eq hk
        cases hc
        obtain ⟨h1, u, h2, h3⟩ := maxFrom_sim l _ v ds h hds
        exact ⟨h1, u, by simp only [List.foldlM_cons, Builtin.max2, Sem.run_bind, Sem.run_pure, Result.andThen_ok]; exact h2, h3⟩
      · exact h.fail
    · exact h.fail

theorem minFrom_sim {k : IntKind} : ∀ (l : List AVal) (x : Int) (v : AVal) (cs : List Value), Gives (minFrom k x l) s v s1 → VRels env Z w l cs →
    s1 = s ∧ ∃ u, (cs.foldlM Builtin.min2 (.int k x)).run P w = .ok u w ∧ VRel env Z w v u
  | [], x, v, cs, h, hl => by
    obtain rfl := hl.inv_nil
    obtain ⟨rfl, rfl⟩ := h.ret
    exact ⟨rfl, _, rfl, .sc _⟩
  | y :: l, x, v, cs, h, hl => by
    obtain ⟨c, ds, rfl, hc, hds⟩ := hl.inv
    unfold minFrom at h
    split at h
    · rename_i heq; cases heq
    · rename_i k' b rest heq
      cases heq
      split at h
      · rename_i hk
        obtain rfl := kEq_eq hk
        cases hc
        obtain ⟨h1, u, h2, h3⟩ := minFrom_sim l _ v ds h hds
        exact ⟨h1, u, by simp only [List.foldlM_cons, Builtin.min2, Sem.run_bind, Sem.run_pure, Result.andThen_ok]; exact h2, h3⟩
      · exact h.fail
    · exact h.fail

theorem maxA_sim {l : List AVal} {v : AVal} {cs : List Value} {ts : Array TypeId} {ty : TypeId} (h : Gives (maxA l) s v s1) (hl : VRels env Z w l cs) :
    s1 = s ∧ ∃ u, (Builtin.max_ ts ty cs.toArray).run P w = .ok u w ∧ VRel env Z w v u := by
  unfold maxA at h
  split at h
  · obtain ⟨c, ds, rfl, hc, hds⟩ := hl.inv
    cases hc
    exact maxFrom_sim _ _ _ _ h hds
  · exact h.fail
theorem minA_sim {l : List AVal} {v : AVal} {cs : List Value} {ts : Array TypeId} {ty : TypeId} (h : Gives (minA l) s v s1) (hl : VRels env Z w l cs) :
    s1 = s ∧ ∃ u, (Builtin.min_ ts ty cs.toArray).run P w = .ok u w ∧ VRel env Z w v u := by
  unfold minA at h
  split at h
  · obtain ⟨c, ds, rfl, hc, hds⟩ := hl.inv
    cases hc
    exact minFrom_sim _ _ _ _ h hds
  · exact h.fail

theorem optInt_sim {x : Option AVal} {d n : Int} {c : Option Value} (h : Gives (optInt x d) s n s1) (hx : ∀ v, x = some v → ∃ u, c = some u ∧ VRel env Z w v u) (hn : x = none → c = none) :
    s1 = s ∧ ((x = none ∧ c = none ∧ n = d) ∨ ∃ k, c = some (.int k n)) := by
  unfold optInt at h
  split at h
  · obtain ⟨rfl, rfl⟩ := h.ret
    exact ⟨rfl, .inl ⟨rfl, hn rfl, rfl⟩⟩
  · obtain ⟨rfl, rfl⟩ := h.ret
    obtain ⟨u, rfl, hu⟩ := hx _ rfl
    cases hu
    exact ⟨rfl, .inr ⟨_, rfl⟩⟩
  · exact h.fail

theorem sliceA_sim (hT : TOk P TT) {t e : TypeId} {ti te : TI} {x v : AVal} {c : Value} {lo hi : Option AVal} {cl ch : Option Value} (ht : TT t = some ti) (hd : ti.desc = .slice e) (hte : TT e = some te)
    (h : Gives (sliceA te.size x lo hi) s v s1) (hx : VRel env Z w x c)
    (hlo : ∀ v, lo = some v → ∃ u, cl = some u ∧ VRel env Z w v u) (hlo' : lo = none → cl = none) (hhi : ∀ v, hi = some v → ∃ u, ch = some u ∧ VRel env Z w v u) (hhi' : hi = none → ch = none) :
    s1 = s ∧ ∃ u, (Instr.sliceAt t c cl ch none).run P w = .ok u w ∧ VRel env Z w v u := by
  unfold sliceA at h
  split at h
  · rename_i E rows
    obtain ⟨hh, s2, h1, h3⟩ := h.bind
    clear h
    obtain ⟨ll, s3, h2, h4⟩ := h3.bind
    clear h3
    obtain ⟨rfl, hH⟩ := optInt_sim h1 hhi hhi'
    obtain ⟨rfl, hL⟩ := optInt_sim h2 hlo hlo'
    obtain ⟨hc, h5⟩ := h4.assert
    obtain ⟨rfl, rfl⟩ := h5.ret
    simp only [Bool.and_eq_true, decide_eq_true_eq, Bool.or_eq_true] at hc
    obtain ⟨⟨⟨hc0, hc1⟩, hc2⟩, hc3⟩ := hc
    have hdd := hT.desc t ti ht
    rw [hd] at hdd
    obtain ⟨ie, z, hi', hsz, _⟩ := hT.info e te hte
    have main : ∀ base cap, c = .slice base rows.length cap → rows.length ≤ cap →
        (Instr.sliceAt t c cl ch none).run P w = .ok (.slice (if cap = ll.toNat then base else base.map (·.add (ll.toNat * te.size))) (hh.toNat - ll.toNat) (cap - ll.toNat)) w := by
      intro base cap hcv hcap
      subst hcv
      have sb : ∀ (k : IntKind) (n : Int) (y : Nat) (code : BoundsCode), 0 ≤ n → n ≤ (y : Int) → (Instr.sliceBound (.int k n) y code).run P w = .ok n.toNat w := by
        intro k n y code h1 h2
        simp only [Instr.sliceBound, asIntOf, Sem.run_bind, Sem.run_pure, Result.andThen_ok]
        rw [if_pos ⟨h1, h2⟩]
        rfl
      have b1 : hh ≤ (cap : Int) := by omega
      have b2 : ll ≤ ((hh.toNat : Nat) : Int) := by omega
      have b0 : 0 ≤ hh := by omega
      have b3 : ll ≤ (rows.length : Int) := by omega
      rcases hH with ⟨_, rfl, rfl⟩ | ⟨k, rfl⟩ <;> rcases hL with ⟨_, rfl, rfl⟩ | ⟨k', rfl⟩ <;>
        simp only [Instr.sliceAt, Sem.run_bind, run_underlying hdd, Result.andThen_ok, Instr.slice, Instr.sliceBounds, Sem.run_pure, sb _ _ _ _ hc0 b2, sb _ _ _ _ hc0 b3, sb _ _ _ _ b0 b1, run_sizeOf' hi', hsz, Int.toNat_natCast] <;> rfl
    have hlen : (List.drop ll.toNat (List.take hh.toNat rows)).length = hh.toNat - ll.toNat := by simp; omega
    cases hx with
    | roE _ ba cap =>
      refine ⟨rfl, _, main ba cap rfl (Nat.zero_le _), ?_⟩
      simp only [List.length_nil] at hc2
      have : hh.toNat - ll.toNat = 0 := by omega
      rw [this]
      simp only [List.take_nil, List.drop_nil]
      exact .roE _ _ _
    | ro _ _ b o cap f hcap hz hr hcc hv =>
      refine ⟨rfl, _, main _ cap rfl hcap, ?_⟩
      by_cases hem : hh.toNat - ll.toNat = 0
      · have : List.drop ll.toNat (List.take hh.toNat rows) = [] := List.eq_nil_of_length_eq_zero (by rw [hlen]; exact hem)
        rw [this, hem]
        exact .roE _ _ _
      · have hne : ¬ cap = ll.toNat := by omega
        have hE : E = te.size := by
          rcases hc3 with h | h
          · exact nbeq_eq h
          · simp only [List.isEmpty_iff] at h
            rw [h] at hc2; simp at hc2; omega
        rw [if_neg hne]
        simp only [Option.map_some, add_mk]
        rw [← hlen]
        have hget : ∀ i r, (List.drop ll.toNat (List.take hh.toNat rows))[i]? = some r → rows[ll.toNat + i]? = some r := by
          intro i r hi
          rw [List.getElem?_drop, List.getElem?_take] at hi
          split at hi
          · exact hi
          · cases hi
        refine .ro _ _ b (o + ll.toNat * te.size) _ (fun i j => f (ll.toNat + i) j) (by rw [hlen]; omega) hz (fun i r hi => hr _ r (hget i r hi)) (fun i j r v hi hj => ?_) fun i j r v hi hj => hv _ j r v (hget i r hi) hj
        obtain ⟨q1, q2, q3⟩ := hcc _ j r v (hget i r hi) hj
        refine ⟨q1, q2, ?_⟩
        rw [← q3, ← hE, Nat.add_mul]
        congr 2
        omega
  · exact h.fail
end

end Go.Proofs.YteiniiakpdijmaaDoor.AI
