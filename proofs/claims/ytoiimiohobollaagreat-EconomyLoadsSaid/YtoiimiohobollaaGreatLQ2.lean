/- The plain law EconomyLoads and what it needs: what both programs answer is told and compared, with no program in sight. -/
import Derived.Test.YtoiimiohobollaaGreatLQ1
namespace Go.Proofs.YtoiimiohobollaaGreat.AI
open Go.RowKit
set_option linter.unusedVariables false
set_option linter.unusedSimpArgs false
set_option maxRecDepth 20000
theorem rcP_row {ps : LL} {id o w : Int} (pa : ∀ k, k < ps.length → (0 ≤ cI (ps.getD k []) 2 ∧ cI (ps.getD k []) 2 ≤ 1000000) ∧ (0 ≤ cI (ps.getD k []) 3 ∧ cI (ps.getD k []) 3 ≤ 1000000)) (ho : 0 ≤ o ∧ o ≤ 1000000) (hw : 0 ≤ w ∧ w ≤ 1000000) (k : Nat) (hk : k < ps.length) :
    cI ((rcP ps id o w).getD k []) 0 = cI (ps.getD k []) 0 ∧ cR ((rcP ps id o w).getD k []) 4 = cR (ps.getD k []) 4 ∧ (0 ≤ cI ((rcP ps id o w).getD k []) 2 ∧ cI ((rcP ps id o w).getD k []) 2 ≤ 1000000) ∧ (0 ≤ cI ((rcP ps id o w).getD k []) 3 ∧ cI ((rcP ps id o w).getD k []) 3 ≤ 1000000) := by
  unfold rcP
  cases hf : ps.findIdx? (fun r => cI r 0 == id) with
  | none => exact ⟨rfl, rfl, pa k hk⟩
  | some j =>
    have hj := (fd_lt hf).1
    simp only
    rw [getD_set' hj]
    by_cases h : k = j
    · subst h
      rw [if_pos rfl]
      obtain ⟨p1, p2⟩ := pa k hk
      exact ⟨rfl, rfl, sumN'_in p1 ho, sumN'_in p2 hw⟩
    · rw [if_neg h]
      exact ⟨rfl, rfl, pa k hk⟩
theorem rcP_ty {ps : LL} (hp : TyPlayers ps) {id o w : Int} (pa : ∀ k, k < ps.length → (0 ≤ cI (ps.getD k []) 2 ∧ cI (ps.getD k []) 2 ≤ 1000000) ∧ (0 ≤ cI (ps.getD k []) 3 ∧ cI (ps.getD k []) 3 ≤ 1000000)) (ho : 0 ≤ o ∧ o ≤ 1000000) (hw : 0 ≤ w ∧ w ≤ 1000000) : TyPlayers (rcP ps id o w) := by
  unfold rcP
  cases hf : ps.findIdx? (fun r => cI r 0 == id) with
  | none => exact hp
  | some j =>
    have hj := (fd_lt hf).1
    obtain ⟨p1, p2⟩ := pa j hj
    exact players_set hp (ty_plRow (pl_row (us := ps) hp (okR_get (okPlayers hp) hj).2.2) (sumN'_in p1 ho) (sumN'_in p2 hw)) j
theorem cell_after {W H : Int} {Tc : LL} {x y m : Int} (hv : vmap W H Tc = true) (hi : ins W H Tc.length x y = true) (h1 : 1 ≤ m) (h2 : m ≤ cI (cel W Tc x y) 2) :
    vcell (bif (cI (cel W Tc x y) 2 - m == 0) then 1 else cI (cel W Tc x y) 0) (cI (cel W Tc x y) 1) (cI (cel W Tc x y) 2 - m) = true ∧ (cI (cel W Tc x y) 0 = 4 ∨ cI (cel W Tc x y) 0 = 5) ∧ (0 ≤ cI (cel W Tc x y) 2 ∧ cI (cel W Tc x y) 2 ≤ 1000000) := by
  have hr := vmap_cell hv hi
  unfold vrow vcell at hr
  rw [Bool.and_eq_true, decide_eq_true_eq] at hr
  obtain ⟨⟨k1, k2, k3, k4, k5, k6⟩, k7⟩ := hr
  have hpos : decide (cI (cel W Tc x y) 2 > 0) = true := by rw [decide_eq_true_eq]; omega
  rw [hpos] at k7
  have h45 : cI (cel W Tc x y) 0 = 4 ∨ cI (cel W Tc x y) 0 = 5 := by simpa using k7
  refine ⟨?_, h45, by omega⟩
  unfold vcell
  by_cases h0 : cI (cel W Tc x y) 2 - m = 0
  · have e0 : (cI (cel W Tc x y) 2 - m == 0) = true := by rw [h0]; rfl
    rw [e0, h0]
    simp only [cond_true]
    have : (1 ≤ (1 : Int) ∧ (1 : Int) ≤ 5 ∧ 0 ≤ cI (cel W Tc x y) 1 ∧ cI (cel W Tc x y) 1 ≤ 3 ∧ 0 ≤ (0 : Int) ∧ (0 : Int) ≤ 1000000) := by omega
    rw [decide_eq_true this]
    rfl
  · have e0 : (cI (cel W Tc x y) 2 - m == 0) = false := by simpa using h0
    rw [e0]
    simp only [cond_false]
    have : (1 ≤ cI (cel W Tc x y) 0 ∧ cI (cel W Tc x y) 0 ≤ 5 ∧ 0 ≤ cI (cel W Tc x y) 1 ∧ cI (cel W Tc x y) 1 ≤ 3 ∧ 0 ≤ cI (cel W Tc x y) 2 - m ∧ cI (cel W Tc x y) 2 - m ≤ 1000000) := by omega
    rw [decide_eq_true this]
    have hp : decide (cI (cel W Tc x y) 2 - m > 0) = true := by rw [decide_eq_true_eq]; omega
    rw [hp, Bool.true_and]
    rcases h45 with h | h <;> rw [h] <;> rfl
theorem wk_inv {us : LL} {W H : Int} {s : W3} (I : W28 us W H s) {i : Nat} (hi : i < s.2.1.length) : W28 us W H (wkV us W H s i) ∧ (wkV us W H s i).2.1.length = s.2.1.length ∧ (wkV us W H s i).2.2.length = s.2.2.length ∧ (wkV us W H s i).1.length = s.1.length := by
  have hrow := ent_row I.te (okR_get (okEnts I.te) hi).2.2
  obtain ⟨r1, r2, r3⟩ := row_en hrow
  obtain ⟨a1, a2, a3⟩ := I.am i hi
  have hcap := uV_load I.gu (cS (s.2.1.getD i []) 2)
  have ids' : ∀ (o w : Int) (os : LL) (j k : Nat), j < k → k < (s.2.1.set i (enRow (s.2.1.getD i []) o w os)).length → cI ((s.2.1.set i (enRow (s.2.1.getD i []) o w os)).getD j []) 0 < cI ((s.2.1.set i (enRow (s.2.1.getD i []) o w os)).getD k []) 0 := by
    intro o w os j k hjk hk
    rw [List.length_set] at hk
    have e : ∀ q, cI ((s.2.1.set i (enRow (s.2.1.getD i []) o w os)).getD q []) 0 = cI (s.2.1.getD q []) 0 := fun q => by
      rw [getD_set' hi]
      by_cases h : q = i
      · rw [if_pos h, h]; rfl
      · rw [if_neg h]
    rw [e, e]
    exact I.ids j k hjk hk
  have am' : ∀ (o w : Int) (os : LL), (0 ≤ o ∧ o ≤ 100000) → (0 ≤ w ∧ w ≤ 100000) → os.length ≤ 20 → ∀ k, k < (s.2.1.set i (enRow (s.2.1.getD i []) o w os)).length →
      (0 ≤ cI ((s.2.1.set i (enRow (s.2.1.getD i []) o w os)).getD k []) 8 ∧ cI ((s.2.1.set i (enRow (s.2.1.getD i []) o w os)).getD k []) 8 ≤ 100000) ∧ (0 ≤ cI ((s.2.1.set i (enRow (s.2.1.getD i []) o w os)).getD k []) 9 ∧ cI ((s.2.1.set i (enRow (s.2.1.getD i []) o w os)).getD k []) 9 ≤ 100000) ∧ (cR ((s.2.1.set i (enRow (s.2.1.getD i []) o w os)).getD k []) 10).length ≤ 20 := by
    intro o w os ho hw hos k hk
    rw [List.length_set] at hk
    rw [getD_set' hi]
    by_cases h : k = i
    · rw [if_pos h]; exact ⟨ho, hw, hos⟩
    · rw [if_neg h]; exact I.am k hk
  rcases wk_cases I hi rfl with e | ⟨x, y, m, o, w, g, hins, m1, m2, hle, hk, e⟩ | ⟨g, e⟩ | ⟨g, e⟩
  · rw [e]; exact ⟨I, rfl, rfl, rfl⟩
  · rw [e]
    obtain ⟨vc, _, va⟩ := cell_after I.vm hins m1 m2
    obtain ⟨g1, g2, g3⟩ := vcell_rng vc
    have ho : 0 ≤ o ∧ o ≤ 100000 := by rcases hk with ⟨_, h1, h2⟩ | ⟨_, h1, h2⟩ <;> omega
    have hw : 0 ≤ w ∧ w ≤ 100000 := by rcases hk with ⟨_, h1, h2⟩ | ⟨_, h1, h2⟩ <;> omega
    exact ⟨⟨I.gu, I.tp, ents_set I.te (ty_enRow hrow (by omega) (by omega) r2) i, cells_set I.tc g1 g2 g3 _, wth_vmap I.vm vc, by simp only [List.length_set]; exact I.sm, by rw [wth_len]; exact I.sn, ids' _ _ _, am' _ _ _ ho hw a3, I.pa⟩,
      by simp, wth_len _ _ _ _ _ _ _, rfl⟩
  · rw [e]
    have ho : 0 ≤ cI (s.2.1.getD i []) 8 ∧ cI (s.2.1.getD i []) 8 ≤ 1000000 := by omega
    have hw : 0 ≤ cI (s.2.1.getD i []) 9 ∧ cI (s.2.1.getD i []) 9 ≤ 1000000 := by omega
    exact ⟨⟨I.gu, rcP_ty I.tp I.pa ho hw, ents_set I.te (ty_enRow hrow (by omega) (by omega) r2) i, I.tc, I.vm, by simp only [List.length_set]; exact I.sm, I.sn, ids' _ _ _, am' _ _ _ (by omega) (by omega) a3, fun k hk => (rcP_row I.pa ho hw k (by rw [rcP_len] at hk; exact hk)).2.2⟩,
      by simp, rfl, rcP_len _ _ _ _⟩
  · rw [e]
    exact ⟨⟨I.gu, I.tp, ents_set I.te (ty_enRow hrow (by omega) (by omega) (drop1_ty r2)) i, I.tc, I.vm, by simp only [List.length_set]; exact I.sm, I.sn, ids' _ _ _, am' _ _ _ a1 a2 (by rw [List.length_drop]; omega), I.pa⟩,
      by simp, rfl, rfl⟩
def phV (us : LL) (W H : Int) (n : Nat) (s : W3) : W3 := iter (fun k s => (.inl (wkV us W H s k) : W3 ⊕ W3)) id n 0 s
theorem ph_inv {us : LL} {W H : Int} {n : Nat} (P : W3 → Prop) (hP : ∀ s k, k < n → P s → P (wkV us W H s k)) {s : W3} (h : P s) : P (phV us W H n s) :=
  iter_inv P n (fun _ s => P s) (fun k s s' hk hI he => by
    simp only [Sum.inl.injEq] at he
    subst he
    exact hP s k hk hI) (fun k s t hk hI he => by cases he) (fun s h => h) n 0 s (by omega) h
section
variable (T0 T1 T2 : Int) (T3 : Bool) (T4 : Int) (us ws ts : LL) (T5 T6 : Int) (Tc ps es Ts Tm Tq : LL)
theorem phase_g (h1 : TyUnits us) (I : W28 us T5 T6 (ps, es, Tc)) : F_economy_Phase T0 T1 T2 T3 T4 us ws ts T5 T6 Tc ps es Ts Tm Tq =
    some (T0, T1, T2, T3, T4, us, ws, ts, T5, T6, (phV us T5 T6 es.length (ps, es, Tc)).2.2, (phV us T5 T6 es.length (ps, es, Tc)).1, (phV us T5 T6 es.length (ps, es, Tc)).2.1, Ts, Tm, Tq) := by
  have hsm : es.length ≤ 24 := I.sm
  have key := run_loop (fun m (s : W3) x => (G_economy_Phase_0 es.length T0 T1 T2 T3 T4 us ws ts Ts Tm Tq m s.1 s.2.1 x T5 T6 s.2.2)) (fun k s => .inl (wkV us T5 T6 s k)) (fun s => (s.1, s.2.1, T5, T6, s.2.2)) es.length (fun _ s => W28 us T5 T6 s ∧ s.2.1.length = es.length)
    (fun m k s hk hI => by
      obtain ⟨a, b⟩ := hI
      have d1 : (k : Int) < es.length := by omega
      have hw := work_g T0 T1 T2 T3 T4 us ws ts T5 T6 s.2.2 s.1 s.2.1 Ts Tm Tq h1 a (i := k) (by omega)
      simp only [G_economy_Phase_0, d1, decide_true, cond_true, hw, Option.bind_some, wr_next hk (by omega)])
    (fun k s s' hk hI he => by
      simp only [Sum.inl.injEq] at he
      subst he
      obtain ⟨a, b⟩ := hI
      obtain ⟨a', b', _⟩ := wk_inv a (i := k) (by omega)
      exact ⟨a', by omega⟩)
    (fun m s _ => by
      have d1 : ¬ (es.length : Int) < es.length := by omega
      simp only [G_economy_Phase_0, d1, decide_false, cond_false]) es.length FU 0 (ps, es, Tc) (by omega) (by unfold FU; omega) ⟨I, rfl⟩
  have hv : ∀ r k (s : W3), iter (fun k s => (.inl (wkV us T5 T6 s k) : W3 ⊕ (LL × LL × Int × Int × LL))) (fun s => (s.1, s.2.1, T5, T6, s.2.2)) r k s =
      ((iter (fun k s => (.inl (wkV us T5 T6 s k) : W3 ⊕ W3)) id r k s).1, (iter (fun k s => (.inl (wkV us T5 T6 s k) : W3 ⊕ W3)) id r k s).2.1, T5, T6, (iter (fun k s => (.inl (wkV us T5 T6 s k) : W3 ⊕ W3)) id r k s).2.2) := by
    intro r
    induction r with
    | zero => intro k s; rfl
    | succ r ih => intro k s; exact ih (k + 1) _
  have key' : G_economy_Phase_0 es.length T0 T1 T2 T3 T4 us ws ts Ts Tm Tq FU ps es 0 T5 T6 Tc = _ := key.trans (congrArg some (hv _ _ _))
  simp only [F_economy_Phase, F_economy_clone, clone_p I.tp, clone_e I.te, Option.bind_some, Int.ofNat_eq_natCast, key']
  rfl
theorem w28_of (h1 : TyUnits us) (h2 : TyWeapons ws) (h3 : TyTechs ts) (hp : TyPlayers ps) (hc : TyCells Tc) (he : TyEnts es) (S : Sm28 T1 us ws ts T5 T6 Tc ps es Ts Tm Tq) : W28 us T5 T6 (ps, es, Tc) := by
  obtain ⟨b1, e1, l1⟩ := huge10 h1 h2 h3
  have hb : b1 = false := by
    have := S.hu
    rw [e1] at this
    simpa using this
  obtain ⟨m1, m2, m3⟩ := l1 hb
  obtain ⟨v, ev, hv⟩ := validate_s us ws ts h1 h2 h3 m1 m2 m3
  have hz : v = 0 := by
    have := S.va
    rw [ev] at this
    simpa using this
  have asc : ∀ k, k < es.length → ∀ j, j < k → cI (es.getD j []) 0 < cI (es.getD k []) 0 := by
    intro k
    induction k with
    | zero => intro _ j hj; omega
    | succ k ih =>
      intro hk j hj
      have h0 := (S.fm (k + 1) hk).1
      have e : prevId es (k + 1) = cI (es.getD k []) 0 := rfl
      rw [e] at h0
      by_cases hjk : j = k
      · rw [hjk]; exact h0
      · exact Int.lt_trans (ih (by omega) j (by omega)) h0
  refine ⟨(hv hz).2.1, hp, he, hc, S.vm, S.n2, S.n1, fun j k hjk hk => asc k hk j hjk, fun k hk => ?_, fun k hk => ⟨(S.sd k hk).2.2.1, (S.sd k hk).2.2.2⟩⟩
  have hnm := (S.fm k hk).2.2
  unfold nmR at hnm
  rw [nm_iff] at hnm
  exact ⟨hnm.2.2.2.2.1, hnm.2.2.2.2.2.1, (S.oj k hk).1⟩
end
theorem wk_cols {us : LL} {W H : Int} {s : W3} (I : W28 us W H s) {i : Nat} (hi : i < s.2.1.length) :
    (∀ k, k < s.1.length → cI ((wkV us W H s i).1.getD k []) 0 = cI (s.1.getD k []) 0 ∧ cR ((wkV us W H s i).1.getD k []) 4 = cR (s.1.getD k []) 4) ∧
    (∀ k, (cI ((wkV us W H s i).2.1.getD k []) 0 = cI (s.2.1.getD k []) 0 ∧ cI ((wkV us W H s i).2.1.getD k []) 1 = cI (s.2.1.getD k []) 1 ∧ cS ((wkV us W H s i).2.1.getD k []) 2 = cS (s.2.1.getD k []) 2 ∧
      cI ((wkV us W H s i).2.1.getD k []) 3 = cI (s.2.1.getD k []) 3 ∧ cI ((wkV us W H s i).2.1.getD k []) 4 = cI (s.2.1.getD k []) 4 ∧ cI ((wkV us W H s i).2.1.getD k []) 5 = cI (s.2.1.getD k []) 5 ∧
      cI ((wkV us W H s i).2.1.getD k []) 6 = cI (s.2.1.getD k []) 6 ∧ cI ((wkV us W H s i).2.1.getD k []) 7 = cI (s.2.1.getD k []) 7 ∧ cR ((wkV us W H s i).2.1.getD k []) 11 = cR (s.2.1.getD k []) 11)) := by
  obtain ⟨a1, a2, a3⟩ := I.am i hi
  have hset : ∀ (o w : Int) (os : LL) (k : Nat), (cI ((s.2.1.set i (enRow (s.2.1.getD i []) o w os)).getD k []) 0 = cI (s.2.1.getD k []) 0 ∧ cI ((s.2.1.set i (enRow (s.2.1.getD i []) o w os)).getD k []) 1 = cI (s.2.1.getD k []) 1 ∧ cS ((s.2.1.set i (enRow (s.2.1.getD i []) o w os)).getD k []) 2 = cS (s.2.1.getD k []) 2 ∧
      cI ((s.2.1.set i (enRow (s.2.1.getD i []) o w os)).getD k []) 3 = cI (s.2.1.getD k []) 3 ∧ cI ((s.2.1.set i (enRow (s.2.1.getD i []) o w os)).getD k []) 4 = cI (s.2.1.getD k []) 4 ∧ cI ((s.2.1.set i (enRow (s.2.1.getD i []) o w os)).getD k []) 5 = cI (s.2.1.getD k []) 5 ∧
      cI ((s.2.1.set i (enRow (s.2.1.getD i []) o w os)).getD k []) 6 = cI (s.2.1.getD k []) 6 ∧ cI ((s.2.1.set i (enRow (s.2.1.getD i []) o w os)).getD k []) 7 = cI (s.2.1.getD k []) 7 ∧ cR ((s.2.1.set i (enRow (s.2.1.getD i []) o w os)).getD k []) 11 = cR (s.2.1.getD k []) 11) := by
    intro o w os k
    rw [getD_set' hi]
    by_cases h : k = i
    · rw [if_pos h, h]; exact ⟨rfl, rfl, rfl, rfl, rfl, rfl, rfl, rfl, rfl⟩
    · rw [if_neg h]; exact ⟨rfl, rfl, rfl, rfl, rfl, rfl, rfl, rfl, rfl⟩
  rcases wk_cases I hi rfl with e | ⟨x, y, m, o, w, g, hins, m1, m2, hle, hk, e⟩ | ⟨g, e⟩ | ⟨g, e⟩
  · rw [e]; exact ⟨fun k hk => ⟨rfl, rfl⟩, fun k => ⟨rfl, rfl, rfl, rfl, rfl, rfl, rfl, rfl, rfl⟩⟩
  · rw [e]; exact ⟨fun k hk => ⟨rfl, rfl⟩, hset _ _ _⟩
  · rw [e]
    exact ⟨fun k hk => let h := rcP_row I.pa (id := cI (s.2.1.getD i []) 1) (o := cI (s.2.1.getD i []) 8) (w := cI (s.2.1.getD i []) 9) (by omega) (by omega) k hk; ⟨h.1, h.2.1⟩, hset _ _ _⟩
  · rw [e]; exact ⟨fun k hk => ⟨rfl, rfl⟩, hset _ _ _⟩
section
variable (T0 T1 T2 : Int) (T3 : Bool) (T4 : Int) (us ws ts : LL) (T5 T6 : Int) (Tc ps es Ts Tm Tq : LL)
end
theorem filterMap_idx {f : List AVal → Option (List AVal)} {l l' : LL} (hl : l'.length = l.length) (h : ∀ k, k < l.length → f (l'.getD k []) = f (l.getD k [])) : l'.filterMap f = l.filterMap f := by
  have e : ∀ l : LL, l.filterMap f = (l.map f).filterMap id := fun l => by simp [List.filterMap_map]
  rw [e, e]
  congr 1
  apply List.ext_getElem?
  intro k
  rw [List.getElem?_map, List.getElem?_map]
  by_cases hk : k < l.length
  · have := h k hk
    rw [List.getElem?_eq_getElem hk, List.getElem?_eq_getElem (show k < l'.length by omega)]
    simp only [Option.map_some]
    simpa [List.getD, hk, show k < l'.length by omega] using this
  · rw [List.getElem?_eq_none (by omega), List.getElem?_eq_none (by omega)]
theorem wk_rest {us : LL} {W H : Int} {s : W3} (I : W28 us W H s) {i : Nat} (hi : i < s.2.1.length) (k : Nat) :
    ((∀ q ∈ cR ((wkV us W H s i).2.1.getD k []) 10, q ∈ cR (s.2.1.getD k []) 10) ∧ (cR ((wkV us W H s i).2.1.getD k []) 10).length ≤ (cR (s.2.1.getD k []) 10).length) ∧
    ((wkV us W H s i).2.1.getD k [] = s.2.1.getD k [] ∨ isG us (s.2.1.getD k []) = true ∧ (cI ((wkV us W H s i).2.1.getD k []) 8 + cI ((wkV us W H s i).2.1.getD k []) 9 ≤ (uV us (cS (s.2.1.getD k []) 2)).2.2.2.2.2.2.2.2.2.2.2.1 ∨
      cI ((wkV us W H s i).2.1.getD k []) 8 + cI ((wkV us W H s i).2.1.getD k []) 9 = cI (s.2.1.getD k []) 8 + cI (s.2.1.getD k []) 9)) := by
  have hcap := uV_load I.gu (cS (s.2.1.getD i []) 2)
  rcases wk_cases I hi rfl with e | ⟨x, y, m, o, w, g, hins, m1, m2, hle, hk, e⟩ | ⟨g, e⟩ | ⟨g, e⟩
  · rw [e]; exact ⟨⟨fun q hq => hq, Nat.le_refl _⟩, .inl rfl⟩
  · rw [e]
    simp only
    rw [getD_set' hi]
    by_cases h : k = i
    · rw [if_pos h, h]
      exact ⟨⟨fun q hq => hq, Nat.le_refl _⟩, .inr ⟨g, .inl hle⟩⟩
    · rw [if_neg h]; exact ⟨⟨fun q hq => hq, Nat.le_refl _⟩, .inl rfl⟩
  · rw [e]
    simp only
    rw [getD_set' hi]
    by_cases h : k = i
    · rw [if_pos h, h]
      exact ⟨⟨fun q hq => hq, Nat.le_refl _⟩, .inr ⟨g, .inl (by show (0 : Int) + 0 ≤ _; omega)⟩⟩
    · rw [if_neg h]; exact ⟨⟨fun q hq => hq, Nat.le_refl _⟩, .inl rfl⟩
  · rw [e]
    simp only
    rw [getD_set' hi]
    by_cases h : k = i
    · rw [if_pos h, h]
      exact ⟨⟨fun q hq => List.mem_of_mem_drop hq, by show ((cR (s.2.1.getD i []) 10).drop 1).length ≤ _; rw [List.length_drop]; omega⟩, .inr ⟨g, .inr rfl⟩⟩
    · rw [if_neg h]; exact ⟨⟨fun q hq => hq, Nat.le_refl _⟩, .inl rfl⟩
theorem wk_cells {us : LL} {W H : Int} {s : W3} (I : W28 us W H s) {i : Nat} (hi : i < s.2.1.length) :
    (∀ k, cI ((wkV us W H s i).2.2.getD k []) 2 ≤ cI (s.2.2.getD k []) 2) ∧ ∀ cls u v, pas W H s.2.2 cls u v = true → pas W H (wkV us W H s i).2.2 cls u v = true := by
  rcases wk_cases I hi rfl with e | ⟨x, y, m, o, w, g, hins, m1, m2, hle, hk, e⟩ | ⟨g, e⟩ | ⟨g, e⟩
  · rw [e]; exact ⟨fun k => Int.le_refl _, fun _ _ _ h => h⟩
  · rw [e]
    simp only
    obtain ⟨e1, e2, e3, e4⟩ := ins_idx hins
    obtain ⟨vc, h45, va⟩ := cell_after I.vm hins m1 m2
    refine ⟨fun k => ?_, fun cls u v h => ?_⟩
    · unfold wth
      rw [getD_set' e3]
      by_cases h : k = (y * W + x).toNat
      · rw [if_pos h, h]
        show cI (cel W s.2.2 x y) 2 - m ≤ cI (cel W s.2.2 x y) 2
        omega
      · rw [if_neg h]; exact Int.le_refl _
    · unfold pas at h ⊢
      rw [Bool.and_eq_true] at h ⊢
      have hin : ins W H s.2.2.length u v = true := by
        have h1 := h.1
        unfold gt at h1
        cases hh : ins W H s.2.2.length u v with
        | true => rfl
        | false => rw [hh] at h1; cases h1
      have hin' : ins W H (wth W s.2.2 x y (bif (cI (cel W s.2.2 x y) 2 - m == 0) then 1 else cI (cel W s.2.2 x y) 0) (cI (cel W s.2.2 x y) 1) (cI (cel W s.2.2 x y) 2 - m)).length u v = true := by rw [wth_len]; exact hin
      have h2 := h.2
      rw [gt_ins hin] at h2
      rw [gt_ins hin']
      refine ⟨rfl, ?_⟩
      simp only at h2 ⊢
      by_cases huv : x = u ∧ y = v
      · obtain ⟨rfl, rfl⟩ := huv
        rw [wth_cel _ _ _ hins]
        show pk cls (bif (cI (cel W s.2.2 x y) 2 - m == 0) then 1 else cI (cel W s.2.2 x y) 0) = true
        cases (cI (cel W s.2.2 x y) 2 - m == 0) with
        | false => exact h2
        | true =>
          simp only [cond_true]
          unfold pk at h2 ⊢
          rcases h45 with h4 | h5
          · rw [h4] at h2
            cases c3 : cls == 3 with
            | true => rfl
            | false =>
              rw [c3] at h2
              simp at h2
          · rw [h5] at h2
            cases c3 : cls == 3 with
            | true => rfl
            | false =>
              rw [c3] at h2
              cases c1 : cls == 1 with
              | true => rfl
              | false =>
                rw [c1] at h2
                cases c2 : cls == 2 with
                | true => rfl
                | false => rw [c2] at h2; cases h2
      · rw [wth_other _ _ _ hins hin huv]
        exact h2
  · rw [e]; exact ⟨fun k => Int.le_refl _, fun _ _ _ h => h⟩
  · rw [e]; exact ⟨fun k => Int.le_refl _, fun _ _ _ h => h⟩
theorem prev_same {es es' : LL} (h : ∀ k, cI (es'.getD k []) 0 = cI (es.getD k []) 0) : ∀ k, prevId es' k = prevId es k
  | 0 => rfl
  | k + 1 => h k
theorem sm_step {T1 : Int} {us ws ts : LL} {W H : Int} {s : W3} {Ts Tm Tq : LL} (S : Sm28 T1 us ws ts W H s.2.2 s.1 s.2.1 Ts Tm Tq) (I : W28 us W H s) {i : Nat} (hi : i < s.2.1.length) :
    Sm28 T1 us ws ts W H (wkV us W H s i).2.2 (wkV us W H s i).1 (wkV us W H s i).2.1 Ts Tm Tq := by
  obtain ⟨J, l1, l2, l3⟩ := wk_inv I hi
  obtain ⟨x1, x2⟩ := wk_cols I hi
  have x3 := wk_rest I hi
  obtain ⟨x4, x5⟩ := wk_cells I hi
  have hid : ∀ k, cI ((wkV us W H s i).2.1.getD k []) 0 = cI (s.2.1.getD k []) 0 := fun k => (x2 k).1
  have hps : ∀ k, k < s.1.length → cI ((wkV us W H s i).1.getD k []) 0 = cI (s.1.getD k []) 0 := fun k hk => (x1 k hk).1
  have hprev : ∀ k, k < s.1.length → prevId (wkV us W H s i).1 k = prevId s.1 k := fun k hk => by
    cases k with
    | zero => rfl
    | succ k => exact hps k (by omega)
  have hpl : ∀ bl id x y rx ry rw' rh cl, anyO (plP bl us (wkV us W H s i).2.1 id x y rx ry rw' rh cl) (wkV us W H s i).2.1.length = anyO (plP bl us s.2.1 id x y rx ry rw' rh cl) s.2.1.length := fun bl id x y rx ry rw' rh cl => by
    rw [l1]
    refine anyO_congr fun k hk => ?_
    obtain ⟨c0, c1, c2, c3, c4, _⟩ := x2 k
    unfold plP
    simp only [c0, c2, c3, c4]
  refine ⟨by rw [l2]; exact S.n1, by rw [l1]; exact S.n2, by rw [l3]; exact S.n3, S.n4, S.n5, S.n6, S.hu, fun k hk => ?_, fun k hk => ?_, S.va, J.vm, S.nx, fun k hk => ?_, fun k hk => ?_, fun k hk => ?_, fun k hk => ?_, ?_, fun k hk => ?_⟩
  · rw [l3] at hk
    rw [(x1 k hk).2]
    exact S.te k hk
  · rw [l1] at hk
    obtain ⟨o1, o2⟩ := S.oj k hk
    exact ⟨Nat.le_trans (x3 k).1.2 o1, by rw [(x2 k).2.2.2.2.2.2.2.2]; exact o2⟩
  · have hk' := hk
    rw [l1] at hk
    obtain ⟨f1, f2, f3⟩ := S.fm k hk
    obtain ⟨c0, c1, c2, c3, c4, c5, c6, c7, c11⟩ := x2 k
    rw [prev_same hid, c0]
    refine ⟨f1, f2, ?_⟩
    unfold nmR at f3 ⊢
    rw [nm_iff] at f3 ⊢
    obtain ⟨g1, g2, g3, g4, g5, g6, g7, g8, g9, g10⟩ := f3
    obtain ⟨a1, a2, a3⟩ := J.am k hk'
    have hrow := (row_en (ent_row J.te (okR_get (okEnts J.te) hk').2.2)).2.1
    have hrow0 := (row_en (ent_row I.te (okR_get (okEnts I.te) hk).2.2)).2.1
    rw [c3, c4, c5, c6, c7, c11]
    refine ⟨g1, g2, g3, g4, a1, a2, Nat.le_trans (x3 k).1.2 g7, g8, ?_, g10⟩
    rw [n0_iff (okOrders hrow) (ty_rows hrow).1]
    rw [n0_iff (okOrders hrow0) (ty_rows hrow0).1] at g9
    exact fun q hq => g9 q ((x3 k).1.1 q hq)
  · rw [l1] at hk
    obtain ⟨c0, c1, c2, c3, c4, c5, c6, c7, c11⟩ := x2 k
    have h := S.nd k hk
    unfold ndV at h ⊢
    rw [c1, c2, c11, l3]
    have e : anyO (fun q => some (isP (cI (s.2.1.getD k []) 1) ((wkV us W H s i).1.getD q []))) s.1.length = anyO (fun q => some (isP (cI (s.2.1.getD k []) 1) (s.1.getD q []))) s.1.length :=
      anyO_congr fun q hq => by unfold isP; rw [hps q hq]
    rw [e]
    exact h
  · rw [l1] at hk
    obtain ⟨c0, c1, c2, c3, c4, c5, c6, c7, c11⟩ := x2 k
    have h := S.pc k hk
    unfold pcV at h ⊢
    simp only [c0, c2, c3, c4, hpl] at h ⊢
    cases ht : (rcV us (cS (s.2.1.getD k []) 2) (cI (s.2.1.getD k []) 3) (cI (s.2.1.getD k []) 4)).2.2.2.2 with
    | true =>
      rw [ht] at h
      exact h
    | false =>
      rw [ht] at h
      simp only [cond_false] at h ⊢
      rw [guard_iff] at h ⊢
      refine ⟨?_, h.2⟩
      have := h.1
      simp only [Bool.not_eq_false'] at this ⊢
      exact x5 _ _ _ this
  · have hk' := hk
    rw [l1] at hk
    obtain ⟨c0, c1, c2, c3, c4, c5, c6, c7, c11⟩ := x2 k
    have h := S.pr k hk
    rcases (x3 k).2 with e | ⟨g, hs⟩
    · rw [e]; exact h
    · obtain ⟨a1, a2, a3⟩ := J.am k hk'
      obtain ⟨b1, b2, b3⟩ := I.am k hk
      have hb : (uV us (cS (s.2.1.getD k []) 2)).2.1 = false := by
        unfold isG at g
        simp only [Bool.and_eq_true, Bool.not_eq_true'] at g
        exact g.2.2.2.1
      unfold prV at h ⊢
      rw [c2, c7, c11]
      simp only [hb, cond_false, Bool.and_eq_true, decide_eq_true_eq] at h ⊢
      obtain ⟨h1, h2, h3⟩ := h
      rw [wr_in (by omega) (by omega)] at h3 ⊢
      refine ⟨h1, h2, ?_⟩
      rcases hs with hs | hs <;> omega
  · have e : (wkV us W H s i).2.1.filterMap (bdR us) = s.2.1.filterMap (bdR us) := filterMap_idx l1 fun k hk => by
      obtain ⟨c0, c1, c2, c3, c4, _⟩ := x2 k
      unfold bdR
      simp only [c0, c2, c3, c4]
    rw [e]
    exact S.sp
  · have hk' := hk
    rw [l3] at hk
    obtain ⟨d1, d2, _, _⟩ := S.sd k hk
    rw [hps k hk, hprev k hk]
    exact ⟨d1, d2, (J.pa k hk').1, (J.pa k hk').2⟩
section
variable (T0 T1 T2 : Int) (T3 : Bool) (T4 : Int) (us ws ts : LL) (T5 T6 : Int) (Tc ps es Ts Tm Tq : LL)
theorem pure_EconomyLoads (w0 : wf .i64 T0) (w1 : wf .i64 T1) (w2 : wf .i64 T2) (w4 : wf .u64 T4) (h1 : TyUnits us) (h2 : TyWeapons ws) (h3 : TyTechs ts) (w8 : wf .i64 T5) (w9 : wf .i64 T6) (hc : TyCells Tc)
    (hp : TyPlayers ps) (he : TyEnts es) (w13 : Ty Tryz.prog (.sl 75 9) (.ro 9 Ts)) (w14 : Ty Tryz.prog (.sl 116 3) (.ro 3 Tm)) (w15 : Ty Tryz.prog (.sl 125 4) (.ro 4 Tq)) :
    F_skirmishlaw28_EconomyLoads T0 T1 T2 T3 T4 us ws ts T5 T6 Tc ps es Ts Tm Tq = some true := by
  have hc' : okCs Tc := okCs_of (by kernel_rfl) hc
  obtain ⟨b, hb⟩ := small_s T0 T1 T2 T3 T4 us ws ts T5 T6 Tc ps es Ts Tm Tq h1 h2 h3 hp hc' he
  cases b with
  | false => simp only [F_skirmishlaw28_EconomyLoads, hb, Option.bind_some, awake28, Bool.not_false, cond_true]
  | true =>
    have S := (small_iff T0 T1 T2 T3 T4 us ws ts T5 T6 Tc ps es Ts Tm Tq h1 hp hc' he).1 hb
    have I := w28_of T1 us ws ts T5 T6 Tc ps es Ts Tm Tq h1 h2 h3 hp hc he S
    have key := ph_inv (us := us) (W := T5) (H := T6) (n := es.length) (fun t => W28 us T5 T6 t ∧ Sm28 T1 us ws ts T5 T6 t.2.2 t.1 t.2.1 Ts Tm Tq ∧ t.2.1.length = es.length ∧ t.2.2.length = Tc.length ∧ (∀ k, cI (t.2.1.getD k []) 0 = cI (es.getD k []) 0 ∧ cS (t.2.1.getD k []) 2 = cS (es.getD k []) 2) ∧ (∀ k, cI (t.2.2.getD k []) 2 ≤ cI (Tc.getD k []) 2))
      (fun t k hk ⟨a, b, c, d, e, f⟩ => by
        obtain ⟨a', l1, l2, l3⟩ := wk_inv a (i := k) (by omega)
        obtain ⟨x1, x2⟩ := wk_cols a (i := k) (by omega)
        obtain ⟨x4, x5⟩ := wk_cells a (i := k) (by omega)
        exact ⟨a', sm_step b a (by omega), by omega, by omega, fun q => ⟨by rw [(x2 q).1]; exact (e q).1, by rw [(x2 q).2.2.1]; exact (e q).2⟩, fun q => Int.le_trans (x4 q) (f q)⟩)
      (s := (ps, es, Tc)) ⟨I, S, rfl, rfl, fun _ => ⟨rfl, rfl⟩, fun _ => Int.le_refl _⟩
    generalize hph : phV us T5 T6 es.length (ps, es, Tc) = p at key
    obtain ⟨J, T, l1, l2, hcol, hcell⟩ := key
    have sb : F_skirmishlaw22_Small T0 T1 T2 T3 T4 us ws ts T5 T6 p.2.2 p.1 p.2.1 Ts Tm Tq = some true :=
      (small_iff T0 T1 T2 T3 T4 us ws ts T5 T6 p.2.2 p.1 p.2.1 Ts Tm Tq h1 J.tp (okCs_of (by kernel_rfl) J.tc) J.te).2 T
    have L0 : G_skirmishlaw28_EconomyLoads_0 Tc p.2.2 FU 0 = some false := by
      rw [run_skirmishlaw28_EconomyLoads_0 _ _ (ty_rows hc).1, anyO_false]
      intro k hk
      obtain ⟨q1, q2, q3⟩ := okR_get (okCells hc) hk
      obtain ⟨p1, p2, p3⟩ := okR_get (okCells J.tc) (k := k) (by omega)
      have d2 : (0 : Int) ≤ k := by omega
      have d3 : ¬ cI (p.2.2.getD k []) 2 > cI (Tc.getD k []) 2 := by have := hcell k; omega
      simp only [S_skirmishlaw28_EconomyLoads_0, d2, d3, decide_true, decide_false, cond_true, cond_false, Int.toNat_natCast, q1, q2, p1, p2, Option.bind_some]
    have L1 : G_skirmishlaw28_EconomyLoads_1 us ws ts es p.2.1 FU 0 = some false := by
      rw [run_skirmishlaw28_EconomyLoads_1 _ _ _ _ _ (ty_rows he).1, anyO_false]
      intro k hk
      obtain ⟨q1, q2, q3⟩ := okR_get (okEnts he) hk
      have hk' : k < p.2.1.length := by omega
      have d2 : (0 : Int) ≤ k := by omega
      have hen : enV p.2.1 (cI (es.getD k []) 0) = enT (p.2.1.getD k []) := by rw [← (hcol k).1]; exact enV_at J.ids hk'
      obtain ⟨a1, a2, a3⟩ := J.am k hk'
      obtain ⟨b1, b2, b3⟩ := I.am k hk
      simp only at b1 b2 b3
      have hcap := uV_load I.gu (cS (es.getD k []) 2)
      have hpr := T.pr k hk'
      unfold prV at hpr
      rw [(hcol k).2] at hpr
      have hle : cI (p.2.1.getD k []) 8 + cI (p.2.1.getD k []) 9 ≤ (uV us (cS (es.getD k []) 2)).2.2.2.2.2.2.2.2.2.2.2.1 := by
        cases hbu : (uV us (cS (es.getD k []) 2)).2.1 with
        | true =>
          rw [hbu] at hpr
          simp only [cond_true, Bool.and_eq_true, beq_iff_eq] at hpr
          obtain ⟨_, e8, e9, _⟩ := hpr
          omega
        | false =>
          rw [hbu] at hpr
          simp only [cond_false, Bool.and_eq_true, decide_eq_true_eq] at hpr
          have := hpr.2.2
          rwa [wr_in (by omega) (by omega)] at this
      have g1 : wr (cI (p.2.1.getD k []) 8 + cI (p.2.1.getD k []) 9) = cI (p.2.1.getD k []) 8 + cI (p.2.1.getD k []) 9 := wr_in (by omega) (by omega)
      have g2 : wr (cI (es.getD k []) 8 + cI (es.getD k []) 9) = cI (es.getD k []) 8 + cI (es.getD k []) 9 := wr_in (by omega) (by omega)
      have d3 : ¬ cI (p.2.1.getD k []) 8 + cI (p.2.1.getD k []) 9 > max (cI (es.getD k []) 8 + cI (es.getD k []) 9) (uV us (cS (es.getD k []) 2)).2.2.2.2.2.2.2.2.2.2.2.1 := by omega
      simp only [S_skirmishlaw28_EconomyLoads_1, d2, decide_true, cond_true, Int.toNat_natCast, q1, q2, Option.bind_some, ent_r p.2.1 _ J.te, hen, enT, unit_r us ws ts _ h1, Bool.not_true, cond_false, g1, g2, maxI_eq, d3, decide_false]
    have e1 : ((p.2.2.length : Int) != (Tc.length : Int)) = false := by rw [l2]; simp
    have e2 : ((p.2.1.length : Int) != (es.length : Int)) = false := by rw [l1]; simp
    simp only [F_skirmishlaw28_EconomyLoads, hb, Option.bind_some, awake28, Bool.not_true, cond_false, phase_g T0 T1 T2 T3 T4 us ws ts T5 T6 Tc ps es Ts Tm Tq h1 I, hph, Int.ofNat_eq_natCast, e1, e2, sb, L0, L1]
end
end Go.Proofs.YtoiimiohobollaaGreat.AI
