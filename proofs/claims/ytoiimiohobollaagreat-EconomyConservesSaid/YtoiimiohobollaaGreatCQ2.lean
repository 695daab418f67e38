/- The plain law EconomyConserves and what it needs: what both programs answer is told and compared, with no program in sight. -/
import Derived.Test.YtoiimiohobollaaGreatCQ1
namespace Go.Proofs.YtoiimiohobollaaGreat.AI
open Go.RowKit
set_option linter.unusedVariables false
set_option linter.unusedSimpArgs false
set_option maxRecDepth 20000
theorem rcP_ty {ps : LL} (hp : TyPlayers ps) {id o w : Int} (pa : ∀ k, k < ps.length → (0 ≤ cI (ps.getD k []) 2 ∧ cI (ps.getD k []) 2 ≤ 1000000) ∧ (0 ≤ cI (ps.getD k []) 3 ∧ cI (ps.getD k []) 3 ≤ 1000000)) (ho : 0 ≤ o ∧ o ≤ 1000000) (hw : 0 ≤ w ∧ w ≤ 1000000) : TyPlayers (rcP ps id o w) := by
  unfold rcP
  cases hf : ps.findIdx? (fun r => cI r 0 == id) with
  | none => exact hp
  | some j =>
    have hj := (fd_lt hf).1
    obtain ⟨p1, p2⟩ := pa j hj
    exact players_set hp (ty_plRow (pl_row (us := ps) hp (okR_get (okPlayers hp) hj).2.2) (sumN'_in p1 ho) (sumN'_in p2 hw)) j
theorem cell_after {W H : Int} {Tc : LL} {x y m : Int} (hv : vmap W H Tc = true) (hi : ins W H Tc.length x y = true) (h1 : 1 ≤ m) (h2 : m ≤ cI (cel W Tc x y) 2) :
    vcell (bif (cI (cel W Tc x y) 2 - m == 0) then 1 else cI (cel W Tc x y) 0) (cI (cel W Tc x y) 1) (cI (cel W Tc x y) 2 - m) = true ∧ (cI (cel W Tc x y) 0 = 4 ∨ cI (cel W Tc x y) 0 = 5) ∧ (0 ≤ cI (cel W Tc x y) 2 ∧ cI (cel W Tc x y) 2 ≤ 1000000) := by
  have hr := vmap_cell hv hi
  unfold vrow vcell at hr
  rw [Bool.and_eq_true, decide_eq_true_eq] at hr
  obtain ⟨⟨k1, k2, k3, k4, k5, k6⟩, k7⟩ := hr
  have hpos : decide (cI (cel W Tc x y) 2 > 0) = true := by rw [decide_eq_true_eq]; omega
  rw [hpos] at k7
  have h45 : cI (cel W Tc x y) 0 = 4 ∨ cI (cel W Tc x y) 0 = 5 := by simpa using k7
  refine ⟨?_, h45, by omega⟩
  unfold vcell
  by_cases h0 : cI (cel W Tc x y) 2 - m = 0
  · have e0 : (cI (cel W Tc x y) 2 - m == 0) = true := by rw [h0]; rfl
    rw [e0, h0]
    simp only [cond_true]
    have : (1 ≤ (1 : Int) ∧ (1 : Int) ≤ 5 ∧ 0 ≤ cI (cel W Tc x y) 1 ∧ cI (cel W Tc x y) 1 ≤ 3 ∧ 0 ≤ (0 : Int) ∧ (0 : Int) ≤ 1000000) := by omega
    rw [decide_eq_true this]
    rfl
  · have e0 : (cI (cel W Tc x y) 2 - m == 0) = false := by simpa using h0
    rw [e0]
    simp only [cond_false]
    have : (1 ≤ cI (cel W Tc x y) 0 ∧ cI (cel W Tc x y) 0 ≤ 5 ∧ 0 ≤ cI (cel W Tc x y) 1 ∧ cI (cel W Tc x y) 1 ≤ 3 ∧ 0 ≤ cI (cel W Tc x y) 2 - m ∧ cI (cel W Tc x y) 2 - m ≤ 1000000) := by omega
    rw [decide_eq_true this]
    have hp : decide (cI (cel W Tc x y) 2 - m > 0) = true := by rw [decide_eq_true_eq]; omega
    rw [hp, Bool.true_and]
    rcases h45 with h | h <;> rw [h] <;> rfl
theorem wk_inv {us : LL} {W H : Int} {s : W3} (I : W28 us W H s) {i : Nat} (hi : i < s.2.1.length) : W28 us W H (wkV us W H s i) ∧ (wkV us W H s i).2.1.length = s.2.1.length ∧ (wkV us W H s i).2.2.length = s.2.2.length ∧ (wkV us W H s i).1.length = s.1.length := by
  have hrow := ent_row I.te (okR_get (okEnts I.te) hi).2.2
  obtain ⟨r1, r2, r3⟩ := row_en hrow
  obtain ⟨a1, a2, a3⟩ := I.am i hi
  have hcap := uV_load I.gu (cS (s.2.1.getD i []) 2)
  have ids' : ∀ (o w : Int) (os : LL) (j k : Nat), j < k → k < (s.2.1.set i (enRow (s.2.1.getD i []) o w os)).length → cI ((s.2.1.set i (enRow (s.2.1.getD i []) o w os)).getD j []) 0 < cI ((s.2.1.set i (enRow (s.2.1.getD i []) o w os)).getD k []) 0 := by
    intro o w os j k hjk hk
    rw [List.length_set] at hk
    have e : ∀ q, cI ((s.2.1.set i (enRow (s.2.1.getD i []) o w os)).getD q []) 0 = cI (s.2.1.getD q []) 0 := fun q => by
      rw [getD_set' hi]
      by_cases h : q = i
      · rw [if_pos h, h]; rfl
      · rw [if_neg h]
    rw [e, e]
    exact I.ids j k hjk hk
  have am' : ∀ (o w : Int) (os : LL), (0 ≤ o ∧ o ≤ 100000) → (0 ≤ w ∧ w ≤ 100000) → os.length ≤ 20 → ∀ k, k < (s.2.1.set i (enRow (s.2.1.getD i []) o w os)).length →
      (0 ≤ cI ((s.2.1.set i (enRow (s.2.1.getD i []) o w os)).getD k []) 8 ∧ cI ((s.2.1.set i (enRow (s.2.1.getD i []) o w os)).getD k []) 8 ≤ 100000) ∧ (0 ≤ cI ((s.2.1.set i (enRow (s.2.1.getD i []) o w os)).getD k []) 9 ∧ cI ((s.2.1.set i (enRow (s.2.1.getD i []) o w os)).getD k []) 9 ≤ 100000) ∧ (cR ((s.2.1.set i (enRow (s.2.1.getD i []) o w os)).getD k []) 10).length ≤ 20 := by
    intro o w os ho hw hos k hk
    rw [List.length_set] at hk
    rw [getD_set' hi]
    by_cases h : k = i
    · rw [if_pos h]; exact ⟨ho, hw, hos⟩
    · rw [if_neg h]; exact I.am k hk
  rcases wk_cases I hi rfl with e | ⟨x, y, m, o, w, g, hins, m1, m2, hle, hk, e⟩ | ⟨g, e⟩ | ⟨g, e⟩
  · rw [e]; exact ⟨I, rfl, rfl, rfl⟩
  · rw [e]
    obtain ⟨vc, _, va⟩ := cell_after I.vm hins m1 m2
    obtain ⟨g1, g2, g3⟩ := vcell_rng vc
    have ho : 0 ≤ o ∧ o ≤ 100000 := by rcases hk with ⟨_, h1, h2⟩ | ⟨_, h1, h2⟩ <;> omega
    have hw : 0 ≤ w ∧ w ≤ 100000 := by rcases hk with ⟨_, h1, h2⟩ | ⟨_, h1, h2⟩ <;> omega
    exact ⟨⟨I.gu, I.tp, ents_set I.te (ty_enRow hrow (by omega) (by omega) r2) i, cells_set I.tc g1 g2 g3 _, wth_vmap I.vm vc, by simp only [List.length_set]; exact I.sm, by rw [wth_len]; exact I.sn, ids' _ _ _, am' _ _ _ ho hw a3, I.pa⟩,
      by simp, wth_len _ _ _ _ _ _ _, rfl⟩
  · rw [e]
    have ho : 0 ≤ cI (s.2.1.getD i []) 8 ∧ cI (s.2.1.getD i []) 8 ≤ 1000000 := by omega
    have hw : 0 ≤ cI (s.2.1.getD i []) 9 ∧ cI (s.2.1.getD i []) 9 ≤ 1000000 := by omega
    exact ⟨⟨I.gu, rcP_ty I.tp I.pa ho hw, ents_set I.te (ty_enRow hrow (by omega) (by omega) r2) i, I.tc, I.vm, by simp only [List.length_set]; exact I.sm, I.sn, ids' _ _ _, am' _ _ _ (by omega) (by omega) a3, fun k hk => (rcP_row I.pa ho hw k (by rw [rcP_len] at hk; exact hk)).2.2⟩,
      by simp, rfl, rcP_len _ _ _ _⟩
  · rw [e]
    exact ⟨⟨I.gu, I.tp, ents_set I.te (ty_enRow hrow (by omega) (by omega) (drop1_ty r2)) i, I.tc, I.vm, by simp only [List.length_set]; exact I.sm, I.sn, ids' _ _ _, am' _ _ _ a1 a2 (by rw [List.length_drop]; omega), I.pa⟩,
      by simp, rfl, rfl⟩
def phV (us : LL) (W H : Int) (n : Nat) (s : W3) : W3 := iter (fun k s => (.inl (wkV us W H s k) : W3 ⊕ W3)) id n 0 s
theorem ph_inv {us : LL} {W H : Int} {n : Nat} (P : W3 → Prop) (hP : ∀ s k, k < n → P s → P (wkV us W H s k)) {s : W3} (h : P s) : P (phV us W H n s) :=
  iter_inv P n (fun _ s => P s) (fun k s s' hk hI he => by
    simp only [Sum.inl.injEq] at he
    subst he
    exact hP s k hk hI) (fun k s t hk hI he => by cases he) (fun s h => h) n 0 s (by omega) h
theorem ph_w28 {us : LL} {W H : Int} {s : W3} (I : W28 us W H s) : W28 us W H (phV us W H s.2.1.length s) ∧ (phV us W H s.2.1.length s).2.1.length = s.2.1.length ∧ (phV us W H s.2.1.length s).2.2.length = s.2.2.length ∧ (phV us W H s.2.1.length s).1.length = s.1.length :=
  ph_inv (fun t => W28 us W H t ∧ t.2.1.length = s.2.1.length ∧ t.2.2.length = s.2.2.length ∧ t.1.length = s.1.length) (fun t k hk ⟨a, b, c, d⟩ => by
    obtain ⟨a', b', c', d'⟩ := wk_inv a (i := k) (by omega)
    exact ⟨a', by omega, by omega, by omega⟩) ⟨I, rfl, rfl, rfl⟩
section
variable (T0 T1 T2 : Int) (T3 : Bool) (T4 : Int) (us ws ts : LL) (T5 T6 : Int) (Tc ps es Ts Tm Tq : LL)
theorem phase_g (h1 : TyUnits us) (I : W28 us T5 T6 (ps, es, Tc)) : F_economy_Phase T0 T1 T2 T3 T4 us ws ts T5 T6 Tc ps es Ts Tm Tq =
    some (T0, T1, T2, T3, T4, us, ws, ts, T5, T6, (phV us T5 T6 es.length (ps, es, Tc)).2.2, (phV us T5 T6 es.length (ps, es, Tc)).1, (phV us T5 T6 es.length (ps, es, Tc)).2.1, Ts, Tm, Tq) := by
  have hsm : es.length ≤ 24 := I.sm
  have key := run_loop (fun m (s : W3) x => (G_economy_Phase_0 es.length T0 T1 T2 T3 T4 us ws ts Ts Tm Tq m s.1 s.2.1 x T5 T6 s.2.2)) (fun k s => .inl (wkV us T5 T6 s k)) (fun s => (s.1, s.2.1, T5, T6, s.2.2)) es.length (fun _ s => W28 us T5 T6 s ∧ s.2.1.length = es.length)
    (fun m k s hk hI => by
      obtain ⟨a, b⟩ := hI
      have d1 : (k : Int) < es.length := by omega
      have hw := work_g T0 T1 T2 T3 T4 us ws ts T5 T6 s.2.2 s.1 s.2.1 Ts Tm Tq h1 a (i := k) (by omega)
      simp only [G_economy_Phase_0, d1, decide_true, cond_true, hw, Option.bind_some, wr_next hk (by omega)])
    (fun k s s' hk hI he => by
      simp only [Sum.inl.injEq] at he
      subst he
      obtain ⟨a, b⟩ := hI
      obtain ⟨a', b', _⟩ := wk_inv a (i := k) (by omega)
      exact ⟨a', by omega⟩)
    (fun m s _ => by
      have d1 : ¬ (es.length : Int) < es.length := by omega
      simp only [G_economy_Phase_0, d1, decide_false, cond_false]) es.length FU 0 (ps, es, Tc) (by omega) (by unfold FU; omega) ⟨I, rfl⟩
  have hv : ∀ r k (s : W3), iter (fun k s => (.inl (wkV us T5 T6 s k) : W3 ⊕ (LL × LL × Int × Int × LL))) (fun s => (s.1, s.2.1, T5, T6, s.2.2)) r k s =
      ((iter (fun k s => (.inl (wkV us T5 T6 s k) : W3 ⊕ W3)) id r k s).1, (iter (fun k s => (.inl (wkV us T5 T6 s k) : W3 ⊕ W3)) id r k s).2.1, T5, T6, (iter (fun k s => (.inl (wkV us T5 T6 s k) : W3 ⊕ W3)) id r k s).2.2) := by
    intro r
    induction r with
    | zero => intro k s; rfl
    | succ r ih => intro k s; exact ih (k + 1) _
  have key' : G_economy_Phase_0 es.length T0 T1 T2 T3 T4 us ws ts Ts Tm Tq FU ps es 0 T5 T6 Tc = _ := key.trans (congrArg some (hv _ _ _))
  simp only [F_economy_Phase, F_economy_clone, clone_p I.tp, clone_e I.te, Option.bind_some, Int.ofNat_eq_natCast, key']
  rfl
theorem w28_of (h1 : TyUnits us) (h2 : TyWeapons ws) (h3 : TyTechs ts) (hp : TyPlayers ps) (hc : TyCells Tc) (he : TyEnts es) (S : Sm28 T1 us ws ts T5 T6 Tc ps es Ts Tm Tq) : W28 us T5 T6 (ps, es, Tc) := by
  obtain ⟨b1, e1, l1⟩ := huge10 h1 h2 h3
  have hb : b1 = false := by
    have := S.hu
    rw [e1] at this
    simpa using this
  obtain ⟨m1, m2, m3⟩ := l1 hb
  obtain ⟨v, ev, hv⟩ := validate_s us ws ts h1 h2 h3 m1 m2 m3
  have hz : v = 0 := by
    have := S.va
    rw [ev] at this
    simpa using this
  have asc : ∀ k, k < es.length → ∀ j, j < k → cI (es.getD j []) 0 < cI (es.getD k []) 0 := by
    intro k
    induction k with
    | zero => intro _ j hj; omega
    | succ k ih =>
      intro hk j hj
      have h0 := (S.fm (k + 1) hk).1
      have e : prevId es (k + 1) = cI (es.getD k []) 0 := rfl
      rw [e] at h0
      by_cases hjk : j = k
      · rw [hjk]; exact h0
      · exact Int.lt_trans (ih (by omega) j (by omega)) h0
  refine ⟨(hv hz).2.1, hp, he, hc, S.vm, S.n2, S.n1, fun j k hjk hk => asc k hk j hjk, fun k hk => ?_, fun k hk => ⟨(S.sd k hk).2.2.1, (S.sd k hk).2.2.2⟩⟩
  have hnm := (S.fm k hk).2.2
  unfold nmR at hnm
  rw [nm_iff] at hnm
  exact ⟨hnm.2.2.2.2.1, hnm.2.2.2.2.2.1, (S.oj k hk).1⟩
end
theorem cnt_id {n : Int} (h0 : 0 ≤ n) (h1 : n ≤ 1099511627776) : cnt n = n := by unfold cnt; omega
theorem Sm_congr {g g' : Nat → Int} : ∀ n, (∀ j, j < n → g' j = g j) → Sm g' n = Sm g n
  | 0, _ => rfl
  | n + 1, h => by
    simp only [Sm]
    rw [Sm_congr n fun j hj => h j (by omega), h n (by omega)]
theorem Sm_set {g g' : Nat → Int} {i : Nat} : ∀ n, i < n → (∀ j, j < n → j ≠ i → g' j = g j) → Sm g' n = Sm g n + (g' i - g i)
  | 0, hi, _ => by omega
  | n + 1, hi, h => by
    simp only [Sm]
    by_cases e : i = n
    · subst e
      rw [Sm_congr i fun j hj => h j (by omega) (by omega)]
      omega
    · rw [Sm_set n (by omega) fun j hj hne => h j (by omega) hne, h n (by omega) (by omega)]
      omega
theorem Sm_ge {g : Nat → Int} (h : ∀ k, 0 ≤ g k) {i : Nat} : ∀ n, i < n → g i ≤ Sm g n
  | 0, hi => by omega
  | n + 1, hi => by
    simp only [Sm]
    have hn : ∀ n, 0 ≤ Sm g n := fun n => by
      induction n with
      | zero => exact Int.le_refl _
      | succ n ih => simp only [Sm]; have := h n; omega
    by_cases e : i = n
    · subst e; have := hn i; omega
    · have := Sm_ge h (i := i) n (by omega)
      have := h n
      omega
def totO (s : W3) : Int := Sm (gO s.1 2) s.1.length + Sm (gO s.2.1 8) s.2.1.length + Sm (cO 5 s.2.2) s.2.2.length
def totW (s : W3) : Int := Sm (gO s.1 3) s.1.length + Sm (gO s.2.1 9) s.2.1.length + Sm (cO 4 s.2.2) s.2.2.length
theorem Sm_ent (es : LL) {i : Nat} (hi : i < es.length) (r : List AVal) (j : Nat) : Sm (gO (es.set i r) j) (es.set i r).length = Sm (gO es j) es.length + (cnt (cI r j) - cnt (cI (es.getD i []) j)) := by
  rw [List.length_set, Sm_set (g := gO es j) (i := i) es.length hi fun k hk hne => by unfold gO; rw [getD_set' hi, if_neg hne]]
  unfold gO
  rw [getD_set' hi, if_pos rfl]
theorem Sm_cell {W H : Int} (Tc : LL) {x y : Int} (hins : ins W H Tc.length x y = true) (q k h a : Int) : Sm (cO q (wth W Tc x y k h a)) (wth W Tc x y k h a).length = Sm (cO q Tc) Tc.length + ((bif k == q then cnt a else 0) - (bif cI (cel W Tc x y) 0 == q then cnt (cI (cel W Tc x y) 2) else 0)) := by
  obtain ⟨e1, e2, e3, e4⟩ := ins_idx hins
  unfold wth
  rw [List.length_set, Sm_set (g := cO q Tc) (i := (y * W + x).toNat) Tc.length e3 fun k hk hne => by unfold cO; rw [getD_set' e3, if_neg hne]]
  unfold cO
  rw [getD_set' e3, if_pos rfl]
  rfl
theorem wk_total {us : LL} {W H : Int} {s : W3} (I : W28 us W H s) (hown : ∀ k, k < s.2.1.length → ∃ j, s.1.findIdx? (fun r => cI r 0 == cI (s.2.1.getD k []) 1) = some j) (hO : totO s ≤ 1000000) (hW : totW s ≤ 1000000) {i : Nat} (hi : i < s.2.1.length) :
    totO (wkV us W H s i) = totO s ∧ totW (wkV us W H s i) = totW s := by
  obtain ⟨a1, a2, a3⟩ := I.am i hi
  have n1 := Sm_in (gO_in s.1 2) s.1.length
  have n2 := Sm_in (gO_in s.1 3) s.1.length
  have n3 := Sm_in (gO_in s.2.1 8) s.2.1.length
  have n4 := Sm_in (gO_in s.2.1 9) s.2.1.length
  have n5 := Sm_in (cO_in 5 s.2.2) s.2.2.length
  have n6 := Sm_in (cO_in 4 s.2.2) s.2.2.length
  have c8 : cnt (cI (s.2.1.getD i []) 8) = cI (s.2.1.getD i []) 8 := cnt_id (by omega) (by omega)
  have c9 : cnt (cI (s.2.1.getD i []) 9) = cI (s.2.1.getD i []) 9 := cnt_id (by omega) (by omega)
  rcases wk_cases I hi rfl with e | ⟨x, y, m, o, w, g, hins, m1, m2, hle, hk, e⟩ | ⟨g, e⟩ | ⟨g, e⟩
  · rw [e]; exact ⟨rfl, rfl⟩
  · rw [e]
    have hcap := uV_load I.gu (cS (s.2.1.getD i []) 2)
    obtain ⟨vc, h45, va⟩ := cell_after I.vm hins m1 m2
    have ca : cnt (cI (cel W s.2.2 x y) 2) = cI (cel W s.2.2 x y) 2 := cnt_id (by omega) (by omega)
    have cm : cnt (cI (cel W s.2.2 x y) 2 - m) = cI (cel W s.2.2 x y) 2 - m := cnt_id (by omega) (by omega)
    have co : cnt o = o := by rcases hk with ⟨_, h1, h2⟩ | ⟨_, h1, h2⟩ <;> exact cnt_id (by omega) (by omega)
    have cw : cnt w = w := by rcases hk with ⟨_, h1, h2⟩ | ⟨_, h1, h2⟩ <;> exact cnt_id (by omega) (by omega)
    have r8 : cI (enRow (s.2.1.getD i []) o w (cR (s.2.1.getD i []) 10)) 8 = o := rfl
    have r9 : cI (enRow (s.2.1.getD i []) o w (cR (s.2.1.getD i []) 10)) 9 = w := rfl
    unfold totO totW
    simp only [Sm_ent s.2.1 hi, Sm_cell s.2.2 hins, r8, r9, co, cw, c8, c9, ca, cm]
    rcases hk with ⟨k4, h1, h2⟩ | ⟨k4, h1, h2⟩
    · rw [k4, h1, h2]
      have e45 : ((4 : Int) == 5) = false := by decide
      have e44 : ((4 : Int) == 4) = true := by decide
      have e14 : ((1 : Int) == 4) = false := by decide
      have e15 : ((1 : Int) == 5) = false := by decide
      by_cases h0 : cI (cel W s.2.2 x y) 2 - m = 0
      · have e0 : (cI (cel W s.2.2 x y) 2 - m == 0) = true := by rw [h0]; rfl
        simp only [e0, cond_true, cond_false, e45, e44, e14, e15]
        omega
      · have e0 : (cI (cel W s.2.2 x y) 2 - m == 0) = false := by simpa using h0
        simp only [e0, cond_true, cond_false, e45, e44, e14, e15]
        omega
    · have k5 : cI (cel W s.2.2 x y) 0 = 5 := by rcases h45 with h | h; exact absurd h k4; exact h
      rw [k5, h1, h2]
      have e54 : ((5 : Int) == 4) = false := by decide
      have e55 : ((5 : Int) == 5) = true := by decide
      have e14 : ((1 : Int) == 4) = false := by decide
      have e15 : ((1 : Int) == 5) = false := by decide
      by_cases h0 : cI (cel W s.2.2 x y) 2 - m = 0
      · have e0 : (cI (cel W s.2.2 x y) 2 - m == 0) = true := by rw [h0]; rfl
        simp only [e0, cond_true, cond_false, e54, e55, e14, e15]
        omega
      · have e0 : (cI (cel W s.2.2 x y) 2 - m == 0) = false := by simpa using h0
        simp only [e0, cond_true, cond_false, e54, e55, e14, e15]
        omega
  · rw [e]
    obtain ⟨j, hj⟩ := hown i hi
    have hjl := (fd_lt hj).1
    obtain ⟨p1, p2⟩ := I.pa j hjl
    have q1 := Sm_ge (fun k => (gO_in s.1 2 k).1) s.1.length hjl
    have q2 := Sm_ge (fun k => (gO_in s.1 3 k).1) s.1.length hjl
    have q3 := Sm_ge (fun k => (gO_in s.2.1 8 k).1) s.2.1.length hi
    have q4 := Sm_ge (fun k => (gO_in s.2.1 9 k).1) s.2.1.length hi
    have g2 : gO s.1 2 j = cI (s.1.getD j []) 2 := cnt_id (by omega) (by omega)
    have g3 : gO s.1 3 j = cI (s.1.getD j []) 3 := cnt_id (by omega) (by omega)
    have g8 : gO s.2.1 8 i = cI (s.2.1.getD i []) 8 := c8
    have g9 : gO s.2.1 9 i = cI (s.2.1.getD i []) 9 := c9
    unfold totO at hO
    unfold totW at hW
    have su1 : sumN' (cI (s.1.getD j []) 2) (cI (s.2.1.getD i []) 8) = cI (s.1.getD j []) 2 + cI (s.2.1.getD i []) 8 := by unfold sumN'; rw [if_neg (by omega)]
    have su2 : sumN' (cI (s.1.getD j []) 3) (cI (s.2.1.getD i []) 9) = cI (s.1.getD j []) 3 + cI (s.2.1.getD i []) 9 := by unfold sumN'; rw [if_neg (by omega)]
    have hr : rcP s.1 (cI (s.2.1.getD i []) 1) (cI (s.2.1.getD i []) 8) (cI (s.2.1.getD i []) 9) = s.1.set j (plRow (s.1.getD j []) (cI (s.1.getD j []) 2 + cI (s.2.1.getD i []) 8) (cI (s.1.getD j []) 3 + cI (s.2.1.getD i []) 9)) := by
      unfold rcP
      rw [hj]
      simp only [su1, su2]
    have t2 : cI (plRow (s.1.getD j []) (cI (s.1.getD j []) 2 + cI (s.2.1.getD i []) 8) (cI (s.1.getD j []) 3 + cI (s.2.1.getD i []) 9)) 2 = cI (s.1.getD j []) 2 + cI (s.2.1.getD i []) 8 := rfl
    have t3 : cI (plRow (s.1.getD j []) (cI (s.1.getD j []) 2 + cI (s.2.1.getD i []) 8) (cI (s.1.getD j []) 3 + cI (s.2.1.getD i []) 9)) 3 = cI (s.1.getD j []) 3 + cI (s.2.1.getD i []) 9 := rfl
    have r8 : cI (enRow (s.2.1.getD i []) 0 0 (cR (s.2.1.getD i []) 10)) 8 = 0 := rfl
    have r9 : cI (enRow (s.2.1.getD i []) 0 0 (cR (s.2.1.getD i []) 10)) 9 = 0 := rfl
    have z0 : cnt 0 = 0 := by decide
    have k2 : cnt (cI (s.1.getD j []) 2 + cI (s.2.1.getD i []) 8) = cI (s.1.getD j []) 2 + cI (s.2.1.getD i []) 8 := cnt_id (by omega) (by omega)
    have k3 : cnt (cI (s.1.getD j []) 3 + cI (s.2.1.getD i []) 9) = cI (s.1.getD j []) 3 + cI (s.2.1.getD i []) 9 := cnt_id (by omega) (by omega)
    have k4 : cnt (cI (s.1.getD j []) 2) = cI (s.1.getD j []) 2 := g2
    have k5 : cnt (cI (s.1.getD j []) 3) = cI (s.1.getD j []) 3 := g3
    unfold totO totW
    simp only [hr, Sm_ent s.2.1 hi, Sm_ent s.1 hjl, r8, r9, t2, t3, z0, k2, k3, k4, k5, c8, c9]
    omega
  · rw [e]
    have r8 : cI (enRow (s.2.1.getD i []) (cI (s.2.1.getD i []) 8) (cI (s.2.1.getD i []) 9) ((cR (s.2.1.getD i []) 10).drop 1)) 8 = cI (s.2.1.getD i []) 8 := rfl
    have r9 : cI (enRow (s.2.1.getD i []) (cI (s.2.1.getD i []) 8) (cI (s.2.1.getD i []) 9) ((cR (s.2.1.getD i []) 10).drop 1)) 9 = cI (s.2.1.getD i []) 9 := rfl
    unfold totO totW
    simp only [Sm_ent s.2.1 hi, r8, r9]
    omega
theorem wk_cols {us : LL} {W H : Int} {s : W3} (I : W28 us W H s) {i : Nat} (hi : i < s.2.1.length) :
    (∀ k, k < s.1.length → cI ((wkV us W H s i).1.getD k []) 0 = cI (s.1.getD k []) 0 ∧ cR ((wkV us W H s i).1.getD k []) 4 = cR (s.1.getD k []) 4) ∧
    (∀ k, (cI ((wkV us W H s i).2.1.getD k []) 0 = cI (s.2.1.getD k []) 0 ∧ cI ((wkV us W H s i).2.1.getD k []) 1 = cI (s.2.1.getD k []) 1 ∧ cS ((wkV us W H s i).2.1.getD k []) 2 = cS (s.2.1.getD k []) 2 ∧
      cI ((wkV us W H s i).2.1.getD k []) 3 = cI (s.2.1.getD k []) 3 ∧ cI ((wkV us W H s i).2.1.getD k []) 4 = cI (s.2.1.getD k []) 4 ∧ cI ((wkV us W H s i).2.1.getD k []) 5 = cI (s.2.1.getD k []) 5 ∧
      cI ((wkV us W H s i).2.1.getD k []) 6 = cI (s.2.1.getD k []) 6 ∧ cI ((wkV us W H s i).2.1.getD k []) 7 = cI (s.2.1.getD k []) 7 ∧ cR ((wkV us W H s i).2.1.getD k []) 11 = cR (s.2.1.getD k []) 11)) := by
  obtain ⟨a1, a2, a3⟩ := I.am i hi
  have hset : ∀ (o w : Int) (os : LL) (k : Nat), (cI ((s.2.1.set i (enRow (s.2.1.getD i []) o w os)).getD k []) 0 = cI (s.2.1.getD k []) 0 ∧ cI ((s.2.1.set i (enRow (s.2.1.getD i []) o w os)).getD k []) 1 = cI (s.2.1.getD k []) 1 ∧ cS ((s.2.1.set i (enRow (s.2.1.getD i []) o w os)).getD k []) 2 = cS (s.2.1.getD k []) 2 ∧
      cI ((s.2.1.set i (enRow (s.2.1.getD i []) o w os)).getD k []) 3 = cI (s.2.1.getD k []) 3 ∧ cI ((s.2.1.set i (enRow (s.2.1.getD i []) o w os)).getD k []) 4 = cI (s.2.1.getD k []) 4 ∧ cI ((s.2.1.set i (enRow (s.2.1.getD i []) o w os)).getD k []) 5 = cI (s.2.1.getD k []) 5 ∧
      cI ((s.2.1.set i (enRow (s.2.1.getD i []) o w os)).getD k []) 6 = cI (s.2.1.getD k []) 6 ∧ cI ((s.2.1.set i (enRow (s.2.1.getD i []) o w os)).getD k []) 7 = cI (s.2.1.getD k []) 7 ∧ cR ((s.2.1.set i (enRow (s.2.1.getD i []) o w os)).getD k []) 11 = cR (s.2.1.getD k []) 11) := by
    intro o w os k
    rw [getD_set' hi]
    by_cases h : k = i
    · rw [if_pos h, h]; exact ⟨rfl, rfl, rfl, rfl, rfl, rfl, rfl, rfl, rfl⟩
    · rw [if_neg h]; exact ⟨rfl, rfl, rfl, rfl, rfl, rfl, rfl, rfl, rfl⟩
  rcases wk_cases I hi rfl with e | ⟨x, y, m, o, w, g, hins, m1, m2, hle, hk, e⟩ | ⟨g, e⟩ | ⟨g, e⟩
  · rw [e]; exact ⟨fun k hk => ⟨rfl, rfl⟩, fun k => ⟨rfl, rfl, rfl, rfl, rfl, rfl, rfl, rfl, rfl⟩⟩
  · rw [e]; exact ⟨fun k hk => ⟨rfl, rfl⟩, hset _ _ _⟩
  · rw [e]
    exact ⟨fun k hk => let h := rcP_row I.pa (id := cI (s.2.1.getD i []) 1) (o := cI (s.2.1.getD i []) 8) (w := cI (s.2.1.getD i []) 9) (by omega) (by omega) k hk; ⟨h.1, h.2.1⟩, hset _ _ _⟩
  · rw [e]; exact ⟨fun k hk => ⟨rfl, rfl⟩, hset _ _ _⟩
theorem find_same {ps ps' : LL} (hl : ps'.length = ps.length) (h : ∀ k, k < ps.length → cI (ps'.getD k []) 0 = cI (ps.getD k []) 0) (id : Int) : ps'.findIdx? (fun r => cI r 0 == id) = ps.findIdx? (fun r => cI r 0 == id) := by
  have e : ∀ (l : LL), l.findIdx? (fun r => cI r 0 == id) = (l.map fun r => cI r 0).findIdx? (fun z => z == id) := fun l => by
    rw [List.findIdx?_map]; rfl
  rw [e, e]
  congr 1
  apply List.ext_getElem?
  intro k
  rw [List.getElem?_map, List.getElem?_map]
  by_cases hk : k < ps.length
  · have := h k hk
    rw [List.getElem?_eq_getElem hk, List.getElem?_eq_getElem (show k < ps'.length by omega)]
    simp only [Option.map_some]
    simpa [List.getD, hk, show k < ps'.length by omega] using this
  · rw [List.getElem?_eq_none (by omega), List.getElem?_eq_none (by omega)]
section
variable (T0 T1 T2 : Int) (T3 : Bool) (T4 : Int) (us ws ts : LL) (T5 T6 : Int) (Tc ps es Ts Tm Tq : LL)
theorem owner_of (S : Sm28 T1 us ws ts T5 T6 Tc ps es Ts Tm Tq) {k : Nat} (hk : k < es.length) : ∃ j, ps.findIdx? (fun r => cI r 0 == cI (es.getD k []) 1) = some j := by
  have h := S.nd k hk
  unfold ndV at h
  rw [guard_iff, bindn_iff] at h
  obtain ⟨_, h, _⟩ := h
  obtain ⟨j, hj, e⟩ := anyO_true h
  cases hf : ps.findIdx? (fun r => cI r 0 == cI (es.getD k []) 1) with
  | some q => exact ⟨q, rfl⟩
  | none =>
    rw [List.findIdx?_eq_none_iff] at hf
    have := hf (ps.getD j []) (by simp [List.getD, hj])
    simp only [isP, Option.some.injEq] at e
    rw [e] at this
    cases this
theorem pure_EconomyConserves (w0 : wf .i64 T0) (w1 : wf .i64 T1) (w2 : wf .i64 T2) (w4 : wf .u64 T4) (h1 : TyUnits us) (h2 : TyWeapons ws) (h3 : TyTechs ts) (w8 : wf .i64 T5) (w9 : wf .i64 T6) (hc : TyCells Tc)
    (hp : TyPlayers ps) (he : TyEnts es) (w13 : Ty Tryz.prog (.sl 75 9) (.ro 9 Ts)) (w14 : Ty Tryz.prog (.sl 116 3) (.ro 3 Tm)) (w15 : Ty Tryz.prog (.sl 125 4) (.ro 4 Tq)) :
    F_skirmishlaw28_EconomyConserves T0 T1 T2 T3 T4 us ws ts T5 T6 Tc ps es Ts Tm Tq = some true := by
  have hc' : okCs Tc := okCs_of (by kernel_rfl) hc
  obtain ⟨b, hb⟩ := small_s T0 T1 T2 T3 T4 us ws ts T5 T6 Tc ps es Ts Tm Tq h1 h2 h3 hp hc' he
  cases b with
  | false => simp only [F_skirmishlaw28_EconomyConserves, hb, Option.bind_some, awake28, Bool.not_false, cond_true]
  | true =>
    have S := (small_iff T0 T1 T2 T3 T4 us ws ts T5 T6 Tc ps es Ts Tm Tq h1 hp hc' he).1 hb
    have I := w28_of T1 us ws ts T5 T6 Tc ps es Ts Tm Tq h1 h2 h3 hp hc he S
    obtain ⟨J, l1, l2, l3⟩ := ph_w28 I
    simp only at l1 l2 l3
    have s1 := S.n1
    have s2 := S.n2
    have s3 := S.n3
    simp only [F_skirmishlaw28_EconomyConserves, hb, Option.bind_some, awake28, Bool.not_true, cond_false, total_g T0 T1 T2 T3 T4 us ws ts T5 T6 Tc ps es Ts Tm Tq hp he hc (by omega) (by omega) (by omega), phase_g T0 T1 T2 T3 T4 us ws ts T5 T6 Tc ps es Ts Tm Tq h1 I,
      total_g T0 T1 T2 T3 T4 us ws ts T5 T6 _ _ _ Ts Tm Tq J.tp J.te J.tc (show (phV us T5 T6 es.length (ps, es, Tc)).1.length ≤ 100 by omega) (show (phV us T5 T6 es.length (ps, es, Tc)).2.1.length ≤ 200 by omega) (show (phV us T5 T6 es.length (ps, es, Tc)).2.2.length ≤ 2000 by omega)]
    by_cases hO : totO (ps, es, Tc) > 1000000
    · have hO' : Sm (gO ps 2) ps.length + Sm (gO es 8) es.length + Sm (cO 5 Tc) Tc.length > 1000000 := hO
      simp only [hO', decide_true, cond_true]
    by_cases hW : totW (ps, es, Tc) > 1000000
    · have hO' : ¬ Sm (gO ps 2) ps.length + Sm (gO es 8) es.length + Sm (cO 5 Tc) Tc.length > 1000000 := hO
      have hW' : Sm (gO ps 3) ps.length + Sm (gO es 9) es.length + Sm (cO 4 Tc) Tc.length > 1000000 := hW
      simp only [hO', hW', decide_true, decide_false, cond_true, cond_false]
    have hO' : ¬ Sm (gO ps 2) ps.length + Sm (gO es 8) es.length + Sm (cO 5 Tc) Tc.length > 1000000 := hO
    have hW' : ¬ Sm (gO ps 3) ps.length + Sm (gO es 9) es.length + Sm (cO 4 Tc) Tc.length > 1000000 := hW
    have key := ph_inv (us := us) (W := T5) (H := T6) (n := es.length) (fun t => W28 us T5 T6 t ∧ t.2.1.length = es.length ∧ t.1.length = ps.length ∧ (∀ k, k < ps.length → cI (t.1.getD k []) 0 = cI (ps.getD k []) 0) ∧ (∀ k, cI (t.2.1.getD k []) 1 = cI (es.getD k []) 1) ∧ totO t = totO (ps, es, Tc) ∧ totW t = totW (ps, es, Tc))
      (fun t k hk ⟨a, b, c, d, e, f, g⟩ => by
        obtain ⟨a', b', _, d'⟩ := wk_inv a (i := k) (by omega)
        obtain ⟨x1, x2⟩ := wk_cols a (i := k) (by omega)
        have hown : ∀ q, q < t.2.1.length → ∃ j, t.1.findIdx? (fun r => cI r 0 == cI (t.2.1.getD q []) 1) = some j := fun q hq => by
          rw [find_same c d, e q]
          exact owner_of T1 us ws ts T5 T6 Tc ps es Ts Tm Tq S (by omega)
        obtain ⟨y1, y2⟩ := wk_total a hown (by omega) (by omega) (i := k) (by omega)
        exact ⟨a', by omega, by omega, fun q hq => by rw [(x1 q (by omega)).1]; exact d q hq, fun q => by rw [(x2 q).2.1]; exact e q, by omega, by omega⟩)
      (s := (ps, es, Tc)) ⟨I, rfl, rfl, fun _ _ => rfl, fun _ => rfl, rfl, rfl⟩
    obtain ⟨_, _, _, _, _, f, g⟩ := key
    unfold totO at f
    unfold totW at g
    simp only [hO', hW', decide_false, cond_false, f, g, beq_self_eq_true, cond_true]
end
section
variable (T0 T1 T2 : Int) (T3 : Bool) (T4 : Int) (us ws ts : LL) (T5 T6 : Int) (Tc ps es Ts Tm Tq : LL)
end
end Go.Proofs.YtoiimiohobollaaGreat.AI
