/- The document's functions of chapter 14: what they answer. -/
import Derived.Test.YteiniiakpdijmaaDoorSg
namespace Go.Proofs.YteiniiakpdijmaaDoor.AI
open Go.RowKit
set_option linter.unusedVariables false
set_option linter.unusedSimpArgs false

theorem none_G (n : Nat) (hn : n ≤ 100000) : ∀ (r m k : Nat), k + r = n → r < m → G_skirmishref14_None_0 n m (encC (List.replicate k (-1))) = some (encC (List.replicate n (-1)))
  | 0, m, k, h1, h2 => by
    obtain ⟨m, rfl⟩ : ∃ q, m = q + 1 := ⟨m - 1, by omega⟩
    obtain rfl : k = n := by omega
    have : ¬ ((k : Int) < k) := by omega
    simp only [G_skirmishref14_None_0, encC_len, List.length_replicate, Int.ofNat_eq_natCast, this, decide_false, cond_false]
  | r + 1, m, k, h1, h2 => by
    obtain ⟨m, rfl⟩ : ∃ q, m = q + 1 := ⟨m - 1, by omega⟩
    have d1 : (k : Int) < n := by omega
    have ih := none_G n hn r m (k + 1) (by omega) (by omega)
    have e : List.replicate k (-1 : Int) ++ [-1] = List.replicate (k + 1) (-1) := List.replicate_succ'.symm
    simp only [G_skirmishref14_None_0, encC_len, List.length_replicate, Int.ofNat_eq_natCast, d1, decide_true, cond_true, room8 (show k + 1 ≤ 100000 by omega), encC_app, e, ih]
theorem none_r (n : Nat) (hn : n ≤ 100000) : F_skirmishref14_None n = some (encC (List.replicate n (-1))) := by
  have h := none_G n hn n FU 0 (by omega) (by unfold FU; omega)
  have h' : G_skirmishref14_None_0 n FU [] = some (encC (List.replicate n (-1))) := h
  simp only [F_skirmishref14_None, h', Option.bind_some]
/-- A class. -/
def cok (c : Int) : Bool := decide (1 ≤ c) && decide (c ≤ 3)
theorem class_r (c : Int) : F_skirmishref14_Class c = some (cok c) := by
  simp only [F_skirmishref14_Class, ge_iff_le, bif_and, cok]
theorem free_r (W H : Int) (cells bl : List (List AVal)) (hc : okCs cells) (hb : okB bl) (cls x y : Int) : F_skirmishref14_Free W H cells bl cls x y = some (opn W H cells bl cls x y) := by
  simp only [F_skirmishref14_Free, passable_r W H cells hc, Option.bind_some, Int.ofNat_eq_natCast]
  cases hp : pas W H cells cls x y with
  | false => simp [opn, hp]
  | true =>
    have hi := pas_ins hp
    have e1 := (ins_idx hi).1
    simp only [Bool.not_true, cond_false, wr_mul hi]
    rw [← e1]
    exact open_eq W H cells bl hb cls x y hp
theorem beside_r (x y d : Int) : F_skirmishref14_Beside x y d = some (stp x y d) := by
  simp only [F_skirmishref14_Beside, step_r, Option.bind_some]

/-! ### The nearest cell -/
def sg (st : List Bool) (i : Nat) : Bool := st.getD i false
def encO (st : List Bool) : List (List AVal) := st.map fun b => [bo b]
theorem encO_len (st : List Bool) : (encO st).length = st.length := by simp [encO]
theorem encO_get {st : List Bool} {k : Nat} (h : k < st.length) : (encO st)[k]? = some [bo (sg st k)] := by
  unfold encO sg
  rw [List.getElem?_map, List.getElem?_eq_getElem h, List.getD_eq_getElem?_getD, List.getElem?_eq_getElem h]
  rfl
theorem encO_set (st : List Bool) (k : Nat) (v : Bool) : (encO st).set k [bo v] = encO (st.set k v) := by simp [encO, List.map_set]
theorem encO_rep (n : Nat) (v : Bool) : List.replicate n [bo v] = encO (List.replicate n v) := by simp [encO]
theorem sg_set {st : List Bool} {i : Nat} (j : Nat) (v : Bool) (h : i < st.length) : sg (st.set i v) j = if i = j then v else sg st j := by
  unfold sg
  rw [List.getD_eq_getElem?_getD, List.getD_eq_getElem?_getD, List.getElem?_set]
  by_cases h1 : i = j
  · subst h1; simp [h]
  · simp [h1]
theorem sg_rep (n j : Nat) : sg (List.replicate n false) j = false := by
  unfold sg
  rw [List.getD_eq_getElem?_getD, List.getElem?_replicate]
  split <;> rfl
/-- The nearest of the cells below 'i'. -/
def NearI (cs : List Int) (st : List Bool) (i : Nat) (k : Int) : Prop :=
  (k = -1 ∧ ∀ j, j < i → sg st j = true ∨ cg cs j < 0) ∨ ∃ q : Nat, k = q ∧ q < i ∧ sg st q = false ∧ 0 ≤ cg cs q ∧ ∀ j, j < i → sg st j = false → 0 ≤ cg cs j → cg cs q ≤ cg cs j
theorem near_G (cs : List Int) (st : List Bool) (hl : st.length = cs.length) (hn : cs.length ≤ 100000) : ∀ (r m i : Nat) (k : Int), i + r = cs.length → r < m → NearI cs st i k →
    ∃ k', G_skirmishref14_nearest_0 (encC cs) (encO st) m k i = some k' ∧ NearI cs st cs.length k'
  | 0, m, i, k, h1, h2, hk => by
    obtain ⟨m, rfl⟩ : ∃ q, m = q + 1 := ⟨m - 1, by omega⟩
    obtain rfl : i = cs.length := by omega
    have : ¬ ((cs.length : Int) < cs.length) := by omega
    refine ⟨k, ?_, hk⟩
    simp only [G_skirmishref14_nearest_0, encC_len, Int.ofNat_eq_natCast, this, decide_false, cond_false]
  | r + 1, m, i, k, h1, h2, hk => by
    obtain ⟨m, rfl⟩ : ∃ q, m = q + 1 := ⟨m - 1, by omega⟩
    have d1 : (i : Int) < cs.length := by omega
    have d2 : (0 : Int) ≤ i := by omega
    have g1 := encC_get (cs := cs) (k := i) (by omega)
    have g2 := encO_get (st := st) (k := i) (by omega)
    have w : wr ((i : Int) + 1) = ((i + 1 : Nat) : Int) := wr_suc i (by omega)
    simp only [G_skirmishref14_nearest_0, encC_len, Int.ofNat_eq_natCast, d1, d2, decide_true, cond_true, Int.toNat_natCast, g1, g2, Option.bind_some, chk_b, cB_b, chk_i, cI_i, w]
    cases hs : sg st i with
    | true =>
      simp only [Bool.not_true, cond_false]
      refine near_G cs st hl hn r m (i + 1) k (by omega) (by omega) ?_
      rcases hk with ⟨a, b⟩ | ⟨q, a, b, c, e, f⟩
      · refine .inl ⟨a, fun j hj => ?_⟩
        by_cases e : j = i
        · subst e; exact .inl hs
        · exact b j (by omega)
      · refine .inr ⟨q, a, by omega, c, e, fun j hj z1 z2 => ?_⟩
        by_cases e : j = i
        · subst e; rw [hs] at z1; cases z1
        · exact f j (by omega) z1 z2
    | false =>
      simp only [Bool.not_false, cond_true]
      by_cases h0 : cg cs i ≥ 0
      · simp only [h0, decide_true, cond_true]
        rcases hk with ⟨a, b⟩ | ⟨q, a, b, c, e, f⟩
        · subst a
          have : (-1 : Int) < 0 := by omega
          simp only [this, decide_true, cond_true]
          refine near_G cs st hl hn r m (i + 1) i (by omega) (by omega) (.inr ⟨i, rfl, by omega, hs, h0, fun j hj h1 h2 => ?_⟩)
          by_cases e : j = i
          · subst e; omega
          · rcases b j (by omega) with t | t
            · rw [t] at h1; cases h1
            · omega
        · subst a
          have n1 : ¬ ((q : Int) < 0) := by omega
          have n2 : (0 : Int) ≤ q := by omega
          have g3 := encC_get (cs := cs) (k := q) (by omega)
          simp only [n1, n2, decide_true, decide_false, cond_true, cond_false, Int.toNat_natCast, g3, Option.bind_some, chk_i, cI_i]
          by_cases h3 : cg cs i < cg cs q
          · simp only [h3, decide_true, cond_true]
            refine near_G cs st hl hn r m (i + 1) i (by omega) (by omega) (.inr ⟨i, rfl, by omega, hs, h0, fun j hj h1 h2 => ?_⟩)
            by_cases e : j = i
            · subst e; omega
            · have := f j (by omega) h1 h2
              omega
          · simp only [h3, decide_false, cond_false]
            refine near_G cs st hl hn r m (i + 1) q (by omega) (by omega) (.inr ⟨q, rfl, by omega, c, e, fun j hj h1 h2 => ?_⟩)
            by_cases e : j = i
            · subst e; omega
            · exact f j (by omega) h1 h2
      · simp only [h0, decide_false, cond_false]
        refine near_G cs st hl hn r m (i + 1) k (by omega) (by omega) ?_
        rcases hk with ⟨a, b⟩ | ⟨q, a, b, c, e, f⟩
        · refine .inl ⟨a, fun j hj => ?_⟩
          by_cases e : j = i
          · subst e; exact .inr (by omega)
          · exact b j (by omega)
        · refine .inr ⟨q, a, by omega, c, e, fun j hj h1 h2 => ?_⟩
          by_cases e : j = i
          · subst e; omega
          · exact f j (by omega) h1 h2
theorem nearest_r (cs : List Int) (st : List Bool) (hl : st.length = cs.length) (hn : cs.length ≤ 100000) : ∃ k, F_skirmishref14_nearest (encC cs) (encO st) = some k ∧ NearI cs st cs.length k := by
  obtain ⟨k, h1, h2⟩ := near_G cs st hl hn cs.length FU 0 (-1) (by omega) (by unfold FU; omega) (.inl ⟨rfl, fun j hj => by omega⟩)
  have h1' : G_skirmishref14_nearest_0 (encC cs) (encO st) FU (-1) 0 = some k := h1
  exact ⟨k, by simp only [F_skirmishref14_nearest, h1', Option.bind_some], h2⟩

/-! ### Spreading -/
theorem tm_pos {W H : Int} {n k : Nat} (hf : fmd W H n = true) (hk : k < n) : (W == 0) = false ∧ Int.tmod k W = px W k ∧ wr (Int.tdiv k W) = py W k := by
  obtain ⟨h1, h2⟩ := fmd_iff.1 hf
  have hs := fmd_small hf
  have e1 : px W k = (k : Int) % W := by unfold px att; rw [if_neg (by omega)]
  have e2 : py W k = (k : Int) / W := by unfold py att; rw [if_neg (by omega)]
  have hm := Int.tmod_eq_emod_of_nonneg (a := (k : Int)) (b := W) (by omega)
  have hd := Int.tdiv_eq_ediv_of_nonneg (a := (k : Int)) (b := W) (by omega)
  have b1 : 0 ≤ (k : Int) / W := Int.ediv_nonneg (by omega) (by omega)
  have b2 : (k : Int) / W ≤ k := Int.ediv_le_self _ (by omega)
  refine ⟨by simp; omega, by rw [e1, hm], ?_⟩
  rw [e2, hd]
  exact wr_in (by omega) (by omega)
theorem spread_1 (W H : Int) (cells bl : List (List AVal)) (hc : okCs cells) (hb : okB bl) (cls : Int) (c0 : List Int) (hl : c0.length = cells.length) (hf : fmd W H cells.length = true) (k : Nat) (hk : k < cells.length) (h0 : 0 ≤ cg c0 k) (hv : cg c0 k ≤ 1000000) :
    ∀ (r m d : Nat) (cs : List Int), d + r = 8 → r < m → Half (nbG W H cells bl cls) k (cg c0 k) d c0 cs →
    G_skirmishref14_Spread_1 bl cls k W H cells (px W k) (py W k) m (encC cs) d = some (encC (rlxN (nbG W H cells bl cls) k (cg c0 k) r d cs))
  | 0, m, d, cs, h1, h2, hh => by
    obtain ⟨m, rfl⟩ : ∃ q, m = q + 1 := ⟨m - 1, by omega⟩
    obtain rfl : d = 8 := by omega
    rfl
  | r + 1, m, d, cs, h1, h2, hh => by
    obtain ⟨m, rfl⟩ : ∃ q, m = q + 1 := ⟨m - 1, by omega⟩
    have ho := nbG_ok W H cells bl cls
    have d1 : (d : Int) < 8 := by omega
    have w : wr ((d : Int) + 1) = ((d + 1 : Nat) : Int) := wr_suc d (by omega)
    have ih := spread_1 W H cells bl hc hb cls c0 hl hf k hk h0 hv r m (d + 1) _ (by omega) (by omega) (Half.step ho h0 hl hh)
    have hnb := nbG_of (W := W) (H := H) (cells := cells) (bl := bl) (cls := cls) (i := k) (d := d) hk (by omega)
    have hlen := hh.len
    have kk : cg cs k = cg c0 k := by
      rcases hh.old k with q | ⟨e, u, q1, q2, q3, q4⟩
      · exact q
      · have := ho.pos _ _ _ _ q2
        omega
    simp only [G_skirmishref14_Spread_1, d1, decide_true, cond_true, Step_r W H cells bl hc hb, Option.bind_some, w]
    cases hs : (stepN W H cells bl cls (px W k) (py W k) d).2 with
    | false =>
      rw [hs] at hnb
      rw [if_neg (by simp)] at hnb
      rw [hnb] at ih
      simp only [Bool.not_false, cond_true]
      rw [rlxN, hnb]
      exact ih
    | true =>
      rw [hs, if_pos rfl] at hnb
      have hi := step_ins hs
      have hcost := step_cost hs
      obtain ⟨n1, n2⟩ := nm_lt hi.2
      rw [rlxN]
      rw [hnb] at ih ⊢
      generalize hq : stp (px W k) (py W k) d = q at *
      generalize hw : (stepN W H cells bl cls (px W k) (py W k) d).1 = u at *
      have e0 : wr (wr (q.2 * W) + q.1) = ((nm W q.1 q.2 : Nat) : Int) := by rw [wr_mul hi.2, n2]
      generalize nm W q.1 q.2 = j at *
      have l1 : (j : Int) < cs.length := by omega
      have l2 : (0 : Int) ≤ j := by omega
      have l3 : (k : Int) < cs.length := by omega
      have l4 : (0 : Int) ≤ k := by omega
      have g1 := encC_get (cs := cs) (k := j) (by omega)
      have g2 := encC_get (cs := cs) (k := k) (by omega)
      have w2 : wr (cg c0 k + u) = cg c0 k + u := wr_in (by omega) (by omega)
      simp only [Bool.not_true, cond_false, beside_r, hq, Option.bind_some, e0, encC_len, Int.ofNat_eq_natCast, l1, l2, l3, l4, decide_true, Bool.and_self, cond_true, Int.toNat_natCast, g1, g2, chk_i, cI_i, kk, w2, encC_set]
      simp only [rlx] at ih ⊢
      by_cases hlt : cg cs j < 0
      · rw [if_pos (Or.inl hlt)] at ih ⊢
        simp only [hlt, decide_true, cond_true]
        exact ih
      · by_cases hgt : cg cs j > cg c0 k + u
        · have hor : cg cs j < 0 ∨ cg c0 k + u < cg cs j := .inr hgt
          rw [if_pos hor] at ih ⊢
          simp only [hlt, hgt, decide_true, decide_false, cond_true, cond_false]
          exact ih
        · have hor : ¬ (cg cs j < 0 ∨ cg c0 k + u < cg cs j) := by omega
          rw [if_neg hor] at ih ⊢
          simp only [hlt, hgt, decide_false, cond_false]
          exact ih
theorem spread_0 (W H : Int) (cells bl : List (List AVal)) (hc : okCs cells) (hb : okB bl) (cls : Int) (hf : fmd W H cells.length = true) (src : Nat → Prop) :
    ∀ (r m : Nat) (cs : List Int) (S : List Nat) (st : List Bool) (k : Int), S.length + r = cells.length → r + 1 < m → Part cells.length (nbG W H cells bl cls) src cs S → st.length = cells.length → (∀ i, sg st i = true ↔ i ∈ S) →
    (∀ i j, i ∈ S → j ∉ S → 0 ≤ cg cs j → cg cs i ≤ cg cs j) → NearI cs st cells.length k →
    ∃ cs', G_skirmishref14_Spread_0 bl cls W H cells m (encC cs) (encO st) k = some (encC cs') ∧ cs'.length = cells.length ∧ Right cells.length (nbG W H cells bl cls) src (cg cs') := by
  intro r
  induction r with
  | zero =>
    intro m cs S st k h1 h2 P hst hS hord hk
    obtain ⟨m, rfl⟩ : ∃ q, m = q + 1 := ⟨m - 1, by omega⟩
    rcases hk with ⟨rfl, hk⟩ | ⟨q, rfl, a, b, c, e⟩
    · refine ⟨cs, ?_, P.len, P.done fun j hj => ?_⟩
      · have : ¬ ((-1 : Int) ≥ 0) := by omega
        simp only [G_skirmishref14_Spread_0, this, decide_false, cond_false]
      · have hl := cg_lt hj
        rw [P.len] at hl
        rcases hk j hl with t | t
        · exact (hS j).1 t
        · omega
    · -- all are settled
      exfalso
      have hq : q ∉ S := fun t => by rw [(hS q).2 t] at b; cases b
      have := nodup_len cells.length (q :: S) (List.nodup_cons.2 ⟨hq, P.nodup⟩) fun i hi => by
        rcases List.mem_cons.1 hi with rfl | hi
        · exact a
        · exact (P.sub i hi).1
      rw [List.length_cons] at this
      omega
  | succ r ih =>
    intro m cs S st k h1 h2 P hst hS hord hk
    obtain ⟨m, rfl⟩ : ∃ q, m = q + 1 := ⟨m - 1, by omega⟩
    rcases hk with ⟨rfl, hk⟩ | ⟨q, rfl, a, b, c, e⟩
    · refine ⟨cs, ?_, P.len, P.done fun j hj => ?_⟩
      · have : ¬ ((-1 : Int) ≥ 0) := by omega
        simp only [G_skirmishref14_Spread_0, this, decide_false, cond_false]
      · have hl := cg_lt hj
        rw [P.len] at hl
        rcases hk j hl with t | t
        · exact (hS j).1 t
        · omega
    · have hs := fmd_small hf
      have hq : q ∉ S := fun t => by rw [(hS q).2 t] at b; cases b
      have ho := nbG_ok W H cells bl cls
      have p1 : (q : Int) ≥ 0 := by omega
      have p2 : (q : Int) < st.length := by omega
      obtain ⟨t1, t2, t3⟩ := tm_pos hf a
      have hbig := P.big q
      have hs1 := spread_1 W H cells bl hc hb cls cs P.len hf q a c (by omega) 8 FU 0 cs (by omega) (by unfold FU; omega) (Half.zero _ _ _ _)
      have hs1' : G_skirmishref14_Spread_1 bl cls q W H cells (px W q) (py W q) FU (encC cs) 0 = some (encC (rlxN (nbG W H cells bl cls) q (cg cs q) 8 0 cs)) := hs1
      have hd := rlxN_half ho c P.len 8 0 cs (Half.zero (nbG W H cells bl cls) q (cg cs q) cs)
      rw [Nat.zero_add] at hd
      generalize hds : rlxN (nbG W H cells bl cls) q (cg cs q) 8 0 cs = ds at *
      have hle : ∀ i, i ∈ S → cg cs i ≤ cg cs q := fun i hi => hord i q hi hq c
      have P2 := Part.settle ho P a c hq hle hd
      have hst2 : (st.set q true).length = ds.length := by rw [List.length_set, hst, P2.len]
      have hds2 := P2.len
      obtain ⟨k2, n1, n2⟩ := nearest_r ds (st.set q true) hst2 (by omega)
      rw [P2.len] at n2
      have hS2 : ∀ i, sg (st.set q true) i = true ↔ i ∈ q :: S := fun i => by
        rw [sg_set i true (by omega), List.mem_cons]
        by_cases hi : q = i
        · simp [hi]
        · rw [if_neg hi, hS i]
          exact ⟨fun t => .inr t, fun t => t.resolve_left fun z => hi z.symm⟩
      obtain ⟨cs', g1, g2, g3⟩ := ih m ds (q :: S) (st.set q true) k2 (by rw [List.length_cons]; omega) (by omega) P2 (by rw [List.length_set, hst]) hS2 (fun i j hi hj h0 => by
        rw [List.mem_cons, not_or] at hj
        -- what is settled keeps its cost, what is not costs at least as much as 'q'
        have keep : ∀ i, 0 ≤ cg cs i → cg cs i ≤ cg cs q → cg ds i = cg cs i := fun i a b => by
          rcases hd.old i with z | ⟨e, w, q1, q2, q3, q4⟩
          · exact z
          · have := ho.pos _ _ _ _ q2
            omega
        have hi' : cg ds i ≤ cg cs q := by
          rcases List.mem_cons.1 hi with rfl | hi
          · rw [keep _ c (by omega)]; omega
          · rw [keep i (P.sub i hi).2.1 (hle i hi)]; exact hle i hi
        rcases hd.old j with z | ⟨u, w, q1, q2, q3, q4⟩
        · have hl : j < cells.length := by have := cg_lt h0; omega
          have nj : sg st j = false := by
            cases hz : sg st j with
            | false => rfl
            | true => exact absurd ((hS j).1 hz) hj.2
          have := e j hl nj (by omega)
          omega
        · have := ho.pos _ _ _ _ q2
          omega) n2
      refine ⟨cs', ?_, g2, g3⟩
      simp only [G_skirmishref14_Spread_0, p1, decide_true, cond_true, encO_len, Int.ofNat_eq_natCast, p2, Bool.and_self, t1, cond_false, t2, t3, hs1', Option.bind_some, Int.toNat_natCast, roRows, encO_set, n1, g1]
theorem spread_r (W H : Int) (cells bl : List (List AVal)) (hc : okCs cells) (hb : okB bl) (cls : Int) (hf : fmd W H cells.length = true) (src : Nat → Prop) (cs : List Int) (hl : cs.length = cells.length)
    (hs : ∀ i, i < cells.length → (src i ∧ cg cs i = 0) ∨ (¬ src i ∧ cg cs i = -1)) :
    ∃ cs', F_skirmishref14_Spread W H cells bl cls (encC cs) = some (encC cs') ∧ cs'.length = cells.length ∧ Right cells.length (nbG W H cells bl cls) src (cg cs') := by
  have hsm := fmd_small hf
  obtain ⟨k, n1, n2⟩ := nearest_r cs (List.replicate cs.length false) (by simp) (by omega)
  rw [hl] at n1 n2
  obtain ⟨cs', g1, g2, g3⟩ := spread_0 W H cells bl hc hb cls hf src cells.length FU cs [] (List.replicate cells.length false) k (by simp) (by unfold FU; omega) (Part.start hl hs) (by simp) (fun i => by simp [sg_rep]) (fun i j hi => by cases hi) n2
  refine ⟨cs', ?_, g2, g3⟩
  have e1 : (0 : Int) ≤ cells.length := by omega
  have e2 : (cells.length : Int) ≤ 9223372036854775807 := by omega
  have e3 : (1 : Int) * (cells.length : Int) ≤ 140737488355328 := by omega
  simp only [F_skirmishref14_Spread, encC_len, hl, Int.ofNat_eq_natCast, e1, e2, e3, decide_true, Bool.and_self, cond_true, Int.toNat_natCast, encO_rep, roRows, n1, Option.bind_some, g1]
end Go.Proofs.YteiniiakpdijmaaDoor.AI
