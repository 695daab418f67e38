/- What the functions of chapter 14 answer: paths and regions. -/
import Derived.Test.YtclfphmehilaeaaDoorS14a
namespace Go.Proofs.YtclfphmehilaeaaDoor.AI
open Go.RowKit
set_option linter.unusedVariables false
set_option linter.unusedSimpArgs false

/-! ### Path -/
theorem idx_s {W H : Int} {n : Nat} {x y : Int} (hi : ins W H n x y = true) : wr (wr (y * W) + x) = ((nm W x y : Nat) : Int) := by rw [wr_mul hi, (nm_lt hi).2]
theorem pathR_1 (W H : Int) (cells bl : List (List AVal)) (hc : okCs cells) (hb : okB bl) (cls : Int) (hf : fmd W H cells.length = true) (cs : List Int) (hl : cs.length = cells.length) (hbnd : ∀ k, -1 ≤ cg cs k ∧ cg cs k ≤ 1000000) (b : Nat) (hbn : b < cells.length) (i : Nat) (hi : i < cells.length) (hib : i ≠ b) (l : List Nat) (hll : l.length ≤ 60000) (e : Nat) :
    ∀ (r m d : Nat), d + r = 8 → r < m → dN (nbG W H cells bl cls) cs i r d = some e → ∃ m', m ≤ m' + r ∧
      G_skirmishref14_Path_0 (encC cs) bl cls W H cells (px W b) (py W b) m (encP W l) d (px W i) (py W i) = G_skirmishref14_Path_0 (encC cs) bl cls W H cells (px W b) (py W b) m' (encP W l ++ [[i64 (stp (px W i) (py W i) e).1, i64 (stp (px W i) (py W i) e).2]]) 0 (stp (px W i) (py W i) e).1 (stp (px W i) (py W i) e).2
  | 0, m, d, h1, h2, h3 => by cases h3
  | r + 1, m, d, h1, h2, h3 => by
    obtain ⟨m, rfl⟩ : ∃ q, m = q + 1 := ⟨m - 1, by omega⟩
    have d1 : (d : Int) < 8 := by omega
    have w : wr ((d : Int) + 1) = ((d + 1 : Nat) : Int) := wr_suc d (by omega)
    have hnb := nbG_of (W := W) (H := H) (cells := cells) (bl := bl) (cls := cls) (i := i) (d := d) hi (by omega)
    have hap := at_pos (j := b) (pos_ins hf hi) hbn
    rw [nm_pos hf, decide_eq_false hib] at hap
    have hxi := idx_s (pos_ins hf hi)
    rw [nm_pos hf] at hxi
    have gi := encC_get (cs := cs) (k := i) (by omega)
    have li1 : (0 : Int) ≤ i := by omega
    have li2 : (i : Int) < (cs.length : Nat) := by omega
    cases hs : (stepN W H cells bl cls (px W i) (py W i) d).2 with
    | false =>
      rw [hs, if_neg (by simp)] at hnb
      unfold dN at h3
      rw [hnb] at h3
      obtain ⟨m', x, y⟩ := pathR_1 W H cells bl hc hb cls hf cs hl hbnd b hbn i hi hib l hll e r m (d + 1) (by omega) (by omega) h3
      refine ⟨m', by omega, ?_⟩
      rw [← y]
      simp only [G_skirmishref14_Path_0, hap, Bool.not_false, cond_true, d1, decide_true, Step_r W H cells bl hc hb, beside_r, Option.bind_some, hs, cond_false, w]
    | true =>
      rw [hs, if_pos rfl] at hnb
      have hin := step_ins hs
      have hcost := step_cost hs
      have hxj := idx_s hin.2
      have nj := nm_lt hin.2
      unfold dN at h3
      rw [hnb] at h3
      simp only at h3
      generalize hq : stp (px W i) (py W i) d = q at *
      generalize hu : (stepN W H cells bl cls (px W i) (py W i) d).1 = u at *
      generalize nm W q.1 q.2 = j at *
      have gj := encC_get (cs := cs) (k := j) (by omega)
      have lj1 : (0 : Int) ≤ j := by omega
      have lj2 : (j : Int) < (cs.length : Nat) := by omega
      have b1 := hbnd i
      have ws : wr (cg cs i - u) = cg cs i - u := wr_in (by omega) (by omega)
      by_cases hk : cg cs j + u = cg cs i
      · rw [if_pos hk] at h3
        simp only [Option.some.injEq] at h3
        subst h3
        have hbq : (cg cs j == cg cs i - u) = true := by rw [beq_iff_eq]; omega
        refine ⟨m, by omega, ?_⟩
        simp only [G_skirmishref14_Path_0, hap, Bool.not_false, cond_true, d1, decide_true, Step_r W H cells bl hc hb, beside_r, Option.bind_some, hs, hq, hu, hxj, hxi, lj1, lj2, li1, li2, encC_len, Int.ofNat_eq_natCast, Bool.and_self, Int.toNat_natCast, gj, gi, chk_i, cI_i, ws, hbq, encP_len, room16 (show l.length + 1 ≤ 100000 by omega)]
      · rw [if_neg hk] at h3
        obtain ⟨m', x, y⟩ := pathR_1 W H cells bl hc hb cls hf cs hl hbnd b hbn i hi hib l hll e r m (d + 1) (by omega) (by omega) h3
        refine ⟨m', by omega, ?_⟩
        rw [← y]
        have hbq : (cg cs j == cg cs i - u) = false := by rw [beq_eq_false_iff_ne]; omega
        simp only [G_skirmishref14_Path_0, hap, Bool.not_false, cond_true, d1, decide_true, Step_r W H cells bl hc hb, beside_r, Option.bind_some, hs, hq, hu, hxj, hxi, lj1, lj2, li1, li2, encC_len, Int.ofNat_eq_natCast, Bool.and_self, Int.toNat_natCast, gj, gi, chk_i, cI_i, ws, hbq, cond_false, w]
theorem pathR_0 (W H : Int) (cells bl : List (List AVal)) (hc : okCs cells) (hb : okB bl) (cls : Int) (hf : fmd W H cells.length = true) (cs : List Int) (hl : cs.length = cells.length) (hbnd : ∀ k, -1 ≤ cg cs k ∧ cg cs k ≤ 1000000) (b : Nat) (hbn : b < cells.length) (hr : Right cells.length (nbG W H cells bl cls) (· = b) (cg cs)) :
    ∀ (f i m : Nat) (l : List Nat), i < cells.length → 0 ≤ cg cs i → cg cs i < 10 * f → f ≤ 50000 → 9 * f < m → l.length + f ≤ 60000 →
    G_skirmishref14_Path_0 (encC cs) bl cls W H cells (px W b) (py W b) m (encP W l) 0 (px W i) (py W i) = some (encP W (l ++ wk (nbG W H cells bl cls) cs f i))
  | 0, i, m, l, hi, h0, hf', h3, h4, h5 => by omega
  | f + 1, i, m, l, hi, h0, hf', h3, h4, h5 => by
    have ho := nbG_ok W H cells bl cls
    have hz := hr.zero_iff ho hi
    have hap := at_pos (j := b) (pos_ins hf hi) hbn
    rw [nm_pos hf] at hap
    unfold wk
    by_cases h : i = b
    · have e := hz.2 h
      obtain ⟨m, rfl⟩ : ∃ q, m = q + 1 := ⟨m - 1, by omega⟩
      rw [if_pos (by omega), List.append_nil]
      rw [decide_eq_true h] at hap
      simp only [G_skirmishref14_Path_0, hap, Bool.not_true, cond_false]
    · have hne : ¬ cg cs i ≤ 0 := fun q => h (hz.1 (by omega))
      rw [if_neg hne]
      obtain ⟨d, j, w, k1, k2, k3, k4, k5, k6, k7, k8⟩ := nxt_some ho (nbG_sym W H cells bl cls) hr hi (by omega)
      obtain ⟨m', x, y⟩ := pathR_1 W H cells bl hc hb cls hf cs hl hbnd b hbn i hi h l (by omega) d 8 m 0 (by omega) (by omega) k1
      obtain ⟨y1, y2, y3, y4⟩ := nbG_some k3
      have hs2 := step_ins (W := W) (H := H) (cells := cells) (bl := bl) (cls := cls) (x := px W i) (y := py W i) (d := d) (by rw [y3])
      have p := pos_nm hs2.2
      rw [← y4] at p
      rw [k4]
      have ih := pathR_0 W H cells bl hc hb cls hf cs hl hbnd b hbn hr f j m' (l ++ [j]) k5 k6 (by omega) (by omega) (by omega) (by rw [List.length_append, List.length_singleton]; omega)
      rw [List.append_assoc] at ih
      have y' : G_skirmishref14_Path_0 (encC cs) bl cls W H cells (px W b) (py W b) m (encP W l) 0 (px W i) (py W i) = _ := y
      rw [y', ← p.1, ← p.2, encP_app, ih]
      rfl
/-- A path, its cost, an error. -/
noncomputable def PN (W H : Int) (cells bl : List (List AVal)) (cls ax ay bx b : Int) : List (List AVal) × Int × Int :=
  bif !(vmap W H cells && cok cls) then ([], 0, 1) else bif !(inn W H ax ay && inn W H bx b) then ([], 0, 1) else
  bif !(opn W H cells bl cls ax ay && opn W H cells bl cls bx b) then ([], 0, 9) else
  bif decide (cg (D W H cells bl cls (nm W bx b)) (nm W ax ay) < 0) then ([], 0, 22) else
  (encP W (nm W ax ay :: wk (nbG W H cells bl cls) (D W H cells bl cls (nm W bx b)) 50000 (nm W ax ay)), cg (D W H cells bl cls (nm W bx b)) (nm W ax ay), 0)
theorem D_bnd {W H : Int} {cells bl : List (List AVal)} {cls : Int} {j : Nat} {cs : List Int} (h : RC W H cells bl cls j cs) (hj : j < cells.length) (hf : fmd W H cells.length = true) : (∀ k, -1 ≤ cg cs k) := by
  intro k
  by_cases hk : k < cells.length
  · rcases h.2 with ⟨a, b⟩ | ⟨a, b⟩
    · rw [b, cg_rep]; omega
    · exact b.low k hk
  · unfold cg
    rw [List.getD_eq_getElem?_getD, List.getElem?_eq_none (by rw [h.1]; omega)]
    simp
/-- Ways are no longer than there are cells: so costs are small. -/
theorem Right.small {n : Nat} {nb : Nb} {src : Nat → Prop} {c : Nat → Int} (ho : NbOk n nb) (hr : Right n nb src c) : ∀ (k : Nat) (S : List Nat), S.Nodup → S.length + k = n → (∀ i, i ∈ S → i < n ∧ 0 ≤ c i) → (∀ i j, i ∈ S → j < n → j ∉ S → 0 ≤ c j → c i ≤ c j) → (∀ i, i ∈ S → c i ≤ 19 * S.length) → ∀ j, j < n → c j ≤ 19 * n
  | 0, S, h1, h2, h3, h4, h5, j, hj => by
    by_cases hS : j ∈ S
    · have := h5 j hS
      omega
    · exfalso
      have := nodup_len n (j :: S) (List.nodup_cons.2 ⟨hS, h1⟩) fun i hi => by
        rcases List.mem_cons.1 hi with rfl | hi
        · exact hj
        · exact (h3 i hi).1
      rw [List.length_cons] at this
      omega
  | k + 1, S, h1, h2, h3, h4, h5, j, hj => by
    -- the least of those outside
    by_cases hex : ∃ q, q < n ∧ q ∉ S ∧ 0 ≤ c q
    · have hmin : ∃ q, q < n ∧ q ∉ S ∧ 0 ≤ c q ∧ ∀ p, p < n → p ∉ S → 0 ≤ c p → c q ≤ c p := by
        obtain ⟨q, a1, a2, a3⟩ := hex
        have : ∀ (m : Nat) (q : Nat), q < n → q ∉ S → 0 ≤ c q → c q ≤ m → ∃ q, q < n ∧ q ∉ S ∧ 0 ≤ c q ∧ ∀ p, p < n → p ∉ S → 0 ≤ c p → c q ≤ c p := by
          intro m
          induction m using Nat.strongRecOn with
          | ind m ih =>
            intro q a1 a2 a3 a4
            by_cases hb : ∃ p, p < n ∧ p ∉ S ∧ 0 ≤ c p ∧ c p < c q
            · obtain ⟨p, b1, b2, b3, b4⟩ := hb
              exact ih (c p).toNat (by omega) p b1 b2 b3 (by omega)
            · refine ⟨q, a1, a2, a3, fun p c1 c2 c3 => ?_⟩
              by_cases hlt : c p < c q
              · exact absurd ⟨p, c1, c2, c3, hlt⟩ hb
              · omega
        exact this (c q).toNat q a1 a2 a3 (by omega)
      obtain ⟨q, a1, a2, a3, a4⟩ := hmin
      have hq : c q ≤ 19 * (S.length + 1) := by
        rcases hr.back q a1 a3 with ⟨_, z⟩ | ⟨i, d, w, b1, b2, b3, b4, b5⟩
        · omega
        · have hw := ho.pos _ _ _ _ b3
          by_cases hi : i ∈ S
          · have := h5 i hi
            omega
          · have := a4 i b1 hi b4
            omega
      refine Right.small ho hr k (q :: S) (List.nodup_cons.2 ⟨a2, h1⟩) (by rw [List.length_cons]; omega) ?_ ?_ ?_ j hj
      · intro i hi
        rcases List.mem_cons.1 hi with rfl | hi
        · exact ⟨a1, a3⟩
        · exact h3 i hi
      · intro i p hi hp hn hz
        rw [List.mem_cons, not_or] at hn
        rcases List.mem_cons.1 hi with rfl | hi
        · exact a4 p hp hn.2 hz
        · exact h4 i p hi hp hn.2 hz
      · intro i hi
        rw [List.length_cons]
        rcases List.mem_cons.1 hi with rfl | hi
        · omega
        · have := h5 i hi
          omega
    · by_cases hS : j ∈ S
      · have := h5 j hS
        omega
      · by_cases h0 : 0 ≤ c j
        · exact absurd ⟨j, hj, hS, h0⟩ hex
        · omega
theorem Right.bound {n : Nat} {nb : Nb} {src : Nat → Prop} {c : Nat → Int} (ho : NbOk n nb) (hr : Right n nb src c) (j : Nat) (hj : j < n) : c j ≤ 19 * n :=
  Right.small ho hr n [] List.nodup_nil (by simp) (fun i hi => by cases hi) (fun i j hi => by cases hi) (fun i hi => by cases hi) j hj
theorem D_all {W H : Int} {cells bl : List (List AVal)} {cls : Int} {j : Nat} {cs : List Int} (h : RC W H cells bl cls j cs) (hj : j < cells.length) (hf : fmd W H cells.length = true) : ∀ k, -1 ≤ cg cs k ∧ cg cs k ≤ 19456 := by
  intro k
  refine ⟨D_bnd h hj hf k, ?_⟩
  have hs := fmd_small hf
  by_cases hk : k < cells.length
  · rcases h.2 with ⟨a, b⟩ | ⟨a, b⟩
    · rw [b, cg_rep]; omega
    · have := Right.bound (nbG_ok W H cells bl cls) b k hk
      omega
  · unfold cg
    rw [List.getD_eq_getElem?_getD, List.getElem?_eq_none (by rw [h.1]; omega)]
    simp
theorem Path_g (W H : Int) (cells bl : List (List AVal)) (hc : okCs cells) (hb : okB bl) (cls ax ay bx b : Int) : F_astar_Path W H cells bl cls ax ay bx b = some (PN W H cells bl cls ax ay bx b) := by
  simp only [F_astar_Path, valid_a W H cells bl hc, cokA, inside_a, free_a W H cells bl hc hb, Option.bind_some, PN]
  cases hv : (vmap W H cells && cok cls) with
  | false => rfl
  | true =>
    rw [Bool.and_eq_true] at hv
    have hf := vmap_fmd hv.1
    simp only [Bool.not_true, cond_false]
    cases ha : inn W H ax ay with
    | false => rfl
    | true =>
      cases hb' : inn W H bx b with
      | false => rfl
      | true =>
        have ia : ins W H cells.length ax ay = true := ins_iff.2 ⟨hf, ha⟩
        have ib : ins W H cells.length bx b = true := ins_iff.2 ⟨hf, hb'⟩
        simp only [Bool.not_true, cond_false, Bool.and_self]
        cases oa : opn W H cells bl cls ax ay with
        | false => rfl
        | true =>
          cases ob : opn W H cells bl cls bx b with
          | false => rfl
          | true =>
            have na := nm_lt ia
            have nb' := nm_lt ib
            have pb := pos_nm ib
            have pa := pos_nm ia
            obtain ⟨d1, d2⟩ := D_a W H cells bl hc hb cls hf (nm W bx b) nb'.1
            rw [pb.1, pb.2] at d1
            have hat := at_s W H cells _ d2.1 ia
            simp only [Bool.not_true, cond_false, Bool.and_self, d1, Option.bind_some, hat]
            by_cases hneg : cg (D W H cells bl cls (nm W bx b)) (nm W ax ay) < 0
            · simp only [hneg, decide_true, cond_true]
            · have hr : Right cells.length (nbG W H cells bl cls) (· = nm W bx b) (cg (D W H cells bl cls (nm W bx b))) := by
                rcases d2.2 with ⟨x, y⟩ | ⟨x, y⟩
                · rw [pb.1, pb.2, ob] at x; cases x
                · exact y
              have hbd := D_all d2 nb'.1 hf
              have h0 := pathA_0 W H cells bl hc hb cls hf _ d2.1 (nm W bx b) nb'.1 hr 50000 (nm W ax ay) FU [nm W ax ay] na.1 (by omega) (by have := hbd (nm W ax ay); omega) (by omega) (by unfold FU; omega) (by simp)
              rw [pb.1, pb.2, pa.1, pa.2] at h0
              have h0' : G_astar_Path_0 (encC (D W H cells bl cls (nm W bx b))) bl cls W H cells bx b FU [[i64 ax, i64 ay]] ax ay = some (encP W (nm W ax ay :: wk (nbG W H cells bl cls) (D W H cells bl cls (nm W bx b)) 50000 (nm W ax ay))) := by
                have e : encP W [nm W ax ay] = [[i64 ax, i64 ay]] := by
                  show [[i64 (px W (nm W ax ay)), i64 (py W (nm W ax ay))]] = _
                  rw [pa.1, pa.2]
                rw [← e]
                exact h0
              simp only [hneg, decide_false, cond_false, h0', Option.bind_some]
theorem Path_r (W H : Int) (cells bl : List (List AVal)) (hc : okCs cells) (hb : okB bl) (cls ax ay bx b : Int) : F_skirmishref14_Path W H cells bl cls ax ay bx b = some (PN W H cells bl cls ax ay bx b) := by
  simp only [F_skirmishref14_Path, Valid_r W H cells hc, class_r, inside_r14, free_r W H cells bl hc hb, Option.bind_some, PN]
  cases hv : vmap W H cells with
  | false => rfl
  | true =>
    cases hk : cok cls with
    | false => rfl
    | true =>
      have hf := vmap_fmd hv
      simp only [Bool.not_true, cond_false, Bool.and_self]
      cases ha : inn W H ax ay with
      | false => rfl
      | true =>
        cases hb' : inn W H bx b with
        | false => rfl
        | true =>
          have ia : ins W H cells.length ax ay = true := ins_iff.2 ⟨hf, ha⟩
          have ib : ins W H cells.length bx b = true := ins_iff.2 ⟨hf, hb'⟩
          simp only [Bool.not_true, cond_false, Bool.and_self]
          cases oa : opn W H cells bl cls ax ay with
          | false => rfl
          | true =>
            cases ob : opn W H cells bl cls bx b with
            | false => rfl
            | true =>
              have na := nm_lt ia
              have nb' := nm_lt ib
              have pb := pos_nm ib
              have pa := pos_nm ia
              obtain ⟨d1, d2⟩ := D_a W H cells bl hc hb cls hf (nm W bx b) nb'.1
              have hR := Reach_r W H cells bl hc hb cls bx b
              rw [hv, hk, hb'] at hR
              simp only [Bool.and_self, cond_true] at hR
              have l1 : (0 : Int) ≤ (nm W ax ay : Nat) := by omega
              have hlen := d2.1
              have l2 : ((nm W ax ay : Nat) : Int) < ((D W H cells bl cls (nm W bx b)).length : Nat) := by omega
              have g := encC_get (cs := D W H cells bl cls (nm W bx b)) (k := nm W ax ay) (by omega)
              simp only [Bool.not_true, cond_false, Bool.and_self, hR, Option.bind_some, idx_s ia, l1, l2, encC_len, Int.ofNat_eq_natCast, decide_true, cond_true, Int.toNat_natCast, g, chk_i, cI_i]
              by_cases hneg : cg (D W H cells bl cls (nm W bx b)) (nm W ax ay) < 0
              · simp only [hneg, decide_true, cond_true]
              · have hr : Right cells.length (nbG W H cells bl cls) (· = nm W bx b) (cg (D W H cells bl cls (nm W bx b))) := by
                  rcases d2.2 with ⟨x, y⟩ | ⟨x, y⟩
                  · rw [pb.1, pb.2, ob] at x; cases x
                  · exact y
                have hbd := D_all d2 nb'.1 hf
                have h0 := pathR_0 W H cells bl hc hb cls hf _ d2.1 (fun k => by have := hbd k; omega) (nm W bx b) nb'.1 hr 50000 (nm W ax ay) FU [nm W ax ay] na.1 (by omega) (by have := hbd (nm W ax ay); omega) (by omega) (by unfold FU; omega) (by simp)
                rw [pb.1, pb.2, pa.1, pa.2] at h0
                have h0' : G_skirmishref14_Path_0 (encC (D W H cells bl cls (nm W bx b))) bl cls W H cells bx b FU [[i64 ax, i64 ay]] 0 ax ay = some (encP W (nm W ax ay :: wk (nbG W H cells bl cls) (D W H cells bl cls (nm W bx b)) 50000 (nm W ax ay))) := by
                  have e : encP W [nm W ax ay] = [[i64 ax, i64 ay]] := by
                    show [[i64 (px W (nm W ax ay)), i64 (py W (nm W ax ay))]] = _
                    rw [pa.1, pa.2]
                  rw [← e]
                  exact h0
                simp only [hneg, decide_false, cond_false, h0', Option.bind_some]

/-! ### Regions -/
def markN (cs : List Int) (v : Int) : Nat → Nat → List Int → List Int
  | 0, _, out => out
  | r + 1, k, out => markN cs v r (k + 1) (if 0 ≤ cg cs k then out.set k v else out)
noncomputable def regN (W H : Int) (cells bl : List (List AVal)) (cls : Int) : Nat → Nat → List Int → List Int
  | 0, _, out => out
  | r + 1, i, out => regN W H cells bl cls r (i + 1) (if cg out i ≥ 0 then out else bif opn W H cells bl cls (px W i) (py W i) then markN (D W H cells bl cls i) i cells.length 0 out else out)
theorem markN_len (cs : List Int) (v : Int) : ∀ (r k : Nat) (out : List Int), (markN cs v r k out).length = out.length
  | 0, k, out => rfl
  | r + 1, k, out => by
    rw [markN, markN_len cs v r]
    split <;> simp
theorem markN_get (cs : List Int) (v : Int) : ∀ (r k : Nat) (out : List Int) (j : Nat), j < out.length → cg (markN cs v r k out) j = if k ≤ j ∧ j < k + r ∧ 0 ≤ cg cs j then v else cg out j
  | 0, k, out, j, h => by
    rw [if_neg (by omega)]
    rfl
  | r + 1, k, out, j, h => by
    have e : (if 0 ≤ cg cs k then out.set k v else out).length = out.length := by split <;> simp
    rw [markN, markN_get cs v r (k + 1) _ j (by rw [e]; exact h)]
    by_cases h1 : k + 1 ≤ j ∧ j < k + 1 + r ∧ 0 ≤ cg cs j
    · rw [if_pos h1, if_pos (by omega)]
    · rw [if_neg h1]
      by_cases h2 : k = j
      · subst h2
        by_cases h3 : 0 ≤ cg cs k
        · rw [if_pos h3, if_pos (by omega), cg_set _ _ h, if_pos rfl]
        · rw [if_neg h3, if_neg (by omega)]
      · have hne : cg (if 0 ≤ cg cs k then out.set k v else out) j = cg out j := by
          split
          · by_cases hk : k < out.length
            · rw [cg_set _ _ hk, if_neg h2]
            · rw [List.set_eq_of_length_le (by omega)]
          · rfl
        have hcond : ¬ (k ≤ j ∧ j < k + (r + 1) ∧ 0 ≤ cg cs j) := by omega
        rw [hne, if_neg hcond]
theorem fillA_G (n : Nat) (hn : n ≤ 100000) : ∀ (r m k : Nat) (cs : List Int), cs.length = n → k + r = n → r < m → (∀ j, j < k → cg cs j = -1) → G_astar_Regions_0 n m (encC cs) k = some (encC (List.replicate n (-1)))
  | 0, m, k, cs, hl, h1, h2, h => by
    obtain ⟨m, rfl⟩ : ∃ q, m = q + 1 := ⟨m - 1, by omega⟩
    obtain rfl : k = n := by omega
    have : ¬ ((k : Int) < k) := by omega
    have e : cs = List.replicate k (-1) := cost_ext hl (by simp) fun j hj => by rw [h j hj, cg_rep]
    simp only [G_astar_Regions_0, this, decide_false, cond_false]
    rw [e]
  | r + 1, m, k, cs, hl, h1, h2, h => by
    obtain ⟨m, rfl⟩ : ∃ q, m = q + 1 := ⟨m - 1, by omega⟩
    have d1 : (k : Int) < n := by omega
    have d2 : (0 : Int) ≤ k := by omega
    have ih := fillA_G n hn r m (k + 1) (cs.set k (-1)) (by rw [List.length_set]; exact hl) (by omega) (by omega) fun j hj => by
      rw [cg_set j _ (by omega)]
      split
      · rfl
      · exact h j (by omega)
    have w : wr ((k : Int) + 1) = ((k + 1 : Nat) : Int) := wr_suc k (by omega)
    simp only [G_astar_Regions_0, d1, d2, encC_len, hl, Int.ofNat_eq_natCast, decide_true, Bool.and_self, cond_true, Int.toNat_natCast, encC_set, w, ih]
theorem markA (cs : List Int) (v : Int) (hn : cs.length ≤ 100000) : ∀ (r m k : Nat) (out : List Int), out.length = cs.length → k + r = cs.length → r < m → G_astar_Regions_2 (encC cs) v cs.length m (encC out) k = some (encC (markN cs v r k out))
  | 0, m, k, out, hl, h1, h2 => by
    obtain ⟨m, rfl⟩ : ∃ q, m = q + 1 := ⟨m - 1, by omega⟩
    have : ¬ ((k : Int) < cs.length) := by omega
    simp only [G_astar_Regions_2, this, decide_false, cond_false, markN]
  | r + 1, m, k, out, hl, h1, h2 => by
    obtain ⟨m, rfl⟩ : ∃ q, m = q + 1 := ⟨m - 1, by omega⟩
    have d1 : (k : Int) < cs.length := by omega
    have d2 : (0 : Int) ≤ k := by omega
    have d3 : (k : Int) < out.length := by omega
    have g := encC_get (cs := cs) (k := k) (by omega)
    have w : wr ((k : Int) + 1) = ((k + 1 : Nat) : Int) := wr_suc k (by omega)
    simp only [G_astar_Regions_2, d1, d2, d3, encC_len, Int.ofNat_eq_natCast, decide_true, Bool.and_self, cond_true, Int.toNat_natCast, g, Option.bind_some, chk_i, cI_i, encC_set, w, markN]
    by_cases h0 : 0 ≤ cg cs k
    · have h0' : cg cs k ≥ 0 := h0
      simp only [h0', decide_true, cond_true]
      rw [if_pos trivial]
      exact markA cs v hn r m (k + 1) (out.set k v) (by rw [List.length_set]; exact hl) (by omega) (by omega)
    · have h0' : ¬ cg cs k ≥ 0 := h0
      simp only [h0', decide_false, cond_false]
      rw [if_neg id]
      exact markA cs v hn r m (k + 1) out hl (by omega) (by omega)
theorem markR (cs : List Int) (v : Int) (hn : cs.length ≤ 100000) : ∀ (r m k : Nat) (out : List Int), out.length = cs.length → k + r = cs.length → r < m → G_skirmishref14_Regions_1 (encC cs) v m (encC out) k = some (encC (markN cs v r k out))
  | 0, m, k, out, hl, h1, h2 => by
    obtain ⟨m, rfl⟩ : ∃ q, m = q + 1 := ⟨m - 1, by omega⟩
    have : ¬ ((k : Int) < cs.length) := by omega
    simp only [G_skirmishref14_Regions_1, encC_len, Int.ofNat_eq_natCast, this, decide_false, cond_false, markN]
  | r + 1, m, k, out, hl, h1, h2 => by
    obtain ⟨m, rfl⟩ : ∃ q, m = q + 1 := ⟨m - 1, by omega⟩
    have d1 : (k : Int) < cs.length := by omega
    have d2 : (0 : Int) ≤ k := by omega
    have d3 : (k : Int) < out.length := by omega
    have g := encC_get (cs := cs) (k := k) (by omega)
    have w : wr ((k : Int) + 1) = ((k + 1 : Nat) : Int) := wr_suc k (by omega)
    simp only [G_skirmishref14_Regions_1, d1, d2, d3, encC_len, Int.ofNat_eq_natCast, decide_true, Bool.and_self, cond_true, Int.toNat_natCast, g, Option.bind_some, chk_i, cI_i, encC_set, w, markN]
    by_cases h0 : 0 ≤ cg cs k
    · have h0' : cg cs k ≥ 0 := h0
      simp only [h0', decide_true, cond_true]
      rw [if_pos trivial]
      exact markR cs v hn r m (k + 1) (out.set k v) (by rw [List.length_set]; exact hl) (by omega) (by omega)
    · have h0' : ¬ cg cs k ≥ 0 := h0
      simp only [h0', decide_false, cond_false]
      rw [if_neg id]
      exact markR cs v hn r m (k + 1) out hl (by omega) (by omega)
theorem regA (W H : Int) (cells bl : List (List AVal)) (hc : okCs cells) (hb : okB bl) (cls : Int) (hf : fmd W H cells.length = true) : ∀ (r m i : Nat) (out : List Int), out.length = cells.length → i + r = cells.length → r < m → G_astar_Regions_1 cells.length W W H cells bl cls m (encC out) i = some (encC (regN W H cells bl cls r i out))
  | 0, m, i, out, hl, h1, h2 => by
    obtain ⟨m, rfl⟩ : ∃ q, m = q + 1 := ⟨m - 1, by omega⟩
    have : ¬ ((i : Int) < cells.length) := by omega
    simp only [G_astar_Regions_1, this, decide_false, cond_false, regN]
  | r + 1, m, i, out, hl, h1, h2 => by
    obtain ⟨m, rfl⟩ : ∃ q, m = q + 1 := ⟨m - 1, by omega⟩
    have hs := fmd_small hf
    have d1 : (i : Int) < cells.length := by omega
    have d2 : (0 : Int) ≤ i := by omega
    have d3 : (i : Int) < out.length := by omega
    have g := encC_get (cs := out) (k := i) (by omega)
    have w : wr ((i : Int) + 1) = ((i + 1 : Nat) : Int) := wr_suc i (by omega)
    have ea : F_grid_At W i = some (px W i, py W i) := at_g W i (by omega)
    obtain ⟨e1, e2⟩ := D_a W H cells bl hc hb cls hf i (by omega)
    simp only [G_astar_Regions_1, ea, d1, d2, d3, encC_len, Int.ofNat_eq_natCast, decide_true, Bool.and_self, cond_true, Int.toNat_natCast, g, Option.bind_some, chk_i, cI_i, w, free_a W H cells bl hc hb, regN]
    by_cases h0 : cg out i ≥ 0
    · simp only [h0, decide_true, cond_true]
      rw [if_pos trivial]
      exact regA W H cells bl hc hb cls hf r m (i + 1) out hl (by omega) (by omega)
    · simp only [h0, decide_false, cond_false]
      rw [if_neg (by simp)]
      cases ho : opn W H cells bl cls (px W i) (py W i) with
      | false =>
        simp only [Bool.not_false, cond_true, cond_false]
        exact regA W H cells bl hc hb cls hf r m (i + 1) out hl (by omega) (by omega)
      | true =>
        have hmk := markA (D W H cells bl cls i) i (by rw [e2.1]; omega) cells.length FU 0 out (by rw [e2.1]; exact hl) (by rw [e2.1]; omega) (by unfold FU; omega)
        have hmk' : G_astar_Regions_2 (encC (D W H cells bl cls i)) i (D W H cells bl cls i).length FU (encC out) 0 = _ := hmk
        simp only [Bool.not_true, cond_false, cond_true, e1, Option.bind_some, encC_len, Int.ofNat_eq_natCast, hmk']
        exact regA W H cells bl hc hb cls hf r m (i + 1) _ (by rw [markN_len]; exact hl) (by omega) (by omega)
theorem regR (W H : Int) (cells bl : List (List AVal)) (hc : okCs cells) (hb : okB bl) (cls : Int) (hv : vmap W H cells = true) (hk : cok cls = true) : ∀ (r m i : Nat) (out : List Int), out.length = cells.length → i + r = cells.length → r < m → G_skirmishref14_Regions_0 bl cls W H cells m (encC out) i = some (encC (regN W H cells bl cls r i out))
  | 0, m, i, out, hl, h1, h2 => by
    obtain ⟨m, rfl⟩ : ∃ q, m = q + 1 := ⟨m - 1, by omega⟩
    have : ¬ ((i : Int) < out.length) := by omega
    simp only [G_skirmishref14_Regions_0, encC_len, Int.ofNat_eq_natCast, this, decide_false, cond_false, regN]
  | r + 1, m, i, out, hl, h1, h2 => by
    obtain ⟨m, rfl⟩ : ∃ q, m = q + 1 := ⟨m - 1, by omega⟩
    have hf := vmap_fmd hv
    have hs := fmd_small hf
    have d2 : (0 : Int) ≤ i := by omega
    have d3 : (i : Int) < out.length := by omega
    have g := encC_get (cs := out) (k := i) (by omega)
    have w : wr ((i : Int) + 1) = ((i + 1 : Nat) : Int) := wr_suc i (by omega)
    obtain ⟨t1, t2, t3⟩ := tm_pos hf (show i < cells.length by omega)
    have e1 := D_r W H cells bl hc hb cls hv hk i (by omega)
    have e2 := (D_a W H cells bl hc hb cls hf i (by omega)).2
    simp only [G_skirmishref14_Regions_0, t1, t2, t3, d2, d3, encC_len, Int.ofNat_eq_natCast, decide_true, Bool.and_self, cond_true, cond_false, Int.toNat_natCast, g, Option.bind_some, chk_i, cI_i, w, free_r W H cells bl hc hb, regN]
    by_cases h0 : cg out i ≥ 0
    · simp only [h0, decide_true, cond_true]
      rw [if_pos trivial]
      exact regR W H cells bl hc hb cls hv hk r m (i + 1) out hl (by omega) (by omega)
    · simp only [h0, decide_false, cond_false]
      rw [if_neg (by simp)]
      cases ho : opn W H cells bl cls (px W i) (py W i) with
      | false =>
        simp only [Bool.not_false, cond_true, cond_false]
        exact regR W H cells bl hc hb cls hv hk r m (i + 1) out hl (by omega) (by omega)
      | true =>
        have hmk := markR (D W H cells bl cls i) i (by rw [e2.1]; omega) cells.length FU 0 out (by rw [e2.1]; exact hl) (by rw [e2.1]; omega) (by unfold FU; omega)
        have hmk' : G_skirmishref14_Regions_1 (encC (D W H cells bl cls i)) i FU (encC out) 0 = _ := hmk
        simp only [Bool.not_true, cond_false, cond_true, e1, Option.bind_some, hmk']
        exact regR W H cells bl hc hb cls hv hk r m (i + 1) _ (by rw [markN_len]; exact hl) (by omega) (by omega)
noncomputable def RG (W H : Int) (cells bl : List (List AVal)) (cls : Int) : List Int := regN W H cells bl cls cells.length 0 (List.replicate cells.length (-1))
theorem Regions_g (W H : Int) (cells bl : List (List AVal)) (hc : okCs cells) (hb : okB bl) (cls : Int) : F_astar_Regions W H cells bl cls = some (bif vmap W H cells && cok cls then encC (RG W H cells bl cls) else []) := by
  simp only [F_astar_Regions, valid_a W H cells bl hc, cokA, Option.bind_some]
  cases hv : (vmap W H cells && cok cls) with
  | false => rfl
  | true =>
    rw [Bool.and_eq_true] at hv
    have hf := vmap_fmd hv.1
    have hsm := fmd_small hf
    have e1 : (0 : Int) ≤ cells.length := by omega
    have e2 : (cells.length : Int) ≤ 9223372036854775807 := by omega
    have e3 : (8 : Int) * (cells.length : Int) ≤ 140737488355328 := by omega
    have hfill := fillA_G cells.length (by omega) cells.length FU 0 (List.replicate cells.length 0) (by simp) (by omega) (by unfold FU; omega) fun j hj => by omega
    have hfill' : G_astar_Regions_0 cells.length FU (encC (List.replicate cells.length 0)) 0 = _ := hfill
    have hreg := regA W H cells bl hc hb cls hf cells.length FU 0 (List.replicate cells.length (-1)) (by simp) (by omega) (by unfold FU; omega)
    have hreg' : G_astar_Regions_1 cells.length W W H cells bl cls FU (encC (List.replicate cells.length (-1))) 0 = _ := hreg
    simp only [Bool.not_true, cond_false, cond_true, Int.ofNat_eq_natCast, e1, e2, e3, decide_true, Bool.and_self, Int.toNat_natCast, encC_rep, encC_len, List.length_replicate, hfill', Option.bind_some, hreg', RG]
theorem Regions_r (W H : Int) (cells bl : List (List AVal)) (hc : okCs cells) (hb : okB bl) (cls : Int) : F_skirmishref14_Regions W H cells bl cls = some (bif vmap W H cells && cok cls then encC (RG W H cells bl cls) else []) := by
  simp only [F_skirmishref14_Regions, Valid_r W H cells hc, class_r, Option.bind_some]
  cases hv : vmap W H cells with
  | false => rfl
  | true =>
    cases hk : cok cls with
    | false => rfl
    | true =>
      have hf := vmap_fmd hv
      have hsm := fmd_small hf
      have hreg := regR W H cells bl hc hb cls hv hk cells.length FU 0 (List.replicate cells.length (-1)) (by simp) (by omega) (by unfold FU; omega)
      have hreg' : G_skirmishref14_Regions_0 bl cls W H cells FU (encC (List.replicate cells.length (-1))) 0 = _ := hreg
      simp only [Bool.not_true, cond_false, cond_true, Bool.and_self, none_n hf, Option.bind_some, hreg', RG]
end Go.Proofs.YtclfphmehilaeaaDoor.AI
