/- What the functions of chapter 14 answer: paths and regions. -/
import Derived.Test.YtmnjdfdiokomhaaDoorS14a
namespace Go.Proofs.YtmnjdfdiokomhaaDoor.AI
open Go.RowKit
set_option linter.unusedVariables false
set_option linter.unusedSimpArgs false

/-! ### Path -/
theorem idx_s {W H : Int} {n : Nat} {x y : Int} (hi : ins W H n x y = true) : wr (wr (y * W) + x) = ((nm W x y : Nat) : Int) := by rw [wr_mul hi, (nm_lt hi).2]
/-- A path, its cost, an error. -/
noncomputable def PN (W H : Int) (cells bl : List (List AVal)) (cls ax ay bx b : Int) : List (List AVal) × Int × Int :=
  bif !(vmap W H cells && cok cls) then ([], 0, 1) else bif !(inn W H ax ay && inn W H bx b) then ([], 0, 1) else
  bif !(opn W H cells bl cls ax ay && opn W H cells bl cls bx b) then ([], 0, 9) else
  bif decide (cg (D W H cells bl cls (nm W bx b)) (nm W ax ay) < 0) then ([], 0, 22) else
  (encP W (nm W ax ay :: wk (nbG W H cells bl cls) (D W H cells bl cls (nm W bx b)) 50000 (nm W ax ay)), cg (D W H cells bl cls (nm W bx b)) (nm W ax ay), 0)
theorem D_bnd {W H : Int} {cells bl : List (List AVal)} {cls : Int} {j : Nat} {cs : List Int} (h : RC W H cells bl cls j cs) (hj : j < cells.length) (hf : fmd W H cells.length = true) : (∀ k, -1 ≤ cg cs k) := by
  intro k
  by_cases hk : k < cells.length
  · rcases h.2 with ⟨a, b⟩ | ⟨a, b⟩
    · rw [b, cg_rep]; omega
    · exact b.low k hk
  · unfold cg
    rw [List.getD_eq_getElem?_getD, List.getElem?_eq_none (by rw [h.1]; omega)]
    simp
/-- Ways are no longer than there are cells: so costs are small. -/
theorem Right.small {n : Nat} {nb : Nb} {src : Nat → Prop} {c : Nat → Int} (ho : NbOk n nb) (hr : Right n nb src c) : ∀ (k : Nat) (S : List Nat), S.Nodup → S.length + k = n → (∀ i, i ∈ S → i < n ∧ 0 ≤ c i) → (∀ i j, i ∈ S → j < n → j ∉ S → 0 ≤ c j → c i ≤ c j) → (∀ i, i ∈ S → c i ≤ 19 * S.length) → ∀ j, j < n → c j ≤ 19 * n
  | 0, S, h1, h2, h3, h4, h5, j, hj => by
    by_cases hS : j ∈ S
    · have := h5 j hS
      omega
    · exfalso
      have := nodup_len n (j :: S) (List.nodup_cons.2 ⟨hS, h1⟩) fun i hi => by
        rcases List.mem_cons.1 hi with rfl | hi
        · exact hj
        · exact (h3 i hi).1
      rw [List.length_cons] at this
      omega
  | k + 1, S, h1, h2, h3, h4, h5, j, hj => by
    -- the least of those outside
    by_cases hex : ∃ q, q < n ∧ q ∉ S ∧ 0 ≤ c q
    · have hmin : ∃ q, q < n ∧ q ∉ S ∧ 0 ≤ c q ∧ ∀ p, p < n → p ∉ S → 0 ≤ c p → c q ≤ c p := by
        obtain ⟨q, a1, a2, a3⟩ := hex
        have : ∀ (m : Nat) (q : Nat), q < n → q ∉ S → 0 ≤ c q → c q ≤ m → ∃ q, q < n ∧ q ∉ S ∧ 0 ≤ c q ∧ ∀ p, p < n → p ∉ S → 0 ≤ c p → c q ≤ c p := by
          intro m
          induction m using Nat.strongRecOn with
          | ind m ih =>
            intro q a1 a2 a3 a4
            by_cases hb : ∃ p, p < n ∧ p ∉ S ∧ 0 ≤ c p ∧ c p < c q
            · obtain ⟨p, b1, b2, b3, b4⟩ := hb
              exact ih (c p).toNat (by omega) p b1 b2 b3 (by omega)
            · refine ⟨q, a1, a2, a3, fun p c1 c2 c3 => ?_⟩
              by_cases hlt : c p < c q
              · exact absurd ⟨p, c1, c2, c3, hlt⟩ hb
              · omega
        exact this (c q).toNat q a1 a2 a3 (by omega)
      obtain ⟨q, a1, a2, a3, a4⟩ := hmin
      have hq : c q ≤ 19 * (S.length + 1) := by
        rcases hr.back q a1 a3 with ⟨_, z⟩ | ⟨i, d, w, b1, b2, b3, b4, b5⟩
        · omega
        · have hw := ho.pos _ _ _ _ b3
          by_cases hi : i ∈ S
          · have := h5 i hi
            omega
          · have := a4 i b1 hi b4
            omega
      refine Right.small ho hr k (q :: S) (List.nodup_cons.2 ⟨a2, h1⟩) (by rw [List.length_cons]; omega) ?_ ?_ ?_ j hj
      · intro i hi
        rcases List.mem_cons.1 hi with rfl | hi
        · exact ⟨a1, a3⟩
        · exact h3 i hi
      · intro i p hi hp hn hz
        rw [List.mem_cons, not_or] at hn
        rcases List.mem_cons.1 hi with rfl | hi
        · exact a4 p hp hn.2 hz
        · exact h4 i p hi hp hn.2 hz
      · intro i hi
        rw [List.length_cons]
        rcases List.mem_cons.1 hi with rfl | hi
        · omega
        · have := h5 i hi
          omega
    · by_cases hS : j ∈ S
      · have := h5 j hS
        omega
      · by_cases h0 : 0 ≤ c j
        · exact absurd ⟨j, hj, hS, h0⟩ hex
        · omega
theorem Right.bound {n : Nat} {nb : Nb} {src : Nat → Prop} {c : Nat → Int} (ho : NbOk n nb) (hr : Right n nb src c) (j : Nat) (hj : j < n) : c j ≤ 19 * n :=
  Right.small ho hr n [] List.nodup_nil (by simp) (fun i hi => by cases hi) (fun i j hi => by cases hi) (fun i hi => by cases hi) j hj
theorem D_all {W H : Int} {cells bl : List (List AVal)} {cls : Int} {j : Nat} {cs : List Int} (h : RC W H cells bl cls j cs) (hj : j < cells.length) (hf : fmd W H cells.length = true) : ∀ k, -1 ≤ cg cs k ∧ cg cs k ≤ 19456 := by
  intro k
  refine ⟨D_bnd h hj hf k, ?_⟩
  have hs := fmd_small hf
  by_cases hk : k < cells.length
  · rcases h.2 with ⟨a, b⟩ | ⟨a, b⟩
    · rw [b, cg_rep]; omega
    · have := Right.bound (nbG_ok W H cells bl cls) b k hk
      omega
  · unfold cg
    rw [List.getD_eq_getElem?_getD, List.getElem?_eq_none (by rw [h.1]; omega)]
    simp
theorem Path_g (W H : Int) (cells bl : List (List AVal)) (hc : okCs cells) (hb : okB bl) (cls ax ay bx b : Int) : F_astar_Path W H cells bl cls ax ay bx b = some (PN W H cells bl cls ax ay bx b) := by
  simp only [F_astar_Path, valid_a W H cells bl hc, cokA, inside_a, free_a W H cells bl hc hb, Option.bind_some, PN]
  cases hv : (vmap W H cells && cok cls) with
  | false => rfl
  | true =>
    rw [Bool.and_eq_true] at hv
    have hf := vmap_fmd hv.1
    simp only [Bool.not_true, cond_false]
    cases ha : inn W H ax ay with
    | false => rfl
    | true =>
      cases hb' : inn W H bx b with
      | false => rfl
      | true =>
        have ia : ins W H cells.length ax ay = true := ins_iff.2 ⟨hf, ha⟩
        have ib : ins W H cells.length bx b = true := ins_iff.2 ⟨hf, hb'⟩
        simp only [Bool.not_true, cond_false, Bool.and_self]
        cases oa : opn W H cells bl cls ax ay with
        | false => rfl
        | true =>
          cases ob : opn W H cells bl cls bx b with
          | false => rfl
          | true =>
            have na := nm_lt ia
            have nb' := nm_lt ib
            have pb := pos_nm ib
            have pa := pos_nm ia
            obtain ⟨d1, d2⟩ := D_a W H cells bl hc hb cls hf (nm W bx b) nb'.1
            rw [pb.1, pb.2] at d1
            have hat := at_s W H cells _ d2.1 ia
            simp only [Bool.not_true, cond_false, Bool.and_self, d1, Option.bind_some, hat]
            by_cases hneg : cg (D W H cells bl cls (nm W bx b)) (nm W ax ay) < 0
            · simp only [hneg, decide_true, cond_true]
            · have hr : Right cells.length (nbG W H cells bl cls) (· = nm W bx b) (cg (D W H cells bl cls (nm W bx b))) := by
                rcases d2.2 with ⟨x, y⟩ | ⟨x, y⟩
                · rw [pb.1, pb.2, ob] at x; cases x
                · exact y
              have hbd := D_all d2 nb'.1 hf
              have h0 := pathA_0 W H cells bl hc hb cls hf _ d2.1 (nm W bx b) nb'.1 hr 50000 (nm W ax ay) FU [nm W ax ay] na.1 (by omega) (by have := hbd (nm W ax ay); omega) (by omega) (by unfold FU; omega) (by simp)
              rw [pb.1, pb.2, pa.1, pa.2] at h0
              have h0' : G_astar_Path_0 (encC (D W H cells bl cls (nm W bx b))) bl cls W H cells bx b FU [[i64 ax, i64 ay]] ax ay = some (encP W (nm W ax ay :: wk (nbG W H cells bl cls) (D W H cells bl cls (nm W bx b)) 50000 (nm W ax ay))) := by
                have e : encP W [nm W ax ay] = [[i64 ax, i64 ay]] := by
                  show [[i64 (px W (nm W ax ay)), i64 (py W (nm W ax ay))]] = _
                  rw [pa.1, pa.2]
                rw [← e]
                exact h0
              simp only [hneg, decide_false, cond_false, h0', Option.bind_some]
/-! ### Regions -/
def markN (cs : List Int) (v : Int) : Nat → Nat → List Int → List Int
  | 0, _, out => out
  | r + 1, k, out => markN cs v r (k + 1) (if 0 ≤ cg cs k then out.set k v else out)
noncomputable def regN (W H : Int) (cells bl : List (List AVal)) (cls : Int) : Nat → Nat → List Int → List Int
  | 0, _, out => out
  | r + 1, i, out => regN W H cells bl cls r (i + 1) (if cg out i ≥ 0 then out else bif opn W H cells bl cls (px W i) (py W i) then markN (D W H cells bl cls i) i cells.length 0 out else out)
theorem markN_len (cs : List Int) (v : Int) : ∀ (r k : Nat) (out : List Int), (markN cs v r k out).length = out.length
  | 0, k, out => rfl
  | r + 1, k, out => by
    rw [markN, markN_len cs v r]
    split <;> simp
theorem markN_get (cs : List Int) (v : Int) : ∀ (r k : Nat) (out : List Int) (j : Nat), j < out.length → cg (markN cs v r k out) j = if k ≤ j ∧ j < k + r ∧ 0 ≤ cg cs j then v else cg out j
  | 0, k, out, j, h => by
    rw [if_neg (by omega)]
    rfl
  | r + 1, k, out, j, h => by
    have e : (if 0 ≤ cg cs k then out.set k v else out).length = out.length := by split <;> simp
    rw [markN, markN_get cs v r (k + 1) _ j (by rw [e]; exact h)]
    by_cases h1 : k + 1 ≤ j ∧ j < k + 1 + r ∧ 0 ≤ cg cs j
    · rw [if_pos h1, if_pos (by omega)]
    · rw [if_neg h1]
      by_cases h2 : k = j
      · subst h2
        by_cases h3 : 0 ≤ cg cs k
        · rw [if_pos h3, if_pos (by omega), cg_set _ _ h, if_pos rfl]
        · rw [if_neg h3, if_neg (by omega)]
      · have hne : cg (if 0 ≤ cg cs k then out.set k v else out) j = cg out j := by
          split
          · by_cases hk : k < out.length
            · rw [cg_set _ _ hk, if_neg h2]
            · rw [List.set_eq_of_length_le (by omega)]
          · rfl
        have hcond : ¬ (k ≤ j ∧ j < k + (r + 1) ∧ 0 ≤ cg cs j) := by omega
        rw [hne, if_neg hcond]
noncomputable def RG (W H : Int) (cells bl : List (List AVal)) (cls : Int) : List Int := regN W H cells bl cls cells.length 0 (List.replicate cells.length (-1))
end Go.Proofs.YtmnjdfdiokomhaaDoor.AI
