/- What Build of the package flow answers, and the document's Build. -/
import Derived.Test.YteiniiakpdijmaaDoorCt
namespace Go.Proofs.YteiniiakpdijmaaDoor.AI
open Go.RowKit
set_option linter.unusedVariables false
set_option linter.unusedSimpArgs false

theorem free_f (W H : Int) (cells bl : List (List AVal)) (hc : okCs cells) (hb : okB bl) (cls x y : Int) : F_flow_free W H cells bl cls x y = some (opn W H cells bl cls x y) := by
  simp only [F_flow_free, passable_g W H cells hc, Option.bind_some, index_g, Int.ofNat_eq_natCast]
  cases hp : pas W H cells cls x y with
  | false => simp [opn, hp]
  | true =>
    simp only [Bool.not_true, cond_false]
    exact open_eq W H cells bl hb cls x y hp
theorem ext_f (W : Int) (c : Nat) (hc : c ≤ 90000) : ∀ (r m : Nat) (B : List (List Nat)), B.length + r = max B.length (c + 1) → r < m → G_flow_wave__add_0 c m (encB W B) = some (encB W (B ++ List.replicate r []))
  | 0, m, B, h1, h2 => by
    obtain ⟨m, rfl⟩ : ∃ q, m = q + 1 := ⟨m - 1, by omega⟩
    have : ¬ ((B.length : Int) ≤ c) := by omega
    simp only [G_flow_wave__add_0, encB_len, Int.ofNat_eq_natCast, this, decide_false, cond_false, List.replicate_zero, List.append_nil]
  | r + 1, m, B, h1, h2 => by
    obtain ⟨m, rfl⟩ : ∃ q, m = q + 1 := ⟨m - 1, by omega⟩
    have d : (B.length : Int) ≤ c := by omega
    have ih := ext_f W c hc r m (B ++ [[]]) (by rw [List.length_append, List.length_singleton]; omega) (by omega)
    rw [List.append_assoc] at ih
    have e : ([[]] : List (List Nat)) ++ List.replicate r [] = List.replicate (r + 1) [] := rfl
    rw [e] at ih
    simp only [G_flow_wave__add_0, encB_len, Int.ofNat_eq_natCast, d, decide_true, cond_true, room24 (show B.length + 1 ≤ 100000 by omega), encB_app, ih]
theorem chk_s (rows : List (List AVal)) : chk [(LT.sl 28 2)] [.ro 2 rows] = true := rfl
theorem add_f (W H : Int) (cells bl : List (List AVal)) (cls : Int) (hf : fmd W H cells.length = true) (c j : Nat) (cs : List Int) (B : List (List Nat)) (hl : cs.length = cells.length) (hj : j < cells.length) (hc : c ≤ 90000) (hB : B.length ≤ 90000) (ht : tot B ≤ 90000) :
    F_flow_wave__add W H cells bl cls (encC cs) (encB W B) (px W j) (py W j) c = some (encC (cs.set j c), encB W (addB B c j)) := by
  have e := ext_f W c hc (max B.length (c + 1) - B.length) FU B (by omega) (by unfold FU; omega)
  have e2 : B ++ List.replicate (max B.length (c + 1) - B.length) [] = extB B c := by
    unfold extB
    congr 2
    omega
  rw [e2] at e
  have hlen := extB_len B c
  have l1 : (0 : Int) ≤ c := by omega
  have l2 : (c : Int) < ((extB B c).length : Nat) := by omega
  have g := encB_get (W := W) (B := extB B c) (k := c) (by omega)
  rw [bk_extB] at g
  have hb := bk_tot B c
  have hi := pos_ins hf hj
  have hx := (ins_idx hi).1
  have hp := pos_idx (i := j) hf
  have l3 : (0 : Int) ≤ j := by omega
  have l4 : (j : Int) < (cs.length : Nat) := by omega
  simp only [F_flow_wave__add, e, Option.bind_some, encB_len, Int.ofNat_eq_natCast, l1, l2, decide_true, Bool.and_self, cond_true, Int.toNat_natCast, g, chk_s, cR_b, encP_len, room16 (show (bk B c).length + 1 ≤ 100000 by omega), encP_app, encB_set, List.length_set, Nat.beq_refl, index_g, hx, hp, encC_len, l3, l4, encC_set, addB]
theorem dirs_f (W H : Int) (cells bl : List (List AVal)) (hc : okCs cells) (hb : okB bl) (cls : Int) (hf : fmd W H cells.length = true) (p c : Nat) (c0 : List Int) (B0 : List (List Nat)) (hl : c0.length = cells.length) (hp : p < cells.length) (hcl : c ≤ 50000) (hB : B0.length ≤ 50000) (ht : tot B0 ≤ 50000) :
    ∀ (r m d : Nat) (q : List Int × List (List Nat)), d + r = 8 → r < m → HalfB cells.length (nbG W H cells bl cls) p c d c0 B0 q →
    G_flow_wave__run_2 c W H cells bl cls (px W p) (py W p) m (encC q.1) (encB W q.2) d = some (encC (rlxBN (nbG W H cells bl cls) p c r d q).1, encB W (rlxBN (nbG W H cells bl cls) p c r d q).2)
  | 0, m, d, q, h1, h2, hh => by
    obtain ⟨m, rfl⟩ : ∃ q, m = q + 1 := ⟨m - 1, by omega⟩
    obtain rfl : d = 8 := by omega
    rfl
  | r + 1, m, d, q, h1, h2, hh => by
    obtain ⟨m, rfl⟩ : ∃ q, m = q + 1 := ⟨m - 1, by omega⟩
    have ho := nbG_ok W H cells bl cls
    have d1 : (d : Int) < 8 := by omega
    have w : wr ((d : Int) + 1) = ((d + 1 : Nat) : Int) := wr_suc d (by omega)
    have ih := dirs_f W H cells bl hc hb cls hf p c c0 B0 hl hp hcl hB ht r m (d + 1) _ (by omega) (by omega) (HalfB.step ho hl hh)
    have hnb := nbG_of (W := W) (H := H) (cells := cells) (bl := bl) (cls := cls) (i := p) (d := d) hp (by omega)
    have hlen := hh.half.len
    have hbl := hh.blen
    have htt := hh.tot
    simp only [G_flow_wave__run_2, d1, decide_true, cond_true, Step_g W H cells bl hc hb, Option.bind_some, w]
    cases hs : (stepN W H cells bl cls (px W p) (py W p) d).2 with
    | false =>
      rw [hs] at hnb
      rw [if_neg (by simp)] at hnb
      rw [hnb] at ih
      simp only [Bool.not_false, cond_true]
      rw [rlxBN, hnb]
      exact ih
    | true =>
      rw [hs, if_pos rfl] at hnb
      have hi := step_ins hs
      have hcost := step_cost hs
      obtain ⟨n1, n2⟩ := nm_lt hi.2
      have hpn := pos_nm hi.2
      have hidx := (ins_idx hi.2).1
      rw [rlxBN]
      rw [hnb] at ih ⊢
      generalize hq : stp (px W p) (py W p) d = s at *
      generalize hw : (stepN W H cells bl cls (px W p) (py W p) d).1 = u at *
      rw [← n2] at hidx
      generalize nm W s.1 s.2 = j at *
      have l1 : (j : Int) < (q.1.length : Nat) := by omega
      have l2 : (0 : Int) ≤ j := by omega
      have g1 := encC_get (cs := q.1) (k := j) (by omega)
      have w2 : wr ((c : Int) + u) = (((c : Int) + u).toNat : Nat) := by rw [wr_in (by omega) (by omega)]; omega
      have w3 : (((c : Int) + u).toNat : Int) = (c : Int) + u := by omega
      have add := add_f W H cells bl cls hf ((c : Int) + u).toNat j q.1 q.2 (by omega) n1 (by omega) (by omega) (by omega)
      rw [hpn.1, hpn.2, w3] at add
      simp only [Bool.not_true, cond_false, step_g, hq, Option.bind_some, index_g, hidx, encC_len, Int.ofNat_eq_natCast, l1, l2, decide_true, Bool.and_self, cond_true, Int.toNat_natCast, g1, chk_i, cI_i, w2, w3]
      simp only [rlxB] at ih ⊢
      by_cases hlt : cg q.1 j < 0
      · rw [if_pos (Or.inl hlt)] at ih ⊢
        simp only [hlt, decide_true, cond_true, add, Option.bind_some]
        exact ih
      · by_cases hgt : (c : Int) + u < cg q.1 j
        · have hor : cg q.1 j < 0 ∨ (c : Int) + u < cg q.1 j := .inr hgt
          rw [if_pos hor] at ih ⊢
          simp only [hlt, hgt, decide_true, decide_false, cond_true, cond_false, add, Option.bind_some]
          exact ih
        · have hor : ¬ (cg q.1 j < 0 ∨ (c : Int) + u < cg q.1 j) := by omega
          rw [if_neg hor] at ih ⊢
          simp only [hlt, hgt, decide_false, cond_false]
          exact ih
theorem adv_f (W : Int) (n : Nat) (nb : Nb) (src : Nat → Prop) (g : Nat) (cs : List Int) (S : List Nat) (B : List (List Nat)) (hB : B.length ≤ 90000) : ∀ (r m c : Nat), c + r = B.length → r < m → Que n nb src g cs S B c →
    ∃ c' : Nat, G_flow_wave__run_1 (encB W B) m c = some (c' : Int) ∧ c ≤ c' ∧ c' ≤ B.length ∧ Que n nb src g cs S B c' ∧ (c' < B.length → bk B c' ≠ [])
  | 0, m, c, h1, h2, Q => by
    obtain ⟨m, rfl⟩ : ∃ q, m = q + 1 := ⟨m - 1, by omega⟩
    have : ¬ ((c : Int) < B.length) := by omega
    refine ⟨c, ?_, Nat.le_refl _, by omega, Q, by omega⟩
    simp only [G_flow_wave__run_1, encB_len, Int.ofNat_eq_natCast, this, decide_false, cond_false]
  | r + 1, m, c, h1, h2, Q => by
    obtain ⟨m, rfl⟩ : ∃ q, m = q + 1 := ⟨m - 1, by omega⟩
    have d1 : (c : Int) < B.length := by omega
    have d2 : (0 : Int) ≤ c := by omega
    have gb := encB_get (W := W) (B := B) (k := c) (by omega)
    have w : wr ((c : Int) + 1) = ((c + 1 : Nat) : Int) := wr_suc c (by omega)
    by_cases he : bk B c = []
    · obtain ⟨c', x1, x2, x3, x4, x5⟩ := adv_f W n nb src g cs S B hB r m (c + 1) (by omega) (by omega) (Q.next he)
      refine ⟨c', ?_, by omega, x3, x4, x5⟩
      have z : (((bk B c).length : Int) == 0) = true := by rw [he]; rfl
      simp only [G_flow_wave__run_1, encB_len, Int.ofNat_eq_natCast, d1, d2, decide_true, cond_true, Int.toNat_natCast, gb, Option.bind_some, chk_s, cR_b, encP_len, z, w, x1]
    · refine ⟨c, ?_, Nat.le_refl _, by omega, Q, fun _ => he⟩
      have hp : 0 < (bk B c).length := List.length_pos_iff.2 he
      have z : (((bk B c).length : Int) == 0) = false := by rw [beq_eq_false_iff_ne]; omega
      simp only [G_flow_wave__run_1, encB_len, Int.ofNat_eq_natCast, d1, d2, decide_true, cond_true, Int.toNat_natCast, gb, Option.bind_some, chk_s, cR_b, encP_len, z, cond_false]
theorem take_first {l : List Nat} (h : l ≠ []) : (∀ x, x ∈ l → x = l.getD 0 0 ∨ x ∈ l.drop 1) ∧ (∀ x, x ∈ l.drop 1 → x ∈ l) ∧ l.getD 0 0 ∈ l ∧ (l.drop 1).length + 1 = l.length := by
  cases l with
  | nil => exact absurd rfl h
  | cons a l =>
    refine ⟨fun x hx => ?_, fun x hx => List.mem_cons_of_mem _ hx, List.mem_cons_self, rfl⟩
    rcases List.mem_cons.1 hx with rfl | hx
    · exact .inl rfl
    · exact .inr hx
theorem run_0 (W H : Int) (cells bl : List (List AVal)) (hc : okCs cells) (hb : okB bl) (cls : Int) (hf : fmd W H cells.length = true) (src : Nat → Prop) (g : Nat) (hg : g ≤ 1000) :
    ∀ (M m c : Nat) (cs : List Int) (S : List Nat) (B : List (List Nat)), Que cells.length (nbG W H cells bl cls) src g cs S B c → c ≤ B.length → (19 * cells.length + 2 - c) * (g + 8 * cells.length + 1) + (bk B c).length ≤ M → M < m →
    ∃ cs' B', G_flow_wave__run_0 W H cells bl cls m (encC cs) (encB W B) c = some (encC cs', B') ∧ cs'.length = cells.length ∧ Right cells.length (nbG W H cells bl cls) src (cg cs') := by
  intro M
  induction M using Nat.strongRecOn with
  | ind M ih =>
    intro m c cs S B Q hcB hM hm
    obtain ⟨m, rfl⟩ : ∃ q, m = q + 1 := ⟨m - 1, by omega⟩
    have hsm := fmd_small hf
    have hmax := Q.max
    obtain ⟨c', a1, a2, a3, Q', a5⟩ := adv_f W cells.length (nbG W H cells bl cls) src g cs S B (by omega) (B.length - c) FU c (by omega) (by unfold FU; omega) Q
    by_cases hend : c' = B.length
    · obtain ⟨q1, q2⟩ := Q'.end (by omega)
      refine ⟨cs, encB W B, ?_, Q.part.len, q1⟩
      have z : ((c' : Int) == (B.length : Nat)) = true := by rw [beq_iff_eq]; omega
      simp only [G_flow_wave__run_0, a1, Option.bind_some, encB_len, Int.ofNat_eq_natCast, z, cond_true]
    · have hlt : c' < B.length := by omega
      have hne := a5 hlt
      obtain ⟨t1, t2, t3, t4⟩ := take_first hne
      have hbt := bk_tot B c'
      have z : ((c' : Int) == (B.length : Nat)) = false := by rw [beq_eq_false_iff_ne]; omega
      have l1 : (0 : Int) ≤ c' := by omega
      have l2 : (c' : Int) < (B.length : Nat) := by omega
      have hp0 : 0 < (bk B c').length := List.length_pos_iff.2 hne
      have l3 : (0 : Int) < ((bk B c').length : Nat) := by omega
      have l4 : (1 : Int) ≤ ((bk B c').length : Nat) := by omega
      have l5 : (((bk B c').length : Nat) : Int) ≤ ((bk B c').length : Nat) := by omega
      have gb := encB_get (W := W) (B := B) (k := c') hlt
      have gp := encP_get (W := W) (l := bk B c') (k := 0) hp0
      have hp := (Q'.ent c' _ t3).1
      generalize hpe : (bk B c').getD 0 0 = p at *
      have gp' : (encP W (bk B c'))[(0 : Int).toNat]? = some [i64 (px W p), i64 (py W p)] := gp
      have hi := pos_ins hf hp
      have hx := (ins_idx hi).1
      have hpi := pos_idx (i := p) hf
      have hcl := Q'.part.len
      have l6 : (0 : Int) ≤ p := by omega
      have l7 : (p : Int) < (cs.length : Nat) := by omega
      have gc := encC_get (cs := cs) (k := p) (by omega)
      have e0 : (1 : Int).toNat = 1 := rfl
      have e1 : List.drop 1 (encP W (bk B c')) = encP W ((bk B c').drop 1) := by simp [encP, List.map_drop]
      have e2 : List.take (bk B c').length (encP W (bk B c')) = encP W (bk B c') := by rw [← encP_len W (bk B c'), List.take_length]
      have htot := tot_set B c' ((bk B c').drop 1) hlt
      -- how much is left
      have hmeas : ∀ (B2 : List (List Nat)), bk B2 c' = (bk B c').drop 1 → (19 * cells.length + 2 - c') * (g + 8 * cells.length + 1) + (bk B2 c').length < M := fun B2 hb2 => by
        rw [hb2]
        by_cases hcc : c' = c
        · subst hcc
          omega
        · have : (19 * cells.length + 2 - c' + 1) * (g + 8 * cells.length + 1) ≤ (19 * cells.length + 2 - c) * (g + 8 * cells.length + 1) := Nat.mul_le_mul_right _ (by omega)
          rw [Nat.add_mul, Nat.one_mul] at this
          omega
      by_cases hcost : cg cs p = c'
      · obtain ⟨⟨S', Q2⟩, u1, u2⟩ := Que.take (nbG_ok W H cells bl cls) Q' hlt t3 t1 t2 t4 hcost
        have hd := dirs_f W H cells bl hc hb cls hf p c' cs (B.set c' ((bk B c').drop 1)) hcl hp (by omega) (by rw [List.length_set]; omega) (by omega) 8 FU 0 (cs, B.set c' ((bk B c').drop 1)) (by omega) (by unfold FU; omega) (HalfB.zero _ _ _ _ _ _)
        have hd' : G_flow_wave__run_2 c' W H cells bl cls (px W p) (py W p) FU (encC cs) (encB W (B.set c' ((bk B c').drop 1))) 0 = _ := hd
        have hm2 := hmeas _ u1
        obtain ⟨cs', B', v1, v2, v3⟩ := ih _ hm2 m c' _ S' _ Q2 (by omega) (Nat.le_refl _) (by omega)
        refine ⟨cs', B', ?_, v2, v3⟩
        have hb' : (cg cs p != (c' : Int)) = false := by rw [hcost]; simp
        simp only [G_flow_wave__run_0, a1, Option.bind_some, encB_len, Int.ofNat_eq_natCast, z, cond_false, l1, l2, l3, l4, l5, decide_true, Bool.and_self, cond_true, Int.toNat_natCast, gb, chk_s, cR_b, encP_len, gp', chk_p, cI_p0, cI_p1, e0, e1, e2, encB_set, List.length_set, Nat.beq_refl, index_g, hx, hpi, encC_len, l6, l7, gc, chk_i, cI_i, hb', hd', v1]
      · have Q2 := Q'.pop hlt t1 t2 t4 (.inl hcost)
        have hbk : bk (B.set c' ((bk B c').drop 1)) c' = (bk B c').drop 1 := by rw [bk_set _ hlt, if_pos rfl]
        have hm2 := hmeas _ hbk
        obtain ⟨cs', B', v1, v2, v3⟩ := ih _ hm2 m c' _ S _ Q2 (by rw [List.length_set]; omega) (Nat.le_refl _) (by omega)
        refine ⟨cs', B', ?_, v2, v3⟩
        have hb' : (cg cs p != (c' : Int)) = true := by simpa using hcost
        simp only [G_flow_wave__run_0, a1, Option.bind_some, encB_len, Int.ofNat_eq_natCast, z, cond_false, l1, l2, l3, l4, l5, decide_true, Bool.and_self, cond_true, Int.toNat_natCast, gb, chk_s, cR_b, encP_len, gp', chk_p, cI_p0, cI_p1, e0, e1, e2, encB_set, List.length_set, Nat.beq_refl, index_g, hx, hpi, encC_len, l6, l7, gc, chk_i, cI_i, hb', v1]

/-! ### The goals -/
def addG : List Nat → List Int × List (List Nat) → List Int × List (List Nat)
  | [], q => q
  | j :: l, q => addG l (q.1.set j 0, addB q.2 0 j)
theorem addG_len : ∀ (l : List Nat) (q : List Int × List (List Nat)), (addG l q).1.length = q.1.length
  | [], q => rfl
  | j :: l, q => by rw [addG, addG_len l]; simp
theorem addG_tot : ∀ (l : List Nat) (q : List Int × List (List Nat)), tot (addG l q).2 = tot q.2 + l.length
  | [], q => rfl
  | j :: l, q => by rw [addG, addG_tot l, tot_addB, List.length_cons]; omega
theorem addG_blen : ∀ (l : List Nat) (q : List Int × List (List Nat)), q.2.length ≤ 1 → (addG l q).2.length ≤ 1
  | [], q, h => h
  | j :: l, q, h => by
    rw [addG]
    refine addG_blen l _ ?_
    rw [addB_len]
    omega
theorem addG_bk : ∀ (l : List Nat) (q : List Int × List (List Nat)), bk (addG l q).2 0 = bk q.2 0 ++ l
  | [], q => by rw [addG, List.append_nil]
  | j :: l, q => by
    rw [addG, addG_bk l, bk_addB, if_pos rfl, List.append_assoc]
    rfl
theorem addG_cg : ∀ (l : List Nat) (q : List Int × List (List Nat)) (i : Nat), (∀ j, j ∈ l → j < q.1.length) → cg (addG l q).1 i = if i ∈ l then 0 else cg q.1 i
  | [], q, i, h => by simp [addG]
  | j :: l, q, i, h => by
    rw [addG, addG_cg l _ i (fun k hk => by rw [List.length_set]; exact h k (List.mem_cons_of_mem _ hk)), cg_set i _ (h j List.mem_cons_self)]
    by_cases h1 : i ∈ l
    · rw [if_pos h1, if_pos (List.mem_cons_of_mem _ h1)]
    · rw [if_neg h1]
      by_cases h2 : j = i
      · subst h2
        rw [if_pos rfl, if_pos List.mem_cons_self]
      · rw [if_neg h2, if_neg]
        intro q
        rcases List.mem_cons.1 q with q | q
        · exact h2 q.symm
        · exact h1 q
/-- The costs at the beginning. -/
def c0 (n : Nat) (l : List Nat) : List Int := (addG l (List.replicate n (-1), [])).1
theorem c0_len (n : Nat) (l : List Nat) : (c0 n l).length = n := by unfold c0; rw [addG_len]; simp
theorem cg_rep {n j : Nat} : cg (List.replicate n (-1)) j = -1 := by
  unfold cg
  rw [List.getD_eq_getElem?_getD, List.getElem?_replicate]
  split <;> rfl
theorem c0_start {n : Nat} {l : List Nat} (hl : ∀ j, j ∈ l → j < n) : ∀ i, i < n → (i ∈ l ∧ cg (c0 n l) i = 0) ∨ (¬ i ∈ l ∧ cg (c0 n l) i = -1) := fun i hi => by
  unfold c0
  rw [addG_cg l _ i (fun j hj => by simp; exact hl j hj), cg_rep]
  by_cases h : i ∈ l
  · rw [if_pos h]; exact .inl ⟨h, rfl⟩
  · rw [if_neg h]; exact .inr ⟨h, rfl⟩
theorem Que.goals {n : Nat} {nb : Nb} {l : List Nat} (hl : ∀ j, j ∈ l → j < n) : Que n nb (· ∈ l) l.length (c0 n l) [] (addG l (List.replicate n (-1), [])).2 0 := by
  have hs := c0_start hl
  have e0 : ∀ i, 0 ≤ cg (c0 n l) i → i ∈ l ∧ cg (c0 n l) i = 0 := fun i hi => by
    have hlt := cg_lt hi
    rw [c0_len] at hlt
    rcases hs i hlt with a | a
    · exact a
    · omega
  have hb0 : bk (addG l (List.replicate n (-1), [])).2 0 = l := by rw [addG_bk]; rfl
  have hbl := addG_blen l (List.replicate n (-1), []) (by simp)
  refine ⟨Part.start (c0_len n l) hs, fun i hi _ => ?_, fun v i hi => ?_, fun i hi => (by cases hi), fun v hv => (by omega), ?_, ?_⟩
  · obtain ⟨a, b⟩ := e0 i hi
    rw [b]
    show i ∈ bk _ 0
    rw [hb0]
    exact a
  · by_cases hv : v = 0
    · subst hv
      rw [hb0] at hi
      have hin := hl i hi
      rcases hs i hin with a | a
      · exact ⟨hin, by omega, by omega⟩
      · exact absurd hi a.1
    · rw [bk_out (by omega)] at hi
      cases hi
  · simp only [List.length_nil]; omega
  · rw [addG_tot]; simp [Go.Proofs.YteiniiakpdijmaaDoor.AI.tot]
def opG (W H : Int) (cells bl : List (List AVal)) (cls : Int) (r : List AVal) : Bool := opn W H cells bl cls (cI r 0) (cI r 1)
theorem goals_f (W H : Int) (cells bl : List (List AVal)) (hc : okCs cells) (hb : okB bl) (cls : Int) (hf : fmd W H cells.length = true) (rows : List (List AVal)) (ho : okP rows) (ha : rows.all (inR W H) = true) (hn : rows.length ≤ 100) :
    ∀ (r m k : Nat) (q : List Int × List (List Nat)), k + r = rows.length → r < m → q.1.length = cells.length → q.2.length ≤ 1 → tot q.2 = k →
    G_flow_Build_2 bl cls rows rows.length W H cells W H cells bl cls m (encC q.1) (encB W q.2) k = some (bif (rows.drop k).all (opG W H cells bl cls) then (false, encC (addG (dcP W (rows.drop k)) q).1, encB W (addG (dcP W (rows.drop k)) q).2) else (true, [], []))
  | 0, m, k, q, h1, h2, h3, h4, h5 => by
    obtain ⟨m, rfl⟩ : ∃ q, m = q + 1 := ⟨m - 1, by omega⟩
    have : ¬ ((k : Int) < rows.length) := by omega
    simp only [G_flow_Build_2, this, decide_false, cond_false, List.drop_eq_nil_of_le (show rows.length ≤ k by omega), List.all_nil, cond_true]
    rfl
  | r + 1, m, k, q, h1, h2, h3, h4, h5 => by
    obtain ⟨m, rfl⟩ : ∃ q, m = q + 1 := ⟨m - 1, by omega⟩
    have d1 : (k : Int) < rows.length := by omega
    have d2 : (0 : Int) ≤ k := by omega
    have hk : k < rows.length := by omega
    have g := okP_get ho hk
    have w : wr ((k : Int) + 1) = ((k + 1 : Nat) : Int) := wr_suc k (by omega)
    have ed : rows.drop k = rows.getD k [] :: rows.drop (k + 1) := by rw [List.drop_eq_getElem_cons hk]; simp [List.getD, hk]
    have hin : ins W H cells.length (cI (rows.getD k []) 0) (cI (rows.getD k []) 1) = true := by
      refine ins_iff.2 ⟨hf, ?_⟩
      have : rows.getD k [] ∈ rows := by simp [List.getD, hk]
      exact List.all_eq_true.1 ha _ this
    have pn := pos_nm hin
    have add := add_f W H cells bl cls hf 0 (nm W (cI (rows.getD k []) 0) (cI (rows.getD k []) 1)) q.1 q.2 h3 (nm_lt hin).1 (by omega) (by omega) (by omega)
    rw [pn.1, pn.2] at add
    have add' : F_flow_wave__add W H cells bl cls (encC q.1) (encB W q.2) (cI (rows.getD k []) 0) (cI (rows.getD k []) 1) 0 = _ := add
    have ih := goals_f W H cells bl hc hb cls hf rows ho ha hn r m (k + 1) (q.1.set (nm W (cI (rows.getD k []) 0) (cI (rows.getD k []) 1)) 0, addB q.2 0 (nm W (cI (rows.getD k []) 0) (cI (rows.getD k []) 1))) (by omega) (by omega) (by simp only [List.length_set]; exact h3) (by simp only [addB_len]; omega) (by simp only [tot_addB]; omega)
    simp only [G_flow_Build_2, d1, d2, decide_true, cond_true, Int.toNat_natCast, g, Option.bind_some, chk_p, cI_p0, cI_p1, free_f W H cells bl hc hb, w]
    rw [ed, List.all_cons]
    have eo : opG W H cells bl cls (rows.getD k []) = opn W H cells bl cls (cI (rows.getD k []) 0) (cI (rows.getD k []) 1) := rfl
    rw [eo]
    cases opn W H cells bl cls (cI (rows.getD k []) 0) (cI (rows.getD k []) 1) with
    | false => rfl
    | true =>
      simp only [Bool.not_true, cond_false, Bool.true_and, add', Option.bind_some]
      exact ih
theorem goals_r (W H : Int) (cells bl : List (List AVal)) (hc : okCs cells) (hb : okB bl) (cls : Int) (hf : fmd W H cells.length = true) (rows : List (List AVal)) (ho : okP rows) (ha : rows.all (inR W H) = true) (hn : rows.length ≤ 100) :
    ∀ (r m k : Nat) (q : List Int × List (List Nat)), k + r = rows.length → r < m → q.1.length = cells.length →
    G_skirmishref17_Build_1 bl cls rows W H cells m (encC q.1) k = some (bif (rows.drop k).all (opG W H cells bl cls) then (false, encC (addG (dcP W (rows.drop k)) q).1) else (true, []))
  | 0, m, k, q, h1, h2, h3 => by
    obtain ⟨m, rfl⟩ : ∃ q, m = q + 1 := ⟨m - 1, by omega⟩
    have : ¬ ((k : Int) < rows.length) := by omega
    simp only [G_skirmishref17_Build_1, Int.ofNat_eq_natCast, this, decide_false, cond_false, List.drop_eq_nil_of_le (show rows.length ≤ k by omega), List.all_nil, cond_true]
    rfl
  | r + 1, m, k, q, h1, h2, h3 => by
    obtain ⟨m, rfl⟩ : ∃ q, m = q + 1 := ⟨m - 1, by omega⟩
    have d1 : (k : Int) < rows.length := by omega
    have d2 : (0 : Int) ≤ k := by omega
    have hk : k < rows.length := by omega
    have g := okP_get ho hk
    have w : wr ((k : Int) + 1) = ((k + 1 : Nat) : Int) := wr_suc k (by omega)
    have ed : rows.drop k = rows.getD k [] :: rows.drop (k + 1) := by rw [List.drop_eq_getElem_cons hk]; simp [List.getD, hk]
    have hin : ins W H cells.length (cI (rows.getD k []) 0) (cI (rows.getD k []) 1) = true := by
      refine ins_iff.2 ⟨hf, ?_⟩
      have : rows.getD k [] ∈ rows := by simp [List.getD, hk]
      exact List.all_eq_true.1 ha _ this
    have nl := nm_lt hin
    have hx : wr (wr (cI (rows.getD k []) 1 * W) + cI (rows.getD k []) 0) = ((nm W (cI (rows.getD k []) 0) (cI (rows.getD k []) 1) : Nat) : Int) := by rw [wr_mul hin, nl.2]
    have l1 : (0 : Int) ≤ (nm W (cI (rows.getD k []) 0) (cI (rows.getD k []) 1) : Nat) := by omega
    have l2 : ((nm W (cI (rows.getD k []) 0) (cI (rows.getD k []) 1) : Nat) : Int) < (q.1.length : Nat) := by omega
    have ih := goals_r W H cells bl hc hb cls hf rows ho ha hn r m (k + 1) (q.1.set (nm W (cI (rows.getD k []) 0) (cI (rows.getD k []) 1)) 0, addB q.2 0 (nm W (cI (rows.getD k []) 0) (cI (rows.getD k []) 1))) (by omega) (by omega) (by simp only [List.length_set]; exact h3)
    simp only [G_skirmishref17_Build_1, Int.ofNat_eq_natCast, d1, d2, decide_true, cond_true, Int.toNat_natCast, g, Option.bind_some, chk_p, cI_p0, cI_p1, free_r W H cells bl hc hb, w]
    rw [ed, List.all_cons]
    have eo : opG W H cells bl cls (rows.getD k []) = opn W H cells bl cls (cI (rows.getD k []) 0) (cI (rows.getD k []) 1) := rfl
    rw [eo]
    cases opn W H cells bl cls (cI (rows.getD k []) 0) (cI (rows.getD k []) 1) with
    | false => rfl
    | true =>
      simp only [Bool.not_true, cond_false, Bool.true_and, hx, l1, l2, encC_len, decide_true, Bool.and_self, cond_true, Int.toNat_natCast, encC_set]
      exact ih
theorem in_f (W H : Int) (rows : List (List AVal)) (ho : okP rows) (hn : rows.length ≤ 1000000) : ∀ (m r k : Nat), k + r = rows.length → r < m → G_flow_Build_0 rows rows.length W H m k = some (!(rows.drop k).all (inR W H))
  | 0, r, k, h1, h2 => by omega
  | m + 1, 0, k, h1, h2 => by
    have : ¬ ((k : Int) < rows.length) := by omega
    simp only [G_flow_Build_0, this, decide_false, cond_false, List.drop_eq_nil_of_le (show rows.length ≤ k by omega), List.all_nil, Bool.not_true]
  | m + 1, r + 1, k, h1, h2 => by
    have d1 : (k : Int) < rows.length := by omega
    have d2 : (0 : Int) ≤ k := by omega
    have g := okP_get ho (show k < rows.length by omega)
    have ih := in_f W H rows ho hn m r (k + 1) (by omega) (by omega)
    simp only [G_flow_Build_0, d1, d2, decide_true, cond_true, Int.toNat_natCast, g, Option.bind_some, chk_p, cI_p0, cI_p1, in_g, wr_suc k (by omega), drop_allR (W := W) (H := H) (show k < rows.length by omega), ih]
    have e : inn W H (cI (rows.getD k []) 0) (cI (rows.getD k []) 1) = inR W H (rows.getD k []) := rfl
    rw [e]
    cases inR W H (rows.getD k []) <;> simp
theorem in_r17 (W H : Int) (rows : List (List AVal)) (ho : okP rows) (hn : rows.length ≤ 1000000) : ∀ (m r k : Nat), k + r = rows.length → r < m → G_skirmishref17_Build_0 rows W H m k = some (!(rows.drop k).all (inR W H))
  | 0, r, k, h1, h2 => by omega
  | m + 1, 0, k, h1, h2 => by
    have : ¬ ((k : Int) < rows.length) := by omega
    simp only [G_skirmishref17_Build_0, Int.ofNat_eq_natCast, this, decide_false, cond_false, List.drop_eq_nil_of_le (show rows.length ≤ k by omega), List.all_nil, Bool.not_true]
  | m + 1, r + 1, k, h1, h2 => by
    have d1 : (k : Int) < rows.length := by omega
    have d2 : (0 : Int) ≤ k := by omega
    have g := okP_get ho (show k < rows.length by omega)
    have ih := in_r17 W H rows ho hn m r (k + 1) (by omega) (by omega)
    simp only [G_skirmishref17_Build_0, Int.ofNat_eq_natCast, d1, d2, decide_true, cond_true, Int.toNat_natCast, g, Option.bind_some, chk_p, cI_p0, cI_p1, in_r, wr_suc k (by omega), drop_allR (W := W) (H := H) (show k < rows.length by omega), ih]
    have e : inn W H (cI (rows.getD k []) 0) (cI (rows.getD k []) 1) = inR W H (rows.getD k []) := rfl
    rw [e]
    cases inR W H (rows.getD k []) <;> simp
theorem fill_f (n : Nat) (hn : n ≤ 100000) : ∀ (r m k : Nat) (cs : List Int), cs.length = n → k + r = n → r < m → (∀ j, j < k → cg cs j = -1) → G_flow_Build_1 n m (encC cs) k = some (encC (List.replicate n (-1)))
  | 0, m, k, cs, hl, h1, h2, h => by
    obtain ⟨m, rfl⟩ : ∃ q, m = q + 1 := ⟨m - 1, by omega⟩
    obtain rfl : k = n := by omega
    have : ¬ ((k : Int) < k) := by omega
    have e : cs = List.replicate k (-1) := cost_ext hl (by simp) fun j hj => by rw [h j hj, cg_rep]
    simp only [G_flow_Build_1, this, decide_false, cond_false]
    rw [e]
  | r + 1, m, k, cs, hl, h1, h2, h => by
    obtain ⟨m, rfl⟩ : ∃ q, m = q + 1 := ⟨m - 1, by omega⟩
    have d1 : (k : Int) < n := by omega
    have d2 : (0 : Int) ≤ k := by omega
    have ih := fill_f n hn r m (k + 1) (cs.set k (-1)) (by rw [List.length_set]; exact hl) (by omega) (by omega) fun j hj => by
      rw [cg_set j _ (by omega)]
      split
      · rfl
      · exact h j (by omega)
    have w : wr ((k : Int) + 1) = ((k + 1 : Nat) : Int) := wr_suc k (by omega)
    simp only [G_flow_Build_1, d1, d2, encC_len, hl, Int.ofNat_eq_natCast, decide_true, Bool.and_self, cond_true, Int.toNat_natCast, encC_set, w, ih]

/-! ### Directions -/
/-- The direction of a cell. -/
def dr (nb : Nb) (cs : List Int) (i : Nat) : Int := if cg cs i ≤ 0 then -1 else match dN nb cs i 8 0 with | some d => (d : Int) | none => -1
def drL (nb : Nb) (cs : List Int) (n : Nat) : List Int := (List.range n).map (dr nb cs)
theorem drL_len (nb : Nb) (cs : List Int) (n : Nat) : (drL nb cs n).length = n := by simp [drL]
theorem drL_cg {nb : Nb} {cs : List Int} {n i : Nat} (h : i < n) : cg (drL nb cs n) i = dr nb cs i := by
  unfold cg drL
  rw [List.getD_eq_getElem?_getD, List.getElem?_map, List.getElem?_range h]
  rfl
theorem dir_f0 (W H : Int) (cells bl : List (List AVal)) (hc : okCs cells) (hb : okB bl) (cls : Int) (hf : fmd W H cells.length = true) (cs : List Int) (hl : cs.length = cells.length) (src : Nat → Prop) (hr : Right cells.length (nbG W H cells bl cls) src (cg cs)) (hbnd : ∀ k, cg cs k ≤ 1000000) (i : Nat) (hi : i < cells.length) (h0 : 0 ≤ cg cs i) :
    ∀ (r m d : Nat), d + r = 8 → r < m → G_flow_wave__direction_0 (encC cs) (cg cs i) W H cells bl cls (px W i) (py W i) m d = some (match dN (nbG W H cells bl cls) cs i r d with | some e => (true, (e : Int)) | none => (false, 0))
  | 0, m, d, h1, h2 => by
    obtain ⟨m, rfl⟩ : ∃ q, m = q + 1 := ⟨m - 1, by omega⟩
    obtain rfl : d = 8 := by omega
    rfl
  | r + 1, m, d, h1, h2 => by
    obtain ⟨m, rfl⟩ : ∃ q, m = q + 1 := ⟨m - 1, by omega⟩
    have d1 : (d : Int) < 8 := by omega
    have w : wr ((d : Int) + 1) = ((d + 1 : Nat) : Int) := wr_suc d (by omega)
    have ih := dir_f0 W H cells bl hc hb cls hf cs hl src hr hbnd i hi h0 r m (d + 1) (by omega) (by omega)
    have hnb := nbG_of (W := W) (H := H) (cells := cells) (bl := bl) (cls := cls) (i := i) (d := d) hi (by omega)
    simp only [G_flow_wave__direction_0, d1, decide_true, cond_true, Step_g W H cells bl hc hb, Option.bind_some, w, ih]
    cases hs : (stepN W H cells bl cls (px W i) (py W i) d).2 with
    | false =>
      rw [hs, if_neg (by simp)] at hnb
      simp only [Bool.not_false, cond_true, dN, hnb]
    | true =>
      rw [hs, if_pos rfl] at hnb
      have hin := step_ins hs
      have hcost := step_cost hs
      have he := hr.edge i d _ _ hi (by omega) hnb h0
      have hidx := (ins_idx hin.2).1
      have nl := nm_lt hin.2
      rw [← nl.2] at hidx
      generalize hq : stp (px W i) (py W i) d = q at *
      generalize hu : (stepN W H cells bl cls (px W i) (py W i) d).1 = u at *
      generalize nm W q.1 q.2 = j at *
      have g := encC_get (cs := cs) (k := j) (by omega)
      have lj1 : (0 : Int) ≤ j := by omega
      have lj2 : (j : Int) < (cs.length : Nat) := by omega
      have b1 := hbnd i
      have ge : cg cs j ≥ 0 := he.1
      have bj := hbnd j
      have ws : wr (cg cs j + u) = cg cs j + u := wr_in (by omega) (by omega)
      simp only [Bool.not_true, cond_false, step_g, hq, Option.bind_some, index_g, hidx, lj1, lj2, encC_len, Int.ofNat_eq_natCast, decide_true, Bool.and_self, cond_true, Int.toNat_natCast, g, chk_i, cI_i, ge, ws, dN, hnb]
      by_cases hk : cg cs j + u = cg cs i
      · simp only [hk, beq_self_eq_true, cond_true, if_true]
      · have : (cg cs j + u == cg cs i) = false := by simpa using hk
        simp only [this, cond_false, hk, if_false]
theorem dir_f (W H : Int) (cells bl : List (List AVal)) (hc : okCs cells) (hb : okB bl) (cls : Int) (hf : fmd W H cells.length = true) (cs : List Int) (B : List (List AVal)) (hl : cs.length = cells.length) (src : Nat → Prop) (hr : Right cells.length (nbG W H cells bl cls) src (cg cs)) (hbnd : ∀ k, cg cs k ≤ 1000000) (i : Nat) (hi : i < cells.length) :
    F_flow_wave__direction W H cells bl cls (encC cs) B (px W i) (py W i) = some (dr (nbG W H cells bl cls) cs i) := by
  have hin := pos_ins hf hi
  have hx := (ins_idx hin).1
  have hp := pos_idx (i := i) hf
  have l1 : (0 : Int) ≤ i := by omega
  have l2 : (i : Int) < (cs.length : Nat) := by omega
  have g := encC_get (cs := cs) (k := i) (by omega)
  simp only [F_flow_wave__direction, index_g, hx, hp, Option.bind_some, l1, l2, encC_len, Int.ofNat_eq_natCast, decide_true, Bool.and_self, cond_true, Int.toNat_natCast, g, chk_i, cI_i, dr]
  by_cases hz : cg cs i ≤ 0
  · simp only [hz, decide_true, cond_true, if_true]
  · have h0 := dir_f0 W H cells bl hc hb cls hf cs hl src hr hbnd i hi (by omega) 8 FU 0 (by omega) (by unfold FU; omega)
    have h0' : G_flow_wave__direction_0 (encC cs) (cg cs i) W H cells bl cls (px W i) (py W i) FU 0 = _ := h0
    simp only [hz, decide_false, cond_false, if_false, h0', Option.bind_some]
    cases dN (nbG W H cells bl cls) cs i 8 0 <;> rfl
theorem dirs_f3 (W H : Int) (cells bl : List (List AVal)) (hc : okCs cells) (hb : okB bl) (cls : Int) (hf : fmd W H cells.length = true) (cs : List Int) (B : List (List AVal)) (hl : cs.length = cells.length) (src : Nat → Prop) (hr : Right cells.length (nbG W H cells bl cls) src (cg cs)) (hbnd : ∀ k, cg cs k ≤ 1000000) :
    ∀ (r m k : Nat) (ds : List Int), ds.length = cells.length → k + r = cells.length → r < m → (∀ j, j < k → cg ds j = dr (nbG W H cells bl cls) cs j) → G_flow_Build_3 (encC cs) B cells.length W W H cells bl cls m (encC ds) k = some (encC (drL (nbG W H cells bl cls) cs cells.length))
  | 0, m, k, ds, hd, h1, h2, h => by
    obtain ⟨m, rfl⟩ : ∃ q, m = q + 1 := ⟨m - 1, by omega⟩
    obtain rfl : k = cells.length := by omega
    have : ¬ ((cells.length : Int) < cells.length) := by omega
    have e : ds = drL (nbG W H cells bl cls) cs cells.length := cost_ext hd (drL_len _ _ _) fun j hj => by rw [h j hj, drL_cg hj]
    simp only [G_flow_Build_3, this, decide_false, cond_false]
    rw [e]
  | r + 1, m, k, ds, hd, h1, h2, h => by
    obtain ⟨m, rfl⟩ : ∃ q, m = q + 1 := ⟨m - 1, by omega⟩
    have hsm := fmd_small hf
    have d1 : (k : Int) < cells.length := by omega
    have d2 : (0 : Int) ≤ k := by omega
    have d3 : (k : Int) < ds.length := by omega
    have ea : F_grid_At W k = some (px W k, py W k) := at_g W k (by omega)
    have ih := dirs_f3 W H cells bl hc hb cls hf cs B hl src hr hbnd r m (k + 1) (ds.set k (dr (nbG W H cells bl cls) cs k)) (by rw [List.length_set]; exact hd) (by omega) (by omega) fun j hj => by
      rw [cg_set j _ (by omega)]
      by_cases e : k = j
      · subst e; rw [if_pos rfl]
      · rw [if_neg e]; exact h j (by omega)
    have w : wr ((k : Int) + 1) = ((k + 1 : Nat) : Int) := wr_suc k (by omega)
    simp only [G_flow_Build_3, d1, d2, d3, ea, Option.bind_some, dir_f W H cells bl hc hb cls hf cs B hl src hr hbnd k (by omega), encC_len, Int.ofNat_eq_natCast, decide_true, Bool.and_self, cond_true, Int.toNat_natCast, encC_set, w, ih]
theorem best_0 (W H : Int) (cells bl : List (List AVal)) (hc : okCs cells) (hb : okB bl) (cls : Int) (hf : fmd W H cells.length = true) (cs : List Int) (hl : cs.length = cells.length) (hbnd : ∀ k, -1 ≤ cg cs k ∧ cg cs k ≤ 1000000) (i : Nat) (hi : i < cells.length) :
    ∀ (r m d : Nat), d + r = 8 → r < m → G_skirmishref17_best_0 (encC cs) bl cls i W H cells (px W i) (py W i) m d = some (match dN (nbG W H cells bl cls) cs i r d with | some e => (true, (e : Int)) | none => (false, 0))
  | 0, m, d, h1, h2 => by
    obtain ⟨m, rfl⟩ : ∃ q, m = q + 1 := ⟨m - 1, by omega⟩
    obtain rfl : d = 8 := by omega
    rfl
  | r + 1, m, d, h1, h2 => by
    obtain ⟨m, rfl⟩ : ∃ q, m = q + 1 := ⟨m - 1, by omega⟩
    have d1 : (d : Int) < 8 := by omega
    have w : wr ((d : Int) + 1) = ((d + 1 : Nat) : Int) := wr_suc d (by omega)
    have ih := best_0 W H cells bl hc hb cls hf cs hl hbnd i hi r m (d + 1) (by omega) (by omega)
    have hnb := nbG_of (W := W) (H := H) (cells := cells) (bl := bl) (cls := cls) (i := i) (d := d) hi (by omega)
    simp only [G_skirmishref17_best_0, d1, decide_true, cond_true, Step_r W H cells bl hc hb, Option.bind_some, w, ih, beside_r]
    cases hs : (stepN W H cells bl cls (px W i) (py W i) d).2 with
    | false =>
      rw [hs, if_neg (by simp)] at hnb
      simp only [cond_false, dN, hnb]
    | true =>
      rw [hs, if_pos rfl] at hnb
      have hin := step_ins hs
      have hcost := step_cost hs
      have nl := nm_lt hin.2
      have hidx : wr (wr ((stp (px W i) (py W i) d).2 * W) + (stp (px W i) (py W i) d).1) = ((nm W (stp (px W i) (py W i) d).1 (stp (px W i) (py W i) d).2 : Nat) : Int) := by rw [wr_mul hin.2, nl.2]
      generalize hq : stp (px W i) (py W i) d = q at *
      generalize hu : (stepN W H cells bl cls (px W i) (py W i) d).1 = u at *
      generalize nm W q.1 q.2 = j at *
      have g := encC_get (cs := cs) (k := j) (by omega)
      have gi := encC_get (cs := cs) (k := i) (by omega)
      have lj1 : (0 : Int) ≤ j := by omega
      have lj2 : (j : Int) < (cs.length : Nat) := by omega
      have li1 : (0 : Int) ≤ i := by omega
      have li2 : (i : Int) < (cs.length : Nat) := by omega
      have b1 := hbnd i
      have ws : wr (cg cs i - u) = cg cs i - u := wr_in (by omega) (by omega)
      simp only [cond_true, hidx, lj1, lj2, li1, li2, encC_len, Int.ofNat_eq_natCast, decide_true, Bool.and_self, Int.toNat_natCast, g, gi, Option.bind_some, chk_i, cI_i, ws, dN, hnb]
      by_cases hk : cg cs j + u = cg cs i
      · have : (cg cs j == cg cs i - u) = true := by rw [beq_iff_eq]; omega
        simp only [this, cond_true]
        rw [if_pos hk]
      · have : (cg cs j == cg cs i - u) = false := by rw [beq_eq_false_iff_ne]; omega
        simp only [this, cond_false]
        rw [if_neg hk]
theorem best_r (W H : Int) (cells bl : List (List AVal)) (hc : okCs cells) (hb : okB bl) (cls : Int) (hf : fmd W H cells.length = true) (cs : List Int) (hl : cs.length = cells.length) (hbnd : ∀ k, -1 ≤ cg cs k ∧ cg cs k ≤ 1000000) (i : Nat) (hi : i < cells.length) :
    F_skirmishref17_best W H cells bl cls (encC cs) i = some (dr (nbG W H cells bl cls) cs i) := by
  have l1 : (0 : Int) ≤ i := by omega
  have l2 : (i : Int) < (cs.length : Nat) := by omega
  have g := encC_get (cs := cs) (k := i) (by omega)
  obtain ⟨t1, t2, t3⟩ := tm_pos hf hi
  simp only [F_skirmishref17_best, l1, l2, encC_len, Int.ofNat_eq_natCast, decide_true, Bool.and_self, cond_true, Int.toNat_natCast, g, Option.bind_some, chk_i, cI_i, dr]
  by_cases hz : cg cs i ≤ 0
  · simp only [hz, decide_true, cond_true, if_true]
  · have h0 := best_0 W H cells bl hc hb cls hf cs hl hbnd i hi 8 FU 0 (by omega) (by unfold FU; omega)
    have h0' : G_skirmishref17_best_0 (encC cs) bl cls i W H cells (px W i) (py W i) FU 0 = _ := h0
    simp only [hz, decide_false, cond_false, if_false, t1, t2, t3, h0', Option.bind_some]
    cases dN (nbG W H cells bl cls) cs i 8 0 <;> rfl
theorem dirs_r (W H : Int) (cells bl : List (List AVal)) (hc : okCs cells) (hb : okB bl) (cls : Int) (hf : fmd W H cells.length = true) (cs : List Int) (hl : cs.length = cells.length) (hbnd : ∀ k, -1 ≤ cg cs k ∧ cg cs k ≤ 1000000) :
    ∀ (r m k : Nat), k + r = cells.length → r < m → G_skirmishref17_Build_2 (encC cs) bl cls W H cells m (encC (drL (nbG W H cells bl cls) cs k)) k = some (encC (drL (nbG W H cells bl cls) cs cells.length))
  | 0, m, k, h1, h2 => by
    obtain ⟨m, rfl⟩ : ∃ q, m = q + 1 := ⟨m - 1, by omega⟩
    obtain rfl : k = cells.length := by omega
    have : ¬ ((cells.length : Int) < cells.length) := by omega
    simp only [G_skirmishref17_Build_2, encC_len, hl, Int.ofNat_eq_natCast, this, decide_false, cond_false]
  | r + 1, m, k, h1, h2 => by
    obtain ⟨m, rfl⟩ : ∃ q, m = q + 1 := ⟨m - 1, by omega⟩
    have hsm := fmd_small hf
    have d1 : (k : Int) < cells.length := by omega
    have ih := dirs_r W H cells bl hc hb cls hf cs hl hbnd r m (k + 1) (by omega) (by omega)
    have w : wr ((k : Int) + 1) = ((k + 1 : Nat) : Int) := wr_suc k (by omega)
    have e : drL (nbG W H cells bl cls) cs k ++ [dr (nbG W H cells bl cls) cs k] = drL (nbG W H cells bl cls) cs (k + 1) := by
      unfold drL
      rw [List.range_succ, List.map_append]
      rfl
    simp only [G_skirmishref17_Build_2, encC_len, hl, Int.ofNat_eq_natCast, d1, decide_true, cond_true, best_r W H cells bl hc hb cls hf cs hl hbnd k (by omega), Option.bind_some, drL_len, room8 (show k + 1 ≤ 100000 by omega), encC_app, e, w, ih]
end Go.Proofs.YteiniiakpdijmaaDoor.AI
