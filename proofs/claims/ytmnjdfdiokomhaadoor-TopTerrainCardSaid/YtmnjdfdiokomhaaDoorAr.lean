/- What 'reach' of the package astar answers. -/
import Derived.Test.YtmnjdfdiokomhaaDoorSg
namespace Go.Proofs.YtmnjdfdiokomhaaDoor.AI
open Go.RowKit
set_option linter.unusedVariables false
set_option linter.unusedSimpArgs false

theorem free_a (W H : Int) (cells bl : List (List AVal)) (hc : okCs cells) (hb : okB bl) (cls x y : Int) : F_astar_ground__free W H cells bl cls x y = some (opn W H cells bl cls x y) := by
  simp only [F_astar_ground__free, passable_g W H cells hc, Option.bind_some, index_g, Int.ofNat_eq_natCast]
  cases hp : pas W H cells cls x y with
  | false => simp [opn, hp]
  | true =>
    simp only [Bool.not_true, cond_false]
    exact open_eq W H cells bl hb cls x y hp
theorem inside_a (W H : Int) (cells bl : List (List AVal)) (cls x y : Int) : F_astar_ground__inside W H cells bl cls x y = some (inn W H x y) := by
  simp only [F_astar_ground__inside, in_g, Option.bind_some]
theorem valid_a (W H : Int) (cells bl : List (List AVal)) (hc : okCs cells) (cls : Int) : F_astar_ground__valid W H cells bl cls = some (vmap W H cells && (decide (1 ≤ cls) && decide (cls ≤ 3))) := by
  simp only [F_astar_ground__valid, Valid_g W H cells hc, Option.bind_some, ge_iff_le]
  cases vmap W H cells <;> cases decide (1 ≤ cls) <;> simp
theorem ext_a (W : Int) (c : Nat) (hc : c ≤ 90000) : ∀ (r m : Nat) (B : List (List Nat)), B.length + r = max B.length (c + 1) → r < m → G_astar_ground__reach_2_0 c m (encB W B) = some (encB W (B ++ List.replicate r []))
  | 0, m, B, h1, h2 => by
    obtain ⟨m, rfl⟩ : ∃ q, m = q + 1 := ⟨m - 1, by omega⟩
    have : ¬ ((B.length : Int) ≤ c) := by omega
    simp only [G_astar_ground__reach_2_0, encB_len, Int.ofNat_eq_natCast, this, decide_false, cond_false, List.replicate_zero, List.append_nil]
  | r + 1, m, B, h1, h2 => by
    obtain ⟨m, rfl⟩ : ∃ q, m = q + 1 := ⟨m - 1, by omega⟩
    have d : (B.length : Int) ≤ c := by omega
    have ih := ext_a W c hc r m (B ++ [[]]) (by rw [List.length_append, List.length_singleton]; omega) (by omega)
    rw [List.append_assoc] at ih
    have e : ([[]] : List (List Nat)) ++ List.replicate r [] = List.replicate (r + 1) [] := rfl
    rw [e] at ih
    simp only [G_astar_ground__reach_2_0, encB_len, Int.ofNat_eq_natCast, d, decide_true, cond_true, room24 (show B.length + 1 ≤ 100000 by omega), encB_app, ih]
theorem chk_s (rows : List (List AVal)) : chk [(LT.sl 27 2)] [.ro 2 rows] = true := rfl
theorem add_a (W H : Int) (cells bl : List (List AVal)) (cls : Int) (hf : fmd W H cells.length = true) (c j : Nat) (cs : List Int) (B : List (List Nat)) (a : Int) (hl : cs.length = cells.length) (hj : j < cells.length) (hc : c ≤ 90000) (hB : B.length ≤ 90000) (ht : tot B ≤ 90000) (ha : 0 ≤ a ∧ a ≤ 1000000) :
    F_astar_ground__reach_2 (px W j) (py W j) c (encB W B) (encC cs) W H cells bl cls a = some (encB W (addB B c j), encC (cs.set j c), a + 1) := by
  have e := ext_a W c hc (max B.length (c + 1) - B.length) FU B (by omega) (by unfold FU; omega)
  have e2 : B ++ List.replicate (max B.length (c + 1) - B.length) [] = extB B c := by
    unfold extB
    congr 2
    omega
  rw [e2] at e
  have hlen := extB_len B c
  have l1 : (0 : Int) ≤ c := by omega
  have l2 : (c : Int) < ((extB B c).length : Nat) := by omega
  have g := encB_get (W := W) (B := extB B c) (k := c) (by omega)
  rw [bk_extB] at g
  have hb := bk_tot B c
  have hi := pos_ins hf hj
  have hx := (ins_idx hi).1
  have hp := pos_idx (i := j) hf
  have l3 : (0 : Int) ≤ j := by omega
  have l4 : (j : Int) < (cs.length : Nat) := by omega
  have w : wr (a + 1) = a + 1 := wr_in (by omega) (by omega)
  simp only [F_astar_ground__reach_2, e, Option.bind_some, encB_len, Int.ofNat_eq_natCast, l1, l2, decide_true, Bool.and_self, cond_true, Int.toNat_natCast, g, chk_s, cR_b, encP_len, room16 (show (bk B c).length + 1 ≤ 100000 by omega), encP_app, encB_set, List.length_set, Nat.beq_refl, index_g, hx, hp, encC_len, l3, l4, w, encC_set, addB]
theorem dirs_a (W H : Int) (cells bl : List (List AVal)) (hc : okCs cells) (hb : okB bl) (cls : Int) (hf : fmd W H cells.length = true) (p c : Nat) (c0 : List Int) (B0 : List (List Nat)) (hl : c0.length = cells.length) (hp : p < cells.length) (hcl : c ≤ 50000) (hB : B0.length ≤ 50000) (ht : tot B0 ≤ 50000) :
    ∀ (r m d : Nat) (q : List Int × List (List Nat)), d + r = 8 → r < m → HalfB cells.length (nbG W H cells bl cls) p c d c0 B0 q →
    G_astar_ground__reach_3 c W H cells bl cls (px W p) (py W p) m (encC q.1) (encB W q.2) d (tot q.2) = some (encC (rlxBN (nbG W H cells bl cls) p c r d q).1, encB W (rlxBN (nbG W H cells bl cls) p c r d q).2, (tot (rlxBN (nbG W H cells bl cls) p c r d q).2 : Int))
  | 0, m, d, q, h1, h2, hh => by
    obtain ⟨m, rfl⟩ : ∃ q, m = q + 1 := ⟨m - 1, by omega⟩
    obtain rfl : d = 8 := by omega
    rfl
  | r + 1, m, d, q, h1, h2, hh => by
    obtain ⟨m, rfl⟩ : ∃ q, m = q + 1 := ⟨m - 1, by omega⟩
    have ho := nbG_ok W H cells bl cls
    have d1 : (d : Int) < 8 := by omega
    have w : wr ((d : Int) + 1) = ((d + 1 : Nat) : Int) := wr_suc d (by omega)
    have ih := dirs_a W H cells bl hc hb cls hf p c c0 B0 hl hp hcl hB ht r m (d + 1) _ (by omega) (by omega) (HalfB.step ho hl hh)
    have hnb := nbG_of (W := W) (H := H) (cells := cells) (bl := bl) (cls := cls) (i := p) (d := d) hp (by omega)
    have hlen := hh.half.len
    have hbl := hh.blen
    have htt := hh.tot
    simp only [G_astar_ground__reach_3, d1, decide_true, cond_true, Step_g W H cells bl hc hb, Option.bind_some, w]
    cases hs : (stepN W H cells bl cls (px W p) (py W p) d).2 with
    | false =>
      rw [hs] at hnb
      rw [if_neg (by simp)] at hnb
      rw [hnb] at ih
      simp only [Bool.not_false, cond_true]
      rw [rlxBN, hnb]
      exact ih
    | true =>
      rw [hs, if_pos rfl] at hnb
      have hi := step_ins hs
      have hcost := step_cost hs
      obtain ⟨n1, n2⟩ := nm_lt hi.2
      have hpn := pos_nm hi.2
      have hidx := (ins_idx hi.2).1
      rw [rlxBN]
      rw [hnb] at ih ⊢
      generalize hq : stp (px W p) (py W p) d = s at *
      generalize hw : (stepN W H cells bl cls (px W p) (py W p) d).1 = u at *
      rw [← n2] at hidx
      generalize nm W s.1 s.2 = j at *
      have l1 : (j : Int) < (q.1.length : Nat) := by omega
      have l2 : (0 : Int) ≤ j := by omega
      have g1 := encC_get (cs := q.1) (k := j) (by omega)
      have w2 : wr ((c : Int) + u) = (((c : Int) + u).toNat : Nat) := by rw [wr_in (by omega) (by omega)]; omega
      have w3 : (((c : Int) + u).toNat : Int) = (c : Int) + u := by omega
      have add := add_a W H cells bl cls hf ((c : Int) + u).toNat j q.1 q.2 (tot q.2) (by omega) n1 (by omega) (by omega) (by omega) (by omega)
      rw [hpn.1, hpn.2, w3] at add
      have w4 : ((tot q.2 : Nat) : Int) + 1 = ((tot (addB q.2 ((c : Int) + u).toNat j) : Nat) : Int) := by rw [tot_addB]; omega
      simp only [Bool.not_true, cond_false, step_g, hq, Option.bind_some, index_g, hidx, encC_len, Int.ofNat_eq_natCast, l1, l2, decide_true, Bool.and_self, cond_true, Int.toNat_natCast, g1, chk_i, cI_i, w2, w3]
      simp only [rlxB] at ih ⊢
      by_cases hlt : cg q.1 j < 0
      · rw [if_pos (Or.inl hlt)] at ih ⊢
        simp only [hlt, decide_true, cond_true, add, Option.bind_some, w4]
        exact ih
      · by_cases hgt : (c : Int) + u < cg q.1 j
        · have hor : cg q.1 j < 0 ∨ (c : Int) + u < cg q.1 j := .inr hgt
          rw [if_pos hor] at ih ⊢
          simp only [hlt, hgt, decide_true, decide_false, cond_true, cond_false, add, Option.bind_some, w4]
          exact ih
        · have hor : ¬ (cg q.1 j < 0 ∨ (c : Int) + u < cg q.1 j) := by omega
          rw [if_neg hor] at ih ⊢
          simp only [hlt, hgt, decide_false, cond_false]
          exact ih
theorem take_last {l : List Nat} {len : Nat} (h : l.length = len + 1) : (∀ x, x ∈ l → x = l.getD len 0 ∨ x ∈ l.take len) ∧ (∀ x, x ∈ l.take len → x ∈ l) ∧ l.getD len 0 ∈ l ∧ (l.take len).length + 1 = l.length := by
  have hlt : len < l.length := by omega
  have e0 : l.getD len 0 = l[len] := by simp [List.getD, hlt]
  have e1 : l = l.take len ++ [l[len]] := by
    have := List.take_append_drop len l
    rw [List.drop_eq_getElem_cons hlt, List.drop_eq_nil_of_le (by omega)] at this
    exact this.symm
  refine ⟨fun x hx => ?_, fun x hx => List.mem_of_mem_take hx, ?_, ?_⟩
  · rw [e1] at hx
    rcases List.mem_append.1 hx with a | a
    · exact .inr a
    · rw [e0]
      exact .inl (List.mem_singleton.1 a)
  · rw [e0]
    exact List.getElem_mem hlt
  · rw [List.length_take]
    omega
theorem inner_a (W H : Int) (cells bl : List (List AVal)) (hc : okCs cells) (hb : okB bl) (cls : Int) (hf : fmd W H cells.length = true) (src : Nat → Prop) (g c : Nat) (hg : g ≤ 1000) :
    ∀ (len m : Nat) (cs : List Int) (S : List Nat) (B : List (List Nat)), Que cells.length (nbG W H cells bl cls) src g cs S B c → c < B.length → (bk B c).length = len → len < m →
    ∃ cs' S' B', G_astar_ground__reach_2 c W H cells bl cls m (encC cs) (encB W B) (tot B) = some (encC cs', encB W B', (tot B' : Int)) ∧ Que cells.length (nbG W H cells bl cls) src g cs' S' B' c ∧ bk B' c = [] ∧ c < B'.length
  | 0, m, cs, S, B, Q, hcB, hlen, hm => by
    obtain ⟨m, rfl⟩ : ∃ q, m = q + 1 := ⟨m - 1, by omega⟩
    have he : bk B c = [] := List.length_eq_zero_iff.1 hlen
    have l1 : (0 : Int) ≤ c := by omega
    have l2 : (c : Int) < (B.length : Nat) := by omega
    have gb := encB_get (W := W) (B := B) (k := c) hcB
    have z : ¬ ((0 : Nat) : Int) > 0 := by omega
    refine ⟨cs, S, B, ?_, Q, he, hcB⟩
    simp only [G_astar_ground__reach_2, encB_len, Int.ofNat_eq_natCast, l1, l2, decide_true, Bool.and_self, cond_true, Int.toNat_natCast, gb, Option.bind_some, chk_s, cR_b, encP_len, hlen, z, decide_false, cond_false]
  | len + 1, m, cs, S, B, Q, hcB, hlen, hm => by
    obtain ⟨m, rfl⟩ : ∃ q, m = q + 1 := ⟨m - 1, by omega⟩
    have hsm := fmd_small hf
    have hmax := Q.max
    have hbt := bk_tot B c
    have l1 : (0 : Int) ≤ c := by omega
    have l2 : (c : Int) < (B.length : Nat) := by omega
    have gb := encB_get (W := W) (B := B) (k := c) hcB
    have z : ((len + 1 : Nat) : Int) > 0 := by omega
    have w1 : wr (((len + 1 : Nat) : Int) - 1) = (len : Int) := by rw [wr_in (by omega) (by omega)]; omega
    have l3 : (0 : Int) ≤ len := by omega
    have l4 : (len : Int) < ((len + 1 : Nat) : Int) := by omega
    have l5 : (len : Int) ≤ ((len + 1 : Nat) : Int) := by omega
    have gp := encP_get (W := W) (l := bk B c) (k := len) (by omega)
    obtain ⟨t1, t2, t3, t4⟩ := take_last hlen
    have hp := (Q.ent c _ t3).1
    generalize hpe : (bk B c).getD len 0 = p at *
    have hi := pos_ins hf hp
    have hx := (ins_idx hi).1
    have hpi := pos_idx (i := p) hf
    have hcl := Q.part.len
    have l6 : (0 : Int) ≤ p := by omega
    have l7 : (p : Int) < (cs.length : Nat) := by omega
    have gc := encC_get (cs := cs) (k := p) (by omega)
    have e1 : (encP W (bk B c)).take len = encP W ((bk B c).take len) := by simp [encP, List.map_take]
    have htot := tot_set B c ((bk B c).take len) hcB
    have w2 : wr (((tot B : Nat) : Int) - 1) = ((tot (B.set c ((bk B c).take len)) : Nat) : Int) := by rw [wr_in (by omega) (by omega)]; omega
    by_cases hne : cg cs p = c
    · have T := Que.take (nbG_ok W H cells bl cls) Q hcB t3 t1 t2 t4 hne
      obtain ⟨⟨S', Q'⟩, u1, u2⟩ := T
      have hd := dirs_a W H cells bl hc hb cls hf p c cs (B.set c ((bk B c).take len)) hcl hp (by omega) (by rw [List.length_set]; omega) (by omega) 8 FU 0 (cs, B.set c ((bk B c).take len)) (by omega) (by unfold FU; omega) (HalfB.zero _ _ _ _ _ _)
      have hd' : G_astar_ground__reach_3 c W H cells bl cls (px W p) (py W p) FU (encC cs) (encB W (B.set c ((bk B c).take len))) 0 (tot (B.set c ((bk B c).take len))) = _ := hd
      obtain ⟨cs', S2, B', v1, v2, v3, v4⟩ := inner_a W H cells bl hc hb cls hf src g c hg len m _ S' _ Q' u2 (by rw [u1]; omega) (by omega)
      refine ⟨cs', S2, B', ?_, v2, v3, v4⟩
      have hb' : (cg cs p != (c : Int)) = false := by rw [hne]; simp
      simp only [G_astar_ground__reach_2, encB_len, Int.ofNat_eq_natCast, l1, l2, decide_true, Bool.and_self, cond_true, Int.toNat_natCast, gb, Option.bind_some, chk_s, cR_b, encP_len, hlen, z, w1, l3, l4, l5, gp, chk_p, cI_p0, cI_p1, hpe, Int.toNat_zero, List.drop_zero, e1, encB_set, List.length_set, Nat.beq_refl, index_g, hx, hpi, encC_len, l6, l7, gc, chk_i, cI_i, hb', cond_false, w2, hd', v1]
    · have Q' := Q.pop hcB t1 t2 t4 (.inl hne)
      obtain ⟨cs', S2, B', v1, v2, v3, v4⟩ := inner_a W H cells bl hc hb cls hf src g c hg len m cs S _ Q' (by rw [List.length_set]; exact hcB) (by rw [bk_set _ hcB, if_pos rfl]; omega) (by omega)
      refine ⟨cs', S2, B', ?_, v2, v3, v4⟩
      have hb' : (cg cs p != (c : Int)) = true := by simpa using hne
      simp only [G_astar_ground__reach_2, encB_len, Int.ofNat_eq_natCast, l1, l2, decide_true, Bool.and_self, cond_true, Int.toNat_natCast, gb, Option.bind_some, chk_s, cR_b, encP_len, hlen, z, w1, l3, l4, l5, gp, chk_p, cI_p0, cI_p1, hpe, Int.toNat_zero, List.drop_zero, e1, encB_set, List.length_set, Nat.beq_refl, index_g, hx, hpi, encC_len, l6, l7, gc, chk_i, cI_i, hb', w2, v1]
theorem outer_a (W H : Int) (cells bl : List (List AVal)) (hc : okCs cells) (hb : okB bl) (cls : Int) (hf : fmd W H cells.length = true) (src : Nat → Prop) (g : Nat) (hg : g ≤ 1000) :
    ∀ (r m c : Nat) (cs : List Int) (S : List Nat) (B : List (List Nat)), c + r = 19 * cells.length + 2 → r < m → Que cells.length (nbG W H cells bl cls) src g cs S B c → c ≤ B.length →
    ∃ cs' B', G_astar_ground__reach_1 W H cells bl cls m (encC cs) (encB W B) c (tot B) = some (encC cs', B', (0 : Int)) ∧ cs'.length = cells.length ∧ Right cells.length (nbG W H cells bl cls) src (cg cs')
  | 0, m, c, cs, S, B, h1, h2, Q, hcB => by
    have := Q.max
    omega
  | r + 1, m, c, cs, S, B, h1, h2, Q, hcB => by
    obtain ⟨m, rfl⟩ : ∃ q, m = q + 1 := ⟨m - 1, by omega⟩
    have hsm := fmd_small hf
    by_cases hlt : c < B.length
    · have d1 : (c : Int) < (B.length : Nat) := by omega
      have hmax := Q.max
      have hbt := bk_tot B c
      obtain ⟨cs1, S1, B1, v1, v2, v3, v4⟩ := inner_a W H cells bl hc hb cls hf src g c hg (bk B c).length FU cs S B Q hlt rfl (by unfold FU; omega)
      obtain ⟨cs', B', u1, u2, u3⟩ := outer_a W H cells bl hc hb cls hf src g hg r m (c + 1) cs1 S1 B1 (by omega) (by omega) (v2.next v3) (by omega)
      have w : wr ((c : Int) + 1) = ((c + 1 : Nat) : Int) := wr_suc c (by omega)
      refine ⟨cs', B', ?_, u2, u3⟩
      simp only [G_astar_ground__reach_1, encB_len, Int.ofNat_eq_natCast, d1, decide_true, cond_true, v1, Option.bind_some, w, u1]
    · have d1 : ¬ (c : Int) < (B.length : Nat) := by omega
      obtain ⟨q1, q2⟩ := Q.end (by omega)
      refine ⟨cs, encB W B, ?_, Q.part.len, q1⟩
      simp only [G_astar_ground__reach_1, encB_len, Int.ofNat_eq_natCast, d1, decide_false, cond_false, q2, Int.natCast_zero]
theorem fill_a (n : Nat) (hn : n ≤ 100000) : ∀ (r m k : Nat) (cs : List Int), cs.length = n → k + r = n → r < m → (∀ j, j < k → cg cs j = -1) → G_astar_ground__reach_0 n m (encC cs) k = some (encC (List.replicate n (-1)))
  | 0, m, k, cs, hl, h1, h2, h => by
    obtain ⟨m, rfl⟩ : ∃ q, m = q + 1 := ⟨m - 1, by omega⟩
    obtain rfl : k = n := by omega
    have : ¬ ((k : Int) < k) := by omega
    have e : cs = List.replicate k (-1) := cost_ext hl (by simp) fun j hj => by
      rw [h j hj]
      unfold cg
      rw [List.getD_eq_getElem?_getD, List.getElem?_replicate, if_pos hj]
      rfl
    simp only [G_astar_ground__reach_0, this, decide_false, cond_false]
    rw [e]
  | r + 1, m, k, cs, hl, h1, h2, h => by
    obtain ⟨m, rfl⟩ : ∃ q, m = q + 1 := ⟨m - 1, by omega⟩
    have d1 : (k : Int) < n := by omega
    have d2 : (0 : Int) ≤ k := by omega
    have ih := fill_a n hn r m (k + 1) (cs.set k (-1)) (by rw [List.length_set]; exact hl) (by omega) (by omega) fun j hj => by
      rw [cg_set j _ (by omega)]
      split
      · rfl
      · exact h j (by omega)
    have w : wr ((k : Int) + 1) = ((k + 1 : Nat) : Int) := wr_suc k (by omega)
    simp only [G_astar_ground__reach_0, d1, d2, encC_len, hl, Int.ofNat_eq_natCast, decide_true, Bool.and_self, cond_true, Int.toNat_natCast, encC_set, w, ih]
theorem cg_rep {n j : Nat} : cg (List.replicate n (-1)) j = -1 := by
  unfold cg
  rw [List.getD_eq_getElem?_getD, List.getElem?_replicate]
  split <;> rfl
/-- The costs from a cell: none where it is not free. -/
def RC (W H : Int) (cells bl : List (List AVal)) (cls : Int) (j : Nat) (cs : List Int) : Prop :=
  cs.length = cells.length ∧ ((opn W H cells bl cls (px W j) (py W j) = false ∧ cs = List.replicate cells.length (-1)) ∨ (opn W H cells bl cls (px W j) (py W j) = true ∧ Right cells.length (nbG W H cells bl cls) (· = j) (cg cs)))
theorem RC.uniq {W H : Int} {cells bl : List (List AVal)} {cls : Int} {j : Nat} {cs ds : List Int} (h : RC W H cells bl cls j cs) (k : RC W H cells bl cls j ds) : cs = ds := by
  rcases h.2 with ⟨a, b⟩ | ⟨a, b⟩ <;> rcases k.2 with ⟨e, f⟩ | ⟨e, f⟩
  · rw [b, f]
  · rw [a] at e; cases e
  · rw [a] at e; cases e
  · exact cost_ext h.1 k.1 fun i hi => Right.eq (nbG_ok W H cells bl cls) b f i hi
theorem start1 {n j : Nat} (hj : j < n) : ∀ i, i < n → (i = j ∧ cg ((List.replicate n (-1 : Int)).set j 0) i = 0) ∨ (¬ i = j ∧ cg ((List.replicate n (-1 : Int)).set j 0) i = -1) := fun i hi => by
  rw [cg_set i _ (by simp; exact hj), cg_rep]
  by_cases h : j = i
  · subst h; simp
  · rw [if_neg h]
    exact .inr ⟨fun e => h e.symm, rfl⟩
/-- At the beginning one cell waits. -/
theorem Que.one {n : Nat} {nb : Nb} {j : Nat} (hj : j < n) : Que n nb (· = j) 1 ((List.replicate n (-1 : Int)).set j 0) [] (addB [] 0 j) 0 := by
  have hs := start1 hj
  have e0 : ∀ i, 0 ≤ cg ((List.replicate n (-1 : Int)).set j 0) i → i = j ∧ cg ((List.replicate n (-1 : Int)).set j 0) i = 0 := fun i hi => by
    have hl := cg_lt hi
    rw [List.length_set, List.length_replicate] at hl
    rcases hs i hl with a | a
    · exact a
    · omega
  refine ⟨Part.start (by simp) hs, fun i hi _ => ?_, fun v i hi => ?_, fun i hi => (by cases hi), fun v hv => (by omega), ?_, ?_⟩
  · obtain ⟨a, b⟩ := e0 i hi
    subst a
    rw [b, bk_addB]
    simp [bk]
  · rw [bk_addB] at hi
    split at hi
    · rename_i e
      subst e
      simp [bk] at hi
      subst hi
      have : cg ((List.replicate n (-1 : Int)).set i 0) i = 0 := by rw [cg_set i _ (by simp; exact hj), if_pos rfl]
      refine ⟨hj, by omega, by omega⟩
    · simp [bk] at hi
  · rw [addB_len]; simp
  · rw [tot_addB]; simp [Go.Proofs.YtmnjdfdiokomhaaDoor.AI.tot]
theorem reach_a (W H : Int) (cells bl : List (List AVal)) (hc : okCs cells) (hb : okB bl) (cls : Int) (hf : fmd W H cells.length = true) (j : Nat) (hj : j < cells.length) :
    ∃ cs, F_astar_ground__reach W H cells bl cls (px W j) (py W j) = some (encC cs) ∧ RC W H cells bl cls j cs := by
  have hsm := fmd_small hf
  have e1 : (0 : Int) ≤ cells.length := by omega
  have e2 : (cells.length : Int) ≤ 9223372036854775807 := by omega
  have e3 : (8 : Int) * (cells.length : Int) ≤ 140737488355328 := by omega
  have hfill := fill_a cells.length (by omega) cells.length FU 0 (List.replicate cells.length 0) (by simp) (by omega) (by unfold FU; omega) fun j hj => by omega
  have hfill' : G_astar_ground__reach_0 cells.length FU (encC (List.replicate cells.length 0)) 0 = _ := hfill
  have hadd := add_a W H cells bl cls hf 0 j (List.replicate cells.length (-1)) [] 0 (by simp) hj (by omega) (by simp) (by simp [tot]) (by omega)
  have hadd' : F_astar_ground__reach_2 (px W j) (py W j) 0 [] (encC (List.replicate cells.length (-1))) W H cells bl cls 0 = some (encB W (addB [] 0 j), encC ((List.replicate cells.length (-1)).set j 0), 0 + 1) := hadd
  have ht : ((0 : Int) + 1) = ((tot (addB [] 0 j) : Nat) : Int) := by rw [tot_addB]; simp [tot]
  rw [ht] at hadd'
  obtain ⟨cs', B', o1, o2, o3⟩ := outer_a W H cells bl hc hb cls hf (· = j) 1 (by omega) (19 * cells.length + 2) FU 0 _ _ _ (by omega) (by unfold FU; omega) (Que.one hj) (by omega)
  have o1' : G_astar_ground__reach_1 W H cells bl cls FU (encC ((List.replicate cells.length (-1)).set j 0)) (encB W (addB [] 0 j)) 0 (tot (addB [] 0 j)) = _ := o1
  cases hop : opn W H cells bl cls (px W j) (py W j) with
  | false =>
    refine ⟨List.replicate cells.length (-1), ?_, by simp, .inl ⟨hop, rfl⟩⟩
    simp only [F_astar_ground__reach, Int.ofNat_eq_natCast, e1, e2, e3, decide_true, Bool.and_self, cond_true, Int.toNat_natCast, encC_rep, encC_len, List.length_replicate, hfill', Option.bind_some, free_a W H cells bl hc hb, hop, Bool.not_false]
  | true =>
    refine ⟨cs', ?_, o2, .inr ⟨hop, o3⟩⟩
    simp only [F_astar_ground__reach, Int.ofNat_eq_natCast, e1, e2, e3, decide_true, Bool.and_self, cond_true, Int.toNat_natCast, encC_rep, encC_len, List.length_replicate, hfill', Option.bind_some, free_a W H cells bl hc hb, hop, Bool.not_true, cond_false, hadd', o1', F_astar_ground__reach_1, bne_self_eq_false]
end Go.Proofs.YtmnjdfdiokomhaaDoor.AI
