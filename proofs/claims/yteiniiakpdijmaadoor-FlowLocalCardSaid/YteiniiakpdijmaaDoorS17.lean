/- The laws of chapter 17, in plain Lean. -/
import Derived.Test.YteiniiakpdijmaaDoorS17a
namespace Go.Proofs.YteiniiakpdijmaaDoor.AI
open Go.RowKit
set_option linter.unusedVariables false
set_option linter.unusedSimpArgs false

theorem awake17 : F_skirmishlaw17_alive = some true := by kernel_rfl
theorem small17 (W H : Int) (cells bl : List (List AVal)) (cls : Int) (rows : List (List AVal)) (ax ay : Int) : F_skirmishlaw17_small W H cells bl cls rows ax ay = some (decide ((cells.length : Int) ≤ 1100) && (decide ((bl.length : Int) ≤ 2000) && decide ((rows.length : Int) ≤ 20))) := by
  simp only [F_skirmishlaw17_small, bif_and, Int.ofNat_eq_natCast]
theorem pure_FlowBuilds (W H : Int) (cells bl : List (List AVal)) (cls : Int) (rows : List (List AVal)) (ax ay : Int) (h1 : wf .i64 W) (h2 : wf .i64 H) (h3 : Ty Tryd.prog (.sl 48 3) (.ro 3 cells)) (h4 : Ty Tryd.prog (.sl 4 1) (.ro 1 bl)) (h5 : wf .i64 cls) (h6 : Ty Tryd.prog (.sl 28 2) (.ro 2 rows)) (h7 : wf .i64 ax) (h8 : wf .i64 ay) :
    F_skirmishlaw17_FlowBuilds W H cells bl cls rows ax ay = some true := by
  have hc := okCs_of (by kernel_rfl) h3
  have hb := okB_of (by kernel_rfl) h4
  have hp := okP_of (by kernel_rfl) h6
  simp only [F_skirmishlaw17_FlowBuilds, small17, awake17, Option.bind_some]
  by_cases hn : (rows.length : Int) ≤ 20
  · simp only [Build_f W H cells bl hc hb cls rows hp (by omega), Build_r W H cells bl hc hb cls rows hp (by omega), Option.bind_some, same_BN cls hc hb hp, cond_true, beq_self_eq_true]
    cases (decide ((cells.length : Int) ≤ 1100) && (decide ((bl.length : Int) ≤ 2000) && decide ((rows.length : Int) ≤ 20))) <;> rfl
  · simp only [hn, decide_false, Bool.and_false, Bool.not_false, cond_true]
theorem pure_FlowNexts (cls : Int) (rows cost dir : List (List AVal)) (W H : Int) (cells : List (List AVal)) (x y : Int) (h1 : wf .i64 cls) (h2 : Ty Tryd.prog (.sl 28 2) (.ro 2 rows)) (h3 : Ty Tryd.prog (.sl 3 1) (.ro 1 cost)) (h4 : Ty Tryd.prog (.sl 3 1) (.ro 1 dir)) (h5 : wf .i64 W) (h6 : wf .i64 H) (h7 : Ty Tryd.prog (.sl 48 3) (.ro 3 cells)) (h8 : wf .i64 x) (h9 : wf .i64 y) :
    F_skirmishlaw17_FlowNexts cls rows cost dir W H cells x y = some true := by
  have hc := okCs_of (by kernel_rfl) h7
  have i1 := okI_of (by kernel_rfl) h3
  have i2 := okI_of (by kernel_rfl) h4
  obtain ⟨q1, q2⟩ := FO_ok (W := W) (H := H) (cells := cells) (cost := cost) (dir := dir) x y
  simp only [F_skirmishlaw17_FlowNexts, awake17, Option.bind_some, Next_f W H cells hc cls rows cost dir i2, Next_r W H cells hc cls rows cost dir i2, Follow_f W H cells hc cls rows cost dir i1 i2, Follow_r W H cells hc cls rows cost dir i1 i2, beq_self_eq_true, Bool.and_self, cond_true, samePath_r _ q1 (show (FO W H cells cost dir x y).length ≤ 100000 by omega)]
  cases decide ((Int.ofNat cost.length) > (1100 : Int)) <;> cases decide ((Int.ofNat dir.length) > (1100 : Int)) <;> cases decide ((Int.ofNat rows.length) > (20 : Int)) <;> cases decide ((Int.ofNat cells.length) > (1100 : Int)) <;> rfl
theorem pure_FlowChecks (cls : Int) (rows cost dir : List (List AVal)) (W H : Int) (cells bl : List (List AVal)) (h1 : wf .i64 cls) (h2 : Ty Tryd.prog (.sl 28 2) (.ro 2 rows)) (h3 : Ty Tryd.prog (.sl 3 1) (.ro 1 cost)) (h4 : Ty Tryd.prog (.sl 3 1) (.ro 1 dir)) (h5 : wf .i64 W) (h6 : wf .i64 H) (h7 : Ty Tryd.prog (.sl 48 3) (.ro 3 cells)) (h8 : Ty Tryd.prog (.sl 4 1) (.ro 1 bl)) :
    F_skirmishlaw17_FlowChecks cls rows cost dir W H cells bl = some true := by
  have hc := okCs_of (by kernel_rfl) h7
  have hb := okB_of (by kernel_rfl) h8
  have hp := okP_of (by kernel_rfl) h2
  have i1 := okI_of (by kernel_rfl) h3
  have i2 := okI_of (by kernel_rfl) h4
  simp only [F_skirmishlaw17_FlowChecks, awake17, Option.bind_some, Int.ofNat_eq_natCast]
  by_cases k1 : (cost.length : Int) > 1100
  · simp only [k1, decide_true, cond_true]
  by_cases k2 : (dir.length : Int) > 1100
  · simp only [k1, k2, decide_true, decide_false, cond_true, cond_false]
  by_cases k3 : (rows.length : Int) > 20
  · simp only [k1, k2, k3, decide_true, decide_false, cond_true, cond_false]
  by_cases k4 : (cells.length : Int) > 1100
  · simp only [k1, k2, k3, k4, decide_true, decide_false, cond_true, cond_false]
  by_cases k5 : (bl.length : Int) > 2000
  · simp only [k1, k2, k3, k4, k5, decide_true, decide_false, cond_true, cond_false]
  simp only [k1, k2, k3, k4, k5, decide_false, cond_false, Check_f W H cells bl hc hb cls rows cost dir hp (by omega) i1 i2 (by omega) (by omega), Check_r W H cells bl hc hb cls rows cost dir hp (by omega) i1 i2 (by omega) (by omega), Option.bind_some, beq_self_eq_true, cond_true]

/-! ### The way that a built field leads -/
theorem encC_getD {cs : List Int} {k : Nat} (h : k < cs.length) : cI ((encC cs).getD k []) 0 = cg cs k := by
  rw [List.getD_eq_getElem?_getD, encC_get h]
  rfl
theorem nx_stop {W H : Int} {cells : List (List AVal)} (hf : fmd W H cells.length = true) (nb : Nb) (cs : List Int) (i : Nat) (hi : i < cells.length) (h : cg cs i ≤ 0) : nxN W H (encC (drL nb cs cells.length)) (px W i) (py W i) = (0, 0, false) := by
  have hin := (ins_iff.1 (pos_ins hf hi)).2
  have e : cI ((encC (drL nb cs cells.length)).getD (nm W (px W i) (py W i)) []) 0 = -1 := by
    rw [nm_pos hf, encC_getD (by rw [drL_len]; exact hi), drL_cg hi]
    unfold dr
    rw [if_pos h]
  unfold nxN
  rw [hin, e]
  rfl
theorem nx_go {W H : Int} {cells bl : List (List AVal)} {cls : Int} (hf : fmd W H cells.length = true) {src : Nat → Prop} {cs : List Int} (hr : Right cells.length (nbG W H cells bl cls) src (cg cs)) (i : Nat) (hi : i < cells.length) (h : 0 < cg cs i) :
    ∃ j, nxt (nbG W H cells bl cls) cs i = some j ∧ j < cells.length ∧ 0 ≤ cg cs j ∧ cg cs j + 10 ≤ cg cs i ∧ nxN W H (encC (drL (nbG W H cells bl cls) cs cells.length)) (px W i) (py W i) = (px W j, py W j, true) := by
  obtain ⟨d, j, w, k1, k2, k3, k4, k5, k6, k7, k8⟩ := nxt_some (nbG_ok W H cells bl cls) (nbG_sym W H cells bl cls) hr hi h
  refine ⟨j, k4, k5, k6, by omega, ?_⟩
  obtain ⟨y1, y2, y3, y4⟩ := nbG_some k3
  have hs := step_ins (W := W) (H := H) (cells := cells) (bl := bl) (cls := cls) (x := px W i) (y := py W i) (d := d) (by rw [y3])
  have p := pos_nm hs.2
  rw [← y4] at p
  have hin := (ins_iff.1 (pos_ins hf hi)).2
  have e : cI ((encC (drL (nbG W H cells bl cls) cs cells.length)).getD (nm W (px W i) (py W i)) []) 0 = d := by
    rw [nm_pos hf, encC_getD (by rw [drL_len]; exact hi), drL_cg hi]
    unfold dr
    rw [if_neg (by omega), k1]
  have hq := (ins_iff.1 hs.2).2
  unfold nxN
  rw [hin, e, decide_eq_false (show ¬ ((d : Int) < 0) by omega), decide_eq_false (show ¬ ((d : Int) > 7) by omega), hq, ← p.1, ← p.2]
  rfl
theorem fol_wk {W H : Int} {cells bl : List (List AVal)} {cls : Int} (hf : fmd W H cells.length = true) {src : Nat → Prop} {cs : List Int} (hr : Right cells.length (nbG W H cells bl cls) src (cg cs)) :
    ∀ (f i r : Nat) (l : List (List AVal)), i < cells.length → 0 ≤ cg cs i → cg cs i < 10 * f → (wk (nbG W H cells bl cls) cs f i).length ≤ r →
    ∃ b, (i :: wk (nbG W H cells bl cls) cs f i).getLast? = some b ∧ folN W H (encC (drL (nbG W H cells bl cls) cs cells.length)) r l (px W i) (py W i) = (false, l ++ encP W (wk (nbG W H cells bl cls) cs f i), px W b, py W b)
  | 0, i, r, l, hi, h0, h1, h2 => by omega
  | f + 1, i, r, l, hi, h0, h1, h2 => by
    unfold wk at h2 ⊢
    by_cases hz : cg cs i ≤ 0
    · rw [if_pos hz]
      refine ⟨i, rfl, ?_⟩
      have e := nx_stop hf (nbG W H cells bl cls) cs i hi hz
      cases r with
      | zero => simp only [folN, e, cond_false, encP, List.map_nil, List.append_nil]
      | succ r => simp only [folN, e, cond_false, encP, List.map_nil, List.append_nil]
    · rw [if_neg hz] at h2 ⊢
      obtain ⟨j, k1, k2, k3, k4, k5⟩ := nx_go hf hr i hi (by omega)
      rw [k1] at h2 ⊢
      simp only [List.length_cons] at h2 ⊢
      obtain ⟨r, rfl⟩ : ∃ q, r = q + 1 := ⟨r - 1, by omega⟩
      obtain ⟨b, b1, b2⟩ := fol_wk hf hr f j r (l ++ [[i64 (px W j), i64 (py W j)]]) k2 k3 (by omega) (by omega)
      refine ⟨b, by rw [List.getLast?_cons_cons]; exact b1, ?_⟩
      simp only [folN, k5, cond_true, b2]
      rw [List.append_assoc]
      rfl
theorem wk_less {n : Nat} {nb : Nb} {src : Nat → Prop} {cs : List Int} (ho : NbOk n nb) (hs : NbSym nb) (hr : Right n nb src (cg cs)) : ∀ (f i : Nat), i < n → 0 ≤ cg cs i → (∀ x, x ∈ wk nb cs f i → x < n ∧ cg cs x < cg cs i) ∧ (wk nb cs f i).Nodup
  | 0, i, hi, h0 => ⟨fun x hx => (by cases hx), List.nodup_nil⟩
  | f + 1, i, hi, h0 => by
    unfold wk
    by_cases hz : cg cs i ≤ 0
    · rw [if_pos hz]
      exact ⟨fun x hx => (by cases hx), List.nodup_nil⟩
    · rw [if_neg hz]
      obtain ⟨d, j, w, k1, k2, k3, k4, k5, k6, k7, k8⟩ := nxt_some ho hs hr hi (by omega)
      rw [k4]
      simp only
      obtain ⟨a1, a2⟩ := wk_less ho hs hr f j k5 k6
      refine ⟨fun x hx => ?_, List.nodup_cons.2 ⟨fun q => ?_, a2⟩⟩
      · rcases List.mem_cons.1 hx with rfl | hx
        · exact ⟨k5, by omega⟩
        · have := a1 x hx
          exact ⟨this.1, by omega⟩
      · have := (a1 j q).2
        omega
theorem wk_short {n : Nat} {nb : Nb} {src : Nat → Prop} {cs : List Int} (ho : NbOk n nb) (hs : NbSym nb) (hr : Right n nb src (cg cs)) (f i : Nat) (hi : i < n) (h0 : 0 ≤ cg cs i) : (wk nb cs f i).length + 1 ≤ n := by
  obtain ⟨a1, a2⟩ := wk_less ho hs hr f i hi h0
  have := nodup_len n (i :: wk nb cs f i) (List.nodup_cons.2 ⟨fun q => by have := (a1 i q).2; omega, a2⟩) fun x hx => by
    rcases List.mem_cons.1 hx with rfl | hx
    · exact hi
    · exact (a1 x hx).1
  rw [List.length_cons] at this
  exact this
theorem reach_opn {W H : Int} {cells bl : List (List AVal)} {cls : Int} {src : Nat → Prop} {k : Nat} {c : Nat → Int} (hr : Right cells.length (nbG W H cells bl cls) src c) (hj : ∀ j, src j → opn W H cells bl cls (px W j) (py W j) = true) (hk : k < cells.length) (h0 : 0 ≤ c k) : opn W H cells bl cls (px W k) (py W k) = true := by
  rcases hr.back k hk h0 with ⟨a, b⟩ | ⟨i, d, w, a1, a2, a3, a4, a5⟩
  · exact hj k a
  · obtain ⟨y1, y2, y3, y4⟩ := nbG_some a3
    have hs := step_ins (W := W) (H := H) (cells := cells) (bl := bl) (cls := cls) (x := px W i) (y := py W i) (d := d) (by rw [y3])
    have hop := (free_step (W := W) (H := H) (cells := cells) (bl := bl) (cls := cls) (x := px W i) (y := py W i) (d := d) (by rw [y3])).2
    have p := pos_nm hs.2
    rw [← y4] at p
    rw [← p.1, ← p.2] at hop
    exact hop
theorem goals_opn {W H : Int} {cells bl : List (List AVal)} {cls : Int} {n : Nat} (hf : fmd W H n = true) {rows : List (List AVal)} (ha : rows.all (inR W H) = true) (hop : rows.all (opG W H cells bl cls) = true) : ∀ j, j ∈ dcP W rows → opn W H cells bl cls (px W j) (py W j) = true := by
  intro j hj
  obtain ⟨r, hr, rfl⟩ := List.mem_map.1 hj
  have h1 := List.all_eq_true.1 ha r hr
  have h2 := List.all_eq_true.1 hop r hr
  have p := pos_nm (ins_iff.2 ⟨hf, h1⟩ : ins W H n (cI r 0) (cI r 1) = true)
  rw [p.1, p.2]
  exact h2
/-- Is a place among goals? -/
def hitN (rows : List (List AVal)) (x y : Int) : Bool := rows.any fun r => (cI r 0 == x) && (cI r 1 == y)
theorem hit_drop {rows : List (List AVal)} {k : Nat} (hk : k < rows.length) (x y : Int) : (rows.drop k).any (fun r => (cI r 0 == x) && (cI r 1 == y)) = (((cI (rows.getD k []) 0 == x) && (cI (rows.getD k []) 1 == y)) || (rows.drop (k + 1)).any fun r => (cI r 0 == x) && (cI r 1 == y)) := by
  rw [List.drop_eq_getElem_cons hk, List.any_cons, List.getD_eq_getElem?_getD, List.getElem?_eq_getElem hk]
  rfl
theorem hitN_iff {W H : Int} {n i : Nat} (hf : fmd W H n = true) (hi : i < n) {rows : List (List AVal)} (ha : rows.all (inR W H) = true) : hitN rows (px W i) (py W i) = true ↔ i ∈ dcP W rows := by
  unfold hitN dcP
  rw [List.any_eq_true, List.mem_map]
  constructor
  · rintro ⟨r, hr, h⟩
    rw [Bool.and_eq_true, beq_iff_eq, beq_iff_eq] at h
    exact ⟨r, hr, by rw [h.1, h.2]; exact nm_pos hf⟩
  · rintro ⟨r, hr, h⟩
    have p := pos_nm (ins_iff.2 ⟨hf, List.all_eq_true.1 ha r hr⟩ : ins W H n (cI r 0) (cI r 1) = true)
    rw [h] at p
    exact ⟨r, hr, by rw [p.1, p.2]; simp⟩
theorem hit_G (l : List (List AVal)) (x y : Int) (rows : List (List AVal)) (ho : okP rows) (hn : rows.length ≤ 1000000) (hl : 0 < l.length) (hl2 : l.length ≤ 1000000) (hx : l[l.length - 1]? = some [i64 x, i64 y]) : ∀ (m r k : Nat) (hit : Bool), k + r = rows.length → r < m → G_skirmishlaw17_FlowFollows_0 l rows.length rows m hit k = some (hit || (rows.drop k).any fun r => (cI r 0 == x) && (cI r 1 == y))
  | 0, r, k, hit, h1, h2 => by omega
  | m + 1, 0, k, hit, h1, h2 => by
    have : ¬ ((k : Int) < rows.length) := by omega
    simp only [G_skirmishlaw17_FlowFollows_0, this, decide_false, cond_false, List.drop_eq_nil_of_le (show rows.length ≤ k by omega), List.any_nil, Bool.or_false]
  | m + 1, r + 1, k, hit, h1, h2 => by
    have d1 : (k : Int) < rows.length := by omega
    have d2 : (0 : Int) ≤ k := by omega
    have g := okP_get ho (show k < rows.length by omega)
    have w : wr ((k : Int) + 1) = ((k + 1 : Nat) : Int) := wr_suc k (by omega)
    have wl : wr (((l.length : Nat) : Int) - 1) = ((l.length - 1 : Nat) : Int) := by rw [wr_in (by omega) (by omega)]; omega
    have z1 : (0 : Int) ≤ ((l.length - 1 : Nat) : Int) := by omega
    have z2 : ((l.length - 1 : Nat) : Int) < ((l.length : Nat) : Int) := by omega
    have ih := fun h => hit_G l x y rows ho hn hl hl2 hx m r (k + 1) h (by omega) (by omega)
    rw [hit_drop (show k < rows.length by omega)]
    cases hit with
    | true => simp only [G_skirmishlaw17_FlowFollows_0, d1, decide_true, cond_true, w, ih, Bool.true_or]
    | false => simp only [G_skirmishlaw17_FlowFollows_0, Int.ofNat_eq_natCast, d1, d2, decide_true, cond_true, cond_false, Int.toNat_natCast, g, Option.bind_some, chk_p, cI_p0, cI_p1, wl, z1, z2, Bool.and_self, hx, w, ih, Bool.false_or]
theorem pure_FlowFollows (W H : Int) (cells bl : List (List AVal)) (cls : Int) (rows : List (List AVal)) (ax ay : Int) (h1 : wf .i64 W) (h2 : wf .i64 H) (h3 : Ty Tryd.prog (.sl 48 3) (.ro 3 cells)) (h4 : Ty Tryd.prog (.sl 4 1) (.ro 1 bl)) (h5 : wf .i64 cls) (h6 : Ty Tryd.prog (.sl 28 2) (.ro 2 rows)) (h7 : wf .i64 ax) (h8 : wf .i64 ay) :
    F_skirmishlaw17_FlowFollows W H cells bl cls rows ax ay = some true := by
  have hc := okCs_of (by kernel_rfl) h3
  have hb := okB_of (by kernel_rfl) h4
  have hp := okP_of (by kernel_rfl) h6
  simp only [F_skirmishlaw17_FlowFollows, small17, awake17, Option.bind_some, Int.ofNat_eq_natCast]
  by_cases hn : (rows.length : Int) ≤ 20
  · cases (decide ((cells.length : Int) ≤ 1100) && (decide ((bl.length : Int) ≤ 2000) && decide ((rows.length : Int) ≤ 20))) with
    | false => rfl
    | true =>
      obtain ⟨p1, p2, p3, p4, p5, p6, p7, p8⟩ := BN_parts (W := W) (H := H) cls hc hb hp
      simp only [Bool.not_true, cond_false, Build_f W H cells bl hc hb cls rows hp (by omega), Option.bind_some]
      by_cases he : (BN W H cells bl cls rows).2.2.2.2 = 0
      · obtain ⟨hv, hk, r1, r2, ha, hop, e⟩ := p7 he
        have hf := vmap_fmd hv
        have hsm := fmd_small hf
        obtain ⟨s1, s2, s3, s4⟩ := CS_ok W H cells bl hc hb cls hf rows hp ha
        simp only [e, bne_self_eq_false, cond_false, in_r, Option.bind_some, encC_len, s2]
        cases hi : inn W H ax ay with
        | false => rfl
        | true =>
          have ia : ins W H cells.length ax ay = true := ins_iff.2 ⟨hf, hi⟩
          have na := nm_lt ia
          have pa := pos_nm ia
          have hx : wr (wr (ay * W) + ax) = ((nm W ax ay : Nat) : Int) := by rw [wr_mul ia, na.2]
          have z1 : (0 : Int) ≤ (nm W ax ay : Nat) := by omega
          have z2 : ((nm W ax ay : Nat) : Int) < (cells.length : Nat) := by omega
          have g := encC_get (cs := CS W H cells bl cls rows) (k := nm W ax ay) (by omega)
          have hfit : fitN W H cells (encC (CS W H cells bl cls rows)) (encC (drL (nbG W H cells bl cls) (CS W H cells bl cls rows) cells.length)) = true := by
            unfold fitN
            rw [hv, encC_len, encC_len, s2, drL_len]
            simp
          simp only [Bool.not_true, cond_false, Follow_f W H cells hc cls rows _ _ (okI_enc _) (okI_enc _), Option.bind_some, hx, z1, z2, decide_true, Bool.and_self, cond_true, Int.toNat_natCast, g, chk_i, cI_i]
          by_cases hneg : cg (CS W H cells bl cls rows) (nm W ax ay) < 0
          · -- no goal is reached
            have est := nx_stop hf (nbG W H cells bl cls) (CS W H cells bl cls rows) (nm W ax ay) na.1 (by omega)
            rw [pa.1, pa.2] at est
            have hFO : FO W H cells (encC (CS W H cells bl cls rows)) (encC (drL (nbG W H cells bl cls) (CS W H cells bl cls rows) cells.length)) ax ay = [] := by
              unfold FO
              rw [hfit, hi]
              have ef : folN W H (encC (drL (nbG W H cells bl cls) (CS W H cells bl cls rows) cells.length)) (cells.length - 1) [[i64 ax, i64 ay]] ax ay = (false, [[i64 ax, i64 ay]], ax, ay) := by
                cases cells.length - 1 with
                | zero => simp only [folN, est, cond_false]
                | succ r => simp only [folN, est, cond_false]
              rw [ef]
              simp only
              rw [encC_getD (by omega)]
              have : (cg (CS W H cells bl cls rows) (nm W ax ay) != 0) = true := by rw [bne_iff_ne]; omega
              rw [this]
              rfl
            simp only [hneg, decide_true, cond_true, hFO, List.length_nil, Int.natCast_zero, beq_self_eq_true]
          · have b := s4 (nm W ax ay)
            have hshort := wk_short (nbG_ok W H cells bl cls) (nbG_sym W H cells bl cls) s3 50000 (nm W ax ay) na.1 (by omega)
            obtain ⟨w1, ⟨c, w2, w5, w6⟩, w3, w4⟩ := wk_way (nbG_ok W H cells bl cls) (nbG_sym W H cells bl cls) (nbG_inj W H cells bl cls) s3 50000 (nm W ax ay) na.1 (by omega) (by omega)
            obtain ⟨c', f1, f2⟩ := fol_wk hf s3 50000 (nm W ax ay) (cells.length - 1) [[i64 ax, i64 ay]] na.1 (by omega) (by omega) (by omega)
            have hcc : c' = c := by rw [w2] at f1; exact (Option.some.inj f1).symm
            subst hcc
            rw [pa.1, pa.2] at f2
            have hgoal := (s3.zero_iff (nbG_ok W H cells bl cls) w5).1 w6
            have hFO : FO W H cells (encC (CS W H cells bl cls rows)) (encC (drL (nbG W H cells bl cls) (CS W H cells bl cls rows) cells.length)) ax ay = encP W (nm W ax ay :: wk (nbG W H cells bl cls) (CS W H cells bl cls rows) 50000 (nm W ax ay)) := by
              unfold FO
              rw [hfit, hi, f2]
              simp only
              rw [nm_pos hf, encC_getD (by omega), w6]
              show [[i64 ax, i64 ay]] ++ encP W (wk (nbG W H cells bl cls) (CS W H cells bl cls rows) 50000 (nm W ax ay)) = encP W (nm W ax ay :: wk (nbG W H cells bl cls) (CS W H cells bl cls rows) 50000 (nm W ax ay))
              have : encP W (nm W ax ay :: wk (nbG W H cells bl cls) (CS W H cells bl cls rows) 50000 (nm W ax ay)) = [i64 (px W (nm W ax ay)), i64 (py W (nm W ax ay))] :: encP W (wk (nbG W H cells bl cls) (CS W H cells bl cls rows) 50000 (nm W ax ay)) := rfl
              rw [this, pa.1, pa.2]
              rfl
            generalize hl : nm W ax ay :: wk (nbG W H cells bl cls) (CS W H cells bl cls rows) 50000 (nm W ax ay) = l at *
            have hlen : l.length ≤ 1024 := by rw [← hl, List.length_cons]; omega
            have hne : 0 < l.length := by rw [← hl, List.length_cons]; omega
            obtain ⟨q1, q2⟩ := encP_inR hf l w3
            have oa := reach_opn s3 (goals_opn hf ha hop) na.1 (by omega)
            rw [pa.1, pa.2] at oa
            have hcost : costN W H cells bl cls (encP W l) = (cg (CS W H cells bl cls rows) (nm W ax ay), 0) := by
              unfold costN
              have e1 : (encP W l).isEmpty = false := by rw [← hl]; rfl
              have e2 : cI ((encP W l).getD 0 []) 0 = ax ∧ cI ((encP W l).getD 0 []) 1 = ay := by
                rw [← hl]
                exact ⟨pa.1, pa.2⟩
              rw [hv, hk, e1, q1, e2.1, e2.2, oa, dcP_encP hf, w1]
              rfl
            have g0 := encP_get (W := W) (l := l) (k := 0) hne
            have e0 : l.getD 0 0 = nm W ax ay := by rw [← hl]; rfl
            rw [e0, pa.1, pa.2] at g0
            have g0' : (encP W l)[(0 : Int).toNat]? = some [i64 ax, i64 ay] := g0
            have g1 := encP_get (W := W) (l := l) (k := l.length - 1) (by omega)
            have elast : l.getD (l.length - 1) 0 = c' := by
              rw [List.getLast?_eq_getElem?] at w2
              rw [List.getD_eq_getElem?_getD, w2]
              rfl
            rw [elast] at g1
            have hhit := hit_G (encP W l) (px W c') (py W c') rows hp (by omega) (by rw [encP_len]; exact hne) (by rw [encP_len]; omega) (by rw [encP_len]; exact g1) FU rows.length 0 false (by omega) (by unfold FU; omega)
            have hh : hitN rows (px W c') (py W c') = true := (hitN_iff hf w5 ha).2 hgoal
            have hhit' : G_skirmishlaw17_FlowFollows_0 (encP W l) rows.length rows FU false 0 = some true := by
              have : (false || (rows.drop 0).any fun r => (cI r 0 == px W c') && (cI r 1 == py W c')) = true := hh
              rw [← this]
              exact hhit
            have z3 : ((l.length : Int) == 0) = false := by rw [beq_eq_false_iff_ne]; omega
            have z4 : (0 : Int) < (l.length : Nat) := by omega
            simp only [hneg, decide_false, cond_false, hFO, encP_len, z3, z4, decide_true, cond_true, g0', Option.bind_some, chk_p, cI_p0, cI_p1, beq_self_eq_true, Bool.and_self, Bool.not_true, Cost_r W H cells bl hc hb cls (encP W l) q2 (by rw [encP_len]; omega), hcost, hhit', g, chk_i, cI_i]
      · have hb' : ((BN W H cells bl cls rows).2.2.2.2 != 0) = true := by simpa using he
        simp only [hb', cond_true]
  · simp only [hn, decide_false, Bool.and_false, Bool.not_false, cond_true]

/-! ### The local conditions -/
/-- The least over directions from 'd' on. -/
theorem least_G (W H : Int) (cells bl : List (List AVal)) (hc : okCs cells) (hb : okB bl) (cls : Int) (hf : fmd W H cells.length = true) (cs : List Int) (hl : cs.length = cells.length) (hbnd : ∀ k, -1 ≤ cg cs k ∧ cg cs k ≤ 19456) (i : Nat) (hi : i < cells.length) :
    ∀ (r m d : Nat) (L : Int), d + r = 8 → r < m → -1 ≤ L → L ≤ 100000 → ∃ L', G_skirmishlaw17_FlowLocal_1 (encC cs) W H cells bl cls (px W i) (py W i) m L d = some L' ∧
      (L' = L ∨ ∃ e j w, d ≤ e ∧ e < 8 ∧ nbG W H cells bl cls i e = some (j, w) ∧ 0 ≤ cg cs j ∧ L' = cg cs j + w) ∧ (∀ e j w, d ≤ e → e < 8 → nbG W H cells bl cls i e = some (j, w) → 0 ≤ cg cs j → 0 ≤ L' ∧ L' ≤ cg cs j + w) ∧ (0 ≤ L → 0 ≤ L' ∧ L' ≤ L)
  | 0, m, d, L, h1, h2, h3, h4 => by
    obtain ⟨m, rfl⟩ : ∃ q, m = q + 1 := ⟨m - 1, by omega⟩
    obtain rfl : d = 8 := by omega
    exact ⟨L, rfl, .inl rfl, fun e j w a b => by omega, fun h => ⟨h, Int.le_refl _⟩⟩
  | r + 1, m, d, L, h1, h2, h3, h4 => by
    obtain ⟨m, rfl⟩ : ∃ q, m = q + 1 := ⟨m - 1, by omega⟩
    have d1 : (d : Int) < 8 := by omega
    have w : wr ((d : Int) + 1) = ((d + 1 : Nat) : Int) := wr_suc d (by omega)
    have hnb := nbG_of (W := W) (H := H) (cells := cells) (bl := bl) (cls := cls) (i := i) (d := d) hi (by omega)
    cases hs : (stepN W H cells bl cls (px W i) (py W i) d).2 with
    | false =>
      rw [hs, if_neg (by simp)] at hnb
      obtain ⟨L', a1, a2, a3, a4⟩ := least_G W H cells bl hc hb cls hf cs hl hbnd i hi r m (d + 1) L (by omega) (by omega) h3 h4
      refine ⟨L', ?_, ?_, fun e j u x y z => ?_, a4⟩
      · simp only [G_skirmishlaw17_FlowLocal_1, d1, decide_true, cond_true, Step_r W H cells bl hc hb, Option.bind_some, beside_r, hs, cond_false, w, a1]
      · rcases a2 with q | ⟨e, j, u, b1, b2⟩
        · exact .inl q
        · exact .inr ⟨e, j, u, by omega, b2⟩
      · have : e ≠ d := fun q => by subst q; rw [hnb] at z; cases z
        exact a3 e j u (by omega) y z
    | true =>
      rw [hs, if_pos rfl] at hnb
      have hin := step_ins hs
      have hcost := step_cost hs
      have nl := nm_lt hin.2
      have hidx : wr (wr ((stp (px W i) (py W i) d).2 * W) + (stp (px W i) (py W i) d).1) = ((nm W (stp (px W i) (py W i) d).1 (stp (px W i) (py W i) d).2 : Nat) : Int) := by rw [wr_mul hin.2, nl.2]
      generalize hq : stp (px W i) (py W i) d = q at *
      generalize hu : (stepN W H cells bl cls (px W i) (py W i) d).1 = u at *
      generalize nm W q.1 q.2 = j at *
      have g := encC_get (cs := cs) (k := j) (by omega)
      have lj1 : (0 : Int) ≤ j := by omega
      have lj2 : (j : Int) < (cs.length : Nat) := by omega
      have bj := hbnd j
      have ws : wr (cg cs j + u) = cg cs j + u := wr_in (by omega) (by omega)
      -- what the rest of the directions make of a new least
      have rest : ∀ (L2 : Int), -1 ≤ L2 → L2 ≤ 100000 → (L2 = L ∨ (0 ≤ cg cs j ∧ L2 = cg cs j + u)) → (0 ≤ cg cs j → 0 ≤ L2 ∧ L2 ≤ cg cs j + u) → (0 ≤ L → 0 ≤ L2 ∧ L2 ≤ L) →
          G_skirmishlaw17_FlowLocal_1 (encC cs) W H cells bl cls (px W i) (py W i) (m + 1) L d = G_skirmishlaw17_FlowLocal_1 (encC cs) W H cells bl cls (px W i) (py W i) m L2 ((d + 1 : Nat) : Int) →
          ∃ L', G_skirmishlaw17_FlowLocal_1 (encC cs) W H cells bl cls (px W i) (py W i) (m + 1) L d = some L' ∧
          (L' = L ∨ ∃ e j w, d ≤ e ∧ e < 8 ∧ nbG W H cells bl cls i e = some (j, w) ∧ 0 ≤ cg cs j ∧ L' = cg cs j + w) ∧ (∀ e j w, d ≤ e → e < 8 → nbG W H cells bl cls i e = some (j, w) → 0 ≤ cg cs j → 0 ≤ L' ∧ L' ≤ cg cs j + w) ∧ (0 ≤ L → 0 ≤ L' ∧ L' ≤ L) := by
        intro L2 x1 x2 x3 x4 x5 x6
        obtain ⟨L', a1, a2, a3, a4⟩ := least_G W H cells bl hc hb cls hf cs hl hbnd i hi r m (d + 1) L2 (by omega) (by omega) x1 x2
        refine ⟨L', by rw [x6, a1], ?_, fun e j' u' x y z z0 => ?_, fun h => ?_⟩
        · rcases a2 with q | ⟨e, j', u', b1, b2⟩
          · rcases x3 with t | ⟨t1, t2⟩
            · exact .inl (by omega)
            · exact .inr ⟨d, j, u, Nat.le_refl _, by omega, hnb, t1, by omega⟩
          · exact .inr ⟨e, j', u', by omega, b2⟩
        · by_cases hed : e = d
          · subst hed
            rw [hnb] at z
            simp only [Option.some.injEq, Prod.mk.injEq] at z
            obtain ⟨rfl, rfl⟩ := z
            have t := x4 z0
            have := a4 t.1
            omega
          · exact a3 e j' u' (by omega) y z z0
        · have t := x5 h
          have := a4 t.1
          omega
      by_cases h0 : cg cs j ≥ 0
      · by_cases hL : L < 0
        · refine rest (cg cs j + u) (by omega) (by omega) (.inr ⟨h0, rfl⟩) (fun _ => by omega) (fun h => by omega) ?_
          simp only [G_skirmishlaw17_FlowLocal_1, d1, decide_true, cond_true, Step_r W H cells bl hc hb, Option.bind_some, beside_r, hs, hq, hu, hidx, lj1, lj2, encC_len, Int.ofNat_eq_natCast, Bool.and_self, Int.toNat_natCast, g, chk_i, cI_i, h0, hL, ws, w]
        · by_cases hlt : cg cs j + u < L
          · refine rest (cg cs j + u) (by omega) (by omega) (.inr ⟨h0, rfl⟩) (fun _ => by omega) (fun h => by omega) ?_
            simp only [G_skirmishlaw17_FlowLocal_1, d1, decide_true, decide_false, cond_true, cond_false, Step_r W H cells bl hc hb, Option.bind_some, beside_r, hs, hq, hu, hidx, lj1, lj2, encC_len, Int.ofNat_eq_natCast, Bool.and_self, Int.toNat_natCast, g, chk_i, cI_i, h0, hL, ws, hlt, w]
          · refine rest L h3 h4 (.inl rfl) (fun _ => by omega) (fun h => by omega) ?_
            simp only [G_skirmishlaw17_FlowLocal_1, d1, decide_true, decide_false, cond_true, cond_false, Step_r W H cells bl hc hb, Option.bind_some, beside_r, hs, hq, hu, hidx, lj1, lj2, encC_len, Int.ofNat_eq_natCast, Bool.and_self, Int.toNat_natCast, g, chk_i, cI_i, h0, hL, ws, hlt, w]
      · refine rest L h3 h4 (.inl rfl) (fun h => absurd h h0) (fun h => by omega) ?_
        simp only [G_skirmishlaw17_FlowLocal_1, d1, decide_true, decide_false, cond_true, cond_false, Step_r W H cells bl hc hb, Option.bind_some, beside_r, hs, hq, hu, hidx, lj1, lj2, encC_len, Int.ofNat_eq_natCast, Bool.and_self, Int.toNat_natCast, g, chk_i, cI_i, h0, w]
theorem goal_G (x y : Int) (rows : List (List AVal)) (ho : okP rows) (hn : rows.length ≤ 1000000) : ∀ (m r k : Nat) (hit : Bool), k + r = rows.length → r < m → G_skirmishlaw17_FlowLocal_2 rows.length rows x y m hit k = some (hit || (rows.drop k).any fun r => (cI r 0 == x) && (cI r 1 == y))
  | 0, r, k, hit, h1, h2 => by omega
  | m + 1, 0, k, hit, h1, h2 => by
    have : ¬ ((k : Int) < rows.length) := by omega
    simp only [G_skirmishlaw17_FlowLocal_2, this, decide_false, cond_false, List.drop_eq_nil_of_le (show rows.length ≤ k by omega), List.any_nil, Bool.or_false]
  | m + 1, r + 1, k, hit, h1, h2 => by
    have d1 : (k : Int) < rows.length := by omega
    have d2 : (0 : Int) ≤ k := by omega
    have g := okP_get ho (show k < rows.length by omega)
    have w : wr ((k : Int) + 1) = ((k + 1 : Nat) : Int) := wr_suc k (by omega)
    have ih := fun h => goal_G x y rows ho hn m r (k + 1) h (by omega) (by omega)
    rw [hit_drop (show k < rows.length by omega)]
    cases hit with
    | true => simp only [G_skirmishlaw17_FlowLocal_2, d1, decide_true, cond_true, w, ih, Bool.true_or]
    | false => simp only [G_skirmishlaw17_FlowLocal_2, d1, d2, decide_true, cond_true, cond_false, Int.toNat_natCast, g, Option.bind_some, chk_p, cI_p0, cI_p1, w, ih, Bool.false_or]
theorem local_G (W H : Int) (cells bl : List (List AVal)) (hc : okCs cells) (hb : okB bl) (cls : Int) (hf : fmd W H cells.length = true) (rows : List (List AVal)) (hp : okP rows) (hn : rows.length ≤ 1000) (ha : rows.all (inR W H) = true) (cs : List Int) (hl : cs.length = cells.length) (hr : Right cells.length (nbG W H cells bl cls) (· ∈ dcP W rows) (cg cs)) (hbnd : ∀ k, -1 ≤ cg cs k ∧ cg cs k ≤ 19456) :
    ∀ (r m i : Nat), i + r = cells.length → r < m → G_skirmishlaw17_FlowLocal_0 (encC cs) cells.length W H cells bl cls rows m i = some false
  | 0, m, i, h1, h2 => by
    obtain ⟨m, rfl⟩ : ∃ q, m = q + 1 := ⟨m - 1, by omega⟩
    have : ¬ ((i : Int) < cells.length) := by omega
    simp only [G_skirmishlaw17_FlowLocal_0, this, decide_false, cond_false]
  | r + 1, m, i, h1, h2 => by
    obtain ⟨m, rfl⟩ : ∃ q, m = q + 1 := ⟨m - 1, by omega⟩
    have hsm := fmd_small hf
    have hi : i < cells.length := by omega
    have d1 : (i : Int) < cells.length := by omega
    have d2 : (0 : Int) ≤ i := by omega
    have d3 : (i : Int) < cs.length := by omega
    obtain ⟨t1, t2, t3⟩ := tm_pos hf hi
    have ho := nbG_ok W H cells bl cls
    have hsy := nbG_sym W H cells bl cls
    obtain ⟨L, a1, a2, a3, a4⟩ := least_G W H cells bl hc hb cls hf cs hl hbnd i hi 8 FU 0 (-1) (by omega) (by unfold FU; omega) (by omega) (by omega)
    have a1' : G_skirmishlaw17_FlowLocal_1 (encC cs) W H cells bl cls (px W i) (py W i) FU (-1) 0 = some L := a1
    have hg := goal_G (px W i) (py W i) rows hp (by omega) FU rows.length 0 false (by omega) (by unfold FU; omega)
    have hg' : G_skirmishlaw17_FlowLocal_2 rows.length rows (px W i) (py W i) FU false 0 = some (hitN rows (px W i) (py W i)) := by
      have : (false || (rows.drop 0).any fun r => (cI r 0 == px W i) && (cI r 1 == py W i)) = hitN rows (px W i) (py W i) := rfl
      rw [← this]
      exact hg
    have g := encC_get (cs := cs) (k := i) (by omega)
    have w : wr ((i : Int) + 1) = ((i + 1 : Nat) : Int) := wr_suc i (by omega)
    have ih := local_G W H cells bl hc hb cls hf rows hp hn ha cs hl hr hbnd r m (i + 1) (by omega) (by omega)
    have hzero : hitN rows (px W i) (py W i) = (cg cs i == 0) := by
      rw [Bool.eq_iff_iff, hitN_iff hf hi ha, beq_iff_eq]
      exact (hr.zero_iff ho hi).symm
    simp only [G_skirmishlaw17_FlowLocal_0, d1, decide_true, cond_true, t1, cond_false, t2, t3, a1', Int.ofNat_eq_natCast, hg', Option.bind_some, d2, d3, encC_len, Bool.and_self, Int.toNat_natCast, g, chk_i, cI_i, hzero, beq_self_eq_true, Bool.not_true, w, ih]
    cases hz : (cg cs i == 0) with
    | true => rfl
    | false =>
      have hne : cg cs i ≠ 0 := by simpa using hz
      have hL : cg cs i = L := by
        have b := hbnd i
        by_cases h0 : 0 ≤ cg cs i
        · -- some neighbor gives the cost, none gives less
          rcases hr.back i hi h0 with ⟨x, y⟩ | ⟨k, d, u, b1, b2, b3, b4, b5⟩
          · omega
          · obtain ⟨e, e1, e2⟩ := hsy _ _ _ _ b2 b3
            have t := a3 e k u (by omega) e1 e2 b4
            rcases a2 with q | ⟨e', j', u', _, c2, c3, c4, c5⟩
            · omega
            · obtain ⟨f, f1, f2⟩ := hsy _ _ _ _ c2 c3
              have := hr.edge j' f i u' (ho.lt _ _ _ _ c3).2 f1 f2 c4
              omega
        · rcases a2 with q | ⟨e', j', u', _, c2, c3, c4, c5⟩
          · omega
          · obtain ⟨f, f1, f2⟩ := hsy _ _ _ _ c2 c3
            have := hr.edge j' f i u' (ho.lt _ _ _ _ c3).2 f1 f2 c4
            omega
      have : (cg cs i != L) = false := by rw [hL]; simp
      simp only [Bool.not_false, cond_true, this, cond_false]
theorem pure_FlowLocal (W H : Int) (cells bl : List (List AVal)) (cls : Int) (rows : List (List AVal)) (ax ay : Int) (h1 : wf .i64 W) (h2 : wf .i64 H) (h3 : Ty Tryd.prog (.sl 48 3) (.ro 3 cells)) (h4 : Ty Tryd.prog (.sl 4 1) (.ro 1 bl)) (h5 : wf .i64 cls) (h6 : Ty Tryd.prog (.sl 28 2) (.ro 2 rows)) (h7 : wf .i64 ax) (h8 : wf .i64 ay) :
    F_skirmishlaw17_FlowLocal W H cells bl cls rows ax ay = some true := by
  have hc := okCs_of (by kernel_rfl) h3
  have hb := okB_of (by kernel_rfl) h4
  have hp := okP_of (by kernel_rfl) h6
  simp only [F_skirmishlaw17_FlowLocal, small17, awake17, Option.bind_some, Int.ofNat_eq_natCast]
  by_cases hn : (rows.length : Int) ≤ 20
  · cases (decide ((cells.length : Int) ≤ 1100) && (decide ((bl.length : Int) ≤ 2000) && decide ((rows.length : Int) ≤ 20))) with
    | false => rfl
    | true =>
      obtain ⟨p1, p2, p3, p4, p5, p6, p7, p8⟩ := BN_parts (W := W) (H := H) cls hc hb hp
      simp only [Bool.not_true, cond_false, Build_f W H cells bl hc hb cls rows hp (by omega), Option.bind_some]
      by_cases he : (BN W H cells bl cls rows).2.2.2.2 = 0
      · obtain ⟨hv, hk, r1, r2, ha, hop, e⟩ := p7 he
        have hf := vmap_fmd hv
        have hsm := fmd_small hf
        obtain ⟨s1, s2, s3, s4⟩ := CS_ok W H cells bl hc hb cls hf rows hp ha
        have hloc := local_G W H cells bl hc hb cls hf rows hp (by omega) ha (CS W H cells bl cls rows) s2 s3 s4 cells.length FU 0 (by omega) (by unfold FU; omega)
        have hloc' : G_skirmishlaw17_FlowLocal_0 (encC (CS W H cells bl cls rows)) cells.length W H cells bl cls rows FU 0 = some false := hloc
        have hchk := Check_f W H cells bl hc hb cls rows (encC (CS W H cells bl cls rows)) (encC (drL (nbG W H cells bl cls) (CS W H cells bl cls rows) cells.length)) hp (by omega) (okI_enc _) (okI_enc _) (by rw [encC_len]; omega) (by rw [encC_len, drL_len]; omega)
        rw [e] at hchk
        simp only [eqI_self, beq_self_eq_true, Bool.and_self] at hchk
        simp only [e, bne_self_eq_false, cond_false, encC_len, s2, hchk, Option.bind_some, Bool.not_true, hloc']
      · have hb' : ((BN W H cells bl cls rows).2.2.2.2 != 0) = true := by simpa using he
        simp only [hb', cond_true, p8 he, List.length_nil, Int.natCast_zero, beq_self_eq_true]
  · simp only [hn, decide_false, Bool.and_false, Bool.not_false, cond_true]

/-! ### Updates -/
theorem room1 {n : Nat} (h : n ≤ 100000) : roomOk n 1 = true := by simp [roomOk]; omega
theorem okB_app {bl : List (List AVal)} (hb : okB bl) (n : Nat) : okB (bl ++ List.replicate n [bo false]) := by
  intro r hr
  rcases List.mem_append.1 hr with hr | hr
  · exact hb r hr
  · obtain ⟨_, rfl⟩ := List.mem_replicate.1 hr
    rfl
theorem okB_set {bl : List (List AVal)} (hb : okB bl) (k : Nat) (v : Bool) : okB (bl.set k [bo v]) := by
  intro r hr
  rcases List.mem_or_eq_of_mem_set hr with hr | rfl
  · exact hb r hr
  · rfl
theorem put_G (i : Nat) (hi : i ≤ 50000) : ∀ (r m : Nat) (bl : List (List AVal)), bl.length + r = max bl.length (i + 1) → r < m → G_skirmishlaw17_put_0 i m bl = some (bl ++ List.replicate r [bo false])
  | 0, m, bl, h1, h2 => by
    obtain ⟨m, rfl⟩ : ∃ q, m = q + 1 := ⟨m - 1, by omega⟩
    have : ¬ ((bl.length : Int) ≤ i) := by omega
    simp only [G_skirmishlaw17_put_0, Int.ofNat_eq_natCast, this, decide_false, cond_false, List.replicate_zero, List.append_nil]
  | r + 1, m, bl, h1, h2 => by
    obtain ⟨m, rfl⟩ : ∃ q, m = q + 1 := ⟨m - 1, by omega⟩
    have d : (bl.length : Int) ≤ i := by omega
    have ih := put_G i hi r m (bl ++ [[bo false]]) (by rw [List.length_append, List.length_singleton]; omega) (by omega)
    rw [List.append_assoc] at ih
    have e : ([[bo false]] : List (List AVal)) ++ List.replicate r [bo false] = List.replicate (r + 1) [bo false] := rfl
    rw [e] at ih
    simp only [G_skirmishlaw17_put_0, Int.ofNat_eq_natCast, d, decide_true, cond_true, room1 (show bl.length + 1 ≤ 100000 by omega), ih]
theorem put_r (W H : Int) (cells bl : List (List AVal)) (hc : okCs cells) (hb : okB bl) (hv : vmap W H cells = true) (hbl : bl.length ≤ 5000) (cls : Int) (rows : List (List AVal)) (ax ay cx cy k h a : Int) (v : Bool) (hi : inn W H cx cy = true) (h1 : rng k) (h2 : rng h) (h3 : rng a) :
    ∃ cells' bl', F_skirmishlaw17_put W H cells bl cls rows ax ay cx cy k h a v = some (W, H, cells', bl', cls, rows, ax, ay) ∧ okCs cells' ∧ okB bl' ∧ vmap W H cells' = true ∧ bl'.length ≤ 5000 := by
  have hf := vmap_fmd hv
  have hs := fmd_small hf
  have hin : ins W H cells.length cx cy = true := ins_iff.2 ⟨hf, hi⟩
  have nl := nm_lt hin
  have hx : wr (wr (cy * W) + cx) = ((nm W cx cy : Nat) : Int) := by rw [wr_mul hin, nl.2]
  have l1 : (0 : Int) ≤ (nm W cx cy : Nat) := by omega
  have l2 : ((nm W cx cy : Nat) : Int) < (cells.length : Nat) := by omega
  have hc' : okCs (cells.set (nm W cx cy) [i64 k, i64 h, i64 a]) := okCs_set hc _ h1 h2 h3
  have hput := put_G (nm W cx cy) (by omega) (max bl.length (nm W cx cy + 1) - bl.length) FU bl (by omega) (by unfold FU; omega)
  have hlen : (bl ++ List.replicate (max bl.length (nm W cx cy + 1) - bl.length) [bo false]).length = max bl.length (nm W cx cy + 1) := by rw [List.length_append, List.length_replicate]; omega
  have l3 : ((nm W cx cy : Nat) : Int) < ((max bl.length (nm W cx cy + 1) : Nat) : Int) := by omega
  have hb' := okB_set (okB_app hb (max bl.length (nm W cx cy + 1) - bl.length)) (nm W cx cy) v
  cases hval : vmap W H (cells.set (nm W cx cy) [i64 k, i64 h, i64 a]) with
  | true =>
    refine ⟨cells.set (nm W cx cy) [i64 k, i64 h, i64 a], (bl ++ List.replicate (max bl.length (nm W cx cy + 1) - bl.length) [bo false]).set (nm W cx cy) [bo v], ?_, hc', hb', hval, by rw [List.length_set, hlen]; omega⟩
    simp only [F_skirmishlaw17_put, room24 (show 0 + cells.length ≤ 100000 by omega), cond_true, hx, l1, l2, Int.ofNat_eq_natCast, decide_true, Bool.and_self, Int.toNat_natCast, roRows, Valid_r W H _ hc', hval, Option.bind_some, room1 (show 0 + bl.length ≤ 100000 by omega), hput, hlen, l3]
  | false =>
    refine ⟨cells, (bl ++ List.replicate (max bl.length (nm W cx cy + 1) - bl.length) [bo false]).set (nm W cx cy) [bo v], ?_, hc, hb', hv, by rw [List.length_set, hlen]; omega⟩
    simp only [F_skirmishlaw17_put, room24 (show 0 + cells.length ≤ 100000 by omega), cond_true, cond_false, hx, l1, l2, Int.ofNat_eq_natCast, decide_true, Bool.and_self, Int.toNat_natCast, roRows, Valid_r W H _ hc', hval, Option.bind_some, room1 (show 0 + bl.length ≤ 100000 by omega), hput, hlen, l3]
/-- Changes. -/
def okX (l : List (List AVal)) : Prop := ∀ r, r ∈ l → chk [.int .i64, .int .i64, .int .i64, .int .i64, .int .i64, .bool] r = true ∧ rng (cI r 2) ∧ rng (cI r 3) ∧ rng (cI r 4)
theorem okX_of {P : Program} {T E : Nat} {rows : List (List AVal)} (hl : leafOf P 8 T = [.int .i64, .int .i64, .int .i64, .int .i64, .int .i64, .bool]) (h : Ty P (.sl T E) (.ro E rows)) : okX rows := fun r hr => by
  have h1 := okR_of hl h r hr
  have h2 := (ty_rows h).2.1 r hr
  rw [hl] at h2
  exact ⟨h1, tyL_int h2 (j := 2) rfl, tyL_int h2 (j := 3) rfl, tyL_int h2 (j := 4) rfl⟩
theorem upd_G (W H : Int) (c1 b1 : List (List AVal)) (cls : Int) (rows : List (List AVal)) (ax ay : Int) (l : List (List AVal)) (hl : okX l) (hln : l.length ≤ 20) :
    ∀ (r m k : Nat) (R cells bl : List (List AVal)), k + r = l.length → r < m → okCs cells → okB bl → vmap W H cells = true → bl.length ≤ 5000 → R.length ≤ 20 + k → (R = [] → cells = c1 ∧ bl = b1) →
    ∃ R' cells' bl', G_skirmishlaw17_FlowUpdates_0 l l.length m R k W H cells bl cls rows ax ay = some (R', W, H, cells', bl', cls, rows, ax, ay) ∧ okCs cells' ∧ okB bl' ∧ vmap W H cells' = true ∧ (R' = [] → cells' = c1 ∧ bl' = b1)
  | 0, m, k, R, cells, bl, h1, h2, h3, h4, h5, h6, h7, h8 => by
    obtain ⟨m, rfl⟩ : ∃ q, m = q + 1 := ⟨m - 1, by omega⟩
    have : ¬ ((k : Int) < l.length) := by omega
    refine ⟨R, cells, bl, ?_, h3, h4, h5, h8⟩
    simp only [G_skirmishlaw17_FlowUpdates_0, this, decide_false, cond_false]
  | r + 1, m, k, R, cells, bl, h1, h2, h3, h4, h5, h6, h7, h8 => by
    obtain ⟨m, rfl⟩ : ∃ q, m = q + 1 := ⟨m - 1, by omega⟩
    have hk : k < l.length := by omega
    have d1 : (k : Int) < l.length := by omega
    have d2 : (0 : Int) ≤ k := by omega
    have e0 : l.getD k [] = l[k] := by simp [List.getD, hk]
    obtain ⟨q1, q2, q3, q4⟩ := hl l[k] (List.getElem_mem hk)
    rw [← e0] at q1 q2 q3 q4
    have g : l[k]? = some (l.getD k []) := by rw [e0]; exact List.getElem?_eq_getElem hk
    have w : wr ((k : Int) + 1) = ((k + 1 : Nat) : Int) := wr_suc k (by omega)
    cases hi : inn W H (cI (l.getD k []) 0) (cI (l.getD k []) 1) with
    | false =>
      obtain ⟨R', cells', bl', a1, a2⟩ := upd_G W H c1 b1 cls rows ax ay l hl hln r m (k + 1) R cells bl (by omega) (by omega) h3 h4 h5 h6 (by omega) h8
      refine ⟨R', cells', bl', ?_, a2⟩
      simp only [G_skirmishlaw17_FlowUpdates_0, d1, d2, decide_true, cond_true, cond_false, Int.toNat_natCast, g, Option.bind_some, q1, in_r, hi, w, a1]
    | true =>
      obtain ⟨cells2, bl2, p1, p2, p3, p4, p5⟩ := put_r W H cells bl h3 h4 h5 h6 cls rows ax ay (cI (l.getD k []) 0) (cI (l.getD k []) 1) (cI (l.getD k []) 2) (cI (l.getD k []) 3) (cI (l.getD k []) 4) (cB (l.getD k []) 5) hi q2 q3 q4
      obtain ⟨R', cells', bl', a1, a2⟩ := upd_G W H c1 b1 cls rows ax ay l hl hln r m (k + 1) (R ++ [[i64 (cI (l.getD k []) 0), i64 (cI (l.getD k []) 1)]]) cells2 bl2 (by omega) (by omega) p2 p3 p4 p5 (by rw [List.length_append, List.length_singleton]; omega) (fun q => by simp at q)
      refine ⟨R', cells', bl', ?_, a2⟩
      simp only [G_skirmishlaw17_FlowUpdates_0, d1, d2, decide_true, cond_true, Int.toNat_natCast, g, Option.bind_some, q1, in_r, hi, p1, room16 (show R.length + 1 ≤ 100000 by omega), w, a1]
theorem Update_f (W H : Int) (cells bl : List (List AVal)) (hc : okCs cells) (hb : okB bl) (cls : Int) (rows cost dir : List (List AVal)) (hp : okP rows) (hn : rows.length ≤ 20) (i1 : okI cost) (i2 : okI dir) (n1 : cost.length ≤ 1024) (n2 : dir.length ≤ 1024) (R : List (List AVal)) (hR : R = [] → BN W H cells bl cls rows = (rows, cost, dir, cls, 0)) :
    F_flow_Update cls rows cost dir W H cells bl R = some (BN W H cells bl cls rows) := by
  have hB := Build_f W H cells bl hc hb cls rows hp (by omega)
  simp only [F_flow_Update, fits_f W H cells hc, Check_f W H cells bl hc hb cls rows cost dir hp (by omega) i1 i2 (by omega) (by omega), hB, Option.bind_some, Int.ofNat_eq_natCast, clone_P rows (by omega), clone_I cost (by omega), clone_I dir (by omega)]
  cases R with
  | nil =>
    have e := hR rfl
    simp only [List.length_nil, Int.natCast_zero, beq_self_eq_true, cond_true, e, eqI_self, Bool.and_self]
    cases fitN W H cells cost dir <;> rfl
  | cons r R =>
    have z : (((r :: R).length : Int) == 0) = false := by rw [beq_eq_false_iff_ne, List.length_cons]; omega
    simp only [z, cond_false]
theorem pure_FlowUpdates (W H : Int) (cells bl : List (List AVal)) (cls : Int) (rows : List (List AVal)) (ax ay : Int) (l more : List (List AVal)) (h1 : wf .i64 W) (h2 : wf .i64 H) (h3 : Ty Tryd.prog (.sl 48 3) (.ro 3 cells)) (h4 : Ty Tryd.prog (.sl 4 1) (.ro 1 bl)) (h5 : wf .i64 cls) (h6 : Ty Tryd.prog (.sl 28 2) (.ro 2 rows)) (h7 : wf .i64 ax) (h8 : wf .i64 ay) (h9 : Ty Tryd.prog (.sl 50 6) (.ro 6 l)) (h10 : Ty Tryd.prog (.sl 28 2) (.ro 2 more)) :
    F_skirmishlaw17_FlowUpdates W H cells bl cls rows ax ay l more = some true := by
  have hc := okCs_of (by kernel_rfl) h3
  have hb := okB_of (by kernel_rfl) h4
  have hp := okP_of (by kernel_rfl) h6
  have hx := okX_of (by kernel_rfl) h9
  simp only [F_skirmishlaw17_FlowUpdates, small17, awake17, Option.bind_some, Int.ofNat_eq_natCast]
  by_cases hsm : ((cells.length : Int) ≤ 1100 ∧ (bl.length : Int) ≤ 2000 ∧ (rows.length : Int) ≤ 20)
  · by_cases k1 : (l.length : Int) > 20
    · simp only [hsm, decide_true, Bool.and_self, Bool.not_true, cond_false, k1, cond_true]
    by_cases k2 : (more.length : Int) > 20
    · simp only [hsm, decide_true, Bool.and_self, Bool.not_true, cond_false, k1, k2, decide_false, cond_true]
    obtain ⟨m1, m2, m3⟩ := hsm
    simp only [m1, m2, m3, decide_true, Bool.and_self, Bool.not_true, cond_false, k1, k2, decide_false, Build_r W H cells bl hc hb cls rows hp (by omega), Option.bind_some]
    obtain ⟨p1, p2, p3, p4, p5, p6, p7, p8⟩ := BN_parts (W := W) (H := H) cls hc hb hp
    by_cases he : (BN W H cells bl cls rows).2.2.2.2 = 0
    · obtain ⟨hv, hk, r1, r2, ha, hop, e⟩ := p7 he
      obtain ⟨R, cells', bl', u1, u2, u3, u4, u5⟩ := upd_G W H cells bl cls rows ax ay l hx (by omega) l.length FU 0 more cells bl (by omega) (by unfold FU; omega) hc hb hv (by omega) (by omega) (fun _ => ⟨rfl, rfl⟩)
      have u1' : G_skirmishlaw17_FlowUpdates_0 l l.length FU more 0 W H cells bl cls rows ax ay = some (R, W, H, cells', bl', cls, rows, ax, ay) := u1
      rw [e] at p3 p4 p5 p6
      have hU := Update_f W H cells' bl' u2 u3 cls rows (encC (CS W H cells bl cls rows)) (encC (drL (nbG W H cells bl cls) (CS W H cells bl cls rows) cells.length)) hp (by omega) p3 p5 p4 p6 R (fun q => by
        obtain ⟨rfl, rfl⟩ := u5 q
        exact e)
      obtain ⟨_, _, _, _, _, _, p7', p8'⟩ := BN_parts (W := W) (H := H) cls u2 u3 hp
      have hcl : (BN W H cells' bl' cls rows).2.2.2.1 = (BN W H cells' bl' cls rows).2.2.2.1 := rfl
      simp only [e, bne_self_eq_false, cond_false, room16 (show 0 + more.length ≤ 100000 by omega), cond_true, u1', Option.bind_some, hU, Build_r W H cells' bl' u2 u3 cls rows hp (by omega), same_BN cls u2 u3 hp, beq_self_eq_true]
    · have hb' : ((BN W H cells bl cls rows).2.2.2.2 != 0) = true := by simpa using he
      simp only [hb', cond_true]
  · have : (decide ((cells.length : Int) ≤ 1100) && (decide ((bl.length : Int) ≤ 2000) && decide ((rows.length : Int) ≤ 20))) = false := by
      rw [Bool.eq_false_iff]
      intro q
      simp only [Bool.and_eq_true, decide_eq_true_eq] at q
      exact hsm q
    simp only [this, Bool.not_false, cond_true]
end Go.Proofs.YteiniiakpdijmaaDoor.AI
