/- The laws of chapter 14, in plain Lean. -/
import Derived.Test.YtclfphmehilaeaaDoorS14b
namespace Go.Proofs.YtclfphmehilaeaaDoor.AI
open Go.RowKit
set_option linter.unusedVariables false
set_option linter.unusedSimpArgs false

theorem awake14 : F_skirmishlaw14_alive = some true := by kernel_rfl
theorem small14 (W H : Int) (cells bl : List (List AVal)) (cls ax ay bx b cx cy : Int) : F_skirmishlaw14_small W H cells bl cls ax ay bx b cx cy = some (decide ((cells.length : Int) ≤ 1100) && decide ((bl.length : Int) ≤ 2000)) := by
  simp only [F_skirmishlaw14_small, bif_and, Int.ofNat_eq_natCast]
theorem PN_rows {W H : Int} {cells bl : List (List AVal)} (hc : okCs cells) (hb : okB bl) (cls ax ay bx b : Int) : okP (PN W H cells bl cls ax ay bx b).1 ∧ (PN W H cells bl cls ax ay bx b).1.length ≤ 60000 := by
  have nil : okP [] ∧ ([] : List (List AVal)).length ≤ 60000 := ⟨fun r hr => (by cases hr), by simp⟩
  unfold PN
  cases hv : (vmap W H cells && cok cls) with
  | false => exact nil
  | true =>
    cases hi : (inn W H ax ay && inn W H bx b) with
    | false => exact nil
    | true =>
      cases ho : (opn W H cells bl cls ax ay && opn W H cells bl cls bx b) with
      | false => exact nil
      | true =>
        simp only [Bool.not_true, cond_false]
        by_cases hneg : cg (D W H cells bl cls (nm W bx b)) (nm W ax ay) < 0
        · simp only [hneg, decide_true, cond_true]
          exact nil
        · simp only [hneg, decide_false, cond_false]
          rw [Bool.and_eq_true] at hv hi ho
          have hf := vmap_fmd hv.1
          have ia : ins W H cells.length ax ay = true := ins_iff.2 ⟨hf, hi.1⟩
          have ib : ins W H cells.length bx b = true := ins_iff.2 ⟨hf, hi.2⟩
          have pb := pos_nm ib
          obtain ⟨d1, d2⟩ := D_a W H cells bl hc hb cls hf (nm W bx b) (nm_lt ib).1
          have hr : Right cells.length (nbG W H cells bl cls) (· = nm W bx b) (cg (D W H cells bl cls (nm W bx b))) := by
            rcases d2.2 with ⟨x, y⟩ | ⟨x, y⟩
            · rw [pb.1, pb.2, ho.2] at x; cases x
            · exact y
          have hbd := D_all d2 (nm_lt ib).1 hf (nm W ax ay)
          obtain ⟨w1, w2, w3, w4⟩ := wk_way (nbG_ok W H cells bl cls) (nbG_sym W H cells bl cls) (nbG_inj W H cells bl cls) hr 50000 (nm W ax ay) (nm_lt ia).1 (by omega) (by omega)
          refine ⟨(encP_inR hf _ w3).2, ?_⟩
          rw [encP_len, List.length_cons]
          omega
theorem pure_AstarPaths (W H : Int) (cells bl : List (List AVal)) (cls ax ay bx b cx cy : Int) (h1 : wf .i64 W) (h2 : wf .i64 H) (h3 : Ty Tryd.prog (.sl 65 3) (.ro 3 cells)) (h4 : Ty Tryd.prog (.sl 4 1) (.ro 1 bl)) (h5 : wf .i64 cls) (h6 : wf .i64 ax) (h7 : wf .i64 ay) (h8 : wf .i64 bx) (h9 : wf .i64 b) (h10 : wf .i64 cx) (h11 : wf .i64 cy) :
    F_skirmishlaw14_AstarPaths W H cells bl cls ax ay bx b cx cy = some true := by
  have hc := okCs_of (by kernel_rfl) h3
  have hb := okB_of (by kernel_rfl) h4
  obtain ⟨q1, q2⟩ := PN_rows hc hb (W := W) (H := H) cls ax ay bx b
  simp only [F_skirmishlaw14_AstarPaths, small14, awake14, Path_g W H cells bl hc hb, Path_r W H cells bl hc hb, Option.bind_some, samePath_r _ q1 (show (PN W H cells bl cls ax ay bx b).1.length ≤ 100000 by omega), cond_true, beq_self_eq_true]
  cases (decide ((cells.length : Int) ≤ 1100) && decide ((bl.length : Int) ≤ 2000)) <;> rfl
theorem pure_AstarCosts (W H : Int) (cells bl : List (List AVal)) (cls ax ay bx b cx cy : Int) (rows : List (List AVal)) (h1 : wf .i64 W) (h2 : wf .i64 H) (h3 : Ty Tryd.prog (.sl 65 3) (.ro 3 cells)) (h4 : Ty Tryd.prog (.sl 4 1) (.ro 1 bl)) (h5 : wf .i64 cls) (h6 : wf .i64 ax) (h7 : wf .i64 ay) (h8 : wf .i64 bx) (h9 : wf .i64 b) (h10 : wf .i64 cx) (h11 : wf .i64 cy) (h12 : Ty Tryd.prog (.sl 27 2) (.ro 2 rows)) :
    F_skirmishlaw14_AstarCosts W H cells bl cls ax ay bx b cx cy rows = some true := by
  have hc := okCs_of (by kernel_rfl) h3
  have hb := okB_of (by kernel_rfl) h4
  have hp := okP_of (by kernel_rfl) h12
  simp only [F_skirmishlaw14_AstarCosts, small14, awake14, Option.bind_some, Int.ofNat_eq_natCast]
  by_cases hl : (rows.length : Int) > 200
  · simp only [hl, decide_true, cond_true]
    cases (decide ((cells.length : Int) ≤ 1100) && decide ((bl.length : Int) ≤ 2000)) <;> rfl
  · simp only [hl, decide_false, cond_false, Cost_g W H cells bl hc hb cls rows hp (by omega), Cost_r W H cells bl hc hb cls rows hp (by omega), Option.bind_some, beq_self_eq_true, cond_true]
    cases (decide ((cells.length : Int) ≤ 1100) && decide ((bl.length : Int) ≤ 2000)) <;> rfl
theorem D_len {W H : Int} {cells bl : List (List AVal)} (hc : okCs cells) (hb : okB bl) (cls : Int) (hf : fmd W H cells.length = true) (j : Nat) (hj : j < cells.length) : (D W H cells bl cls j).length = cells.length := (D_a W H cells bl hc hb cls hf j hj).2.1
theorem regN_len (W H : Int) (cells bl : List (List AVal)) (cls : Int) : ∀ (r i : Nat) (out : List Int), (regN W H cells bl cls r i out).length = out.length
  | 0, i, out => rfl
  | r + 1, i, out => by
    rw [regN, regN_len W H cells bl cls r]
    split
    · rfl
    · cases opn W H cells bl cls (px W i) (py W i) with
      | true => exact markN_len _ _ _ _ _
      | false => rfl
theorem RG_len (W H : Int) (cells bl : List (List AVal)) (cls : Int) : (RG W H cells bl cls).length = cells.length := by
  unfold RG
  rw [regN_len]
  simp
theorem pure_AstarReaches (W H : Int) (cells bl : List (List AVal)) (cls ax ay bx b cx cy : Int) (h1 : wf .i64 W) (h2 : wf .i64 H) (h3 : Ty Tryd.prog (.sl 65 3) (.ro 3 cells)) (h4 : Ty Tryd.prog (.sl 4 1) (.ro 1 bl)) (h5 : wf .i64 cls) (h6 : wf .i64 ax) (h7 : wf .i64 ay) (h8 : wf .i64 bx) (h9 : wf .i64 b) (h10 : wf .i64 cx) (h11 : wf .i64 cy) :
    F_skirmishlaw14_AstarReaches W H cells bl cls ax ay bx b cx cy = some true := by
  have hc := okCs_of (by kernel_rfl) h3
  have hb := okB_of (by kernel_rfl) h4
  have n0 : F_skirmishref14_SameInts [] [] = some true := sameInts_r [] (by simp)
  have s1 : F_skirmishref14_SameInts (bif vmap W H cells && (cok cls && inn W H ax ay) then encC (D W H cells bl cls (nm W ax ay)) else []) (bif vmap W H cells && (cok cls && inn W H ax ay) then encC (D W H cells bl cls (nm W ax ay)) else []) = some true := by
    cases hv : vmap W H cells with
    | false => exact n0
    | true =>
      have hf := vmap_fmd hv
      have hs := fmd_small hf
      cases hk : cok cls with
      | false => exact n0
      | true =>
        cases hi : inn W H ax ay with
        | false => exact n0
        | true =>
          have ia : ins W H cells.length ax ay = true := ins_iff.2 ⟨hf, hi⟩
          exact sameInts_r _ (by rw [D_len hc hb cls hf _ (nm_lt ia).1]; omega)
  have s2 : F_skirmishref14_SameInts (bif vmap W H cells && cok cls then encC (RG W H cells bl cls) else []) (bif vmap W H cells && cok cls then encC (RG W H cells bl cls) else []) = some true := by
    cases hv : vmap W H cells with
    | false => exact n0
    | true =>
      have hs := fmd_small (vmap_fmd hv)
      cases hk : cok cls with
      | false => exact n0
      | true => exact sameInts_r _ (by rw [RG_len]; omega)
  simp only [F_skirmishlaw14_AstarReaches, small14, awake14, Option.bind_some, Reach_g W H cells bl hc hb, Reach_r W H cells bl hc hb, Regions_g W H cells bl hc hb, Regions_r W H cells bl hc hb, s1, s2, cond_true]
  cases (decide ((cells.length : Int) ≤ 1100) && decide ((bl.length : Int) ≤ 2000)) <;> rfl

/-! ### What a path's answer says -/
/-- All that is known where the two cells are free. -/
theorem PN_ok {W H : Int} {cells bl : List (List AVal)} (hc : okCs cells) (hb : okB bl) {cls ax ay bx b : Int} (h : (PN W H cells bl cls ax ay bx b).2.2 = 0 ∨ (PN W H cells bl cls ax ay bx b).2.2 = 22) :
    vmap W H cells = true ∧ cok cls = true ∧ ins W H cells.length ax ay = true ∧ ins W H cells.length bx b = true ∧ opn W H cells bl cls ax ay = true ∧ opn W H cells bl cls bx b = true ∧
    PN W H cells bl cls ax ay bx b = bif decide (cg (D W H cells bl cls (nm W bx b)) (nm W ax ay) < 0) then ([], 0, 22) else (encP W (nm W ax ay :: wk (nbG W H cells bl cls) (D W H cells bl cls (nm W bx b)) 50000 (nm W ax ay)), cg (D W H cells bl cls (nm W bx b)) (nm W ax ay), 0) := by
  unfold PN at h ⊢
  cases hv : (vmap W H cells && cok cls) with
  | false => rw [hv] at h; simp at h
  | true =>
    cases hi : (inn W H ax ay && inn W H bx b) with
    | false => rw [hv, hi] at h; simp at h
    | true =>
      cases ho : (opn W H cells bl cls ax ay && opn W H cells bl cls bx b) with
      | false => rw [hv, hi, ho] at h; simp at h
      | true =>
        rw [Bool.and_eq_true] at hv hi ho
        have hf := vmap_fmd hv.1
        exact ⟨hv.1, hv.2, ins_iff.2 ⟨hf, hi.1⟩, ins_iff.2 ⟨hf, hi.2⟩, ho.1, ho.2, rfl⟩
theorem D_right {W H : Int} {cells bl : List (List AVal)} (hc : okCs cells) (hb : okB bl) {cls x y : Int} (hi : ins W H cells.length x y = true) (ho : opn W H cells bl cls x y = true) : Right cells.length (nbG W H cells bl cls) (· = nm W x y) (cg (D W H cells bl cls (nm W x y))) := by
  have hf := (ins_iff.1 hi).1
  have p := pos_nm hi
  obtain ⟨d1, d2⟩ := D_a W H cells bl hc hb cls hf (nm W x y) (nm_lt hi).1
  rcases d2.2 with ⟨x, y⟩ | ⟨x, y⟩
  · rw [p.1, p.2, ho] at x; cases x
  · exact y
theorem D_num {W H : Int} {cells bl : List (List AVal)} (hc : okCs cells) (hb : okB bl) {cls x y : Int} (hi : ins W H cells.length x y = true) : ∀ k, -1 ≤ cg (D W H cells bl cls (nm W x y)) k ∧ cg (D W H cells bl cls (nm W x y)) k ≤ 19456 := by
  have hf := (ins_iff.1 hi).1
  exact D_all (D_a W H cells bl hc hb cls hf (nm W x y) (nm_lt hi).1).2 (nm_lt hi).1 hf
theorem PN_err {W H : Int} {cells bl : List (List AVal)} (hc : okCs cells) (hb : okB bl) {cls ax ay bx b : Int} : ((PN W H cells bl cls ax ay bx b).2.2 = 0) ∨ ((PN W H cells bl cls ax ay bx b).1 = [] ∧ (PN W H cells bl cls ax ay bx b).2.1 = 0) := by
  unfold PN
  cases (vmap W H cells && cok cls) with
  | false => exact .inr ⟨rfl, rfl⟩
  | true =>
    cases (inn W H ax ay && inn W H bx b) with
    | false => exact .inr ⟨rfl, rfl⟩
    | true =>
      cases (opn W H cells bl cls ax ay && opn W H cells bl cls bx b) with
      | false => exact .inr ⟨rfl, rfl⟩
      | true =>
        cases decide (cg (D W H cells bl cls (nm W bx b)) (nm W ax ay) < 0) with
        | true => exact .inr ⟨rfl, rfl⟩
        | false => exact .inl rfl
theorem last_get {l : List Nat} {b : Nat} (h : l.getLast? = some b) : l.getD (l.length - 1) 0 = b := by
  rw [List.getLast?_eq_getElem?] at h
  rw [List.getD_eq_getElem?_getD, h]
  rfl
theorem pure_AstarAgrees (W H : Int) (cells bl : List (List AVal)) (cls ax ay bx b cx cy : Int) (h1 : wf .i64 W) (h2 : wf .i64 H) (h3 : Ty Tryd.prog (.sl 65 3) (.ro 3 cells)) (h4 : Ty Tryd.prog (.sl 4 1) (.ro 1 bl)) (h5 : wf .i64 cls) (h6 : wf .i64 ax) (h7 : wf .i64 ay) (h8 : wf .i64 bx) (h9 : wf .i64 b) (h10 : wf .i64 cx) (h11 : wf .i64 cy) :
    F_skirmishlaw14_AstarAgrees W H cells bl cls ax ay bx b cx cy = some true := by
  have hc := okCs_of (by kernel_rfl) h3
  have hb := okB_of (by kernel_rfl) h4
  simp only [F_skirmishlaw14_AstarAgrees, small14, awake14, Path_g W H cells bl hc hb, Option.bind_some, Int.ofNat_eq_natCast]
  cases (decide ((cells.length : Int) ≤ 1100) && decide ((bl.length : Int) ≤ 2000)) with
  | false => rfl
  | true =>
    simp only [Bool.not_true, cond_false]
    by_cases h0 : (PN W H cells bl cls ax ay bx b).2.2 = 0
    · obtain ⟨hv, hk, ia, ib, oa, ob, e⟩ := PN_ok hc hb (.inl h0)
      have hf := vmap_fmd hv
      have hs := fmd_small hf
      have na := nm_lt ia
      have nb' := nm_lt ib
      have pa := pos_nm ia
      have pb := pos_nm ib
      have hneg : ¬ cg (D W H cells bl cls (nm W bx b)) (nm W ax ay) < 0 := fun q => by
        rw [e, decide_eq_true q] at h0
        cases h0
      rw [decide_eq_false hneg, cond_false] at e
      have rb := D_right hc hb ib ob
      have ra := D_right hc hb ia oa
      have bd := D_num hc hb (cls := cls) ib (nm W ax ay)
      have hsym := Right.sym (nbG_ok W H cells bl cls) (nbG_sym W H cells bl cls) na.1 nb'.1 ra rb
      obtain ⟨w1, ⟨c, w2, w5, w6⟩, w3, w4⟩ := wk_way (nbG_ok W H cells bl cls) (nbG_sym W H cells bl cls) (nbG_inj W H cells bl cls) rb 50000 (nm W ax ay) na.1 (by omega) (by omega)
      have hcb : c = nm W bx b := (rb.zero_iff (nbG_ok W H cells bl cls) w5).1 w6
      subst hcb
      have la := D_len hc hb cls hf _ na.1
      have lb := D_len hc hb cls hf _ nb'.1
      generalize hl : nm W ax ay :: wk (nbG W H cells bl cls) (D W H cells bl cls (nm W bx b)) 50000 (nm W ax ay) = l at *
      have hlen : l.length ≤ 60000 := by rw [← hl, List.length_cons]; omega
      have hne : 0 < l.length := by rw [← hl, List.length_cons]; omega
      obtain ⟨q1, q2⟩ := encP_inR hf l w3
      have hcost : costN W H cells bl cls (encP W l) = (cg (D W H cells bl cls (nm W bx b)) (nm W ax ay), 0) := by
        unfold costN
        have e1 : (encP W l).isEmpty = false := by rw [← hl]; rfl
        have e2 : cI ((encP W l).getD 0 []) 0 = ax ∧ cI ((encP W l).getD 0 []) 1 = ay := by
          rw [← hl]
          exact ⟨pa.1, pa.2⟩
        rw [hv, hk, e1, q1, e2.1, e2.2, oa, dcP_encP hf, w1]
        rfl
      have g0 := encP_get (W := W) (l := l) (k := 0) hne
      have e0 : l.getD 0 0 = nm W ax ay := by rw [← hl]; rfl
      rw [e0, pa.1, pa.2] at g0
      have g1 := encP_get (W := W) (l := l) (k := l.length - 1) (by omega)
      rw [last_get w2, pb.1, pb.2] at g1
      have wl : wr (((l.length : Nat) : Int) - 1) = ((l.length - 1 : Nat) : Int) := by rw [wr_in (by omega) (by omega)]; omega
      have z1 : ((l.length : Int) == 0) = false := by rw [beq_eq_false_iff_ne]; omega
      have z2 : ¬ ((nm W ax ay : Nat) : Int) < 0 := by omega
      have z3 : ¬ ((nm W bx b : Nat) : Int) < 0 := by omega
      have z4 : ¬ ((nm W ax ay : Nat) : Int) ≥ (cells.length : Nat) := by omega
      have z5 : ¬ ((nm W bx b : Nat) : Int) ≥ (cells.length : Nat) := by omega
      have z6 : (0 : Int) < (l.length : Nat) := by omega
      have z7 : (0 : Int) ≤ ((l.length - 1 : Nat) : Int) := by omega
      have z8 : ((l.length - 1 : Nat) : Int) < (l.length : Nat) := by omega
      have z9 : (0 : Int) ≤ (nm W ax ay : Nat) := by omega
      have z10 : (0 : Int) ≤ (nm W bx b : Nat) := by omega
      have z11 : ((nm W ax ay : Nat) : Int) < (cells.length : Nat) := by omega
      have z12 : ((nm W bx b : Nat) : Int) < (cells.length : Nat) := by omega
      have ga := encC_get (cs := D W H cells bl cls (nm W ax ay)) (k := nm W bx b) (by omega)
      have gb := encC_get (cs := D W H cells bl cls (nm W bx b)) (k := nm W ax ay) (by omega)
      have hia := (ins_iff.1 ia).2
      have hib := (ins_iff.1 ib).2
      have g0' : (encP W l)[(0 : Int).toNat]? = some [i64 ax, i64 ay] := g0
      simp only [e, bne_self_eq_false, cond_false, Cost_g W H cells bl hc hb cls (encP W l) q2 (by rw [encP_len]; omega), hcost, Reach_g W H cells bl hc hb, hv, hk, hia, hib, Bool.and_self, cond_true, Option.bind_some, encC_len, la, lb, encP_len, z1, idx_s ia, idx_s ib, z2, z3, z4, z5, z6, z7, z8, z9, z10, z11, z12, decide_false, decide_true, wl, Int.toNat_natCast, g0', g1, chk_p, cI_p0, cI_p1, beq_self_eq_true, ga, gb, chk_i, cI_i, hsym]
    · have hb' : ((PN W H cells bl cls ax ay bx b).2.2 != 0) = true := by simpa using h0
      rcases PN_err hc hb (W := W) (H := H) (cells := cells) (bl := bl) (cls := cls) (ax := ax) (ay := ay) (bx := bx) (b := b) with q | ⟨q1, q2⟩
      · exact absurd q h0
      · simp only [hb', cond_true, q1, q2, List.length_nil, Int.natCast_zero, beq_self_eq_true, Option.bind_some]
theorem pure_AstarTriangles (W H : Int) (cells bl : List (List AVal)) (cls ax ay bx b cx cy : Int) (h1 : wf .i64 W) (h2 : wf .i64 H) (h3 : Ty Tryd.prog (.sl 65 3) (.ro 3 cells)) (h4 : Ty Tryd.prog (.sl 4 1) (.ro 1 bl)) (h5 : wf .i64 cls) (h6 : wf .i64 ax) (h7 : wf .i64 ay) (h8 : wf .i64 bx) (h9 : wf .i64 b) (h10 : wf .i64 cx) (h11 : wf .i64 cy) :
    F_skirmishlaw14_AstarTriangles W H cells bl cls ax ay bx b cx cy = some true := by
  have hc := okCs_of (by kernel_rfl) h3
  have hb := okB_of (by kernel_rfl) h4
  simp only [F_skirmishlaw14_AstarTriangles, small14, awake14, Path_g W H cells bl hc hb, Option.bind_some]
  cases (decide ((cells.length : Int) ≤ 1100) && decide ((bl.length : Int) ≤ 2000)) with
  | false => rfl
  | true =>
    simp only [Bool.not_true, cond_false]
    by_cases h0 : (PN W H cells bl cls ax ay bx b).2.2 = 0
    · by_cases h0' : (PN W H cells bl cls bx b cx cy).2.2 = 0
      · obtain ⟨hv, hk, ia, ib, oa, ob, e⟩ := PN_ok hc hb (.inl h0)
        obtain ⟨_, _, _, ic, _, oc, e'⟩ := PN_ok hc hb (.inl h0')
        have hneg : ¬ cg (D W H cells bl cls (nm W bx b)) (nm W ax ay) < 0 := fun q => by
          rw [e, decide_eq_true q] at h0
          cases h0
        have hneg' : ¬ cg (D W H cells bl cls (nm W cx cy)) (nm W bx b) < 0 := fun q => by
          rw [e', decide_eq_true q] at h0'
          cases h0'
        have ra := D_right hc hb ia oa
        have rb := D_right hc hb ib ob
        have rc := D_right hc hb ic oc
        have ho := nbG_ok W H cells bl cls
        have hs := nbG_sym W H cells bl cls
        have s1 := Right.sym ho hs (nm_lt ia).1 (nm_lt ib).1 ra rb
        have t := Right.tri' ho hs ra rc (nm W bx b) (nm_lt ib).1 (by omega) (by omega)
        have bd1 := D_num hc hb (cls := cls) ib (nm W ax ay)
        have bd2 := D_num hc hb (cls := cls) ic (nm W bx b)
        have e2 : PN W H cells bl cls ax ay cx cy = (encP W (nm W ax ay :: wk (nbG W H cells bl cls) (D W H cells bl cls (nm W cx cy)) 50000 (nm W ax ay)), cg (D W H cells bl cls (nm W cx cy)) (nm W ax ay), 0) := by
          unfold PN
          rw [hv, hk, (ins_iff.1 ia).2, (ins_iff.1 ic).2, oa, oc, decide_eq_false (show ¬ cg (D W H cells bl cls (nm W cx cy)) (nm W ax ay) < 0 by omega)]
          rfl
        rw [decide_eq_false hneg, cond_false] at e
        rw [decide_eq_false hneg', cond_false] at e'
        have w : wr (cg (D W H cells bl cls (nm W bx b)) (nm W ax ay) + cg (D W H cells bl cls (nm W cx cy)) (nm W bx b)) = cg (D W H cells bl cls (nm W bx b)) (nm W ax ay) + cg (D W H cells bl cls (nm W cx cy)) (nm W bx b) := wr_in (by omega) (by omega)
        have le : cg (D W H cells bl cls (nm W cx cy)) (nm W ax ay) ≤ cg (D W H cells bl cls (nm W bx b)) (nm W ax ay) + cg (D W H cells bl cls (nm W cx cy)) (nm W bx b) := by omega
        simp only [e, e', e2, bne_self_eq_false, cond_false, beq_self_eq_true, cond_true, w, le, decide_true]
      · have hb' : ((PN W H cells bl cls bx b cx cy).2.2 != 0) = true := by simpa using h0'
        simp only [h0, bne_self_eq_false, cond_false, hb', cond_true]
    · have hb' : ((PN W H cells bl cls ax ay bx b).2.2 != 0) = true := by simpa using h0
      simp only [hb', cond_true]
theorem wc_last_opn {W H : Int} {cells bl : List (List AVal)} {cls : Int} : ∀ (l : List Nat) (i b : Nat) (c : Int), wc (nbG W H cells bl cls) (i :: l) = some c → (i :: l).getLast? = some b → opn W H cells bl cls (px W i) (py W i) = true → opn W H cells bl cls (px W b) (py W b) = true
  | [], i, b, c, h, hl, ho => by
    simp only [List.getLast?_singleton, Option.some.injEq] at hl
    rw [← hl]
    exact ho
  | j :: l, i, b, c, h, hl, ho => by
    rw [wc_cons] at h
    cases he : eg (nbG W H cells bl cls) i j with
    | none => rw [he] at h; cases h
    | some w =>
      cases hc : wc (nbG W H cells bl cls) (j :: l) with
      | none => rw [he, hc] at h; cases h
      | some v =>
        rw [List.getLast?_cons_cons] at hl
        obtain ⟨d, x, y⟩ := eg_some he
        obtain ⟨y1, y2, y3, y4⟩ := nbG_some y
        have hs := step_ins (W := W) (H := H) (cells := cells) (bl := bl) (cls := cls) (x := px W i) (y := py W i) (d := d) (by rw [y3])
        have hop := (free_step (W := W) (H := H) (cells := cells) (bl := bl) (cls := cls) (x := px W i) (y := py W i) (d := d) (by rw [y3])).2
        have p := pos_nm hs.2
        rw [← y4] at p
        rw [← p.1, ← p.2] at hop
        exact wc_last_opn l j b v hc hl hop
theorem pure_AstarShortest (W H : Int) (cells bl : List (List AVal)) (cls ax ay bx b cx cy : Int) (rows : List (List AVal)) (h1 : wf .i64 W) (h2 : wf .i64 H) (h3 : Ty Tryd.prog (.sl 65 3) (.ro 3 cells)) (h4 : Ty Tryd.prog (.sl 4 1) (.ro 1 bl)) (h5 : wf .i64 cls) (h6 : wf .i64 ax) (h7 : wf .i64 ay) (h8 : wf .i64 bx) (h9 : wf .i64 b) (h10 : wf .i64 cx) (h11 : wf .i64 cy) (h12 : Ty Tryd.prog (.sl 27 2) (.ro 2 rows)) :
    F_skirmishlaw14_AstarShortest W H cells bl cls ax ay bx b cx cy rows = some true := by
  have hc := okCs_of (by kernel_rfl) h3
  have hb := okB_of (by kernel_rfl) h4
  have hp := okP_of (by kernel_rfl) h12
  simp only [F_skirmishlaw14_AstarShortest, small14, awake14, Option.bind_some, Int.ofNat_eq_natCast]
  cases (decide ((cells.length : Int) ≤ 1100) && decide ((bl.length : Int) ≤ 2000)) with
  | false => rfl
  | true =>
    by_cases hl : (rows.length : Int) > 200
    · simp only [hl, decide_true, cond_true, Bool.not_true, cond_false]
    · simp only [hl, decide_false, cond_false, Bool.not_true, Cost_r W H cells bl hc hb cls rows hp (by omega), Option.bind_some]
      by_cases h0 : (costN W H cells bl cls rows).2 = 0
      · -- the way is one
        unfold costN at h0 ⊢
        cases hg : (vmap W H cells && (cok cls && (!(rows.isEmpty) && rows.all (inR W H)))) with
        | false => rw [hg] at h0; cases h0
        | true =>
          rw [hg] at h0
          simp only [cond_true] at h0 ⊢
          simp only [Bool.and_eq_true] at hg
          obtain ⟨hv, hk, hne, hall⟩ := hg
          cases ho : opn W H cells bl cls (cI (rows.getD 0 []) 0) (cI (rows.getD 0 []) 1) with
          | false => rw [ho] at h0; cases h0
          | true =>
            rw [ho] at h0
            simp only [cond_true] at h0 ⊢
            cases hw : wc (nbG W H cells bl cls) (dcP W rows) with
            | none => rw [hw] at h0; cases h0
            | some c =>
              rw [hw] at h0
              simp only at h0 ⊢
              have hf := vmap_fmd hv
              obtain ⟨q1, q2⟩ := encP_dcP hf rows hp hall
              cases rows with
              | nil => cases hne
              | cons r rows =>
                have ed : dcP W (r :: rows) = nm W (cI r 0) (cI r 1) :: dcP W rows := rfl
                have hlen : (dcP W (r :: rows)).length = (r :: rows).length := by simp [dcP]
                have hi0 : ins W H cells.length (cI r 0) (cI r 1) = true := by
                  rw [List.all_cons, Bool.and_eq_true] at hall
                  exact ins_iff.2 ⟨hf, hall.1⟩
                have p0 := pos_nm hi0
                -- the last place
                obtain ⟨z, hz⟩ : ∃ z, (dcP W (r :: rows)).getLast? = some z := ⟨_, List.getLast?_eq_some_getLast (by rw [ed]; simp)⟩
                have hzn : z < cells.length := q2 z (List.mem_of_getLast? hz)
                have hzi := pos_ins hf hzn
                have oz : opn W H cells bl cls (px W z) (py W z) = true := by
                  rw [ed] at hw hz
                  refine wc_last_opn _ _ z c hw hz ?_
                  rw [p0.1, p0.2]
                  exact ho
                have rz := D_right hc hb hzi oz
                rw [nm_pos hf] at rz
                have hleast := wc_least (nbG_ok W H cells bl cls) (nbG_sym W H cells bl cls) rz hzn (dcP W rows) (nm W (cI r 0) (cI r 1)) c (by rw [← ed]; exact hw) (by rw [← ed]; exact hz)
                have g0 := okP_get hp (show 0 < (r :: rows).length by simp)
                have g0' : (r :: rows)[(0 : Int).toNat]? = some [i64 (cI r 0), i64 (cI r 1)] := g0
                have g1 := encP_get (W := W) (l := dcP W (r :: rows)) (k := (r :: rows).length - 1) (by rw [hlen]; simp only [List.length_cons]; omega)
                have elast : (dcP W (r :: rows)).getD ((r :: rows).length - 1) 0 = z := by rw [← hlen]; exact last_get hz
                rw [q1, elast] at g1
                have wl : wr ((((r :: rows).length : Nat) : Int) - 1) = (((r :: rows).length - 1 : Nat) : Int) := by
                  rw [wr_in (by omega) (by omega)]
                  simp only [List.length_cons]
                  omega
                have e2 : PN W H cells bl cls (cI r 0) (cI r 1) (px W z) (py W z) = (encP W (nm W (cI r 0) (cI r 1) :: wk (nbG W H cells bl cls) (D W H cells bl cls z) 50000 (nm W (cI r 0) (cI r 1))), cg (D W H cells bl cls z) (nm W (cI r 0) (cI r 1)), 0) := by
                  unfold PN
                  have ho' : opn W H cells bl cls (cI r 0) (cI r 1) = true := ho
                  rw [nm_pos hf, hv, hk, (ins_iff.1 hi0).2, (ins_iff.1 hzi).2, ho', oz, decide_eq_false (show ¬ cg (D W H cells bl cls z) (nm W (cI r 0) (cI r 1)) < 0 by omega)]
                  rfl
                have y1 : (0 : Int) ≤ (((r :: rows).length - 1 : Nat) : Int) := by omega
                have y2 : (((encP W (nm W (cI r 0) (cI r 1) :: wk (nbG W H cells bl cls) (D W H cells bl cls z) 50000 (nm W (cI r 0) (cI r 1)))).length : Nat) : Int) > 0 := by rw [encP_len, List.length_cons]; omega
                simp only [bne_self_eq_false, cond_false, g0', Option.bind_some, chk_p, cond_true, wl, y1, decide_true, Int.toNat_natCast, g1, cI_p0, cI_p1, Path_g W H cells bl hc hb, e2, beq_self_eq_true, hleast.2, y2]
      · have hb' : ((costN W H cells bl cls rows).2 != 0) = true := by simpa using h0
        simp only [hb', cond_true]

/-! ### Regions -/
theorem reach_opn {W H : Int} {cells bl : List (List AVal)} {cls : Int} {j k : Nat} {c : Nat → Int} (hr : Right cells.length (nbG W H cells bl cls) (· = j) c) (hj : opn W H cells bl cls (px W j) (py W j) = true) (hk : k < cells.length) (h0 : 0 ≤ c k) : opn W H cells bl cls (px W k) (py W k) = true := by
  rcases hr.back k hk h0 with ⟨a, b⟩ | ⟨i, d, w, a1, a2, a3, a4, a5⟩
  · subst a; exact hj
  · obtain ⟨y1, y2, y3, y4⟩ := nbG_some a3
    have hs := step_ins (W := W) (H := H) (cells := cells) (bl := bl) (cls := cls) (x := px W i) (y := py W i) (d := d) (by rw [y3])
    have hop := (free_step (W := W) (H := H) (cells := cells) (bl := bl) (cls := cls) (x := px W i) (y := py W i) (d := d) (by rw [y3])).2
    have p := pos_nm hs.2
    rw [← y4] at p
    rw [← p.1, ← p.2] at hop
    exact hop
/-- Which cells are connected. -/
structure Con (n : Nat) (op : Nat → Bool) (D : Nat → List Int) : Prop where
  refl : ∀ i, i < n → op i = true → 0 ≤ cg (D i) i
  symm : ∀ i j, i < n → j < n → op i = true → op j = true → 0 ≤ cg (D i) j → 0 ≤ cg (D j) i
  trans : ∀ i j k, i < n → j < n → k < n → op i = true → op j = true → 0 ≤ cg (D i) j → 0 ≤ cg (D j) k → 0 ≤ cg (D i) k
  free : ∀ i k, i < n → k < n → op i = true → 0 ≤ cg (D i) k → op k = true
structure Reg (n : Nat) (op : Nat → Bool) (D : Nat → List Int) (i : Nat) (out : List Int) : Prop where
  len : out.length = n
  low : ∀ k, k < n → cg out k = -1 ∨ ∃ s : Nat, s < i ∧ s ≤ k ∧ op s = true ∧ 0 ≤ cg (D s) k ∧ cg out k = s
  past : ∀ k, k < i → k < n → op k = true → 0 ≤ cg out k
  same : ∀ s k, s < n → k < n → op s = true → 0 ≤ cg out s → 0 ≤ cg (D s) k → cg out k = cg out s
theorem Reg.skip {n : Nat} {op : Nat → Bool} {D : Nat → List Int} {i : Nat} {out : List Int} (h : Reg n op D i out) (hs : op i = false ∨ 0 ≤ cg out i) : Reg n op D (i + 1) out := by
  refine ⟨h.len, fun k hk => ?_, fun k h1 h2 h3 => ?_, h.same⟩
  · rcases h.low k hk with a | ⟨s, a, b⟩
    · exact .inl a
    · exact .inr ⟨s, by omega, b⟩
  · by_cases e : k = i
    · subst e
      rcases hs with q | q
      · rw [q] at h3; cases h3
      · exact q
    · exact h.past k (by omega) h2 h3
theorem Reg.mark {n : Nat} {op : Nat → Bool} {D : Nat → List Int} {i : Nat} {out : List Int} (hC : Con n op D) (h : Reg n op D i out) (hi : i < n) (ho : op i = true) (hn : ¬ 0 ≤ cg out i) : Reg n op D (i + 1) (markN (D i) i n 0 out) := by
  have hg : ∀ k, k < n → cg (markN (D i) i n 0 out) k = if 0 ≤ cg (D i) k then (i : Int) else cg out k := fun k hk => by
    rw [markN_get (D i) i n 0 out k (by rw [h.len]; exact hk)]
    by_cases hz : 0 ≤ cg (D i) k
    · rw [if_pos (by omega), if_pos hz]
    · rw [if_neg (by omega), if_neg hz]
  have later : ∀ k, k < n → 0 ≤ cg (D i) k → i ≤ k := fun k hk hz => by
    by_cases hlt : k < i
    · exfalso
      have ok := hC.free i k hi hk ho hz
      have p := h.past k hlt hk ok
      have := h.same k i hk hi ok p (hC.symm i k hi hk ho ok hz)
      omega
    · omega
  refine ⟨by rw [markN_len]; exact h.len, fun k hk => ?_, fun k h1 h2 h3 => ?_, fun s k hs hk os h1 h2 => ?_⟩
  · rw [hg k hk]
    by_cases hz : 0 ≤ cg (D i) k
    · rw [if_pos hz]
      exact .inr ⟨i, by omega, later k hk hz, ho, hz, rfl⟩
    · rw [if_neg hz]
      rcases h.low k hk with a | ⟨s, a, b⟩
      · exact .inl a
      · exact .inr ⟨s, by omega, b⟩
  · rw [hg k h2]
    by_cases hz : 0 ≤ cg (D i) k
    · rw [if_pos hz]; omega
    · rw [if_neg hz]
      by_cases e : k = i
      · subst e
        exact absurd (hC.refl k hi ho) hz
      · exact h.past k (by omega) h2 h3
  · rw [hg s hs] at h1 ⊢
    rw [hg k hk]
    by_cases hz : 0 ≤ cg (D i) s
    · rw [if_pos hz, if_pos (hC.trans i s k hi hs hk ho os hz h2)]
    · have hz2 : ¬ 0 ≤ cg (D i) k := fun q => by
        have ok := hC.free s k hs hk os h2
        exact hz (hC.trans i k s hi hk hs ho ok q (hC.symm s k hs hk os ok h2))
      rw [if_neg hz] at h1 ⊢
      rw [if_neg hz2]
      exact h.same s k hs hk os h1 h2
theorem Con.of {W H : Int} {cells bl : List (List AVal)} (hc : okCs cells) (hb : okB bl) (cls : Int) (hf : fmd W H cells.length = true) : Con cells.length (fun i => opn W H cells bl cls (px W i) (py W i)) (D W H cells bl cls) := by
  have hR : ∀ i, i < cells.length → opn W H cells bl cls (px W i) (py W i) = true → Right cells.length (nbG W H cells bl cls) (· = i) (cg (D W H cells bl cls i)) := fun i hi ho => by
    have := D_right hc hb (pos_ins hf hi) ho
    rw [nm_pos hf] at this
    exact this
  have ho := nbG_ok W H cells bl cls
  have hs := nbG_sym W H cells bl cls
  have hsym : ∀ i j, i < cells.length → j < cells.length → opn W H cells bl cls (px W i) (py W i) = true → opn W H cells bl cls (px W j) (py W j) = true → cg (D W H cells bl cls i) j = cg (D W H cells bl cls j) i := fun i j hi hj oi oj => Right.sym ho hs hi hj (hR i hi oi) (hR j hj oj)
  refine ⟨fun i hi oi => by rw [(hR i hi oi).zero i hi rfl]; omega, fun i j hi hj oi oj h => by rw [← hsym i j hi hj oi oj]; exact h, fun i j k hi hj hk oi oj h1 h2 => ?_, fun i k hi hk oi h => reach_opn (hR i hi oi) oi hk h⟩
  have ok := reach_opn (hR j hj oj) oj hk h2
  -- from k over j to i
  have t := Right.tri' ho hs (hR i hi oi) (hR k hk ok) j hj h1 (by rw [hsym k j hk hj ok oj]; exact h2)
  rw [hsym i k hi hk oi ok]
  exact t.1
theorem regN_ok {W H : Int} {cells bl : List (List AVal)} (hc : okCs cells) (hb : okB bl) (cls : Int) (hf : fmd W H cells.length = true) : ∀ (r i : Nat) (out : List Int), i + r = cells.length → Reg cells.length (fun i => opn W H cells bl cls (px W i) (py W i)) (D W H cells bl cls) i out → Reg cells.length (fun i => opn W H cells bl cls (px W i) (py W i)) (D W H cells bl cls) cells.length (regN W H cells bl cls r i out)
  | 0, i, out, h1, h2 => by
    obtain rfl : i = cells.length := by omega
    exact h2
  | r + 1, i, out, h1, h2 => by
    rw [regN]
    refine regN_ok hc hb cls hf r (i + 1) _ (by omega) ?_
    by_cases h0 : cg out i ≥ 0
    · rw [if_pos h0]
      exact h2.skip (.inr h0)
    · rw [if_neg h0]
      cases ho : opn W H cells bl cls (px W i) (py W i) with
      | false => exact h2.skip (.inl ho)
      | true => exact h2.mark (Con.of hc hb cls hf) (by omega) ho h0
theorem RG_ok {W H : Int} {cells bl : List (List AVal)} (hc : okCs cells) (hb : okB bl) (cls : Int) (hf : fmd W H cells.length = true) : Reg cells.length (fun i => opn W H cells bl cls (px W i) (py W i)) (D W H cells bl cls) cells.length (RG W H cells bl cls) :=
  regN_ok hc hb cls hf cells.length 0 _ (by omega) ⟨by simp, fun k hk => .inl cg_rep, fun k h => by omega, fun s k h1 h2 h3 h4 => by rw [cg_rep] at h4; omega⟩
theorem pure_AstarRegions (W H : Int) (cells bl : List (List AVal)) (cls ax ay bx b cx cy : Int) (h1 : wf .i64 W) (h2 : wf .i64 H) (h3 : Ty Tryd.prog (.sl 65 3) (.ro 3 cells)) (h4 : Ty Tryd.prog (.sl 4 1) (.ro 1 bl)) (h5 : wf .i64 cls) (h6 : wf .i64 ax) (h7 : wf .i64 ay) (h8 : wf .i64 bx) (h9 : wf .i64 b) (h10 : wf .i64 cx) (h11 : wf .i64 cy) :
    F_skirmishlaw14_AstarRegions W H cells bl cls ax ay bx b cx cy = some true := by
  have hc := okCs_of (by kernel_rfl) h3
  have hb := okB_of (by kernel_rfl) h4
  simp only [F_skirmishlaw14_AstarRegions, small14, awake14, Path_g W H cells bl hc hb, Option.bind_some, Int.ofNat_eq_natCast]
  cases (decide ((cells.length : Int) ≤ 1100) && decide ((bl.length : Int) ≤ 2000)) with
  | false => rfl
  | true =>
    simp only [Bool.not_true, cond_false]
    by_cases hz : (PN W H cells bl cls ax ay bx b).2.2 = 0 ∨ (PN W H cells bl cls ax ay bx b).2.2 = 22
    · obtain ⟨hv, hk, ia, ib, oa, ob, e⟩ := PN_ok hc hb hz
      have hf := vmap_fmd hv
      have na := nm_lt ia
      have nb' := nm_lt ib
      have pa := pos_nm ia
      have pb := pos_nm ib
      have R := RG_ok hc hb cls hf
      have C := Con.of hc hb cls hf
      have oa' : opn W H cells bl cls (px W (nm W ax ay)) (py W (nm W ax ay)) = true := by rw [pa.1, pa.2]; exact oa
      have ob' : opn W H cells bl cls (px W (nm W bx b)) (py W (nm W bx b)) = true := by rw [pb.1, pb.2]; exact ob
      have ga0 := R.past _ na.1 na.1 oa'
      have gb0 := R.past _ nb'.1 nb'.1 ob'
      have hle : cg (RG W H cells bl cls) (nm W ax ay) ≤ (nm W ax ay : Nat) := by
        rcases R.low _ na.1 with q | ⟨s, q1, q2, q3, q4, q5⟩
        · omega
        · omega
      have heq : (cg (RG W H cells bl cls) (nm W ax ay) == cg (RG W H cells bl cls) (nm W bx b)) = decide (0 ≤ cg (D W H cells bl cls (nm W bx b)) (nm W ax ay)) := by
        by_cases hcon : 0 ≤ cg (D W H cells bl cls (nm W bx b)) (nm W ax ay)
        · rw [decide_eq_true hcon, beq_iff_eq]
          exact R.same _ _ nb'.1 na.1 ob' gb0 hcon
        · rw [decide_eq_false hcon, beq_eq_false_iff_ne]
          intro q
          rcases R.low _ na.1 with x | ⟨s, s1, s2, s3, s4, s5⟩
          · omega
          · rcases R.low _ nb'.1 with y | ⟨t, t1, t2, t3, t4, t5⟩
            · omega
            · have : s = t := by omega
              subst this
              exact hcon (C.trans _ s _ nb'.1 (by omega) na.1 ob' s3 (C.symm s _ (by omega) nb'.1 s3 ob' t4) s4)
      have hl := RG_len W H cells bl cls
      have ga := encC_get (cs := RG W H cells bl cls) (k := nm W ax ay) (by omega)
      have gb := encC_get (cs := RG W H cells bl cls) (k := nm W bx b) (by omega)
      have z2 : ¬ ((nm W ax ay : Nat) : Int) < 0 := by omega
      have z3 : ¬ ((nm W bx b : Nat) : Int) < 0 := by omega
      have z4 : ¬ ((nm W ax ay : Nat) : Int) ≥ (cells.length : Nat) := by omega
      have z5 : ¬ ((nm W bx b : Nat) : Int) ≥ (cells.length : Nat) := by omega
      have z9 : (0 : Int) ≤ (nm W ax ay : Nat) := by omega
      have z10 : (0 : Int) ≤ (nm W bx b : Nat) := by omega
      have z11 : ((nm W ax ay : Nat) : Int) < (cells.length : Nat) := by omega
      have z12 : ((nm W bx b : Nat) : Int) < (cells.length : Nat) := by omega
      have ga0' : cg (RG W H cells bl cls) (nm W ax ay) ≥ 0 := ga0
      by_cases hcon : cg (D W H cells bl cls (nm W bx b)) (nm W ax ay) < 0
      · rw [decide_eq_true hcon, cond_true] at e
        rw [decide_eq_false (by omega)] at heq
        have b1 : ((22 : Int) != 0) = true := rfl
        have b2 : ((22 : Int) == 0) = false := rfl
        simp only [e, b1, b2, bne_self_eq_false, cond_true, cond_false, Regions_g W H cells bl hc hb, hv, hk, Bool.and_self, Option.bind_some, idx_s ia, idx_s ib, z2, z3, z4, z5, z9, z10, z11, z12, encC_len, hl, decide_false, decide_true, beq_self_eq_true, Int.toNat_natCast, ga, gb, chk_i, cI_i, ga0', heq, hle]
      · rw [decide_eq_false hcon, cond_false] at e
        rw [decide_eq_true (by omega)] at heq
        simp only [e, bne_self_eq_false, cond_true, cond_false, Regions_g W H cells bl hc hb, hv, hk, Bool.and_self, Option.bind_some, idx_s ia, idx_s ib, z2, z3, z4, z5, z9, z10, z11, z12, encC_len, hl, decide_false, decide_true, beq_self_eq_true, Int.toNat_natCast, ga, gb, chk_i, cI_i, ga0', heq, hle]
    · have b1 : ((PN W H cells bl cls ax ay bx b).2.2 != 0) = true := by rw [bne_iff_ne]; exact fun q => hz (.inl q)
      have b2 : ((PN W H cells bl cls ax ay bx b).2.2 != 22) = true := by rw [bne_iff_ne]; exact fun q => hz (.inr q)
      simp only [b1, b2, cond_true]
end Go.Proofs.YtclfphmehilaeaaDoor.AI
