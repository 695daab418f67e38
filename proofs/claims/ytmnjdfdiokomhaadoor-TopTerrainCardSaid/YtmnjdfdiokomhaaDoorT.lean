/- The law TopTerrain, in plain Lean. -/
import Derived.Test.YtmnjdfdiokomhaaDoorS14c
namespace Go.Proofs.YtmnjdfdiokomhaaDoor.AI
open Go.RowKit
set_option linter.unusedVariables false
set_option linter.unusedSimpArgs false

theorem awakeTop : F_skirmishtop_paths = some true := by kernel_rfl
/-- What is taken. -/
def takeT (W H : Int) (cells : List (List AVal)) (x y n : Int) : Int × Int × List (List AVal) × Int × Int :=
  bif !vmap W H cells || decide (n < 1) then (0, 0, [], 0, 1) else
  bif !ins W H cells.length x y || (cI (cel W cells x y) 2 == 0) then (0, 0, [], 0, 8) else
  (W, H, wth W cells x y (bif (cI (cel W cells x y) 2 - min n (cI (cel W cells x y) 2) == 0) then 1 else cI (cel W cells x y) 0) (cI (cel W cells x y) 1) (cI (cel W cells x y) 2 - min n (cI (cel W cells x y) 2)), min n (cI (cel W cells x y) 2), 0)
theorem Take_T (W H : Int) (cells : List (List AVal)) (hc : okCs cells) (x y n : Int) : F_terrain_Take W H cells x y n = some (takeT W H cells x y n) := by
  simp only [F_terrain_Take, Valid_g W H cells hc, get_g W H cells hc, Option.bind_some, takeT, minI_eq]
  cases hv : vmap W H cells with
  | false => rfl
  | true =>
    by_cases h1 : n < 1
    · simp [h1]
    simp only [h1, decide_false, cond_false, Bool.not_true, Bool.or_self]
    cases hi : ins W H cells.length x y with
    | false => simp [gt, hi]
    | true =>
      have hr := vmap_cell hv hi
      unfold vrow vcell at hr
      simp only [Bool.and_eq_true, decide_eq_true_eq] at hr
      simp only [gt_ins hi, Bool.not_true, cond_false, Bool.false_or]
      cases ha : (cI (cel W cells x y) 2 == 0) with
      | true => rfl
      | false =>
        have w1 : wr (cI (cel W cells x y) 2 - min n (cI (cel W cells x y) 2)) = cI (cel W cells x y) 2 - min n (cI (cel W cells x y) 2) := wr_in (by omega) (by omega)
        simp only [cond_false, w1, with_g W H cells x y _ _ _ hi, Option.bind_some, hgt]
        cases (cI (cel W cells x y) 2 - min n (cI (cel W cells x y) 2) == 0) <;> rfl

/-! ### Taking closes no way -/
/-- One map lets through what the other one does. -/
structure More (W H : Int) (bl : List (List AVal)) (cls : Int) (c e : List (List AVal)) : Prop where
  len : e.length = c.length
  hgt : ∀ x y, hgt W e x y = hgt W c x y
  pas : ∀ x y, pas W H c cls x y = true → pas W H e cls x y = true
theorem More.refl (W H : Int) (bl : List (List AVal)) (cls : Int) (c : List (List AVal)) : More W H bl cls c c := ⟨rfl, fun _ _ => rfl, fun _ _ h => h⟩
theorem More.trans {W H : Int} {bl : List (List AVal)} {cls : Int} {a b c : List (List AVal)} (h : More W H bl cls a b) (k : More W H bl cls b c) : More W H bl cls a c :=
  ⟨by rw [k.len, h.len], fun x y => by rw [k.hgt, h.hgt], fun x y q => k.pas x y (h.pas x y q)⟩
theorem More.opn {W H : Int} {bl : List (List AVal)} {cls : Int} {c e : List (List AVal)} (h : More W H bl cls c e) {x y : Int} (ho : opn W H c bl cls x y = true) : opn W H e bl cls x y = true := by
  unfold AI.opn at ho ⊢
  rw [Bool.and_eq_true] at ho ⊢
  exact ⟨h.pas x y ho.1, ho.2⟩
theorem More.psb {W H : Int} {bl : List (List AVal)} {cls : Int} {c e : List (List AVal)} (h : More W H bl cls c e) {px py qx qy : Int} (hp : psb W H c bl cls px py qx qy = true) : psb W H e bl cls px py qx qy = true := by
  unfold AI.psb at hp ⊢
  simp only [Bool.and_eq_true] at hp ⊢
  rw [h.hgt, h.hgt]
  exact ⟨h.opn hp.1, h.opn hp.2.1, hp.2.2⟩
theorem More.step {W H : Int} {bl : List (List AVal)} {cls : Int} {c e : List (List AVal)} (h : More W H bl cls c e) {x y d : Int} (hs : (stepN W H c bl cls x y d).2 = true) : stepN W H e bl cls x y d = stepN W H c bl cls x y d := by
  unfold stepN at hs ⊢
  cases hd : decide (d < 0 ∨ d > 7) with
  | true => rw [hd] at hs; cases hs
  | false =>
    rw [hd] at hs
    simp only [cond_false] at hs ⊢
    cases hq : (AI.psb W H c bl cls x y (stp x y d).1 (stp x y d).2 && (!(Int.tmod d 2 == 1) || (cls == 3 || crn W H c bl cls x y (stp x y d).1 (stp x y d).2))) with
    | false => rw [hq] at hs; cases hs
    | true =>
      rw [Bool.and_eq_true] at hq
      have h1 := h.psb hq.1
      have h2 : (!(Int.tmod d 2 == 1) || (cls == 3 || crn W H e bl cls x y (stp x y d).1 (stp x y d).2)) = true := by
        have h0 := hq.2
        rw [Bool.or_eq_true, Bool.or_eq_true] at h0 ⊢
        rcases h0 with a | a | a
        · exact .inl a
        · exact .inr (.inl a)
        · refine .inr (.inr ?_)
          unfold crn at a ⊢
          simp only [Bool.and_eq_true] at a ⊢
          exact ⟨h.psb a.1, h.psb a.2.1, h.psb a.2.2.1, h.psb a.2.2.2⟩
      rw [h1, h2]
      simp only [Bool.and_self, cond_true, cst, h.hgt]
theorem More.nb {W H : Int} {bl : List (List AVal)} {cls : Int} {c e : List (List AVal)} (h : More W H bl cls c e) : ∀ i d j w, nbG W H c bl cls i d = some (j, w) → nbG W H e bl cls i d = some (j, w) := by
  intro i d j w hn
  obtain ⟨y1, y2, y3, y4⟩ := nbG_some hn
  rw [nbG_of (by rw [h.len]; exact y1) y2, h.step (by rw [y3]), y3, if_pos rfl, y4]
theorem getD_set (l : List (List AVal)) (I J : Nat) (r : List AVal) (hI : I < l.length) : (l.set I r).getD J [] = if I = J then r else l.getD J [] := by
  rw [List.getD_eq_getElem?_getD, List.getD_eq_getElem?_getD, List.getElem?_set]
  by_cases h : I = J
  · subst h; simp [hI]
  · simp [h]
theorem More.take {W H : Int} {bl : List (List AVal)} {cls : Int} {cells : List (List AVal)} (hk : cok cls = true) {x y k a : Int} (hi : ins W H cells.length x y = true) (hkind : k = cI (cel W cells x y) 0 ∨ k = 1) : More W H bl cls cells (wth W cells x y k (cI (cel W cells x y) 1) a) := by
  obtain ⟨e1, e2, e3, e4⟩ := ins_idx hi
  have hl : (wth W cells x y k (cI (cel W cells x y) 1) a).length = cells.length := by simp [wth]
  have hg : ∀ u v, cel W (wth W cells x y k (cI (cel W cells x y) 1) a) u v = if (y * W + x).toNat = (v * W + u).toNat then [i64 k, i64 (cI (cel W cells x y) 1), i64 a] else cel W cells u v := fun u v => getD_set cells _ _ _ e3
  refine ⟨hl, fun u v => ?_, fun u v hp => ?_⟩
  · show cI (cel W (wth W cells x y k (cI (cel W cells x y) 1) a) u v) 1 = cI (cel W cells u v) 1
    rw [hg]
    by_cases h : (y * W + x).toNat = (v * W + u).toNat
    · rw [if_pos h]
      show cI (cel W cells x y) 1 = cI (cel W cells u v) 1
      unfold cel
      rw [h]
    · rw [if_neg h]
  · unfold AI.pas gt at hp ⊢
    rw [hl]
    cases hin : ins W H cells.length u v with
    | false => rw [hin] at hp; simp at hp
    | true =>
      rw [hin] at hp
      simp only [cond_true, Bool.true_and] at hp ⊢
      rw [hg]
      by_cases h : (y * W + x).toNat = (v * W + u).toNat
      · rw [if_pos h]
        show pk cls k = true
        have ec : cel W cells u v = cel W cells x y := by unfold cel; rw [h]
        rw [ec] at hp
        rcases hkind with q | q
        · rw [q]; exact hp
        · rw [q]
          unfold cok at hk
          rw [Bool.and_eq_true, decide_eq_true_eq, decide_eq_true_eq] at hk
          have : cls = 1 ∨ cls = 2 ∨ cls = 3 := by omega
          rcases this with rfl | rfl | rfl <;> rfl
      · rw [if_neg h]
        exact hp
/-- The amount at a place. -/
def amt (W H : Int) (cells : List (List AVal)) (x y : Int) : Int := (gt W H cells x y).2.2.1
theorem amt_in {W H : Int} {cells : List (List AVal)} (hv : vmap W H cells = true) (x y : Int) : 0 ≤ amt W H cells x y ∧ amt W H cells x y ≤ 1000000 := by
  unfold amt gt
  cases hi : ins W H cells.length x y with
  | false => exact ⟨Int.le_refl _, show (0 : Int) ≤ 1000000 by omega⟩
  | true =>
    have hr := vmap_cell hv hi
    unfold vrow vcell at hr
    simp only [Bool.and_eq_true, decide_eq_true_eq] at hr
    simp only [cond_true]
    omega
theorem take_ok {W H : Int} {bl : List (List AVal)} {cls : Int} {cells : List (List AVal)} (hc : okCs cells) (hv : vmap W H cells = true) (hk : cok cls = true) (x y n : Int) (h : (takeT W H cells x y n).2.2.2.2 = 0) :
    ∃ e u, takeT W H cells x y n = (W, H, e, u, 0) ∧ okCs e ∧ vmap W H e = true ∧ More W H bl cls cells e ∧ amt W H cells x y - amt W H e x y = u ∧ 0 ≤ u ∧ u ≤ 1000000 := by
  unfold takeT at h ⊢
  cases h1 : (!vmap W H cells || decide (n < 1)) with
  | true => rw [h1] at h; cases h
  | false =>
    rw [h1] at h
    simp only [cond_false] at h ⊢
    cases h2 : (!ins W H cells.length x y || (cI (cel W cells x y) 2 == 0)) with
    | true => rw [h2] at h; cases h
    | false =>
      rw [Bool.or_eq_false_iff] at h1 h2
      have hi : ins W H cells.length x y = true := by simpa using h2.1
      have hne : cI (cel W cells x y) 2 ≠ 0 := by simpa using h2.2
      have hn : ¬ n < 1 := by simpa using h1.2
      have hr := vmap_cell hv hi
      have hr0 := hr
      unfold vrow vcell at hr
      simp only [Bool.and_eq_true, decide_eq_true_eq, beq_iff_eq] at hr
      obtain ⟨r1, r2⟩ := hr
      generalize hK : (bif (cI (cel W cells x y) 2 - min n (cI (cel W cells x y) 2) == 0) then (1 : Int) else cI (cel W cells x y) 0) = K
      have hkind : K = cI (cel W cells x y) 0 ∨ K = 1 := by
        rw [← hK]
        cases (cI (cel W cells x y) 2 - min n (cI (cel W cells x y) 2) == 0) with
        | true => exact .inr rfl
        | false => exact .inl rfl
      have hcell : vcell K (cI (cel W cells x y) 1) (cI (cel W cells x y) 2 - min n (cI (cel W cells x y) 2)) = true := by
        unfold vcell
        rw [Bool.and_eq_true, decide_eq_true_eq, beq_iff_eq]
        cases hz : (cI (cel W cells x y) 2 - min n (cI (cel W cells x y) 2) == 0) with
        | true =>
          rw [hz] at hK
          simp only [cond_true] at hK
          rw [beq_iff_eq] at hz
          refine ⟨by omega, ?_⟩
          rw [hz, ← hK]
          rfl
        | false =>
          rw [hz] at hK
          simp only [cond_false] at hK
          have hz' : cI (cel W cells x y) 2 - min n (cI (cel W cells x y) 2) ≠ 0 := by simpa using hz
          refine ⟨by omega, ?_⟩
          rw [← hK, ← r2, decide_eq_true (by omega), decide_eq_true (by omega)]
      have hrng := vcell_rng hcell
      refine ⟨wth W cells x y K (cI (cel W cells x y) 1) (cI (cel W cells x y) 2 - min n (cI (cel W cells x y) 2)), min n (cI (cel W cells x y) 2), rfl, okCs_set hc _ hrng.1 hrng.2.1 hrng.2.2, wth_vmap hv hcell, More.take hk hi hkind, ?_, by omega, by omega⟩
      unfold amt gt
      rw [wth_len, hi]
      simp only [cond_true]
      rw [wth_cel K (cI (cel W cells x y) 1) _ hi]
      show cI (cel W cells x y) 2 - (cI (cel W cells x y) 2 - min n (cI (cel W cells x y) 2)) = min n (cI (cel W cells x y) 2)
      omega
def okI (a : List (List AVal)) : Prop := ∀ r, r ∈ a → chk [.int .i64] r = true
theorem okI_get {a : List (List AVal)} (h : okI a) {k : Nat} (hk : k < a.length) : a[k]? = some (a.getD k []) ∧ chk [.int .i64] (a.getD k []) = true := by
  have : a.getD k [] = a[k] := by simp [List.getD, hk]
  rw [this]
  exact ⟨List.getElem?_eq_getElem hk, h _ (List.getElem_mem hk)⟩
theorem takes_G (W H : Int) (bl : List (List AVal)) (cls : Int) (hk : cok cls = true) (c0 : List (List AVal)) (hv0 : vmap W H c0 = true) (x y : Int) (takes : List (List AVal)) (ht : okI takes) (hn : takes.length ≤ 50) :
    ∀ (r m k : Nat) (total : Int) (cells : List (List AVal)), k + r = takes.length → r < m → okCs cells → vmap W H cells = true → More W H bl cls c0 cells → amt W H c0 x y - amt W H cells x y = total →
    ∃ e, G_skirmishtop_TopTerrain_0 takes x y m total k W H cells = some (amt W H c0 x y - amt W H e x y, W, H, e) ∧ okCs e ∧ vmap W H e = true ∧ More W H bl cls c0 e
  | 0, m, k, total, cells, h1, h2, h3, h4, h5, h6 => by
    obtain ⟨m, rfl⟩ : ∃ q, m = q + 1 := ⟨m - 1, by omega⟩
    have : ¬ ((k : Int) < takes.length) := by omega
    refine ⟨cells, ?_, h3, h4, h5⟩
    simp only [G_skirmishtop_TopTerrain_0, Int.ofNat_eq_natCast, this, decide_false, cond_false, h6]
  | r + 1, m, k, total, cells, h1, h2, h3, h4, h5, h6 => by
    obtain ⟨m, rfl⟩ : ∃ q, m = q + 1 := ⟨m - 1, by omega⟩
    have d1 : (k : Int) < takes.length := by omega
    have d2 : (0 : Int) ≤ k := by omega
    obtain ⟨g1, g2⟩ := okI_get ht (show k < takes.length by omega)
    have w : wr ((k : Int) + 1) = ((k + 1 : Nat) : Int) := wr_suc k (by omega)
    by_cases he : (takeT W H cells x y (cI (takes.getD k []) 0)).2.2.2.2 = 0
    · obtain ⟨e, u, a1, a2, a3, a4, a5, a6, a7⟩ := take_ok (bl := bl) h3 h4 hk x y (cI (takes.getD k []) 0) he
      have b0 := amt_in hv0 x y
      have b1 := amt_in h4 x y
      have wt : wr (total + u) = total + u := wr_in (by omega) (by omega)
      obtain ⟨e', q1, q2⟩ := takes_G W H bl cls hk c0 hv0 x y takes ht hn r m (k + 1) (total + u) e (by omega) (by omega) a2 a3 (h5.trans a4) (by omega)
      refine ⟨e', ?_, q2⟩
      simp only [G_skirmishtop_TopTerrain_0, Int.ofNat_eq_natCast, d1, d2, decide_true, cond_true, Int.toNat_natCast, g1, g2, Option.bind_some, Take_T W H cells h3, a1, beq_self_eq_true, wt, w, q1]
    · have hb' : ((takeT W H cells x y (cI (takes.getD k []) 0)).2.2.2.2 == 0) = false := by simpa using he
      obtain ⟨e', q1, q2⟩ := takes_G W H bl cls hk c0 hv0 x y takes ht hn r m (k + 1) total cells (by omega) (by omega) h3 h4 h5 h6
      refine ⟨e', ?_, q2⟩
      simp only [G_skirmishtop_TopTerrain_0, Int.ofNat_eq_natCast, d1, d2, decide_true, cond_true, cond_false, Int.toNat_natCast, g1, g2, Option.bind_some, Take_T W H cells h3, hb', w, q1]
theorem pure_TopTerrain (W H : Int) (cells bl : List (List AVal)) (cls ax ay bx b x y : Int) (takes : List (List AVal)) (h1 : wf .i64 W) (h2 : wf .i64 H) (h3 : Ty Tryd.prog (.sl 35 3) (.ro 3 cells)) (h4 : Ty Tryd.prog (.sl 4 1) (.ro 1 bl)) (h5 : wf .i64 cls) (h6 : wf .i64 ax) (h7 : wf .i64 ay) (h8 : wf .i64 bx) (h9 : wf .i64 b) (h10 : wf .i64 x) (h11 : wf .i64 y) (h12 : Ty Tryd.prog (.sl 3 1) (.ro 1 takes)) :
    F_skirmishtop_TopTerrain W H cells bl cls ax ay bx b x y takes = some true := by
  have hc := okCs_of (by kernel_rfl) h3
  have hb := okB_of (by kernel_rfl) h4
  have ht : okI takes := okR_of (by kernel_rfl) h12
  simp only [F_skirmishtop_TopTerrain, awakeTop, Path_g W H cells bl hc hb, Option.bind_some, Int.ofNat_eq_natCast]
  by_cases h0 : (PN W H cells bl cls ax ay bx b).2.2 = 0
  · by_cases hl : (takes.length : Int) > 50
    · simp only [h0, bne_self_eq_false, cond_false, hl, decide_true, cond_true]
    · obtain ⟨hv, hk, ia, ib, oa, ob, e⟩ := PN_ok hc hb (.inl h0)
      have hneg : ¬ cg (D W H cells bl cls (nm W bx b)) (nm W ax ay) < 0 := fun q => by
        rw [e, decide_eq_true q] at h0
        cases h0
      rw [decide_eq_false hneg, cond_false] at e
      obtain ⟨c', t1, t2, t3, t4⟩ := takes_G W H bl cls hk cells hv x y takes ht (by omega) takes.length FU 0 0 cells (by omega) (by unfold FU; omega) hc hv (More.refl W H bl cls cells) (by omega)
      have t1' : G_skirmishtop_TopTerrain_0 takes x y FU 0 0 W H cells = _ := t1
      have ia' : ins W H c'.length ax ay = true := by rw [t4.len]; exact ia
      have ib' : ins W H c'.length bx b = true := by rw [t4.len]; exact ib
      have oa' := t4.opn oa
      have ob' := t4.opn ob
      have rb := D_right hc hb ib ob
      have rb' := D_right t2 hb ib' ob'
      rw [t4.len] at rb'
      have hm := Right.mono (nbG_ok W H cells bl cls) t4.nb rb' rb (cg (D W H cells bl cls (nm W bx b)) (nm W ax ay)).toNat (nm W ax ay) (nm_lt ia).1 (by omega) (by omega)
      have e2 : PN W H c' bl cls ax ay bx b = (encP W (nm W ax ay :: wk (nbG W H c' bl cls) (D W H c' bl cls (nm W bx b)) 50000 (nm W ax ay)), cg (D W H c' bl cls (nm W bx b)) (nm W ax ay), 0) := by
        unfold PN
        rw [t3, hk, (ins_iff.1 ia).2, (ins_iff.1 ib).2, oa', ob', decide_eq_false (show ¬ cg (D W H c' bl cls (nm W bx b)) (nm W ax ay) < 0 by omega)]
        rfl
      have b0 := amt_in hv x y
      have b1 := amt_in t3 x y
      have hw : (wr ((gt W H cells x y).2.2.1 - (gt W H c' x y).2.2.1) == amt W H cells x y - amt W H c' x y) = true := by
        have : wr (amt W H cells x y - amt W H c' x y) = amt W H cells x y - amt W H c' x y := wr_in (by omega) (by omega)
        rw [beq_iff_eq]
        exact this
      have hle : cg (D W H c' bl cls (nm W bx b)) (nm W ax ay) ≤ cg (D W H cells bl cls (nm W bx b)) (nm W ax ay) := hm.2
      simp only [e, bne_self_eq_false, cond_false, hl, decide_false, get_g W H cells hc, Option.bind_some, t1', get_g W H c' t2, Path_g W H c' bl t2 hb, e2, beq_self_eq_true, cond_true, hle, decide_true, hw, Valid_r W H c' t2, t3]
  · have hb' : ((PN W H cells bl cls ax ay bx b).2.2 != 0) = true := by simpa using h0
    simp only [hb', cond_true]
end Go.Proofs.YtmnjdfdiokomhaaDoor.AI
