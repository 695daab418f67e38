/- The cells of a map, by number: which step leads where, and what it costs. -/
import Derived.Test.YteiniiakpdijmaaDoorQ07c
import Derived.Test.YteiniiakpdijmaaDoorSq
namespace Go.Proofs.YteiniiakpdijmaaDoor.AI
open Go.RowKit
set_option linter.unusedVariables false
set_option linter.unusedSimpArgs false
/-- The opposite direction. -/
def opp (d : Int) : Int := Int.tmod (wr (d + 4)) 8
theorem opp_ok {d : Int} (h1 : 0 ≤ d) (h2 : d < 8) : dX (opp d) = - dX d ∧ dY (opp d) = - dY d ∧ 0 ≤ opp d ∧ opp d < 8 ∧ (Int.tmod (opp d) 2 == 1) = (Int.tmod d 2 == 1) ∧ opp (opp d) = d := by
  have h : d = 0 ∨ d = 1 ∨ d = 2 ∨ d = 3 ∨ d = 4 ∨ d = 5 ∨ d = 6 ∨ d = 7 := by omega
  rcases h with rfl | rfl | rfl | rfl | rfl | rfl | rfl | rfl <;> decide +kernel
theorem ins_rng {W H : Int} {n : Nat} {x y : Int} (h : ins W H n x y = true) : 0 ≤ x ∧ x < 32 ∧ 0 ≤ y ∧ y < 32 := by
  obtain ⟨h1, h2⟩ := ins_iff.1 h
  obtain ⟨h3, h4⟩ := fmd_iff.1 h1
  rw [inn_iff] at h2
  omega
/-- From an inside place, there and back. -/
theorem stp_there {W H : Int} {n : Nat} {x y d : Int} (h1 : 0 ≤ d) (h2 : d < 8) (hi : ins W H n x y = true) : stp (stp x y d).1 (stp x y d).2 (opp d) = (x, y) := by
  obtain ⟨o1, o2, o3, o4, _⟩ := opp_ok h1 h2
  have r := ins_rng hi
  have a := dX_in d
  have b := dY_in d
  unfold stp
  rw [if_neg (show ¬ (d < 0 ∨ 7 < d) by omega), if_neg (show ¬ (opp d < 0 ∨ 7 < opp d) by omega)]
  simp only [o1, o2]
  rw [nr_id (n := x) (by omega) (by omega), nr_id (n := y) (by omega) (by omega), nr_id (by omega) (by omega), nr_id (by omega) (by omega)]
  simp
  omega
/-- Where both ends are inside. -/
theorem stp_here {W H : Int} {n : Nat} {x y d : Int} (h1 : 0 ≤ d) (h2 : d < 8) (hi : ins W H n (stp x y d).1 (stp x y d).2 = true) (hj : ins W H n (stp (stp x y d).1 (stp x y d).2 (opp d)).1 (stp (stp x y d).1 (stp x y d).2 (opp d)).2 = true) :
    stp (stp x y d).1 (stp x y d).2 (opp d) = (x, y) := by
  obtain ⟨o1, o2, o3, o4, _⟩ := opp_ok h1 h2
  have r := ins_rng hi
  have q := ins_rng hj
  have a := dX_in d
  have b := dY_in d
  unfold stp at r q ⊢
  rw [if_neg (show ¬ (d < 0 ∨ 7 < d) by omega)] at r q ⊢
  rw [if_neg (show ¬ (opp d < 0 ∨ 7 < opp d) by omega)] at q ⊢
  simp only [o1, o2] at r q ⊢
  rw [nr_id (n := nr x + dX d) (by omega) (by omega), nr_id (n := nr y + dY d) (by omega) (by omega)] at q ⊢
  have e1 : nr x = x := by unfold nr at *; omega
  have e2 : nr y = y := by unfold nr at *; omega
  simp only [Prod.mk.injEq]
  omega
theorem crn_back (W H : Int) (cells bl : List (List AVal)) (cls px py qx qy : Int) : crn W H cells bl cls qx qy px py = crn W H cells bl cls px py qx qy := by
  unfold crn
  rw [psb_comm W H cells bl cls qx qy qx py, psb_comm W H cells bl cls qx py px py, psb_comm W H cells bl cls qx qy px qy, psb_comm W H cells bl cls px qy px py]
  cases psb W H cells bl cls qx py qx qy <;> cases psb W H cells bl cls px py qx py <;> cases psb W H cells bl cls px qy qx qy <;> cases psb W H cells bl cls px py px qy <;> rfl
theorem cst_back (W : Int) (cells : List (List AVal)) (cls d px py qx qy : Int) (h1 : 0 ≤ d) (h2 : d < 8) : cst W cells cls (opp d) qx qy px py = cst W cells cls d px py qx qy := by
  unfold cst
  rw [(opp_ok h1 h2).2.2.2.2.1, show (hgt W cells qx qy == hgt W cells px py) = (hgt W cells px py == hgt W cells qx qy) from Bool.eq_iff_iff.2 (by simp only [beq_iff_eq]; exact eq_comm)]
theorem step_back (W H : Int) (cells bl : List (List AVal)) (cls x y d : Int) (h1 : 0 ≤ d) (h2 : d < 8) :
    stepN W H cells bl cls (stp x y d).1 (stp x y d).2 (opp d) = stepN W H cells bl cls x y d := by
  obtain ⟨o1, o2, o3, o4, o5, _⟩ := opp_ok h1 h2
  have d1 : decide (d < 0 ∨ d > 7) = false := decide_eq_false (by omega)
  have d2 : decide (opp d < 0 ∨ opp d > 7) = false := decide_eq_false (by omega)
  unfold stepN
  simp only [d1, d2, cond_false]
  cases hp : psb W H cells bl cls x y (stp x y d).1 (stp x y d).2 with
  | true =>
    have e := stp_there h1 h2 (psb_ins hp).1
    rw [e]
    simp only
    rw [psb_comm, hp, o5, crn_back, cst_back W cells cls d _ _ _ _ h1 h2]
  | false =>
    cases hq : psb W H cells bl cls (stp x y d).1 (stp x y d).2 (stp (stp x y d).1 (stp x y d).2 (opp d)).1 (stp (stp x y d).1 (stp x y d).2 (opp d)).2 with
    | false => rfl
    | true =>
      have e := stp_here h1 h2 (psb_ins hq).1 (psb_ins hq).2
      rw [e] at hq
      simp only at hq
      rw [psb_comm, hp] at hq
      cases hq
theorem step_inn {W H : Int} {cells bl : List (List AVal)} {cls x y d : Int} (h : (stepN W H cells bl cls x y d).2 = true) : inn W H x y = true ∧ inn W H (stp x y d).1 (stp x y d).2 = true := by
  unfold stepN at h
  cases hd : decide (d < 0 ∨ d > 7) with
  | true => rw [hd] at h; cases h
  | false =>
    rw [hd] at h
    simp only [cond_false] at h
    cases hp : psb W H cells bl cls x y (stp x y d).1 (stp x y d).2 with
    | false => rw [hp] at h; cases h
    | true =>
      have := psb_ins hp
      exact ⟨(ins_iff.1 this.1).2, (ins_iff.1 this.2).2⟩

/-! ### Numbers of cells -/
theorem vmap_fmd {W H : Int} {cells : List (List AVal)} (h : vmap W H cells = true) : fmd W H cells.length = true := by
  unfold vmap at h
  rw [Bool.and_eq_true] at h
  exact h.1
/-- The place of a cell. -/
def px (W : Int) (i : Nat) : Int := (att W i).1
def py (W : Int) (i : Nat) : Int := (att W i).2
theorem pos_ins {W H : Int} {n i : Nat} (hf : fmd W H n = true) (hi : i < n) : ins W H n (px W i) (py W i) = true := by
  obtain ⟨h1, h2⟩ := fmd_iff.1 hf
  exact ins_iff.2 ⟨hf, att_in (by omega) (by omega) (by omega)⟩
theorem pos_idx {W H : Int} {n i : Nat} (hf : fmd W H n = true) : py W i * W + px W i = i := by
  obtain ⟨h1, h2⟩ := fmd_iff.1 hf
  exact att_idx (by omega) (by omega)
/-- The number of a place. -/
def nm (W x y : Int) : Nat := (y * W + x).toNat
theorem nm_pos {W H : Int} {n i : Nat} (hf : fmd W H n = true) : nm W (px W i) (py W i) = i := by
  unfold nm
  rw [pos_idx hf]
  omega
theorem nm_lt {W H : Int} {n : Nat} {x y : Int} (h : ins W H n x y = true) : nm W x y < n ∧ ((nm W x y : Nat) : Int) = y * W + x := by
  obtain ⟨e1, e2, e3, e4⟩ := ins_idx h
  unfold nm
  omega
theorem pos_nm {W H : Int} {n : Nat} {x y : Int} (h : ins W H n x y = true) : px W (nm W x y) = x ∧ py W (nm W x y) = y := by
  have e := idx_att (ins_iff.1 h).2
  rw [← (nm_lt h).2] at e
  unfold px py
  rw [e]
  exact ⟨rfl, rfl⟩
theorem wr_mul {W H : Int} {n : Nat} {x y : Int} (h : ins W H n x y = true) : wr (wr (y * W) + x) = y * W + x := by
  obtain ⟨h1, h2⟩ := ins_iff.1 h
  obtain ⟨h3, h4⟩ := fmd_iff.1 h1
  have r := ins_rng h
  have b := mul_bound (a := y) (b := W) (A := 32) (B := 32) (by omega) (by omega) (by omega) (by omega)
  rw [wr_in (n := y * W) (by omega) (by omega), wr_in (by omega) (by omega)]

/-! ### The steps -/
def nbG (W H : Int) (cells bl : List (List AVal)) (cls : Int) : Nb := fun i d =>
  if i < cells.length ∧ d < 8 ∧ (stepN W H cells bl cls (px W i) (py W i) d).2 = true then
    some (nm W (stp (px W i) (py W i) d).1 (stp (px W i) (py W i) d).2, (stepN W H cells bl cls (px W i) (py W i) d).1)
  else none
theorem step_ins {W H : Int} {cells bl : List (List AVal)} {cls x y d : Int} (h : (stepN W H cells bl cls x y d).2 = true) : ins W H cells.length x y = true ∧ ins W H cells.length (stp x y d).1 (stp x y d).2 = true := by
  unfold stepN at h
  cases hd : decide (d < 0 ∨ d > 7) with
  | true => rw [hd] at h; cases h
  | false =>
    rw [hd] at h
    simp only [cond_false] at h
    cases hp : psb W H cells bl cls x y (stp x y d).1 (stp x y d).2 with
    | false => rw [hp] at h; cases h
    | true => exact psb_ins hp
theorem step_cost {W H : Int} {cells bl : List (List AVal)} {cls x y d : Int} (h : (stepN W H cells bl cls x y d).2 = true) : 10 ≤ (stepN W H cells bl cls x y d).1 ∧ (stepN W H cells bl cls x y d).1 ≤ 19 := by
  unfold stepN at h ⊢
  cases hd : decide (d < 0 ∨ d > 7) with
  | true => rw [hd] at h; cases h
  | false =>
    rw [hd] at h
    simp only [cond_false] at h ⊢
    revert h
    cases (psb W H cells bl cls x y (stp x y d).1 (stp x y d).2 && (!(Int.tmod d 2 == 1) || (cls == 3 || crn W H cells bl cls x y (stp x y d).1 (stp x y d).2))) with
    | false => intro h; cases h
    | true =>
      intro _
      simp only [cond_true, cst]
      cases (Int.tmod d 2 == 1) <;> cases (!(cls == 3) && !(hgt W cells x y == hgt W cells (stp x y d).1 (stp x y d).2)) <;> simp
theorem nbG_some {W H : Int} {cells bl : List (List AVal)} {cls : Int} {i d j : Nat} {w : Int} (h : nbG W H cells bl cls i d = some (j, w)) :
    i < cells.length ∧ d < 8 ∧ (stepN W H cells bl cls (px W i) (py W i) d) = (w, true) ∧ j = nm W (stp (px W i) (py W i) d).1 (stp (px W i) (py W i) d).2 := by
  unfold nbG at h
  split at h
  · rename_i hc
    simp only [Option.some.injEq, Prod.mk.injEq] at h
    exact ⟨hc.1, hc.2.1, Prod.ext h.2 hc.2.2, h.1.symm⟩
  · cases h
theorem nbG_of {W H : Int} {cells bl : List (List AVal)} {cls : Int} {i d : Nat} (hi : i < cells.length) (hd : d < 8) : nbG W H cells bl cls i d = if (stepN W H cells bl cls (px W i) (py W i) d).2 = true then
    some (nm W (stp (px W i) (py W i) d).1 (stp (px W i) (py W i) d).2, (stepN W H cells bl cls (px W i) (py W i) d).1) else none := by
  unfold nbG
  by_cases h : (stepN W H cells bl cls (px W i) (py W i) d).2 = true
  · rw [if_pos ⟨hi, hd, h⟩, if_pos h]
  · rw [if_neg (fun q => h q.2.2), if_neg h]
theorem nbG_ok (W H : Int) (cells bl : List (List AVal)) (cls : Int) : NbOk cells.length (nbG W H cells bl cls) := by
  refine ⟨fun i d j w h => ?_, fun i d j w h => ?_⟩
  · obtain ⟨h1, h2, h3, rfl⟩ := nbG_some h
    exact ⟨h1, (nm_lt (step_ins (by rw [h3])).2).1⟩
  · obtain ⟨h1, h2, h3, h4⟩ := nbG_some h
    have := step_cost (W := W) (H := H) (cells := cells) (bl := bl) (cls := cls) (x := px W i) (y := py W i) (d := d) (by rw [h3])
    rw [h3] at this
    exact this
theorem nbG_sym (W H : Int) (cells bl : List (List AVal)) (cls : Int) : NbSym (nbG W H cells bl cls) := by
  intro i d j w hd h
  obtain ⟨h1, h2, h3, rfl⟩ := nbG_some h
  have hi := step_ins (W := W) (H := H) (cells := cells) (bl := bl) (cls := cls) (x := px W i) (y := py W i) (d := d) (by rw [h3])
  have e0 : (0 : Int) ≤ d := by omega
  have e8 : (d : Int) < 8 := by omega
  have ho := opp_ok e0 e8
  have hp := pos_nm hi.2
  have hn := nm_lt hi.2
  have e1 : (((opp d).toNat : Nat) : Int) = opp d := by omega
  refine ⟨(opp d).toNat, by omega, ?_⟩
  rw [nbG_of hn.1 (by omega), hp.1, hp.2, e1, step_back W H cells bl cls _ _ d e0 e8, h3, if_pos rfl, stp_there e0 e8 hi.1, nm_pos (ins_iff.1 hi.1).1]

/-! ### Rows of costs, of places, of buckets -/
def encC (cs : List Int) : List (List AVal) := cs.map fun c => [i64 c]
theorem encC_len (cs : List Int) : (encC cs).length = cs.length := by simp [encC]
theorem encC_get {cs : List Int} {k : Nat} (h : k < cs.length) : (encC cs)[k]? = some [i64 (cg cs k)] := by
  unfold encC cg
  rw [List.getElem?_map, List.getElem?_eq_getElem h, List.getD_eq_getElem?_getD, List.getElem?_eq_getElem h]
  rfl
theorem encC_set (cs : List Int) (k : Nat) (v : Int) : (encC cs).set k [i64 v] = encC (cs.set k v) := by simp [encC, List.map_set]
theorem encC_rep (n : Nat) (v : Int) : List.replicate n [i64 v] = encC (List.replicate n v) := by simp [encC]
theorem encC_app (cs : List Int) (v : Int) : encC cs ++ [[i64 v]] = encC (cs ++ [v]) := by simp [encC]
theorem encC_inj {a b : List Int} (h : encC a = encC b) : a = b := by
  have : a = (encC a).map fun r => cI r 0 := by
    unfold encC
    rw [List.map_map]
    exact (List.map_id a).symm
  rw [this, h]
  unfold encC
  rw [List.map_map]
  exact List.map_id b
theorem chk_i (v : Int) : chk [(LT.int IntKind.i64)] [i64 v] = true := rfl
theorem cI_i (v : Int) : cI [i64 v] 0 = v := rfl
theorem chk_p (x y : Int) : chk [(LT.int IntKind.i64), (LT.int IntKind.i64)] [i64 x, i64 y] = true := rfl
theorem cI_p0 (x y : Int) : cI [i64 x, i64 y] 0 = x := rfl
theorem cI_p1 (x y : Int) : cI [i64 x, i64 y] 1 = y := rfl
theorem chk_b (b : Bool) : chk [LT.bool] [bo b] = true := rfl
theorem cB_b (b : Bool) : cB [bo b] 0 = b := rfl
/-- Places by their numbers. -/
def encP (W : Int) (l : List Nat) : List (List AVal) := l.map fun i => [i64 (px W i), i64 (py W i)]
theorem encP_len (W : Int) (l : List Nat) : (encP W l).length = l.length := by simp [encP]
theorem encP_get {W : Int} {l : List Nat} {k : Nat} (h : k < l.length) : (encP W l)[k]? = some [i64 (px W (l.getD k 0)), i64 (py W (l.getD k 0))] := by
  unfold encP
  rw [List.getElem?_map, List.getElem?_eq_getElem h, List.getD_eq_getElem?_getD, List.getElem?_eq_getElem h]
  rfl
theorem encP_app (W : Int) (l : List Nat) (i : Nat) : encP W l ++ [[i64 (px W i), i64 (py W i)]] = encP W (l ++ [i]) := by simp [encP]
def encB (W : Int) (B : List (List Nat)) : List (List AVal) := B.map fun l => [.ro 2 (encP W l)]
theorem encB_len (W : Int) (B : List (List Nat)) : (encB W B).length = B.length := by simp [encB]
theorem encB_get {W : Int} {B : List (List Nat)} {k : Nat} (h : k < B.length) : (encB W B)[k]? = some [.ro 2 (encP W (bk B k))] := by
  unfold encB bk
  rw [List.getElem?_map, List.getElem?_eq_getElem h, List.getD_eq_getElem?_getD, List.getElem?_eq_getElem h]
  rfl
theorem encB_set (W : Int) (B : List (List Nat)) (k : Nat) (l : List Nat) : (encB W B).set k [.ro 2 (encP W l)] = encB W (B.set k l) := by simp [encB, List.map_set]
theorem encB_app (W : Int) (B : List (List Nat)) : encB W B ++ [[.ro 2 []]] = encB W (B ++ [[]]) := by simp [encB, encP]
theorem cR_b (rows : List (List AVal)) : cR [.ro 2 rows] 0 = rows := rfl
theorem room24 {n : Nat} (h : n ≤ 100000) : roomOk n 24 = true := by simp [roomOk]; omega
theorem room16 {n : Nat} (h : n ≤ 100000) : roomOk n 16 = true := by simp [roomOk]; omega
theorem room8 {n : Nat} (h : n ≤ 100000) : roomOk n 8 = true := by simp [roomOk]; omega
/-! ### Free cells -/
theorem free_step {W H : Int} {cells bl : List (List AVal)} {cls x y d : Int} (h : (stepN W H cells bl cls x y d).2 = true) : opn W H cells bl cls x y = true ∧ opn W H cells bl cls (stp x y d).1 (stp x y d).2 = true := by
  unfold stepN at h
  cases hd : decide (d < 0 ∨ d > 7) with
  | true => rw [hd] at h; cases h
  | false =>
    rw [hd] at h
    simp only [cond_false] at h
    cases hp : psb W H cells bl cls x y (stp x y d).1 (stp x y d).2 with
    | false => rw [hp] at h; cases h
    | true =>
      unfold psb at hp
      simp only [Bool.and_eq_true] at hp
      exact ⟨hp.1, hp.2.1⟩
end Go.Proofs.YteiniiakpdijmaaDoor.AI
