/- What the functions of chapter 17 answer. -/
import Derived.Test.YteiniiakpdijmaaDoorFl
import Derived.Test.YteiniiakpdijmaaDoorBd
namespace Go.Proofs.YteiniiakpdijmaaDoor.AI
open Go.RowKit
set_option linter.unusedVariables false
set_option linter.unusedSimpArgs false

/-! ### Build -/
theorem dec_enc (cs : List Int) : (encC cs).map (fun r => cI r 0) = cs := by
  unfold encC
  rw [List.map_map]
  exact List.map_id cs
/-- The costs of a field. -/
noncomputable def CS (W H : Int) (cells bl : List (List AVal)) (cls : Int) (rows : List (List AVal)) : List Int := ((F_skirmishref14_Spread W H cells bl cls (encC (c0 cells.length (dcP W rows)))).getD []).map fun r => cI r 0
theorem CS_ok (W H : Int) (cells bl : List (List AVal)) (hc : okCs cells) (hb : okB bl) (cls : Int) (hf : fmd W H cells.length = true) (rows : List (List AVal)) (ho : okP rows) (ha : rows.all (inR W H) = true) :
    F_skirmishref14_Spread W H cells bl cls (encC (c0 cells.length (dcP W rows))) = some (encC (CS W H cells bl cls rows)) ∧ (CS W H cells bl cls rows).length = cells.length ∧ Right cells.length (nbG W H cells bl cls) (· ∈ dcP W rows) (cg (CS W H cells bl cls rows)) ∧ (∀ k, -1 ≤ cg (CS W H cells bl cls rows) k ∧ cg (CS W H cells bl cls rows) k ≤ 19456) := by
  obtain ⟨q1, q2⟩ := encP_dcP hf rows ho ha
  obtain ⟨cs, h1, h2, h3⟩ := spread_r W H cells bl hc hb cls hf (· ∈ dcP W rows) (c0 cells.length (dcP W rows)) (c0_len _ _) (c0_start q2)
  have e : CS W H cells bl cls rows = cs := by
    unfold CS
    rw [h1]
    exact dec_enc cs
  rw [e]
  refine ⟨h1, h2, h3, fun k => ?_⟩
  have hs := fmd_small hf
  by_cases hk : k < cells.length
  · have := Right.bound (nbG_ok W H cells bl cls) h3 k hk
    have := h3.low k hk
    omega
  · unfold cg
    rw [List.getD_eq_getElem?_getD, List.getElem?_eq_none (by omega)]
    simp
/-- A field and an error. -/
noncomputable def BN (W H : Int) (cells bl : List (List AVal)) (cls : Int) (rows : List (List AVal)) : List (List AVal) × List (List AVal) × List (List AVal) × Int × Int :=
  bif !(vmap W H cells && cok cls) then ([], [], [], 0, 1) else bif decide (rows.length < 1) || decide (rows.length > 8) then ([], [], [], 0, 2) else
  bif !(rows.all (inR W H)) then ([], [], [], 0, 1) else bif !(rows.all (opG W H cells bl cls)) then ([], [], [], 0, 9) else
  (rows, encC (CS W H cells bl cls rows), encC (drL (nbG W H cells bl cls) (CS W H cells bl cls rows) cells.length), cls, 0)
theorem clone_P (rows : List (List AVal)) (h : rows.length ≤ 100000) : F_slices_Clone_Pos rows = some rows := by
  simp only [F_slices_Clone_Pos, F_slices_Clone_Pos_ne]
  cases rows with
  | nil => rfl
  | cons r l =>
    have : roomOk (0 + (r :: l).length) 16 = true := room16 (by omega)
    simp only [List.isEmpty_cons, cond_false, this, cond_true]
theorem clone_I (rows : List (List AVal)) (h : rows.length ≤ 100000) : F_slices_Clone_int rows = some rows := by
  simp only [F_slices_Clone_int, F_slices_Clone_int_ne]
  cases rows with
  | nil => rfl
  | cons r l =>
    have : roomOk (0 + (r :: l).length) 8 = true := room8 (by omega)
    simp only [List.isEmpty_cons, cond_false, this, cond_true]
theorem Build_f (W H : Int) (cells bl : List (List AVal)) (hc : okCs cells) (hb : okB bl) (cls : Int) (rows : List (List AVal)) (ho : okP rows) (hn : rows.length ≤ 1000000) : F_flow_Build W H cells bl cls rows = some (BN W H cells bl cls rows) := by
  simp only [F_flow_Build, Valid_g W H cells hc, Option.bind_some, BN, Int.ofNat_eq_natCast]
  cases hv : vmap W H cells with
  | false => rfl
  | true =>
    by_cases k1 : cls < 1
    · have : cok cls = false := by unfold cok; rw [decide_eq_false (by omega)]; rfl
      simp only [k1, decide_true, cond_true, this, Bool.not_true, cond_false, Bool.and_false, Bool.not_false]
    by_cases k2 : cls > 3
    · have : cok cls = false := by unfold cok; rw [decide_eq_false (show ¬ cls ≤ 3 by omega)]; simp
      simp only [k1, k2, decide_true, decide_false, cond_true, this, Bool.not_true, cond_false, Bool.and_false, Bool.not_false]
    have hk : cok cls = true := by unfold cok; rw [decide_eq_true (by omega), decide_eq_true (by omega)]; rfl
    by_cases n1 : rows.length < 1
    · have n1' : (rows.length : Int) < 1 := by omega
      simp only [k1, k2, hk, n1, n1', decide_true, decide_false, cond_true, Bool.not_true, cond_false, Bool.and_self, Bool.true_or]
    have n1' : ¬ (rows.length : Int) < 1 := by omega
    by_cases n2 : rows.length > 8
    · have n2' : (rows.length : Int) > 8 := by omega
      simp only [k1, k2, hk, n1, n1', n2, n2', decide_true, decide_false, cond_true, Bool.not_true, cond_false, Bool.and_self, Bool.or_true]
    have n2' : ¬ (rows.length : Int) > 8 := by omega
    have h0 := in_f W H rows ho hn FU rows.length 0 (by omega) (by unfold FU; omega)
    have h0' : G_flow_Build_0 rows rows.length W H FU 0 = some (!rows.all (inR W H)) := h0
    simp only [k1, k2, hk, n1, n1', n2, n2', decide_false, Bool.not_true, cond_false, Bool.and_self, Bool.or_self, h0', Option.bind_some]
    cases ha : rows.all (inR W H) with
    | false => rfl
    | true =>
      have hf := vmap_fmd hv
      have hsm := fmd_small hf
      have e1 : (0 : Int) ≤ cells.length := by omega
      have e2 : (cells.length : Int) ≤ 9223372036854775807 := by omega
      have e3 : (8 : Int) * (cells.length : Int) ≤ 140737488355328 := by omega
      have hfill := fill_f cells.length (by omega) cells.length FU 0 (List.replicate cells.length 0) (by simp) (by omega) (by unfold FU; omega) fun j hj => by omega
      have hfill' : G_flow_Build_1 cells.length FU (encC (List.replicate cells.length 0)) 0 = _ := hfill
      have hg := goals_f W H cells bl hc hb cls hf rows ho ha (by omega) rows.length FU 0 (List.replicate cells.length (-1), []) (by omega) (by unfold FU; omega) (by simp) (by simp) (by simp [tot])
      rw [List.drop_zero] at hg
      have hg' : G_flow_Build_2 bl cls rows rows.length W H cells W H cells bl cls FU (encC (List.replicate cells.length (-1))) [] 0 = _ := hg
      simp only [Bool.not_true, cond_false, e1, e2, e3, decide_true, Bool.and_self, cond_true, Int.toNat_natCast, encC_rep, encC_len, List.length_replicate, hfill', Option.bind_some, hg']
      cases hop : rows.all (opG W H cells bl cls) with
      | false => rfl
      | true =>
        obtain ⟨q1, q2⟩ := encP_dcP hf rows ho ha
        obtain ⟨s1, s2, s3, s4⟩ := CS_ok W H cells bl hc hb cls hf rows ho ha
        have hlen : (dcP W rows).length = rows.length := by simp [dcP]
        obtain ⟨cs', B', r1, r2, r3⟩ := run_0 W H cells bl hc hb cls hf (· ∈ dcP W rows) (dcP W rows).length (by omega) _ FU 0 _ _ _ (Que.goals q2) (by omega) (Nat.le_refl _) (by
          have hbt := bk_tot (addG (dcP W rows) (List.replicate cells.length (-1), [])).2 0
          rw [addG_tot] at hbt
          have ht0 : tot ([] : List (List Nat)) = 0 := rfl
          simp only [ht0] at hbt
          have hm : (19 * cells.length + 2 - 0) * ((dcP W rows).length + 8 * cells.length + 1) ≤ 20000 * 10000 := Nat.mul_le_mul (by omega) (by omega)
          unfold FU
          omega)
        have ecs : cs' = CS W H cells bl cls rows := cost_ext r2 s2 fun i hi => Right.eq (nbG_ok W H cells bl cls) r3 s3 i hi
        subst ecs
        have r1' : G_flow_wave__run_0 W H cells bl cls FU (encC (addG (dcP W rows) (List.replicate cells.length (-1), [])).1) (encB W (addG (dcP W rows) (List.replicate cells.length (-1), [])).2) 0 = some (encC (CS W H cells bl cls rows), B') := r1
        have hd := dirs_f3 W H cells bl hc hb cls hf (CS W H cells bl cls rows) B' s2 _ s3 (fun k => by have := s4 k; omega) cells.length FU 0 (List.replicate cells.length 0) (by simp) (by omega) (by unfold FU; omega) fun j hj => by omega
        have hd' : G_flow_Build_3 (encC (CS W H cells bl cls rows)) B' cells.length W W H cells bl cls FU (encC (List.replicate cells.length 0)) 0 = _ := hd
        simp only [cond_true, Bool.not_true, cond_false, F_flow_wave__run, r1', Option.bind_some, clone_P rows (by omega), hd']
theorem none_n {W H : Int} {cells : List (List AVal)} (hf : fmd W H cells.length = true) : F_skirmishref14_None (wr (W * H)) = some (encC (List.replicate cells.length (-1))) := by
  obtain ⟨h1, h2⟩ := fmd_iff.1 hf
  have hs := fmd_small hf
  have e : wr (W * H) = ((cells.length : Nat) : Int) := by rw [← h2]; exact wr_in (by omega) (by omega)
  rw [e]
  exact none_r cells.length (by omega)
theorem Build_r (W H : Int) (cells bl : List (List AVal)) (hc : okCs cells) (hb : okB bl) (cls : Int) (rows : List (List AVal)) (ho : okP rows) (hn : rows.length ≤ 1000000) : F_skirmishref17_Build W H cells bl cls rows = some (BN W H cells bl cls rows) := by
  simp only [F_skirmishref17_Build, Valid_r W H cells hc, class_r, Option.bind_some, BN, Int.ofNat_eq_natCast]
  cases hv : vmap W H cells with
  | false => rfl
  | true =>
    cases hk : cok cls with
    | false => rfl
    | true =>
      by_cases n1 : rows.length < 1
      · have n1' : ((rows.length : Int) == 0) = true := by rw [beq_iff_eq]; omega
        simp only [n1, n1', decide_true, cond_true, Bool.not_true, cond_false, Bool.and_self, Bool.true_or]
      have n1' : ((rows.length : Int) == 0) = false := by rw [beq_eq_false_iff_ne]; omega
      by_cases n2 : rows.length > 8
      · have n2' : (rows.length : Int) > 8 := by omega
        simp only [n1, n1', n2, n2', decide_true, decide_false, cond_true, Bool.not_true, cond_false, Bool.and_self, Bool.or_true]
      have n2' : ¬ (rows.length : Int) > 8 := by omega
      have h0 := in_r17 W H rows ho hn FU rows.length 0 (by omega) (by unfold FU; omega)
      have h0' : G_skirmishref17_Build_0 rows W H FU 0 = some (!rows.all (inR W H)) := h0
      simp only [n1, n1', n2, n2', decide_false, Bool.not_true, cond_false, Bool.and_self, Bool.or_self, h0', Option.bind_some]
      cases ha : rows.all (inR W H) with
      | false => rfl
      | true =>
        have hf := vmap_fmd hv
        have hsm := fmd_small hf
        have hg := goals_r W H cells bl hc hb cls hf rows ho ha (by omega) rows.length FU 0 (List.replicate cells.length (-1), []) (by omega) (by unfold FU; omega) (by simp)
        rw [List.drop_zero] at hg
        have hg' : G_skirmishref17_Build_1 bl cls rows W H cells FU (encC (List.replicate cells.length (-1))) 0 = _ := hg
        simp only [Bool.not_true, cond_false, none_n hf, Option.bind_some, hg']
        cases hop : rows.all (opG W H cells bl cls) with
        | false => rfl
        | true =>
          obtain ⟨s1, s2, s3, s4⟩ := CS_ok W H cells bl hc hb cls hf rows ho ha
          have s1' : F_skirmishref14_Spread W H cells bl cls (encC (addG (dcP W rows) (List.replicate cells.length (-1), [])).1) = _ := s1
          have hd := dirs_r W H cells bl hc hb cls hf (CS W H cells bl cls rows) s2 (fun k => by have := s4 k; omega) cells.length FU 0 (by omega) (by unfold FU; omega)
          have hd' : G_skirmishref17_Build_2 (encC (CS W H cells bl cls rows)) bl cls W H cells FU [] 0 = _ := hd
          simp only [cond_true, Bool.not_true, cond_false, s1', Option.bind_some, room16 (show 0 + rows.length ≤ 100000 by omega), hd']

/-! ### Equal rows -/
def okI (a : List (List AVal)) : Prop := ∀ r, r ∈ a → chk [.int .i64] r = true
theorem okI_of {P : Program} {T E : Nat} {rows : List (List AVal)} (hl : leafOf P 8 T = [.int .i64]) (h : Ty P (.sl T E) (.ro E rows)) : okI rows := okR_of hl h
theorem okI_enc (cs : List Int) : okI (encC cs) := fun r hr => by
  unfold encC at hr
  obtain ⟨c, _, rfl⟩ := List.mem_map.1 hr
  rfl
theorem okI_get {a : List (List AVal)} (h : okI a) {k : Nat} (hk : k < a.length) : a[k]? = some (a.getD k []) ∧ chk [.int .i64] (a.getD k []) = true := by
  have : a.getD k [] = a[k] := by simp [List.getD, hk]
  rw [this]
  exact ⟨List.getElem?_eq_getElem hk, h _ (List.getElem_mem hk)⟩
def difI (a b : List (List AVal)) : Nat → Nat → Bool
  | 0, _ => false
  | n + 1, k => (cI (a.getD k []) 0 != cI (b.getD k []) 0) || difI a b n (k + 1)
theorem difI_self (a : List (List AVal)) : ∀ (n k : Nat), difI a a n k = false
  | 0, k => rfl
  | n + 1, k => by simp [difI, difI_self a n (k + 1)]
def eqI (a b : List (List AVal)) : Bool := ((a.length : Int) == b.length) && !difI a b a.length 0
theorem eqI_self (a : List (List AVal)) : eqI a a = true := by simp [eqI, difI_self]
theorem equal_G (a b : List (List AVal)) (ha : okI a) (hb : okI b) (hl : a.length = b.length) (hn : a.length ≤ 1000000) : ∀ (m r k : Nat), k + r = a.length → r < m → G_slices_Equal_int_0 a b a.length m k = some (difI a b r k)
  | 0, r, k, h1, h2 => by omega
  | m + 1, 0, k, h1, h2 => by
    have : ¬ ((k : Int) < a.length) := by omega
    simp only [G_slices_Equal_int_0, this, decide_false, cond_false, difI]
  | m + 1, r + 1, k, h1, h2 => by
    have d1 : (k : Int) < a.length := by omega
    have d2 : (0 : Int) ≤ k := by omega
    obtain ⟨q1, q2⟩ := okI_get ha (show k < a.length by omega)
    obtain ⟨q3, q4⟩ := okI_get hb (show k < b.length by omega)
    have ih := equal_G a b ha hb hl hn m r (k + 1) (by omega) (by omega)
    simp only [G_slices_Equal_int_0, d1, d2, decide_true, cond_true, Int.toNat_natCast, q1, q2, q3, q4, Option.bind_some, wr_suc k (by omega), ih, difI]
    cases (cI (a.getD k []) 0 != cI (b.getD k []) 0) <;> simp
theorem sameI_G (a b : List (List AVal)) (ha : okI a) (hb : okI b) (hl : a.length = b.length) (hn : a.length ≤ 1000000) : ∀ (m r k : Nat), k + r = a.length → r < m → G_skirmishref14_SameInts_0 a b m k = some (difI a b r k)
  | 0, r, k, h1, h2 => by omega
  | m + 1, 0, k, h1, h2 => by
    have : ¬ ((k : Int) < a.length) := by omega
    simp only [G_skirmishref14_SameInts_0, Int.ofNat_eq_natCast, this, decide_false, cond_false, difI]
  | m + 1, r + 1, k, h1, h2 => by
    have d1 : (k : Int) < a.length := by omega
    have d2 : (0 : Int) ≤ k := by omega
    obtain ⟨q1, q2⟩ := okI_get ha (show k < a.length by omega)
    obtain ⟨q3, q4⟩ := okI_get hb (show k < b.length by omega)
    have ih := sameI_G a b ha hb hl hn m r (k + 1) (by omega) (by omega)
    simp only [G_skirmishref14_SameInts_0, Int.ofNat_eq_natCast, d1, d2, decide_true, cond_true, Int.toNat_natCast, q1, q2, q3, q4, Option.bind_some, wr_suc k (by omega), ih, difI]
    cases (cI (a.getD k []) 0 != cI (b.getD k []) 0) <;> simp
theorem equal_f (a b : List (List AVal)) (ha : okI a) (hb : okI b) (hn : a.length ≤ 1000000) : F_slices_Equal_int a b = some (eqI a b) := by
  simp only [F_slices_Equal_int, Int.ofNat_eq_natCast, bne, eqI]
  cases hl : ((a.length : Int) == b.length) with
  | false => rfl
  | true =>
    have hl' : a.length = b.length := by have := beq_iff_eq.1 hl; omega
    have h0 := equal_G a b ha hb hl' hn FU a.length 0 (by omega) (by unfold FU; omega)
    have h0' : G_slices_Equal_int_0 a b a.length FU 0 = some (difI a b a.length 0) := h0
    simp only [Bool.not_true, cond_false, h0', Option.bind_some, Bool.true_and]
    cases difI a b a.length 0 <;> rfl
theorem sameI_r (a b : List (List AVal)) (ha : okI a) (hb : okI b) (hn : a.length ≤ 1000000) : F_skirmishref14_SameInts a b = some (eqI a b) := by
  simp only [F_skirmishref14_SameInts, Int.ofNat_eq_natCast, bne, eqI]
  cases hl : ((a.length : Int) == b.length) with
  | false => rfl
  | true =>
    have hl' : a.length = b.length := by have := beq_iff_eq.1 hl; omega
    have h0 := sameI_G a b ha hb hl' hn FU a.length 0 (by omega) (by unfold FU; omega)
    have h0' : G_skirmishref14_SameInts_0 a b FU 0 = some (difI a b a.length 0) := h0
    simp only [Bool.not_true, cond_false, h0', Option.bind_some, Bool.true_and]
    cases difI a b a.length 0 <;> rfl
/-- The parts of what Build answers. -/
theorem BN_parts {W H : Int} {cells bl : List (List AVal)} (cls : Int) {rows : List (List AVal)} (hc : okCs cells) (hb : okB bl) (ho : okP rows) : okP (BN W H cells bl cls rows).1 ∧ (BN W H cells bl cls rows).1.length ≤ 8 ∧ okI (BN W H cells bl cls rows).2.1 ∧ (BN W H cells bl cls rows).2.1.length ≤ 1024 ∧ okI (BN W H cells bl cls rows).2.2.1 ∧ (BN W H cells bl cls rows).2.2.1.length ≤ 1024 ∧
    ((BN W H cells bl cls rows).2.2.2.2 = 0 → vmap W H cells = true ∧ cok cls = true ∧ 1 ≤ rows.length ∧ rows.length ≤ 8 ∧ rows.all (inR W H) = true ∧ rows.all (opG W H cells bl cls) = true ∧ BN W H cells bl cls rows = (rows, encC (CS W H cells bl cls rows), encC (drL (nbG W H cells bl cls) (CS W H cells bl cls rows) cells.length), cls, 0)) ∧
    ((BN W H cells bl cls rows).2.2.2.2 ≠ 0 → (BN W H cells bl cls rows).2.1 = []) := by
  have nP : okP [] := fun r hr => by cases hr
  have nI : okI [] := fun r hr => by cases hr
  unfold BN
  cases hv : (vmap W H cells && cok cls) with
  | false => exact ⟨nP, by simp, nI, by simp, nI, by simp, fun h => (by cases h), fun _ => rfl⟩
  | true =>
    cases hn : (decide (rows.length < 1) || decide (rows.length > 8)) with
    | true => exact ⟨nP, by simp, nI, by simp, nI, by simp, fun h => (by cases h), fun _ => rfl⟩
    | false =>
      cases ha : rows.all (inR W H) with
      | false => exact ⟨nP, by simp, nI, by simp, nI, by simp, fun h => (by cases h), fun _ => rfl⟩
      | true =>
        cases hop : rows.all (opG W H cells bl cls) with
        | false => exact ⟨nP, by simp, nI, by simp, nI, by simp, fun h => (by cases h), fun _ => rfl⟩
        | true =>
          rw [Bool.and_eq_true] at hv
          rw [Bool.or_eq_false_iff, decide_eq_false_iff_not, decide_eq_false_iff_not] at hn
          have hf := vmap_fmd hv.1
          have hsm := fmd_small hf
          obtain ⟨s1, s2, s3, s4⟩ := CS_ok W H cells bl hc hb cls hf rows ho ha
          refine ⟨ho, by simp only [Bool.not_true, cond_false]; omega, okI_enc _, by simp only [Bool.not_true, cond_false, encC_len]; omega, okI_enc _, by simp only [Bool.not_true, cond_false, encC_len, drL_len]; omega, fun _ => ⟨hv.1, hv.2, by omega, by omega, rfl, rfl, rfl⟩, fun h => absurd rfl h⟩
theorem same_BN {W H : Int} {cells bl : List (List AVal)} (cls : Int) {rows : List (List AVal)} (hc : okCs cells) (hb : okB bl) (ho : okP rows) (c : Int) : F_skirmishref17_Same c (BN W H cells bl cls rows).1 (BN W H cells bl cls rows).2.1 (BN W H cells bl cls rows).2.2.1 c (BN W H cells bl cls rows).1 (BN W H cells bl cls rows).2.1 (BN W H cells bl cls rows).2.2.1 = some true := by
  obtain ⟨p1, p2, p3, p4, p5, p6, _⟩ := BN_parts (W := W) (H := H) cls hc hb ho
  simp only [F_skirmishref17_Same, beq_self_eq_true, cond_true, samePath_r _ p1 (show (BN W H cells bl cls rows).1.length ≤ 100000 by omega), Option.bind_some, sameI_r _ _ p3 p3 (show (BN W H cells bl cls rows).2.1.length ≤ 1000000 by omega), sameI_r _ _ p5 p5 (show (BN W H cells bl cls rows).2.2.1.length ≤ 1000000 by omega), eqI_self]
theorem Check_f (W H : Int) (cells bl : List (List AVal)) (hc : okCs cells) (hb : okB bl) (cls : Int) (rows cost dir : List (List AVal)) (ho : okP rows) (hn : rows.length ≤ 1000000) (h1 : okI cost) (h2 : okI dir) (l1 : cost.length ≤ 1000000) (l2 : dir.length ≤ 1000000) :
    F_flow_Check cls rows cost dir W H cells bl = some (((BN W H cells bl cls rows).2.2.2.2 == 0) && (eqI cost (BN W H cells bl cls rows).2.1 && eqI dir (BN W H cells bl cls rows).2.2.1)) := by
  obtain ⟨p1, p2, p3, p4, p5, p6, _⟩ := BN_parts (W := W) (H := H) cls hc hb ho
  simp only [F_flow_Check, Build_f W H cells bl hc hb cls rows ho hn, Option.bind_some, equal_f _ _ h1 p3 l1, equal_f _ _ h2 p5 l2]
  cases ((BN W H cells bl cls rows).2.2.2.2 == 0) <;> cases eqI cost (BN W H cells bl cls rows).2.1 <;> rfl
theorem Check_r (W H : Int) (cells bl : List (List AVal)) (hc : okCs cells) (hb : okB bl) (cls : Int) (rows cost dir : List (List AVal)) (ho : okP rows) (hn : rows.length ≤ 100000) (h1 : okI cost) (h2 : okI dir) (l1 : cost.length ≤ 1000000) (l2 : dir.length ≤ 1000000) :
    F_skirmishref17_Check cls rows cost dir W H cells bl = some (((BN W H cells bl cls rows).2.2.2.2 == 0) && (eqI cost (BN W H cells bl cls rows).2.1 && eqI dir (BN W H cells bl cls rows).2.2.1)) := by
  obtain ⟨p1, p2, p3, p4, p5, p6, p7, _⟩ := BN_parts (W := W) (H := H) cls hc hb ho
  simp only [F_skirmishref17_Check, Build_r W H cells bl hc hb cls rows ho (by omega), Option.bind_some]
  cases he : ((BN W H cells bl cls rows).2.2.2.2 == 0) with
  | false => rfl
  | true =>
    obtain ⟨_, _, _, _, _, _, e⟩ := p7 (beq_iff_eq.1 he)
    rw [e] at p3 p5 ⊢
    simp only [cond_true, F_skirmishref17_Same, beq_self_eq_true, samePath_r rows ho hn, Option.bind_some, sameI_r _ _ h1 p3 l1, sameI_r _ _ h2 p5 l2, Bool.true_and]
    cases eqI cost (encC (CS W H cells bl cls rows)) <;> rfl

/-! ### Next, Follow -/
def fitN (W H : Int) (cells cost dir : List (List AVal)) : Bool := vmap W H cells && (((cost.length : Int) == (cells.length : Int)) && ((dir.length : Int) == (cells.length : Int)))
theorem fits_f (W H : Int) (cells : List (List AVal)) (hc : okCs cells) (cls : Int) (rows cost dir : List (List AVal)) : F_flow_fits cls rows cost dir W H cells = some (fitN W H cells cost dir) := by
  simp only [F_flow_fits, Valid_g W H cells hc, Option.bind_some, fitN, Int.ofNat_eq_natCast]
  cases vmap W H cells <;> cases ((cost.length : Int) == (cells.length : Int)) <;> rfl
theorem area {W H : Int} {cells : List (List AVal)} (hv : vmap W H cells = true) : wr (W * H) = ((cells.length : Nat) : Int) := by
  have hf := vmap_fmd hv
  obtain ⟨h1, h2⟩ := fmd_iff.1 hf
  have hs := fmd_small hf
  rw [← h2]
  exact wr_in (by omega) (by omega)
theorem fits_r (W H : Int) (cells : List (List AVal)) (hc : okCs cells) (cls : Int) (rows cost dir : List (List AVal)) : F_skirmishref17_Fits cls rows cost dir W H cells = some (fitN W H cells cost dir) := by
  simp only [F_skirmishref17_Fits, Valid_r W H cells hc, Option.bind_some, fitN, Int.ofNat_eq_natCast]
  cases hv : vmap W H cells with
  | false => rfl
  | true =>
    rw [area hv]
    cases ((cost.length : Int) == (cells.length : Int)) <;> rfl
/-- Where a field leads. -/
def nxN (W H : Int) (dir : List (List AVal)) (x y : Int) : Int × Int × Bool :=
  bif inn W H x y then
    bif decide (cI (dir.getD (nm W x y) []) 0 < 0) then (0, 0, false) else bif decide (cI (dir.getD (nm W x y) []) 0 > 7) then (0, 0, false) else
    bif inn W H (stp x y (cI (dir.getD (nm W x y) []) 0)).1 (stp x y (cI (dir.getD (nm W x y) []) 0)).2 then ((stp x y (cI (dir.getD (nm W x y) []) 0)).1, (stp x y (cI (dir.getD (nm W x y) []) 0)).2, true) else (0, 0, false)
  else (0, 0, false)
theorem next_f (W H : Int) (cells : List (List AVal)) (cls : Int) (rows cost dir : List (List AVal)) (hf : fmd W H cells.length = true) (hd : dir.length = cells.length) (h2 : okI dir) (x y : Int) : F_flow_next cls rows cost dir W H cells x y = some (nxN W H dir x y) := by
  simp only [F_flow_next, in_g, Option.bind_some, index_g, nxN]
  cases hi : inn W H x y with
  | false => rfl
  | true =>
    have hin : ins W H cells.length x y = true := ins_iff.2 ⟨hf, hi⟩
    have hx := (ins_idx hin).1
    have nl := nm_lt hin
    rw [← nl.2] at hx
    have l1 : (0 : Int) ≤ (nm W x y : Nat) := by omega
    obtain ⟨g1, g2⟩ := okI_get h2 (show nm W x y < dir.length by omega)
    simp only [Bool.not_true, cond_false, hx, l1, decide_true, cond_true, Int.toNat_natCast, g1, Option.bind_some, g2, step_g, in_g]
    by_cases z1 : cI (dir.getD (nm W x y) []) 0 < 0
    · simp only [z1, decide_true, cond_true]
    by_cases z2 : cI (dir.getD (nm W x y) []) 0 > 7
    · simp only [z1, z2, decide_true, decide_false, cond_true, cond_false]
    simp only [z1, z2, decide_false, cond_false]
    cases inn W H (stp x y (cI (dir.getD (nm W x y) []) 0)).1 (stp x y (cI (dir.getD (nm W x y) []) 0)).2 <;> rfl
theorem Next_f (W H : Int) (cells : List (List AVal)) (hc : okCs cells) (cls : Int) (rows cost dir : List (List AVal)) (h2 : okI dir) (x y : Int) : F_flow_Next cls rows cost dir W H cells x y = some (bif fitN W H cells cost dir then nxN W H dir x y else (0, 0, false)) := by
  simp only [F_flow_Next, fits_f W H cells hc, Option.bind_some]
  cases hfit : fitN W H cells cost dir with
  | false => rfl
  | true =>
    have h := hfit
    unfold fitN at h
    simp only [Bool.and_eq_true, beq_iff_eq] at h
    simp only [Bool.not_true, cond_false, next_f W H cells cls rows cost dir (vmap_fmd h.1) (by omega) h2, Option.bind_some, cond_true]
theorem Next_r (W H : Int) (cells : List (List AVal)) (hc : okCs cells) (cls : Int) (rows cost dir : List (List AVal)) (h2 : okI dir) (x y : Int) : F_skirmishref17_Next cls rows cost dir W H cells x y = some (bif fitN W H cells cost dir then nxN W H dir x y else (0, 0, false)) := by
  simp only [F_skirmishref17_Next, fits_r W H cells hc, in_r, Option.bind_some]
  cases hfit : fitN W H cells cost dir with
  | false => rfl
  | true =>
    have h := hfit
    unfold fitN at h
    simp only [Bool.and_eq_true, beq_iff_eq] at h
    have hf := vmap_fmd h.1
    simp only [Bool.not_true, cond_false, cond_true, nxN]
    cases hi : inn W H x y with
    | false => rfl
    | true =>
      have hin : ins W H cells.length x y = true := ins_iff.2 ⟨hf, hi⟩
      have nl := nm_lt hin
      have hx : wr (wr (y * W) + x) = ((nm W x y : Nat) : Int) := by rw [wr_mul hin, nl.2]
      have l1 : (0 : Int) ≤ (nm W x y : Nat) := by omega
      obtain ⟨g1, g2⟩ := okI_get h2 (show nm W x y < dir.length by omega)
      simp only [Bool.not_true, cond_false, hx, l1, decide_true, cond_true, Int.toNat_natCast, g1, Option.bind_some, g2, beside_r]
      by_cases z1 : cI (dir.getD (nm W x y) []) 0 < 0
      · simp only [z1, decide_true, cond_true]
      by_cases z2 : cI (dir.getD (nm W x y) []) 0 > 7
      · simp only [z1, z2, decide_true, decide_false, cond_true, cond_false]
      simp only [z1, z2, decide_false, cond_false]
      cases inn W H (stp x y (cI (dir.getD (nm W x y) []) 0)).1 (stp x y (cI (dir.getD (nm W x y) []) 0)).2 <;> rfl
def folN (W H : Int) (dir : List (List AVal)) : Nat → List (List AVal) → Int → Int → Bool × List (List AVal) × Int × Int
  | 0, l, x, y => bif (nxN W H dir x y).2.2 then (true, [], 0, 0) else (false, l, x, y)
  | r + 1, l, x, y => bif (nxN W H dir x y).2.2 then folN W H dir r (l ++ [[i64 (nxN W H dir x y).1, i64 (nxN W H dir x y).2.1]]) (nxN W H dir x y).1 (nxN W H dir x y).2.1 else (false, l, x, y)
theorem follow_f (W H : Int) (cells : List (List AVal)) (cls : Int) (rows cost dir : List (List AVal)) (hf : fmd W H cells.length = true) (hd : dir.length = cells.length) (h2 : okI dir) : ∀ (r m : Nat) (l : List (List AVal)) (x y : Int), l.length + r = cells.length → r < m → G_flow_Follow_0 cls rows cost dir W H cells m l x y = some (folN W H dir r l x y)
  | 0, m, l, x, y, h1, h3 => by
    obtain ⟨m, rfl⟩ : ∃ q, m = q + 1 := ⟨m - 1, by omega⟩
    have z : ((l.length : Int) == (cells.length : Int)) = true := by rw [beq_iff_eq]; omega
    simp only [G_flow_Follow_0, next_f W H cells cls rows cost dir hf hd h2, Option.bind_some, folN, Int.ofNat_eq_natCast, z]
    cases (nxN W H dir x y).2.2 <;> rfl
  | r + 1, m, l, x, y, h1, h3 => by
    obtain ⟨m, rfl⟩ : ∃ q, m = q + 1 := ⟨m - 1, by omega⟩
    have hs := fmd_small hf
    have z : ((l.length : Int) == (cells.length : Int)) = false := by rw [beq_eq_false_iff_ne]; omega
    have ih := follow_f W H cells cls rows cost dir hf hd h2 r m (l ++ [[i64 (nxN W H dir x y).1, i64 (nxN W H dir x y).2.1]]) (nxN W H dir x y).1 (nxN W H dir x y).2.1 (by rw [List.length_append, List.length_singleton]; omega) (by omega)
    simp only [G_flow_Follow_0, next_f W H cells cls rows cost dir hf hd h2, Option.bind_some, folN, Int.ofNat_eq_natCast, z, room16 (show l.length + 1 ≤ 100000 by omega), ih]
    cases (nxN W H dir x y).2.2 <;> rfl
theorem follow_r (W H : Int) (cells : List (List AVal)) (hc : okCs cells) (cls : Int) (rows cost dir : List (List AVal)) (hfit : fitN W H cells cost dir = true) (h2 : okI dir) : ∀ (r m : Nat) (l : List (List AVal)) (x y : Int), l.length + r = cells.length → r + 1 < m → G_skirmishref17_Follow_0 cls rows cost dir W H cells m l (nxN W H dir x y).2.2 x y (nxN W H dir x y).1 (nxN W H dir x y).2.1 = some (folN W H dir r l x y)
  | 0, m, l, x, y, h1, h3 => by
    obtain ⟨m, rfl⟩ : ∃ q, m = q + 1 := ⟨m - 1, by omega⟩
    have h := hfit
    unfold fitN at h
    simp only [Bool.and_eq_true, beq_iff_eq] at h
    have hs := fmd_small (vmap_fmd h.1)
    have z : (((l ++ [[i64 (nxN W H dir x y).1, i64 (nxN W H dir x y).2.1]]).length : Nat) : Int) > ((cells.length : Nat) : Int) := by rw [List.length_append, List.length_singleton]; omega
    simp only [G_skirmishref17_Follow_0, folN, Int.ofNat_eq_natCast, area h.1, z, decide_true, cond_true, room16 (show l.length + 1 ≤ 100000 by omega)]
    cases (nxN W H dir x y).2.2 <;> rfl
  | r + 1, m, l, x, y, h1, h3 => by
    obtain ⟨m, rfl⟩ : ∃ q, m = q + 1 := ⟨m - 1, by omega⟩
    have h := hfit
    unfold fitN at h
    simp only [Bool.and_eq_true, beq_iff_eq] at h
    have hs := fmd_small (vmap_fmd h.1)
    have z : ¬ (((l ++ [[i64 (nxN W H dir x y).1, i64 (nxN W H dir x y).2.1]]).length : Nat) : Int) > ((cells.length : Nat) : Int) := by rw [List.length_append, List.length_singleton]; omega
    have ih := follow_r W H cells hc cls rows cost dir hfit h2 r m (l ++ [[i64 (nxN W H dir x y).1, i64 (nxN W H dir x y).2.1]]) (nxN W H dir x y).1 (nxN W H dir x y).2.1 (by rw [List.length_append, List.length_singleton]; omega) (by omega)
    simp only [G_skirmishref17_Follow_0, folN, Int.ofNat_eq_natCast, area h.1, z, decide_false, cond_false, room16 (show l.length + 1 ≤ 100000 by omega), Next_r W H cells hc cls rows cost dir h2, hfit, cond_true, Option.bind_some, ih]
    cases (nxN W H dir x y).2.2 <;> rfl
theorem nxN_in {W H : Int} {dir : List (List AVal)} {x y : Int} (h : (nxN W H dir x y).2.2 = true) : inn W H (nxN W H dir x y).1 (nxN W H dir x y).2.1 = true := by
  unfold nxN at h ⊢
  cases hi : inn W H x y with
  | false => rw [hi] at h; cases h
  | true =>
    rw [hi] at h
    simp only [cond_true] at h ⊢
    cases h1 : decide (cI (dir.getD (nm W x y) []) 0 < 0) with
    | true => rw [h1] at h; cases h
    | false =>
      rw [h1] at h
      simp only [cond_false] at h ⊢
      cases h2 : decide (cI (dir.getD (nm W x y) []) 0 > 7) with
      | true => rw [h2] at h; cases h
      | false =>
        rw [h2] at h
        simp only [cond_false] at h ⊢
        cases h3 : inn W H (stp x y (cI (dir.getD (nm W x y) []) 0)).1 (stp x y (cI (dir.getD (nm W x y) []) 0)).2 with
        | false => rw [h3] at h; cases h
        | true => exact h3
theorem okP_app {W H : Int} {n : Nat} (hf : fmd W H n = true) {l : List (List AVal)} {x y : Int} (h : okP l) (hi : inn W H x y = true) : okP (l ++ [[i64 x, i64 y]]) := by
  intro r hr
  rcases List.mem_append.1 hr with hr | hr
  · exact h r hr
  · rw [List.mem_singleton] at hr
    subst hr
    have r1 := ins_rng (ins_iff.2 ⟨hf, hi⟩ : ins W H n x y = true)
    refine ⟨rfl, ?_, ?_⟩
    · show rng x
      unfold rng; omega
    · show rng y
      unfold rng; omega
theorem folN_ok {W H : Int} {n : Nat} (hf : fmd W H n = true) (dir : List (List AVal)) : ∀ (r : Nat) (l : List (List AVal)) (x y : Int), okP l → inn W H x y = true → l.length + r = n → (folN W H dir r l x y).1 = true ∨ ((folN W H dir r l x y).1 = false ∧ okP (folN W H dir r l x y).2.1 ∧ (folN W H dir r l x y).2.1.length ≤ n ∧ inn W H (folN W H dir r l x y).2.2.1 (folN W H dir r l x y).2.2.2 = true)
  | 0, l, x, y, h1, h2, h3 => by
    unfold folN
    cases (nxN W H dir x y).2.2 with
    | true => exact .inl rfl
    | false => exact .inr ⟨rfl, h1, by simp only [cond_false]; omega, h2⟩
  | r + 1, l, x, y, h1, h2, h3 => by
    unfold folN
    cases hn : (nxN W H dir x y).2.2 with
    | true => exact folN_ok hf dir r _ _ _ (okP_app hf h1 (nxN_in hn)) (nxN_in hn) (by rw [List.length_append, List.length_singleton]; omega)
    | false => exact .inr ⟨rfl, h1, by simp only [cond_false]; omega, h2⟩
/-- The way to a goal. -/
def FO (W H : Int) (cells cost dir : List (List AVal)) (x y : Int) : List (List AVal) :=
  bif fitN W H cells cost dir && inn W H x y then
    bif (folN W H dir (cells.length - 1) [[i64 x, i64 y]] x y).1 then [] else
    bif (cI (cost.getD (nm W (folN W H dir (cells.length - 1) [[i64 x, i64 y]] x y).2.2.1 (folN W H dir (cells.length - 1) [[i64 x, i64 y]] x y).2.2.2) []) 0 != 0) then [] else (folN W H dir (cells.length - 1) [[i64 x, i64 y]] x y).2.1
  else []
theorem one_ok {W H : Int} {n : Nat} (hf : fmd W H n = true) {x y : Int} (hi : inn W H x y = true) : okP [[i64 x, i64 y]] := okP_app (l := []) hf (fun r hr => by cases hr) hi
theorem Follow_f (W H : Int) (cells : List (List AVal)) (hc : okCs cells) (cls : Int) (rows cost dir : List (List AVal)) (h1 : okI cost) (h2 : okI dir) (x y : Int) : F_flow_Follow cls rows cost dir W H cells x y = some (FO W H cells cost dir x y) := by
  simp only [F_flow_Follow, fits_f W H cells hc, in_g, Option.bind_some, FO]
  cases hfit : fitN W H cells cost dir with
  | false => rfl
  | true =>
    cases hi : inn W H x y with
    | false => rfl
    | true =>
      have h := hfit
      unfold fitN at h
      simp only [Bool.and_eq_true, beq_iff_eq] at h
      have hf := vmap_fmd h.1
      have hs := fmd_small hf
      have hin : ins W H cells.length x y = true := ins_iff.2 ⟨hf, hi⟩
      have nl := nm_lt hin
      have h0 := follow_f W H cells cls rows cost dir hf (by omega) h2 (cells.length - 1) FU [[i64 x, i64 y]] x y (by simp only [List.length_singleton]; omega) (by unfold FU; omega)
      simp only [Bool.not_true, cond_false, Bool.and_self, cond_true, h0, Option.bind_some]
      rcases folN_ok hf dir (cells.length - 1) [[i64 x, i64 y]] x y (one_ok hf hi) hi (by simp only [List.length_singleton]; omega) with q | ⟨q1, q2, q3, q4⟩
      · simp only [q, cond_true]
      · have hin2 : ins W H cells.length (folN W H dir (cells.length - 1) [[i64 x, i64 y]] x y).2.2.1 (folN W H dir (cells.length - 1) [[i64 x, i64 y]] x y).2.2.2 = true := ins_iff.2 ⟨hf, q4⟩
        have hx := (ins_idx hin2).1
        have nl2 := nm_lt hin2
        rw [← nl2.2] at hx
        have l1 : (0 : Int) ≤ (nm W (folN W H dir (cells.length - 1) [[i64 x, i64 y]] x y).2.2.1 (folN W H dir (cells.length - 1) [[i64 x, i64 y]] x y).2.2.2 : Nat) := by omega
        obtain ⟨g1, g2⟩ := okI_get h1 (show nm W (folN W H dir (cells.length - 1) [[i64 x, i64 y]] x y).2.2.1 (folN W H dir (cells.length - 1) [[i64 x, i64 y]] x y).2.2.2 < cost.length by omega)
        simp only [q1, cond_false, index_g, hx, Option.bind_some, l1, decide_true, cond_true, Int.toNat_natCast, g1, g2]
        cases (cI (cost.getD (nm W (folN W H dir (cells.length - 1) [[i64 x, i64 y]] x y).2.2.1 (folN W H dir (cells.length - 1) [[i64 x, i64 y]] x y).2.2.2) []) 0 != 0) <;> rfl
theorem Follow_r (W H : Int) (cells : List (List AVal)) (hc : okCs cells) (cls : Int) (rows cost dir : List (List AVal)) (h1 : okI cost) (h2 : okI dir) (x y : Int) : F_skirmishref17_Follow cls rows cost dir W H cells x y = some (FO W H cells cost dir x y) := by
  simp only [F_skirmishref17_Follow, fits_r W H cells hc, in_r, Option.bind_some, FO]
  cases hfit : fitN W H cells cost dir with
  | false => rfl
  | true =>
    cases hi : inn W H x y with
    | false => rfl
    | true =>
      have h := hfit
      unfold fitN at h
      simp only [Bool.and_eq_true, beq_iff_eq] at h
      have hf := vmap_fmd h.1
      have hs := fmd_small hf
      have hin : ins W H cells.length x y = true := ins_iff.2 ⟨hf, hi⟩
      have nl := nm_lt hin
      have h0 := follow_r W H cells hc cls rows cost dir hfit h2 (cells.length - 1) FU [[i64 x, i64 y]] x y (by simp only [List.length_singleton]; omega) (by unfold FU; omega)
      simp only [Bool.not_true, cond_false, Bool.and_self, cond_true, Next_r W H cells hc cls rows cost dir h2, hfit, h0, Option.bind_some]
      rcases folN_ok hf dir (cells.length - 1) [[i64 x, i64 y]] x y (one_ok hf hi) hi (by simp only [List.length_singleton]; omega) with q | ⟨q1, q2, q3, q4⟩
      · simp only [q, cond_true]
      · have hin2 : ins W H cells.length (folN W H dir (cells.length - 1) [[i64 x, i64 y]] x y).2.2.1 (folN W H dir (cells.length - 1) [[i64 x, i64 y]] x y).2.2.2 = true := ins_iff.2 ⟨hf, q4⟩
        have nl2 := nm_lt hin2
        have hx : wr (wr ((folN W H dir (cells.length - 1) [[i64 x, i64 y]] x y).2.2.2 * W) + (folN W H dir (cells.length - 1) [[i64 x, i64 y]] x y).2.2.1) = ((nm W (folN W H dir (cells.length - 1) [[i64 x, i64 y]] x y).2.2.1 (folN W H dir (cells.length - 1) [[i64 x, i64 y]] x y).2.2.2 : Nat) : Int) := by rw [wr_mul hin2, nl2.2]
        have l1 : (0 : Int) ≤ (nm W (folN W H dir (cells.length - 1) [[i64 x, i64 y]] x y).2.2.1 (folN W H dir (cells.length - 1) [[i64 x, i64 y]] x y).2.2.2 : Nat) := by omega
        obtain ⟨g1, g2⟩ := okI_get h1 (show nm W (folN W H dir (cells.length - 1) [[i64 x, i64 y]] x y).2.2.1 (folN W H dir (cells.length - 1) [[i64 x, i64 y]] x y).2.2.2 < cost.length by omega)
        simp only [q1, cond_false, hx, l1, decide_true, cond_true, Int.toNat_natCast, g1, Option.bind_some, g2]
        cases (cI (cost.getD (nm W (folN W H dir (cells.length - 1) [[i64 x, i64 y]] x y).2.2.1 (folN W H dir (cells.length - 1) [[i64 x, i64 y]] x y).2.2.2) []) 0 != 0) <;> rfl
theorem FO_ok {W H : Int} {cells cost dir : List (List AVal)} (x y : Int) : okP (FO W H cells cost dir x y) ∧ (FO W H cells cost dir x y).length ≤ 1024 := by
  have nil : okP [] ∧ ([] : List (List AVal)).length ≤ 1024 := ⟨fun r hr => (by cases hr), by simp⟩
  unfold FO
  cases hg : (fitN W H cells cost dir && inn W H x y) with
  | false => exact nil
  | true =>
    simp only [Bool.and_eq_true] at hg
    have h := hg.1
    unfold fitN at h
    simp only [Bool.and_eq_true, beq_iff_eq] at h
    have hf := vmap_fmd h.1
    have hs := fmd_small hf
    have nl := nm_lt (ins_iff.2 ⟨hf, hg.2⟩ : ins W H cells.length x y = true)
    simp only [cond_true]
    rcases folN_ok hf dir (cells.length - 1) [[i64 x, i64 y]] x y (one_ok hf hg.2) hg.2 (by simp only [List.length_singleton]; omega) with q | ⟨q1, q2, q3, q4⟩
    · rw [q]
      exact nil
    · rw [q1]
      simp only [cond_false]
      cases (cI (cost.getD (nm W (folN W H dir (cells.length - 1) [[i64 x, i64 y]] x y).2.2.1 (folN W H dir (cells.length - 1) [[i64 x, i64 y]] x y).2.2.2) []) 0 != 0) with
      | true => exact nil
      | false => exact ⟨q2, by simp only [cond_false]; omega⟩
end Go.Proofs.YteiniiakpdijmaaDoor.AI
