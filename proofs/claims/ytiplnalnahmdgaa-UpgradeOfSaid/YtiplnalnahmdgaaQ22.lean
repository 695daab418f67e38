/- What the functions of chapter 22 (upgrade) answer: bonuses. -/
import Derived.Test.YtiplnalnahmdgaaP
import Derived.Test.YtiplnalnahmdgaaLp
namespace Go.Proofs.Ytiplnalnahmdgaa.AI
open Go.RowKit
set_option linter.unusedVariables false
set_option linter.unusedSimpArgs false

/-! ### Is a name in a list? -/
theorem has_r (l : List (List AVal)) (s : ByteArray) (hl : okR [.str] l) (hn : l.length ≤ maxLen) : F_skirmishref22_has l s = some (hasN l s) := by
  have hm : maxLen ≤ 9223372036854775807 := by simp [maxLen]
  have key := run_loop (fun m (_ : Unit) i => G_skirmishref22_has_0 l s m i) (hasF l s) (fun _ => false) l.length (fun _ _ => True)
    (fun m k _ hk _ => by
      obtain ⟨q1, q2, _⟩ := okR_get hl hk
      have d1 : (k : Int) < l.length := by omega
      have d2 : (0 : Int) ≤ k := by omega
      have e : hasF l s k () = bif seq (cS (l.getD k []) 0) s then .inr true else .inl () := rfl
      simp only [G_skirmishref22_has_0, Int.ofNat_eq_natCast, d1, d2, decide_true, cond_true, Int.toNat_natCast, q1, q2, Option.bind_some, wr_next hk (by omega), e]
      show (bif seq (cS (l.getD k []) 0) s then _ else _) = _
      cases seq (cS (l.getD k []) 0) s <;> rfl)
    (fun _ _ _ _ _ _ => trivial)
    (fun m _ _ => by
      have d1 : ¬ (l.length : Int) < l.length := by omega
      simp only [G_skirmishref22_has_0, Int.ofNat_eq_natCast, d1, decide_false, cond_false])
    l.length FU 0 () (by omega) (by unfold FU; omega) trivial
  have key' : G_skirmishref22_has_0 l s FU 0 = some (hasN l s) := key.trans (congrArg some (iter_has0 l s))
  simp only [F_skirmishref22_has, key', Option.bind_some]
  cases hasN l s <;> rfl
theorem has_9 (l : List (List AVal)) (s : ByteArray) (hl : okR [.str] l) (hn : l.length ≤ maxLen) : F_skirmishref09_Has l s = some (hasN l s) := by
  have hm : maxLen ≤ 9223372036854775807 := by simp [maxLen]
  have key := run_loop (fun m (_ : Unit) i => G_skirmishref09_Has_0 l s m i) (hasF l s) (fun _ => false) l.length (fun _ _ => True)
    (fun m k _ hk _ => by
      obtain ⟨q1, q2, _⟩ := okR_get hl hk
      have d1 : (k : Int) < l.length := by omega
      have d2 : (0 : Int) ≤ k := by omega
      have e : hasF l s k () = bif seq (cS (l.getD k []) 0) s then .inr true else .inl () := rfl
      simp only [G_skirmishref09_Has_0, Int.ofNat_eq_natCast, d1, d2, decide_true, cond_true, Int.toNat_natCast, q1, q2, Option.bind_some, wr_next hk (by omega), e]
      show (bif seq (cS (l.getD k []) 0) s then _ else _) = _
      cases seq (cS (l.getD k []) 0) s <;> rfl)
    (fun _ _ _ _ _ _ => trivial)
    (fun m _ _ => by
      have d1 : ¬ (l.length : Int) < l.length := by omega
      simp only [G_skirmishref09_Has_0, Int.ofNat_eq_natCast, d1, decide_false, cond_false])
    l.length FU 0 () (by omega) (by unfold FU; omega) trivial
  have key' : G_skirmishref09_Has_0 l s FU 0 = some (hasN l s) := key.trans (congrArg some (iter_has0 l s))
  simp only [F_skirmishref09_Has, key', Option.bind_some]
  cases hasN l s <;> rfl
def idxF (l : List (List AVal)) (s : ByteArray) (k : Nat) (_ : Unit) : Unit ⊕ (Bool × Int) := bif seq (cS (l.getD k []) 0) s then .inr (true, (k : Int)) else .inl ()
theorem iter_idx (l : List (List AVal)) (s : ByteArray) : ∀ r k, k + r = l.length → ∃ z : Int, 0 ≤ z ∧ iter (idxF l s) (fun _ => (false, (0 : Int))) r k () = ((l.drop k).any fun r => seq (cS r 0) s, z)
  | 0, k, h => ⟨0, by omega, by rw [List.drop_eq_nil_of_le (by omega)]; rfl⟩
  | r + 1, k, h => by
    obtain ⟨z, hz, ih⟩ := iter_idx l s r (k + 1) (by omega)
    have e : idxF l s k () = bif seq (cS (l.getD k []) 0) s then .inr (true, (k : Int)) else .inl () := rfl
    unfold iter
    rw [any_drop (d := []) (by omega), e]
    cases seq (cS (l.getD k []) 0) s with
    | true => exact ⟨k, by omega, rfl⟩
    | false => exact ⟨z, hz, ih⟩
theorem contains_g (l : List (List AVal)) (s : ByteArray) (hl : okR [.str] l) (hn : l.length ≤ maxLen) : F_slices_Contains_string l s = some (hasN l s) := by
  have hm : maxLen ≤ 9223372036854775807 := by simp [maxLen]
  have key := run_loop (fun m (_ : Unit) i => G_slices_Index_string_0 l s l.length m i) (idxF l s) (fun _ => (false, (0 : Int))) l.length (fun _ _ => True)
    (fun m k _ hk _ => by
      obtain ⟨q1, q2, _⟩ := okR_get hl hk
      have d1 : (k : Int) < l.length := by omega
      have d2 : (0 : Int) ≤ k := by omega
      have e : idxF l s k () = bif seq (cS (l.getD k []) 0) s then .inr (true, (k : Int)) else .inl () := rfl
      simp only [G_slices_Index_string_0, d1, d2, decide_true, cond_true, Int.toNat_natCast, q1, q2, Option.bind_some, wr_next hk (by omega), e]
      show (bif seq s (cS (l.getD k []) 0) then _ else _) = _
      rw [seq_comm]
      cases seq (cS (l.getD k []) 0) s <;> rfl)
    (fun _ _ _ _ _ _ => trivial)
    (fun m _ _ => by
      have d1 : ¬ (l.length : Int) < l.length := by omega
      simp only [G_slices_Index_string_0, d1, decide_false, cond_false])
    l.length FU 0 () (by omega) (by unfold FU; omega) trivial
  obtain ⟨z, hz, hi⟩ := iter_idx l s l.length 0 (by omega)
  rw [hi] at key
  have key' : G_slices_Index_string_0 l s l.length FU 0 = some (hasN l s, z) := key
  simp only [F_slices_Contains_string, F_slices_Index_string, Int.ofNat_eq_natCast, key', Option.bind_some]
  cases hasN l s with
  | true =>
    have hz' : z ≥ 0 := hz
    simp only [cond_true, Option.bind_some, hz', decide_true]
  | false => rfl

/-! ### Bonuses -/
abbrev techT : List LT := [LT.str, (LT.sl 9 1), (LT.int IntKind.i64), (LT.int IntKind.i64), (LT.int IntKind.i64), LT.str, (LT.int IntKind.i64), (LT.int IntKind.i64)]
/-- A number within the stats' range. -/
def cl (n : Int) : Int := max (-100000) (min n 100000)
theorem cl_in (n : Int) : -100000 ≤ cl n ∧ cl n ≤ 100000 := by unfold cl; omega
/-- What a technology adds. -/
def tadd (has : ByteArray → Bool) (u : ByteArray) (st : Int) (r : List AVal) : Int := bif seq (cS r 5) u && ((cI r 6 == st) && has (cS r 0)) then cl (cI r 7) else 0
def sumN (has : ByteArray → Bool) (u : ByteArray) (st : Int) (ts : List (List AVal)) (k : Nat) : Int := ((ts.take k).map (tadd has u st)).foldl (· + ·) 0
theorem sumN_zero (has : ByteArray → Bool) (u : ByteArray) (st : Int) (ts : List (List AVal)) : sumN has u st ts 0 = 0 := rfl
theorem sumN_succ (has : ByteArray → Bool) (u : ByteArray) (st : Int) (ts : List (List AVal)) {k : Nat} (hk : k < ts.length) : sumN has u st ts (k + 1) = sumN has u st ts k + tadd has u st (ts.getD k []) := by
  unfold sumN
  rw [List.take_add_one, List.getElem?_eq_getElem hk, List.map_append, List.foldl_append]
  simp [List.getD, hk]
theorem tadd_in (has : ByteArray → Bool) (u : ByteArray) (st : Int) (r : List AVal) : -100000 ≤ tadd has u st r ∧ tadd has u st r ≤ 100000 := by
  unfold tadd
  have := cl_in (cI r 7)
  cases seq (cS r 5) u && ((cI r 6 == st) && has (cS r 0)) <;> simp <;> omega
theorem sumN_in (has : ByteArray → Bool) (u : ByteArray) (st : Int) (ts : List (List AVal)) : ∀ k, k ≤ ts.length → -(100000 * (k : Int)) ≤ sumN has u st ts k ∧ sumN has u st ts k ≤ 100000 * (k : Int)
  | 0, _ => by rw [sumN_zero]; omega
  | k + 1, h => by
    have ih := sumN_in has u st ts k (by omega)
    have ht := tadd_in has u st (ts.getD k [])
    rw [sumN_succ has u st ts (by omega)]
    simp only [Int.natCast_add, Int.natCast_one]
    omega
/-- A loop that adds up. -/
theorem sum_loop (G : Nat → Int → Int → Option Int) (has : ByteArray → Bool) (u : ByteArray) (st : Int) (ts : List (List AVal)) (hts : okR techT ts) (hn : ts.length ≤ 1000000)
    (hstep : ∀ m k s, k < ts.length → -100000000000 ≤ s ∧ s ≤ 100000000000 → G (m + 1) s (k : Int) = G m (s + tadd has u st (ts.getD k [])) ((k + 1 : Nat) : Int))
    (hexit : ∀ m s, G (m + 1) s (ts.length : Int) = some s) : G FU 0 0 = some (sumN has u st ts ts.length) := by
  have key := run_loop (fun m s i => G m s i) (fun k s => .inl (s + tadd has u st (ts.getD k []))) id ts.length (fun k s => s = sumN has u st ts k)
    (fun m k s hk hi => by
      have hb := sumN_in has u st ts k (by omega)
      exact hstep m k s hk (by rw [hi]; omega))
    (fun k s s' hk hi h => by
      simp only [Sum.inl.injEq] at h
      rw [sumN_succ has u st ts hk, ← h, hi])
    (fun m s _ => hexit m s) ts.length FU 0 0 (by omega) (by unfold FU; omega) rfl
  have hv := iter_inv (f := fun k (s : Int) => (.inl (s + tadd has u st (ts.getD k [])) : Int ⊕ Int)) (e := id) (fun t => t = sumN has u st ts ts.length) ts.length (fun k s => s = sumN has u st ts k)
    (fun k s s' hk hi h => by
      simp only [Sum.inl.injEq] at h
      rw [sumN_succ has u st ts hk, ← h, hi])
    (fun k s t hk hi h => by cases h) (fun s h => h) ts.length 0 0 (by omega) rfl
  exact key.trans (congrArg some hv)
theorem clamp_g (n lo hi : Int) : F_num_Clamp n lo hi = some (max lo (min n hi)) := by simp only [F_num_Clamp, maxI_eq, minI_eq]
theorem clamp_r (n lo hi : Int) : F_skirmishref01_Clamp n lo hi = some (max lo (min n hi)) := by simp only [F_skirmishref01_Clamp, maxI_eq, minI_eq]
theorem stat_g (us ws ts techs : List (List AVal)) (u : ByteArray) (st : Int) (hts : okR techT ts) (hn : ts.length ≤ 1000000) (hl : okR [.str] techs) (hm : techs.length ≤ maxLen) :
    F_upgrade_Stat us ws ts techs u st = some (sumN (hasN techs) u st ts ts.length) := by
  have key := sum_loop (fun m s i => G_upgrade_Stat_0 techs u st ts ts.length m s i) (hasN techs) u st ts hts hn
    (fun m k s hk hs => by
      obtain ⟨q1, q2, _⟩ := okR_get hts hk
      have d1 : (k : Int) < ts.length := by omega
      have d2 : (0 : Int) ≤ k := by omega
      have ht := tadd_in (hasN techs) u st (ts.getD k [])
      have hc := cl_in (cI (ts.getD k []) 7)
      have e1 : max (-100000) (min (cI (ts.getD k []) 7) 100000) = cl (cI (ts.getD k []) 7) := rfl
      simp only [G_upgrade_Stat_0, d1, d2, decide_true, cond_true, Int.toNat_natCast, q1, q2, Option.bind_some, wr_next hk (by omega), contains_g techs _ hl hm, clamp_g, e1]
      rw [wr_in (n := s + cl (cI (ts.getD k []) 7)) (by omega) (by omega)]
      show (bif seq (cS (ts.getD k []) 5) u then _ else _) = _
      unfold tadd
      cases seq (cS (ts.getD k []) 5) u <;> cases (cI (ts.getD k []) 6 == st) <;> cases hasN techs (cS (ts.getD k []) 0) <;> simp)
    (fun m s => by
      have d1 : ¬ (ts.length : Int) < ts.length := by omega
      simp only [G_upgrade_Stat_0, d1, decide_false, cond_false])
  have key' : G_upgrade_Stat_0 techs u st ts ts.length FU 0 0 = some (sumN (hasN techs) u st ts ts.length) := key
  simp only [F_upgrade_Stat, Int.ofNat_eq_natCast, key', Option.bind_some]
theorem stat_r (us ws ts techs : List (List AVal)) (u : ByteArray) (st : Int) (hts : okR techT ts) (hn : ts.length ≤ 1000000) (hl : okR [.str] techs) (hm : techs.length ≤ maxLen) :
    F_skirmishref22_Stat us ws ts techs u st = some (sumN (hasN techs) u st ts ts.length) := by
  have key := sum_loop (fun m s i => G_skirmishref22_Stat_0 techs u st ts m s i) (hasN techs) u st ts hts hn
    (fun m k s hk hs => by
      obtain ⟨q1, q2, _⟩ := okR_get hts hk
      have d1 : (k : Int) < ts.length := by omega
      have d2 : (0 : Int) ≤ k := by omega
      have ht := tadd_in (hasN techs) u st (ts.getD k [])
      have hc := cl_in (cI (ts.getD k []) 7)
      have e1 : max (-100000) (min (cI (ts.getD k []) 7) 100000) = cl (cI (ts.getD k []) 7) := rfl
      simp only [G_skirmishref22_Stat_0, Int.ofNat_eq_natCast, d1, d2, decide_true, cond_true, Int.toNat_natCast, q1, q2, Option.bind_some, wr_next hk (by omega), has_r techs _ hl hm, clamp_r, e1]
      rw [wr_in (n := s + cl (cI (ts.getD k []) 7)) (by omega) (by omega)]
      show (bif hasN techs (cS (ts.getD k []) 0) then (bif seq (cS (ts.getD k []) 5) u then _ else _) else _) = _
      unfold tadd
      cases seq (cS (ts.getD k []) 5) u <;> cases (cI (ts.getD k []) 6 == st) <;> cases hasN techs (cS (ts.getD k []) 0) <;> simp)
    (fun m s => by
      have d1 : ¬ (ts.length : Int) < ts.length := by omega
      simp only [G_skirmishref22_Stat_0, Int.ofNat_eq_natCast, d1, decide_false, cond_false])
  have key' : G_skirmishref22_Stat_0 techs u st ts FU 0 0 = some (sumN (hasN techs) u st ts ts.length) := key
  simp only [F_skirmishref22_Stat, key', Option.bind_some]

/-! ### Sizes -/
def huF (l : List (List AVal)) (k : Nat) (n : Int) : Int ⊕ Bool :=
  bif decide ((k : Int) > 100) then .inr true else bif decide (n + min ((cS (l.getD k []) 0).size : Int) 100000 > 20000) then .inr true else .inl (n + min ((cS (l.getD k []) 0).size : Int) 100000)
/-- Is a list of names larger than what is examined? -/
theorem huge_l (l : List (List AVal)) (hl : okR [.str] l) (hn : l.length ≤ maxLen) : ∃ b, F_skirmishlaw22_huge l = some b ∧ (b = false → l.length ≤ 101) := by
  have hm : maxLen ≤ 9223372036854775807 := by simp [maxLen]
  have key := run_loop (fun m n i => G_skirmishlaw22_huge_0 l m n i) (huF l) (fun _ => false) l.length (fun k n => 0 ≤ n ∧ n ≤ 20000)
    (fun m k n hk hi => by
      obtain ⟨q1, q2, _⟩ := okR_get hl hk
      have d1 : (k : Int) < l.length := by omega
      have d2 : (0 : Int) ≤ k := by omega
      have e : huF l k n = bif decide ((k : Int) > 100) then .inr true else bif decide (n + min ((cS (l.getD k []) 0).size : Int) 100000 > 20000) then .inr true else .inl (n + min ((cS (l.getD k []) 0).size : Int) 100000) := rfl
      have w : wr (n + min ((cS (l.getD k []) 0).size : Int) 100000) = n + min ((cS (l.getD k []) 0).size : Int) 100000 := wr_in (by omega) (by omega)
      simp only [G_skirmishlaw22_huge_0, Int.ofNat_eq_natCast, d1, d2, decide_true, cond_true, Int.toNat_natCast, q1, q2, Option.bind_some, wr_next hk (by omega), minI_eq, w, e]
      cases decide ((k : Int) > 100) <;> cases decide (n + min ((cS (l.getD k []) 0).size : Int) 100000 > 20000) <;> rfl)
    (fun k n n' hk hi h => by
      unfold huF at h
      cases h1 : decide ((k : Int) > 100) with
      | true => rw [h1] at h; cases h
      | false =>
        rw [h1] at h
        cases h2 : decide (n + min ((cS (l.getD k []) 0).size : Int) 100000 > 20000) with
        | true => rw [h2] at h; cases h
        | false =>
          rw [h2] at h
          simp only [cond_false, Sum.inl.injEq] at h
          simp only [decide_eq_false_iff_not] at h2
          omega)
    (fun m n _ => by
      have d1 : ¬ (l.length : Int) < l.length := by omega
      simp only [G_skirmishlaw22_huge_0, Int.ofNat_eq_natCast, d1, decide_false, cond_false])
    l.length FU 0 0 (by omega) (by unfold FU; omega) ⟨by omega, by omega⟩
  have hv := iter_inv (f := huF l) (e := fun _ => false) (fun b => b = false → l.length ≤ 101) l.length (fun k _ => k ≤ 101)
    (fun k s s' hk hi h => by
      unfold huF at h
      by_cases h1 : (k : Int) > 100
      · rw [decide_eq_true h1] at h; cases h
      · omega)
    (fun k s t hk hi h => by
      unfold huF at h
      cases h1 : decide ((k : Int) > 100) with
      | true => rw [h1] at h; simp only [cond_true, Sum.inr.injEq] at h; rw [← h]; intro h; cases h
      | false =>
        rw [h1] at h
        cases h2 : decide (s + min ((cS (l.getD k []) 0).size : Int) 100000 > 20000) with
        | true => rw [h2] at h; simp only [cond_true, cond_false, Sum.inr.injEq] at h; rw [← h]; intro h; cases h
        | false => rw [h2] at h; cases h)
    (fun s hi _ => hi) l.length 0 0 (by omega) (by omega)
  have key' : G_skirmishlaw22_huge_0 l FU 0 0 = some (iter (huF l) (fun _ => false) l.length 0 0) := key
  generalize iter (huF l) (fun _ => false) l.length 0 0 = b at key' hv
  refine ⟨b, ?_, hv⟩
  simp only [F_skirmishlaw22_huge, key', Option.bind_some]
  cases b <;> rfl
end Go.Proofs.Ytiplnalnahmdgaa.AI
