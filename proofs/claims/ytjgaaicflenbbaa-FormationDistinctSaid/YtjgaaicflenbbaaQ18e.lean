/- Chapter 18: the places of a formation. -/
import Derived.Test.YtjgaaicflenbbaaQ18d
namespace Go.Proofs.Ytjgaaicflenbbaa.AI
open Go.RowKit
set_option linter.unusedVariables false
set_option linter.unusedSimpArgs false

theorem csq_least {q l : Int} (h0 : 0 ≤ q) (h1 : q ≤ 8796093022208) (hl0 : 0 ≤ l) (hl : l < csq q) : l * l < q := by
  obtain ⟨k1, k2, k3⟩ := isq_spec h0 (by omega)
  unfold csq at hl
  split at hl
  · have := Int.mul_le_mul (show l ≤ v0isq q by omega) (show l ≤ v0isq q by omega) hl0 k1
    omega
  · have := Int.mul_le_mul (show l ≤ v0isq q - 1 by omega) (show l ≤ v0isq q - 1 by omega) hl0 (by omega)
    have e : (v0isq q - 1) * (v0isq q - 1) = v0isq q * v0isq q - 2 * v0isq q + 1 := by grind
    omega
theorem ceil_g (n : Int) (h0 : 0 ≤ n) (h1 : n ≤ 8796093022208) : F_formation_ceil n = some (csq n) := by
  obtain ⟨k1, k2, k3⟩ := isq_spec h0 (by omega)
  obtain ⟨j1, j2, _⟩ := csq_spec h0 h1
  have := sq_nonneg' (v0isq n)
  simp only [F_formation_ceil, isqrt_g n (by omega), Option.bind_some]
  rw [wr_in (n := v0isq n * v0isq n) (by omega) (by omega), wr_in (n := v0isq n + 1) (by omega) (by omega)]
  unfold csq
  by_cases h : v0isq n * v0isq n < n
  · simp only [h, decide_true, cond_true, if_true]
  · simp only [h, decide_false, cond_false, if_false]
/-- A search by squares. -/
theorem sq_step (n l : Int) (h0 : 0 ≤ n) (h1 : n ≤ 8796093022208) (hl : 0 ≤ l) (hc : l ≤ csq n) : decide (wr (l * l) < n) = decide (l < csq n) ∧ (l < csq n → wr (l + 1) = l + 1) := by
  obtain ⟨j1, j2, j3, j4, j5⟩ := csq_spec h0 h1
  have k1 := mul_bound (a := l) (b := l) (A := 4194305) (B := 4194305) (by omega) (by omega) (by omega) (by omega)
  refine ⟨?_, fun _ => wr_in (by omega) (by omega)⟩
  rw [wr_in (n := l * l) (by omega) (by omega)]
  refine decide_eq_decide.2 ⟨fun h => ?_, fun h => csq_least h0 h1 hl h⟩
  rcases Int.lt_or_le l (csq n) with h' | h'
  · exact h'
  · have : l = csq n := by omega
    subst this
    omega
theorem length_G (n : Int) (h0 : 0 ≤ n) (h1 : n ≤ 8796093022208) : ∀ (m r : Nat) (l : Int), 0 ≤ l → l + r = csq n → r < m → G_skirmishref18_length_0 n m l = some (csq n)
  | 0, r, l, h2, h3, h4 => by omega
  | m + 1, 0, l, h2, h3, h4 => by
    obtain ⟨e1, e2⟩ := sq_step n l h0 h1 h2 (by omega)
    simp only [G_skirmishref18_length_0, e1, show ¬ l < csq n by omega, decide_false, cond_false]
    rw [show l = csq n by omega]
  | m + 1, r + 1, l, h2, h3, h4 => by
    obtain ⟨e1, e2⟩ := sq_step n l h0 h1 h2 (by omega)
    simp only [G_skirmishref18_length_0, e1, show l < csq n by omega, decide_true, cond_true, e2 (by omega)]
    exact length_G n h0 h1 m r (l + 1) (by omega) (by omega) (by omega)
theorem length_r (n : Int) (h0 : 0 ≤ n) (h1 : n ≤ 8796093022208) : F_skirmishref18_length n = some (csq n) := by
  obtain ⟨j1, j2, j3, j4, j5⟩ := csq_spec h0 h1
  simp only [F_skirmishref18_length, length_G n h0 h1 FU (csq n).toNat 0 (by omega) (by omega) (by unfold FU; omega), Option.bind_some]
theorem row_G (n : Int) (h0 : 0 ≤ n) (h1 : n ≤ 8796093022208) : ∀ (m r : Nat) (l : Int), 0 ≤ l → l + r = csq n → r < m → G_formation_row_0 n m l = some (csq n)
  | 0, r, l, h2, h3, h4 => by omega
  | m + 1, 0, l, h2, h3, h4 => by
    obtain ⟨e1, e2⟩ := sq_step n l h0 h1 h2 (by omega)
    simp only [G_formation_row_0, e1, show ¬ l < csq n by omega, decide_false, cond_false]
    rw [show l = csq n by omega]
  | m + 1, r + 1, l, h2, h3, h4 => by
    obtain ⟨e1, e2⟩ := sq_step n l h0 h1 h2 (by omega)
    simp only [G_formation_row_0, e1, show l < csq n by omega, decide_true, cond_true, e2 (by omega)]
    exact row_G n h0 h1 m r (l + 1) (by omega) (by omega) (by omega)
theorem width_G (n : Int) (h0 : 0 ≤ n) (h1 : n ≤ 8796093022208) : ∀ (m r : Nat) (l : Int), 0 ≤ l → l + r = csq n → r < m → G_skirmishref18_width_0 n m l = some (csq n)
  | 0, r, l, h2, h3, h4 => by omega
  | m + 1, 0, l, h2, h3, h4 => by
    obtain ⟨e1, e2⟩ := sq_step n l h0 h1 h2 (by omega)
    simp only [G_skirmishref18_width_0, e1, show ¬ l < csq n by omega, decide_false, cond_false]
    rw [show l = csq n by omega]
  | m + 1, r + 1, l, h2, h3, h4 => by
    obtain ⟨e1, e2⟩ := sq_step n l h0 h1 h2 (by omega)
    simp only [G_skirmishref18_width_0, e1, show l < csq n by omega, decide_true, cond_true, e2 (by omega)]
    exact width_G n h0 h1 m r (l + 1) (by omega) (by omega) (by omega)
theorem csq_pos1 {n : Int} (h0 : 1 ≤ n) (h1 : n ≤ 8796093022208) : 1 ≤ csq n := by
  obtain ⟨j1, j2, j3, j4, j5⟩ := csq_spec (q := n) (by omega) h1
  rcases Int.lt_or_le 0 (csq n) with h | h
  · omega
  · have : csq n = 0 := by omega
    rw [this] at j3
    omega
/-- The width of a row. -/
def wid (kind n i : Int) : Int := if kind = 1 then 8 else if kind = 2 then 2 else if kind = 4 then 2 * i + 1 else csq n
theorem wid_pos (kind n i : Int) (hn : 1 ≤ n ∧ n ≤ 64) (hi : 0 ≤ i) : 1 ≤ wid kind n i := by
  have := csq_pos1 (n := n) (by omega) (by omega)
  unfold wid
  split
  · omega
  split
  · omega
  split <;> omega
theorem row_g (kind n i : Int) (hk : 1 ≤ kind ∧ kind ≤ 4) (hn : 1 ≤ n ∧ n ≤ 64) (hi : 0 ≤ i ∧ i ≤ 64) : F_formation_row kind n i = some (wid kind n i) := by
  obtain ⟨j1, j2, j3, j4, j5⟩ := csq_spec (q := n) (by omega) (by omega)
  have h3 := row_G n (by omega) (by omega) FU (csq n).toNat 0 (by omega) (by omega) (by unfold FU; omega)
  simp only [F_formation_row, h3, Option.bind_some]
  rw [wr_in (n := 2 * i) (by omega) (by omega), wr_in (n := 2 * i + 1) (by omega) (by omega)]
  have : kind = 1 ∨ kind = 2 ∨ kind = 3 ∨ kind = 4 := by omega
  rcases this with rfl | rfl | rfl | rfl <;> rfl
theorem width_r (kind n i : Int) (hk : 1 ≤ kind ∧ kind ≤ 4) (hn : 1 ≤ n ∧ n ≤ 64) (hi : 0 ≤ i ∧ i ≤ 64) : F_skirmishref18_width kind n i = some (wid kind n i) := by
  obtain ⟨j1, j2, j3, j4, j5⟩ := csq_spec (q := n) (by omega) (by omega)
  have j6 := csq_pos1 (n := n) (by omega) (by omega)
  have h3 := width_G n (by omega) (by omega) FU (csq n - 1).toNat 1 (by omega) (by omega) (by unfold FU; omega)
  simp only [F_skirmishref18_width, h3, Option.bind_some]
  rw [wr_in (n := 2 * i) (by omega) (by omega), wr_in (n := 2 * i + 1) (by omega) (by omega)]
  have : kind = 1 ∨ kind = 2 ∨ kind = 3 ∨ kind = 4 := by omega
  rcases this with rfl | rfl | rfl | rfl <;> rfl
theorem row_bad (kind n i : Int) (hk : ¬ (1 ≤ kind ∧ kind ≤ 4)) : F_formation_row kind n i = some 0 := by
  have e1 : (kind == 1) = false := by simp; omega
  have e2 : (kind == 2) = false := by simp; omega
  have e3 : (kind == 3) = false := by simp; omega
  have e4 : (kind == 4) = false := by simp; omega
  simp only [F_formation_row, e1, e2, e3, e4, cond_false]

/-! ### A place -/
def posN (ax ay fx fy s z : Int) (c i j : Nat) : Int × Int :=
  let t1 := partN (- nr fy) (nr fx) ((2 * j - (c - 1)) * s) (2 * z)
  let t2 := partN fx fy ((0 - i) * s) z
  (nr (nr (nr (nr ax + nr t1.1)) + nr t2.1), nr (nr (nr (nr ay + nr t1.2)) + nr t2.2))
def sP (ax ay fx fy s z : Int) (t : Nat × Nat × Nat) : List AVal := [i64 (posN ax ay fx fy s z t.1 t.2.1 t.2.2).1, i64 (posN ax ay fx fy s z t.1 t.2.1 t.2.2).2]
theorem sP_ok (ax ay fx fy s z : Int) (T : List (Nat × Nat × Nat)) : okV (T.map (sP ax ay fx fy s z)) := by
  intro r hr
  obtain ⟨q, _, rfl⟩ := List.mem_map.1 hr
  rfl
theorem arith1 (s : Int) (hs : 0 ≤ s ∧ s ≤ 1024) (c j : Nat) (hc : c ≤ 64) (hj : j ≤ 64) : wr (wr (wr (2 * (j : Int)) - wr ((c : Int) - 1)) * s) = (2 * j - (c - 1)) * s := by
  have := mul_bound (a := 2 * (j : Int) - (c - 1)) (b := s) (A := 200) (B := 1024) (by omega) (by omega) (by omega) (by omega)
  rw [wr_in (n := 2 * (j : Int)) (by omega) (by omega), wr_in (n := (c : Int) - 1) (by omega) (by omega), wr_in (n := 2 * (j : Int) - (c - 1)) (by omega) (by omega), wr_in (by omega) (by omega)]
theorem arith2 (s : Int) (hs : 0 ≤ s ∧ s ≤ 1024) (i : Nat) (hi : i ≤ 64) : wr (wr (0 - (i : Int)) * s) = (0 - i) * s := by
  have := mul_bound (a := 0 - (i : Int)) (b := s) (A := 200) (B := 1024) (by omega) (by omega) (by omega) (by omega)
  rw [wr_in (n := 0 - (i : Int)) (by omega) (by omega), wr_in (by omega) (by omega)]
theorem step_T {α β : Type} (f : α → β) (T : List α) (a : α) : T.map f ++ [f a] = (T ++ [a]).map f := by simp
theorem slots1_g (ax ay fx fy s z : Int) (hs : 0 ≤ s ∧ s ≤ 1024) (hz : 0 ≤ z ∧ z ≤ 4194305) (c i : Nat) (hc : c ≤ 64) (hi : i ≤ 64) : ∀ (m r j : Nat) (T : List (Nat × Nat × Nat)), j + r = c → r < m → T.length + r ≤ 64 →
    G_formation_Slots_1 z s i c c ax ay fx fy m (T.map (sP ax ay fx fy s z)) j = some ((T ++ (List.range' j r).map fun j => (c, i, j)).map (sP ax ay fx fy s z))
  | 0, r, j, T, h1, h2, h3 => by omega
  | m + 1, 0, j, T, h1, h2, h3 => by
    have : ¬ ((j : Int) < c) := by omega
    simp only [G_formation_Slots_1, this, decide_false, cond_false, List.range'_zero, List.map_nil, List.append_nil]
  | m + 1, r + 1, j, T, h1, h2, h3 => by
    have hj : (j : Int) < c := by omega
    have hr : roomOk ((T.map (sP ax ay fx fy s z)).length + 1) 16 = true := by simp [roomOk]; omega
    have e := step_T (sP ax ay fx fy s z) T (c, i, j)
    simp only [G_formation_Slots_1, hj, decide_true, cond_true, Side_v, Option.bind_some, arith1 s hs c j hc (by omega), arith2 s hs i hi, wr_in (n := 2 * z) (by omega) (by omega), Part_v, Add_v, hr, wr_succ j (by omega)]
    have ih := slots1_g ax ay fx fy s z hs hz c i hc hi m r (j + 1) (T ++ [(c, i, j)]) (by omega) (by omega) (by simp; omega)
    rw [← e] at ih
    refine Eq.trans ih ?_
    rw [List.range'_succ]
    simp only [List.map_cons, List.append_assoc, List.cons_append, List.nil_append]
theorem slots1_r (ax ay fx fy s z : Int) (hs : 0 ≤ s ∧ s ≤ 1024) (hz : 0 ≤ z ∧ z ≤ 4194305) (c i : Nat) (hc : c ≤ 64) (hi : i ≤ 64) : ∀ (m r j : Nat) (T : List (Nat × Nat × Nat)), j + r = c → r < m → T.length + r ≤ 64 →
    G_skirmishref18_Slots_1 s z i c ax ay fx fy m (T.map (sP ax ay fx fy s z)) j = some ((T ++ (List.range' j r).map fun j => (c, i, j)).map (sP ax ay fx fy s z))
  | 0, r, j, T, h1, h2, h3 => by omega
  | m + 1, 0, j, T, h1, h2, h3 => by
    have : ¬ ((j : Int) < c) := by omega
    simp only [G_skirmishref18_Slots_1, this, decide_false, cond_false, List.range'_zero, List.map_nil, List.append_nil]
  | m + 1, r + 1, j, T, h1, h2, h3 => by
    have hj : (j : Int) < c := by omega
    have hr : roomOk ((T.map (sP ax ay fx fy s z)).length + 1) 16 = true := by simp [roomOk]; omega
    have e := step_T (sP ax ay fx fy s z) T (c, i, j)
    simp only [G_skirmishref18_Slots_1, hj, decide_true, cond_true, Side_w, Option.bind_some, arith1 s hs c j hc (by omega), arith2 s hs i hi, wr_in (n := 2 * z) (by omega) (by omega), Part_w, Add_w, hr, wr_succ j (by omega)]
    have ih := slots1_r ax ay fx fy s z hs hz c i hc hi m r (j + 1) (T ++ [(c, i, j)]) (by omega) (by omega) (by simp; omega)
    rw [← e] at ih
    refine Eq.trans ih ?_
    rw [List.range'_succ]
    simp only [List.map_cons, List.append_assoc, List.cons_append, List.nil_append]

/-! ### All places -/
def cw (kind : Int) (n i t : Nat) : Nat := (min (wid kind n i) ((n : Int) - t)).toNat
def allT (kind : Int) (n : Nat) : Nat → List (Nat × Nat × Nat) → Nat → List (Nat × Nat × Nat)
  | 0, T, i => T
  | f + 1, T, i => if T.length < n then allT kind n f (T ++ (List.range' 0 (cw kind n i T.length)).map fun j => (cw kind n i T.length, i, j)) (i + 1) else T
theorem cw_in {kind : Int} {n i t : Nat} (hn : 1 ≤ n ∧ n ≤ 64) (ht : t < n) : ((cw kind n i t : Nat) : Int) = min (wid kind n i) ((n : Int) - t) ∧ 1 ≤ cw kind n i t ∧ cw kind n i t + t ≤ n := by
  have := wid_pos kind n i (by omega) (by omega)
  unfold cw
  omega
theorem slots0_g (ax ay fx fy s z : Int) (hs : 0 ≤ s ∧ s ≤ 1024) (hz : 0 ≤ z ∧ z ≤ 4194305) (kind : Int) (n : Nat) (hn : 1 ≤ n ∧ n ≤ 64) (hk : 1 ≤ kind ∧ kind ≤ 4) : ∀ (m f : Nat) (T : List (Nat × Nat × Nat)) (i : Nat), n ≤ T.length + f → f < m → T.length ≤ n → i ≤ T.length →
    G_formation_Slots_0 kind n z s ax ay fx fy m (T.map (sP ax ay fx fy s z)) i = some (false, (allT kind n f T i).map (sP ax ay fx fy s z), [])
  | 0, f, T, i, h1, h2, h3, h4 => by omega
  | m + 1, 0, T, i, h1, h2, h3, h4 => by
    have : ¬ ((T.length : Int) < n) := by omega
    simp only [G_formation_Slots_0, Int.ofNat_eq_natCast, List.length_map, this, decide_false, cond_false, allT]
  | m + 1, f + 1, T, i, h1, h2, h3, h4 => by
    by_cases hT : T.length < n
    · obtain ⟨c1, c2, c3⟩ := cw_in (kind := kind) (i := i) hn hT
      have hT' : (T.length : Int) < n := by omega
      have e1 : minI (wid kind n i) (wr ((n : Int) - T.length)) = (cw kind n i T.length : Nat) := by
        rw [wr_in (by omega) (by omega), minI_eq, c1]
      have e2 : ¬ ((cw kind n i T.length : Nat) : Int) < 1 := by omega
      have h5 := slots1_g ax ay fx fy s z hs hz (cw kind n i T.length) i (by omega) (by omega) FU (cw kind n i T.length) 0 T (by omega) (by unfold FU; omega) (by omega)
      have h5' : G_formation_Slots_1 z s i (cw kind n i T.length : Nat) (cw kind n i T.length : Nat) ax ay fx fy FU (T.map (sP ax ay fx fy s z)) 0 = some _ := h5
      simp only [G_formation_Slots_0, Int.ofNat_eq_natCast, List.length_map, hT', decide_true, cond_true, row_g kind n i hk (by omega) (by omega), Option.bind_some, e1, e2, decide_false, cond_false, h5', allT, hT, if_true, wr_succ i (by omega)]
      exact slots0_g ax ay fx fy s z hs hz kind n hn hk m f _ (i + 1) (by simp; omega) (by omega) (by simp; omega) (by simp; omega)
    · have : ¬ ((T.length : Int) < n) := by omega
      simp only [G_formation_Slots_0, Int.ofNat_eq_natCast, List.length_map, this, decide_false, cond_false, allT, hT, if_false]
theorem slots0_r (ax ay fx fy s z : Int) (hs : 0 ≤ s ∧ s ≤ 1024) (hz : 0 ≤ z ∧ z ≤ 4194305) (kind : Int) (n : Nat) (hn : 1 ≤ n ∧ n ≤ 64) (hk : 1 ≤ kind ∧ kind ≤ 4) : ∀ (m f : Nat) (T : List (Nat × Nat × Nat)) (i : Nat), n ≤ T.length + f → f < m → T.length ≤ n → i ≤ T.length →
    G_skirmishref18_Slots_0 kind n s z ax ay fx fy m (T.map (sP ax ay fx fy s z)) i = some ((allT kind n f T i).map (sP ax ay fx fy s z))
  | 0, f, T, i, h1, h2, h3, h4 => by omega
  | m + 1, 0, T, i, h1, h2, h3, h4 => by
    have : ¬ ((T.length : Int) < n) := by omega
    simp only [G_skirmishref18_Slots_0, Int.ofNat_eq_natCast, List.length_map, this, decide_false, cond_false, allT]
  | m + 1, f + 1, T, i, h1, h2, h3, h4 => by
    by_cases hT : T.length < n
    · obtain ⟨c1, c2, c3⟩ := cw_in (kind := kind) (i := i) hn hT
      have hT' : (T.length : Int) < n := by omega
      have e1 : minI (wid kind n i) (wr ((n : Int) - T.length)) = (cw kind n i T.length : Nat) := by
        rw [wr_in (by omega) (by omega), minI_eq, c1]
      have h5 := slots1_r ax ay fx fy s z hs hz (cw kind n i T.length) i (by omega) (by omega) FU (cw kind n i T.length) 0 T (by omega) (by unfold FU; omega) (by omega)
      have h5' : G_skirmishref18_Slots_1 s z i (cw kind n i T.length : Nat) ax ay fx fy FU (T.map (sP ax ay fx fy s z)) 0 = some _ := h5
      simp only [G_skirmishref18_Slots_0, Int.ofNat_eq_natCast, List.length_map, hT', decide_true, cond_true, width_r kind n i hk (by omega) (by omega), Option.bind_some, e1, h5', allT, hT, if_true, wr_succ i (by omega)]
      exact slots0_r ax ay fx fy s z hs hz kind n hn hk m f _ (i + 1) (by simp; omega) (by omega) (by simp; omega) (by simp; omega)
    · have : ¬ ((T.length : Int) < n) := by omega
      simp only [G_skirmishref18_Slots_0, Int.ofNat_eq_natCast, List.length_map, this, decide_false, cond_false, allT, hT, if_false]

/-! ### The facing -/
def nf (n : Int) : Int := max (-65536) (min n 65536)
def fac (x y : Int) : Int × Int := if nf x = 0 ∧ nf y = 0 then (0, -256) else (nf x, nf y)
def nsp (s : Int) : Int := max 0 (min s 1024)
theorem fac_in (x y : Int) : -65536 ≤ (fac x y).1 ∧ (fac x y).1 ≤ 65536 ∧ -65536 ≤ (fac x y).2 ∧ (fac x y).2 ≤ 65536 ∧ ((fac x y).1 ≠ 0 ∨ (fac x y).2 ≠ 0) := by
  unfold fac
  by_cases h : nf x = 0 ∧ nf y = 0
  · rw [if_pos h]
    simp only
    omega
  · rw [if_neg h]
    simp only
    refine ⟨?_, ?_, ?_, ?_, ?_⟩
    · unfold nf; omega
    · unfold nf; omega
    · unfold nf; omega
    · unfold nf; omega
    · omega
/-- The length of the facing. -/
def ln (x y : Int) : Int := csq (dotN (fac x y).1 (fac x y).2 (fac x y).1 (fac x y).2)
theorem dotN_nonneg (x y : Int) : 0 ≤ dotN x y x y ∧ dotN x y x y ≤ 8796093022208 := by
  have h1 := sq_nonneg' (nr x)
  have h2 := sq_nonneg' (nr y)
  have := dotN_in x y x y
  unfold dotN at *
  omega
def places (kind n sp fx fy : Int) : List (Nat × Nat × Nat) := if 1 ≤ n ∧ 1 ≤ kind ∧ kind ≤ 4 then allT kind (min n 64).toNat (min n 64).toNat [] 0 else []
def slotsN (kind n sp ax ay fx fy : Int) : List (List AVal) := (places kind n sp fx fy).map (sP ax ay (fac fx fy).1 (fac fx fy).2 (nsp sp) (ln fx fy))
theorem ln_in (x y : Int) : 0 ≤ ln x y ∧ ln x y ≤ 4194305 := by
  obtain ⟨j1, j2, j3, j4, j5⟩ := csq_spec (dotN_nonneg (fac x y).1 (fac x y).2).1 (dotN_nonneg (fac x y).1 (fac x y).2).2
  exact ⟨j4, j5⟩
theorem nsp_in (s : Int) : 0 ≤ nsp s ∧ nsp s ≤ 1024 := by unfold nsp; omega
theorem slots_tail (kind n s z ax ay x y : Int) (hs : 0 ≤ s ∧ s ≤ 1024) (hz : 0 ≤ z ∧ z ≤ 4194305) (hn : -9223372036854775808 ≤ n ∧ n ≤ 9223372036854775807) :
    ∃ b R q, G_formation_Slots_0 kind (min n 64) z s ax ay x y FU [] 0 = some (b, R, q) ∧ (bif b then [] else R) = (if 1 ≤ n ∧ 1 ≤ kind ∧ kind ≤ 4 then allT kind (min n 64).toNat (min n 64).toNat [] 0 else []).map (sP ax ay x y s z) := by
  by_cases h1 : 1 ≤ n
  · by_cases h2 : 1 ≤ kind ∧ kind ≤ 4
    · have := slots0_g ax ay x y s z hs hz kind (min n 64).toNat (by omega) h2 FU (min n 64).toNat [] 0 (by omega) (by unfold FU; omega) (by simp) (by simp)
      rw [show (((min n 64).toNat : Nat) : Int) = min n 64 by omega] at this
      refine ⟨_, _, _, this, ?_⟩
      rw [if_pos ⟨h1, h2.1, h2.2⟩]
      rfl
    · have e : G_formation_Slots_0 kind (min n 64) z s ax ay x y FU [] 0 = some (true, [], []) := by
        have : FU = (FU - 1) + 1 := by unfold FU; omega
        rw [this]
        have h3 : (0 : Int) < min n 64 := by omega
        have h4 : minI 0 (wr (min n 64 - 0)) < 1 := by rw [minI_eq]; omega
        simp only [G_formation_Slots_0, Int.ofNat_eq_natCast, List.length_nil, Int.natCast_zero, h3, decide_true, cond_true, row_bad kind _ _ h2, Option.bind_some, h4]
      exact ⟨_, _, _, e, by rw [if_neg (fun h => h2 ⟨h.2.1, h.2.2⟩)]; rfl⟩
  · have e : G_formation_Slots_0 kind (min n 64) z s ax ay x y FU [] 0 = some (false, [], []) := by
      have : FU = (FU - 1) + 1 := by unfold FU; omega
      rw [this]
      have h3 : ¬ (0 : Int) < min n 64 := by omega
      simp only [G_formation_Slots_0, Int.ofNat_eq_natCast, List.length_nil, Int.natCast_zero, h3, decide_false, cond_false]
    exact ⟨_, _, _, e, by rw [if_neg (fun h => h1 h.1)]; rfl⟩
theorem Slots_g (kind n sp ax ay fx fy : Int) (hn : -9223372036854775808 ≤ n ∧ n ≤ 9223372036854775807) : F_formation_Slots kind n sp ax ay fx fy = some (slotsN kind n sp ax ay fx fy) := by
  have hl := dotN_nonneg (fac fx fy).1 (fac fx fy).2
  obtain ⟨b, R, q, e1, e2⟩ := slots_tail kind n (nsp sp) (ln fx fy) ax ay (fac fx fy).1 (fac fx fy).2 (nsp_in sp) (ln_in fx fy) hn
  simp only [F_formation_Slots, F_num_Clamp, maxI_eq, minI_eq, Option.bind_some, Len2_v]
  by_cases h : nf fx = 0 ∧ nf fy = 0
  · have e3 : fac fx fy = (0, -256) := if_pos h
    have h' : (max (-65536) (min fx 65536) == 0 && max (-65536) (min fy 65536) == 0) = true := by
      simp only [Bool.and_eq_true, beq_iff_eq]; exact h
    rw [e3] at hl e1 e2
    unfold ln at e1 e2
    rw [e3] at e1 e2
    simp only at hl e1 e2
    have e1' : G_formation_Slots_0 kind (min n 64) (csq (dotN 0 (-256) 0 (-256))) (max 0 (min sp 1024)) ax ay 0 (-256) FU [] 0 = some (b, R, q) := e1
    simp only [h', cond_true, ceil_g _ hl.1 hl.2, Option.bind_some, e1', slotsN, places, ln, e3]
    rw [← e2]
    cases b <;> rfl
  · have e3 : fac fx fy = (nf fx, nf fy) := if_neg h
    have h' : (max (-65536) (min fx 65536) == 0 && max (-65536) (min fy 65536) == 0) = false := by
      rw [Bool.eq_false_iff]
      intro hh
      simp only [Bool.and_eq_true, beq_iff_eq] at hh
      exact h hh
    rw [e3] at hl e1 e2
    unfold ln at e1 e2
    rw [e3] at e1 e2
    simp only at hl e1 e2
    have hl1 : 0 ≤ dotN (max (-65536) (min fx 65536)) (max (-65536) (min fy 65536)) (max (-65536) (min fx 65536)) (max (-65536) (min fy 65536)) := hl.1
    have hl2 : dotN (max (-65536) (min fx 65536)) (max (-65536) (min fy 65536)) (max (-65536) (min fx 65536)) (max (-65536) (min fy 65536)) ≤ 8796093022208 := hl.2
    have e1' : G_formation_Slots_0 kind (min n 64) (csq (dotN (max (-65536) (min fx 65536)) (max (-65536) (min fy 65536)) (max (-65536) (min fx 65536)) (max (-65536) (min fy 65536)))) (max 0 (min sp 1024)) ax ay (max (-65536) (min fx 65536)) (max (-65536) (min fy 65536)) FU [] 0 = some (b, R, q) := e1
    simp only [h', cond_false, ceil_g _ hl1 hl2, Option.bind_some, e1', slotsN, places, ln, e3]
    rw [← e2]
    cases b <;> rfl
theorem ahead_r (x y : Int) : F_skirmishref18_ahead x y = some (fac x y) := by
  simp only [F_skirmishref18_ahead, F_skirmishref18_near, maxI_eq, minI_eq, Option.bind_some]
  rw [show max (-65536) (min x 65536) = nf x from rfl, show max (-65536) (min y 65536) = nf y from rfl]
  unfold fac
  by_cases h1 : nf x = 0
  · by_cases h2 : nf y = 0
    · simp [h1, h2]
    · have e : (nf y == 0) = false := by simpa using h2
      simp [h1, h2, e]
  · have e : (nf x == 0) = false := by simpa using h1
    simp [h1, e]
theorem Slots_r (kind n sp ax ay fx fy : Int) (hn : -9223372036854775808 ≤ n ∧ n ≤ 9223372036854775807) : F_skirmishref18_Slots kind n sp ax ay fx fy = some (slotsN kind n sp ax ay fx fy) := by
  have hl := dotN_nonneg (fac fx fy).1 (fac fx fy).2
  simp only [F_skirmishref18_Slots, F_skirmishref18_near, maxI_eq, minI_eq, Option.bind_some, Len2_w, ahead_r, length_r _ hl.1 hl.2]
  by_cases h1 : kind < 1
  · simp only [h1, decide_true, cond_true, slotsN, places]
    rw [if_neg (by omega)]; rfl
  by_cases h2 : kind > 4
  · simp only [h1, h2, decide_true, decide_false, cond_true, cond_false, slotsN, places]
    rw [if_neg (by omega)]; rfl
  by_cases h3 : n < 1
  · simp only [h1, h2, h3, decide_true, decide_false, cond_true, cond_false, slotsN, places]
    rw [if_neg (by omega)]; rfl
  have := slots0_r ax ay (fac fx fy).1 (fac fx fy).2 (nsp sp) (ln fx fy) (nsp_in sp) (ln_in fx fy) kind (min n 64).toNat (by omega) (by omega) FU (min n 64).toNat [] 0 (by omega) (by unfold FU; omega) (by simp) (by simp)
  rw [show (((min n 64).toNat : Nat) : Int) = min n 64 by omega] at this
  have this' : G_skirmishref18_Slots_0 kind (min n 64) (max 0 (min sp 1024)) (csq (dotN (fac fx fy).1 (fac fx fy).2 (fac fx fy).1 (fac fx fy).2)) ax ay (fac fx fy).1 (fac fx fy).2 FU [] 0 = some _ := this
  simp only [h1, h2, h3, decide_false, cond_false, this', Option.bind_some, slotsN, places]
  rw [if_pos (by omega)]

theorem allT_len (kind : Int) (n : Nat) (hn : 1 ≤ n ∧ n ≤ 64) : ∀ (f : Nat) (T : List (Nat × Nat × Nat)) (i : Nat), n ≤ T.length + f → T.length ≤ n → (allT kind n f T i).length = n
  | 0, T, i, h1, h2 => by simp only [allT]; omega
  | f + 1, T, i, h1, h2 => by
    simp only [allT]
    by_cases hT : T.length < n
    · rw [if_pos hT]
      obtain ⟨c1, c2, c3⟩ := cw_in (kind := kind) (i := i) hn hT
      exact allT_len kind n hn f _ (i + 1) (by simp; omega) (by simp; omega)
    · rw [if_neg hT]; omega
theorem places_len (kind n sp fx fy : Int) : (places kind n sp fx fy).length ≤ 64 ∧ ((1 ≤ n ∧ 1 ≤ kind ∧ kind ≤ 4) → ((places kind n sp fx fy).length : Int) = min n 64) := by
  unfold places
  by_cases h : 1 ≤ n ∧ 1 ≤ kind ∧ kind ≤ 4
  · rw [if_pos h, allT_len kind _ (by omega) _ _ _ (by simp) (by simp)]
    omega
  · rw [if_neg h]
    exact ⟨by simp, fun h' => absurd h' h⟩

theorem pure_FormationSlots (kind n sp ax ay fx fy : Int) (h0 : wf .i64 kind) (h1 : wf .i64 n) (h2 : wf .i64 sp) (h3 : wf .i64 ax) (h4 : wf .i64 ay) (h5 : wf .i64 fx) (h6 : wf .i64 fy) : F_skirmishlaw18_FormationSlots kind n sp ax ay fx fy = some true := by
  have hn := wf_i64 h1
  simp only [F_skirmishlaw18_FormationSlots, Slots_g _ _ _ _ _ _ _ hn, Slots_r _ _ _ _ _ _ _ hn, Option.bind_some]
  rw [vsame (slotsN kind n sp ax ay fx fy) (sP_ok _ _ _ _ _ _ _) (by rw [slotsN, List.length_map]; have := (places_len kind n sp fx fy).1; omega)]
  simp only [Option.bind_some, cond_true, awake18]
end Go.Proofs.Ytjgaaicflenbbaa.AI
