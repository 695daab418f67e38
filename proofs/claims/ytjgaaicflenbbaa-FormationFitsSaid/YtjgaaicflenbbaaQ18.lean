/- What the functions of chapter 18 (formation) answer: distances, lists, assignments. -/
import Derived.Test.YtjgaaicflenbbaaQ02
namespace Go.Proofs.Ytjgaaicflenbbaa.AI
open Go.RowKit
set_option linter.unusedVariables false
set_option linter.unusedSimpArgs false
theorem awake18 : F_skirmishlaw18_awake = some true := by kernel_rfl

/-! ### Rows of one cell -/
def rI (L : List Int) : List (List AVal) := L.map fun v => [i64 v]
def rB (L : List Bool) : List (List AVal) := L.map fun v => [bo v]
theorem rI_len (L : List Int) : (rI L).length = L.length := by simp [rI]
theorem rB_len (L : List Bool) : (rB L).length = L.length := by simp [rB]
theorem rI_get (L : List Int) (k : Nat) (h : k < L.length) : (rI L)[k]? = some [i64 (L.getD k 0)] := by
  simp [rI, List.getD, h]
theorem rB_get (L : List Bool) (k : Nat) (h : k < L.length) : (rB L)[k]? = some [bo (L.getD k false)] := by
  simp [rB, List.getD, h]
theorem rI_set (L : List Int) (k : Nat) (v : Int) : List.set (rI L) k [i64 v] = rI (L.set k v) := by simp [rI, List.map_set]
theorem rB_set (L : List Bool) (k : Nat) (v : Bool) : List.set (rB L) k [bo v] = rB (L.set k v) := by simp [rB, List.map_set]
theorem chk_i (v : Int) : chk [.int .i64] [i64 v] = true := rfl
theorem chk_b (v : Bool) : chk [.bool] [bo v] = true := rfl
theorem cI_i (v : Int) : cI [i64 v] 0 = v := rfl
theorem cB_b (v : Bool) : cB [bo v] 0 = v := rfl
theorem rI_rep (n : Nat) (v : Int) : List.replicate n [i64 v] = rI (List.replicate n v) := by simp [rI]
theorem rB_rep (n : Nat) (v : Bool) : List.replicate n [bo v] = rB (List.replicate n v) := by simp [rB]
theorem getD_set {α : Type} (L : List α) (k j : Nat) (v d : α) (h : k < L.length) : (L.set k v).getD j d = if j = k then v else L.getD j d := by
  simp only [List.getD, List.getElem?_set]
  by_cases e : k = j
  · subst e; simp [h]
  · rw [if_neg e, if_neg (fun h => e h.symm)]

/-- Vectors that can be read. -/
def okV (a : List (List AVal)) : Prop := ∀ r ∈ a, chk [.int .i64, .int .i64] r = true
theorem okV_get {a : List (List AVal)} (h : okV a) (k : Nat) (hk : k < a.length) : a[k]? = some (a.getD k []) ∧ chk [.int .i64, .int .i64] (a.getD k []) = true := by
  have : a.getD k [] = a[k] := by simp [List.getD, hk]
  rw [this]
  exact ⟨List.getElem?_eq_getElem hk, h _ (List.getElem_mem hk)⟩

/-! ### Equal lists -/
theorem vsame_G (a : List (List AVal)) (ha : okV a) (hl : a.length ≤ 4611686018427387904) : ∀ (m : Nat) (i : Int), 0 ≤ i → i ≤ a.length → (a.length : Int) - i < m → G_skirmishref18_Same_0 a a m i = some false
  | 0, i, h0, h1, h2 => by omega
  | m + 1, i, h0, h1, h2 => by
    simp only [G_skirmishref18_Same_0, Int.ofNat_eq_natCast]
    by_cases hi : i < a.length
    · obtain ⟨hr, hc⟩ := okV_get ha i.toNat (by omega)
      simp only [hi, h0, decide_true, cond_true, hr, Option.bind_some, hc, beq_self_eq_true, Bool.and_self, Bool.not_true, cond_false]
      rw [wr_in (by omega) (by omega)]
      exact vsame_G a ha hl m (i + 1) (by omega) (by omega) (by omega)
    · simp only [hi, decide_false, cond_false]
theorem vsame (a : List (List AVal)) (ha : okV a) (hl : a.length ≤ 4611686018427387904) : F_skirmishref18_Same a a = some true := by
  simp only [F_skirmishref18_Same, bne_self_eq_false, cond_false]
  rw [vsame_G a ha hl FU 0 (by omega) (by omega) (by unfold FU; omega)]
  rfl
theorem isame_G (L : List Int) (hl : L.length ≤ 4611686018427387904) : ∀ (m : Nat) (i : Int), 0 ≤ i → i ≤ L.length → (L.length : Int) - i < m → G_skirmishlaw18_same_0 (rI L) (rI L) m i = some false
  | 0, i, h0, h1, h2 => by omega
  | m + 1, i, h0, h1, h2 => by
    simp only [G_skirmishlaw18_same_0, Int.ofNat_eq_natCast, rI_len]
    by_cases hi : i < L.length
    · simp only [hi, h0, decide_true, cond_true, rI_get L i.toNat (by omega), Option.bind_some, chk_i, bne_self_eq_false, cond_false]
      rw [wr_in (by omega) (by omega)]
      exact isame_G L hl m (i + 1) (by omega) (by omega) (by omega)
    · simp only [hi, decide_false, cond_false]
theorem isame (L : List Int) (hl : L.length ≤ 4611686018427387904) : F_skirmishlaw18_same (rI L) (rI L) = some true := by
  simp only [F_skirmishlaw18_same, bne_self_eq_false, cond_false]
  rw [isame_G L hl FU 0 (by omega) (by omega) (by unfold FU; omega)]
  rfl

/-! ### Distances -/
def dd (ax ay bx b : Int) : Int := dotN (nr (nr ax - nr bx)) (nr (nr ay - nr b)) (nr (nr ax - nr bx)) (nr (nr ay - nr b))
theorem dd_in (ax ay bx b : Int) : 0 ≤ dd ax ay bx b ∧ dd ax ay bx b ≤ 2199023255552 := by
  have h3 := dotN_in (nr (nr ax - nr bx)) (nr (nr ay - nr b)) (nr (nr ax - nr bx)) (nr (nr ay - nr b))
  refine ⟨?_, h3.2⟩
  have h1 := sq_nonneg' (nr (nr (nr ax - nr bx)))
  have h2 := sq_nonneg' (nr (nr (nr ay - nr b)))
  unfold dd dotN
  omega
theorem distance_g (ax ay bx b : Int) : F_formation_distance ax ay bx b = some (dd ax ay bx b) := by
  simp only [F_formation_distance, Sub_v, Len2_v, Option.bind_some, dd]
theorem distance_r (ax ay bx b : Int) : F_skirmishref18_Distance ax ay bx b = some (dd ax ay bx b) := by
  simp only [F_skirmishref18_Distance, Sub_w, Len2_w, Option.bind_some, dd]
/-- The distance of a unit and a place. -/
def DD (units slots : List (List AVal)) (i k : Nat) : Int := dd (cI (units.getD i []) 0) (cI (units.getD i []) 1) (cI (slots.getD k []) 0) (cI (slots.getD k []) 1)

/-! ### The nearest pair -/
def el (L : List Int) (T : List Bool) (i k : Nat) : Bool := decide (L.getD i 0 < 0) && !(T.getD k false)
theorem el_iff {L : List Int} {T : List Bool} {i k : Nat} : el L T i k = true ↔ L.getD i 0 < 0 ∧ T.getD k false = false := by
  unfold el
  rw [Bool.and_eq_true, decide_eq_true_eq, Bool.not_eq_true']
def s3 (L : List Int) (T : List Bool) (D : Nat → Nat → Int) (i : Nat) : Nat → Nat → Int × Int × Int → Int × Int × Int
  | 0, _, a => a
  | n + 1, k, a => s3 L T D i n (k + 1) (if el L T i k = true ∧ (a.1 < 0 ∨ D i k < a.2.2) then ((i : Int), (k : Int), D i k) else a)
def s2 (L : List Int) (T : List Bool) (D : Nat → Nat → Int) (K : Nat) : Nat → Nat → Int × Int × Int → Int × Int × Int
  | 0, _, a => a
  | n + 1, i, a => s2 L T D K n (i + 1) (s3 L T D i K 0 a)

theorem assign3_g (units slots : List (List AVal)) (hs : okV slots) (L : List Int) (T : List Bool) (hT : T.length = slots.length) (hK : slots.length ≤ 64) (i : Nat) (hi : i < L.length) (hL : L.length ≤ 64) : ∀ (m n k : Nat) (a : Int × Int × Int), k + n = slots.length → n < m →
    G_formation_Assign_3 (rI L) (rB T) i slots slots.length (cI (units.getD i []) 0) (cI (units.getD i []) 1) m a.1 a.2.1 a.2.2 k = some (s3 L T (DD units slots) i n k a)
  | 0, n, k, a, h1, h2 => by omega
  | m + 1, 0, k, a, h1, h2 => by
    have : ¬ ((k : Int) < slots.length) := by omega
    simp only [G_formation_Assign_3, this, decide_false, cond_false, s3]
  | m + 1, n + 1, k, a, h1, h2 => by
    have hk : (k : Int) < slots.length := by omega
    obtain ⟨g1, g2⟩ := okV_get hs k (by omega)
    have hi' : (i : Int) < L.length := by omega
    have hkT : (k : Int) < T.length := by omega
    have h0k : (0 : Int) ≤ k := by omega
    have h0i : (0 : Int) ≤ i := by omega
    have ih := fun a => assign3_g units slots hs L T hT hK i hi hL m n (k + 1) a (by omega) (by omega)
    have hw : wr ((k : Int) + 1) = ((k + 1 : Nat) : Int) := by rw [wr_in (by omega) (by omega)]; simp
    simp only [G_formation_Assign_3, Int.ofNat_eq_natCast, rI_len, rB_len, hk, h0k, h0i, hi', hkT, decide_true, cond_true, Bool.and_self, Int.toNat_natCast, g1, g2, Option.bind_some, rI_get L i hi, rB_get T k (by omega), chk_i, chk_b, cI_i, cB_b, distance_g, hw, s3]
    by_cases e1 : L.getD i 0 < 0
    · have e1' : ¬ (L.getD i 0 ≥ 0) := by omega
      simp only [e1', decide_false, cond_false]
      cases e2 : T.getD k false with
      | true =>
        have : ¬ (el L T i k = true ∧ (a.1 < 0 ∨ DD units slots i k < a.2.2)) := fun h => by have := (el_iff.1 h.1).2; rw [e2] at this; cases this
        rw [if_neg this]
        simp only [cond_true]
        exact ih a
      | false =>
        have he : el L T i k = true := el_iff.2 ⟨e1, e2⟩
        simp only [cond_false]
        by_cases e3 : a.1 < 0
        · rw [if_pos ⟨he, .inl e3⟩]
          simp only [e3, decide_true, cond_true]
          exact ih (i, k, DD units slots i k)
        · simp only [e3, decide_false, cond_false]
          by_cases e4 : DD units slots i k < a.2.2
          · rw [if_pos ⟨he, .inr e4⟩]
            have e4' : dd (cI (units.getD i []) 0) (cI (units.getD i []) 1) (cI (slots.getD k []) 0) (cI (slots.getD k []) 1) < a.2.2 := e4
            simp only [e4', decide_true, cond_true]
            exact ih (i, k, DD units slots i k)
          · rw [if_neg (by intro h; rcases h.2 with h | h <;> omega)]
            have e4' : ¬ dd (cI (units.getD i []) 0) (cI (units.getD i []) 1) (cI (slots.getD k []) 0) (cI (slots.getD k []) 1) < a.2.2 := e4
            simp only [e4', decide_false, cond_false]
            exact ih a
    · have e1' : L.getD i 0 ≥ 0 := by omega
      have : ¬ (el L T i k = true ∧ (a.1 < 0 ∨ DD units slots i k < a.2.2)) := fun h => e1 (el_iff.1 h.1).1
      rw [if_neg this]
      simp only [e1', decide_true, cond_true]
      exact ih a
theorem assign3_r (units slots : List (List AVal)) (hu : okV units) (hs : okV slots) (L : List Int) (T : List Bool) (hT : T.length = slots.length) (hK : slots.length ≤ 64) (hU : L.length = units.length) (i : Nat) (hi : i < L.length) (hL : L.length ≤ 64) : ∀ (m n k : Nat) (a : Int × Int × Int), k + n = slots.length → n < m →
    G_skirmishref18_Assign_3 (rI L) (rB T) units slots i m a.1 a.2.1 a.2.2 k = some (s3 L T (DD units slots) i n k a)
  | 0, n, k, a, h1, h2 => by omega
  | m + 1, 0, k, a, h1, h2 => by
    have : ¬ ((k : Int) < slots.length) := by omega
    simp only [G_skirmishref18_Assign_3, Int.ofNat_eq_natCast, this, decide_false, cond_false, s3]
  | m + 1, n + 1, k, a, h1, h2 => by
    have hk : (k : Int) < slots.length := by omega
    obtain ⟨g1, g2⟩ := okV_get hs k (by omega)
    obtain ⟨g3, g4⟩ := okV_get hu i (by omega)
    have hi' : (i : Int) < L.length := by omega
    have hkT : (k : Int) < T.length := by omega
    have h0k : (0 : Int) ≤ k := by omega
    have h0i : (0 : Int) ≤ i := by omega
    have ih := fun a => assign3_r units slots hu hs L T hT hK hU i hi hL m n (k + 1) a (by omega) (by omega)
    have hw : wr ((k : Int) + 1) = ((k + 1 : Nat) : Int) := by rw [wr_in (by omega) (by omega)]; simp
    simp only [G_skirmishref18_Assign_3, Int.ofNat_eq_natCast, rI_len, rB_len, hk, h0k, h0i, hi', hkT, decide_true, cond_true, Bool.and_self, Int.toNat_natCast, g1, g2, g3, g4, Option.bind_some, rI_get L i hi, rB_get T k (by omega), chk_i, chk_b, cI_i, cB_b, distance_r, hw, s3]
    by_cases e1 : L.getD i 0 < 0
    · simp only [e1, decide_true, cond_true]
      cases e2 : T.getD k false with
      | true =>
        have : ¬ (el L T i k = true ∧ (a.1 < 0 ∨ DD units slots i k < a.2.2)) := fun h => by have := (el_iff.1 h.1).2; rw [e2] at this; cases this
        rw [if_neg this]
        simp only [Bool.not_true, cond_false]
        exact ih a
      | false =>
        have he : el L T i k = true := el_iff.2 ⟨e1, e2⟩
        simp only [Bool.not_false, cond_true]
        by_cases e3 : a.1 < 0
        · rw [if_pos ⟨he, .inl e3⟩]
          simp only [e3, decide_true, cond_true]
          exact ih (i, k, DD units slots i k)
        · simp only [e3, decide_false, cond_false]
          by_cases e4 : DD units slots i k < a.2.2
          · rw [if_pos ⟨he, .inr e4⟩]
            have e4' : dd (cI (units.getD i []) 0) (cI (units.getD i []) 1) (cI (slots.getD k []) 0) (cI (slots.getD k []) 1) < a.2.2 := e4
            simp only [e4', decide_true, cond_true]
            exact ih (i, k, DD units slots i k)
          · rw [if_neg (by intro h; rcases h.2 with h | h <;> omega)]
            have e4' : ¬ dd (cI (units.getD i []) 0) (cI (units.getD i []) 1) (cI (slots.getD k []) 0) (cI (slots.getD k []) 1) < a.2.2 := e4
            simp only [e4', decide_false, cond_false]
            exact ih a
    · have : ¬ (el L T i k = true ∧ (a.1 < 0 ∨ DD units slots i k < a.2.2)) := fun h => e1 (el_iff.1 h.1).1
      rw [if_neg this]
      simp only [e1, decide_false, cond_false]
      exact ih a

theorem assign2_g (units slots : List (List AVal)) (hu : okV units) (hs : okV slots) (L : List Int) (T : List Bool) (hT : T.length = slots.length) (hK : slots.length ≤ 64) (hU : L.length = units.length) (hL : L.length ≤ 64) : ∀ (m n i : Nat) (a : Int × Int × Int), i + n = units.length → n < m →
    G_formation_Assign_2 (rI L) (rB T) slots units units.length m a.1 a.2.1 a.2.2 i = some ((s2 L T (DD units slots) slots.length n i a).1, (s2 L T (DD units slots) slots.length n i a).2.1)
  | 0, n, i, a, h1, h2 => by omega
  | m + 1, 0, i, a, h1, h2 => by
    have : ¬ ((i : Int) < units.length) := by omega
    simp only [G_formation_Assign_2, this, decide_false, cond_false, s2]
  | m + 1, n + 1, i, a, h1, h2 => by
    have hi : (i : Int) < units.length := by omega
    obtain ⟨g3, g4⟩ := okV_get hu i (by omega)
    have h0i : (0 : Int) ≤ i := by omega
    have hw : wr ((i : Int) + 1) = ((i + 1 : Nat) : Int) := by rw [wr_in (by omega) (by omega)]; simp
    have h3 := assign3_g units slots hs L T hT hK i (by omega) hL FU slots.length 0 a (by omega) (by unfold FU; omega)
    have ih := assign2_g units slots hu hs L T hT hK hU hL m n (i + 1) (s3 L T (DD units slots) i slots.length 0 a) (by omega) (by omega)
    simp only [G_formation_Assign_2, Int.ofNat_eq_natCast, hi, h0i, decide_true, cond_true, Int.toNat_natCast, g3, g4, Option.bind_some, hw, s2]
    rw [show (0 : Int) = ((0 : Nat) : Int) from rfl, h3]
    simp only [Option.bind_some]
    exact ih
theorem assign2_r (units slots : List (List AVal)) (hu : okV units) (hs : okV slots) (L : List Int) (T : List Bool) (hT : T.length = slots.length) (hK : slots.length ≤ 64) (hU : L.length = units.length) (hL : L.length ≤ 64) : ∀ (m n i : Nat) (a : Int × Int × Int), i + n = units.length → n < m →
    G_skirmishref18_Assign_2 (rI L) (rB T) units slots m a.1 a.2.1 a.2.2 i = some ((s2 L T (DD units slots) slots.length n i a).1, (s2 L T (DD units slots) slots.length n i a).2.1)
  | 0, n, i, a, h1, h2 => by omega
  | m + 1, 0, i, a, h1, h2 => by
    have : ¬ ((i : Int) < units.length) := by omega
    simp only [G_skirmishref18_Assign_2, Int.ofNat_eq_natCast, this, decide_false, cond_false, s2]
  | m + 1, n + 1, i, a, h1, h2 => by
    have hi : (i : Int) < units.length := by omega
    have hw : wr ((i : Int) + 1) = ((i + 1 : Nat) : Int) := by rw [wr_in (by omega) (by omega)]; simp
    have h3 := assign3_r units slots hu hs L T hT hK hU i (by omega) hL FU slots.length 0 a (by omega) (by unfold FU; omega)
    have ih := assign2_r units slots hu hs L T hT hK hU hL m n (i + 1) (s3 L T (DD units slots) i slots.length 0 a) (by omega) (by omega)
    simp only [G_skirmishref18_Assign_2, Int.ofNat_eq_natCast, hi, decide_true, cond_true, hw, s2]
    rw [show (0 : Int) = ((0 : Nat) : Int) from rfl, h3]
    simp only [Option.bind_some]
    exact ih
end Go.Proofs.Ytjgaaicflenbbaa.AI
