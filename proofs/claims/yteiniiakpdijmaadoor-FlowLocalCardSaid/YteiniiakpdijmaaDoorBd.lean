/- Least costs are small. -/
import Derived.Test.YteiniiakpdijmaaDoorPw
namespace Go.Proofs.YteiniiakpdijmaaDoor.AI
open Go.RowKit
set_option linter.unusedVariables false
set_option linter.unusedSimpArgs false
/-- Ways are no longer than there are cells: so costs are small. -/
theorem Right.small {n : Nat} {nb : Nb} {src : Nat → Prop} {c : Nat → Int} (ho : NbOk n nb) (hr : Right n nb src c) : ∀ (k : Nat) (S : List Nat), S.Nodup → S.length + k = n → (∀ i, i ∈ S → i < n ∧ 0 ≤ c i) → (∀ i j, i ∈ S → j < n → j ∉ S → 0 ≤ c j → c i ≤ c j) → (∀ i, i ∈ S → c i ≤ 19 * S.length) → ∀ j, j < n → c j ≤ 19 * n
  | 0, S, h1, h2, h3, h4, h5, j, hj => by
    by_cases hS : j ∈ S
    · have := h5 j hS
      omega
    · exfalso
      have := nodup_len n (j :: S) (List.nodup_cons.2 ⟨hS, h1⟩) fun i hi => by
        rcases List.mem_cons.1 hi with rfl | hi
        · exact hj
        · exact (h3 i hi).1
      rw [List.length_cons] at this
      omega
  | k + 1, S, h1, h2, h3, h4, h5, j, hj => by
    -- the least of those outside
    by_cases hex : ∃ q, q < n ∧ q ∉ S ∧ 0 ≤ c q
    · have hmin : ∃ q, q < n ∧ q ∉ S ∧ 0 ≤ c q ∧ ∀ p, p < n → p ∉ S → 0 ≤ c p → c q ≤ c p := by
        obtain ⟨q, a1, a2, a3⟩ := hex
        have : ∀ (m : Nat) (q : Nat), q < n → q ∉ S → 0 ≤ c q → c q ≤ m → ∃ q, q < n ∧ q ∉ S ∧ 0 ≤ c q ∧ ∀ p, p < n → p ∉ S → 0 ≤ c p → c q ≤ c p := by
          intro m
          induction m using Nat.strongRecOn with
          | ind m ih =>
            intro q a1 a2 a3 a4
            by_cases hb : ∃ p, p < n ∧ p ∉ S ∧ 0 ≤ c p ∧ c p < c q
            · obtain ⟨p, b1, b2, b3, b4⟩ := hb
              exact ih (c p).toNat (by omega) p b1 b2 b3 (by omega)
            · refine ⟨q, a1, a2, a3, fun p c1 c2 c3 => ?_⟩
              by_cases hlt : c p < c q
              · exact absurd ⟨p, c1, c2, c3, hlt⟩ hb
              · omega
        exact this (c q).toNat q a1 a2 a3 (by omega)
      obtain ⟨q, a1, a2, a3, a4⟩ := hmin
      have hq : c q ≤ 19 * (S.length + 1) := by
        rcases hr.back q a1 a3 with ⟨_, z⟩ | ⟨i, d, w, b1, b2, b3, b4, b5⟩
        · omega
        · have hw := ho.pos _ _ _ _ b3
          by_cases hi : i ∈ S
          · have := h5 i hi
            omega
          · have := a4 i b1 hi b4
            omega
      refine Right.small ho hr k (q :: S) (List.nodup_cons.2 ⟨a2, h1⟩) (by rw [List.length_cons]; omega) ?_ ?_ ?_ j hj
      · intro i hi
        rcases List.mem_cons.1 hi with rfl | hi
        · exact ⟨a1, a3⟩
        · exact h3 i hi
      · intro i p hi hp hn hz
        rw [List.mem_cons, not_or] at hn
        rcases List.mem_cons.1 hi with rfl | hi
        · exact a4 p hp hn.2 hz
        · exact h4 i p hi hp hn.2 hz
      · intro i hi
        rw [List.length_cons]
        rcases List.mem_cons.1 hi with rfl | hi
        · omega
        · have := h5 i hi
          omega
    · by_cases hS : j ∈ S
      · have := h5 j hS
        omega
      · by_cases h0 : 0 ≤ c j
        · exact absurd ⟨j, hj, hS, h0⟩ hex
        · omega
theorem Right.bound {n : Nat} {nb : Nb} {src : Nat → Prop} {c : Nat → Int} (ho : NbOk n nb) (hr : Right n nb src c) (j : Nat) (hj : j < n) : c j ≤ 19 * n :=
  Right.small ho hr n [] List.nodup_nil (by simp) (fun i hi => by cases hi) (fun i j hi => by cases hi) (fun i hi => by cases hi) j hj
end Go.Proofs.YteiniiakpdijmaaDoor.AI
