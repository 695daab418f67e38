/- A row that lists the package's table 'terrain.passable': what its condition gives. -/
import Derived.Test.YteiniiakpdijmaaDoorTab
import Derived.Test.YteiniiakpdijmaaDoorAI22
import Derived.Test.YteiniiakpdijmaaDoorRows
import Derived.Lib.LaidTab
namespace Go.Proofs.YteiniiakpdijmaaDoor.AI
open Go.RowKit
set_option linter.unusedVariables false

theorem cells_of_arr {H : Type} {enc : TypeId × Value → H} {P : Program} {w : World} {base : Nat} {sp : Nat → Bool} {held : Bool} {fuel : Nat} {t e : TypeId} {n m : Nat} {cs : List Value} {ds : List (DataW H)} {p : List MemPlace}
    (ht : P.underlying t = some (.array n e)) (hce : P.cellsOf e = m) (hct : P.cellsOf t = n * m)
    (h : DataW.trod enc P w base sp held fuel t cs = some (.agg ds, p)) : cs.length = n * m ∧ ds.length = n ∧ ∃ f, ∀ i d, ds[i]? = some d → ∃ p', DataW.trod enc P w base sp held f e ((cs.drop (i * m)).take m) = some (d, p') := by
  cases fuel with
  | zero => simp [DataW.trod] at h
  | succ fuel =>
    simp only [DataW.trod, ht, hce, hct] at h
    split at h
    · rename_i hl
      obtain ⟨xs, hm, hx⟩ := Option.map_eq_some_iff.1 h
      have hxs : xs.map (·.1) = ds := by
        have := congrArg Prod.fst hx
        simpa using this
      have hxl : xs.length = n := by simpa using Lib.mapM_length hm
      refine ⟨hl, by rw [← hxs]; simpa using hxl, fuel, fun i d hd => ?_⟩
      rw [← hxs, List.getElem?_map] at hd
      obtain ⟨x, hx', rfl⟩ := Option.map_eq_some_iff.1 hd
      have hi : i < n := by rw [← hxl]; exact (List.getElem?_eq_some_iff.1 hx').1
      obtain ⟨b, hb, hf⟩ := Lib.mapM_at hm i i (by simp [hi])
      rw [hx'] at hb
      obtain rfl := Option.some.inj hb
      exact ⟨x.2, hf⟩
    · cases h
theorem cells_of_bools {H : Type} {enc : TypeId × Value → H} {P : Program} {w : World} {base : Nat} {sp : Nat → Bool} {held : Bool} {fuel : Nat} {t e : TypeId} {n : Nat} {cs : List Value} {bs : List Bool} {p : List MemPlace}
    (ht : P.underlying t = some (.array n e)) (he : P.underlying e = some .bool) (hce : P.cellsOf e = 1) (hct : P.cellsOf t = n * 1)
    (h : DataW.trod enc P w base sp held fuel t cs = some (.agg (bs.map fun b => .lit (.bool b)), p)) : cs = bs.map Value.bool := by
  obtain ⟨h1, h2, f, h3⟩ := cells_of_arr ht hce hct h
  rw [List.length_map] at h2
  apply List.ext_getElem?
  intro i
  by_cases hi : i < n
  · have hib : i < bs.length := by omega
    obtain ⟨p', h4⟩ := h3 i (.lit (.bool bs[i])) (by simp [hib])
    obtain ⟨b, hc, hb⟩ := DataW.trod_bool he h4
    have hb' : bs[i] = b := by
      have := congrArg Prod.fst hb
      simpa using this
    have h5 : cs[i]? = some (.bool b) := by
      have := congrArg (·[0]?) hc
      simpa [List.getElem?_take, List.getElem?_drop] using this
    rw [h5, ← hb']
    simp [hib]
  · rw [List.getElem?_eq_none (by omega), List.getElem?_eq_none (by simp; omega)]

/-- The rows of the table. -/
def passB : List (List Bool) := [[false, false, false, false, false, false], [false, true, false, false, false, true], [false, true, true, false, false, true], [false, true, true, true, true, true]]
theorem pass_cells {H : Type} {enc : TypeId × Value → H} {P : Program} {w : World} {base : Nat} {sp : Nat → Bool} {held : Bool} {fuel : Nat} {t u e : TypeId} {cs : List Value} {p : List MemPlace}
    (ht : P.underlying t = some (.array 4 u)) (hu : P.underlying u = some (.array 6 e)) (he : P.underlying e = some .bool) (hce : P.cellsOf e = 1) (hcu : P.cellsOf u = 6) (hct : P.cellsOf t = 24)
    (h : DataW.trod enc P w base sp held fuel t cs = some (Rows.laid_skirmish_terrain_passable, p)) : cs = (passB.flatten).map Value.bool := by
  have h' : DataW.trod enc P w base sp held fuel t cs = some (.agg (passB.map fun bs => .agg (bs.map fun b => .lit (.bool b))), p) := h
  obtain ⟨h1, h2, f, h3⟩ := cells_of_arr ht hcu (by rw [hct]) h'
  have row : ∀ i bs, passB[i]? = some bs → (cs.drop (i * 6)).take 6 = bs.map Value.bool := fun i bs hb => by
    obtain ⟨p', h4⟩ := h3 i (.agg (bs.map fun b => .lit (.bool b))) (by rw [List.getElem?_map, hb]; rfl)
    exact cells_of_bools hu he hce (by rw [hcu]) h4
  have r0 := row 0 _ rfl
  have r1 := row 1 _ rfl
  have r2 := row 2 _ rfl
  have r3 := row 3 _ rfl
  simp only [Nat.zero_mul, List.drop_zero, Nat.one_mul] at r0 r1
  have e3 : (cs.drop 18).take 6 = cs.drop 18 := List.take_of_length_le (by simp; omega)
  have d1 := List.take_append_drop 6 cs
  have d2 := List.take_append_drop 6 (cs.drop 6)
  have d3 := List.take_append_drop 6 (cs.drop 12)
  rw [List.drop_drop] at d2 d3
  rw [show 2 * 6 = 12 from rfl] at r2
  rw [show 3 * 6 = 18 from rfl] at r3
  rw [← d1, ← d2, ← d3, ← e3, r0, r1, r2, r3]
  rfl
/-- What the row's list gives: the table, read. -/
theorem pass_gl {P : Program} {W : World} {t u e : TypeId} (hg : P.globalNamed "skirmish/terrain.passable" = some 0) (hty : (P.globals[0]?).map (·.type) = some t)
    (ht : P.underlying t = some (.array 4 u)) (hu : P.underlying u = some (.array 6 e)) (he : P.underlying e = some .bool) (hce : P.cellsOf e = 1) (hcu : P.cellsOf u = 6) (hct : P.cellsOf t = 24)
    (h : laidMet P [("skirmish/terrain.passable", Rows.laid_skirmish_terrain_passable)] W) : ∀ g l, GL0 g = some l → VRel (fun _ => none) (ZW W) W (.rptr l) (.pointer (some ⟨g, 0, none⟩)) := by
  obtain ⟨ps, ⟨g', t', cs, fuel, p, q, hg', ht', hvar, hd, _, _⟩, _⟩ := h
  obtain rfl := Option.some.inj (hg.symm.trans hg')
  obtain rfl := Option.some.inj (hty.symm.trans ht')
  have hcs := pass_cells ht hu he hce hcu hct hd
  intro g l hl
  unfold GL0 at hl
  cases hk : Nat.beq g 0 with
  | false => rw [hk] at hl; cases hl
  | true =>
    rw [hk] at hl
    simp only [cond_true, Option.some.injEq] at hl
    subst hl
    obtain rfl : g = 0 := nbeq_eq hk
    have hp : passL = ((passB.flatten).map Value.bool).map AVal.sc := rfl
    have key : ∀ (j : Nat) (v : AVal), passL[j]? = some v → ∃ b : Bool, v = .sc (.bool b) ∧ W.cell? ⟨0, 0 + j, none⟩ = some (.bool b) := fun j v hv => by
      rw [hp, List.getElem?_map] at hv
      obtain ⟨c, hc, rfl⟩ := Option.map_eq_some_iff.1 hv
      have h1 := World.var?_cell hg hvar j
      rw [← Array.getElem?_toList, hcs] at h1
      rw [List.getElem?_map] at hc
      obtain ⟨b, hb, rfl⟩ := Option.map_eq_some_iff.1 hc
      refine ⟨b, rfl, ?_⟩
      rw [Nat.zero_add, h1, List.getElem?_map, hb]
      rfl
    have hz : ZW W 0 := by
      obtain ⟨b, _, hb⟩ := key 0 _ rfl
      exact World.block_lt_of_cell? _ _ hb
    refine .rptr _ 0 0 (fun j => (W.cell? ⟨0, 0 + j, none⟩).getD undef) hz (fun j v hj => ?_) fun j v hj => ?_
    · obtain ⟨b, rfl, hb⟩ := key j v hj
      rw [hb]
      exact ⟨rfl, rfl, rfl⟩
    · obtain ⟨b, rfl, hb⟩ := key j v hj
      rw [hb]
      exact .sc _
end Go.Proofs.YteiniiakpdijmaaDoor.AI
