/- Operators, addresses, parts. -/
import Derived.Test.YteiniiakpdijmaaDoorAI4
namespace Go.Proofs.YteiniiakpdijmaaDoor.AI
open Go.RowKit
set_option linter.unusedVariables false

section
variable {P : Program} {TT : TypeId → Option TI} {X : Ctx} {env : Nat → Option Ent} {Z : Nat → Prop} {s s1 : F} {a : Act} {w : World}

theorem kEq_eq {k k' : IntKind} (h : kEq k k' = true) : k = k' := by cases k <;> cases k' <;> first | rfl | cases h

/-- Operators on scalars: no word of the world. -/
theorem binA_sim {op : BinOp} {t : TypeId} {x y : Value} {v : AVal} (h : Gives (binA op x y) s v s1) (hb : ∀ a b, x = .bool a → y = .bool b → False) :
    s1 = s ∧ ∃ u, (binOp op t x y).run P w = .ok u w ∧ v = .sc u := by
  unfold binA at h
  split at h
  all_goals first
    | (split at h
       · rename_i hk
         obtain rfl := kEq_eq hk
         obtain ⟨rfl, rfl⟩ := h.ret
         exact ⟨rfl, _, by simp [binOp, Op.intArith, Op.intBits, Op.intCmp]; done, rfl⟩
       · exact h.fail)
    | (split at h
       · rename_i hk
         obtain rfl := kEq_eq hk
         obtain ⟨h1, h2⟩ := h.deny
         obtain ⟨rfl, rfl⟩ := h2.ret
         simp only [beq_eq_false_iff_ne, ne_eq] at h1
         exact ⟨rfl, _, by simp [binOp, Op.intDiv, h1]; done, rfl⟩
       · exact h.fail)
    | (obtain ⟨h1, h2⟩ := h.deny
       obtain ⟨rfl, rfl⟩ := h2.ret
       simp only [decide_eq_false_iff_not] at h1
       exact ⟨rfl, _, by simp [binOp, Op.shift, h1]; done, rfl⟩)
    | (obtain ⟨rfl, rfl⟩ := h.ret
       exact ⟨rfl, _, by simp [binOp, Op.stringOp]; done, rfl⟩)
    | exact h.fail

theorem unOpA_sim {op : UnOp} {x v : AVal} {c : Value} (h : Gives (unOpA op x) s v s1) (hx : VRel env Z w x c) :
    s1 = s ∧ ∃ u, (Op.unary op c).run P w = .ok u w ∧ VRel env Z w v u := by
  unfold unOpA at h
  split at h
  · obtain ⟨rfl, rfl⟩ := h.ret
    cases hx
    exact ⟨rfl, _, by simp [Op.unary, Op.intArith], .sc _⟩
  · obtain ⟨rfl, rfl⟩ := h.ret
    cases hx
    exact ⟨rfl, _, by simp [Op.unary], .sc _⟩
  · exact h.fail

theorem convA_sim (hT : TOk P TT) {src dst : TypeId} {x v : AVal} {c : Value} (hsrc : ∃ d, P.underlying src = some d) (h : Gives (convA TT dst x) s v s1) (hx : VRel env Z w x c) :
    s1 = s ∧ ∃ u, (convert src dst c).run P w = .ok u w ∧ VRel env Z w v u := by
  unfold convA at h
  split at h
  · rename_i ti k n ht
    split at h
    · rename_i k' hd
      obtain ⟨rfl, rfl⟩ := h.ret
      cases hx
      obtain ⟨d, hs⟩ := hsrc
      have h2 := hT.desc _ _ ht
      rw [hd] at h2
      exact ⟨rfl, _, by simp [convert, run_underlying hs, run_underlying h2, Conv.intToInt], .sc _⟩
    · exact h.fail
  · exact h.fail

/-! ### Equality of structs -/

theorem run_part_one {t : TypeId} {d : TypeDesc} (h : P.underlying t = some d) (hg : isAggD d = false) {cs : Array Value} {o : Nat} {c : Value} (hc : cs[o]? = some c) (w : World) :
    (part t cs o).run P w = .ok c w := by
  simp only [part, Sem.run_bind, run_isAgg h, Result.andThen_ok, hg, Bool.false_eq_true, if_false, hc]
  rfl

theorem eqV_sim (hT : TOk P TT) {t : TypeId} {x y : Value} {b : Bool} (h : eqV TT t x y = some b) (n : Nat) :
    (∃ d, P.underlying t = some d ∧ isAggD d = false) ∧ ∀ w, (Op.equalIn (n + 1) t x y).run P w = .ok b w := by
  unfold eqV at h
  cases ht : TT t with
  | none => rw [ht] at h; cases h
  | some ti =>
    rw [ht] at h
    have hd := hT.desc t ti ht
    simp only at h
    split at h
    · have hdd : ti.desc = .bool := by assumption
      rw [hdd] at hd
      simp only [Option.some.injEq] at h
      subst h
      exact ⟨⟨_, hd, rfl⟩, fun w => by simp [Op.equalIn, run_underlying hd]⟩
    · obtain ⟨k0, hdd⟩ : ∃ k0, ti.desc = .int k0 := ⟨_, by assumption⟩
      rw [hdd] at hd
      split at h
      · rename_i hk
        have hk := kEq_eq hk
        subst hk
        simp only [Option.some.injEq] at h
        subst h
        exact ⟨⟨_, hd, rfl⟩, fun w => by simp [Op.equalIn, run_underlying hd]⟩
      · cases h
    · have hdd : ti.desc = .string := by assumption
      rw [hdd] at hd
      simp only [Option.some.injEq] at h
      subst h
      exact ⟨⟨_, hd, rfl⟩, fun w => by simp [Op.equalIn, run_underlying hd]⟩
    · cases h

/-- A loop over fields that ends with the first unequal one. -/
theorem eqFields_sim (hT : TOk P TT) (n : Nat) {xs ys : List AVal} {cx cy : Array Value}
    (hx : ∀ (i : Nat) (x : Value), xs[i]? = some (.sc x) → cx[i]? = some x) (hy : ∀ (i : Nat) (y : Value), ys[i]? = some (.sc y) → cy[i]? = some y) :
    ∀ (fs : List Field) (b : Bool), eqFields TT fs xs ys = some b → ∀ (w : World),
      (forIn (m := Sem) fs ((none, ()) : Option Bool × Unit) fun f _ =>
        if f.name ≠ "_" then do
          let x ← part f.type cx f.offset
          let y ← part f.type cy f.offset
          let q ← Op.equalIn (n + 1) f.type x y
          if (!q) = true then pure (ForInStep.done (some false, ()))
          else pure (ForInStep.yield (none, ()))
        else pure (ForInStep.yield (none, ()))).run P w = .ok (if b then (none, ()) else (some false, ())) w
  | [], b, h, w => by
    simp only [eqFields, Option.some.injEq] at h
    subst h
    simp
  | f :: rest, b, h, w => by
    simp only [eqFields] at h
    split at h
    · rename_i x y hxx hyy
      split at h
      · rename_i b1 b2 h1 h2
        split at h1
        · cases h1
        · rename_i hnm
          obtain ⟨⟨d, hd, hg⟩, hq⟩ := eqV_sim hT h1 n
          have ih := eqFields_sim hT n hx hy rest b2 h2 w
          simp only [List.forIn_cons, Sem.run_bind, ne_eq, hnm, not_false_eq_true, if_true, run_part_one hd hg (hx _ _ hxx), run_part_one hd hg (hy _ _ hyy), Result.andThen_ok, hq]
          cases b1 with
          | false =>
            simp only [Option.some.injEq] at h
            have : b = false := by
              rw [← h]
              split <;> rfl
            subst this
            simp
          | true =>
            simp only [Option.some.injEq] at h
            have hb : b = b2 := by
              rw [← h]
              split
              · simp only [eqFields, Option.some.injEq] at h2
                exact h2
              · rfl
            subst hb
            simpa using ih
      · cases h
    · cases h

theorem eqSub_sim (hT : TOk P TT) (n : Nat) {t : TypeId} {xs ys : List AVal} {cx cy : Array Value} {o : Nat} {b : Bool} (h : eqSub TT t (xs.drop o) (ys.drop o) = some b)
    (hlx : xs.length = cx.size) (hly : ys.length = cy.size)
    (hx : ∀ (i : Nat) (x : Value), xs[i]? = some (.sc x) → cx[i]? = some x) (hy : ∀ (i : Nat) (y : Value), ys[i]? = some (.sc y) → cy[i]? = some y) (w : World) :
    ∃ vx vy, (part t cx o).run P w = .ok vx w ∧ (part t cy o).run P w = .ok vy w ∧ (Op.equalIn (n + 2) t vx vy).run P w = .ok b w := by
  unfold eqSub at h
  cases ht : TT t with
  | none => rw [ht] at h; cases h
  | some ti =>
    rw [ht] at h
    simp only at h
    split at h
    · rename_i gs hd
      split at h
      · rename_i hok
        split at h
        · rename_i hle
          have hdd := hT.desc t ti ht
          rw [hd] at hdd
          obtain ⟨h1, h2⟩ := hT.eqOk t ti ht hok
          obtain ⟨i, z, hi, hsz, _⟩ := hT.info t ti ht
          rw [Bool.and_eq_true] at hle
          have hl1 := Nat.le_of_ble_eq_true hle.1
          have hl2 := Nat.le_of_ble_eq_true hle.2
          rw [List.length_drop] at hl1 hl2
          have hpart : ∀ (c : Array Value), (part t c o).run P w = .ok (.agg (c.extract o (o + ti.size))) w := fun c => by
            simp only [part, Sem.run_bind, run_isAgg hdd, Result.andThen_ok, isAggD, if_true, run_sizeOf' hi, hsz]
            rfl
          have hsub : ∀ (l : List AVal) (c : Array Value), l.length = c.size → ti.size ≤ l.length - o → (∀ (i : Nat) (x : Value), l[i]? = some (.sc x) → c[i]? = some x) →
              ∀ (i : Nat) (x : Value), ((l.drop o).take ti.size)[i]? = some (.sc x) → (c.extract o (o + ti.size))[i]? = some x := fun l c hl hle hh i x hix => by
            rw [List.getElem?_take] at hix
            split at hix
            · rename_i hj
              rw [List.getElem?_drop] at hix
              have := hh _ _ hix
              rw [Array.getElem?_extract, if_pos]
              · exact this
              · have := (Array.getElem?_eq_some_iff.1 this).1
                omega
            · cases hix
          have hloop := eqFields_sim hT n (hsub xs cx hlx hl1 hx) (hsub ys cy hly hl2 hy) gs.toList b h w
          have hu := run_underlying hdd w
          have key : ∀ m, m = n + 1 → (Op.equalIn (m + 1) t (.agg (cx.extract o (o + ti.size))) (.agg (cy.extract o (o + ti.size)))).run P w = .ok b w := fun m hm => by
            simp only [Op.equalIn, Sem.run_bind, hu, Result.andThen_ok, run_program, h1, Bool.false_eq_true, if_false]
            subst hm
            rw [← Array.forIn_toList, hloop]
            cases b <;> rfl
          exact ⟨_, _, hpart cx, hpart cy, key (n + 1) rfl⟩
        · cases h
      · cases h
    · cases h
theorem eqField_sim (hT : TOk P TT) (n : Nat) {f : Field} {xs ys : List AVal} {cx cy : Array Value} {b : Bool} (h : eqField TT f xs ys = some b)
    (hlx : xs.length = cx.size) (hly : ys.length = cy.size)
    (hx : ∀ (i : Nat) (x : Value), xs[i]? = some (.sc x) → cx[i]? = some x) (hy : ∀ (i : Nat) (y : Value), ys[i]? = some (.sc y) → cy[i]? = some y) (w : World) :
    f.name ≠ "_" ∧ ∃ vx vy, (part f.type cx f.offset).run P w = .ok vx w ∧ (part f.type cy f.offset).run P w = .ok vy w ∧ (Op.equalIn (n + 2) f.type vx vy).run P w = .ok b w := by
  unfold eqField at h
  split at h
  · cases h
  · rename_i hnm
    refine ⟨hnm, ?_⟩
    split at h
    · rename_i x y hxx hyy
      split at h
      · rename_i b' hb
        simp only [Option.some.injEq] at h
        subst h
        obtain ⟨⟨d, hd, hg⟩, hq⟩ := eqV_sim hT hb (n + 1)
        exact ⟨x, y, run_part_one hd hg (hx _ _ hxx) w, run_part_one hd hg (hy _ _ hyy) w, hq w⟩
      · exact eqSub_sim hT n h hlx hly hx hy w
    · cases h
/-- A loop over fields that ends with the first unequal one; the fields may be structs of single cells. -/
theorem eqFieldsN_sim (hT : TOk P TT) (n : Nat) {xs ys : List AVal} {cx cy : Array Value} (hlx : xs.length = cx.size) (hly : ys.length = cy.size)
    (hx : ∀ (i : Nat) (x : Value), xs[i]? = some (.sc x) → cx[i]? = some x) (hy : ∀ (i : Nat) (y : Value), ys[i]? = some (.sc y) → cy[i]? = some y) :
    ∀ (fs : List Field) (b : Bool), eqFieldsN TT fs xs ys = some b → ∀ (w : World),
      (forIn (m := Sem) fs ((none, ()) : Option Bool × Unit) fun f _ =>
        if f.name ≠ "_" then do
          let x ← part f.type cx f.offset
          let y ← part f.type cy f.offset
          let q ← Op.equalIn (n + 2) f.type x y
          if (!q) = true then pure (ForInStep.done (some false, ()))
          else pure (ForInStep.yield (none, ()))
        else pure (ForInStep.yield (none, ()))).run P w = .ok (if b then (none, ()) else (some false, ())) w
  | [], b, h, w => by
    simp only [eqFieldsN, Option.some.injEq] at h
    subst h
    simp
  | f :: rest, b, h, w => by
    simp only [eqFieldsN] at h
    split at h
    · rename_i b1 b2 h1 h2
      obtain ⟨hnm, vx, vy, p1, p2, hq⟩ := eqField_sim hT n h1 hlx hly hx hy w
      have ih := eqFieldsN_sim hT n hlx hly hx hy rest b2 h2 w
      simp only [List.forIn_cons, Sem.run_bind, ne_eq, hnm, not_false_eq_true, if_true, p1, p2, Result.andThen_ok, hq]
      cases b1 with
      | false =>
        simp only [Option.some.injEq] at h
        have : b = false := by
          rw [← h]
          cases rest.isEmpty <;> rfl
        subst this
        simp
      | true =>
        simp only [Option.some.injEq] at h
        have hb : b = b2 := by
          rw [← h]
          cases rest with
          | nil =>
            simp only [eqFieldsN, Option.some.injEq] at h2
            exact h2
          | cons _ _ => rfl
        subst hb
        simpa using ih
    · cases h

theorem run_equal_bool {t : TypeId} {p q : Bool} (h : P.underlying t = some .bool) (w : World) : (Op.equal t (.bool p) (.bool q)).run P w = .ok (p == q) w := by
  have key : ∀ n, (Op.equalIn (n + 1) t (.bool p) (.bool q)).run P w = .ok (p == q) w := fun n => by
    simp only [Op.equalIn, Sem.run_bind, run_underlying h, Result.andThen_ok]
    rfl
  exact key 9999

theorem run_eql_bool {t : TypeId} {p q b : Bool} (h : (Op.equal t (.bool p) (.bool q)).run P w = .ok b w) : (binOp .eql t (.bool p) (.bool q)).run P w = .ok (.bool b) w := by
  rw [show binOp .eql t (.bool p) (.bool q) = (do pure (.bool (← Op.equal t (.bool p) (.bool q)))) from rfl]
  simp only [Sem.run_bind, h, Result.andThen_ok]
  rfl
theorem run_neq_bool {t : TypeId} {p q b : Bool} (h : (Op.equal t (.bool p) (.bool q)).run P w = .ok b w) : (binOp .neq t (.bool p) (.bool q)).run P w = .ok (.bool (!b)) w := by
  rw [show binOp .neq t (.bool p) (.bool q) = (do pure (.bool (!(← Op.equal t (.bool p) (.bool q))))) from rfl]
  simp only [Sem.run_bind, h, Result.andThen_ok]
  rfl
theorem run_eql_agg {t : TypeId} {p q : Array Value} {b : Bool} (h : (Op.equal t (.agg p) (.agg q)).run P w = .ok b w) : (binOp .eql t (.agg p) (.agg q)).run P w = .ok (.bool b) w := by
  rw [show binOp .eql t (.agg p) (.agg q) = (do pure (.bool (← Op.equal t (.agg p) (.agg q)))) from rfl]
  simp only [Sem.run_bind, h, Result.andThen_ok]
  rfl
theorem run_neq_agg {t : TypeId} {p q : Array Value} {b : Bool} (h : (Op.equal t (.agg p) (.agg q)).run P w = .ok b w) : (binOp .neq t (.agg p) (.agg q)).run P w = .ok (.bool (!b)) w := by
  rw [show binOp .neq t (.agg p) (.agg q) = (do pure (.bool (!(← Op.equal t (.agg p) (.agg q))))) from rfl]
  simp only [Sem.run_bind, h, Result.andThen_ok]
  rfl

theorem run_eqGuard_sc {op : BinOp} {t : TypeId} {ox oy : Operand} (p q : Value) (h1 : ∀ cs ds, p = .agg cs → q = .agg ds → False) (h2 : p = .nilIface → q = .nilIface → False) :
    (eqGuard op t ox oy p q).run P w = .ok () w := by
  unfold eqGuard
  cases op <;> first | rfl | (cases p <;> cases q <;> first | rfl | exact (h1 _ _ rfl rfl).elim | exact (h2 rfl rfl).elim)

set_option maxHeartbeats 1000000 in
theorem binOpA_sim (hT : TOk P TT) {op : BinOp} {t : TypeId} {x y v : AVal} {c d : Value} {ox oy : Operand} (h : Gives (binOpA TT op t x y) s v s1)
    (hx : VRel env Z w x c) (hy : VRel env Z w y d) :
    s1 = s ∧ ∃ u, (do eqGuard op t ox oy c d; binOp op t c d).run P w = .ok u w ∧ VRel env Z w v u := by
  unfold binOpA at h
  split at h
  · -- two bools
    rename_i p q
    cases hx
    cases hy
    have hg : (eqGuard op t ox oy (.bool p) (.bool q)).run P w = .ok () w := run_eqGuard_sc _ _ (fun _ _ h => (by cases h)) (fun h => (by cases h))
    split at h
    · rename_i ti ht
      split at h
      · rename_i hd
        obtain ⟨rfl, rfl⟩ := h.ret
        have hdd := hT.desc _ _ ht
        rw [hd] at hdd
        refine ⟨rfl, .bool (p == q), ?_, .sc _⟩
        simp only [Sem.run_bind, hg, Result.andThen_ok]
        exact run_eql_bool (run_equal_bool hdd w)
      · exact h.fail
    · rename_i ti ht
      split at h
      · rename_i hd
        obtain ⟨rfl, rfl⟩ := h.ret
        have hdd := hT.desc _ _ ht
        rw [hd] at hdd
        refine ⟨rfl, .bool (!(p == q)), ?_, .sc _⟩
        simp only [Sem.run_bind, hg, Result.andThen_ok]
        exact run_neq_bool (run_equal_bool hdd w)
      · exact h.fail
    · exact h.fail
  · rename_i p q hn
    cases hx
    cases hy
    obtain ⟨rfl, u, h1, rfl⟩ := binA_sim (t := t) (P := P) (w := w) h (fun a b e1 e2 => hn a b e1 e2)
    have hnil : (c = .nilIface → d = .nilIface → False) := fun e1 e2 => by subst e1 e2; cases op <;> exact h.fail
    have hagg : ∀ cs ds, c = .agg cs → d = .agg ds → False := fun cs ds e1 e2 => by subst e1 e2; cases op <;> exact h.fail
    exact ⟨rfl, u, by simp only [Sem.run_bind, run_eqGuard_sc c d hagg hnil, Result.andThen_ok]; exact h1, .sc _⟩
  · -- two structs
    rename_i l m
    cases hx with
    | agg _ cs hl hh =>
    cases hy with
    | agg _ ds hl' hh' =>
    have hx' : ∀ (i : Nat) (x : Value), l[i]? = some (.sc x) → cs[i]? = some x := fun i x hi => by
      have hlt : i < cs.size := by rw [← hl]; exact (List.getElem?_eq_some_iff.1 hi).1
      have := hh i (.sc x) cs[i] hi (by simp [hlt])
      cases this
      simp [hlt]
    have hy' : ∀ (i : Nat) (x : Value), m[i]? = some (.sc x) → ds[i]? = some x := fun i x hi => by
      have hlt : i < ds.size := by rw [← hl']; exact (List.getElem?_eq_some_iff.1 hi).1
      have := hh' i (.sc x) ds[i] hi (by simp [hlt])
      cases this
      simp [hlt]
    have main : ∀ ti fs b, TT t = some ti → ti.desc = .struct fs → ti.eqOk = true → eqFieldsN TT fs.toList l m = some b →
        (eqGuard op t ox oy (.agg cs) (.agg ds)).run P w = .ok () w ∧ (Op.equal t (.agg cs) (.agg ds)).run P w = .ok b w := by
      intro ti fs b ht hd hok he
      obtain ⟨h1, h2⟩ := hT.eqOk t ti ht hok
      have hdd := hT.desc _ _ ht
      rw [hd] at hdd
      constructor
      · unfold eqGuard
        cases op <;> first | rfl | (simp only [Bool.not_true, Bool.false_eq_true, if_false, Sem.run_bind, run_program, Result.andThen_ok, h2, Bool.not_false, if_true]; rfl)
      · have hu := run_underlying hdd w
        have key : ∀ n m, m = n + 2 → (Op.equalIn (m + 1) t (.agg cs) (.agg ds)).run P w = .ok b w := fun n m hm => by
          have hloop := eqFieldsN_sim hT n hl hl' hx' hy' fs.toList b he w
          simp only [Op.equalIn, Sem.run_bind, hu, Result.andThen_ok, run_program, h1, Bool.false_eq_true, if_false]
          subst hm
          rw [← Array.forIn_toList, hloop]
          cases b <;> rfl
        exact key 9997 9999 rfl
    split at h
    · rename_i ti ht
      split at h
      · rename_i fs hd
        split at h
        · rename_i hok
          split at h
          · rename_i b he
            obtain ⟨rfl, rfl⟩ := h.ret
            obtain ⟨h1, h2⟩ := main ti fs b ht hd hok he
            exact ⟨rfl, .bool b, by simp only [Sem.run_bind, h1, Result.andThen_ok]; exact run_eql_agg h2, .sc _⟩
          · exact h.fail
        · exact h.fail
      · exact h.fail
    · rename_i ti ht
      split at h
      · rename_i fs hd
        split at h
        · rename_i hok
          split at h
          · rename_i b he
            obtain ⟨rfl, rfl⟩ := h.ret
            obtain ⟨h1, h2⟩ := main ti fs b ht hd hok he
            exact ⟨rfl, .bool (!b), by simp only [Sem.run_bind, h1, Result.andThen_ok]; exact run_neq_agg h2, .sc _⟩
          · exact h.fail
        · exact h.fail
      · exact h.fail
    · exact h.fail
  · exact h.fail
end

end Go.Proofs.YteiniiakpdijmaaDoor.AI
