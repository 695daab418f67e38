/- Loops and functions told by plain functions. -/
import Derived.Test.YteiniiakpdijmaaDoorAI19
namespace Go.Proofs.YteiniiakpdijmaaDoor.AI
open Go.RowKit
set_option linter.unusedVariables false

section
variable {P : Program} {TT : TypeId → Option TI} {TU : TypeId → Option (List TypeId)} {GL : Nat → Option (List AVal)} {C : FuncId → List AVal → List Blk → Call} {ownF : FuncId → Bool}

/-! ### Along the branches -/
section
variable {T U : Type} {f : T → Option CR} {A B : Option CR} {A' B' : Option T} {c c' : Bool} {Y : Option CR}
theorem n_cond (hc : c = c') (h1 : A = A'.bind f) (h2 : B = B'.bind f) : (bif c then A else B) = (bif c' then A' else B').bind f := by
  subst hc
  cases c with
  | true => exact h1
  | false => exact h2
theorem n_condH (hc : c = c') (h1 : c' = true → A = A'.bind f) (h2 : c' = false → B = B'.bind f) : (bif c then A else B) = (bif c' then A' else B').bind f := by
  subst hc
  cases c with
  | true => exact h1 rfl
  | false => exact h2 rfl
theorem n_al {a b : Bool} (h : (a && b) = true) : a = true := by cases a <;> first | rfl | cases h
theorem n_ar {a b : Bool} (h : (a && b) = true) : b = true := by cases a <;> cases b <;> first | rfl | cases h
theorem n_ol {a b : Bool} (h : (a || b) = false) : a = false := by cases a <;> first | rfl | cases h
theorem n_or {a b : Bool} (h : (a || b) = false) : b = false := by cases a <;> cases b <;> first | rfl | cases h
theorem n_nt {a : Bool} (h : (!a) = true) : a = false := by cases a <;> first | rfl | cases h
theorem n_nf {a : Bool} (h : (!a) = false) : a = true := by cases a <;> first | rfl | cases h
theorem n_tn {a : Bool} (h : a = true) : (!a) = false := by rw [h]; rfl
theorem n_fn {a : Bool} (h : a = false) : (!a) = true := by rw [h]; rfl
theorem n_ne {i p q : Int} (h : decide (i = p) = true) (hpq : decide (p = q) = false) : decide (i = q) = false := by
  have h := of_decide_eq_true h
  subst h
  exact hpq
theorem n_true (hc : c = true) (h : A = Y) : (bif c then A else B) = Y := by rw [hc]; exact h
theorem n_false (hc : c = false) (h : B = Y) : (bif c then A else B) = Y := by rw [hc]; exact h
theorem n_bind {x : Option U} {K : U → Option CR} {K' : U → Option T} (h : ∀ u, K u = (K' u).bind f) : x.bind K = (x.bind K').bind f := by
  cases x with
  | none => rfl
  | some u => exact h u
theorem n_none : (none : Option CR) = (none : Option T).bind f := rfl
theorem n_andL {a b b' : Bool} (ha : a = true) (hb : b = b') : (a && b) = b' := by rw [ha, hb]; rfl
theorem n_andF {a b : Bool} (ha : a = false) : (a && b) = false := by rw [ha]; rfl
theorem n_andR {a a' b : Bool} (ha : a = a') (hb : b = true) : (a && b) = a' := by rw [ha, hb]; exact Bool.and_true _
theorem n_and {a a' b b' : Bool} (ha : a = a') (hb : b = b') : (a && b) = (a' && b') := by rw [ha, hb]
end

/-! ### Loops -/
/-- A loop's answer, from the rounds that it takes. -/
theorem loopOk_of {L : LT'} {p : Nat × Code} (ks : List SK) (hs : List HK) (W : Ex → List Bool) (m : Nat) (B : St → (Ex → St → Option CR) → Option CR)
    (hL : ∀ s k, L p.1 s k = bif chkS ks hs (maskS (maskOf ks) s) then B (maskS (maskOf ks) s) k else none)
    (hB : ∀ s k, loopN (bodyOf TT TU GL C ownF L p) m (decS ks hs s) (fun e s' => k e (maskS (W e) s')) = B s k) : LoopOk TT TU GL C ownF L p := by
  intro s k r h
  rw [hL] at h
  cases hc : chkS ks hs (maskS (maskOf ks) s) with
  | false => rw [hc] at h; cases h
  | true =>
    rw [hc] at h
    simp only [cond_true] at h
    refine ⟨m, maskOf ks, W, ?_⟩
    rw [← hB, chkS_dec hc, maskS_twice] at h
    exact h

/-- Loop 'i' of a function. -/
def lp (fn : Func) (i : Nat) : Nat × Code := (loopsOf fn).getD i (0, .skip)

theorem loops_of {fn : Func} {Q : Nat × Code → Prop} (n : Nat) (h : (loopsOf fn).length = n) (hq : ∀ i, i < n → Q (lp fn i)) : ∀ p ∈ loopsOf fn, Q p := by
  intro p hp
  obtain ⟨i, hi, rfl⟩ := List.mem_iff_getElem.1 hp
  have := hq i (by omega)
  simpa [lp, List.getD, hi] using this
theorem below0 {Q : Nat → Prop} : ∀ i, i < 0 → Q i := fun i h => absurd h (Nat.not_lt_zero i)
theorem belowS {Q : Nat → Prop} {n : Nat} (h : ∀ i, i < n → Q i) (hn : Q n) : ∀ i, i < n + 1 → Q i := fun i hi => by
  rcases Nat.lt_or_ge i n with h' | h'
  · exact h i h'
  · obtain rfl : i = n := by omega
    exact hn

def hasLoop : Code → Bool
  | .seq a b => hasLoop a || hasLoop b
  | .cond _ a b => hasLoop a || hasLoop b
  | .block _ c => hasLoop c
  | .loop _ => true
  | _ => false

theorem exec_noLoop (L L' : LT') : ∀ (c : Code) (i : Nat) (s : St) (k : Ex → St → Option CR), hasLoop c = false → exec TT TU GL C ownF L c i s k = exec TT TU GL C ownF L' c i s k := by
  intro c
  induction c with
  | seq a b iha ihb =>
    intro i s k h
    simp only [hasLoop, Bool.or_eq_false_iff] at h
    simp only [exec]
    rw [iha _ _ _ h.1]
    congr 1
    funext e s'
    cases e with
    | normal => exact ihb _ _ _ h.2
    | _ => rfl
  | cond c a b iha ihb =>
    intro i s k h
    simp only [hasLoop, Bool.or_eq_false_iff] at h
    simp only [exec]
    split
    · split
      · rw [iha _ _ _ h.1, ihb _ _ _ h.2]
      · rfl
    · rw [iha _ _ _ h.1, ihb _ _ _ h.2]
    · rfl
  | block id c ih =>
    intro i s k h
    simp only [exec]
    exact ih _ _ _ h
  | loop c => intro i s k h; cases h
  | _ => intro i s k h; rfl

/-- A loop of few rounds, gone through. -/
theorem loopOk_unroll {L : LT'} {p : Nat × Code} (m : Nat) (M : List Bool) (W : Ex → List Bool) (hn : hasLoop p.2 = false)
    (hL : ∀ s k, L p.1 s k = loopN (bodyOf TT TU GL C ownF noL p) m (maskS M s) (fun e s' => k e (maskS (W e) s'))) : LoopOk TT TU GL C ownF L p := by
  intro s k r h
  rw [hL] at h
  refine ⟨m, M, W, ?_⟩
  have : bodyOf TT TU GL C ownF L p = bodyOf TT TU GL C ownF noL p := by
    funext s k
    unfold bodyOf
    cases Nat.ble 1000 p.1 with
    | true => exact exec_noLoop _ _ _ _ _ _ hn
    | false => exact exec_noLoop _ _ _ _ _ _ hn
  rw [this]
  exact h

/-! ### Functions -/
/-- One more function, told by a plain one. -/
theorem Lib.fn (h : Lib P GL C) (hm : P.follows .mixedOrders = true) (hT : TOk P TT) {f : FuncId} {fn : Func} (hf : P.funcs[f]? = some fn) (h1 : (fn.name == "runtime.NumGoroutine") = false) (h2 : fn.body.isNone = false)
    (own : Bool) (L : LT') (hL : ∀ p ∈ loopsOf fn, LoopOk TT TU GL C ownF L p) {S : List AVal → Call} (ks : List SK) {T : Type} {F : List AVal → Option T} {enc : T → CR}
    (hS : ∀ us, S us = bif chkA ks us then Call.of (F us) enc else Call.none)
    (hrun : ∀ us, fcall TT TU GL C ownF own L fn (decA ks us) = (F us).bind fun t => some (enc t))
    (henc : ∀ t, enc t = ⟨true, (enc t).res, [], (enc t).news⟩) : Lib P GL (AI.ext f S C) := by
  refine h.ext hm hT hf (fok_of hf h1 h2) L hL (own := own) fun us r hr => ?_
  rw [hS] at hr
  cases hc : chkA ks us with
  | false => rw [hc] at hr; cases hr
  | true =>
    rw [hc] at hr
    simp only [cond_true, Call.of] at hr
    refine ⟨decA ks us, chkA_norm hc, ?_⟩
    rw [hrun]
    cases hF : F us with
    | none => rw [hF] at hr; cases hr
    | some t =>
      rw [hF] at hr
      simp only [Option.map_some, Option.some.injEq] at hr
      subst hr
      simp only [Option.bind_some]
      rw [← henc]

/-- A function whose call may be put off. -/
theorem DOk.fn (h : Lib P GL C) (hm : P.follows .mixedOrders = true) (hT : TOk P TT) {f : FuncId} {fn : Func} (hf : P.funcs[f]? = some fn) (h1 : (fn.name == "runtime.NumGoroutine") = false) (h2 : fn.body.isNone = false)
    (own : Bool) (L : LT') (hL : ∀ p ∈ loopsOf fn, LoopOk TT TU GL C ownF L p) {S : List AVal → Call} (ks : List SK) {T : Type} {F : List AVal → Option T} {enc : T → CR}
    (hS : ∀ us, S us = bif chkA ks us then Call.of (F us) enc else Call.none)
    (hrun : ∀ us, fcall TT TU GL C ownF own L fn (decA ks us) = (F us).bind fun t => some (enc t))
    (henc : ∀ t, enc t = ⟨true, (enc t).res, [], (enc t).news⟩) : DOk P GL f S := by
  refine dOk_of hm hT h.ok h.fok hf (fok_of hf h1 h2) hL (own := own) fun us r hr => ?_
  rw [hS] at hr
  cases hc : chkA ks us with
  | false => rw [hc] at hr; cases hr
  | true =>
    rw [hc] at hr
    simp only [cond_true, Call.of] at hr
    refine ⟨decA ks us, chkA_norm hc, ?_⟩
    rw [hrun]
    cases hF : F us with
    | none => rw [hF] at hr; cases hr
    | some t =>
      rw [hF] at hr
      simp only [Option.map_some, Option.some.injEq] at hr
      subst hr
      simp only [Option.bind_some]
      rw [← henc]

/-- The same of a function that puts off a call. -/
theorem Lib.fnF (h : Lib P GL C) (hm : P.follows .mixedOrders = true) (hT : TOk P TT) {f : FuncId} {fn : Func} (hf : P.funcs[f]? = some fn) (h1 : (fn.name == "runtime.NumGoroutine") = false) (h2 : fn.body.isNone = false)
    (own : Bool) (L : LT') (hL : ∀ p ∈ loopsOf fn, LoopOk TT TU GL C ownF L p) {fD : FuncId} {RD : List AVal → Call} (hD : DOk P GL fD RD) {S : List AVal → Call} (ks : List SK) {T : Type} {F : List AVal → Option T} {enc : T → CR}
    (hS : ∀ us, S us = bif chkA ks us then Call.of (F us) enc else Call.none)
    (hrun : ∀ us, fcallD TT TU GL C ownF own L fD RD fn (decA ks us) = (F us).bind fun t => some (enc t))
    (henc : ∀ t, enc t = ⟨true, (enc t).res, [], (enc t).news⟩) : Lib P GL (AI.ext f S C) := by
  refine h.extF hm hT hf (fok_of hf h1 h2) L hL (own := own) hD fun us r hr => ?_
  rw [hS] at hr
  cases hc : chkA ks us with
  | false => rw [hc] at hr; cases hr
  | true =>
    rw [hc] at hr
    simp only [cond_true, Call.of] at hr
    refine ⟨decA ks us, chkA_norm hc, ?_⟩
    rw [hrun]
    cases hF : F us with
    | none => rw [hF] at hr; cases hr
    | some t =>
      rw [hF] at hr
      simp only [Option.map_some, Option.some.injEq] at hr
      subst hr
      simp only [Option.bind_some]
      rw [← henc]

/-- A function that copies a slice: one answer where there is something in it (the interpreter's), and one where there is nothing, be it nil or not. -/
theorem Lib.clone (h : Lib P GL C) (hm : P.follows .mixedOrders = true) (hT : TOk P TT) {f : FuncId} {fn : Func} (hf : P.funcs[f]? = some fn) (h1 : (fn.name == "runtime.NumGoroutine") = false) (h2 : fn.body.isNone = false)
    (own : Bool) (L : LT') (hL : ∀ p ∈ loopsOf fn, LoopOk TT TU GL C ownF L p) {S : List AVal → Call} (E : Nat) {F1 : List (List AVal) → Option (List (List AVal))} {enc : List (List AVal) → CR}
    (hS : ∀ us, S us = bif chkA [.f (.ro E)] us then Call.of (bif (roRows (cIa us 0)).isEmpty then some [] else F1 (roRows (cIa us 0))) enc else Call.none)
    (hrun : ∀ rows, fcall TT TU GL C ownF own L fn [.ro E rows] = (F1 rows).bind fun t => some (enc t))
    (he : ∀ a cap, fcall TT TU GL C ownF own L fn [.sc (.slice a 0 cap)] = some (enc []))
    (henc : ∀ t, enc t = ⟨true, (enc t).res, [], (enc t).news⟩) : Lib P GL (AI.ext f S C) := by
  refine h.extD hm hT hf (fok_of hf h1 h2) L hL (own := own) fun us r hr env Z w cs hv => ?_
  rw [hS] at hr
  cases hc : chkA [.f (.ro E)] us with
  | false => rw [hc] at hr; cases hr
  | true =>
    rw [hc] at hr
    simp only [cond_true, Call.of] at hr
    have hn := chkA_norm hc env Z w cs hv
    have hd : decA [.f (.ro E)] us = [.ro E (roRows (cIa us 0))] := rfl
    rw [hd] at hn
    generalize roRows (cIa us 0) = rows at hr hn
    cases hemp : rows.isEmpty with
    | false =>
      rw [hemp] at hr
      simp only [cond_false] at hr
      refine ⟨_, hn, ?_⟩
      rw [hrun]
      cases hF : F1 rows with
      | none => rw [hF] at hr; cases hr
      | some t =>
        rw [hF] at hr
        simp only [Option.map_some, Option.some.injEq] at hr
        subst hr
        simp only [Option.bind_some]
        rw [← henc]
    | true =>
      rw [hemp] at hr
      simp only [cond_true, Option.map_some, Option.some.injEq] at hr
      subst hr
      obtain rfl : rows = [] := List.isEmpty_iff.1 hemp
      obtain ⟨c, ds, rfl, h3, h4⟩ := hn.inv
      have := h4.inv_nil
      subst this
      have hz : ∃ a cap, c = .slice a 0 cap := by
        cases h3 with
        | roE _ a cap => exact ⟨a, cap, rfl⟩
        | ro _ _ b o cap => exact ⟨_, cap, rfl⟩
      obtain ⟨a, cap, rfl⟩ := hz
      refine ⟨[.sc (.slice a 0 cap)], .cons (.sc _) .nil, ?_⟩
      rw [he, ← henc]

theorem mask_rels {env : Nat → Option Ent} {Z : Nat → Prop} {w : World} {us : List AVal} {cs : List Value} (m : List Bool) (h : VRels env Z w us cs) : VRels env Z w (maskT m us) cs := by
  refine ⟨by rw [maskT_length]; exact h.1, fun i v c q1 q2 => ?_⟩
  have hi : i < us.length := by rw [← maskT_length m us]; exact (List.getElem?_eq_some_iff.1 q1).1
  have e : (maskT m us).getD i .dead = v := by rw [List.getD_eq_getElem?_getD, q1]; rfl
  rcases maskT_get m us i with h' | h'
  · rw [e] at h'
    have : us[i]? = some v := by rw [h', List.getD_eq_getElem?_getD, List.getElem?_eq_getElem hi]; rfl
    exact h.2 i v c this q2
  · rw [e] at h'
    rw [h']
    exact .dead _
/-- One more function that is handed blocks, told by a plain one. -/
theorem Lib.fnH (h : Lib P GL C) (hm : P.follows .mixedOrders = true) (hT : TOk P TT) {f : FuncId} {fn : Func} (hf : P.funcs[f]? = some fn) (h1 : (fn.name == "runtime.NumGoroutine") = false) (h2 : fn.body.isNone = false)
    (L : LT') (hL : ∀ p ∈ loopsOf fn, LoopOk TT TU GL C ownF L p) {S : List AVal → List Blk → Call} (ks : List SK) (hs : List HK) (hlen : Nat.ble hs.length 1000 = true) {T : Type} {F : List AVal → List (Nat × Blk) → Option T} {enc : List AVal → List (Nat × Blk) → T → CR}
    (hS : ∀ us bs, S us bs = Call.guard (chkS ks hs ⟨us, numK 0 bs⟩) (Call.of (F us (numK 0 bs)) (enc us (numK 0 bs))))
    (hrun : ∀ us H, fcallH TT TU GL C ownF L fn (decT H ks 0 us) (decH H hs 0) = (F us H).bind fun t => some (enc us H t)) : Lib P GL (AI.extH f S C) := by
  refine h.extHD hm hT hf (fok_of hf h1 h2) L hL fun us bs r hr => ?_
  rw [hS] at hr
  cases hc : chkS ks hs ⟨us, numK 0 bs⟩ with
  | false => rw [hc] at hr; simp [Call.guard] at hr
  | true =>
    rw [hc] at hr
    simp only [Call.guard, cond_true, Call.of] at hr
    have hd := chkS_dec hc
    simp only [decS, maskS0, St.mk.injEq] at hd
    have hbl : bs.length ≤ 1000 := by
      simp only [chkS, Bool.and_eq_true] at hc
      have := nbeq_eq hc.1.1.2
      rw [numK_length] at this
      have h3 := Nat.le_of_ble_eq_true hlen
      omega
    refine ⟨hbl, fun env Z w cs hv => ⟨maskT (maskOf ks) us, mask_rels _ hv, ?_⟩⟩
    have hrn := hrun us (numK 0 bs)
    rw [hd.1, hd.2] at hrn
    rw [hrn]
    cases hF : F us (numK 0 bs) with
    | none => rw [hF] at hr; cases hr
    | some t =>
      rw [hF] at hr
      simpa using hr
end
end Go.Proofs.YteiniiakpdijmaaDoor.AI
