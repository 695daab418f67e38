/- Types told by the program; the functions' answers, one after the other. -/
import Derived.Test.YteiniiakpdijmaaDoorAI17
namespace Go.Proofs.YteiniiakpdijmaaDoor.AI
open Go.RowKit
set_option linter.unusedVariables false

def leafOf (P : Program) : Nat → TypeId → List LT
  | 0, _ => []
  | n + 1, t => match P.underlying t with
    | some .bool => [.bool]
    | some (.int k) => [.int k]
    | some .string => [.str]
    | some (.slice e) => [.sl e (P.cellsOf e)]
    | some (.struct fs) => fs.toList.flatMap fun f => leafOf P n f.type
    | some (.array m e) => (List.replicate m (leafOf P n e)).flatten
    | _ => match P.info? t with
      | some i => List.replicate i.size .other
      | none => []

/-- What the program tells of a type. -/
def ttOf (P : Program) (eq : Bool) (t : TypeId) : Option TI :=
  match P.underlying t, P.info? t with
  | some d, some i => match i.zero with
    | some z => if (leafOf P 8 t).length = i.size ∧ z.cells.toList.length = i.size ∧ z.cells.toList.all oneC = true then
        some ⟨d, i.size, i.bytes, z.cells.toList, leafOf P 8 t, eq && (!P.stoodInHeld t && !P.eqGuardType P.depth t)⟩ else none
    | none => none
  | _, _ => none

theorem ttOf_ok (P : Program) (eq : Bool) : TOk P (ttOf P eq) := by
  have key : ∀ t ti, ttOf P eq t = some ti → ∃ d i z, P.underlying t = some d ∧ P.info? t = some i ∧ i.zero = some z ∧ (leafOf P 8 t).length = i.size ∧ z.cells.toList.length = i.size ∧ z.cells.toList.all oneC = true ∧
      ti = ⟨d, i.size, i.bytes, z.cells.toList, leafOf P 8 t, eq && (!P.stoodInHeld t && !P.eqGuardType P.depth t)⟩ := by
    intro t ti h
    unfold ttOf at h
    split at h
    · rename_i d i hd hi
      split at h
      · rename_i z hz
        split at h
        · rename_i hc
          simp only [Option.some.injEq] at h
          exact ⟨d, i, z, hd, hi, hz, hc.1, hc.2.1, hc.2.2, h.symm⟩
        · cases h
      · cases h
    · cases h
  refine ⟨fun t ti h => ?_, fun t ti h he => ?_, fun t ti h => ?_⟩
  · obtain ⟨d, i, z, h1, h2, h3, h4, h5, h6, rfl⟩ := key t ti h
    exact h1
  · obtain ⟨d, i, z, h1, h2, h3, h4, h5, h6, rfl⟩ := key t ti h
    have he' : eq = true ∧ P.stoodInHeld t = false ∧ P.eqGuardType P.depth t = false := by simpa using he
    exact he'.2
  · obtain ⟨d, i, z, h1, h2, h3, h4, h5, h6, rfl⟩ := key t ti h
    exact ⟨i, z, h2, rfl, rfl, h3, rfl, h4, h5, fun c hc => List.all_eq_true.1 h6 c hc⟩

/-- A table of types that says what the program says. -/
def tabTT (l : List (Nat × TI)) : TypeId → Option TI :=
  fun t => match l with
  | [] => none
  | (k, ti) :: rest => bif Nat.beq k t then some ti else tabTT rest t

def TabOk (P : Program) (l : List (Nat × TI)) : Prop := ∀ p ∈ l, ∃ eq, ttOf P eq p.1 = some p.2
theorem TabOk.nil {P : Program} : TabOk P [] := fun p hp => (by cases hp)
theorem TabOk.cons {P : Program} {k : Nat} {ti : TI} {l : List (Nat × TI)} (eq : Bool) (h : ttOf P eq k = some ti) (hl : TabOk P l) : TabOk P ((k, ti) :: l) := fun p hp => by
  rcases List.mem_cons.1 hp with rfl | hp
  · exact ⟨eq, h⟩
  · exact hl p hp

theorem tabTT_ok {P : Program} {l : List (Nat × TI)} (h : TabOk P l) : TOk P (tabTT l) := by
  have key : ∀ (l : List (Nat × TI)), TabOk P l → ∀ t ti, tabTT l t = some ti → ∃ eq, ttOf P eq t = some ti := by
    intro l
    induction l with
    | nil => intro _ t ti h; cases h
    | cons p l ih =>
      obtain ⟨k, ti⟩ := p
      intro h t ti' ht
      simp only [tabTT] at ht
      cases hk : Nat.beq k t with
      | true =>
        rw [hk] at ht
        simp only [cond_true, Option.some.injEq] at ht
        subst ht
        rw [← nbeq_eq hk]
        exact h _ (.head _)
      | false =>
        rw [hk] at ht
        exact ih (fun p hp => h p (.tail _ hp)) t ti' ht
  have hk := key l h
  exact ⟨fun t ti ht => let ⟨eq, h⟩ := hk t ti ht; (ttOf_ok P eq).desc t ti h, fun t ti ht => let ⟨eq, h⟩ := hk t ti ht; (ttOf_ok P eq).eqOk t ti h, fun t ti ht => let ⟨eq, h⟩ := hk t ti ht; (ttOf_ok P eq).info t ti h⟩

def tabTU (l : List (Nat × List TypeId)) : TypeId → Option (List TypeId) :=
  fun t => match l with
  | [] => none
  | (k, ts) :: rest => bif Nat.beq k t then some ts else tabTU rest t

/-- One more function's answers. -/
def ext (f : FuncId) (S : List AVal → Call) (C : FuncId → List AVal → List Blk → Call) : FuncId → List AVal → List Blk → Call :=
  fun g us bs => bif Nat.beq f g && bs.isEmpty then S us else C g us bs
/-- One more function's answers where it is handed blocks. -/
def extH (f : FuncId) (S : List AVal → List Blk → Call) (C : FuncId → List AVal → List Blk → Call) : FuncId → List AVal → List Blk → Call :=
  fun g us bs => bif Nat.beq f g && !bs.isEmpty then S us bs else C g us bs

def noC : FuncId → List AVal → List Blk → Call := fun _ _ _ => Call.none

structure Lib (P : Program) (GL : Nat → Option (List AVal)) (C : FuncId → List AVal → List Blk → Call) : Prop where
  ok : COk P GL C
  fok : ∀ f us bs r, (C f us bs).o = some r → FOk P f

theorem Lib.none {P : Program} {GL : Nat → Option (List AVal)} : Lib P GL noC := ⟨⟨fun f us r h => (by cases h), fun f us b bs r h => (by cases h)⟩, fun f us bs r h => (by cases h)⟩

theorem fok_of {P : Program} {f : FuncId} {fn : Func} (hf : P.funcs[f]? = some fn) (h1 : (fn.name == "runtime.NumGoroutine") = false) (h2 : fn.body.isNone = false) : FOk P f := ⟨fn, hf, h1, h2⟩

theorem Lib.extD {P : Program} {TT : TypeId → Option TI} {TU : TypeId → Option (List TypeId)} {GL : Nat → Option (List AVal)} {C : FuncId → List AVal → List Blk → Call} {ownF : FuncId → Bool}
    (h : Lib P GL C) (hm : P.follows .mixedOrders = true) (hT : TOk P TT) {f : FuncId} {fn : Func} (hf : P.funcs[f]? = some fn) (hfok : FOk P f) {S : List AVal → Call} {own : Bool}
    (L : LT') (hL : ∀ p ∈ loopsOf fn, LoopOk TT TU GL C ownF L p)
    (hS : ∀ us r, (S us).o = some r → ∀ (env : Nat → Option Ent) (Z : Nat → Prop) (w : World) (cs : List Value), VRels env Z w us cs → ∃ us', VRels env Z w us' cs ∧ fcall TT TU GL C ownF own L fn us' = some ⟨true, r.res, [], r.news⟩) : Lib P GL (ext f S C) := by
  refine ⟨⟨fun g us r hr hp w Z0 cs hz hg ha => ?_, fun g us b bs r hr hp => ?_⟩, fun g us bs r hr => ?_⟩
  · simp only [AI.ext, List.isEmpty_nil, Bool.and_true] at hr
    cases hk : Nat.beq f g with
    | true =>
      rw [hk] at hr
      simp only [cond_true] at hr
      obtain ⟨us', hno, hn⟩ := hS us r hr _ _ _ _ ha
      rw [← nbeq_eq hk]
      refine (fcall_sim hm hT h.ok h.fok hf hL hn hz hg hno).mono ?_
      rintro e w' ⟨c, env', Z', rfl, hP⟩
      exact ⟨c, env', Z', rfl, ⟨hP.res, hP.news, hP.inj, hP.own, hP.z0, hP.znew, hP.zlt, hP.wider⟩⟩
    | false =>
      rw [hk] at hr
      exact h.ok.nil g us r hr hp w Z0 cs hz hg ha
  · simp only [AI.ext, List.isEmpty_cons, Bool.and_false, cond_false] at hr
    exact h.ok.hand g us b bs r hr hp
  · simp only [AI.ext] at hr
    cases hk : (Nat.beq f g && bs.isEmpty) with
    | true =>
      simp only [Bool.and_eq_true] at hk
      rw [← nbeq_eq hk.1]; exact hfok
    | false => rw [hk] at hr; exact h.fok g us bs r hr
theorem Lib.ext {P : Program} {TT : TypeId → Option TI} {TU : TypeId → Option (List TypeId)} {GL : Nat → Option (List AVal)} {C : FuncId → List AVal → List Blk → Call} {ownF : FuncId → Bool}
    (h : Lib P GL C) (hm : P.follows .mixedOrders = true) (hT : TOk P TT) {f : FuncId} {fn : Func} (hf : P.funcs[f]? = some fn) (hfok : FOk P f) {S : List AVal → Call} {own : Bool}
    (L : LT') (hL : ∀ p ∈ loopsOf fn, LoopOk TT TU GL C ownF L p)
    (hS : ∀ us r, (S us).o = some r → ∃ us', (∀ (env : Nat → Option Ent) (Z : Nat → Prop) (w : World) (cs : List Value), VRels env Z w us cs → VRels env Z w us' cs) ∧ fcall TT TU GL C ownF own L fn us' = some ⟨true, r.res, [], r.news⟩) : Lib P GL (ext f S C) :=
  h.extD hm hT hf hfok L hL fun us r hr env Z w cs hv => let ⟨us', h1, h2⟩ := hS us r hr; ⟨us', h1 env Z w cs hv, h2⟩
/-- The same of a function that puts off a call. -/
theorem Lib.extF {P : Program} {TT : TypeId → Option TI} {TU : TypeId → Option (List TypeId)} {GL : Nat → Option (List AVal)} {C : FuncId → List AVal → List Blk → Call} {ownF : FuncId → Bool}
    (h : Lib P GL C) (hm : P.follows .mixedOrders = true) (hT : TOk P TT) {f : FuncId} {fn : Func} (hf : P.funcs[f]? = some fn) (hfok : FOk P f) {S : List AVal → Call} {own : Bool}
    (L : LT') (hL : ∀ p ∈ loopsOf fn, LoopOk TT TU GL C ownF L p) {fD : FuncId} {RD : List AVal → Call} (hD : DOk P GL fD RD)
    (hS : ∀ us r, (S us).o = some r → ∃ us', (∀ (env : Nat → Option Ent) (Z : Nat → Prop) (w : World) (cs : List Value), VRels env Z w us cs → VRels env Z w us' cs) ∧ fcallD TT TU GL C ownF own L fD RD fn us' = some ⟨true, r.res, [], r.news⟩) : Lib P GL (AI.ext f S C) := by
  refine ⟨⟨fun g us r hr hp w Z0 cs hz hg ha => ?_, fun g us b bs r hr hp => ?_⟩, fun g us bs r hr => ?_⟩
  · simp only [AI.ext, List.isEmpty_nil, Bool.and_true] at hr
    cases hk : Nat.beq f g with
    | true =>
      rw [hk] at hr
      simp only [cond_true] at hr
      obtain ⟨us', hno, hn⟩ := hS us r hr
      rw [← nbeq_eq hk]
      refine (fcallD_sim hm hT h.ok h.fok hf hL hD hn hz hg (hno _ _ _ _ ha)).mono ?_
      rintro e w' ⟨c, env', Z', rfl, hP⟩
      exact ⟨c, env', Z', rfl, ⟨hP.res, hP.news, hP.inj, hP.own, hP.z0, hP.znew, hP.zlt, hP.wider⟩⟩
    | false =>
      rw [hk] at hr
      exact h.ok.nil g us r hr hp w Z0 cs hz hg ha
  · simp only [AI.ext, List.isEmpty_cons, Bool.and_false, cond_false] at hr
    exact h.ok.hand g us b bs r hr hp
  · simp only [AI.ext] at hr
    cases hk : (Nat.beq f g && bs.isEmpty) with
    | true =>
      simp only [Bool.and_eq_true] at hk
      rw [← nbeq_eq hk.1]; exact hfok
    | false => rw [hk] at hr; exact h.fok g us bs r hr
theorem Lib.extHD {P : Program} {TT : TypeId → Option TI} {TU : TypeId → Option (List TypeId)} {GL : Nat → Option (List AVal)} {C : FuncId → List AVal → List Blk → Call} {ownF : FuncId → Bool}
    (h : Lib P GL C) (hm : P.follows .mixedOrders = true) (hT : TOk P TT) {f : FuncId} {fn : Func} (hf : P.funcs[f]? = some fn) (hfok : FOk P f) {S : List AVal → List Blk → Call}
    (L : LT') (hL : ∀ p ∈ loopsOf fn, LoopOk TT TU GL C ownF L p)
    (hS : ∀ us bs r, (S us bs).o = some r → bs.length ≤ 1000 ∧ ∀ (env : Nat → Option Ent) (Z : Nat → Prop) (w : World) (cs : List Value), VRels env Z w us cs → ∃ us', VRels env Z w us' cs ∧ fcallH TT TU GL C ownF L fn us' (numK 0 bs) = some r) : Lib P GL (extH f S C) := by
  refine ⟨⟨fun g us r hr hp => ?_, fun g us b bs r hr hp w Z0 env0 cs hz hg hHP ha => ?_⟩, fun g us bs r hr => ?_⟩
  · simp only [AI.extH, List.isEmpty_nil, Bool.not_true, Bool.and_false, cond_false] at hr
    exact h.ok.nil g us r hr hp
  · simp only [AI.extH, List.isEmpty_cons, Bool.not_false, Bool.and_true] at hr
    cases hk : Nat.beq f g with
    | true =>
      rw [hk] at hr
      simp only [cond_true] at hr
      obtain ⟨hl, hx⟩ := hS us (b :: bs) r hr
      obtain ⟨us', hno, hn⟩ := hx _ _ _ _ ha
      rw [← nbeq_eq hk]
      exact fcallH_sim hm hT h.ok h.fok hf hL hn hl hz hg hHP hno
    | false =>
      rw [hk] at hr
      exact h.ok.hand g us b bs r hr hp w Z0 env0 cs hz hg hHP ha
  · simp only [AI.extH] at hr
    cases hk : (Nat.beq f g && !bs.isEmpty) with
    | true =>
      simp only [Bool.and_eq_true] at hk
      rw [← nbeq_eq hk.1]; exact hfok
    | false => rw [hk] at hr; exact h.fok g us bs r hr
end Go.Proofs.YteiniiakpdijmaaDoor.AI
