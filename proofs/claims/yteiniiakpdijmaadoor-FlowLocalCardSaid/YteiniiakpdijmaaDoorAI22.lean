/- The row of a law. -/
import Derived.Test.YteiniiakpdijmaaDoorAI21
import Derived.WalkKit
import Derived.ProofKit
import Derived.OpenShut
import Derived.Carry
namespace Go.Proofs.YteiniiakpdijmaaDoor.AI
open Go.RowKit
set_option linter.unusedVariables false

section
variable {P : Program} {W : World} {H : Type} {enc : TypeId × Value → H}

/-- An argument that was handed over. -/
def ArgOk (P : Program) (t : TypeId) (a : AVal) : Prop :=
  match P.underlying t with
  | some (.struct _) | some (.array _ _) => ∃ l, a = .agg l ∧ TyL P (leafOf P 8 t) l
  | _ => ∃ lt, leafOf P 8 t = [lt] ∧ Ty P lt a
def ArgsOk (P : Program) : List TypeId → List AVal → Prop
  | [], [] => True
  | t :: ts, a :: us => ArgOk P t a ∧ ArgsOk P ts us
  | _, _ => False

theorem open_arg {base : Nat} {t : TypeId} {v : Value} {d : DataW H} {p : List MemPlace} (hs : shapeOk P 8 t = true) (hv : Value.okWide P W .any base t v) (h : DataW.Trod enc P W 0 (fun _ => true) true t v d p) (hw : wOk P t d) :
    ∃ a, VRel (fun _ => none) (ZW W) W a v ∧ ArgOk P t a := by
  obtain ⟨fuel, h⟩ := h
  obtain ⟨l, h1, h2⟩ := open_trod fuel 8 t _ _ (Nat.le_refl _) hs h hw
  unfold ArgOk
  have hs' := hs
  obtain ⟨m, hm⟩ : ∃ m, m + 1 = 8 := ⟨7, rfl⟩
  rw [← hm] at hs'
  simp only [shapeOk] at hs'
  have agg : ∀ cs, v = .agg cs → ∃ a, VRel (fun _ => none) (ZW W) W a v ∧ ∃ l, a = .agg l ∧ TyL P (leafOf P 8 t) l := by
    rintro cs rfl
    have hl := h1.1
    exact ⟨.agg l, .agg _ _ (by simpa [Value.cells] using hl) fun i u c q1 q2 => h1.2 i u c q1 (by simpa [Value.cells] using q2), l, rfl, h2⟩
  have one : v.cells = #[v] → (leafOf P 8 t).length = 1 → ∃ a, VRel (fun _ => none) (ZW W) W a v ∧ ∃ lt, leafOf P 8 t = [lt] ∧ Ty P lt a := by
    intro hc hlen
    rw [hc] at h1
    match hlf : leafOf P 8 t, hlen with
    | [lt], _ =>
      rw [hlf] at h2
      obtain ⟨a, rfl⟩ := List.length_eq_one_iff.1 h2.1
      exact ⟨a, h1.2 0 a v rfl rfl, lt, rfl, h2.2 0 lt a rfl rfl⟩
  cases hu : P.underlying t with
  | none => rw [hu] at hs'; cases hs'
  | some d =>
    rw [hu] at hs'
    simp only [Value.okWide, hu, Cell.okWide] at hv
    cases d with
    | struct fs =>
      obtain ⟨cs, rfl, _⟩ := hv
      exact agg cs rfl
    | array m e =>
      obtain ⟨cs, rfl, _⟩ := hv
      exact agg cs rfl
    | bool =>
      refine one ?_ (by rw [← hm]; simp only [leafOf, hu]; rfl)
      cases v <;> first | rfl | (simp [Cell.ok, hu] at hv)
    | int k =>
      refine one ?_ (by rw [← hm]; simp only [leafOf, hu]; rfl)
      cases v <;> first | rfl | (simp [Cell.ok, hu] at hv)
    | string =>
      refine one ?_ (by rw [← hm]; simp only [leafOf, hu]; rfl)
      cases v <;> first | rfl | (simp [Cell.ok, hu] at hv)
    | slice e =>
      refine one ?_ (by rw [← hm]; simp only [leafOf, hu]; rfl)
      cases v <;> first | rfl | (simp [Cell.ok, hu] at hv)
    | _ => cases hs'

theorem open_args {base : Nat} : ∀ {ts : List TypeId} {vs : List Value} {ds : List (DataW H)} {ps : List MemPlace}, ts.all (shapeOk P 8) = true → (∀ (j : Nat) t v, ts[j]? = some t → vs[j]? = some v → Value.okWide P W .any base t v) →
    DataW.TrodAll enc P W 0 (fun _ => true) true ts vs ds ps → (DataW.weightsEach P ts ds).all (· ≤ reachBytes) = true → ∃ us, VRels (fun _ => none) (ZW W) W us vs ∧ ArgsOk P ts us
  | [], [], [], _, _, _, _, _ => ⟨[], .nil, trivial⟩
  | t :: ts, v :: vs, d :: ds, _, hs, hv, h, hw => by
    obtain ⟨p, q, h1, h2, _⟩ := h
    simp only [List.all_cons, Bool.and_eq_true] at hs
    obtain ⟨w1, w2⟩ := wEach_cons hw
    obtain ⟨a, q1, q2⟩ := open_arg hs.1 (hv 0 t v rfl rfl) h1 w1
    obtain ⟨us, q3, q4⟩ := open_args hs.2 (fun j t v ht hv' => hv (j + 1) t v (by simpa using ht) (by simpa using hv')) h2 w2
    exact ⟨a :: us, .cons q1 q3, q2, q4⟩
  | [], _ :: _, _, _, _, _, h, _ => h.elim
  | [], [], _ :: _, _, _, _, h, _ => h.elim
  | _ :: _, [], _, _, _, _, h, _ => h.elim
  | _ :: _, _ :: _, [], _, _, _, h, _ => h.elim

theorem weights_left : ∀ {ts us : List TypeId} {ds gs : List (DataW H)}, (DataW.weightsEach P (ts ++ us) (ds ++ gs)).all (· ≤ reachBytes) = true → (DataW.weightsEach P ts ds).all (· ≤ reachBytes) = true
  | [], us, ds, gs, h => by cases ds <;> rfl
  | t :: ts, us, [], gs, h => rfl
  | t :: ts, us, d :: ds, gs, h => by
    obtain ⟨w1, w2⟩ := wEach_cons (h : (DataW.weightsEach P (t :: (ts ++ us)) (d :: (ds ++ gs))).all (· ≤ reachBytes) = true)
    simp only [DataW.weightsEach, List.all_append, Bool.and_eq_true]
    exact ⟨w1, weights_left w2⟩
/-- What the arguments read behind the call. -/
theorem back_args (hl : laidOutB P = true) {W' : World} (hb : Below W.heap.size W W') : ∀ {ts : List TypeId} {vs : List Value} {ds : List (DataW H)} {ps : List MemPlace}, ts.all (fun t => P.readableRec t && decide (t < P.types.size)) = true →
    DataW.TrodAll enc P W 0 (fun _ => true) true ts vs ds ps → DataW.TrodAll enc P W' 0 (fun b => decide (b < W.heap.size)) true ts vs ds ps
  | [], [], [], _, _, h => h
  | t :: ts, v :: vs, d :: ds, _, hs, h => by
    obtain ⟨p, q, h1, h2, rfl⟩ := h
    simp only [List.all_cons, Bool.and_eq_true, decide_eq_true_eq] at hs
    refine ⟨p, q, Below.trod hl hs.1.1 hs.1.2 h1 hb ?_, back_args hl hb (by simpa using hs.2) h2, rfl⟩
    obtain ⟨m, hm⟩ := h1
    exact DataW.trod_lt m _ _ _ hm
  | [], _ :: _, _, _, _, h => h.elim
  | [], [], _ :: _, _, _, h => h.elim
  | _ :: _, [], _, _, _, h => h.elim
  | _ :: _, _ :: _, [], _, _, h => h.elim

/-- A law's call: it answers true, and leaves what was there. -/
theorem law_calls_g {GL : Nat → Option (List AVal)} {C : FuncId → List AVal → List Blk → Call} (hlib : Lib P GL C) (hgl : ∀ g l, GL g = some l → VRel (fun _ => none) (ZW W) W (.rptr l) (.pointer (some ⟨g, 0, none⟩))) {f : FuncId} {args : Array Value} {us : List AVal} (hv : VRels (fun _ => none) (ZW W) W us args.toList)
    (h : (C f us []).o = some ⟨true, bo true, [], []⟩) : Calls P f args W fun e W' => e = .returned (.bool true) ∧ Below W.heap.size W W' := by
  refine (hlib.ok.nil f us _ h rfl W (ZW W) args (fun _ h => h) hgl hv).mono ?_
  rintro e W' ⟨c, env', Z', rfl, hP⟩
  have : c = .bool true := by
    have hr := hP.res
    cases hr
    rfl
  subst this
  exact ⟨rfl, hP.wider.os, hP.wider.tape, hP.wider.output, hP.wider.size, hP.wider.block⟩
theorem law_calls {C : FuncId → List AVal → List Blk → Call} (hlib : Lib P noG C) {f : FuncId} {args : Array Value} {us : List AVal} (hv : VRels (fun _ => none) (ZW W) W us args.toList)
    (h : (C f us []).o = some ⟨true, bo true, [], []⟩) : Calls P f args W fun e W' => e = .returned (.bool true) ∧ Below W.heap.size W W' :=
  law_calls_g hlib (fun g l hg => by cases hg) hv h
end
end Go.Proofs.YteiniiakpdijmaaDoor.AI
