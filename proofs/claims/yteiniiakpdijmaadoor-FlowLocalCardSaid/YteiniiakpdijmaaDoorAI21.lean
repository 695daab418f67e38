/- What a row hands over, told as abstract values; the row of a law. -/
import Derived.Test.YteiniiakpdijmaaDoorAI20
import Derived.WalkKit
import Derived.ProofKit
import Derived.OpenShut
import Derived.ShutString
import Derived.ChangeOld
import Derived.Below
import Derived.SizedLaws
import Derived.DataReads
import Derived.Carry
namespace Go.Proofs.YteiniiakpdijmaaDoor.AI
open Go.RowKit
set_option linter.unusedVariables false

/-- A cell that can be read, by its type. -/
inductive Ty (P : Program) : LT → AVal → Prop where
  | int (k : IntKind) (n : Int) (h : (Lit.int k n).wf = true) : Ty P (.int k) (.sc (.int k n))
  | bool (b : Bool) : Ty P .bool (.sc (.bool b))
  | str (s : ByteArray) (h : s.size ≤ maxLen) (hb : s.size ≤ reachBytes) : Ty P .str (.sc (.string s))
  | sl (T : TypeId) (E : Nat) (rows : List (List AVal)) (hl : rows.length ≤ maxLen) (hb : rows.length * P.bytesOf T ≤ reachBytes) (hn : ∀ r ∈ rows, r.length = (leafOf P 8 T).length)
      (h : ∀ r ∈ rows, ∀ (j : Nat) (t : LT) (v : AVal), (leafOf P 8 T)[j]? = some t → r[j]? = some v → Ty P t v) : Ty P (.sl T E) (.ro E rows)
def TyL (P : Program) (ts : List LT) (l : List AVal) : Prop := l.length = ts.length ∧ ∀ (j : Nat) (t : LT) (v : AVal), ts[j]? = some t → l[j]? = some v → Ty P t v

theorem Ty.flat {P : Program} {t : LT} {v : AVal} (h : Ty P t v) : flat v = true := by cases h <;> rfl

/-- A type whose values are told: laid out as its leaves say. -/
def fieldsOk (P : Program) (rec : TypeId → Bool) : List Field → Nat → Bool
  | [], _ => true
  | f :: fs, o => Nat.beq f.offset o && rec f.type && fieldsOk P rec fs (o + P.cellsOf f.type)
def fieldsSum (P : Program) : List Field → Nat
  | [] => 0
  | f :: fs => P.cellsOf f.type + fieldsSum P fs
def shapeOk (P : Program) : Nat → TypeId → Bool
  | 0, _ => false
  | n + 1, t => match P.underlying t with
    | some .bool => Nat.beq (P.cellsOf t) 1
    | some (.int _) => Nat.beq (P.cellsOf t) 1
    | some .string => Nat.beq (P.cellsOf t) 1
    | some (.slice e) => Nat.beq (P.cellsOf t) 1 && Nat.blt 0 (P.cellsOf e) && shapeOk P n e
    | some (.struct fs) => Nat.beq (P.cellsOf t) (fieldsSum P fs.toList) && fieldsOk P (shapeOk P n) fs.toList 0
    | some (.array m e) => Nat.beq (P.cellsOf t) (m * P.cellsOf e) && shapeOk P n e
    | _ => false

theorem leafOf_stable {P : Program} : ∀ (n m : Nat) (t : TypeId), shapeOk P n t = true → n ≤ m → leafOf P m t = leafOf P n t
  | 0, m, t, h, _ => by cases h
  | n + 1, 0, t, h, hm => by omega
  | n + 1, m + 1, t, h, hm => by
    have ih := leafOf_stable (P := P) n m
    simp only [shapeOk] at h
    simp only [leafOf]
    split at h
    all_goals first | (rename_i hu; rw [hu]) | skip
    · -- struct
      rename_i fs hu
      simp only [Bool.and_eq_true] at h
      have : ∀ (l : List Field) (o : Nat), fieldsOk P (shapeOk P n) l o = true → l.flatMap (fun f => leafOf P m f.type) = l.flatMap fun f => leafOf P n f.type := by
        intro l
        induction l with
        | nil => intro o _; rfl
        | cons f l ihl =>
          intro o ho
          simp only [fieldsOk, Bool.and_eq_true] at ho
          simp only [List.flatMap_cons, ih f.type ho.1.2 (by omega), ihl _ ho.2]
      exact this _ _ h.2
    · simp only [Bool.and_eq_true] at h
      show (List.replicate _ (leafOf P m _)).flatten = (List.replicate _ (leafOf P n _)).flatten
      rw [ih _ h.2 (by omega)]
    · cases h

section
variable {P : Program} {W : World} {H : Type} {enc : TypeId × Value → H}
abbrev ZW (W : World) : Nat → Prop := fun g => g < W.heap.size

theorem vrels_append {env : Nat → Option Ent} {Z : Nat → Prop} {w : World} : ∀ {l m : List AVal} {cs ds : List Value}, VRels env Z w l cs → VRels env Z w m ds → VRels env Z w (l ++ m) (cs ++ ds)
  | [], m, cs, ds, h, k => by
    obtain rfl := h.inv_nil
    exact k
  | v :: l, m, cs, ds, h, k => by
    obtain ⟨c, cs', rfl, hc, hcs⟩ := h.inv
    exact .cons hc (vrels_append hcs k)
theorem tyL_append {ts us : List LT} {l m : List AVal} (h : TyL P ts l) (k : TyL P us m) : TyL P (ts ++ us) (l ++ m) := by
  refine ⟨by simp [h.1, k.1], fun j t v ht hv => ?_⟩
  rcases Nat.lt_or_ge j ts.length with hj | hj
  · rw [List.getElem?_append_left hj] at ht
    rw [List.getElem?_append_left (by rw [h.1]; exact hj)] at hv
    exact h.2 j t v ht hv
  · rw [List.getElem?_append_right hj] at ht
    rw [List.getElem?_append_right (by rw [h.1]; exact hj), h.1] at hv
    exact k.2 _ t v ht hv

/-- What was read takes no more than a process has. -/
def wOk (P : Program) (t : TypeId) (d : DataW H) : Prop := (d.weights P t).all (· ≤ reachBytes) = true
theorem wEach_cons {t : TypeId} {ts : List TypeId} {d : DataW H} {ds : List (DataW H)} (h : (DataW.weightsEach P (t :: ts) (d :: ds)).all (· ≤ reachBytes) = true) : wOk P t d ∧ (DataW.weightsEach P ts ds).all (· ≤ reachBytes) = true := by
  simp only [DataW.weightsEach, List.all_append, Bool.and_eq_true] at h
  exact h
theorem wAll_get {e : TypeId} : ∀ {ds : List (DataW H)}, (DataW.weightsAll P e ds).all (· ≤ reachBytes) = true → ∀ d ∈ ds, wOk P e d
  | d0 :: ds, h, d, hd => by
    simp only [DataW.weightsAll, List.all_append, Bool.and_eq_true] at h
    rcases List.mem_cons.1 hd with rfl | hd
    · exact h.1
    · exact wAll_get h.2 d hd
theorem open_fields {fuel n : Nat} (IH : ∀ (t : TypeId) (cs : List Value) (y : DataW H × List MemPlace), shapeOk P n t = true → DataW.trod enc P W 0 (fun _ => true) true fuel t cs = some y → wOk P t y.1 →
      ∃ l, VRels (fun _ => none) (ZW W) W l cs ∧ TyL P (leafOf P n t) l) (cs : List Value) :
    ∀ (fs : List Field) (o : Nat) (xs : List (DataW H × List MemPlace)), fieldsOk P (shapeOk P n) fs o = true →
      (fs.mapM fun f => DataW.trod enc P W 0 (fun _ => true) true fuel f.type ((cs.drop f.offset).take (P.cellsOf f.type))) = some xs → o + fieldsSum P fs = cs.length → (DataW.weightsEach P (fs.map (·.type)) (xs.map (·.1))).all (· ≤ reachBytes) = true →
      ∃ l, VRels (fun _ => none) (ZW W) W l (cs.drop o) ∧ TyL P (fs.flatMap fun f => leafOf P n f.type) l
  | [], o, xs, hf, hm, hl, hw => by
    simp only [fieldsSum, Nat.add_zero] at hl
    rw [List.drop_eq_nil_of_le (by omega)]
    exact ⟨[], .nil, rfl, fun j t v ht => by simp at ht⟩
  | f :: fs, o, xs, hf, hm, hl, hw => by
    simp only [fieldsOk, Bool.and_eq_true] at hf
    obtain ⟨⟨h1, h2⟩, h3⟩ := hf
    have h1 := nbeq_eq h1
    rw [List.mapM_cons] at hm
    cases hx : DataW.trod enc P W 0 (fun _ => true) true fuel f.type ((cs.drop f.offset).take (P.cellsOf f.type)) with
    | none => rw [hx] at hm; cases hm
    | some y =>
      rw [hx] at hm
      cases hys : fs.mapM fun f => DataW.trod enc P W 0 (fun _ => true) true fuel f.type ((cs.drop f.offset).take (P.cellsOf f.type)) with
      | none => rw [hys] at hm; cases hm
      | some ys =>
        simp only [fieldsSum] at hl
        rw [hys] at hm
        obtain rfl : y :: ys = xs := by simpa using hm
        obtain ⟨w1, w2⟩ := wEach_cons (by simpa using hw)
        obtain ⟨l, q1, q2⟩ := IH f.type _ y h2 hx w1
        obtain ⟨l', q3, q4⟩ := open_fields IH cs fs (o + P.cellsOf f.type) ys h3 hys (by omega) (by simpa using w2)
        refine ⟨l ++ l', ?_, by rw [List.flatMap_cons]; exact tyL_append q2 q4⟩
        have : cs.drop o = (cs.drop f.offset).take (P.cellsOf f.type) ++ cs.drop (o + P.cellsOf f.type) := by
          rw [h1, ← List.drop_drop, List.take_append_drop]
        rw [this]
        exact vrels_append q1 q3

theorem open_elems {fuel n : Nat} {e : TypeId} (IH : ∀ (t : TypeId) (cs : List Value) (y : DataW H × List MemPlace), shapeOk P n t = true → DataW.trod enc P W 0 (fun _ => true) true fuel t cs = some y → wOk P t y.1 →
      ∃ l, VRels (fun _ => none) (ZW W) W l cs ∧ TyL P (leafOf P n t) l) (he : shapeOk P n e = true) (cs : List Value) :
    ∀ (m i : Nat), (∀ k, k < m → ∃ y, DataW.trod enc P W 0 (fun _ => true) true fuel e ((cs.drop ((i + k) * P.cellsOf e)).take (P.cellsOf e)) = some y ∧ wOk P e y.1) → (i + m) * P.cellsOf e = cs.length →
      ∃ l, VRels (fun _ => none) (ZW W) W l (cs.drop (i * P.cellsOf e)) ∧ TyL P ((List.replicate m (leafOf P n e)).flatten) l
  | 0, i, h, hl => by
    rw [List.drop_eq_nil_of_le (by rw [Nat.add_zero] at hl; omega)]
    exact ⟨[], .nil, rfl, fun j t v ht => by simp at ht⟩
  | m + 1, i, h, hl => by
    obtain ⟨y, hy, hwy⟩ := h 0 (by omega)
    obtain ⟨l, q1, q2⟩ := IH e _ y he hy hwy
    obtain ⟨l', q3, q4⟩ := open_elems IH he cs m (i + 1) (fun k hk => by
      obtain ⟨y, hy, hwy⟩ := h (k + 1) (by omega)
      exact ⟨y, by rw [show i + 1 + k = i + (k + 1) by omega]; exact hy, hwy⟩) (by rw [show i + 1 + m = i + (m + 1) by omega]; exact hl)
    refine ⟨l ++ l', ?_, by rw [List.replicate_succ, List.flatten_cons]; exact tyL_append q2 q4⟩
    have : cs.drop (i * P.cellsOf e) = (cs.drop ((i + 0) * P.cellsOf e)).take (P.cellsOf e) ++ cs.drop ((i + 1) * P.cellsOf e) := by
      rw [Nat.add_zero, Nat.succ_mul, ← List.drop_drop, List.take_append_drop]
    rw [this]
    exact vrels_append q1 q3

theorem open_trod (fuel : Nat) : ∀ (n : Nat) (t : TypeId) (cs : List Value) (y : DataW H × List MemPlace), n ≤ 8 → shapeOk P n t = true → DataW.trod enc P W 0 (fun _ => true) true fuel t cs = some y → wOk P t y.1 →
    ∃ l, VRels (fun _ => none) (ZW W) W l cs ∧ TyL P (leafOf P n t) l := by
  induction fuel with
  | zero => intro n t cs y _ _ h; simp [DataW.trod] at h
  | succ fuel IH =>
    intro n t cs y hn8 hs h hw
    cases n with
    | zero => cases hs
    | succ n =>
      have one : ∀ {lt : LT} {v : AVal} {c : Value}, VRel (fun _ => none) (ZW W) W v c → Ty P lt v → ∃ l, VRels (fun _ => none) (ZW W) W l [c] ∧ TyL P [lt] l := fun {lt v c} h1 h2 =>
        ⟨[v], .cons h1 .nil, rfl, fun j t u ht hu => by
          cases j with
          | zero =>
            simp only [List.getElem?_cons_zero, Option.some.injEq] at ht hu
            subst ht hu
            exact h2
          | succ j => simp at ht⟩
      rw [DataW.trod_step] at h
      simp only [shapeOk] at hs
      simp only [leafOf]
      unfold DataW.trodStep at h
      cases hu : P.underlying t with
      | none => rw [hu] at hs; cases hs
      | some d =>
        rw [hu] at hs h
        cases d with
        | bool =>
          simp only at h
          split at h <;> first | (rename_i heq; cases heq) | skip
          all_goals first | cases h | skip
          exact one (.sc _) (.bool _)
        | int k =>
          simp only at h
          split at h <;> first | (rename_i heq; cases heq) | skip
          all_goals first | cases h | skip
          split at h
          · rename_i hk
            obtain ⟨rfl, hw⟩ := hk
            exact one (.sc _) (.int _ _ hw)
          · cases h
        | string =>
          simp only at h
          split at h <;> first | (rename_i heq; cases heq) | skip
          all_goals first | cases h | skip
          split at h
          · rename_i hk
            simp only [Option.some.injEq] at h
            subst h
            exact one (.sc _) (.str _ hk (by simpa [wOk, DataW.weights] using hw))
          · cases h
        | slice e =>
          simp only [Bool.and_eq_true] at hs
          obtain ⟨⟨hc1, hce⟩, hse⟩ := hs
          have hce := nblt hce
          have hst : leafOf P 8 e = leafOf P n e := leafOf_stable n 8 e hse (by omega)
          have nil : ∀ (a : Option Addr) (cap : Nat), ∃ l, VRels (fun _ => none) (ZW W) W l [.slice a 0 cap] ∧ TyL P [.sl e (P.cellsOf e)] l := fun a cap =>
            one (.roE _ _ _) (.sl _ _ [] (Nat.zero_le _) (by simp) (fun r hr => by cases hr) fun r hr => by cases hr)
          obtain ⟨a, len, cap, rfl⟩ : ∃ a len cap, cs = [.slice a len cap] := by
            cases cs with
            | nil => cases h
            | cons c cs' =>
              cases cs' with
              | nil =>
                cases c <;> first | exact ⟨_, _, _, rfl⟩ | cases h | (rename_i q1; cases q1 <;> cases h)
              | cons c' cs'' => exfalso; cases c <;> first | cases h | (rename_i q1 q2 q3; cases q1 <;> first | cases h | (cases q2 <;> first | cases h | (cases q3 <;> cases h))) | (rename_i q1; cases q1 <;> cases h)
          cases a with
          | none =>
            cases len with
            | zero => exact nil _ _
            | succ len => cases h
          | some a =>
            simp only at h
            split at h
            · rename_i hcond
              obtain ⟨hb, hlc, hcm⟩ := hcond
              simp only [Option.bind_eq_some_iff] at h
              obtain ⟨elems, hel, hrest⟩ := h
              simp only [Option.map_eq_some_iff] at hrest
              obtain ⟨rest, _, rfl⟩ := hrest
              simp only [wOk, DataW.weights, hu, List.all_cons, List.all_append, Bool.and_eq_true, decide_eq_true_eq, List.length_map] at hw
              cases len with
              | zero => exact nil _ _
              | succ len =>
                have hlen := mapM_some_length hel
                simp only [List.length_range] at hlen
                have hget := mapM_some_get hel
                have key : ∀ i, i < len + 1 → ∃ vs l, W.cells? 0 (a.add (i * P.cellsOf e)) (P.cellsOf e) = some vs ∧ VRels (fun _ => none) (ZW W) W l vs ∧ TyL P (leafOf P n e) l := by
                  intro i hi
                  have := hget i i (by simp [hi])
                  have hi' : i < elems.length := by omega
                  rw [List.getElem?_eq_getElem hi', Option.bind_eq_some_iff] at this
                  obtain ⟨vs, h1, h2⟩ := this
                  obtain ⟨l, q1, q2⟩ := IH n e vs _ (by omega) hse h2 (wAll_get hw.2.1 _ (List.mem_map_of_mem (List.getElem_mem hi')))
                  exact ⟨vs, l, h1, q1, q2⟩
                have hcell : ∀ i vs, i < len + 1 → W.cells? 0 (a.add (i * P.cellsOf e)) (P.cellsOf e) = some vs → vs.length = P.cellsOf e ∧ ∀ j, j < P.cellsOf e → W.cell? ⟨a.block, a.off + (i * P.cellsOf e + j), none⟩ = vs[j]? := by
                  intro i vs hi hv
                  unfold World.cells? at hv
                  split at hv
                  · have hl := mapM_some_length hv
                    simp only [List.length_range] at hl
                    refine ⟨hl, fun j hj => ?_⟩
                    have := mapM_some_get hv j j (by simp [hj])
                    rw [← this]
                    have hj' : j < vs.length := by omega
                    have hsome : W.cell? ((a.add (i * P.cellsOf e)).add j) = some vs[j] := by rw [this]; simp [hj']
                    congr 1
                    unfold Addr.add
                    by_cases h0 : j = 0
                    · subst h0
                      rw [if_pos rfl]
                      by_cases h1 : i * P.cellsOf e = 0
                      · rw [if_pos h1, h1]
                        have hsp : a.spot = none := by
                          have hs := hsome
                          simp only [Addr.add, if_pos, h1] at hs
                          unfold World.cell? at hs
                          split at hs
                          · split at hs
                            · cases hs
                            · rename_i hns; simpa using hns
                          · cases hs
                        cases a; simp at hsp ⊢; exact hsp.symm
                      · rw [if_neg h1]; simp
                    · rw [if_neg h0]
                      by_cases h1 : i * P.cellsOf e = 0
                      · rw [if_pos h1, h1]; simp
                      · rw [if_neg h1]; simp [Nat.add_assoc]
                  · cases hv
                -- the rows
                have rowsF : ∃ (g : Nat → List AVal) (f : Nat → List Value), ∀ i, i < len + 1 → W.cells? 0 (a.add (i * P.cellsOf e)) (P.cellsOf e) = some (f i) ∧ VRels (fun _ => none) (ZW W) W (g i) (f i) ∧ TyL P (leafOf P n e) (g i) := by
                  refine ⟨fun i => if hi : i < len + 1 then (key i hi).choose_spec.choose else [], fun i => if hi : i < len + 1 then (key i hi).choose else [], fun i hi => ?_⟩
                  simp only [hi, dif_pos]
                  exact (key i hi).choose_spec.choose_spec
                obtain ⟨g, f, hgf⟩ := rowsF
                let rows := (List.range (len + 1)).map g
                have hrl : rows.length = len + 1 := by simp [rows]
                have hrow : ∀ i r, rows[i]? = some r → i < len + 1 ∧ r = g i := by
                  intro i r hr
                  have hi : i < rows.length := (List.getElem?_eq_some_iff.1 hr).1
                  rw [hrl] at hi
                  simp only [rows, List.getElem?_map, List.getElem?_range hi, Option.map_some, Option.some.injEq] at hr
                  exact ⟨hi, hr.symm⟩
                have hmem : ∀ r ∈ rows, ∃ i, i < len + 1 ∧ r = g i := by
                  intro r hr
                  obtain ⟨i, hi⟩ := List.getElem?_of_mem hr
                  exact ⟨i, hrow i r hi⟩
                have hz : a.block < W.heap.size := by
                  obtain ⟨h1, _⟩ := hgf 0 (by omega)
                  obtain ⟨hl, hc⟩ := hcell 0 _ (by omega) h1
                  have h2 := hc 0 hce
                  rw [List.getElem?_eq_getElem (by omega)] at h2
                  unfold World.cell? at h2
                  split at h2
                  · rename_i hh
                    exact (Array.getElem?_eq_some_iff.1 hh).1
                  · cases h2
                have hab : (.slice (some a) (len + 1) cap : Value) = .slice (some ⟨a.block, a.off, none⟩) rows.length cap := by
                  rw [hrl]
                  have hsp : a.spot = none := by
                    obtain ⟨h1, _⟩ := hgf 0 (by omega)
                    unfold World.cells? at h1
                    split at h1
                    · have := mapM_some_get h1 0 0 (by simp [hce])
                      have hl := mapM_some_length h1
                      simp only [List.length_range] at hl
                      rw [List.getElem?_eq_getElem (by omega)] at this
                      simp only [Nat.zero_mul, Addr.add, if_pos] at this
                      unfold World.cell? at this
                      split at this
                      · split at this
                        · cases this
                        · rename_i hns; simpa using hns
                      · cases this
                    · cases h1
                  cases a; simp at hsp ⊢; exact hsp
                refine one (v := .ro (P.cellsOf e) rows) (by
                  rw [hab]
                  refine .ro _ rows a.block a.off cap (fun i j => (f i).getD j undef) (by omega) hz (fun i r hr => ?_) (fun i j r v hr hv => ?_) fun i j r v hr hv => ?_
                  · obtain ⟨hi, rfl⟩ := hrow i r hr
                    obtain ⟨h1, h2, h3⟩ := hgf i hi
                    rw [h2.1]
                    exact (hcell i _ hi h1).1
                  · obtain ⟨hi, rfl⟩ := hrow i r hr
                    obtain ⟨h1, h2, h3⟩ := hgf i hi
                    obtain ⟨h4, h5⟩ := hcell i _ hi h1
                    have hj : j < (g i).length := (List.getElem?_eq_some_iff.1 hv).1
                    have hjf : j < (f i).length := by rw [← h2.1]; exact hj
                    have hjt : j < (leafOf P n e).length := by rw [← h3.1]; exact hj
                    have hty := h3.2 j _ v (List.getElem?_eq_getElem hjt) hv
                    have hgd : (f i).getD j undef = (f i)[j] := by simp [List.getD, hjf]
                    refine ⟨hty.flat, ?_, ?_⟩
                    · have := h2.2 j v _ hv (by rw [List.getElem?_eq_getElem hjf])
                      rw [hgd]
                      exact this.oneC (flat_cellOk hty.flat)
                    · rw [h5 j (by omega), hgd, List.getElem?_eq_getElem hjf]
                  · obtain ⟨hi, rfl⟩ := hrow i r hr
                    obtain ⟨h1, h2, h3⟩ := hgf i hi
                    have hj : j < (g i).length := (List.getElem?_eq_some_iff.1 hv).1
                    have hjf : j < (f i).length := by rw [← h2.1]; exact hj
                    have hgd : (f i).getD j undef = (f i)[j] := by simp [List.getD, hjf]
                    simp only [hgd]
                    exact h2.2 j v _ hv (by rw [List.getElem?_eq_getElem hjf])) (.sl _ _ rows (by omega) (by
                    rw [hrl, ← hlen]
                    exact Nat.le_trans (Nat.mul_le_mul_right _ (Nat.le_add_right _ _)) hw.1) (fun r hr => ?_) fun r hr j t v ht hv => ?_)
                · obtain ⟨i, hi, rfl⟩ := hmem r hr
                  rw [hst]
                  exact (hgf i hi).2.2.1
                · obtain ⟨i, hi, rfl⟩ := hmem r hr
                  rw [hst] at ht
                  exact (hgf i hi).2.2.2 j t v ht hv
            · cases h
        | struct fs =>
          simp only [Bool.and_eq_true] at hs
          have hs1 := nbeq_eq hs.1
          simp only at h
          split at h
          · rename_i hl
            simp only [Option.map_eq_some_iff] at h
            obtain ⟨xs, hxs, rfl⟩ := h
            have := open_fields (fun t cs y h1 h2 h3 => IH n t cs y (by omega) h1 h2 h3) cs fs.toList 0 xs hs.2 hxs (by omega) (by simpa only [wOk, DataW.weights, hu] using hw)
            rw [List.drop_zero] at this
            exact this
          · cases h
        | array m e =>
          simp only [Bool.and_eq_true] at hs
          have hs1 := nbeq_eq hs.1
          simp only at h
          split at h
          · rename_i hl
            simp only [Option.map_eq_some_iff] at h
            obtain ⟨xs, hxs, rfl⟩ := h
            have hw' : (DataW.weightsAll P e (xs.map (·.1))).all (· ≤ reachBytes) = true := by simpa only [wOk, DataW.weights, hu] using hw
            have := open_elems (fun t cs y h1 h2 h3 => IH n t cs y (by omega) h1 h2 h3) hs.2 cs m 0 (fun k hk => by
              have h1 := mapM_some_get hxs k k (by simp [hk])
              have h2 := mapM_some_length hxs
              simp only [List.length_range] at h2
              rw [List.getElem?_eq_getElem (by omega)] at h1
              rw [Nat.zero_add]
              exact ⟨_, h1, wAll_get hw' _ (List.mem_map_of_mem (List.getElem_mem _))⟩) (by rw [Nat.zero_add]; omega)
            rw [Nat.zero_mul, List.drop_zero] at this
            exact this
          · cases h
        | _ => cases hs
end
end Go.Proofs.YteiniiakpdijmaaDoor.AI
