/- What makes and writes memory. -/
import Derived.Test.YteiniiakpdijmaaDoorAI7
namespace Go.Proofs.YteiniiakpdijmaaDoor.AI
open Go.RowKit
set_option linter.unusedVariables false

section
variable {P : Program} {TT : TypeId → Option TI} {X : Ctx} {env : Nat → Option Ent} {Z : Nat → Prop} {s s1 : F} {a : Act} {w : World}

theorem VRels.append {as bs : List AVal} {cs ds : List Value} (h : VRels env Z w as cs) (k : VRels env Z w bs ds) : VRels env Z w (as ++ bs) (cs ++ ds) := by
  refine ⟨by simp [h.1, k.1], fun i v c hv hc => ?_⟩
  rw [List.getElem?_append] at hv hc
  rw [h.1] at hv
  split at hv
  · rename_i hlt
    rw [if_pos hlt] at hc
    exact h.2 i v c hv hc
  · rename_i hlt
    rw [if_neg hlt] at hc
    exact k.2 _ v c hv hc
theorem VRels.take {as : List AVal} {cs : List Value} (h : VRels env Z w as cs) (n : Nat) : VRels env Z w (as.take n) (cs.take n) := by
  refine ⟨by simp [h.1], fun i v c hv hc => ?_⟩
  rw [List.getElem?_take] at hv hc
  split at hv
  · rename_i hlt
    rw [if_pos hlt] at hc
    exact h.2 i v c hv hc
  · cases hv
theorem VRels.drop {as : List AVal} {cs : List Value} (h : VRels env Z w as cs) (n : Nat) : VRels env Z w (as.drop n) (cs.drop n) := by
  refine ⟨by simp [h.1], fun i v c hv hc => ?_⟩
  rw [List.getElem?_drop] at hv hc
  exact h.2 _ v c hv hc

theorem cellsA_sim {v : AVal} {c : Value} (h : VRel env Z w v c) (hv : cellish v = true) : VRels env Z w (cellsA v) c.cells.toList := by
  cases v with
  | agg l =>
    cases h with
    | agg _ cs hl hh => exact ⟨by simpa [cellsA, Value.cells] using hl, fun i v c h1 h2 => hh i v c h1 (by simpa [Value.cells] using h2)⟩
  | _ =>
    have h1 := h.oneC hv
    rw [cells_one h1]
    exact .cons h .nil

/-- Cells put one by one: a piece of the whole. -/
theorem foldl_set (off : Nat) : ∀ (vs : List Value) (k : Nat) (cells : Array Value), off + k + vs.length ≤ cells.size →
    ((vs.zipIdx k).foldl (fun cs (p : Value × Nat) => cs.setIfInBounds (off + p.2) p.1) cells).toList = cells.toList.take (off + k) ++ vs ++ cells.toList.drop (off + k + vs.length)
  | [], k, cells, h => by simp
  | v :: vs, k, cells, h => by
    simp only [List.zipIdx_cons, List.foldl_cons]
    rw [foldl_set off vs (k + 1) (cells.setIfInBounds (off + k) v) (by simp at h ⊢; omega)]
    simp only [Array.toList_setIfInBounds, List.length_cons]
    have hlt : off + k < cells.toList.length := by simp at h ⊢; omega
    rw [show off + (k + 1) = off + k + 1 by omega, show off + k + 1 + vs.length = off + k + (vs.length + 1) by omega]
    rw [List.take_set, List.drop_set_of_lt (by omega)]
    rw [List.take_succ_eq_append_getElem hlt]
    rw [List.set_append_right _ _ (by simp; omega)]
    have hz : off + k - (List.take (off + k) cells.toList).length = 0 := by simp; omega
    rw [hz]
    simp

theorem fill_step {cells : Array Value} {v : Value} {off : Nat} (h : off + v.cells.size ≤ cells.size) :
    (v.cells.zipIdx.foldl (fun cs (p : Value × Nat) => cs.setIfInBounds (off + p.2) p.1) cells).toList = cells.toList.take off ++ v.cells.toList ++ cells.toList.drop (off + v.cells.size) := by
  rw [← Array.foldl_toList, Array.toList_zipIdx]
  have := foldl_set off v.cells.toList 0 cells (by simpa using h)
  simpa using this

theorem fillA_sim {place : Nat → Option (Nat × Nat)} : ∀ (pa : List (Nat × AVal)) (pc : List (Nat × Value)) (cells cells' : List AVal) (cc : Array Value),
    fillA place cells pa = some cells' → pa.map (·.1) = pc.map (·.1) → VRels env Z w (pa.map (·.2)) (pc.map (·.2)) → VRels env Z w cells cc.toList →
    ∃ cc', Instr.fill place cc pc = some cc' ∧ VRels env Z w cells' cc'.toList
  | [], pc, cells, cells', cc, h, hi, hv, hc => by
    have : pc = [] := by cases pc with | nil => rfl | cons p q => simp at hi
    subst this
    simp only [fillA, Option.some.injEq] at h
    subst h
    exact ⟨cc, rfl, hc⟩
  | (i, v) :: pa, pc, cells, cells', cc, h, hi, hv, hc => by
    cases pc with
    | nil => simp at hi
    | cons p pc =>
      obtain ⟨j, u⟩ := p
      simp only [List.map_cons, List.cons.injEq] at hi hv
      obtain ⟨hij, hi⟩ := hi
      subst hij
      obtain ⟨u', ds, heq, hvu, hvs⟩ := hv.inv
      simp only [List.cons.injEq] at heq
      obtain ⟨rfl, rfl⟩ := heq
      simp only [fillA] at h
      cases hp : place i with
      | none => rw [hp] at h; cases h
      | some q =>
        obtain ⟨off, size⟩ := q
        rw [hp] at h
        simp only at h
        split at h
        · cases h
        · rename_i hcond
          simp only [ne_eq, Bool.or_eq_true, decide_eq_true_eq, not_or, Bool.not_eq_true', Bool.not_eq_false] at hcond
          obtain ⟨⟨h1, h2⟩, h3⟩ := hcond
          have h1 : (cellsA v).length = size := by simpa using h1
          have h2 : off + (cellsA v).length ≤ cells.length := by simpa using h2
          have hcv := cellsA_sim hvu (by simpa using h3)
          have hsz : u.cells.size = size := by have := hcv.1; simp at this; omega
          have hcs : cells.length = cc.size := by simpa using hc.1
          have hfit : off + u.cells.size ≤ cc.size := by omega
          have hstep := fill_step (cells := cc) (v := u) (off := off) hfit
          obtain ⟨cc', h4, h5⟩ := fillA_sim pa pc _ cells' (u.cells.zipIdx.foldl (fun cs (p : Value × Nat) => cs.setIfInBounds (off + p.2) p.1) cc) h hi hvs (by
            rw [hstep]
            unfold splice
            have : (cellsA v).length = u.cells.size := by omega
            rw [this]
            exact ((hc.take off).append hcv).append (hc.drop _))
          refine ⟨cc', ?_, h5⟩
          simp only [Instr.fill, hp]
          have hno : ¬ (u.cells.size ≠ size || decide (off + u.cells.size > cc.size)) = true := by
            simp [hsz]; omega
          rw [if_neg hno]
          exact h4

theorem run_newRow (e : TypeId) (cs : Array Value) (w : World) : (newRow e cs).run P w = .ok ⟨w.heap.size, 0, none⟩ (w.alloc (.cells cs e)) := by
  rfl

theorem Wider.alloc (w : World) (o : Obj) : Wider w (w.alloc o) := ⟨rfl, rfl, rfl, by simp, fun g hg => Below.heap_alloc w o g hg⟩
theorem Wider.drewAlloc (w : World) (o : Obj) : Wider w (w.drew.alloc o) := ⟨rfl, rfl, rfl, by simp, fun g hg => Below.heap_alloc w.drew o g hg⟩

theorem heap_alloc_new' (w : World) (o : Obj) : (w.alloc o).heap[w.heap.size]? = some o := heap_alloc_new w o

theorem Gives.newBlk {kk : Nat} {b : Blk} {v u : AVal} (h : Gives (newBlk kk b v) s u s1) : s.key kk = none ∧ u = v ∧ s1 = s.setK kk b := by
  unfold AI.newBlk at h
  have h := h.getK
  cases hk : s.key kk with
  | some x => rw [hk] at h; exact h.fail
  | none =>
    rw [hk] at h
    have h := h.setK
    obtain ⟨rfl, rfl⟩ := h.ret
    exact ⟨rfl, rfl, rfl⟩

theorem has_one {e : Ent} (h : e.sub = []) {g : Nat} (hg : e.has g) : ob e.v = some g := by
  rcases hg with hg | ⟨c, hc, _⟩
  · exact hg
  · rw [h] at hc; cases hc

/-- A new variable. -/
theorem Rel.newBox (h : Rel X env Z s a w) {kk : Nat} (hk : s.key kk = none) {T : TypeId} {cells : List AVal} {cs : Array Value} (hv : VRels env Z w cells cs.toList) (hok : cells.all cellOk = true) :
    ∃ env', Rel X env' Z (s.setK kk ⟨.box, T, cells.length, [cells]⟩) a (w.alloc (.cells cs T)) ∧ VRel env' Z (w.alloc (.cells cs T)) (.ref kk 1 0 0) (.pointer (some ⟨w.heap.size, 0, none⟩)) := by
  have hek : env kk = none := by
    have := h.dom kk
    rw [hk] at this
    simpa using this
  have hz : ∀ g, Z g → (w.alloc (.cells cs T)).heap[g]? = w.heap[g]? := fun g hg => Below.heap_alloc w _ g (h.zlt g hg)
  refine ⟨_, h.newEntry (Wider.alloc w _) (e := ⟨.pointer (some ⟨w.heap.size, 0, none⟩), 1, cells.length, 0, 0, []⟩) hk ?_ ?_, ?_⟩
  · refine ⟨rfl, rfl, fun i r hr => ?_, fun _ => ?_, rfl, fun _ => ⟨rfl, rfl⟩, fun _ _ _ hb => (by cases hb), fun hb => (by cases hb)⟩
    · cases i with
      | zero => simp only [List.getElem?_cons_zero, Option.some.injEq] at hr; rw [← hr]
      | succ i => simp at hr
    · refine ⟨w.heap.size, cs, cells, rfl, rfl, heap_alloc_new' w _, fun hzz => by have := h.zlt _ hzz; omega, by have := hv.1; simpa using this, fun j v c hj hc => ?_⟩
      have hvc := hv.2 j v c hj (by simpa using hc)
      have hcell : cellOk v = true := by
        rw [List.all_eq_true] at hok
        exact hok v (List.mem_of_getElem? hj)
      exact ⟨hvc.mono hz (fun _ h => h) (env_more hek), hcell, hvc.oneC hcell⟩
  · intro g hg
    have hg := has_one rfl hg
    simp only [ob, Option.some.injEq] at hg
    omega
  · exact .ref kk 1 0 0 _ ⟨.pointer (some ⟨w.heap.size, 0, none⟩), 1, cells.length, 0, 0, []⟩ (by rw [if_pos rfl]) (Nat.le_refl _) rfl fun _ => ⟨by omega, w.heap.size, rfl, by simp⟩

/-- Rows, and the cells that hold them one behind the other. -/
def Flat (env : Nat → Option Ent) (Z : Nat → Prop) (w : World) (E : Nat) (rows : List (List AVal)) (cs : Array Value) : Prop :=
  (∀ (i : Nat) (r : List AVal), rows[i]? = some r → r.length = E) ∧
  ∀ (i j : Nat) (r : List AVal) (v : AVal), rows[i]? = some r → r[j]? = some v → ∃ c, cs[i * E + j]? = some c ∧ VRel env Z w v c ∧ flat v = true ∧ oneC c = true

/-- A new array. -/
theorem Rel.newArr (h : Rel X env Z s a w) {w' : World} (hw : Wider w w') {kk : Nat} (hk : s.key kk = none) {T : TypeId} {E : Nat} {rows : List (List AVal)} {cs : Array Value} {g cap : Nat}
    (hg : w.heap.size ≤ g) (hcell : w'.heap[g]? = some (.cells cs T (0, 0))) (hcap : rows.length ≤ cap) (hmax : cap ≤ maxLen) (hsz : cs.size = cap * E) (hf : Flat env Z w E rows cs) :
    ∃ env', Rel X env' Z (s.setK kk ⟨.arr, T, E, rows⟩) a w' ∧ VRel env' Z w' (.slc kk rows.length) (.slice (some ⟨g, 0, none⟩) rows.length cap) := by
  have hek : env kk = none := by
    have := h.dom kk
    rw [hk] at this
    simpa using this
  have hz : ∀ g, Z g → w'.heap[g]? = w.heap[g]? := fun g hg => hw.block g (h.zlt g hg)
  refine ⟨_, h.newEntry hw (e := ⟨.slice (some ⟨g, 0, none⟩) rows.length cap, rows.length, E, 0, 0, []⟩) hk ?_ ?_, ?_⟩
  · refine ⟨rfl, rfl, hf.1, fun hb => (by cases hb), rfl, fun _ => ⟨rfl, rfl⟩, fun _ _ _ hb => (by cases hb), fun _ => ?_⟩
    rcases Nat.eq_zero_or_pos cap with h0 | h0
    · have : rows = [] := List.eq_nil_of_length_eq_zero (by omega)
      subst this
      exact .inl ⟨rfl, some ⟨g, 0, none⟩, by rw [h0]; rfl⟩
    · refine .inr ⟨g, cap, cs, rfl, hcell, hcap, h0, hmax, hsz, fun _ hzz => by have := h.zlt _ hzz; omega, fun hb => (by cases hb), fun i j r v hi hj => ?_⟩
      obtain ⟨c, q1, q2, q3⟩ := hf.2 i j r v hi hj
      exact ⟨c, q1, q2.mono hz (fun _ h => h) (env_more hek), q3⟩
  · intro g' hg'
    have hg' := has_one rfl hg'
    simp only [ob] at hg'
    split at hg'
    · cases hg'
    · simp only [Option.some.injEq] at hg'
      omega
  · exact .slc kk _ _ ⟨.slice (some ⟨g, 0, none⟩) rows.length cap, rows.length, E, 0, 0, []⟩ (by rw [if_pos rfl]) (Nat.le_refl _) rfl fun _ => rfl

/-- An own array that is nil, or lies nowhere. -/
theorem Rel.newEmpty (h : Rel X env Z s a w) {kk : Nat} (hk : s.key kk = none) {T : TypeId} {E : Nat} (ad : Option Addr) :
    ∃ env', Rel X env' Z (s.setK kk ⟨.arr, T, E, []⟩) a w ∧ VRel env' Z w (.slc kk 0) (.slice ad 0 0) := by
  refine ⟨_, h.newEntry (w' := w) ⟨rfl, rfl, rfl, Nat.le_refl _, fun _ _ => rfl⟩ (e := ⟨.slice ad 0 0, 0, E, 0, 0, []⟩) hk ?_ ?_, ?_⟩
  · exact ⟨rfl, rfl, fun i r hr => by simp at hr, fun hb => (by cases hb), rfl, fun _ => ⟨rfl, rfl⟩, fun _ _ _ hb => (by cases hb), fun _ => .inl ⟨rfl, ad, rfl⟩⟩
  · intro g' hg'
    have hg' := has_one rfl hg'
    cases ad <;> simp [ob] at hg'
  · exact .slc kk _ _ ⟨.slice ad 0 0, 0, E, 0, 0, []⟩ (by rw [if_pos rfl]) (Nat.le_refl _) rfl fun _ => rfl

theorem Rel.newEmpty' (h : Rel X env Z s a w) {kk : Nat} (hk : s.key kk = none) {T : TypeId} {E : Nat} (ad : Option Addr) :
    ∃ env', Rel X env' Z (s.setK kk ⟨.arr, T, E, []⟩) a w ∧ VRel env' Z w (.slc kk 0) (.slice ad 0 0) ∧ ∀ l f, env l = some f → env' l = some f := by
  refine ⟨_, h.newEntry (w' := w) ⟨rfl, rfl, rfl, Nat.le_refl _, fun _ _ => rfl⟩ (e := ⟨.slice ad 0 0, 0, E, 0, 0, []⟩) hk ?_ ?_, ?_, fun l f hl => ?_⟩
  · exact ⟨rfl, rfl, fun i r hr => by simp at hr, fun hb => (by cases hb), rfl, fun _ => ⟨rfl, rfl⟩, fun _ _ _ hb => (by cases hb), fun _ => .inl ⟨rfl, ad, rfl⟩⟩
  · intro g' hg'
    have hg' := has_one rfl hg'
    cases ad <;> simp [ob] at hg'
  · exact .slc kk _ _ ⟨.slice ad 0 0, 0, E, 0, 0, []⟩ (by rw [if_pos rfl]) (Nat.le_refl _) rfl fun _ => rfl
  · have hek : env kk = none := by
      have := h.dom kk
      rw [hk] at this
      simpa using this
    rw [if_neg (fun e => by rw [e, hek] at hl; cases hl)]
    exact hl

/-- An own array of own slices that is nil. -/
theorem Rel.newNs (h : Rel X env Z s a w) {kk : Nat} (hk : s.key kk = none) {T T' E' : Nat} (ad : Option Addr) :
    ∃ env', Rel X env' Z (s.setK kk ⟨.ns 0 T' E', T, 1, []⟩) a w ∧ VRel env' Z w (.slc kk 0) (.slice ad 0 0) ∧ ∀ l f, env l = some f → env' l = some f := by
  refine ⟨_, h.newEntry (w' := w) ⟨rfl, rfl, rfl, Nat.le_refl _, fun _ _ => rfl⟩ (e := ⟨.slice ad 0 0, 0, 1, 0, 0, []⟩) hk ?_ ?_, ?_, fun l f hl => ?_⟩
  · refine ⟨rfl, rfl, fun i r hr => by simp at hr, fun hb => (by cases hb), rfl, fun hb => (by cases hb), fun st T'' E'' hb => ?_, fun hb => (by cases hb)⟩
    simp only [BKind.ns.injEq] at hb
    obtain ⟨rfl, rfl, rfl⟩ := hb
    exact ⟨rfl, rfl, .inl ⟨rfl, ad, rfl⟩, fun i r c hr => (by simp at hr), fun i j c d g hc => (by simp at hc), fun i c g hc => (by simp at hc)⟩
  · intro g' hg'
    have hg' := has_one rfl hg'
    cases ad <;> simp [ob] at hg'
  · exact .slc kk _ _ ⟨.slice ad 0 0, 0, 1, 0, 0, []⟩ (by rw [if_pos rfl]) (Nat.le_refl _) rfl fun _ => rfl
  · have hek : env kk = none := by
      have := h.dom kk
      rw [hk] at this
      simpa using this
    rw [if_neg (fun e => by rw [e, hek] at hl; cases hl)]
    exact hl

theorem ofCell_sim {c : Value} (h : oneC c = true) : VRel env Z w (ofCell c) c ∧ flat (ofCell c) = true ∧ cellOk (ofCell c) = true := by
  unfold ofCell
  split
  · exact ⟨.emp _, rfl, rfl⟩
  · exact ⟨.sc _, h, h⟩

theorem zero_sim {cs : List Value} (h : ∀ c ∈ cs, oneC c = true) : VRels env Z w (cs.map ofCell) cs ∧ (cs.map ofCell).all cellOk = true ∧ (cs.map ofCell).all flat = true := by
  refine ⟨⟨by simp, fun i v c hv hc => ?_⟩, ?_, ?_⟩
  · rw [List.getElem?_map, hc] at hv
    simp only [Option.map_some, Option.some.injEq] at hv
    rw [← hv]
    exact (ofCell_sim (h c (List.mem_of_getElem? hc))).1
  · rw [List.all_eq_true]
    intro v hv
    obtain ⟨c, hc, rfl⟩ := List.mem_map.1 hv
    exact (ofCell_sim (env := fun _ => none) (Z := fun _ => False) (w := default) (h c hc)).2.2
  · rw [List.all_eq_true]
    intro v hv
    obtain ⟨c, hc, rfl⟩ := List.mem_map.1 hv
    exact (ofCell_sim (env := fun _ => none) (Z := fun _ => False) (w := default) (h c hc)).2.1
end

end Go.Proofs.YteiniiakpdijmaaDoor.AI
