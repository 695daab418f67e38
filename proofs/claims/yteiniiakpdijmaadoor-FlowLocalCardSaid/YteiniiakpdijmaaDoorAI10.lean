/- append and copy. -/
import Derived.Test.YteiniiakpdijmaaDoorAI9
import Derived.Laws.CopyRow
import Derived.Laws.IdiomCopy
namespace Go.Proofs.YteiniiakpdijmaaDoor.AI
open Go.RowKit
set_option linter.unusedVariables false

section
variable {P : Program} {TT : TypeId → Option TI} {X : Ctx} {env : Nat → Option Ent} {Z : Nat → Prop} {s s1 : F} {a : Act} {w : World} {t : TypeId} {n : Nat}

theorem run_append_zero {e : TypeId} {i : TypeInfo} (ht : P.underlying t = some (.slice e)) (hi : P.info? e = some i) {base b : Option Addr} {sLen sCap cap : Nat} (h : sLen ≤ sCap) (ty : TypeId) (w : World) :
    (Builtin.append_ #[t, t] ty #[.slice base sLen sCap, .slice b 0 cap]).run P w = .ok (.slice base sLen sCap) w := by
  have hf : (Builtin.firstCells i.size 0 (.slice b 0 cap)).run P w = .ok #[] w := by
    cases b <;> simp [Builtin.firstCells, loadCells, loadCellsFrom]
  cases base <;> simp [Builtin.append_, run_underlying ht, run_sizeOf' hi, Builtin.lenOf, h, hf, storeCells]

/-- The cells of a source, as a list. -/
theorem Source.news {c : Value} {E : Nat} {rows : List (List AVal)} (h : Source env Z w c E rows) (hm : rows ≠ []) :
    ∃ (b o cap : Nat) (news : List Value), c = .slice (some ⟨b, o, none⟩) rows.length cap ∧ news.length = rows.length * E ∧ (∀ j u, news[j]? = some u → w.cell? ((⟨b, o, none⟩ : Addr).add j) = some u) ∧
      (∀ u ∈ news, u.oneCell' = true) ∧ (∀ (i : Nat) (r : List AVal), rows[i]? = some r → r.length = E) ∧
      ∀ (i j : Nat) (r : List AVal) (v : AVal), rows[i]? = some r → r[j]? = some v → ∃ c, news[i * E + j]? = some c ∧ VRel env Z w v c ∧ flat v = true ∧ oneC c = true := by
  obtain ⟨base, cap, rfl, h0 | ⟨b, o, f, rfl, hr, hc⟩⟩ := h
  · exact absurd h0 hm
  · have place : ∀ q, q < rows.length * E → ∃ r v, rows[q / E]? = some r ∧ r[q % E]? = some v ∧ q / E * E + q % E = q := by
      intro q hq
      have hE : 0 < E := by rcases Nat.eq_zero_or_pos E with h | h
                            · rw [h] at hq; simp at hq
                            · exact h
      have h1 : q / E < rows.length := (Nat.div_lt_iff_lt_mul hE).2 hq
      have h2 : q % E < E := Nat.mod_lt q hE
      have h3 := hr (q / E) rows[q / E] (by simp [h1])
      exact ⟨rows[q / E], (rows[q / E])[q % E]'(by omega), by simp [h1], by simp, by rw [Nat.mul_comm]; exact Nat.div_add_mod q E⟩
    refine ⟨b, o, cap, (List.range (rows.length * E)).map f, rfl, by simp, fun j u hu => ?_, fun u hu => ?_, hr, fun i j r v hi hj => ?_⟩
    · rw [List.getElem?_map] at hu
      cases hj : (List.range (rows.length * E))[j]? with
      | none => rw [hj] at hu; cases hu
      | some q =>
        rw [hj] at hu
        simp only [Option.map_some, Option.some.injEq] at hu
        have hq : j < rows.length * E ∧ q = j := by
          have := List.getElem?_eq_some_iff.1 hj
          obtain ⟨h1, h2⟩ := this
          simp at h1 h2
          exact ⟨h1, h2.symm⟩
        obtain ⟨hq, rfl⟩ := hq
        obtain ⟨r, v, h1, h2, h3⟩ := place q hq
        have := (hc _ _ r v h1 h2).2.2.1
        rw [h3] at this
        rw [add_mk, this, hu]
    · obtain ⟨q, hq, rfl⟩ := List.mem_map.1 hu
      have hq : q < rows.length * E := by simpa using hq
      obtain ⟨r, v, h1, h2, h3⟩ := place q hq
      have := (hc _ _ r v h1 h2).2.1
      rw [h3] at this
      rw [← oneC_eq]; exact this
    · have hjE : j < E := by rw [← hr i r hi]; exact (List.getElem?_eq_some_iff.1 hj).1
      have hlt : i * E + j < rows.length * E := by
        have h1 : i < rows.length := (List.getElem?_eq_some_iff.1 hi).1
        have : (i + 1) * E ≤ rows.length * E := Nat.mul_le_mul_right _ h1
        rw [Nat.add_mul] at this
        omega
      obtain ⟨q1, q2, q3, q4⟩ := hc i j r v hi hj
      exact ⟨f (i * E + j), by simp [hlt], q4, q1, q2⟩

theorem Flat.append {E : Nat} {rows rows' : List (List AVal)} {A : Array Value} {w' : World} {env' : Nat → Option Ent} (hr : ∀ (i : Nat) (r : List AVal), rows[i]? = some r → r.length = E) (hr' : ∀ (i : Nat) (r : List AVal), rows'[i]? = some r → r.length = E)
    (h1 : ∀ (i j : Nat) (r : List AVal) (v : AVal), rows[i]? = some r → r[j]? = some v → ∃ c, A[i * E + j]? = some c ∧ VRel env' Z w' v c ∧ flat v = true ∧ oneC c = true)
    (h2 : ∀ (i j : Nat) (r : List AVal) (v : AVal), rows'[i]? = some r → r[j]? = some v → ∃ c, A[rows.length * E + (i * E + j)]? = some c ∧ VRel env' Z w' v c ∧ flat v = true ∧ oneC c = true) : Flat env' Z w' E (rows ++ rows') A := by
  refine ⟨fun i r hi => ?_, fun i j r v hi hj => ?_⟩
  · rw [List.getElem?_append] at hi
    split at hi
    · exact hr i r hi
    · exact hr' _ r hi
  · rw [List.getElem?_append] at hi
    split at hi
    · exact h1 i j r v hi hj
    · rename_i hge
      obtain ⟨c, q1, q2⟩ := h2 _ j r v hi hj
      refine ⟨c, ?_, q2⟩
      rw [← q1]
      congr 1
      rw [← Nat.add_assoc, ← Nat.add_mul]
      congr 2
      omega

theorem beq_size {E sz : Nat} {rows : List (List AVal)} (h : (Nat.beq E sz || rows.isEmpty) = true) (hr : rows ≠ []) : E = sz := by
  rcases Bool.or_eq_true_iff.1 h with h | h
  · exact nbeq_eq h
  · exact absurd (List.isEmpty_iff.1 h) hr

theorem zeroCells_size (z : Array Value) (n : Nat) : (Builtin.zeroCells z n).size = n * z.size := by simp [Builtin.zeroCells]

/-! ### Arrays of own slices -/
/-- A slice that begins where its array begins. -/
def Off0 (c : Value) : Prop := ∀ b o n cap, c = .slice (some ⟨b, o, none⟩) n cap → 0 < cap → o = 0

/-- What append makes of an own slice. -/
theorem append_core (hT : TOk P TT) {e : TypeId} {te : TI} (hd : P.underlying t = some (.slice e)) (hte : TT e = some te) (hne : te.size ≠ 0) (hzl : ∀ g, Z g → g < w.heap.size)
    {c d : Value} {rr rows' : List (List AVal)} {E' : Nat} (hS : SubR env Z w e te.size c rr) (hsrc : Source env Z w d E' rows') (hE : (Nat.beq E' te.size || rows'.isEmpty) = true)
    (hb1 : rr.length + rows'.length ≤ 140737488355328) (hb2 : (rr.length + rows'.length) * te.bytes ≤ 140737488355328) (ty : TypeId) :
    ∃ c' w', (Builtin.append_ #[t, t] ty #[c, d]).run P w = .ok c' w' ∧ GrownIn w w' (fun g => ob c = some g) ∧ (∀ g, ob c' = some g → ob c = some g ∨ w.heap.size ≤ g) ∧
      (∀ env' : Nat → Option Ent, (∀ v u, VRel env Z w v u → VRel env' Z w' v u) → SubR env' Z w' e te.size c' (rr ++ rows')) ∧ (Off0 c → Off0 c') := by
  obtain ⟨ie, z, hi, hsz, hbs, hz0, hz1, hlf, hzl', hone⟩ := hT.info e te hte
  have hzs : z.cells.size = te.size := by rw [← hzl', ← hz1]; simp
  have idG : GrownIn w w (fun g => ob c = some g) := ⟨rfl, rfl, rfl, Nat.le_refl _, fun _ _ _ => rfl⟩
  by_cases hr : rows' = []
  · -- nothing to append
    obtain ⟨base, cap, hdv, _⟩ := hsrc
    have hdd : d = .slice base 0 cap := by rw [hdv, hr]; rfl
    have hcs : ∃ base sLen sCap, c = .slice base sLen sCap ∧ sLen ≤ sCap := by
      rcases hS.mem with ⟨_, a, h1⟩ | ⟨g, o, cap, cs, h1, _, h3, _⟩
      · exact ⟨a, 0, 0, h1, Nat.le_refl _⟩
      · exact ⟨_, _, cap, h1, h3⟩
    obtain ⟨base', sLen, sCap, hcv, hle⟩ := hcs
    refine ⟨c, w, by rw [hcv, hdd]; exact run_append_zero hd hi hle ty w, idG, fun g hg => .inl hg, fun env' hm => ?_, id⟩
    rw [hr, List.append_nil]
    refine ⟨hS.len, ?_⟩
    rcases hS.mem with h0 | ⟨g, o, cap, cs, h1, h2, h3, h4, h5, h6, h7, h8⟩
    · exact .inl h0
    · exact .inr ⟨g, o, cap, cs, h1, h2, h3, h4, h5, h6, h7, fun i j r v hi hj => let ⟨c, q1, q2, q3⟩ := h8 i j r v hi hj; ⟨c, q1, hm _ _ q2, q3⟩⟩
  have hEs := beq_size hE hr
  subst hEs
  obtain ⟨bb, oo, ncap, news, rfl, hl, hcell, hone', hrl, hnews⟩ := hsrc.news hr
  have hm0 : 0 < rows'.length := by cases rows' with | nil => exact absurd rfl hr | cons _ _ => simp
  have hold : ∀ (i j : Nat) (r : List AVal) (v : AVal), rr[i]? = some r → r[j]? = some v → i * te.size + j < rr.length * te.size := fun i j r v hi hj => by
    have h1 : i < rr.length := (List.getElem?_eq_some_iff.1 hi).1
    have h2 : j < te.size := by rw [← hS.len i r hi]; exact (List.getElem?_eq_some_iff.1 hj).1
    have : (i + 1) * te.size ≤ rr.length * te.size := Nat.mul_le_mul_right _ h1
    rw [Nat.add_mul] at this
    omega
  have hlen : ∀ (i : Nat) (r : List AVal), (rr ++ rows')[i]? = some r → r.length = te.size := fun i r hi => by
    rw [List.getElem?_append] at hi
    split at hi
    · exact hS.len i r hi
    · exact hrl _ r hi
  -- a new block
  have grow : ∀ (olds : List Value) (sCap : Nat) (A : Array Value) (G : Nat), olds.length = rr.length * te.size → (∀ (i j : Nat) (r : List AVal) (v : AVal), rr[i]? = some r → r[j]? = some v → ∃ c, olds[i * te.size + j]? = some c ∧ VRel env Z w v c ∧ flat v = true ∧ oneC c = true) →
      A = olds.toArray ++ news.toArray ++ Builtin.zeroCells z.cells (G - (rr.length + rows'.length)) → rr.length + rows'.length ≤ G → G ≤ maxLen →
      (Builtin.append_ #[t, t] ty #[c, .slice (some ⟨bb, oo, none⟩) rows'.length ncap]).run P w = .ok (.slice (some ⟨w.heap.size, 0, none⟩) (rr.length + rows'.length) G) (w.drew.alloc (.cells A e)) →
      ∃ c' w', (Builtin.append_ #[t, t] ty #[c, .slice (some ⟨bb, oo, none⟩) rows'.length ncap]).run P w = .ok c' w' ∧ GrownIn w w' (fun g => ob c = some g) ∧ (∀ g, ob c' = some g → ob c = some g ∨ w.heap.size ≤ g) ∧
      (∀ env' : Nat → Option Ent, (∀ v u, VRel env Z w v u → VRel env' Z w' v u) → SubR env' Z w' e te.size c' (rr ++ rows')) ∧ (Off0 c → Off0 c') := by
    intro olds sCap A G holdl holds hA hge hmx hrun
    have hAs : A.size = G * te.size := by
      rw [hA]
      simp only [Array.size_append, List.size_toArray, holdl, hl, zeroCells_size, hzs, ← Nat.add_mul]
      congr 1; omega
    have hA1 : ∀ q, q < rr.length * te.size → A[q]? = olds[q]? := fun q hq => by
      rw [hA, Array.append_assoc, Array.getElem?_append_left (by simpa [holdl] using hq)]
      simp
    have hA2 : ∀ q, q < news.length → A[rr.length * te.size + q]? = news[q]? := fun q hq => by
      rw [hA, Array.append_assoc, Array.getElem?_append_right (by simp only [List.size_toArray, holdl]; omega)]
      simp only [List.size_toArray, holdl]
      rw [show rr.length * te.size + q - rr.length * te.size = q by omega, Array.getElem?_append_left (by simpa using hq)]
      simp
    refine ⟨_, _, hrun, ⟨rfl, rfl, rfl, by simp, fun q hq _ => heap_alloc_old w.drew _ q hq⟩, fun g hg => ?_, fun env' hm => ⟨hlen, .inr ⟨w.heap.size, 0, G, A, by simp, heap_alloc_new' w.drew _, by simpa using hge, by omega, hmx, by omega, fun hzz => ?_, ?_⟩⟩, fun _ => ?_⟩
    · simp only [ob] at hg
      rw [if_neg (by omega)] at hg
      simp only [Option.some.injEq] at hg
      right; omega
    · have := hzl _ hzz; omega
    · have hF := Flat.append (env' := env') (Z := Z) (w' := w.drew.alloc (.cells A e)) (A := A) (fun i r hi => hS.len i r hi) hrl
        (fun i j r v hi' hj => by
          obtain ⟨c, q1, q2, q3⟩ := holds i j r v hi' hj
          exact ⟨c, by rw [hA1 _ (hold i j r v hi' hj)]; exact q1, hm _ _ q2, q3⟩)
        (fun i j r v hi' hj => by
          obtain ⟨c, q1, q2, q3⟩ := hnews i j r v hi' hj
          have hlt : i * te.size + j < news.length := (List.getElem?_eq_some_iff.1 q1).1
          exact ⟨c, by rw [hA2 _ hlt]; exact q1, hm _ _ q2, q3⟩)
      intro i j r v hi hj
      rw [Nat.zero_add]
      exact hF.2 i j r v hi hj
    · intro b o n cap h _
      simp only [Value.slice.injEq, Option.some.injEq, Addr.mk.injEq, and_true] at h
      omega
  rcases hS.mem with ⟨h0, ad, h1⟩ | ⟨g, o, cp, cs, m1, m2, m3, m4, m5, m6, m7, m8⟩
  · -- it was empty, and lay nowhere
    subst h0
    simp only [List.length_nil, Nat.zero_add] at hb1 hb2
    have hge := grownCap_ge w rows'.length 0 e
    have hmx : grownCap w rows'.length 0 e ≤ maxLen := grownCap_le_maxLen w rows'.length 0 e (by simp only [maxLen]; omega)
    refine grow [] 0 _ (grownCap w rows'.length 0 e) (by simp) (fun i j r v hi => by simp at hi) rfl (by simpa using hge) hmx ?_
    rw [h1]
    cases ad with
    | none =>
      have hr' := run_append_nil (P := P) w t ty e ie z hd hi hz0 ⟨bb, oo, none⟩ rows'.length ncap news (by rw [hsz]; exact hl) hcell hm0 (by omega) (by rw [hbs]; omega)
      simpa using hr'
    | some ad =>
      have hr' := run_append_grow (P := P) w t ty e ie z hd hi hz0 ad 0 0 [] (by simp) (fun j v hj => by simp at hj) ⟨bb, oo, none⟩ rows'.length ncap news (by rw [hsz]; exact hl) hcell (by omega) (by omega)
        (growslice_fits (by omega) (by rw [hbs]; simpa using hb2))
      simpa using hr'
  · have hnl : o + rr.length * te.size ≤ cs.size := by
      have : rr.length * te.size ≤ cp * te.size := Nat.mul_le_mul_right _ m3
      omega
    have hob : ob c = some g := by rw [m1]; simp only [ob]; rw [if_neg (by omega)]
    by_cases hroom : rr.length + rows'.length ≤ cp
    · -- there is room
      have hfit : o + rr.length * te.size + news.length ≤ cs.size := by
        have : (rr.length + rows'.length) * te.size ≤ cp * te.size := Nat.mul_le_mul_right _ hroom
        rw [Nat.add_mul] at this
        omega
      have hf := run_firstCells_some (P := P) w te.size rows'.length ⟨bb, oo, none⟩ rows'.length ncap news hl hcell
      have hst := run_storeCells_at P g (o + rr.length * te.size) e news 0 cs w m2 (by simpa using hfit) hone'
      simp only [Nat.add_zero] at hst
      have hrun : (Builtin.append_ #[t, t] ty #[.slice (some ⟨g, o, none⟩) rr.length cp, .slice (some ⟨bb, oo, none⟩) rows'.length ncap]).run P w =
          .ok (.slice (some ⟨g, o, none⟩) (rr.length + rows'.length) cp) (w.setRow g (cs.toList.take (o + rr.length * te.size) ++ news ++ cs.toList.drop (o + rr.length * te.size + news.length)).toArray) := by
        simp [Builtin.append_, run_underlying hd, sizeOf, typeInfo, hi, hsz, Builtin.lenOf, hroom, hf, Addr.add_lit, hst]
      have hmid := fun p => getElem?_middle (l := cs.toList) (m := news) (o := o + rr.length * te.size) (n := news.length) (q := p) rfl (by simpa using hfit)
      refine ⟨.slice (some ⟨g, o, none⟩) (rr.length + rows'.length) cp, w.setRow g (cs.toList.take (o + rr.length * te.size) ++ news ++ cs.toList.drop (o + rr.length * te.size + news.length)).toArray, by rw [m1]; exact hrun, ⟨rfl, rfl, rfl, by simp [World.setRow], fun q _ hq => setRow_other w g q _ fun e' => hq (by rw [e']; exact hob)⟩, fun g' hg => ?_, fun env' hm => ⟨hlen, .inr ⟨g, o, cp, _, by simp, setRow_heap w g cs _ e (0, 0) m2, by simpa using hroom, m4, m5, ?_, m7, ?_⟩⟩, fun h0 b o' n cap h hc => ?_⟩
      · simp only [ob] at hg
        rw [if_neg (by omega)] at hg
        exact .inl (by rw [hob]; exact hg)
      · have hsz : (cs.toList.take (o + rr.length * te.size) ++ news ++ cs.toList.drop (o + rr.length * te.size + news.length)).toArray.size = cs.size := by
          simp only [List.size_toArray, List.length_append, List.length_take, List.length_drop, Array.length_toList]; omega
        rw [hsz]; exact m6
      · intro i j r v hi' hj
        rw [List.getElem?_append] at hi'
        split at hi'
        · obtain ⟨c, q1, q2, q3⟩ := m8 i j r v hi' hj
          have hlt := hold i j r v hi' hj
          refine ⟨c, ?_, hm _ _ q2, q3⟩
          rw [List.getElem?_toArray, hmid, if_pos (by omega)]
          simpa using q1
        · rename_i hge
          obtain ⟨c, q1, q2, q3⟩ := hnews _ j r v hi' hj
          have hlt : (i - rr.length) * te.size + j < news.length := (List.getElem?_eq_some_iff.1 q1).1
          have hii : i * te.size = rr.length * te.size + (i - rr.length) * te.size := by rw [← Nat.add_mul]; congr 1; omega
          refine ⟨c, ?_, hm _ _ q2, q3⟩
          rw [List.getElem?_toArray, hmid, if_neg (by omega), if_pos (by omega), ← q1]
          congr 1; omega
      · simp only [Value.slice.injEq, Option.some.injEq, Addr.mk.injEq, and_true] at h
        obtain ⟨⟨rfl, rfl⟩, _, rfl⟩ := h
        exact h0 g o rr.length cp m1 hc
    · -- it grows
      have holdl : ((cs.toList.drop o).take (rr.length * te.size)).length = rr.length * te.size := by simp; omega
      have holds : ∀ j u, ((cs.toList.drop o).take (rr.length * te.size))[j]? = some u → w.cell? ((⟨g, o, none⟩ : Addr).add j) = some u := fun j u hu => by
        rw [List.getElem?_take] at hu
        split at hu
        · rw [List.getElem?_drop] at hu
          rw [add_mk]; exact cell_block m2 (by simpa using hu)
        · cases hu
      have hrun := run_append_grow (P := P) w t ty e ie z hd hi hz0 ⟨g, o, none⟩ rr.length cp ((cs.toList.drop o).take (rr.length * te.size)) (by rw [hsz]; exact holdl) holds ⟨bb, oo, none⟩ rows'.length ncap news (by rw [hsz]; exact hl) hcell (by omega) (by omega)
        (growslice_fits (by omega) (by rw [hbs]; exact hb2))
      have hge := grownCap_ge w (rr.length + rows'.length) cp e
      have hmx : grownCap w (rr.length + rows'.length) cp e ≤ maxLen := grownCap_le_maxLen w _ cp e (by simp only [maxLen]; omega)
      refine grow _ cp _ _ holdl (fun i j r v hi' hj => ?_) rfl hge hmx (by rw [m1]; exact hrun)
      obtain ⟨c, q1, q2, q3⟩ := m8 i j r v hi' hj
      refine ⟨c, ?_, q2, q3⟩
      rw [List.getElem?_take, if_pos (hold i j r v hi' hj), List.getElem?_drop]
      simpa using q1


theorem GrownIn.keepZ {w' : World} {p : Nat → Prop} (h : GrownIn w w' p) (hzl : ∀ g, Z g → g < w.heap.size) (hn : ∀ g, p g → ¬ Z g) : ∀ g, Z g → w'.heap[g]? = w.heap[g]? :=
  fun g hg => h.block g (hzl g hg) fun hp => hn g hp hg

theorem NRel.notZ {b : Blk} {e : Ent} {st T E : Nat} (h : NRel env Z w b e st T E) : ∀ g, e.has g → ¬ Z g := by
  intro g hg
  rcases hg with hg | ⟨c, hc, hg⟩
  · rcases h.out with ⟨_, a, h1⟩ | ⟨g', cap, cs, h1, h2, h3, h4, h5, h6, h7, _⟩
    · rw [h1] at hg; cases a <;> simp [ob] at hg
    · rw [h1] at hg
      simp only [ob] at hg
      rw [if_neg (by omega)] at hg
      simp only [Option.some.injEq] at hg
      subst hg
      exact h7
  · obtain ⟨i, hi⟩ := List.getElem?_of_mem hc
    have hlt : i < b.rows.length := by rw [← h.len]; exact (List.getElem?_eq_some_iff.1 hi).1
    obtain ⟨rr, _, hS⟩ := h.inn i b.rows[i] c (by simp [hlt]) hi
    rcases hS.mem with ⟨_, a, h1⟩ | ⟨g', o, cap, cs, h1, h2, h3, h4, h5, h6, h7, _⟩
    · rw [h1] at hg; cases a <;> simp [ob] at hg
    · rw [h1] at hg
      simp only [ob] at hg
      rw [if_neg (by omega)] at hg
      simp only [Option.some.injEq] at hg
      subst hg
      exact h7

theorem NRel.rowlen {b : Blk} {e : Ent} {st T E : Nat} (h : NRel env Z w b e st T E) : ∀ (i : Nat) (r : List AVal), b.rows[i]? = some r → r.length = 1 := by
  intro i r hr
  have hlt : i < e.sub.length := by rw [h.len]; exact (List.getElem?_eq_some_iff.1 hr).1
  obtain ⟨rr, h1, _⟩ := h.inn i r e.sub[i] hr (by simp [hlt])
  rw [h1]; rfl

/-- One inner slice has turned: it is to be stored in its place. -/
theorem Rel.turnInner (hR : Rel X env Z s a w) {k T E q : Nat} {b : Blk} {e : Ent} (hb : s.key k = some b) (he : env k = some e) (hk : b.kind = .ns 0 T E) {c c' : Value} (hq : e.sub[q]? = some c)
    {w' : World} (hg : GrownIn w w' (fun g => ob c = some g)) (hob : ∀ g, ob c' = some g → ob c = some g ∨ w.heap.size ≤ g) {rr : List (List AVal)}
    (hS : ∀ env' : Nat → Option Ent, (∀ v u, VRel env Z w v u → VRel env' Z w' v u) → SubR env' Z w' T E c' rr) :
    Rel X (fun l => if l = k then some ⟨e.v, e.n, e.E, 1, q, e.sub.set q c'⟩ else env l) Z (s.setK k ⟨.ns 1 T E, b.T, b.E, b.rows.set q [.ro E rr]⟩) a w' := by
  have hB := hR.blk k b e hb he
  have hN := hB.ns _ _ _ hk
  have hst0 : e.st = 0 := by rw [hB.hst, hk]; rfl
  have hqlt : q < e.sub.length := (List.getElem?_eq_some_iff.1 hq).1
  have hcm : c ∈ e.sub := List.mem_of_getElem? hq
  have hnz := hN.notZ
  have hle : e.le ⟨e.v, e.n, e.E, 1, q, e.sub.set q c'⟩ := ⟨Nat.le_refl _, fun _ => rfl, fun _ => rfl, fun _ => by rw [hst0]; exact Nat.zero_le _, fun _ h => absurd h (by simp [hst0]), fun _ h => absurd h (by simp [hst0])⟩
  have hzw := hg.keepZ hR.zlt fun g hg' => hnz g (.inr ⟨c, hcm, hg'⟩)
  have hen : ∀ l f, env l = some f → ∃ f', (if l = k then some (⟨e.v, e.n, e.E, 1, q, e.sub.set q c'⟩ : Ent) else env l) = some f' ∧ f.le f' := fun l f hl => by
    by_cases hlk : l = k
    · subst hlk
      rw [he] at hl
      simp only [Option.some.injEq] at hl
      subst hl
      exact ⟨_, if_pos rfl, hle⟩
    · exact ⟨f, by rw [if_neg hlk]; exact hl, .refl f⟩
  have hvm : ∀ v u, VRel env Z w v u → VRel (fun l => if l = k then some (⟨e.v, e.n, e.E, 1, q, e.sub.set q c'⟩ : Ent) else env l) Z w' v u := fun v u hv => hv.mono2 hzw (fun _ h => h) hen
  have hblt : ∀ g, e.has g → g < w.heap.size := fun g hg' => hR.blt he hg'
  refine hR.updEntry2 hb he (e := ⟨e.v, e.n, e.E, 1, q, e.sub.set q c'⟩) ⟨hg.os, hg.tape, hg.output, hg.size, fun g h1 h2 => hg.block g h1 fun h3 => h2 (.inr ⟨c, hcm, h3⟩)⟩ hnz ?_ hle (fun g hg' => ?_) (by rw [hk]; rfl)
  · refine ⟨by simp [hB.hn], hB.hE, fun i r hr => ?_, fun h => (by cases h), rfl, fun h => (by cases h), fun st T' E' h => ?_, fun h => (by cases h)⟩
    · simp only at hr
      rw [List.getElem?_set] at hr
      split at hr
      · split at hr
        · simp only [Option.some.injEq] at hr
          subst hr
          exact hN.one.symm
        · cases hr
      · exact hB.hlen i r hr
    · simp only [BKind.ns.injEq] at h
      obtain ⟨rfl, rfl, rfl⟩ := h
      refine ⟨hN.one, by simp [hN.len], ?_, fun i r d hr hd => ?_, fun i j d f g hd hf hgd hgf => ?_, fun i d g hd hgd => ?_⟩
      · rcases hN.out with ⟨h0, a, h1⟩ | ⟨g, cap, cs, h1, h2, h3, h4, h5, h6, h7, h8⟩
        · have := hN.len; rw [h0] at this; simp at this; rw [this] at hqlt; simp at hqlt
        · have hob' : ob e.v = some g := by rw [h1]; simp only [ob]; rw [if_neg (by omega)]
          refine .inr ⟨g, cap, cs, by simpa using h1, ?_, by simpa using h3, h4, h5, h6, h7, fun i d hd hi => ?_⟩
          · rw [hg.block g (hblt g (.inl hob')) fun hgc => hN.outer q c g hq hgc hob']; exact h2
          · simp only at hd
            rw [List.getElem?_set_ne (fun h => hi rfl h.symm)] at hd
            exact h8 i d hd fun h => by cases h
      · simp only at hr hd
        by_cases hiq : i = q
        · subst hiq
          rw [List.getElem?_set_self (by rw [← hN.len]; exact hqlt)] at hr
          rw [List.getElem?_set_self hqlt] at hd
          simp only [Option.some.injEq] at hr hd
          subst hr hd
          exact ⟨rr, rfl, hS _ hvm⟩
        · rw [List.getElem?_set_ne (fun h => hiq h.symm)] at hr hd
          obtain ⟨rr', h1, h2⟩ := hN.inn i r d hr hd
          have hdm := List.mem_of_getElem? hd
          exact ⟨rr', h1, h2.mono2 (fun g hgd => hg.block g (hblt g (.inr ⟨d, hdm, hgd⟩)) fun hgc => hiq (hN.dist i q d c g hd hq hgd hgc)) hzw (fun _ h => h) (fun _ _ h => h) hen⟩
      · simp only at hd hf
        have key : ∀ (i : Nat) (d : Value), i ≠ q → e.sub[i]? = some d → ob d = some g → ob c' ≠ some g := fun i d hi hd hgd hgc' => by
          rcases hob g hgc' with h | h
          · exact hi (hN.dist i q d c g hd hq hgd h)
          · have := hblt g (.inr ⟨d, List.mem_of_getElem? hd, hgd⟩); omega
        by_cases hi : i = q
        · by_cases hj : j = q
          · rw [hi, hj]
          · subst hi
            rw [List.getElem?_set_self hqlt] at hd
            rw [List.getElem?_set_ne (fun h => hj h.symm)] at hf
            simp only [Option.some.injEq] at hd
            subst hd
            exact absurd hgd (key j f hj hf hgf)
        · by_cases hj : j = q
          · subst hj
            rw [List.getElem?_set_self hqlt] at hf
            rw [List.getElem?_set_ne (fun h => hi h.symm)] at hd
            simp only [Option.some.injEq] at hf
            subst hf
            exact absurd hgf (key i d hi hd hgd)
          · rw [List.getElem?_set_ne (fun h => hi h.symm)] at hd
            rw [List.getElem?_set_ne (fun h => hj h.symm)] at hf
            exact hN.dist i j d f g hd hf hgd hgf
      · simp only at hd ⊢
        by_cases hi : i = q
        · subst hi
          rw [List.getElem?_set_self hqlt] at hd
          simp only [Option.some.injEq] at hd
          subst hd
          rcases hob g hgd with h | h
          · exact hN.outer i c g hq h
          · intro h'; have := hblt g (.inl h'); omega
        · rw [List.getElem?_set_ne (fun h => hi h.symm)] at hd
          exact hN.outer i d g hd hgd
  · rcases hg' with hg' | ⟨d, hd, hg'⟩
    · exact .inl (.inl hg')
    · rcases List.mem_or_eq_of_mem_set hd with hd | rfl
      · exact .inl (.inr ⟨d, hd, hg'⟩)
      · rcases hob g hg' with h | h
        · exact .inl (.inr ⟨c, hcm, h⟩)
        · exact .inr h

theorem SubR.oneC {T E : Nat} {c : Value} {rr : List (List AVal)} (h : SubR env Z w T E c rr) : oneC c = true := by
  rcases h.mem with ⟨_, a, h1⟩ | ⟨g, o, cap, cs, h1, _⟩ <;> rw [h1] <;> rfl

theorem appendN_sim (hT : TOk P TT) {k n q st : Nat} {e : TypeId} {te : TI} {E' : Nat} {rows : List (List AVal)} {v : AVal} {c d : Value} (hd : P.underlying t = some (.slice e)) (hte : TT e = some te) (hne : te.size ≠ 0)
    (h : Gives (appendN k n q st e te E' rows) s v s1) (hR : Rel X env Z s a w) (hx : VRel env Z w (.inn k n q st) c) (hsrc : Source env Z w d E' rows) (ty : TypeId) :
    ∃ u w' env', (Builtin.append_ #[t, t] ty #[c, d]).run P w = .ok u w' ∧ Rel X env' Z s1 a w' ∧ VRel env' Z w' v u := by
  unfold appendN at h
  have g1 := h.getK
  clear h
  cases hb : s.key k with
  | none => rw [hb] at g1; exact g1.fail
  | some b =>
  rw [hb] at g1
  simp only at g1
  split at g1
  case h_2 => exact g1.fail
  rename_i T E hkk
  cases hq : (Nat.beq st 0 && Nat.beq T e && Nat.beq E te.size) with
  | false => rw [hq] at g1; exact g1.fail
  | true =>
  rw [hq] at g1
  simp only [cond_true] at g1
  simp only [Bool.and_eq_true] at hq
  have q1 := nbeq_eq hq.1.1
  have q2 := nbeq_eq hq.1.2
  have q3 := nbeq_eq hq.2
  subst q1 q2 q3
  obtain ⟨h1, g2⟩ := g1.assert
  obtain ⟨rr, s2, h3, g3⟩ := g2.bind
  obtain ⟨e1, he1, hle, hh⟩ := hx.inn_ent
  have hB := hR.blk k b e1 hb he1
  obtain ⟨rfl, c', hd1, hrow, hS⟩ := innRow_sim (hB.ns _ _ _ hkk) h3
  obtain ⟨hc, g4⟩ := g3.assert
  have g5 := g4.setK
  obtain ⟨rfl, rfl⟩ := g5.ret
  obtain ⟨hh1, _⟩ := hh (by rw [hB.hn]; exact (verEq_eq h1).symm) (by rw [hB.hst, hkk]; rfl)
  rw [hd1] at hh1
  simp only [Option.some.injEq] at hh1
  subst hh1
  simp only [Bool.and_eq_true, roomOk, decide_eq_true_eq] at hc
  obtain ⟨hE, hb1, hb2⟩ := hc
  obtain ⟨u, w', hrun, hg, hob, hS', _⟩ := append_core (t := t) hT hd hte hne hR.zlt hS hsrc hE hb1 hb2 ty
  have hqlt : q < e1.sub.length := (List.getElem?_eq_some_iff.1 hd1).1
  refine ⟨u, w', _, hrun, hR.turnInner hb he1 hkk hd1 hg hob hS', .inn k n q 1 u _ (if_pos rfl) hle (fun _ => Nat.le_refl _) fun _ _ => ⟨?_, fun _ => rfl⟩⟩
  exact List.getElem?_set_self hqlt

theorem run_sliceAt {t e : TypeId} {i : TypeInfo} (hdd : P.underlying t = some (.slice e)) (hi : P.info? e = some i) {base : Option Addr} {len cap : Nat} {hh ll : Int} {cl ch : Option Value}
    (hcap : len ≤ cap) (hc0 : 0 ≤ ll) (hc1 : ll ≤ hh) (hc2 : hh ≤ len) (hH : (ch = none ∧ hh = len) ∨ ∃ k, ch = some (.int k hh)) (hL : (cl = none ∧ ll = 0) ∨ ∃ k, cl = some (.int k ll)) :
    (Instr.sliceAt t (.slice base len cap) cl ch none).run P w = .ok (.slice (if cap = ll.toNat then base else base.map (·.add (ll.toNat * i.size))) (hh.toNat - ll.toNat) (cap - ll.toNat)) w := by
  have sb : ∀ (k : IntKind) (n : Int) (y : Nat) (code : BoundsCode), 0 ≤ n → n ≤ (y : Int) → (Instr.sliceBound (.int k n) y code).run P w = .ok n.toNat w := by
    intro k n y code h1 h2
    simp only [Instr.sliceBound, asIntOf, Sem.run_bind, Sem.run_pure, Result.andThen_ok]
    rw [if_pos ⟨h1, h2⟩]
    rfl
  have b1 : hh ≤ (cap : Int) := by omega
  have b2 : ll ≤ ((hh.toNat : Nat) : Int) := by omega
  have b0 : 0 ≤ hh := by omega
  have b3 : ll ≤ (len : Int) := by omega
  rcases hH with ⟨rfl, rfl⟩ | ⟨k, rfl⟩ <;> rcases hL with ⟨rfl, rfl⟩ | ⟨k', rfl⟩ <;>
    simp only [Instr.sliceAt, Sem.run_bind, run_underlying hdd, Result.andThen_ok, Instr.slice, Instr.sliceBounds, Sem.run_pure, sb _ _ _ _ hc0 b2, sb _ _ _ _ hc0 b3, sb _ _ _ _ b0 b1, run_sizeOf' hi, Int.toNat_natCast] <;> rfl

theorem sliceN_sim (hT : TOk P TT) {t e : TypeId} {ti te : TI} {k n q st : Nat} {v : AVal} {c0 : Value} {lo hi : Option AVal} {cl ch : Option Value} (ht : TT t = some ti) (hd : ti.desc = .slice e) (hte : TT e = some te)
    (h : Gives (sliceN te.size k n q st lo hi) s v s1) (hR : Rel X env Z s a w) (hx : VRel env Z w (.inn k n q st) c0)
    (hlo : ∀ v, lo = some v → ∃ u, cl = some u ∧ VRel env Z w v u) (hlo' : lo = none → cl = none) (hhi : ∀ v, hi = some v → ∃ u, ch = some u ∧ VRel env Z w v u) (hhi' : hi = none → ch = none) :
    ∃ u env', (Instr.sliceAt t c0 cl ch none).run P w = .ok u w ∧ Rel X env' Z s1 a w ∧ VRel env' Z w v u := by
  unfold sliceN at h
  have g1 := h.getK
  clear h
  cases hb : s.key k with
  | none => rw [hb] at g1; exact g1.fail
  | some b =>
  rw [hb] at g1
  simp only at g1
  split at g1
  case h_2 => exact g1.fail
  rename_i T E hkk
  cases hq : (Nat.beq st 0 && Nat.beq E te.size) with
  | false => rw [hq] at g1; exact g1.fail
  | true =>
  rw [hq] at g1
  simp only [cond_true] at g1
  simp only [Bool.and_eq_true] at hq
  have q1 := nbeq_eq hq.1
  have q3 := nbeq_eq hq.2
  subst q1 q3
  obtain ⟨h1, g2⟩ := g1.assert
  obtain ⟨rr, s2, h3, g3⟩ := g2.bind
  obtain ⟨e1, he1, hle, hh⟩ := hx.inn_ent
  have hB := hR.blk k b e1 hb he1
  obtain ⟨rfl, c', hd1, hrow, hS⟩ := innRow_sim (hB.ns _ _ _ hkk) h3
  obtain ⟨hv, s3, h4, g4⟩ := g3.bind
  obtain ⟨lv, s4, h5, g5⟩ := g4.bind
  obtain ⟨rfl, hH⟩ := optInt_sim h4 hhi hhi'
  obtain ⟨rfl, hL⟩ := optInt_sim h5 hlo hlo'
  obtain ⟨hc, g6⟩ := g5.assert
  have g7 := g6.setK
  obtain ⟨rfl, rfl⟩ := g7.ret
  obtain ⟨hh1, _⟩ := hh (by rw [hB.hn]; exact (verEq_eq h1).symm) (by rw [hB.hst, hkk]; rfl)
  rw [hd1] at hh1
  simp only [Option.some.injEq] at hh1
  subst hh1
  simp only [Bool.and_eq_true, decide_eq_true_eq] at hc
  obtain ⟨⟨hc0, hc1⟩, hc2⟩ := hc
  have hdd := hT.desc t ti ht
  rw [hd] at hdd
  obtain ⟨ie, z, hi', hsz, _⟩ := hT.info e te hte
  have hqlt : q < e1.sub.length := (List.getElem?_eq_some_iff.1 hd1).1
  have hH' : (ch = none ∧ hv = rr.length) ∨ ∃ k, ch = some (.int k hv) := hH.imp (fun h => ⟨h.2.1, h.2.2⟩) id
  have hL' : (cl = none ∧ lv = 0) ∨ ∃ k, cl = some (.int k lv) := hL.imp (fun h => ⟨h.2.1, h.2.2⟩) id
  have hlen : (List.drop lv.toNat (List.take hv.toNat rr)).length = hv.toNat - lv.toNat := by simp; omega
  have hget : ∀ i r, (List.drop lv.toNat (List.take hv.toNat rr))[i]? = some r → rr[lv.toNat + i]? = some r := by
    intro i r hi
    rw [List.getElem?_drop, List.getElem?_take] at hi
    split at hi
    · exact hi
    · cases hi
  have fin : ∀ u, (Instr.sliceAt t c' cl ch none).run P w = .ok u w → (∀ g, ob u = some g → ob c' = some g ∨ w.heap.size ≤ g) →
      (∀ env' : Nat → Option Ent, (∀ v u, VRel env Z w v u → VRel env' Z w v u) → SubR env' Z w T te.size u (List.drop lv.toNat (List.take hv.toNat rr))) →
      ∃ u env', (Instr.sliceAt t c' cl ch none).run P w = .ok u w ∧ Rel X env' Z (s4.setK k ⟨.ns 1 T te.size, b.T, b.E, b.rows.set q [.ro te.size (List.drop lv.toNat (List.take hv.toNat rr))]⟩) a w ∧ VRel env' Z w (.inn k n q 1) u := fun u hrun hob hS' =>
    ⟨u, _, hrun, hR.turnInner hb he1 hkk hd1 ⟨rfl, rfl, rfl, Nat.le_refl _, fun _ _ _ => rfl⟩ hob hS', .inn k n q 1 u _ (if_pos rfl) hle (fun _ => Nat.le_refl _) fun _ _ => ⟨List.getElem?_set_self hqlt, fun _ => rfl⟩⟩
  rcases hS.mem with ⟨h0, ad, m1⟩ | ⟨g, o, cp, cs, m1, m2, m3, m4, m5, m6, m7, m8⟩
  · subst h0
    simp only [List.length_nil] at hc2 hH'
    have e1 : lv.toNat = 0 := by omega
    have e2 : hv.toNat = 0 := by omega
    refine fin _ (by rw [m1]; exact run_sliceAt hdd hi' (Nat.le_refl 0) hc0 hc1 hc2 hH' hL') (fun g hg => ?_) fun env' hm => ⟨fun i r hr => by simp at hr, .inl ⟨by simp, ad, ?_⟩⟩
    · rw [e1, e2] at hg; cases ad <;> simp [ob] at hg
    · rw [e1, e2]; simp
  · have hob : ob c' = some g := by rw [m1]; simp only [ob]; rw [if_neg (by omega)]
    refine fin _ (by rw [m1]; exact run_sliceAt hdd hi' m3 hc0 hc1 (by omega) hH' hL') (fun g' hg => ?_) fun env' hm => ⟨fun i r hr => hS.len _ r (hget i r hr), ?_⟩
    · by_cases hz : cp = lv.toNat
      · rw [if_pos hz] at hg; simp only [ob] at hg; rw [if_pos (by omega)] at hg; cases hg
      · rw [if_neg hz] at hg
        simp only [Option.map_some, add_mk, ob] at hg
        rw [if_neg (by omega)] at hg
        left; rw [hob]; exact hg
    · by_cases hz : cp = lv.toNat
      · rw [if_pos hz]
        refine .inl ⟨List.eq_nil_of_length_eq_zero (by rw [hlen]; omega), some ⟨g, o, none⟩, ?_⟩
        congr 1 <;> omega
      · rw [if_neg hz]
        simp only [Option.map_some, add_mk]
        refine .inr ⟨g, o + lv.toNat * ie.size, cp - lv.toNat, cs, by rw [hlen], m2, by rw [hlen]; omega, by omega, by omega, ?_, m7, fun i j r v hi hj => ?_⟩
        · have : lv.toNat * te.size + (cp - lv.toNat) * te.size = cp * te.size := by rw [← Nat.add_mul]; congr 1; omega
          rw [hsz]; omega
        · obtain ⟨c, q1, q2, q3⟩ := m8 _ j r v (hget i r hi) hj
          refine ⟨c, ?_, hm _ _ q2, q3⟩
          rw [← q1, hsz, Nat.add_mul]
          congr 1; omega

theorem storeN_sim (hT : TOk P TT) {t : TypeId} {k n i j k' n' i' st : Nat} {v : AVal} {c d : Value} (h : Gives (storeN TT t k n i j k' n' i' st) s v s1) (hR : Rel X env Z s a w) (hx : VRel env Z w (.ref k n i j) c) (hy : VRel env Z w (.inn k' n' i' st) d) :
    ∃ w' env' Z', (Instr.storeAt t c d).run P w = .ok () w' ∧ Rel X env' Z' s1 a w' ∧ v = .sc undef := by
  unfold storeN at h
  cases ht : TT t with
  | none => rw [ht] at h; exact h.fail
  | some ti =>
  rw [ht] at h
  have g1 := h.getK
  clear h
  cases hb : s.key k with
  | none => rw [hb] at g1; exact g1.fail
  | some b =>
  rw [hb] at g1
  simp only at g1
  split at g1
  case h_2 => exact g1.fail
  rename_i T E hkk
  cases hq : (Nat.beq st 1 && Nat.beq k k' && Nat.beq j 0 && Nat.beq ti.size 1) with
  | false => rw [hq] at g1; exact g1.fail
  | true =>
  rw [hq] at g1
  simp only [cond_true] at g1
  simp only [Bool.and_eq_true] at hq
  have q1 := nbeq_eq hq.1.1.1
  have q2 := nbeq_eq hq.1.1.2
  have q3 := nbeq_eq hq.1.2
  have q4 := nbeq_eq hq.2
  subst q1 q2 q3
  obtain ⟨h1, g2⟩ := g1.assert
  have g3 := g2.setK
  obtain ⟨rfl, rfl⟩ := g3.ret
  simp only [Bool.and_eq_true] at h1
  obtain ⟨⟨hn, hn'⟩, hii⟩ := h1
  have hn := verEq_eq hn
  have hn' := verEq_eq hn'
  have hii := nbeq_eq hii
  subst hii
  obtain ⟨e, he, hle, hh⟩ := hy.inn_ent
  have hB := hR.blk k b e hb he
  have hN := hB.ns _ _ _ hkk
  have hst1 : e.st = 1 := by rw [hB.hst, hkk]; rfl
  obtain ⟨hsub, hpos⟩ := hh (by rw [hB.hn]; exact hn'.symm) hst1
  have hpos := hpos rfl
  obtain ⟨hlt, g, hg, rfl⟩ := hx.inv_ref he (by rw [hB.hn]; exact hn.symm)
  obtain ⟨it, _, hit, hsz, _⟩ := hT.info t ti ht
  have hilt : i < e.sub.length := (List.getElem?_eq_some_iff.1 hsub).1
  have hib : i < b.rows.length := by rw [← hN.len]; exact hilt
  obtain ⟨rr, hrow, hS⟩ := hN.inn i b.rows[i] d (by simp [hib]) hsub
  have hone := hS.oneC
  rcases hN.out with ⟨h0, _⟩ | ⟨g', cap, cs, p1, p2, p3, p4, p5, p6, p7, p8⟩
  · rw [h0] at hib; simp at hib
  rw [p1] at hg
  simp only [ob] at hg
  rw [if_neg (by omega)] at hg
  simp only [Option.some.injEq] at hg
  subst hg
  have hob : ob e.v = some g' := by rw [p1]; simp only [ob]; rw [if_neg (by omega)]
  have hcs : d.cells = #[d] := cells_one hone
  have hE1 : e.E = 1 := hB.hE.trans hN.one
  rw [hE1, Nat.mul_one, Nat.add_zero]
  have hst := run_storeVar (P := P) (w := w) (t := t) (n := 1) ⟨it, hit, by rw [hsz, q4]⟩ p2 (c := d) (by rw [hcs]; rfl) (o := i) (by omega) (fun x hx => by rw [hcs] at hx; simp at hx; rw [hx]; exact hone)
  have hset : (cs.toList.take i ++ d.cells.toList ++ cs.toList.drop (i + 1)).toArray.size = cs.size := by
    rw [hcs]; simp; omega
  have hget : ∀ p, (cs.toList.take i ++ d.cells.toList ++ cs.toList.drop (i + 1)).toArray[p]? = if p = i then some d else cs[p]? := fun p => by
    rw [List.getElem?_toArray, getElem?_middle (l := cs.toList) (by rw [hcs]; rfl) (by simp; omega), hcs]
    by_cases h1 : p < i
    · rw [if_pos h1, if_neg (by omega)]; simp
    · by_cases h2 : p = i
      · subst h2; simp
      · rw [if_neg h1, if_neg (by omega), if_neg h2]; simp
  have hle' : e.le ⟨e.v, e.n, e.E, 2, 0, e.sub⟩ := ⟨Nat.le_refl _, fun _ => rfl, fun _ => rfl, fun _ => by rw [hst1]; exact Nat.le_succ _, fun _ h => absurd h (by simp [hst1]), fun _ h => absurd h (by simp [hst1])⟩
  have hnz := hN.notZ
  have hzw : ∀ q, Z q → (w.setRow g' (cs.toList.take i ++ d.cells.toList ++ cs.toList.drop (i + 1)).toArray).heap[q]? = w.heap[q]? := fun q hq => setRow_other w g' q _ fun e' => p7 (by rw [← e']; exact hq)
  have hen : ∀ l f, env l = some f → ∃ f', (if l = k then some (⟨e.v, e.n, e.E, 2, 0, e.sub⟩ : Ent) else env l) = some f' ∧ f.le f' := fun l f hl => by
    by_cases hlk : l = k
    · subst hlk
      rw [he] at hl
      simp only [Option.some.injEq] at hl
      subst hl
      exact ⟨_, if_pos rfl, hle'⟩
    · exact ⟨f, by rw [if_neg hlk]; exact hl, .refl f⟩
  refine ⟨w.setRow g' (cs.toList.take i ++ d.cells.toList ++ cs.toList.drop (i + 1)).toArray, _, Z, ?_, hR.updEntry2 (w' := w.setRow g' (cs.toList.take i ++ d.cells.toList ++ cs.toList.drop (i + 1)).toArray) (b := ⟨.ns 2 T E, b.T, b.E, b.rows⟩) hb he (e := ⟨e.v, e.n, e.E, 2, 0, e.sub⟩)
    ⟨rfl, rfl, rfl, by simp [World.setRow], fun q _ hq => setRow_other w g' q _ fun e' => hq (by rw [e']; exact .inl hob)⟩ hnz ?_ hle' (fun g hg => .inl hg) (by rw [hkk]; rfl), rfl⟩
  · simp only [Instr.storeAt, Instr.sureAddr, Sem.run_bind, Sem.run_pure, Result.andThen_ok]
    exact hst
  · refine ⟨hB.hn, hB.hE, hB.hlen, fun h => (by cases h), rfl, fun h => (by cases h), fun st T' E' h => ?_, fun h => (by cases h)⟩
    simp only [BKind.ns.injEq] at h
    obtain ⟨rfl, rfl, rfl⟩ := h
    refine ⟨hN.one, hN.len, .inr ⟨g', cap, _, p1, setRow_heap w g' cs _ b.T (0, 0) p2, p3, p4, p5, by rw [hset]; exact p6, p7, fun p c hp _ => ?_⟩, fun p r c hr hc => ?_, hN.dist, hN.outer⟩
    · rw [hget]
      by_cases h1 : p = i
      · subst h1
        simp only at hp
        rw [hsub] at hp
        simp only [Option.some.injEq] at hp
        rw [if_pos rfl, hp]
      · rw [if_neg h1]
        exact p8 p c hp fun _ => by rw [hpos]; exact h1
    · obtain ⟨rr', q1, q2⟩ := hN.inn p r c hr hc
      exact ⟨rr', q1, q2.mono2 (fun g hg => setRow_other w g' g _ fun e' => hN.outer p c g hc hg (by rw [e']; exact hob)) hzw (fun _ h => h) (fun _ _ h => h) hen⟩


theorem appendO_sim (hT : TOk P TT) {k n T E : Nat} {b : Blk} {e : TypeId} {te : TI} {E' : Nat} {rows : List (List AVal)} {v : AVal} {c d : Value} (hd : P.underlying t = some (.slice e)) (hte : TT e = some te) (hne : te.size ≠ 0)
    (hb : s.key k = some b) (hkk : b.kind = .ns 0 T E) (h : Gives (appendO k n b T E e te rows) s v s1) (hR : Rel X env Z s a w) (hx : VRel env Z w (.slc k n) c) (hsrc : Source env Z w d E' rows) (ty : TypeId) :
    ∃ u w' env', (Builtin.append_ #[t, t] ty #[c, d]).run P w = .ok u w' ∧ Rel X env' Z s1 a w' ∧ VRel env' Z w' v u := by
  unfold appendO at h
  cases hq : (Nat.beq b.T e && Nat.beq te.size 1 && rows.all isEmpR && !rows.isEmpty) with
  | false => rw [hq] at h; exact h.fail
  | true =>
  rw [hq] at h
  simp only [cond_true] at h
  obtain ⟨h1, g2⟩ := h.assert
  have g3 := g2.setK
  obtain ⟨rfl, rfl⟩ := g3.ret
  simp only [Bool.and_eq_true] at hq h1
  obtain ⟨⟨⟨q1, q2⟩, q3⟩, q4⟩ := hq
  have q1 := nbeq_eq q1
  have q2 := nbeq_eq q2
  obtain ⟨hn, hroom⟩ := h1
  have hn := verEq_eq hn
  simp only [Bool.and_eq_true, roomOk, decide_eq_true_eq] at hroom
  have hrne : rows ≠ [] := fun e => by rw [e] at q4; cases q4
  have hrl : 0 < rows.length := by cases rows with | nil => exact absurd rfl hrne | cons _ _ => simp
  have hrow : ∀ (i : Nat) (r : List AVal), rows[i]? = some r → r = [.emp] := fun i r hi => by
    have := List.all_eq_true.1 q3 r (List.mem_of_getElem? hi)
    unfold isEmpR at this
    split at this
    · rfl
    · cases this
  obtain ⟨e0, he0, rfl, hB⟩ := hR.readArr hx hb hn
  have hN := hB.ns _ _ _ hkk
  have hblt : ∀ g, e0.has g → g < w.heap.size := fun g hg' => hR.blt he0 hg'
  have hSo : SubR env Z w e te.size e0.v (e0.sub.map fun v => [.sc v]) := by
    refine ⟨fun i r hi => ?_, ?_⟩
    · rw [List.getElem?_map] at hi
      cases hs : e0.sub[i]? with
      | none => rw [hs] at hi; cases hi
      | some x => rw [hs] at hi; simp only [Option.map_some, Option.some.injEq] at hi; rw [← hi, q2]; rfl
    · rcases hN.out with ⟨h0, a, h1⟩ | ⟨g, cap, cs, m1, m2, m3, m4, m5, m6, m7, m8⟩
      · have : e0.sub = [] := List.eq_nil_of_length_eq_zero (by rw [hN.len, h0]; rfl)
        exact .inl ⟨by rw [this]; rfl, a, h1⟩
      · refine .inr ⟨g, 0, cap, cs, by rw [m1]; simp [hN.len], by rw [← q1]; exact m2, by simpa [hN.len] using m3, m4, m5, by rw [q2]; omega, m7, fun i j r v hi hj => ?_⟩
        rw [List.getElem?_map] at hi
        cases hs : e0.sub[i]? with
        | none => rw [hs] at hi; cases hi
        | some x =>
          rw [hs] at hi
          simp only [Option.map_some, Option.some.injEq] at hi
          subst hi
          cases j with
          | succ j => simp at hj
          | zero =>
            simp only [List.getElem?_cons_zero, Option.some.injEq] at hj
            subst hj
            have hlt : i < b.rows.length := by rw [← hN.len]; exact (List.getElem?_eq_some_iff.1 hs).1
            obtain ⟨rr, _, hS⟩ := hN.inn i b.rows[i] x (by simp [hlt]) hs
            exact ⟨x, by rw [q2, Nat.mul_one, Nat.zero_add, Nat.add_zero]; exact m8 i x hs fun h => (by cases h), .sc x, hS.oneC, hS.oneC⟩
  have hE : (Nat.beq E' te.size || rows.isEmpty) = true := by
    obtain ⟨base, cap, _, h0 | ⟨b', o', f, _, hr, _⟩⟩ := hsrc
    · exact absurd h0 hrne
    · have h1 : rows[0]? = some rows[0] := by simp [hrl]
      have h2 := hr 0 _ h1
      rw [hrow 0 _ h1] at h2
      rw [← h2, q2]; rfl
  have hlen0 : (e0.sub.map fun v => [AVal.sc v]).length = b.rows.length := by simp [hN.len]
  obtain ⟨u, w', hrun, hg, hob, hS', hoff⟩ := append_core (t := t) hT hd hte hne hR.zlt hSo hsrc hE (by rw [hlen0]; exact hroom.1) (by rw [hlen0]; exact hroom.2) ty
  have hnz := hN.notZ
  have hzw := hg.keepZ hR.zlt fun g hg' => hnz g (.inl hg')
  have hbase : SubR (fun _ => none) (fun _ => True) w' e te.size u [] ∨ True := .inr trivial
  have idv : ∀ (env' : Nat → Option Ent), (∀ k e, env k = some e → ∃ e', env' k = some e' ∧ e.le e') → SubR env' Z w' e te.size u ((e0.sub.map fun v => [.sc v]) ++ rows) := fun env' he => hS' env' fun v x hv => hv.mono2 hzw (fun _ h => h) he
  -- where it lies, and what the new cells are
  obtain ⟨g, cap, cs, m1, m2, m3, m4, m5, m6, m7, m8, m9⟩ : ∃ g cap cs, u = .slice (some ⟨g, 0, none⟩) (b.rows.length + rows.length) cap ∧ w'.heap[g]? = some (.cells cs e (0, 0)) ∧ b.rows.length + rows.length ≤ cap ∧ 0 < cap ∧ cap ≤ maxLen ∧ cap ≤ cs.size ∧ ¬ Z g ∧
      (∀ i x, e0.sub[i]? = some x → cs[i]? = some x) ∧ ∀ i, i < rows.length → ∃ ad, cs[b.rows.length + i]? = some (.slice ad 0 0) := by
    have hS1 := idv env fun k e hk => ⟨e, hk, .refl e⟩
    rcases hS1.mem with ⟨h0, _⟩ | ⟨g, o, cap, cs, m1, m2, m3, m4, m5, m6, m7, m8⟩
    · exact absurd (List.append_eq_nil_iff.1 h0).2 hrne
    · have ho : o = 0 := hoff (fun b' o' n' cap' h hc => by
        rcases hN.out with ⟨_, a, h1⟩ | ⟨g, cap, cs, m1, _⟩
        · rw [h1] at h; simp only [Value.slice.injEq] at h; omega
        · rw [m1] at h; simp only [Value.slice.injEq, Option.some.injEq, Addr.mk.injEq] at h; omega) g o _ cap m1 m4
      subst ho
      simp only [List.length_append, hlen0] at m1 m3
      rw [q2, Nat.mul_one, Nat.zero_add] at m6
      refine ⟨g, cap, cs, m1, m2, m3, m4, m5, m6, m7, fun i x hx => ?_, fun i hi => ?_⟩
      · have hlt : i < (e0.sub.map fun v => [AVal.sc v]).length := by simpa using (List.getElem?_eq_some_iff.1 hx).1
        obtain ⟨c, p1, p2, _⟩ := m8 i 0 [.sc x] (.sc x) (by rw [List.getElem?_append_left hlt, List.getElem?_map, hx]; rfl) rfl
        cases p2
        rw [q2] at p1
        simpa using p1
      · have h1 : rows[i]? = some rows[i] := by simp [hi]
        obtain ⟨c, p1, p2, _⟩ := m8 (b.rows.length + i) 0 rows[i] .emp (by rw [List.getElem?_append_right (by rw [hlen0]; omega), hlen0, Nat.add_sub_cancel_left]; exact h1) (by rw [hrow i _ h1]; rfl)
        cases p2 with
        | emp ad =>
        rw [q2] at p1
        exact ⟨ad, by simpa using p1⟩
  let nv : List Value := (List.range rows.length).map fun i => cs.getD (b.rows.length + i) undef
  have hnvl : nv.length = rows.length := by simp [nv]
  have hnv : ∀ i x, nv[i]? = some x → ∃ ad, x = .slice ad 0 0 ∧ cs[b.rows.length + i]? = some x := fun i x hx => by
    have hlt : i < rows.length := by rw [← hnvl]; exact (List.getElem?_eq_some_iff.1 hx).1
    obtain ⟨ad, had⟩ := m9 i hlt
    have : x = .slice ad 0 0 := by
      simp only [nv, List.getElem?_map, List.getElem?_range hlt, Option.map_some, Option.some.injEq] at hx
      rw [← hx, Array.getD_eq_getD_getElem?, had]; rfl
    exact ⟨ad, this, by rw [this]; exact had⟩
  have hsubget : ∀ i x, (e0.sub ++ nv)[i]? = some x → (e0.sub[i]? = some x) ∨ (b.rows.length ≤ i ∧ nv[i - b.rows.length]? = some x) := fun i x hx => by
    rw [List.getElem?_append] at hx
    split at hx
    · exact .inl hx
    · rename_i hge; rw [hN.len] at hx hge; exact .inr ⟨by omega, hx⟩
  have hle' : e0.le ⟨u, b.rows.length + rows.length, 1, 0, 0, e0.sub ++ nv⟩ := by
    have h0 := hB.hn
    exact ⟨by simp only; omega, fun h => by simp only at h; omega, fun h => by simp only at h; omega, fun h => by simp only at h; omega, fun h => by simp only at h; omega, fun h => by simp only at h; omega⟩
  have hen : ∀ l f, env l = some f → ∃ f', (if l = k then some (⟨u, b.rows.length + rows.length, 1, 0, 0, e0.sub ++ nv⟩ : Ent) else env l) = some f' ∧ f.le f' := fun l f hl => by
    by_cases hlk : l = k
    · subst hlk
      rw [he0] at hl
      simp only [Option.some.injEq] at hl
      subst hl
      exact ⟨_, if_pos rfl, hle'⟩
    · exact ⟨f, by rw [if_neg hlk]; exact hl, .refl f⟩
  refine ⟨u, w', _, hrun, hR.updEntry2 (b := ⟨.ns 0 T E, e, 1, b.rows ++ rows.map (fun _ => [.ro E []])⟩) hb he0 (e := ⟨u, b.rows.length + rows.length, 1, 0, 0, e0.sub ++ nv⟩)
    ⟨hg.os, hg.tape, hg.output, hg.size, fun g h1 h2 => hg.block g h1 fun h3 => h2 (.inl h3)⟩ hnz ?_ hle' (fun g' hg' => ?_) (by rw [hkk]; rfl), .slc k _ u _ (if_pos rfl) (Nat.le_refl _) (by rw [m1]; rfl) fun _ => rfl⟩
  · have hNN : NRel (fun l => if l = k then some (⟨u, b.rows.length + rows.length, 1, 0, 0, e0.sub ++ nv⟩ : Ent) else env l) Z w' ⟨.ns 0 T E, e, 1, b.rows ++ rows.map (fun _ => [.ro E []])⟩ ⟨u, b.rows.length + rows.length, 1, 0, 0, e0.sub ++ nv⟩ 0 T E := by
      refine ⟨rfl, by simp [hN.len, hnvl], .inr ⟨g, cap, cs, by simp [m1], m2, by simpa using m3, m4, m5, m6, m7, fun i x hx _ => ?_⟩, fun i r x hr hx => ?_, fun i j x y g' hx hy hgx hgy => ?_, fun i x g' hx hgx => ?_⟩
      · rcases hsubget i x hx with h | ⟨h1, h2⟩
        · exact m8 i x h
        · obtain ⟨_, _, h3⟩ := hnv _ x h2
          rw [show b.rows.length + (i - b.rows.length) = i by omega] at h3
          exact h3
      · rcases hsubget i x hx with h | ⟨h1, h2⟩
        · have hlt : i < b.rows.length := by rw [← hN.len]; exact (List.getElem?_eq_some_iff.1 h).1
          simp only at hr
          rw [List.getElem?_append_left hlt] at hr
          obtain ⟨rr, p1, p2⟩ := hN.inn i r x hr h
          have hm := List.mem_of_getElem? h
          exact ⟨rr, p1, p2.mono2 (fun g' hg' => hg.block g' (hblt g' (.inr ⟨x, hm, hg'⟩)) fun hgo => hN.outer i x g' h hg' hgo) hzw (fun _ h => h) (fun _ _ h => h) hen⟩
        · obtain ⟨ad, h3, _⟩ := hnv _ x h2
          simp only at hr
          rw [List.getElem?_append_right h1, List.getElem?_map] at hr
          cases hrr : rows[i - b.rows.length]? with
          | none => rw [hrr] at hr; cases hr
          | some y =>
            rw [hrr] at hr
            simp only [Option.map_some, Option.some.injEq] at hr
            exact ⟨[], hr.symm, ⟨fun i r hi => (by simp at hi), .inl ⟨rfl, ad, h3⟩⟩⟩
      · have none_of : ∀ i x, b.rows.length ≤ i ∧ nv[i - b.rows.length]? = some x → ob x ≠ some g' := fun i x h => by
          obtain ⟨ad, h3, _⟩ := hnv _ x h.2
          rw [h3]; cases ad <;> simp [ob]
        rcases hsubget i x hx with h | h
        · rcases hsubget j y hy with h' | h'
          · exact hN.dist i j x y g' h h' hgx hgy
          · exact absurd hgy (none_of j y h')
        · exact absurd hgx (none_of i x h)
      · rcases hsubget i x hx with h | h
        · intro hu
          rcases hob g' hu with h1 | h1
          · exact hN.outer i x g' h hgx h1
          · have := hblt g' (.inr ⟨x, List.mem_of_getElem? h, hgx⟩); omega
        · obtain ⟨ad, h3, _⟩ := hnv _ x h.2
          rw [h3] at hgx; cases ad <;> simp [ob] at hgx
    exact ⟨by simp, rfl, hNN.rowlen, fun h => (by cases h), rfl, fun h => (by cases h), fun st T' E'' h => by simp only [BKind.ns.injEq] at h; obtain ⟨rfl, rfl, rfl⟩ := h; exact hNN, fun h => (by cases h)⟩
  · rcases hg' with hg' | ⟨x, hx, hg'⟩
    · exact (hob g' hg').imp .inl id
    · rcases List.mem_append.1 hx with h | h
      · exact .inl (.inr ⟨x, h, hg'⟩)
      · obtain ⟨i, hi⟩ := List.getElem?_of_mem h
        obtain ⟨ad, h3, _⟩ := hnv i x hi
        rw [h3] at hg'; cases ad <;> simp [ob] at hg'

theorem appendA_sim (hT : TOk P TT) {kk : Nat} {ty : TypeId} {x y v : AVal} {c d : Value} (h : Gives (appendA TT kk t x y) s v s1) (hR : Rel X env Z s a w) (hx : VRel env Z w x c) (hy : VRel env Z w y d) :
    ∃ u w' env', (Builtin.append_ #[t, t] ty #[c, d]).run P w = .ok u w' ∧ Rel X env' Z s1 a w' ∧ VRel env' Z w' v u := by
  unfold appendA at h
  cases ht : TT t with
  | none => rw [ht] at h; exact h.fail
  | some ti =>
  rw [ht] at h
  have hd := hT.desc t ti ht
  simp only at h
  split at h
  case h_2 => exact h.fail
  rename_i e hde
  rw [hde] at hd
  cases hte : TT e with
  | none => rw [hte] at h; exact h.fail
  | some te =>
  rw [hte] at h
  simp only at h
  obtain ⟨p, s2, hp, h2⟩ := h.bind
  obtain ⟨rfl, hsrc⟩ := rowsOfA_sim hp hR hy
  obtain ⟨E', rows'⟩ := p
  simp only at h2 hsrc
  split at h2
  · exact h2.fail
  rename_i hne
  obtain ⟨ie, z, hi, hsz, hbs, hz0, hz1, hlf, hzl, hone⟩ := hT.info e te hte
  have hzs : z.cells.size = te.size := by rw [← hzl, ← hz1]; simp
  have empty_case : rows' = [] → ∃ b cap, d = .slice b 0 cap := fun h0 => by
    obtain ⟨b, cap, rfl, _⟩ := hsrc
    exact ⟨b, cap, by rw [h0]; rfl⟩
  -- a new array: nothing was there
  have fresh : ∀ (ad : Option Addr), rows' ≠ [] → E' = te.size → rows'.length ≤ 140737488355328 → rows'.length * te.bytes ≤ 140737488355328 →
      ∃ cap A w', (Builtin.append_ #[t, t] ty #[.slice ad 0 0, d]).run P w = .ok (.slice (some ⟨w.heap.size, 0, none⟩) rows'.length cap) w' ∧ w' = w.drew.alloc (.cells A e) ∧ rows'.length ≤ cap ∧ cap ≤ maxLen ∧ A.size = cap * te.size ∧ Flat env Z w te.size rows' A := by
    intro ad hr hE hb1 hb2
    subst hE
    obtain ⟨b, o, cap, news, rfl, hl, hcell, hone', hrl, hnews⟩ := hsrc.news hr
    have hm : 0 < rows'.length := by cases rows' with | nil => exact absurd rfl hr | cons _ _ => simp
    have hge := grownCap_ge w rows'.length 0 e
    have hmx : grownCap w rows'.length 0 e ≤ maxLen := grownCap_le_maxLen w rows'.length 0 e (by simp only [maxLen]; omega)
    have hflat : ∀ (zz : Array Value), Flat env Z w te.size rows' (news.toArray ++ zz) := fun zz => by
      refine ⟨hrl, fun i j r v hi hj => ?_⟩
      obtain ⟨c, q1, q2⟩ := hnews i j r v hi hj
      refine ⟨c, ?_, q2⟩
      have hlt : i * te.size + j < news.length := (List.getElem?_eq_some_iff.1 q1).1
      rw [Array.getElem?_append_left (by simpa using hlt)]
      simpa using q1
    cases ad with
    | none =>
      have hr' := run_append_nil (P := P) w t ty e ie z hd hi hz0 ⟨b, o, none⟩ rows'.length cap news (by rw [hsz]; exact hl) hcell hm (by omega) (by rw [hbs]; omega)
      exact ⟨_, _, _, hr', rfl, hge, hmx, by simp [zeroCells_size, hzs, hl, ← Nat.add_mul]; rw [show rows'.length + (grownCap w rows'.length 0 e - rows'.length) = grownCap w rows'.length 0 e by omega], hflat _⟩
    | some ad =>
      have hr' := run_append_grow (P := P) w t ty e ie z hd hi hz0 ad 0 0 [] (by simp) (fun j v hj => by simp at hj) ⟨b, o, none⟩ rows'.length cap news (by rw [hsz]; exact hl) hcell (by omega) (by omega)
        (growslice_fits (by omega) (by rw [hbs]; simpa using hb2))
      simp only [Nat.zero_add] at hr'
      refine ⟨_, _, _, hr', rfl, hge, hmx, ?_, ?_⟩
      · simp [zeroCells_size, hzs, hl, ← Nat.add_mul]; rw [show rows'.length + (grownCap w rows'.length 0 e - rows'.length) = grownCap w rows'.length 0 e by omega]
      · have := hflat (Builtin.zeroCells z.cells (grownCap w rows'.length 0 e - rows'.length))
        simpa using this
  split at h2
  · -- onto an own array
    rename_i k n
    have h3 := h2.getK
    cases hb : s2.key k with
    | none => rw [hb] at h3; exact h3.fail
    | some b =>
    rw [hb] at h3
    simp only at h3
    split at h3
    · rename_i T0 E0 hkk
      exact appendO_sim hT hd hte hne hb hkk h3 hR hx hsrc ty
    cases hq : (!b.kind.isArr || !(Nat.beq b.T e) || !(Nat.beq b.E te.size) || sameArr k y) with
    | true => rw [hq] at h3; exact h3.fail
    | false =>
    rw [hq] at h3
    simp only [cond_false] at h3
    obtain ⟨hc, h4⟩ := h3.assert
    have h5 := h4.setK
    obtain ⟨rfl, rfl⟩ := h5.ret
    simp only [Bool.or_eq_false_iff, Bool.not_eq_false'] at hq
    obtain ⟨⟨⟨hka, hbT⟩, hbE⟩, _⟩ := hq
    have hbT := nbeq_eq hbT
    have hbE := nbeq_eq hbE
    simp only [Bool.and_eq_true, roomOk, decide_eq_true_eq] at hc
    obtain ⟨⟨hn, hE⟩, hb1, hb2⟩ := hc
    have hn := nbeq_eq hn
    have hk' : b.kind = .arr := by cases hk : b.kind <;> first | rfl | (rw [hk] at hka; cases hka)
    have hkb : b.kind.isBox = false := by rw [hk']; rfl
    have hns : b.kind.isNs = false ∧ b.kind.isD = false := by rw [hk']; exact ⟨rfl, rfl⟩
    obtain ⟨e0, he0, rfl, hB⟩ := hR.readArr hx hb hn
    have hsub0 := hB.plain hns.1
    have hrowsE : ∀ (i : Nat) (r : List AVal), b.rows[i]? = some r → r.length = te.size := fun i r hi => by rw [hB.hlen i r hi, hbE]
    rw [List.length_append]
    by_cases hr : rows' = []
    · -- nothing to append
      obtain ⟨bb, cap, rfl⟩ := empty_case hr
      have hlen : b.rows.length + rows'.length = b.rows.length := by rw [hr]; rfl
      have hBn : (⟨.arr, e, te.size, b.rows ++ rows'⟩ : Blk) = b := by
        rw [hr, List.append_nil, ← hbT, ← hbE, ← hk']
      have henv : (fun l => if l = k then some e0 else env l) = env := funext fun l => by by_cases hl : l = k <;> simp [hl, he0]
      have hsame : s2.setK k b = s2 := F.ext_same rfl fun l => by
        cases l with
        | tmp q => rfl
        | key q => simp only [F.Same, F.setK]; by_cases hqk : q = k <;> simp [hqk, hb]
      rw [hBn, hlen, hsame]
      have hle : ∃ base sLen sCap, e0.v = .slice base sLen sCap ∧ sLen ≤ sCap := by
        rcases hB.arr hkb with ⟨h0, ad, h1⟩ | ⟨g, cp, cs, h1, _, h3, _⟩
        · exact ⟨ad, 0, 0, h1, Nat.le_refl _⟩
        · exact ⟨_, _, cp, h1, h3⟩
      obtain ⟨base, sLen, sCap, hv0, hle⟩ := hle
      refine ⟨e0.v, w, env, by rw [hv0]; exact run_append_zero hd hi hle ty w, hR, .slc k _ _ e0 he0 (by rw [hB.hn]; exact Nat.le_refl _) (by rw [hv0]; rfl) fun _ => rfl⟩
    · have hEs := beq_size hE hr
      have hm : 0 < rows'.length := by cases rows' with | nil => exact absurd rfl hr | cons _ _ => simp
      rcases hB.arr hkb with ⟨h0, ad, h1⟩ | ⟨g, cp, cs, m1, m2, m3, m4, m5, m6, m7, m8, m9⟩
      · -- it was empty, and lay nowhere
        rw [h0] at hb1 hb2
        simp only [List.length_nil, Nat.zero_add] at hb1 hb2
        obtain ⟨cap, A, w', hrun, rfl, hc1, hc2, hA, hfl⟩ := fresh ad hr hEs hb1 hb2
        have hgb : w.grownBy (w.drew.alloc (.cells A e)) (ob e0.v) := ⟨rfl, rfl, rfl, by simp, fun g hg _ => heap_alloc_old w.drew _ g hg⟩
        have hob0 : ob e0.v = none := by rw [h1]; cases ad <;> rfl
        have hz : ∀ q, Z q → (w.drew.alloc (.cells A e)).heap[q]? = w.heap[q]? := fun q hq => heap_alloc_old w.drew _ q (hR.zlt q hq)
        have hen0 : e0.n = 0 := by rw [hB.hn, h0]; rfl
        have idE : ∀ l f, env l = some f → ∃ f', (if l = k then some (⟨.slice (some ⟨w.heap.size, 0, none⟩) rows'.length cap, rows'.length, te.size, 0, 0, []⟩ : Ent) else env l) = some f' ∧ f.n ≤ f'.n ∧ (f'.n = f.n → f' = f) := fun l f hl => by
          by_cases hlk : l = k
          · subst hlk
            rw [he0] at hl
            simp only [Option.some.injEq] at hl
            subst hl
            exact ⟨_, if_pos rfl, by omega, fun h => by simp only at h; omega⟩
          · exact ⟨f, by rw [if_neg hlk]; exact hl, Nat.le_refl _, fun _ => rfl⟩
        refine ⟨_, _, _, by rw [h1]; exact hrun, hR.updEntry (b := ⟨.arr, e, te.size, b.rows ++ rows'⟩) (e := ⟨.slice (some ⟨w.heap.size, 0, none⟩) rows'.length cap, rows'.length, te.size, 0, 0, []⟩) hb he0 hns rfl hgb (fun g hg => by rw [hob0] at hg; cases hg) ?_ (by omega) (fun h => by simp only at h; omega) (fun g hg => ?_), ?_⟩
        · refine ⟨by simp [h0], rfl, by rw [h0]; exact hfl.1, fun hb => (by cases hb), rfl, fun _ => ⟨rfl, rfl⟩, fun _ _ _ hb => (by cases hb), fun _ => .inr ⟨w.heap.size, cap, A, by simp [h0], heap_alloc_new' w.drew _, by simpa [h0] using hc1, by omega, hc2, hA, fun _ hzz => by have := hR.zlt _ hzz; omega, fun hb => (by cases hb), fun i j r v hi hj => ?_⟩⟩
          rw [h0, List.nil_append] at hi
          obtain ⟨c, q1, q2, q3⟩ := hfl.2 i j r v hi hj
          exact ⟨c, q1, q2.mono hz (fun _ h => h) idE, q3⟩
        · simp only [ob] at hg
          split at hg
          · cases hg
          · simp only [Option.some.injEq] at hg; right; omega
        · exact .slc k _ _ ⟨.slice (some ⟨w.heap.size, 0, none⟩) rows'.length cap, rows'.length, te.size, 0, 0, []⟩ (if_pos rfl) (by simp [h0]) rfl fun _ => rfl
      · subst hEs
        obtain ⟨bb, o, cap, news, rfl, hl, hcell, hone', hrl, hnews⟩ := hsrc.news hr
        have hnz := m7 hk'
        have hob : ob e0.v = some g := by rw [m1]; simp only [ob]; rw [if_neg (by omega)]
        rw [hbE] at m6 m9
        rw [hbT] at m2
        have hcsl : cs.toList.length = cs.size := by simp
        have hnl : b.rows.length * te.size ≤ cs.size := by rw [m6]; exact Nat.mul_le_mul_right _ m3
        -- cells of the array as it was
        have hold : ∀ (i j : Nat) (r : List AVal) (v : AVal), b.rows[i]? = some r → r[j]? = some v → i * te.size + j < b.rows.length * te.size := fun i j r v hi hj => by
          have h1 : i < b.rows.length := (List.getElem?_eq_some_iff.1 hi).1
          have h2 : j < te.size := by rw [← hrowsE i r hi]; exact (List.getElem?_eq_some_iff.1 hj).1
          have : (i + 1) * te.size ≤ b.rows.length * te.size := Nat.mul_le_mul_right _ h1
          rw [Nat.add_mul] at this
          omega
        have idE : ∀ (v' : Value), ∀ l f, env l = some f → ∃ f', (if l = k then some (⟨v', b.rows.length + rows'.length, te.size, 0, 0, []⟩ : Ent) else env l) = some f' ∧ f.n ≤ f'.n ∧ (f'.n = f.n → f' = f) := fun v' l f hlf => by
          by_cases hlk : l = k
          · subst hlk
            rw [he0] at hlf
            simp only [Option.some.injEq] at hlf
            subst hlf
            have := hB.hn
            exact ⟨_, if_pos rfl, by simp only; omega, fun h => by simp only at h; omega⟩
          · exact ⟨f, by rw [if_neg hlk]; exact hlf, Nat.le_refl _, fun _ => rfl⟩
        by_cases hroom : b.rows.length + rows'.length ≤ cp
        · -- there is room
          have hfit : b.rows.length * ie.size + news.length ≤ cs.size := by rw [hsz, hl, m6, ← Nat.add_mul]; exact Nat.mul_le_mul_right _ hroom
          have hrun := run_append_room (P := P) w t ty e ie hd hi g b.rows.length cp cs m2 ⟨bb, o, none⟩ rows'.length cap news (by rw [hsz]; exact hl) hcell hone' hroom hfit
          rw [hsz] at hrun hfit
          have hz : ∀ q, Z q → (w.setRow g (cs.toList.take (b.rows.length * te.size) ++ news ++ cs.toList.drop (b.rows.length * te.size + news.length)).toArray).heap[q]? = w.heap[q]? := fun q hq =>
            setRow_other w g q _ fun e' => hnz (by rw [← e']; exact hq)
          have hmid := fun p => getElem?_middle (l := cs.toList) (m := news) (o := b.rows.length * te.size) (n := news.length) (q := p) rfl (by omega)
          refine ⟨_, _, _, by rw [m1]; exact hrun, hR.updEntry (b := ⟨.arr, e, te.size, b.rows ++ rows'⟩) (e := ⟨.slice (some ⟨g, 0, none⟩) (b.rows.length + rows'.length) cp, b.rows.length + rows'.length, te.size, 0, 0, []⟩) hb he0 hns rfl (by rw [hob]; exact grownBy_setRow w g _)
            (fun g' hg => by rw [hob] at hg; simp only [Option.some.injEq] at hg; rw [← hg]; exact hnz) ?_ (by rw [hB.hn]; simp) (fun h => by rw [hB.hn] at h; simp only at h; omega) (fun g' hg => ?_), ?_⟩
          · have hF := Flat.append (env' := fun l => if l = k then some (⟨.slice (some ⟨g, 0, none⟩) (b.rows.length + rows'.length) cp, b.rows.length + rows'.length, te.size, 0, 0, []⟩ : Ent) else env l) (Z := Z) (w' := w.setRow g (cs.toList.take (b.rows.length * te.size) ++ news ++ cs.toList.drop (b.rows.length * te.size + news.length)).toArray)
              (A := (cs.toList.take (b.rows.length * te.size) ++ news ++ cs.toList.drop (b.rows.length * te.size + news.length)).toArray) hrowsE hrl
              (fun i j r v hi' hj => by
                obtain ⟨c, q1, q2, q3⟩ := m9 i j r v hi' hj
                refine ⟨c, ?_, q2.mono hz (fun _ h => h) (idE _), q3⟩
                rw [List.getElem?_toArray, hmid, if_pos (hold i j r v hi' hj)]
                simpa using q1)
              (fun i j r v hi' hj => by
                obtain ⟨c, q1, q2, q3⟩ := hnews i j r v hi' hj
                have hlt : i * te.size + j < news.length := (List.getElem?_eq_some_iff.1 q1).1
                refine ⟨c, ?_, q2.mono hz (fun _ h => h) (idE _), q3⟩
                rw [List.getElem?_toArray, hmid, if_neg (by omega), if_pos (by omega), ← q1]
                congr 1; omega)
            refine ⟨by simp, rfl, hF.1, fun hb => (by cases hb), rfl, fun _ => ⟨rfl, rfl⟩, fun _ _ _ hb => (by cases hb), fun _ => .inr ⟨g, cp, _, by simp, setRow_heap w g cs _ e (0, 0) m2, by simpa using hroom, m4, m5, ?_, fun _ => hnz, fun hb => (by cases hb), hF.2⟩⟩
            rw [← m6]
            simp only [List.size_toArray, List.length_append, List.length_take, List.length_drop, hcsl]
            omega
          · simp only [ob] at hg
            rw [if_neg (by omega)] at hg
            exact .inl (by rw [hob]; exact hg)
          · exact .slc k _ _ ⟨.slice (some ⟨g, 0, none⟩) (b.rows.length + rows'.length) cp, b.rows.length + rows'.length, te.size, 0, 0, []⟩ (if_pos rfl) (Nat.le_refl _) rfl fun _ => rfl
        · -- it grows
          have holds : ∀ j u, (cs.toList.take (b.rows.length * te.size))[j]? = some u → w.cell? ((⟨g, 0, none⟩ : Addr).add j) = some u := fun j u hu => by
            rw [List.getElem?_take] at hu
            split at hu
            · rw [add_mk, Nat.zero_add]; exact cell_block m2 (by simpa using hu)
            · cases hu
          have holdl : (cs.toList.take (b.rows.length * te.size)).length = b.rows.length * te.size := by simp; omega
          have hrun := run_append_grow (P := P) w t ty e ie z hd hi hz0 ⟨g, 0, none⟩ b.rows.length cp (cs.toList.take (b.rows.length * te.size)) (by rw [hsz]; exact holdl) holds ⟨bb, o, none⟩ rows'.length cap news (by rw [hsz]; exact hl) hcell (by omega) (by omega)
            (growslice_fits (by omega) (by rw [hbs]; exact hb2))
          have hge := grownCap_ge w (b.rows.length + rows'.length) cp e
          have hmx : grownCap w (b.rows.length + rows'.length) cp e ≤ maxLen := grownCap_le_maxLen w _ cp e (by simp only [maxLen]; omega)
          generalize hG : grownCap w (b.rows.length + rows'.length) cp e = G at hrun hge hmx
          generalize hA : (cs.toList.take (b.rows.length * te.size)).toArray ++ news.toArray ++ Builtin.zeroCells z.cells (G - (b.rows.length + rows'.length)) = A at hrun
          have hAs : A.size = G * te.size := by
            rw [← hA]
            simp only [Array.size_append, List.size_toArray, holdl, hl, zeroCells_size, hzs, ← Nat.add_mul]
            congr 1; omega
          have hA1 : ∀ q, q < b.rows.length * te.size → A[q]? = cs[q]? := fun q hq => by
            rw [← hA, Array.append_assoc, Array.getElem?_append_left (by simpa [holdl] using hq)]
            rw [List.getElem?_toArray, List.getElem?_take, if_pos hq]
            simp
          have hA2 : ∀ q, q < news.length → A[b.rows.length * te.size + q]? = news[q]? := fun q hq => by
            rw [← hA, Array.append_assoc, Array.getElem?_append_right (by simp only [List.size_toArray, holdl]; omega)]
            simp only [List.size_toArray, holdl]
            rw [show b.rows.length * te.size + q - b.rows.length * te.size = q by omega, Array.getElem?_append_left (by simpa using hq)]
            simp
          have hz : ∀ q, Z q → (w.drew.alloc (.cells A e)).heap[q]? = w.heap[q]? := fun q hq => heap_alloc_old w.drew _ q (hR.zlt q hq)
          refine ⟨_, w.drew.alloc (.cells A e), _, by rw [m1]; exact hrun, hR.updEntry (b := ⟨.arr, e, te.size, b.rows ++ rows'⟩) (e := ⟨.slice (some ⟨w.heap.size, 0, none⟩) (b.rows.length + rows'.length) G, b.rows.length + rows'.length, te.size, 0, 0, []⟩) hb he0 hns rfl ⟨rfl, rfl, rfl, by simp, fun q hq _ => heap_alloc_old w.drew _ q hq⟩
            (fun g' hg => by rw [hob] at hg; simp only [Option.some.injEq] at hg; rw [← hg]; exact hnz) ?_ (by rw [hB.hn]; simp) (fun h => by rw [hB.hn] at h; simp only at h; omega) (fun g' hg => ?_), ?_⟩
          · have hF := Flat.append (env' := fun l => if l = k then some (⟨.slice (some ⟨w.heap.size, 0, none⟩) (b.rows.length + rows'.length) G, b.rows.length + rows'.length, te.size, 0, 0, []⟩ : Ent) else env l) (Z := Z) (w' := w.drew.alloc (.cells A e)) (A := A) hrowsE hrl
              (fun i j r v hi' hj => by
                obtain ⟨c, q1, q2, q3⟩ := m9 i j r v hi' hj
                exact ⟨c, by rw [hA1 _ (hold i j r v hi' hj)]; exact q1, q2.mono hz (fun _ h => h) (idE _), q3⟩)
              (fun i j r v hi' hj => by
                obtain ⟨c, q1, q2, q3⟩ := hnews i j r v hi' hj
                have hlt : i * te.size + j < news.length := (List.getElem?_eq_some_iff.1 q1).1
                exact ⟨c, by rw [hA2 _ hlt]; exact q1, q2.mono hz (fun _ h => h) (idE _), q3⟩)
            exact ⟨by simp, rfl, hF.1, fun hb => (by cases hb), rfl, fun _ => ⟨rfl, rfl⟩, fun _ _ _ hb => (by cases hb), fun _ => .inr ⟨w.heap.size, G, A, by simp, heap_alloc_new' w.drew _, by simpa using hge, by omega, hmx, hAs, fun _ hzz => by have := hR.zlt _ hzz; omega, fun hb => (by cases hb), hF.2⟩⟩
          · simp only [ob] at hg
            rw [if_neg (by omega)] at hg
            simp only [Option.some.injEq] at hg
            right; omega
          · exact .slc k _ _ ⟨.slice (some ⟨w.heap.size, 0, none⟩) (b.rows.length + rows'.length) G, b.rows.length + rows'.length, te.size, 0, 0, []⟩ (if_pos rfl) (Nat.le_refl _) rfl fun _ => rfl
  · exact appendN_sim hT hd hte hne h2 hR hx hsrc ty
  · -- onto nothing
    cases hx with
    | emp ad =>
    obtain ⟨hc, h3⟩ := h2.assert
    obtain ⟨hk, rfl, rfl⟩ := h3.newBlk
    simp only [Bool.and_eq_true, roomOk, decide_eq_true_eq] at hc
    obtain ⟨hE, hb1, hb2⟩ := hc
    by_cases hr : rows' = []
    · obtain ⟨bb, cap, rfl⟩ := empty_case hr
      obtain ⟨env', q1, q2⟩ := hR.newEmpty hk (T := e) (E := te.size) ad
      rw [hr]
      exact ⟨_, w, env', run_append_zero hd hi (Nat.le_refl _) ty w, q1, q2⟩
    · have hEs := beq_size hE hr
      obtain ⟨cap, A, w', hrun, rfl, hc1, hc2, hA, hfl⟩ := fresh ad hr hEs hb1 hb2
      obtain ⟨env', q1, q2⟩ := hR.newArr (Wider.drewAlloc w (.cells A e)) hk (T := e) (E := te.size) (Nat.le_refl _) (heap_alloc_new' w.drew _) hc1 hc2 hA hfl
      exact ⟨_, _, env', hrun, q1, q2⟩
  · exact h2.fail

/-! ### copy -/
theorem copyA_sim (hT : TOk P TT) {t' ty : TypeId} {x y v : AVal} {c d : Value} (h : Gives (copyA TT t x y) s v s1) (hR : Rel X env Z s a w) (hx : VRel env Z w x c) (hy : VRel env Z w y d) :
    ∃ u w' env', (Builtin.copy_ #[t, t'] ty #[c, d]).run P w = .ok u w' ∧ Rel X env' Z s1 a w' ∧ VRel env' Z w' v u := by
  unfold copyA at h
  cases ht : TT t with
  | none => rw [ht] at h; exact h.fail
  | some ti =>
  rw [ht] at h
  have hd := hT.desc t ti ht
  simp only at h
  split at h
  case h_2 => exact h.fail
  rename_i e hde
  rw [hde] at hd
  cases hte : TT e with
  | none => rw [hte] at h; exact h.fail
  | some te =>
  rw [hte] at h
  simp only at h
  split at h
  · exact h.fail
  rename_i hsz1
  have hsz1 : te.size = 1 := nbeq_eq (by simpa using hsz1)
  obtain ⟨p, s2, hp, h2⟩ := h.bind
  obtain ⟨rfl, hsrc⟩ := rowsOfA_sim hp hR hy
  obtain ⟨E', rows'⟩ := p
  simp only at h2 hsrc
  obtain ⟨ie, z, hi, hsz, _⟩ := hT.info e te hte
  have hs1 : (P.info? e).map (·.size) = some 1 := by rw [hi]; simp [hsz, hsz1]
  split at h2
  case h_2 => exact h2.fail
  rename_i k n
  have h3 := h2.getK
  cases hb : s2.key k with
  | none => rw [hb] at h3; exact h3.fail
  | some b =>
  rw [hb] at h3
  simp only at h3
  cases hq : (!b.kind.isArr || !(Nat.beq b.E te.size) || sameArr k y) with
  | true => rw [hq] at h3; exact h3.fail
  | false =>
  rw [hq] at h3
  simp only [cond_false] at h3
  obtain ⟨hc, h4⟩ := h3.assert
  have h5 := h4.setK
  obtain ⟨rfl, rfl⟩ := h5.ret
  simp only [Bool.or_eq_false_iff, Bool.not_eq_false'] at hq
  obtain ⟨⟨hka, hbE⟩, _⟩ := hq
  have hbE : b.E = 1 := (nbeq_eq hbE).trans hsz1
  simp only [Bool.and_eq_true] at hc
  obtain ⟨hn, hE⟩ := hc
  have hn := nbeq_eq hn
  have hk' : b.kind = .arr := by cases hk : b.kind <;> first | rfl | (rw [hk] at hka; cases hka)
  have hkb : b.kind.isBox = false := by rw [hk']; rfl
  have hns : b.kind.isNs = false ∧ b.kind.isD = false := by rw [hk']; exact ⟨rfl, rfl⟩
  obtain ⟨e0, he0, rfl, hB⟩ := hR.readArr hx hb hn
  have hsub0 := hB.plain hns.1
  have henv : (fun l => if l = k then some e0 else env l) = env := funext fun l => by by_cases hl : l = k <;> simp [hl, he0]
  -- nothing goes over
  have nothing : ∀ (base : Option Addr) (sLen cap : Nat) (dd : Option Addr) (dl dc : Nat), e0.v = .slice dd dl dc → d = .slice base sLen cap → min sLen dl = 0 → dl = b.rows.length → sLen = rows'.length →
      ∃ u w' env', (Builtin.copy_ #[t, t'] ty #[e0.v, d]).run P w = .ok u w' ∧ Rel X env' Z (s2.setK k ⟨.arr, b.T, b.E, rows'.take b.rows.length ++ b.rows.drop rows'.length⟩) a w' ∧ VRel env' Z w' (.sc (.int .i64 (rows'.take b.rows.length).length)) u := by
    intro base sLen cap dd dl dc hv hdv hm hdl hsl
    have hrow : rows'.take b.rows.length ++ b.rows.drop rows'.length = b.rows := by
      rcases Nat.eq_zero_or_pos rows'.length with h0 | h0
      · rw [h0, List.length_eq_zero_iff.1 h0]; simp
      · have : b.rows.length = 0 := by omega
        rw [this, List.length_eq_zero_iff.1 this]; simp
    have hlen : (rows'.take b.rows.length).length = 0 := by rw [List.length_take]; omega
    have hsame : s2.setK k ⟨.arr, b.T, b.E, b.rows⟩ = s2 := F.ext_same rfl fun l => by
      cases l with
      | tmp q => rfl
      | key q =>
        simp only [F.Same, F.setK]
        by_cases hqk : q = k
        · subst hqk; rw [if_pos rfl, hb, ← hk']
        · rw [if_neg hqk]
    rw [hrow, hsame, hlen]
    refine ⟨_, w, env, ?_, hR, .sc _⟩
    rw [hv, hdv]
    exact run_copy_none (P := P) w t t' ty e dd base dl dc sLen cap hd hs1 hm
  obtain ⟨base, cap, rfl, hrest⟩ := id hsrc
  rcases hB.arr hkb with ⟨h0, ad, h1⟩ | ⟨g, cp, cs, m1, m2, m3, m4, m5, m6, m7, m8, m9⟩
  · exact nothing base rows'.length cap ad 0 0 h1 rfl (Nat.min_eq_right (Nat.zero_le _)) (by rw [h0]; rfl) rfl
  by_cases hr : rows' = []
  · exact nothing base rows'.length cap _ _ _ m1 rfl (by rw [hr]; exact Nat.min_eq_left (Nat.zero_le _)) rfl rfl
  have hEs := beq_size hE hr
  rw [hsz1] at hEs
  subst hEs
  obtain ⟨bb, o, cap', news, hsl, hl, hcell, hone', hrl, hnews⟩ := hsrc.news hr
  simp only [Value.slice.injEq] at hsl
  obtain ⟨rfl, _, rfl⟩ := hsl
  rw [hbE] at m6 m9
  simp only [Nat.mul_one] at hl m6 m9 hnews
  have hnz := m7 hk'
  have hob : ob e0.v = some g := by rw [m1]; simp only [ob]; rw [if_neg (by omega)]
  have hcsl : cs.toList.length = cs.size := by simp
  -- the cells that go over
  have hnl : (news.take b.rows.length).length = min rows'.length b.rows.length := by rw [List.length_take, hl, Nat.min_comm]
  have hfit : 0 + (news.take b.rows.length).length ≤ cs.size := by rw [hnl, m6]; omega
  have hrun := run_copy_row (P := P) w t t' ty e g 0 b.rows.length cp ⟨bb, o, none⟩ rows'.length cap cs b.T (news.take b.rows.length) hd hs1 m2 hnl
    (fun j u hj => hcell j u (by rw [List.getElem?_take] at hj; split at hj <;> first | exact hj | cases hj)) hfit (fun u hu => hone' u (List.mem_of_mem_take hu))
  have hlen : ((rows'.take b.rows.length).length : Int) = ((news.take b.rows.length).length : Int) := by rw [List.length_take, List.length_take, hl]
  have hz : ∀ (A : Array Value), ∀ q, Z q → (w.setRow g A).heap[q]? = w.heap[q]? := fun A q hq => setRow_other w g q A fun e' => hnz (by rw [← e']; exact hq)
  have idE : ∀ k e, env k = some e → ∃ e', env k = some e' ∧ e.n ≤ e'.n ∧ (e'.n = e.n → e' = e) := fun k e hk => ⟨e, hk, Nat.le_refl _, fun _ => rfl⟩
  have hget : ∀ q, (cs.toList.take 0 ++ news.take b.rows.length ++ cs.toList.drop (0 + (news.take b.rows.length).length)).toArray[q]? = if q < min rows'.length b.rows.length then news[q]? else cs[q]? := fun q => by
    rw [List.getElem?_toArray, getElem?_middle (l := cs.toList) (m := news.take b.rows.length) (o := 0) (n := (news.take b.rows.length).length) (q := q) rfl (by simpa using hfit)]
    rw [if_neg (by omega), Nat.zero_add, hnl, Nat.sub_zero]
    by_cases hq : q < min rows'.length b.rows.length
    · rw [if_pos hq, if_pos hq, List.getElem?_take, if_pos (by omega)]
    · rw [if_neg hq, if_neg hq]; simp
  refine ⟨_, _, env, by rw [m1]; exact hrun, ?_, by rw [hlen]; exact .sc _⟩
  have hupd := hR.updEntry (b := ⟨.arr, b.T, b.E, rows'.take b.rows.length ++ b.rows.drop rows'.length⟩) (w' := w.setRow g (cs.toList.take 0 ++ news.take b.rows.length ++ cs.toList.drop (0 + (news.take b.rows.length).length)).toArray) hb he0 hns (e := e0) hsub0.1
    (by rw [hob]; exact grownBy_setRow w g _) (fun g' hg => by rw [hob] at hg; simp only [Option.some.injEq] at hg; rw [← hg]; exact hnz) ?_ (Nat.le_refl _) (fun _ => rfl) (fun g hg => .inl hg)
  · rw [henv] at hupd; exact hupd
  · rw [henv]
    have hln : (rows'.take b.rows.length ++ b.rows.drop rows'.length).length = b.rows.length := by
      rw [List.length_append, List.length_take, List.length_drop]; omega
    -- a row of the new list: one of the source's, or as it was
    have hrow : ∀ i r, (rows'.take b.rows.length ++ b.rows.drop rows'.length)[i]? = some r → (i < min rows'.length b.rows.length ∧ rows'[i]? = some r) ∨ (¬ i < min rows'.length b.rows.length ∧ b.rows[i]? = some r) := fun i r hi => by
      have hmin : min rows'.length b.rows.length = (rows'.take b.rows.length).length := by rw [List.length_take, Nat.min_comm]
      rw [hmin]
      by_cases hlt : i < (rows'.take b.rows.length).length
      · rw [List.getElem?_append_left hlt, List.getElem?_take] at hi
        split at hi
        · exact .inl ⟨hlt, hi⟩
        · cases hi
      · rw [List.getElem?_append_right (by omega), List.getElem?_drop] at hi
        refine .inr ⟨hlt, ?_⟩
        have hib : rows'.length + (i - (rows'.take b.rows.length).length) < b.rows.length := (List.getElem?_eq_some_iff.1 hi).1
        rw [List.length_take] at hib hlt hi
        have : rows'.length + (i - min b.rows.length rows'.length) = i := by omega
        rw [this] at hi
        exact hi
    refine ⟨by rw [hB.hn]; exact hln.symm, hB.hE, ?_, fun hb => (by cases hb), by rw [hB.hst, hk'], fun _ => hsub0, fun _ _ _ hb => (by cases hb), fun _ => .inr ⟨g, cp, _, by rw [m1]; exact congrArg (fun q => Value.slice _ q cp) hln.symm, setRow_heap w g cs _ b.T (0, 0) m2, by show (rows'.take b.rows.length ++ b.rows.drop rows'.length).length ≤ cp; rw [hln]; exact m3, m4, m5, ?_, fun _ => hnz, fun hb => (by cases hb), ?_⟩⟩
    · intro i r hi
      rcases hrow i r hi with ⟨_, h⟩ | ⟨_, h⟩
      · rw [hrl i r h]; exact hbE.symm
      · exact hB.hlen i r h
    · show _ = cp * b.E
      rw [hbE, Nat.mul_one, ← m6]
      simp only [List.size_toArray, List.length_append, List.length_take, List.length_drop, hcsl]
      have := hfit
      rw [List.length_take] at this
      omega
    · intro i j r v hi hj
      show ∃ c, _[i * b.E + j]? = some c ∧ _
      rw [hbE, Nat.mul_one]
      rcases hrow i r hi with ⟨hlt, h⟩ | ⟨hge, h⟩
      · have hj0 : j < 1 := by rw [← hrl i r h]; exact (List.getElem?_eq_some_iff.1 hj).1
        obtain ⟨c, q1, q2, q3⟩ := hnews i j r v h hj
        refine ⟨c, ?_, q2.mono (hz _) (fun _ h => h) idE, q3⟩
        rw [hget, if_pos (by omega)]
        exact q1
      · have hj0 : j < 1 := by rw [← hbE, ← hB.hlen i r h]; exact (List.getElem?_eq_some_iff.1 hj).1
        obtain ⟨c, q1, q2, q3⟩ := m9 i j r v h hj
        refine ⟨c, ?_, q2.mono (hz _) (fun _ h => h) idE, q3⟩
        rw [hget, if_neg (by omega)]
        exact q1
end

end Go.Proofs.YteiniiakpdijmaaDoor.AI
