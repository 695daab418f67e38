/- What makes and writes memory: the operations. -/
import Derived.Test.YteiniiakpdijmaaDoorAI8
import Derived.IntWalk
namespace Go.Proofs.YteiniiakpdijmaaDoor.AI
open Go.RowKit
set_option linter.unusedVariables false

section
variable {P : Program} {TT : TypeId → Option TI} {X : Ctx} {env : Nat → Option Ent} {Z : Nat → Prop} {s s1 : F} {a : Act} {w : World} {t : TypeId} {n : Nat}

theorem VRel.moreZ {v : AVal} {c : Value} {Z' : Nat → Prop} (h : VRel env Z w v c) (hz : ∀ g, Z g → Z' g) : VRel env Z' w v c :=
  h.mono (fun _ _ => rfl) hz fun k e hk => ⟨e, hk, Nat.le_refl _, fun _ => rfl⟩

theorem VRels.moreZ {v : List AVal} {c : List Value} {Z' : Nat → Prop} (h : VRels env Z w v c) (hz : ∀ g, Z g → Z' g) : VRels env Z' w v c :=
  ⟨h.1, fun i v c h1 h2 => (h.2 i v c h1 h2).moreZ hz⟩

/-- An array's block, read as rows that stay. -/
theorem BRel.asRo {b : Blk} {e : Ent} (h : BRel env Z w b e) (hk : b.kind.isBox = false) {Z' : Nat → Prop} (hz : ∀ g, Z g → Z' g) (hob : ∀ g, ob e.v = some g → Z' g) : VRel env Z' w (.ro b.E b.rows) e.v := by
  rcases h.arr hk with ⟨h0, ad, h1⟩ | ⟨g, cap, cs, h1, h2, h3, h4, h5, h6, h7, h8, h9⟩
  · rw [h0, h1]; exact .roE _ _ _
  · rw [h1]
    refine .ro _ _ g 0 cap (fun i j => cs.getD (i * b.E + j) undef) h3 (hob g (by rw [h1]; simp only [ob]; rw [if_neg (by omega)])) h.hlen (fun i j r v hi hj => ?_) fun i j r v hi hj => ?_
    · obtain ⟨c, q1, q2, q3, q4⟩ := h9 i j r v hi hj
      have : cs.getD (i * b.E + j) undef = c := by rw [Array.getD_eq_getD_getElem?, q1]; rfl
      simp only [this]
      exact ⟨q3, q4, by rw [Nat.zero_add]; exact cell_block h2 q1⟩
    · obtain ⟨c, q1, q2, q3, q4⟩ := h9 i j r v hi hj
      have : cs.getD (i * b.E + j) undef = c := by rw [Array.getD_eq_getD_getElem?, q1]; rfl
      simp only [this]
      exact q2.moreZ hz

/-- What became of the read-only blocks. -/
structure Froze (X : Ctx) (env : Nat → Option Ent) (Z Z' : Nat → Prop) (frz : Bool) (s s1 : F) (a : Act) (w : World) : Prop where
  more : ∀ g, Z g → Z' g
  own : ∀ g, Z' g → Z g ∨ ∃ k e, env k = some e ∧ ob e.v = some g
  rel : Rel X env (fun g => if frz then Z' g else Z g) s1 a w
  same : frz = false → s1 = s
  tmp : s1.tmp = s.tmp

theorem Rel.congrZ {Z' : Nat → Prop} (h : Rel X env Z s a w) (hz : ∀ g, Z g ↔ Z' g) : Rel X env Z' s a w := by
  have : Z = Z' := funext fun g => propext (hz g)
  rw [← this]; exact h

theorem Froze.refl (frz : Bool) (h : Rel X env Z s a w) : Froze X env Z Z frz s s a w :=
  ⟨fun _ h => h, fun _ h => .inl h, h.congrZ fun g => by cases frz <;> simp, fun _ => rfl, rfl⟩

/-- A box's block, read as cells that stay. -/
theorem BRel.asPtr {b : Blk} {e : Ent} {r : List AVal} (h : BRel env Z w b e) (hk : b.kind = .box) (hr : b.rows = [r]) (hf : r.all flat = true) (j : Nat) {Z' : Nat → Prop} (hz : ∀ g, Z g → Z' g) (hob : ∀ g, ob e.v = some g → Z' g) :
    ∃ g, ob e.v = some g ∧ VRel env Z' w (.rptr (r.drop j)) (.pointer (some ⟨g, j, none⟩)) := by
  obtain ⟨g, cs, r', h1, h2, h3, h4, h5, h6⟩ := h.box hk
  rw [hr] at h2
  simp only [List.cons.injEq, and_true] at h2
  subst h2
  refine ⟨g, by rw [h1]; rfl, .rptr _ g j (fun q => cs.getD (j + q) undef) (hob g (by rw [h1]; rfl)) (fun q v hq => ?_) fun q v hq => ?_⟩
  · rw [List.getElem?_drop] at hq
    have hj : j + q < cs.size := by rw [← h5]; exact (List.getElem?_eq_some_iff.1 hq).1
    have hcs : cs[j + q]? = some (cs.getD (j + q) undef) := by simp [hj]
    exact ⟨List.all_eq_true.1 hf v (List.mem_of_getElem? hq), (h6 (j + q) v _ hq hcs).2.2, cell_block h3 hcs⟩
  · rw [List.getElem?_drop] at hq
    have hj : j + q < cs.size := by rw [← h5]; exact (List.getElem?_eq_some_iff.1 hq).1
    have hcs : cs[j + q]? = some (cs.getD (j + q) undef) := by simp [hj]
    exact (h6 (j + q) v _ hq hcs).1.moreZ hz

theorem snapCap_sim {frz : Bool} {v u : AVal} {c : Value} (h : Gives (snapCap frz v) s u s1) (hR : Rel X env Z s a w) (hv : VRel env Z w v c) :
    (∃ Z', Froze X env Z Z' frz s s1 a w ∧ VRel env Z' w u c) ∧ isRp u = true := by
  unfold snapCap at h
  split at h
  · obtain ⟨rfl, rfl⟩ := h.ret
    exact ⟨⟨Z, .refl _ hR, hv⟩, rfl⟩
  · rename_i k n i j
    cases frz with
    | true => exact h.fail
    | false =>
      simp only [cond_false] at h
      have h := h.getK
      cases hb : s.key k with
      | none => rw [hb] at h; exact h.fail
      | some b =>
        rw [hb] at h
        simp only at h
        split at h
        · rename_i hk
          split at h
          · rename_i r hr _
            obtain ⟨h1, h2⟩ := h.assert
            obtain ⟨rfl, rfl⟩ := h2.ret
            simp only [Bool.and_eq_true] at h1
            obtain ⟨e, he, hle⟩ := hv.ref_ent
            have hB := hR.blk k b e hb he
            obtain ⟨_, g, hg, rfl⟩ := hv.inv_ref he (by rw [hB.hn]; exact (nbeq_eq h1.1).symm)
            obtain ⟨g', hg', hp⟩ := hB.asPtr hk hr h1.2 j (Z' := fun q => Z q ∨ ob e.v = some q) (fun q hq => .inl hq) fun q hq => .inr hq
            rw [hg] at hg'
            simp only [Option.some.injEq] at hg'
            subst hg'
            refine ⟨⟨fun q => Z q ∨ ob e.v = some q, ⟨fun q hq => .inl hq, fun q hq => hq.elim .inl fun hq => .inr ⟨k, e, he, hq⟩, hR.congrZ fun q => by simp, fun _ => rfl, rfl⟩, ?_⟩, rfl⟩
            rw [Nat.zero_mul, Nat.zero_add]
            exact hp
          · exact h.fail
        · exact h.fail
  · exact h.fail

theorem Froze.trans {frz : Bool} {Z1 Z2 : Nat → Prop} {s2 : F} (h : Froze X env Z Z1 frz s s1 a w) (k : Froze X env (fun g => if frz then Z1 g else Z g) Z2 frz s1 s2 a w) :
    Froze X env Z (fun g => Z1 g ∨ Z2 g) frz s s2 a w := by
  refine ⟨fun g hg => .inl (h.more g hg), fun g hg => ?_, k.rel.congrZ fun g => ?_, fun hf => (k.same hf).trans (h.same hf), k.tmp.trans h.tmp⟩
  · rcases hg with hg | hg
    · exact h.own g hg
    · rcases k.own g hg with hg | hg
      · cases frz with
        | true => simp only [if_true] at hg; exact h.own g hg
        | false => simp only [Bool.false_eq_true, if_false] at hg; exact .inl hg
      · exact .inr hg
  · cases frz with
    | true =>
      simp only [if_true]
      constructor
      · exact .inr
      · intro hg
        rcases hg with hg | hg
        · exact k.more g (by simpa using hg)
        · exact hg
    | false => simp

theorem snapCaps_sim {frz : Bool} : ∀ (l us : List AVal) (cs : List Value) (s s1 : F) (Z : Nat → Prop), Gives (snapCaps frz l) s us s1 → Rel X env Z s a w → VRels env Z w l cs →
    (∃ Z', Froze X env Z Z' frz s s1 a w ∧ VRels env Z' w us cs) ∧ us.all isRp = true
  | [], us, cs, s, s1, Z, h, hR, hl => by
    obtain ⟨rfl, rfl⟩ := h.ret
    exact ⟨⟨Z, .refl _ hR, hl⟩, rfl⟩
  | v :: l, us, cs, s, s1, Z, h, hR, hl => by
    obtain ⟨c, ds, rfl, hc, hds⟩ := hl.inv
    obtain ⟨u, s2, h1, h2⟩ := h.bind
    obtain ⟨us', s3, h3, h4⟩ := h2.bind
    obtain ⟨rfl, rfl⟩ := h4.ret
    obtain ⟨⟨Z1, f1, v1⟩, p1⟩ := snapCap_sim h1 hR hc
    obtain ⟨⟨Z2, f2, v2⟩, p2⟩ := snapCaps_sim l us' ds s2 s1 _ h3 f1.rel (hds.moreZ fun g hg => by cases frz <;> simp [hg, f1.more g hg])
    exact ⟨⟨_, f1.trans f2, .cons (v1.moreZ fun g hg => .inl hg) (v2.moreZ fun g hg => .inr hg)⟩, by simp [p1, p2]⟩

theorem snap_sim {frz : Bool} {v u : AVal} {c : Value} (h : Gives (snap frz v) s u s1) (hR : Rel X env Z s a w) (hv : VRel env Z w v c) :
    ∃ Z', Froze X env Z Z' frz s s1 a w ∧ VRel env Z' w u c := by
  unfold snap at h
  split at h
  · obtain ⟨rfl, rfl⟩ := h.ret
    cases hv with
    | emp ad => exact ⟨Z, .refl _ hR, .roE _ _ _⟩
  · rename_i k n
    have h := h.getK
    cases hb : s.key k with
    | none => rw [hb] at h; exact h.fail
    | some b =>
      rw [hb] at h
      simp only at h
      cases hkd : (b.kind.isBox || b.kind.isD) with
      | true => rw [hkd] at h; exact h.fail
      | false =>
        rw [hkd] at h
        simp only [cond_false] at h
        simp only [Bool.or_eq_false_iff] at hkd
        obtain ⟨hk, hd0⟩ := hkd
        obtain ⟨h1, h2⟩ := h.assert
        obtain ⟨e, he, rfl, hB⟩ := hR.readArr hv hb (nbeq_eq h1)
        cases frz with
        | true =>
          simp only [cond_true] at h2
          have h3 := h2.setK
          obtain ⟨rfl, rfl⟩ := h3.ret
          refine ⟨fun g => Z g ∨ ob e.v = some g, ⟨fun g hg => .inl hg, fun g hg => hg.elim .inl fun hg => .inr ⟨k, e, he, hg⟩, (hR.freeze hb he hk hd0).congrZ fun g => by simp, fun h => (by cases h), rfl⟩, hB.asRo hk (fun g hg => .inl hg) fun g hg => .inr hg⟩
        | false =>
          simp only [cond_false] at h2
          obtain ⟨rfl, rfl⟩ := h2.ret
          exact ⟨fun g => Z g ∨ ob e.v = some g, ⟨fun g hg => .inl hg, fun g hg => hg.elim .inl fun hg => .inr ⟨k, e, he, hg⟩, hR.congrZ fun g => by simp, fun _ => rfl, rfl⟩, hB.asRo hk (fun g hg => .inl hg) fun g hg => .inr hg⟩
  · obtain ⟨rfl, rfl⟩ := h.ret
    exact ⟨Z, .refl _ hR, hv⟩
  · obtain ⟨rfl, rfl⟩ := h.ret
    exact ⟨Z, .refl _ hR, hv⟩
  · obtain ⟨rfl, rfl⟩ := h.ret
    exact ⟨Z, .refl _ hR, hv⟩
  · rename_i f l
    obtain ⟨us, s2, h1, h2⟩ := h.bind
    obtain ⟨rfl, rfl⟩ := h2.ret
    cases hv with
    | clo _ _ cs hl hh =>
      obtain ⟨⟨Z', f1, v1⟩, _⟩ := snapCaps_sim l us cs.toList s _ Z h1 hR ⟨by simpa using hl, fun i v c q1 q2 => hh i v c q1 (by simpa using q2)⟩
      exact ⟨Z', f1, .clo _ _ _ (by simpa using v1.1) fun i v c q1 q2 => v1.2 i v c q1 (by simpa using q2)⟩
  · exact h.fail

theorem snaps_sim {frz : Bool} : ∀ (l us : List AVal) (cs : List Value) (s s1 : F) (Z : Nat → Prop), Gives (snaps frz l) s us s1 → Rel X env Z s a w → VRels env Z w l cs →
    ∃ Z', Froze X env Z Z' frz s s1 a w ∧ VRels env Z' w us cs
  | [], us, cs, s, s1, Z, h, hR, hl => by
    obtain ⟨rfl, rfl⟩ := h.ret
    exact ⟨Z, .refl _ hR, hl⟩
  | v :: l, us, cs, s, s1, Z, h, hR, hl => by
    obtain ⟨c, ds, rfl, hc, hds⟩ := hl.inv
    obtain ⟨u, s2, h1, h2⟩ := h.bind
    obtain ⟨us', s3, h3, h4⟩ := h2.bind
    obtain ⟨rfl, rfl⟩ := h4.ret
    obtain ⟨Z1, f1, v1⟩ := snap_sim h1 hR hc
    obtain ⟨Z2, f2, v2⟩ := snaps_sim l us' ds s2 s1 _ h3 f1.rel (hds.moreZ fun g hg => by cases frz <;> simp [hg, f1.more g hg])
    exact ⟨_, f1.trans f2, .cons (v1.moreZ fun g hg => .inl hg) (v2.moreZ fun g hg => .inr hg)⟩

theorem snapsE_sim {l us : List AVal} {cs : List Value} (h : Gives (snapsE l) s us s1) (hR : Rel X env Z s a w) (hl : VRels env Z w l cs) : ∃ Z', Froze X env Z Z' true s s1 a w ∧ VRels env Z' w us cs := by
  unfold snapsE at h
  cases hc : (!l.isEmpty && l.all isEmpV) with
  | true =>
    rw [hc] at h
    obtain ⟨rfl, rfl⟩ := h.ret
    exact ⟨Z, .refl _ hR, hl⟩
  | false =>
    rw [hc] at h
    exact snaps_sim _ _ _ _ _ _ h hR hl

theorem flatten_get {α : Type} (l : List α) : ∀ (n q : Nat), ((List.replicate n l).flatten)[q]? = if q < n * l.length then l[q % l.length]? else none
  | 0, q => by simp
  | n + 1, q => by
    rw [List.replicate_succ, List.flatten_cons, List.getElem?_append, flatten_get l n]
    by_cases h1 : q < l.length
    · rw [if_pos h1, if_pos (by rw [Nat.add_mul]; omega), Nat.mod_eq_of_lt h1]
    · rw [if_neg h1]
      have hm : (q - l.length) % l.length = q % l.length := by
        rw [← Nat.mod_eq_sub_mod (by omega)]
      rw [hm]
      by_cases h2 : q - l.length < n * l.length
      · rw [if_pos h2, if_pos (by rw [Nat.add_mul]; omega)]
      · rw [if_neg h2, if_neg (by rw [Nat.add_mul]; omega)]

/-- Zero cells, n times. -/
theorem zeros_get {z : Array Value} {n : Nat} (q : Nat) (hq : q < n * z.size) : ((Array.range (n * z.size)).map (z[· % z.size]!))[q]? = z[q % z.size]? := by
  have h0 : 0 < z.size := by rcases Nat.eq_zero_or_pos z.size with h | h; · rw [h] at hq; simp at hq
                             · exact h
  have hm := Nat.mod_lt q h0
  simp [hq, hm]

theorem zeros_sim {z : Value} {zs : List Value} (hz : z.cells.toList = zs) (h1 : ∀ c ∈ zs, oneC c = true) (n : Nat) :
    VRels env Z w ((List.replicate n (zs.map ofCell)).flatten) ((Array.range (n * z.cells.size)).map (z.cells[· % z.cells.size]!)).toList := by
  have hs : zs.length = z.cells.size := by rw [← hz]; simp
  refine ⟨by simp [List.length_flatten, hs], fun q v c hv hc => ?_⟩
  rw [flatten_get, List.length_map, hs] at hv
  split at hv
  · rename_i hq
    rw [Array.getElem?_toList, zeros_get q hq] at hc
    have hc' : zs[q % z.cells.size]? = some c := by rw [← hz]; simpa using hc
    rw [List.getElem?_map, hc'] at hv
    simp only [Option.map_some, Option.some.injEq] at hv
    rw [← hv]
    exact (ofCell_sim (h1 c (List.mem_of_getElem? hc'))).1
  · cases hv

/-- Cells one behind the other, as rows. -/
theorem chunk_flat {E n : Nat} {l : List AVal} {cs : Array Value} (hv : VRels env Z w l cs.toList) (hl : l.length = n * E) (hf : l.all flat = true) : Flat env Z w E (chunk E n l) cs := by
  refine ⟨fun i r hr => ?_, fun i j r v hr hj => ?_⟩
  · obtain ⟨h1, rfl⟩ := chunk_get _ _ _ _ _ hr
    have : (i + 1) * E ≤ n * E := Nat.mul_le_mul_right _ h1
    rw [Nat.add_mul] at this
    simp
    omega
  · obtain ⟨h1, rfl⟩ := chunk_get _ _ _ _ _ hr
    obtain ⟨_, h2⟩ := take_drop_get hj
    have hlt : i * E + j < cs.size := by
      have := hv.1
      rw [← Array.length_toList, ← this]
      exact (List.getElem?_eq_some_iff.1 h2).1
    have hc := hv.2 _ v cs[i * E + j] h2 (by simp [hlt])
    have hfl : flat v = true := by
      rw [List.all_eq_true] at hf
      exact hf v (List.mem_of_getElem? h2)
    exact ⟨cs[i * E + j], by simp [hlt], hc, hfl, hc.oneC (flat_cellOk hfl)⟩

theorem run_zeroValue' {t : TypeId} {i : TypeInfo} {z : Value} (h : P.info? t = some i) (hz : i.zero = some z) (w : World) : (zeroValue t).run P w = .ok z w := by
  simp [zeroValue, typeInfo, h, hz]

theorem makeSliceA_sim (hT : TOk P TT) {kk : Nat} {t : TypeId} {x y v : AVal} {c d : Value} (h : Gives (makeSliceA TT kk t x y) s v s1) (hR : Rel X env Z s a w) (hx : VRel env Z w x c) (hy : VRel env Z w y d) :
    ∃ u w' env', (Instr.makeSlice t c d).run P w = .ok u w' ∧ Rel X env' Z s1 a w' ∧ VRel env' Z w' v u := by
  unfold makeSliceA at h
  cases ht : TT t with
  | none => rw [ht] at h; exact h.fail
  | some ti =>
    rw [ht] at h
    have hd := hT.desc t ti ht
    simp only at h
    split at h
    · rename_i e hde
      rw [hde] at hd
      cases hte : TT e with
      | none => rw [hte] at h; exact h.fail
      | some te =>
        rw [hte] at h
        simp only at h
        split at h
        · rename_i n m
          split at h
          · exact h.fail
          · rename_i hne
            obtain ⟨hc, h2⟩ := h.assert
            simp only [Bool.and_eq_true, decide_eq_true_eq] at hc
            obtain ⟨⟨⟨rfl, h0⟩, h63⟩, hby⟩ := hc
            obtain ⟨hk, rfl, rfl⟩ := h2.newBlk
            obtain ⟨ie, z, hi, hsz, hbs, hz0, hz1, hlf, hzl, hone⟩ := hT.info e te hte
            cases hx
            cases hy
            have hwr : IntKind.i64.wrap n = n := IntWalk.i64_in n ⟨by omega, by omega⟩
            have hzs : z.cells.size = te.size := by rw [← hzl, ← hz1]; simp
            have hbn : (ie.bytes : Int) * n ≤ 140737488355328 := by rw [hbs]; exact hby
            have hroom : ¬ n.toNat * ie.bytes > roomBytes := by
              have : ((n.toNat * ie.bytes : Nat) : Int) = (ie.bytes : Int) * n := by push_cast; rw [Int.toNat_of_nonneg h0, Int.mul_comm]
              unfold roomBytes
              omega
            have hrun : (Instr.makeSlice t (.int .i64 n) (.int .i64 n)).run P w = .ok (.slice (some ⟨w.heap.size, 0, none⟩) n.toNat n.toNat)
                (w.alloc (.cells ((Array.range (n.toNat * z.cells.size)).map (z.cells[· % z.cells.size]!)) e)) := by
              simp only [Instr.makeSlice, Sem.run_bind, run_underlying hd, Result.andThen_ok, asInt, asIntOf, Sem.run_pure, typeInfo, run_program, hi, hwr]
              have hcond : ((decide (n < 0) || decide ((ie.bytes : Int) * n > 2 ^ 48)) || decide (n < 0) || decide (n > n)) = false := by
                simp; omega
              simp only [hcond, Bool.false_eq_true, if_false, askRoom, hroom]
              by_cases hn0 : n.toNat * ie.size = 0
              · have hnn : n.toNat = 0 := by
                  rcases Nat.mul_eq_zero.1 hn0 with h | h
                  · exact h
                  · rw [hsz] at h; exact absurd h hne
                have hr0 : Array.range 0 = (#[] : Array Nat) := rfl
                simp [run_sizeOf' hi, hnn, run_newRow, hr0]
              · simp only [Sem.run_pure, Result.andThen_ok, run_sizeOf' hi, hn0, if_false, Sem.run_bind, run_zeroValue' hi hz0, run_newRow]
                rw [hsz, ← hzs]
            obtain ⟨env', h3, h4⟩ := hR.newArr (w' := w.alloc (.cells ((Array.range (n.toNat * z.cells.size)).map (z.cells[· % z.cells.size]!)) e)) (Wider.alloc w _) hk (T := e) (E := te.size)
              (rows := List.replicate n.toNat (te.zero.map ofCell)) (cap := n.toNat) (Nat.le_refl _) (heap_alloc_new' w _) (by simp) (by simp only [maxLen]; omega) (by simp [hzs]) (by
                refine ⟨fun i r hr => ?_, fun i j r v hr hj => ?_⟩
                · rw [List.getElem?_replicate] at hr
                  split at hr
                  · simp only [Option.some.injEq] at hr; rw [← hr]; simp [hzl]
                  · cases hr
                · rw [List.getElem?_replicate] at hr
                  split at hr
                  · rename_i hlt
                    simp only [Option.some.injEq] at hr
                    subst hr
                    rw [List.getElem?_map] at hj
                    cases hzj : te.zero[j]? with
                    | none => rw [hzj] at hj; cases hj
                    | some c =>
                      rw [hzj] at hj
                      simp only [Option.map_some, Option.some.injEq] at hj
                      subst hj
                      have hjl : j < te.size := by rw [← hzl]; exact (List.getElem?_eq_some_iff.1 hzj).1
                      obtain ⟨q1, q2⟩ := div_row (i := i) hjl
                      have hlt2 : i * te.size + j < n.toNat * te.size := by
                        have : (i + 1) * te.size ≤ n.toNat * te.size := Nat.mul_le_mul_right _ hlt
                        rw [Nat.add_mul] at this
                        omega
                      have hc1 := hone c (List.mem_of_getElem? hzj)
                      have hs := ofCell_sim (env := env) (Z := Z) (w := w) hc1
                      refine ⟨c, ?_, hs.1, hs.2.1, hc1⟩
                      rw [zeros_get _ (by rw [hzs]; exact hlt2), hzs, q2]
                      rw [← Array.getElem?_toList, hz1]
                      exact hzj
                  · cases hr)
            refine ⟨_, _, env', hrun, h3, ?_⟩
            simpa using h4
        · exact h.fail
    · exact h.fail

/-- Old cells before, in place of some, and behind. -/
theorem splice_get {r cs : List AVal} {o j : Nat} {v : AVal} (h : (splice r o cs)[j]? = some v) (ho : o ≤ r.length) :
    (j < o ∧ r[j]? = some v) ∨ (o ≤ j ∧ j < o + cs.length ∧ cs[j - o]? = some v) ∨ (o + cs.length ≤ j ∧ r[j]? = some v) := by
  unfold splice at h
  have hl : (r.take o).length = o := by simp; omega
  rw [List.append_assoc, List.getElem?_append, hl] at h
  split at h
  · rename_i hj
    rw [List.getElem?_take, if_pos hj] at h
    exact .inl ⟨hj, h⟩
  · rename_i hj
    rw [List.getElem?_append] at h
    split at h
    · exact .inr (.inl ⟨by omega, by omega, h⟩)
    · rw [List.getElem?_drop] at h
      refine .inr (.inr ⟨by omega, ?_⟩)
      rw [show o + cs.length + (j - o - cs.length) = j by omega] at h
      exact h

theorem splice_length {r cs : List AVal} {o : Nat} (h : o + cs.length ≤ r.length) : (splice r o cs).length = r.length := by
  unfold splice
  simp
  omega

theorem run_storeVar (hi : ∃ i, P.info? t = some i ∧ i.size = n) {g o T : Nat} {cur : Array Value} {c : Value} (hg : w.heap[g]? = some (.cells cur T (0, 0))) (hn : c.cells.size = n) (hfit : o + n ≤ cur.size)
    (h1 : ∀ d ∈ c.cells.toList, oneC d = true) :
    (storeVar t ⟨g, o, none⟩ c).run P w = .ok () (w.setRow g (cur.toList.take o ++ c.cells.toList ++ cur.toList.drop (o + n)).toArray) := by
  obtain ⟨i, hi, hs⟩ := hi
  have := run_storeCells_at P g o T c.cells.toList 0 cur w hg (by simp; omega) (fun d hd => by rw [← oneC_eq]; exact h1 d hd)
  simp only [storeVar, Sem.run_bind, run_sizeOf' hi, Result.andThen_ok]
  rw [if_neg (by omega)]
  simp only [Nat.add_zero, Array.length_toList, hn] at this
  simpa using this

theorem grownBy_setRow (w : World) (g : Nat) (cs : Array Value) : w.grownBy (w.setRow g cs) (some g) :=
  ⟨rfl, rfl, rfl, by simp [World.setRow], fun k _ hk => setRow_other w g k _ (fun e => hk (by rw [e]))⟩

theorem getElem?_middle {l m : List Value} {o n q : Nat} (hm : m.length = n) (hfit : o + n ≤ l.length) :
    (l.take o ++ m ++ l.drop (o + n))[q]? = if q < o then l[q]? else if q < o + n then m[q - o]? else l[q]? := by
  have hl : (l.take o).length = o := by simp; omega
  rw [List.append_assoc, List.getElem?_append, hl]
  split
  · rename_i h; rw [List.getElem?_take, if_pos h]
  · rename_i h
    rw [List.getElem?_append, hm]
    by_cases h2 : q < o + n
    · rw [if_pos (by omega), if_pos h2]
    · rw [if_neg (by omega), if_neg h2, List.getElem?_drop]
      congr 1; omega

theorem mem_of_VRels {vs : List AVal} {cs : List Value} (h : VRels env Z w vs cs) {p : AVal → Bool} (hp : ∀ v c, p v = true → VRel env Z w v c → oneC c = true) (ha : vs.all p = true) : ∀ c ∈ cs, oneC c = true := by
  intro c hc
  obtain ⟨i, hi⟩ := List.getElem?_of_mem hc
  have hlt : i < vs.length := by rw [h.1]; exact (List.getElem?_eq_some_iff.1 hi).1
  rw [List.all_eq_true] at ha
  exact hp vs[i] c (ha _ (List.getElem_mem hlt)) (h.2 i vs[i] c (by simp [hlt]) hi)

theorem put_eq {E : Nat} {r cs : List AVal} {j : Nat} (h : r.length = E) : put E r j cs = splice r j cs := by
  unfold put
  cases hc : (Nat.beq j 0 && Nat.beq cs.length E) with
  | false => rfl
  | true =>
    simp only [Bool.and_eq_true] at hc
    have h0 := nbeq_eq hc.1
    have h1 := nbeq_eq hc.2
    subst h0
    simp [splice, h1, ← h]

theorem storeA_sim (hT : TOk P TT) {t : TypeId} {x y v : AVal} {c d : Value} (h : Gives (storeA TT t x y) s v s1) (hR : Rel X env Z s a w) (hx : VRel env Z w x c) (hy : VRel env Z w y d) :
    ∃ w' env' Z', (Instr.storeAt t c d).run P w = .ok () w' ∧ Rel X env' Z' s1 a w' ∧ v = .sc undef := by
  unfold storeA at h
  cases ht : TT t with
  | none => rw [ht] at h; exact h.fail
  | some ti =>
    rw [ht] at h
    simp only at h
    obtain ⟨i, _, hi, hsz, _⟩ := hT.info t ti ht
    split at h
    · rename_i k n ii j
      have h := h.getK
      cases hb : s.key k with
      | none => rw [hb] at h; exact h.fail
      | some b =>
        rw [hb] at h
        simp only at h
        cases hq : (!cellish y || !(Nat.ble (j + ti.size) b.E)) with
        | true => rw [hq] at h; exact h.fail
        | false =>
          rw [hq] at h
          simp only [cond_false] at h
          simp only [Bool.or_eq_false_iff, Bool.not_eq_false'] at hq
          obtain ⟨hcl, hjE⟩ := hq
          have hjE := Nat.le_of_ble_eq_true hjE
          have hcells := cellsA_sim hy hcl
          obtain ⟨e, he, hle⟩ := hx.ref_ent
          split at h
          · -- a variable
            rename_i hkind
            obtain ⟨hc, h2⟩ := h.assert
            have h3 := h2.setK
            obtain ⟨rfl, rfl⟩ := h3.ret
            simp only [Bool.and_eq_true] at hc
            obtain ⟨⟨hn, hlen⟩, hall⟩ := hc
            have hn := nbeq_eq hn
            have hlen := nbeq_eq hlen
            have hB := hR.blk k b e hb he
            obtain ⟨hlt, g, hg, rfl⟩ := hx.inv_ref he (by rw [hB.hn]; exact hn.symm)
            obtain ⟨g', cs, r, m1, m2, m3, m4, m5, m6⟩ := hB.box hkind
            rw [m1] at hg
            simp only [ob, Option.some.injEq] at hg
            subst hg
            have hii : ii = 0 := by rw [m2] at hn; simp at hn; omega
            subst hii
            have hrE : r.length = b.E := hB.hlen 0 r (by rw [m2]; rfl)
            have hdn : d.cells.size = ti.size := by have := hcells.1; simp at this; omega
            have hone : ∀ q ∈ d.cells.toList, oneC q = true := mem_of_VRels hcells (p := cellOk) (fun v c hv hc => hc.oneC hv) hall
            rw [Nat.zero_mul, Nat.zero_add]
            have hst := run_storeVar (P := P) (w := w) (t := t) (n := ti.size) ⟨i, hi, hsz⟩ m3 hdn (o := j) (by omega) hone
            refine ⟨w.setRow g' (cs.toList.take j ++ d.cells.toList ++ cs.toList.drop (j + ti.size)).toArray, _, Z, ?_, hR.updEntry (b := ⟨.box, b.T, b.E, b.rows.set 0 (splice (b.rows.getD 0 []) j (cellsA y))⟩) hb he (by rw [hkind]; exact ⟨rfl, rfl⟩) (e := e) (hB.plain (by rw [hkind]; rfl)).1 (by rw [m1]; exact grownBy_setRow w g' _) (fun g hg => by rw [m1] at hg; simp only [ob, Option.some.injEq] at hg; rw [← hg]; exact m4) ?_ (Nat.le_refl _) (fun _ => rfl) (fun g hg => .inl hg), rfl⟩
            · simp only [Instr.storeAt, Instr.sureAddr, Sem.run_bind, Sem.run_pure, Result.andThen_ok]
              exact hst
            · have henv : (fun l => if l = k then some e else env l) = env := funext fun l => by by_cases hl : l = k <;> simp [hl, he]
              rw [henv]
              have hz : ∀ q, Z q → (w.setRow g' (cs.toList.take j ++ d.cells.toList ++ cs.toList.drop (j + ti.size)).toArray).heap[q]? = w.heap[q]? := fun q hq =>
                setRow_other w g' q _ fun e' => m4 (by rw [← e']; exact hq)
              have hrow : b.rows.set 0 (splice (b.rows.getD 0 []) j (cellsA y)) = [splice r j (cellsA y)] := by rw [m2]; rfl
              have hsl : (splice r j (cellsA y)).length = b.E := by rw [splice_length (by omega)]; exact hrE
              refine ⟨?_, hB.hE, ?_, fun _ => ?_, by rw [hB.hst, hkind], fun _ => hB.plain (by rw [hkind]; rfl), fun _ _ _ hb => (by cases hb), fun hb => (by cases hb)⟩
              · rw [hrow, hB.hn, m2]; rfl
              · intro q r' hr'
                rw [hrow] at hr'
                cases q with
                | zero => simp only [List.getElem?_cons_zero, Option.some.injEq] at hr'; rw [← hr']; exact hsl
                | succ q => simp at hr'
              · refine ⟨g', _, _, m1, hrow, setRow_heap w g' cs _ b.T (0, 0) m3, m4, ?_, fun q v c hv hc => ?_⟩
                · rw [hsl]; simp; omega
                · have hlc : cs.toList.length = cs.size := by simp
                  rw [List.getElem?_toArray, getElem?_middle (by simpa using hdn) (by omega)] at hc
                  have old : r[q]? = some v → cs.toList[q]? = some c → VRel env Z (w.setRow g' (cs.toList.take j ++ d.cells.toList ++ cs.toList.drop (j + ti.size)).toArray) v c ∧ cellOk v = true ∧ oneC c = true := fun q1 q2 => by
                    obtain ⟨p1, p2⟩ := m6 q v c q1 (by simpa using q2)
                    exact ⟨p1.mono hz (fun _ h => h) fun k e hk => ⟨e, hk, Nat.le_refl _, fun _ => rfl⟩, p2⟩
                  rcases splice_get hv (by omega) with ⟨p1, p2⟩ | ⟨p0, p1, p2⟩ | ⟨p1, p2⟩
                  · rw [if_pos p1] at hc; exact old p2 hc
                  · rw [if_neg (by omega), if_pos (by omega)] at hc
                    have hvc := hcells.2 _ _ _ p2 hc
                    have hcell : cellOk v = true := by rw [List.all_eq_true] at hall; exact hall v (List.mem_of_getElem? p2)
                    exact ⟨hvc.mono hz (fun _ h => h) fun k e hk => ⟨e, hk, Nat.le_refl _, fun _ => rfl⟩, hcell, hvc.oneC hcell⟩
                  · rw [if_neg (by omega), if_neg (by omega)] at hc; exact old p2 hc
          · -- an array's element
            rename_i hkind
            obtain ⟨cs', s2, h1, h2⟩ := h.bind
            obtain ⟨Z', fz, hv'⟩ := snaps_sim _ _ _ _ _ _ h1 hR hcells
            have hR' : Rel X env Z' s2 a w := by simpa using fz.rel
            have h3 := h2.getK
            cases hb' : s2.key k with
            | none => rw [hb'] at h3; exact h3.fail
            | some b' =>
              rw [hb'] at h3
              simp only at h3
              cases hka : b'.kind.isArr with
              | false => rw [hka] at h3; exact h3.fail
              | true =>
                rw [hka] at h3
                simp only [cond_true] at h3
                obtain ⟨hc, h4⟩ := h3.assert
                have h5 := h4.setK
                obtain ⟨rfl, rfl⟩ := h5.ret
                simp only [Bool.and_eq_true] at hc
                obtain ⟨⟨⟨hn, hlen⟩, hall⟩, hjE'⟩ := hc
                have hn := nbeq_eq hn
                have hlen := nbeq_eq hlen
                have hjE' := Nat.le_of_ble_eq_true hjE'
                have hk' : b'.kind = .arr := by cases hk : b'.kind <;> first | rfl | (rw [hk] at hka; cases hka)
                have hB := hR'.blk k b' e hb' he
                have hx' := hx.moreZ fz.more
                obtain ⟨hlt, g, hg, rfl⟩ := hx'.inv_ref he (by rw [hB.hn]; exact hn.symm)
                rcases hB.arr (by rw [hk']; rfl) with ⟨q0, _⟩ | ⟨g', cap, cs, q1, q2, q3, q4, q5, q6, q7, q8, q9⟩
                · rw [q0] at hn; simp at hn; omega
                · rw [q1] at hg
                  simp only [ob] at hg
                  rw [if_neg (by omega)] at hg
                  simp only [Option.some.injEq] at hg
                  subst hg
                  have hnz := q7 hk'
                  have hob : ob e.v = some g' := by rw [q1]; simp only [ob]; rw [if_neg (by omega)]
                  have hdn : d.cells.size = ti.size := by have := hv'.1; simp at this; omega
                  have hone : ∀ q ∈ d.cells.toList, oneC q = true := mem_of_VRels hv' (p := flat) (fun v c hv hc => hc.oneC (flat_cellOk hv)) hall
                  have hiE : ii * e.E + j + ti.size ≤ cs.size := by
                    rw [q6, hB.hE]
                    have : (ii + 1) * b'.E ≤ cap * b'.E := Nat.mul_le_mul_right _ (by omega)
                    rw [Nat.add_mul] at this
                    omega
                  have hst := run_storeVar (P := P) (w := w) (t := t) (n := ti.size) ⟨i, hi, hsz⟩ q2 hdn (o := ii * e.E + j) hiE hone
                  obtain ⟨r, hr⟩ : ∃ r, b'.rows[ii]? = some r := ⟨b'.rows[ii]'(by omega), by simp [show ii < b'.rows.length by omega]⟩
                  have hrd : b'.rows.getD ii [] = r := by simp [List.getD, hr]
                  have hrE := hB.hlen ii r hr
                  rw [put_eq (show (b'.rows.getD ii []).length = b'.E by rw [hrd]; exact hrE)]
                  refine ⟨w.setRow g' (cs.toList.take (ii * e.E + j) ++ d.cells.toList ++ cs.toList.drop (ii * e.E + j + ti.size)).toArray, _, Z', ?_, hR'.updEntry (b := ⟨.arr, b'.T, b'.E, b'.rows.set ii (splice (b'.rows.getD ii []) j cs')⟩) hb' he (by rw [hk']; exact ⟨rfl, rfl⟩) (e := e) (hB.plain (by rw [hk']; rfl)).1 (by rw [hob]; exact grownBy_setRow w g' _) (fun g hg => by rw [hob] at hg; simp only [Option.some.injEq] at hg; rw [← hg]; exact hnz) ?_ (Nat.le_refl _) (fun _ => rfl) (fun g hg => .inl hg), rfl⟩
                  · simp only [Instr.storeAt, Instr.sureAddr, Sem.run_bind, Sem.run_pure, Result.andThen_ok]
                    exact hst
                  · have henv : (fun l => if l = k then some e else env l) = env := funext fun l => by by_cases hl : l = k <;> simp [hl, he]
                    rw [henv]
                    have hz : ∀ q, Z' q → (w.setRow g' (cs.toList.take (ii * e.E + j) ++ d.cells.toList ++ cs.toList.drop (ii * e.E + j + ti.size)).toArray).heap[q]? = w.heap[q]? := fun q hq =>
                      setRow_other w g' q _ fun e' => hnz (by rw [← e']; exact hq)
                    have idE : ∀ k e, env k = some e → ∃ e', env k = some e' ∧ e.n ≤ e'.n ∧ (e'.n = e.n → e' = e) := fun k e hk => ⟨e, hk, Nat.le_refl _, fun _ => rfl⟩
                    rw [hrd]
                    refine ⟨by simp [hB.hn], hB.hE, ?_, fun hb => (by cases hb), by rw [hB.hst, hk'], fun _ => hB.plain (by rw [hk']; rfl), fun _ _ _ hb => (by cases hb), fun _ => .inr ⟨g', cap, _, by rw [q1]; simp, setRow_heap w g' cs _ b'.T (0, 0) q2, by simpa using q3, q4, q5, ?_, fun _ => hnz, fun hb => (by cases hb), ?_⟩⟩
                    · intro q r' hr'
                      rw [List.getElem?_set] at hr'
                      split at hr'
                      · split at hr'
                        · simp only [Option.some.injEq] at hr'
                          rw [← hr', splice_length (by omega)]
                          exact hrE
                        · cases hr'
                      · exact hB.hlen q r' hr'
                    · rw [← q6]; simp; omega
                    · intro q q' r' v hr' hv
                      have hlc : cs.toList.length = cs.size := by simp
                      have hmid := fun p => getElem?_middle (l := cs.toList) (m := d.cells.toList) (o := ii * e.E + j) (n := ti.size) (q := p) (by simpa using hdn) (by omega)
                      have hEE := hB.hE
                      -- an old cell
                      have old : ∀ r0, b'.rows[q]? = some r0 → r0[q']? = some v → (q * b'.E + q' < ii * e.E + j ∨ ii * e.E + j + ti.size ≤ q * b'.E + q') →
                          ∃ c, (cs.toList.take (ii * e.E + j) ++ d.cells.toList ++ cs.toList.drop (ii * e.E + j + ti.size)).toArray[q * b'.E + q']? = some c ∧
                            VRel env Z' (w.setRow g' (cs.toList.take (ii * e.E + j) ++ d.cells.toList ++ cs.toList.drop (ii * e.E + j + ti.size)).toArray) v c ∧ flat v = true ∧ oneC c = true := by
                        intro r0 hr0 hv0 hor
                        obtain ⟨c, p1, p2, p3⟩ := q9 q q' r0 v hr0 hv0
                        refine ⟨c, ?_, p2.mono hz (fun _ h => h) idE, p3⟩
                        rw [List.getElem?_toArray, hmid]
                        rcases hor with hlt' | hge
                        · rw [if_pos hlt']; simpa using p1
                        · rw [if_neg (by omega), if_neg (by omega)]; simpa using p1
                      rw [List.getElem?_set] at hr'
                      split at hr'
                      · rename_i hqi
                        subst hqi
                        split at hr'
                        · simp only [Option.some.injEq] at hr'
                          subst hr'
                          have hq'E : q' < b'.E := by
                            have := (List.getElem?_eq_some_iff.1 hv).1
                            rw [splice_length (by omega)] at this
                            omega
                          rcases splice_get hv (by omega) with ⟨p1, p2⟩ | ⟨p0, p1, p2⟩ | ⟨p1, p2⟩
                          · exact old r hr p2 (.inl (by rw [hEE]; omega))
                          · have hq2 : (q' - j) < d.cells.toList.length := by have := hv'.1; omega
                            have hc : d.cells.toList[q' - j]? = some d.cells.toList[q' - j] := by simp
                            have hvc := hv'.2 _ _ _ p2 hc
                            have hfl : flat v = true := by rw [List.all_eq_true] at hall; exact hall v (List.mem_of_getElem? p2)
                            refine ⟨d.cells.toList[q' - j], ?_, hvc.mono hz (fun _ h => h) idE, hfl, hvc.oneC (flat_cellOk hfl)⟩
                            dsimp only
                            rw [List.getElem?_toArray, hmid, hEE, if_neg (by omega), if_pos (by omega), ← hc]
                            congr 1; omega
                          · exact old r hr p2 (.inr (by rw [hEE]; omega))
                        · cases hr'
                      · rename_i hqi
                        have hq'E : q' < b'.E := by
                          rw [← hB.hlen q r' hr']
                          exact (List.getElem?_eq_some_iff.1 hv).1
                        refine old r' hr' hv ?_
                        rw [hEE]
                        rcases Nat.lt_or_ge q ii with hlt' | hge'
                        · have : (q + 1) * b'.E ≤ ii * b'.E := Nat.mul_le_mul_right _ hlt'
                          rw [Nat.add_mul] at this
                          omega
                        · have : (ii + 1) * b'.E ≤ q * b'.E := Nat.mul_le_mul_right _ (by omega)
                          rw [Nat.add_mul] at this
                          omega
          · exact h.fail
    · exact h.fail
end

end Go.Proofs.YteiniiakpdijmaaDoor.AI
