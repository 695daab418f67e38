/- append and copy. -/
import Derived.Test.YtoiimiohobollaaGreatAI9
import Derived.Laws.CopyRow
import Derived.Laws.IdiomCopy
namespace Go.Proofs.YtoiimiohobollaaGreat.AI
open Go.RowKit
set_option linter.unusedVariables false

section
variable {P : Program} {TT : TypeId → Option TI} {X : Ctx} {env : Nat → Option Ent} {Z : Nat → Prop} {s s1 : F} {a : Act} {w : World} {t : TypeId} {n : Nat}

theorem run_append_zero {e : TypeId} {i : TypeInfo} (ht : P.underlying t = some (.slice e)) (hi : P.info? e = some i) {base b : Option Addr} {sLen sCap cap : Nat} (h : sLen ≤ sCap) (ty : TypeId) (w : World) :
    (Builtin.append_ #[t, t] ty #[.slice base sLen sCap, .slice b 0 cap]).run P w = .ok (.slice base sLen sCap) w := by
  have hf : (Builtin.firstCells i.size 0 (.slice b 0 cap)).run P w = .ok #[] w := by
    cases b <;> simp [Builtin.firstCells, loadCells, loadCellsFrom]
  cases base <;> simp [Builtin.append_, run_underlying ht, run_sizeOf' hi, Builtin.lenOf, h, hf, storeCells]

/-- The cells of a source, as a list. -/
theorem Source.news {c : Value} {E : Nat} {rows : List (List AVal)} (h : Source env Z w c E rows) (hm : rows ≠ []) :
    ∃ (b o cap : Nat) (news : List Value), c = .slice (some ⟨b, o, none⟩) rows.length cap ∧ news.length = rows.length * E ∧ (∀ j u, news[j]? = some u → w.cell? ((⟨b, o, none⟩ : Addr).add j) = some u) ∧
      (∀ u ∈ news, u.oneCell' = true) ∧ (∀ (i : Nat) (r : List AVal), rows[i]? = some r → r.length = E) ∧
      ∀ (i j : Nat) (r : List AVal) (v : AVal), rows[i]? = some r → r[j]? = some v → ∃ c, news[i * E + j]? = some c ∧ VRel env Z w v c ∧ flat v = true ∧ oneC c = true := by
  obtain ⟨base, cap, rfl, h0 | ⟨b, o, f, rfl, hr, hc⟩⟩ := h
  · exact absurd h0 hm
  · have place : ∀ q, q < rows.length * E → ∃ r v, rows[q / E]? = some r ∧ r[q % E]? = some v ∧ q / E * E + q % E = q := by
      intro q hq
      have hE : 0 < E := by rcases Nat.eq_zero_or_pos E with h | h
                            · rw [h] at hq; simp at hq
                            · exact h
      have h1 : q / E < rows.length := (Nat.div_lt_iff_lt_mul hE).2 hq
      have h2 : q % E < E := Nat.mod_lt q hE
      have h3 := hr (q / E) rows[q / E] (by simp [h1])
      exact ⟨rows[q / E], (rows[q / E])[q % E]'(by omega), by simp [h1], by simp, by rw [Nat.mul_comm]; exact Nat.div_add_mod q E⟩
    refine ⟨b, o, cap, (List.range (rows.length * E)).map f, rfl, by simp, fun j u hu => ?_, fun u hu => ?_, hr, fun i j r v hi hj => ?_⟩
    · rw [List.getElem?_map] at hu
      cases hj : (List.range (rows.length * E))[j]? with
      | none => rw [hj] at hu; cases hu
      | some q =>
        rw [hj] at hu
        simp only [Option.map_some, Option.some.injEq] at hu
        have hq : j < rows.length * E ∧ q = j := by
          have := List.getElem?_eq_some_iff.1 hj
          obtain ⟨h1, h2⟩ := this
          simp at h1 h2
          exact ⟨h1, h2.symm⟩
        obtain ⟨hq, rfl⟩ := hq
        obtain ⟨r, v, h1, h2, h3⟩ := place q hq
        have := (hc _ _ r v h1 h2).2.2.1
        rw [h3] at this
        rw [add_mk, this, hu]
    · obtain ⟨q, hq, rfl⟩ := List.mem_map.1 hu
      have hq : q < rows.length * E := by simpa using hq
      obtain ⟨r, v, h1, h2, h3⟩ := place q hq
      have := (hc _ _ r v h1 h2).2.1
      rw [h3] at this
      rw [← oneC_eq]; exact this
    · have hjE : j < E := by rw [← hr i r hi]; exact (List.getElem?_eq_some_iff.1 hj).1
      have hlt : i * E + j < rows.length * E := by
        have h1 : i < rows.length := (List.getElem?_eq_some_iff.1 hi).1
        have : (i + 1) * E ≤ rows.length * E := Nat.mul_le_mul_right _ h1
        rw [Nat.add_mul] at this
        omega
      obtain ⟨q1, q2, q3, q4⟩ := hc i j r v hi hj
      exact ⟨f (i * E + j), by simp [hlt], q4, q1, q2⟩

theorem Flat.append {E : Nat} {rows rows' : List (List AVal)} {A : Array Value} {w' : World} {env' : Nat → Option Ent} (hr : ∀ (i : Nat) (r : List AVal), rows[i]? = some r → r.length = E) (hr' : ∀ (i : Nat) (r : List AVal), rows'[i]? = some r → r.length = E)
    (h1 : ∀ (i j : Nat) (r : List AVal) (v : AVal), rows[i]? = some r → r[j]? = some v → ∃ c, A[i * E + j]? = some c ∧ VRel env' Z w' v c ∧ flat v = true ∧ oneC c = true)
    (h2 : ∀ (i j : Nat) (r : List AVal) (v : AVal), rows'[i]? = some r → r[j]? = some v → ∃ c, A[rows.length * E + (i * E + j)]? = some c ∧ VRel env' Z w' v c ∧ flat v = true ∧ oneC c = true) : Flat env' Z w' E (rows ++ rows') A := by
  refine ⟨fun i r hi => ?_, fun i j r v hi hj => ?_⟩
  · rw [List.getElem?_append] at hi
    split at hi
    · exact hr i r hi
    · exact hr' _ r hi
  · rw [List.getElem?_append] at hi
    split at hi
    · exact h1 i j r v hi hj
    · rename_i hge
      obtain ⟨c, q1, q2⟩ := h2 _ j r v hi hj
      refine ⟨c, ?_, q2⟩
      rw [← q1]
      congr 1
      rw [← Nat.add_assoc, ← Nat.add_mul]
      congr 2
      omega

theorem beq_size {E sz : Nat} {rows : List (List AVal)} (h : (Nat.beq E sz || rows.isEmpty) = true) (hr : rows ≠ []) : E = sz := by
  rcases Bool.or_eq_true_iff.1 h with h | h
  · exact nbeq_eq h
  · exact absurd (List.isEmpty_iff.1 h) hr

theorem zeroCells_size (z : Array Value) (n : Nat) : (Builtin.zeroCells z n).size = n * z.size := by simp [Builtin.zeroCells]

theorem appendA_sim (hT : TOk P TT) {kk : Nat} {ty : TypeId} {x y v : AVal} {c d : Value} (h : Gives (appendA TT kk t x y) s v s1) (hR : Rel X env Z s a w) (hx : VRel env Z w x c) (hy : VRel env Z w y d) :
    ∃ u w' env', (Builtin.append_ #[t, t] ty #[c, d]).run P w = .ok u w' ∧ Rel X env' Z s1 a w' ∧ VRel env' Z w' v u := by
  unfold appendA at h
  cases ht : TT t with
  | none => rw [ht] at h; exact h.fail
  | some ti =>
  rw [ht] at h
  have hd := hT.desc t ti ht
  simp only at h
  split at h
  case h_2 => exact h.fail
  rename_i e hde
  rw [hde] at hd
  cases hte : TT e with
  | none => rw [hte] at h; exact h.fail
  | some te =>
  rw [hte] at h
  simp only at h
  obtain ⟨p, s2, hp, h2⟩ := h.bind
  obtain ⟨rfl, hsrc⟩ := rowsOfA_sim hp hR hy
  obtain ⟨E', rows'⟩ := p
  simp only at h2 hsrc
  split at h2
  · exact h2.fail
  rename_i hne
  obtain ⟨ie, z, hi, hsz, hbs, hz0, hz1, hlf, hzl, hone⟩ := hT.info e te hte
  have hzs : z.cells.size = te.size := by rw [← hzl, ← hz1]; simp
  have empty_case : rows' = [] → ∃ b cap, d = .slice b 0 cap := fun h0 => by
    obtain ⟨b, cap, rfl, _⟩ := hsrc
    exact ⟨b, cap, by rw [h0]; rfl⟩
  -- a new array: nothing was there
  have fresh : ∀ (ad : Option Addr), rows' ≠ [] → E' = te.size → rows'.length ≤ 140737488355328 → rows'.length * te.bytes ≤ 140737488355328 →
      ∃ cap A w', (Builtin.append_ #[t, t] ty #[.slice ad 0 0, d]).run P w = .ok (.slice (some ⟨w.heap.size, 0, none⟩) rows'.length cap) w' ∧ w' = w.drew.alloc (.cells A e) ∧ rows'.length ≤ cap ∧ cap ≤ maxLen ∧ A.size = cap * te.size ∧ Flat env Z w te.size rows' A := by
    intro ad hr hE hb1 hb2
    subst hE
    obtain ⟨b, o, cap, news, rfl, hl, hcell, hone', hrl, hnews⟩ := hsrc.news hr
    have hm : 0 < rows'.length := by cases rows' with | nil => exact absurd rfl hr | cons _ _ => simp
    have hge := grownCap_ge w rows'.length 0 e
    have hmx : grownCap w rows'.length 0 e ≤ maxLen := grownCap_le_maxLen w rows'.length 0 e (by simp only [maxLen]; omega)
    have hflat : ∀ (zz : Array Value), Flat env Z w te.size rows' (news.toArray ++ zz) := fun zz => by
      refine ⟨hrl, fun i j r v hi hj => ?_⟩
      obtain ⟨c, q1, q2⟩ := hnews i j r v hi hj
      refine ⟨c, ?_, q2⟩
      have hlt : i * te.size + j < news.length := (List.getElem?_eq_some_iff.1 q1).1
      rw [Array.getElem?_append_left (by simpa using hlt)]
      simpa using q1
    cases ad with
    | none =>
      have hr' := run_append_nil (P := P) w t ty e ie z hd hi hz0 ⟨b, o, none⟩ rows'.length cap news (by rw [hsz]; exact hl) hcell hm (by omega) (by rw [hbs]; omega)
      exact ⟨_, _, _, hr', rfl, hge, hmx, by simp [zeroCells_size, hzs, hl, ← Nat.add_mul]; rw [show rows'.length + (grownCap w rows'.length 0 e - rows'.length) = grownCap w rows'.length 0 e by omega], hflat _⟩
    | some ad =>
      have hr' := run_append_grow (P := P) w t ty e ie z hd hi hz0 ad 0 0 [] (by simp) (fun j v hj => by simp at hj) ⟨b, o, none⟩ rows'.length cap news (by rw [hsz]; exact hl) hcell (by omega) (by omega)
        (growslice_fits (by omega) (by rw [hbs]; simpa using hb2))
      simp only [Nat.zero_add] at hr'
      refine ⟨_, _, _, hr', rfl, hge, hmx, ?_, ?_⟩
      · simp [zeroCells_size, hzs, hl, ← Nat.add_mul]; rw [show rows'.length + (grownCap w rows'.length 0 e - rows'.length) = grownCap w rows'.length 0 e by omega]
      · have := hflat (Builtin.zeroCells z.cells (grownCap w rows'.length 0 e - rows'.length))
        simpa using this
  split at h2
  · -- onto an own array
    rename_i k n
    have h3 := h2.getK
    cases hb : s2.key k with
    | none => rw [hb] at h3; exact h3.fail
    | some b =>
    rw [hb] at h3
    simp only at h3
    cases hq : (!b.kind.isArr || !(Nat.beq b.T e) || !(Nat.beq b.E te.size) || sameArr k y) with
    | true => rw [hq] at h3; exact h3.fail
    | false =>
    rw [hq] at h3
    simp only [cond_false] at h3
    obtain ⟨hc, h4⟩ := h3.assert
    have h5 := h4.setK
    obtain ⟨rfl, rfl⟩ := h5.ret
    simp only [Bool.or_eq_false_iff, Bool.not_eq_false'] at hq
    obtain ⟨⟨⟨hka, hbT⟩, hbE⟩, _⟩ := hq
    have hbT := nbeq_eq hbT
    have hbE := nbeq_eq hbE
    simp only [Bool.and_eq_true, roomOk, decide_eq_true_eq] at hc
    obtain ⟨⟨hn, hE⟩, hb1, hb2⟩ := hc
    have hn := nbeq_eq hn
    have hk' : b.kind = .arr := by cases hk : b.kind <;> first | rfl | (rw [hk] at hka; cases hka)
    have hkb : b.kind ≠ .box := by rw [hk']; simp
    obtain ⟨e0, he0, rfl, hB⟩ := hR.readArr hx hb hn hkb
    have hrowsE : ∀ (i : Nat) (r : List AVal), b.rows[i]? = some r → r.length = te.size := fun i r hi => by rw [hB.hlen i r hi, hbE]
    rw [List.length_append]
    by_cases hr : rows' = []
    · -- nothing to append
      obtain ⟨bb, cap, rfl⟩ := empty_case hr
      have hlen : b.rows.length + rows'.length = b.rows.length := by rw [hr]; rfl
      have hBn : (⟨.arr, e, te.size, b.rows ++ rows'⟩ : Blk) = b := by
        rw [hr, List.append_nil, ← hbT, ← hbE, ← hk']
      have henv : (fun l => if l = k then some e0 else env l) = env := funext fun l => by by_cases hl : l = k <;> simp [hl, he0]
      have hsame : s2.setK k b = s2 := F.ext_same rfl fun l => by
        cases l with
        | tmp q => rfl
        | key q => simp only [F.Same, F.setK]; by_cases hqk : q = k <;> simp [hqk, hb]
      rw [hBn, hlen, hsame]
      have hle : ∃ base sLen sCap, e0.v = .slice base sLen sCap ∧ sLen ≤ sCap := by
        rcases hB.arr hkb with ⟨h0, ad, h1⟩ | ⟨g, cp, cs, h1, _, h3, _⟩
        · exact ⟨ad, 0, 0, h1, Nat.le_refl _⟩
        · exact ⟨_, _, cp, h1, h3⟩
      obtain ⟨base, sLen, sCap, hv0, hle⟩ := hle
      refine ⟨e0.v, w, env, by rw [hv0]; exact run_append_zero hd hi hle ty w, hR, .slc k _ _ e0 he0 (by rw [hB.hn]; exact Nat.le_refl _) (by rw [hv0]; rfl) fun _ => rfl⟩
    · have hEs := beq_size hE hr
      have hm : 0 < rows'.length := by cases rows' with | nil => exact absurd rfl hr | cons _ _ => simp
      rcases hB.arr hkb with ⟨h0, ad, h1⟩ | ⟨g, cp, cs, m1, m2, m3, m4, m5, m6, m7, m8, m9⟩
      · -- it was empty, and lay nowhere
        rw [h0] at hb1 hb2
        simp only [List.length_nil, Nat.zero_add] at hb1 hb2
        obtain ⟨cap, A, w', hrun, rfl, hc1, hc2, hA, hfl⟩ := fresh ad hr hEs hb1 hb2
        have hgb : w.grownBy (w.drew.alloc (.cells A e)) (ob e0.v) := ⟨rfl, rfl, rfl, by simp, fun g hg _ => heap_alloc_old w.drew _ g hg⟩
        have hob0 : ob e0.v = none := by rw [h1]; cases ad <;> rfl
        have hz : ∀ q, Z q → (w.drew.alloc (.cells A e)).heap[q]? = w.heap[q]? := fun q hq => heap_alloc_old w.drew _ q (hR.zlt q hq)
        have hen0 : e0.n = 0 := by rw [hB.hn, h0]; rfl
        have idE : ∀ l f, env l = some f → ∃ f', (if l = k then some (⟨.slice (some ⟨w.heap.size, 0, none⟩) rows'.length cap, rows'.length, te.size⟩ : Ent) else env l) = some f' ∧ f.n ≤ f'.n ∧ (f'.n = f.n → f' = f) := fun l f hl => by
          by_cases hlk : l = k
          · subst hlk
            rw [he0] at hl
            simp only [Option.some.injEq] at hl
            subst hl
            exact ⟨_, if_pos rfl, by omega, fun h => by simp only at h; omega⟩
          · exact ⟨f, by rw [if_neg hlk]; exact hl, Nat.le_refl _, fun _ => rfl⟩
        refine ⟨_, _, _, by rw [h1]; exact hrun, hR.updEntry (b := ⟨.arr, e, te.size, b.rows ++ rows'⟩) (e := ⟨.slice (some ⟨w.heap.size, 0, none⟩) rows'.length cap, rows'.length, te.size⟩) hb he0 hgb (fun g hg => by rw [hob0] at hg; cases hg) ?_ (by omega) (fun h => by simp only at h; omega) (fun g hg => ?_), ?_⟩
        · refine ⟨by simp [h0], rfl, by rw [h0]; exact hfl.1, fun hb => (by cases hb), fun _ => .inr ⟨w.heap.size, cap, A, by simp [h0], heap_alloc_new' w.drew _, by simpa [h0] using hc1, by omega, hc2, hA, fun _ hzz => by have := hR.zlt _ hzz; omega, fun hb => (by cases hb), fun i j r v hi hj => ?_⟩⟩
          rw [h0, List.nil_append] at hi
          obtain ⟨c, q1, q2, q3⟩ := hfl.2 i j r v hi hj
          exact ⟨c, q1, q2.mono hz (fun _ h => h) idE, q3⟩
        · simp only [ob] at hg
          split at hg
          · cases hg
          · simp only [Option.some.injEq] at hg; right; omega
        · exact .slc k _ _ ⟨.slice (some ⟨w.heap.size, 0, none⟩) rows'.length cap, rows'.length, te.size⟩ (if_pos rfl) (by simp [h0]) rfl fun _ => rfl
      · subst hEs
        obtain ⟨bb, o, cap, news, rfl, hl, hcell, hone', hrl, hnews⟩ := hsrc.news hr
        have hnz := m7 hk'
        have hob : ob e0.v = some g := by rw [m1]; simp only [ob]; rw [if_neg (by omega)]
        rw [hbE] at m6 m9
        rw [hbT] at m2
        have hcsl : cs.toList.length = cs.size := by simp
        have hnl : b.rows.length * te.size ≤ cs.size := by rw [m6]; exact Nat.mul_le_mul_right _ m3
        -- cells of the array as it was
        have hold : ∀ (i j : Nat) (r : List AVal) (v : AVal), b.rows[i]? = some r → r[j]? = some v → i * te.size + j < b.rows.length * te.size := fun i j r v hi hj => by
          have h1 : i < b.rows.length := (List.getElem?_eq_some_iff.1 hi).1
          have h2 : j < te.size := by rw [← hrowsE i r hi]; exact (List.getElem?_eq_some_iff.1 hj).1
          have : (i + 1) * te.size ≤ b.rows.length * te.size := Nat.mul_le_mul_right _ h1
          rw [Nat.add_mul] at this
          omega
        have idE : ∀ (v' : Value), ∀ l f, env l = some f → ∃ f', (if l = k then some (⟨v', b.rows.length + rows'.length, te.size⟩ : Ent) else env l) = some f' ∧ f.n ≤ f'.n ∧ (f'.n = f.n → f' = f) := fun v' l f hlf => by
          by_cases hlk : l = k
          · subst hlk
            rw [he0] at hlf
            simp only [Option.some.injEq] at hlf
            subst hlf
            have := hB.hn
            exact ⟨_, if_pos rfl, by simp only; omega, fun h => by simp only at h; omega⟩
          · exact ⟨f, by rw [if_neg hlk]; exact hlf, Nat.le_refl _, fun _ => rfl⟩
        by_cases hroom : b.rows.length + rows'.length ≤ cp
        · -- there is room
          have hfit : b.rows.length * ie.size + news.length ≤ cs.size := by rw [hsz, hl, m6, ← Nat.add_mul]; exact Nat.mul_le_mul_right _ hroom
          have hrun := run_append_room (P := P) w t ty e ie hd hi g b.rows.length cp cs m2 ⟨bb, o, none⟩ rows'.length cap news (by rw [hsz]; exact hl) hcell hone' hroom hfit
          rw [hsz] at hrun hfit
          have hz : ∀ q, Z q → (w.setRow g (cs.toList.take (b.rows.length * te.size) ++ news ++ cs.toList.drop (b.rows.length * te.size + news.length)).toArray).heap[q]? = w.heap[q]? := fun q hq =>
            setRow_other w g q _ fun e' => hnz (by rw [← e']; exact hq)
          have hmid := fun p => getElem?_middle (l := cs.toList) (m := news) (o := b.rows.length * te.size) (n := news.length) (q := p) rfl (by omega)
          refine ⟨_, _, _, by rw [m1]; exact hrun, hR.updEntry (b := ⟨.arr, e, te.size, b.rows ++ rows'⟩) (e := ⟨.slice (some ⟨g, 0, none⟩) (b.rows.length + rows'.length) cp, b.rows.length + rows'.length, te.size⟩) hb he0 (by rw [hob]; exact grownBy_setRow w g _)
            (fun g' hg => by rw [hob] at hg; simp only [Option.some.injEq] at hg; rw [← hg]; exact hnz) ?_ (by rw [hB.hn]; simp) (fun h => by rw [hB.hn] at h; simp only at h; omega) (fun g' hg => ?_), ?_⟩
          · have hF := Flat.append (env' := fun l => if l = k then some (⟨.slice (some ⟨g, 0, none⟩) (b.rows.length + rows'.length) cp, b.rows.length + rows'.length, te.size⟩ : Ent) else env l) (Z := Z) (w' := w.setRow g (cs.toList.take (b.rows.length * te.size) ++ news ++ cs.toList.drop (b.rows.length * te.size + news.length)).toArray)
              (A := (cs.toList.take (b.rows.length * te.size) ++ news ++ cs.toList.drop (b.rows.length * te.size + news.length)).toArray) hrowsE hrl
              (fun i j r v hi' hj => by
                obtain ⟨c, q1, q2, q3⟩ := m9 i j r v hi' hj
                refine ⟨c, ?_, q2.mono hz (fun _ h => h) (idE _), q3⟩
                rw [List.getElem?_toArray, hmid, if_pos (hold i j r v hi' hj)]
                simpa using q1)
              (fun i j r v hi' hj => by
                obtain ⟨c, q1, q2, q3⟩ := hnews i j r v hi' hj
                have hlt : i * te.size + j < news.length := (List.getElem?_eq_some_iff.1 q1).1
                refine ⟨c, ?_, q2.mono hz (fun _ h => h) (idE _), q3⟩
                rw [List.getElem?_toArray, hmid, if_neg (by omega), if_pos (by omega), ← q1]
                congr 1; omega)
            refine ⟨by simp, rfl, hF.1, fun hb => (by cases hb), fun _ => .inr ⟨g, cp, _, by simp, setRow_heap w g cs _ e (0, 0) m2, by simpa using hroom, m4, m5, ?_, fun _ => hnz, fun hb => (by cases hb), hF.2⟩⟩
            rw [← m6]
            simp only [List.size_toArray, List.length_append, List.length_take, List.length_drop, hcsl]
            omega
          · simp only [ob] at hg
            rw [if_neg (by omega)] at hg
            exact .inl (by rw [hob]; exact hg)
          · exact .slc k _ _ ⟨.slice (some ⟨g, 0, none⟩) (b.rows.length + rows'.length) cp, b.rows.length + rows'.length, te.size⟩ (if_pos rfl) (Nat.le_refl _) rfl fun _ => rfl
        · -- it grows
          have holds : ∀ j u, (cs.toList.take (b.rows.length * te.size))[j]? = some u → w.cell? ((⟨g, 0, none⟩ : Addr).add j) = some u := fun j u hu => by
            rw [List.getElem?_take] at hu
            split at hu
            · rw [add_mk, Nat.zero_add]; exact cell_block m2 (by simpa using hu)
            · cases hu
          have holdl : (cs.toList.take (b.rows.length * te.size)).length = b.rows.length * te.size := by simp; omega
          have hrun := run_append_grow (P := P) w t ty e ie z hd hi hz0 ⟨g, 0, none⟩ b.rows.length cp (cs.toList.take (b.rows.length * te.size)) (by rw [hsz]; exact holdl) holds ⟨bb, o, none⟩ rows'.length cap news (by rw [hsz]; exact hl) hcell (by omega) (by omega)
            (growslice_fits (by omega) (by rw [hbs]; exact hb2))
          have hge := grownCap_ge w (b.rows.length + rows'.length) cp e
          have hmx : grownCap w (b.rows.length + rows'.length) cp e ≤ maxLen := grownCap_le_maxLen w _ cp e (by simp only [maxLen]; omega)
          generalize hG : grownCap w (b.rows.length + rows'.length) cp e = G at hrun hge hmx
          generalize hA : (cs.toList.take (b.rows.length * te.size)).toArray ++ news.toArray ++ Builtin.zeroCells z.cells (G - (b.rows.length + rows'.length)) = A at hrun
          have hAs : A.size = G * te.size := by
            rw [← hA]
            simp only [Array.size_append, List.size_toArray, holdl, hl, zeroCells_size, hzs, ← Nat.add_mul]
            congr 1; omega
          have hA1 : ∀ q, q < b.rows.length * te.size → A[q]? = cs[q]? := fun q hq => by
            rw [← hA, Array.append_assoc, Array.getElem?_append_left (by simpa [holdl] using hq)]
            rw [List.getElem?_toArray, List.getElem?_take, if_pos hq]
            simp
          have hA2 : ∀ q, q < news.length → A[b.rows.length * te.size + q]? = news[q]? := fun q hq => by
            rw [← hA, Array.append_assoc, Array.getElem?_append_right (by simp only [List.size_toArray, holdl]; omega)]
            simp only [List.size_toArray, holdl]
            rw [show b.rows.length * te.size + q - b.rows.length * te.size = q by omega, Array.getElem?_append_left (by simpa using hq)]
            simp
          have hz : ∀ q, Z q → (w.drew.alloc (.cells A e)).heap[q]? = w.heap[q]? := fun q hq => heap_alloc_old w.drew _ q (hR.zlt q hq)
          refine ⟨_, w.drew.alloc (.cells A e), _, by rw [m1]; exact hrun, hR.updEntry (b := ⟨.arr, e, te.size, b.rows ++ rows'⟩) (e := ⟨.slice (some ⟨w.heap.size, 0, none⟩) (b.rows.length + rows'.length) G, b.rows.length + rows'.length, te.size⟩) hb he0 ⟨rfl, rfl, rfl, by simp, fun q hq _ => heap_alloc_old w.drew _ q hq⟩
            (fun g' hg => by rw [hob] at hg; simp only [Option.some.injEq] at hg; rw [← hg]; exact hnz) ?_ (by rw [hB.hn]; simp) (fun h => by rw [hB.hn] at h; simp only at h; omega) (fun g' hg => ?_), ?_⟩
          · have hF := Flat.append (env' := fun l => if l = k then some (⟨.slice (some ⟨w.heap.size, 0, none⟩) (b.rows.length + rows'.length) G, b.rows.length + rows'.length, te.size⟩ : Ent) else env l) (Z := Z) (w' := w.drew.alloc (.cells A e)) (A := A) hrowsE hrl
              (fun i j r v hi' hj => by
                obtain ⟨c, q1, q2, q3⟩ := m9 i j r v hi' hj
                exact ⟨c, by rw [hA1 _ (hold i j r v hi' hj)]; exact q1, q2.mono hz (fun _ h => h) (idE _), q3⟩)
              (fun i j r v hi' hj => by
                obtain ⟨c, q1, q2, q3⟩ := hnews i j r v hi' hj
                have hlt : i * te.size + j < news.length := (List.getElem?_eq_some_iff.1 q1).1
                exact ⟨c, by rw [hA2 _ hlt]; exact q1, q2.mono hz (fun _ h => h) (idE _), q3⟩)
            exact ⟨by simp, rfl, hF.1, fun hb => (by cases hb), fun _ => .inr ⟨w.heap.size, G, A, by simp, heap_alloc_new' w.drew _, by simpa using hge, by omega, hmx, hAs, fun _ hzz => by have := hR.zlt _ hzz; omega, fun hb => (by cases hb), hF.2⟩⟩
          · simp only [ob] at hg
            rw [if_neg (by omega)] at hg
            simp only [Option.some.injEq] at hg
            right; omega
          · exact .slc k _ _ ⟨.slice (some ⟨w.heap.size, 0, none⟩) (b.rows.length + rows'.length) G, b.rows.length + rows'.length, te.size⟩ (if_pos rfl) (Nat.le_refl _) rfl fun _ => rfl
  · -- onto nothing
    cases hx with
    | emp ad =>
    obtain ⟨hc, h3⟩ := h2.assert
    obtain ⟨hk, rfl, rfl⟩ := h3.newBlk
    simp only [Bool.and_eq_true, roomOk, decide_eq_true_eq] at hc
    obtain ⟨hE, hb1, hb2⟩ := hc
    by_cases hr : rows' = []
    · obtain ⟨bb, cap, rfl⟩ := empty_case hr
      obtain ⟨env', q1, q2⟩ := hR.newEmpty hk (T := e) (E := te.size) ad
      rw [hr]
      exact ⟨_, w, env', run_append_zero hd hi (Nat.le_refl _) ty w, q1, q2⟩
    · have hEs := beq_size hE hr
      obtain ⟨cap, A, w', hrun, rfl, hc1, hc2, hA, hfl⟩ := fresh ad hr hEs hb1 hb2
      obtain ⟨env', q1, q2⟩ := hR.newArr (Wider.drewAlloc w (.cells A e)) hk (T := e) (E := te.size) (Nat.le_refl _) (heap_alloc_new' w.drew _) hc1 hc2 hA hfl
      exact ⟨_, _, env', hrun, q1, q2⟩
  · exact h2.fail

/-! ### copy -/
theorem copyA_sim (hT : TOk P TT) {t' ty : TypeId} {x y v : AVal} {c d : Value} (h : Gives (copyA TT t x y) s v s1) (hR : Rel X env Z s a w) (hx : VRel env Z w x c) (hy : VRel env Z w y d) :
    ∃ u w' env', (Builtin.copy_ #[t, t'] ty #[c, d]).run P w = .ok u w' ∧ Rel X env' Z s1 a w' ∧ VRel env' Z w' v u := by
  unfold copyA at h
  cases ht : TT t with
  | none => rw [ht] at h; exact h.fail
  | some ti =>
  rw [ht] at h
  have hd := hT.desc t ti ht
  simp only at h
  split at h
  case h_2 => exact h.fail
  rename_i e hde
  rw [hde] at hd
  cases hte : TT e with
  | none => rw [hte] at h; exact h.fail
  | some te =>
  rw [hte] at h
  simp only at h
  split at h
  · exact h.fail
  rename_i hsz1
  have hsz1 : te.size = 1 := nbeq_eq (by simpa using hsz1)
  obtain ⟨p, s2, hp, h2⟩ := h.bind
  obtain ⟨rfl, hsrc⟩ := rowsOfA_sim hp hR hy
  obtain ⟨E', rows'⟩ := p
  simp only at h2 hsrc
  obtain ⟨ie, z, hi, hsz, _⟩ := hT.info e te hte
  have hs1 : (P.info? e).map (·.size) = some 1 := by rw [hi]; simp [hsz, hsz1]
  split at h2
  case h_2 => exact h2.fail
  rename_i k n
  have h3 := h2.getK
  cases hb : s2.key k with
  | none => rw [hb] at h3; exact h3.fail
  | some b =>
  rw [hb] at h3
  simp only at h3
  cases hq : (!b.kind.isArr || !(Nat.beq b.E te.size) || sameArr k y) with
  | true => rw [hq] at h3; exact h3.fail
  | false =>
  rw [hq] at h3
  simp only [cond_false] at h3
  obtain ⟨hc, h4⟩ := h3.assert
  have h5 := h4.setK
  obtain ⟨rfl, rfl⟩ := h5.ret
  simp only [Bool.or_eq_false_iff, Bool.not_eq_false'] at hq
  obtain ⟨⟨hka, hbE⟩, _⟩ := hq
  have hbE : b.E = 1 := (nbeq_eq hbE).trans hsz1
  simp only [Bool.and_eq_true] at hc
  obtain ⟨hn, hE⟩ := hc
  have hn := nbeq_eq hn
  have hk' : b.kind = .arr := by cases hk : b.kind <;> first | rfl | (rw [hk] at hka; cases hka)
  have hkb : b.kind ≠ .box := by rw [hk']; simp
  obtain ⟨e0, he0, rfl, hB⟩ := hR.readArr hx hb hn hkb
  have henv : (fun l => if l = k then some e0 else env l) = env := funext fun l => by by_cases hl : l = k <;> simp [hl, he0]
  -- nothing goes over
  have nothing : ∀ (base : Option Addr) (sLen cap : Nat) (dd : Option Addr) (dl dc : Nat), e0.v = .slice dd dl dc → d = .slice base sLen cap → min sLen dl = 0 → dl = b.rows.length → sLen = rows'.length →
      ∃ u w' env', (Builtin.copy_ #[t, t'] ty #[e0.v, d]).run P w = .ok u w' ∧ Rel X env' Z (s2.setK k ⟨.arr, b.T, b.E, rows'.take b.rows.length ++ b.rows.drop rows'.length⟩) a w' ∧ VRel env' Z w' (.sc (.int .i64 (rows'.take b.rows.length).length)) u := by
    intro base sLen cap dd dl dc hv hdv hm hdl hsl
    have hrow : rows'.take b.rows.length ++ b.rows.drop rows'.length = b.rows := by
      rcases Nat.eq_zero_or_pos rows'.length with h0 | h0
      · rw [h0, List.length_eq_zero_iff.1 h0]; simp
      · have : b.rows.length = 0 := by omega
        rw [this, List.length_eq_zero_iff.1 this]; simp
    have hlen : (rows'.take b.rows.length).length = 0 := by rw [List.length_take]; omega
    have hsame : s2.setK k ⟨.arr, b.T, b.E, b.rows⟩ = s2 := F.ext_same rfl fun l => by
      cases l with
      | tmp q => rfl
      | key q =>
        simp only [F.Same, F.setK]
        by_cases hqk : q = k
        · subst hqk; rw [if_pos rfl, hb, ← hk']
        · rw [if_neg hqk]
    rw [hrow, hsame, hlen]
    refine ⟨_, w, env, ?_, hR, .sc _⟩
    rw [hv, hdv]
    exact run_copy_none (P := P) w t t' ty e dd base dl dc sLen cap hd hs1 hm
  obtain ⟨base, cap, rfl, hrest⟩ := id hsrc
  rcases hB.arr hkb with ⟨h0, ad, h1⟩ | ⟨g, cp, cs, m1, m2, m3, m4, m5, m6, m7, m8, m9⟩
  · exact nothing base rows'.length cap ad 0 0 h1 rfl (Nat.min_eq_right (Nat.zero_le _)) (by rw [h0]; rfl) rfl
  by_cases hr : rows' = []
  · exact nothing base rows'.length cap _ _ _ m1 rfl (by rw [hr]; exact Nat.min_eq_left (Nat.zero_le _)) rfl rfl
  have hEs := beq_size hE hr
  rw [hsz1] at hEs
  subst hEs
  obtain ⟨bb, o, cap', news, hsl, hl, hcell, hone', hrl, hnews⟩ := hsrc.news hr
  simp only [Value.slice.injEq] at hsl
  obtain ⟨rfl, _, rfl⟩ := hsl
  rw [hbE] at m6 m9
  simp only [Nat.mul_one] at hl m6 m9 hnews
  have hnz := m7 hk'
  have hob : ob e0.v = some g := by rw [m1]; simp only [ob]; rw [if_neg (by omega)]
  have hcsl : cs.toList.length = cs.size := by simp
  -- the cells that go over
  have hnl : (news.take b.rows.length).length = min rows'.length b.rows.length := by rw [List.length_take, hl, Nat.min_comm]
  have hfit : 0 + (news.take b.rows.length).length ≤ cs.size := by rw [hnl, m6]; omega
  have hrun := run_copy_row (P := P) w t t' ty e g 0 b.rows.length cp ⟨bb, o, none⟩ rows'.length cap cs b.T (news.take b.rows.length) hd hs1 m2 hnl
    (fun j u hj => hcell j u (by rw [List.getElem?_take] at hj; split at hj <;> first | exact hj | cases hj)) hfit (fun u hu => hone' u (List.mem_of_mem_take hu))
  have hlen : ((rows'.take b.rows.length).length : Int) = ((news.take b.rows.length).length : Int) := by rw [List.length_take, List.length_take, hl]
  have hz : ∀ (A : Array Value), ∀ q, Z q → (w.setRow g A).heap[q]? = w.heap[q]? := fun A q hq => setRow_other w g q A fun e' => hnz (by rw [← e']; exact hq)
  have idE : ∀ k e, env k = some e → ∃ e', env k = some e' ∧ e.n ≤ e'.n ∧ (e'.n = e.n → e' = e) := fun k e hk => ⟨e, hk, Nat.le_refl _, fun _ => rfl⟩
  have hget : ∀ q, (cs.toList.take 0 ++ news.take b.rows.length ++ cs.toList.drop (0 + (news.take b.rows.length).length)).toArray[q]? = if q < min rows'.length b.rows.length then news[q]? else cs[q]? := fun q => by
    rw [List.getElem?_toArray, getElem?_middle (l := cs.toList) (m := news.take b.rows.length) (o := 0) (n := (news.take b.rows.length).length) (q := q) rfl (by simpa using hfit)]
    rw [if_neg (by omega), Nat.zero_add, hnl, Nat.sub_zero]
    by_cases hq : q < min rows'.length b.rows.length
    · rw [if_pos hq, if_pos hq, List.getElem?_take, if_pos (by omega)]
    · rw [if_neg hq, if_neg hq]; simp
  refine ⟨_, _, env, by rw [m1]; exact hrun, ?_, by rw [hlen]; exact .sc _⟩
  have hupd := hR.updEntry (b := ⟨.arr, b.T, b.E, rows'.take b.rows.length ++ b.rows.drop rows'.length⟩) (w' := w.setRow g (cs.toList.take 0 ++ news.take b.rows.length ++ cs.toList.drop (0 + (news.take b.rows.length).length)).toArray) hb he0 (e := e0)
    (by rw [hob]; exact grownBy_setRow w g _) (fun g' hg => by rw [hob] at hg; simp only [Option.some.injEq] at hg; rw [← hg]; exact hnz) ?_ (Nat.le_refl _) (fun _ => rfl) (fun g hg => .inl hg)
  · rw [henv] at hupd; exact hupd
  · rw [henv]
    have hln : (rows'.take b.rows.length ++ b.rows.drop rows'.length).length = b.rows.length := by
      rw [List.length_append, List.length_take, List.length_drop]; omega
    -- a row of the new list: one of the source's, or as it was
    have hrow : ∀ i r, (rows'.take b.rows.length ++ b.rows.drop rows'.length)[i]? = some r → (i < min rows'.length b.rows.length ∧ rows'[i]? = some r) ∨ (¬ i < min rows'.length b.rows.length ∧ b.rows[i]? = some r) := fun i r hi => by
      have hmin : min rows'.length b.rows.length = (rows'.take b.rows.length).length := by rw [List.length_take, Nat.min_comm]
      rw [hmin]
      by_cases hlt : i < (rows'.take b.rows.length).length
      · rw [List.getElem?_append_left hlt, List.getElem?_take] at hi
        split at hi
        · exact .inl ⟨hlt, hi⟩
        · cases hi
      · rw [List.getElem?_append_right (by omega), List.getElem?_drop] at hi
        refine .inr ⟨hlt, ?_⟩
        have hib : rows'.length + (i - (rows'.take b.rows.length).length) < b.rows.length := (List.getElem?_eq_some_iff.1 hi).1
        rw [List.length_take] at hib hlt hi
        have : rows'.length + (i - min b.rows.length rows'.length) = i := by omega
        rw [this] at hi
        exact hi
    refine ⟨by rw [hB.hn]; exact hln.symm, hB.hE, ?_, fun hb => (by cases hb), fun _ => .inr ⟨g, cp, _, by rw [m1]; exact congrArg (fun q => Value.slice _ q cp) hln.symm, setRow_heap w g cs _ b.T (0, 0) m2, by show (rows'.take b.rows.length ++ b.rows.drop rows'.length).length ≤ cp; rw [hln]; exact m3, m4, m5, ?_, fun _ => hnz, fun hb => (by cases hb), ?_⟩⟩
    · intro i r hi
      rcases hrow i r hi with ⟨_, h⟩ | ⟨_, h⟩
      · rw [hrl i r h]; exact hbE.symm
      · exact hB.hlen i r h
    · show _ = cp * b.E
      rw [hbE, Nat.mul_one, ← m6]
      simp only [List.size_toArray, List.length_append, List.length_take, List.length_drop, hcsl]
      have := hfit
      rw [List.length_take] at this
      omega
    · intro i j r v hi hj
      show ∃ c, _[i * b.E + j]? = some c ∧ _
      rw [hbE, Nat.mul_one]
      rcases hrow i r hi with ⟨hlt, h⟩ | ⟨hge, h⟩
      · have hj0 : j < 1 := by rw [← hrl i r h]; exact (List.getElem?_eq_some_iff.1 hj).1
        obtain ⟨c, q1, q2, q3⟩ := hnews i j r v h hj
        refine ⟨c, ?_, q2.mono (hz _) (fun _ h => h) idE, q3⟩
        rw [hget, if_pos (by omega)]
        exact q1
      · have hj0 : j < 1 := by rw [← hbE, ← hB.hlen i r h]; exact (List.getElem?_eq_some_iff.1 hj).1
        obtain ⟨c, q1, q2, q3⟩ := m9 i j r v h hj
        refine ⟨c, ?_, q2.mono (hz _) (fun _ h => h) idE, q3⟩
        rw [hget, if_neg (by omega)]
        exact q1
end

end Go.Proofs.YtoiimiohobollaaGreat.AI
