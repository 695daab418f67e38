/- Addresses, parts, lengths. -/
import Derived.Test.YteiniiakpdijmaaDoorAI5
namespace Go.Proofs.YteiniiakpdijmaaDoor.AI
open Go.RowKit
set_option linter.unusedVariables false

section
variable {P : Program} {TT : TypeId → Option TI} {X : Ctx} {env : Nat → Option Ent} {Z : Nat → Prop} {s s1 : F} {a : Act} {w : World}

theorem chunk_get : ∀ (E n : Nat) (l : List AVal) (i : Nat) (r : List AVal), (chunk E n l)[i]? = some r → i < n ∧ r = (l.drop (i * E)).take E
  | E, 0, l, i, r, h => by simp [chunk] at h
  | E, n + 1, l, 0, r, h => by
    simp only [chunk, List.getElem?_cons_zero, Option.some.injEq] at h
    exact ⟨by omega, by rw [← h]; simp⟩
  | E, n + 1, l, i + 1, r, h => by
    simp only [chunk, List.getElem?_cons_succ] at h
    obtain ⟨h1, h2⟩ := chunk_get E n (l.drop E) i r h
    refine ⟨by omega, ?_⟩
    rw [h2, List.drop_drop, Nat.add_mul, Nat.one_mul, Nat.add_comm]

theorem chunk_length : ∀ (E n : Nat) (l : List AVal), (chunk E n l).length = n
  | E, 0, l => rfl
  | E, n + 1, l => by simp [chunk, chunk_length E n]

theorem take_drop_get {l : List AVal} {n E j : Nat} {v : AVal} (h : ((l.drop n).take E)[j]? = some v) : j < E ∧ l[n + j]? = some v := by
  rw [List.getElem?_take] at h
  split at h
  · rename_i hj
    rw [List.getElem?_drop] at h
    exact ⟨hj, h⟩
  · cases h

theorem pickIx_inv {i : Int} {f : Nat → AM AVal} {v : AVal} : ∀ (m q : Nat), Gives (pickIx i f q m) s v s1 → ∃ p, q ≤ p ∧ p < q + m ∧ i = p ∧ Gives (f p) s v s1
  | 0, q, h => h.fail
  | m + 1, q, h => by
    rcases Gives.test h with ⟨hc, h'⟩ | ⟨_, h'⟩
    · exact ⟨q, Nat.le_refl _, by omega, by simpa using hc, h'⟩
    · obtain ⟨p, h1, h2, h3, h4⟩ := pickIx_inv m (q + 1) h'
      exact ⟨p, by omega, by omega, h3, h4⟩

/-- Where an array lies. -/
theorem BRel.sliceV {b : Blk} {e : Ent} (h : BRel env Z w b e) (hk : (b.kind.isBox && !b.kind.isNs) = false) (h0 : b.rows.length ≠ 0) :
    ∃ g cap, e.v = .slice (some ⟨g, 0, none⟩) b.rows.length cap ∧ b.rows.length ≤ cap ∧ 0 < cap := by
  cases hkk : b.kind with
  | ns st T E =>
    rcases (h.ns _ _ _ hkk).out with ⟨h1, _⟩ | ⟨g, cap, cs, h1, _, h3, h4, _⟩
    · rw [h1] at h0; exact absurd rfl h0
    · exact ⟨g, cap, h1, h3, h4⟩
  | box => rw [hkk] at hk; cases hk
  | arr | frz | dfr =>
    rcases h.arr (by rw [hkk]; rfl) with ⟨h1, _⟩ | ⟨g, cap, cs, h1, _, h3, h4, _⟩
    · rw [h1] at h0; exact absurd rfl h0
    · exact ⟨g, cap, h1, h3, h4⟩

theorem indexAddrA_sim (hT : TOk P TT) {t : TypeId} {x v : AVal} {c : Value} {k : IntKind} {i : Int} (h : Gives (indexAddrA TT t x i) s v s1) (hR : Rel X env Z s a w) (hx : VRel env Z w x c) :
    s1 = s ∧ ∃ u, (Instr.indexAt t c (.int k i)).run P w = .ok u w ∧ VRel env Z w v u := by
  unfold indexAddrA at h
  cases ht : TT t with
  | none => rw [ht] at h; exact h.fail
  | some ti =>
    rw [ht] at h
    have hd := hT.desc t ti ht
    simp only at h
    split at h
    · -- a slice
      rename_i e hde
      rw [hde] at hd
      cases hte : TT e with
      | none => rw [hte] at h; exact h.fail
      | some te =>
        rw [hte] at h
        simp only at h
        split at h
        · -- read only
          rename_i E rows
          obtain ⟨h0, h⟩ := h.assert
          obtain ⟨r, hr, h⟩ := h.row
          obtain ⟨hk, h⟩ := h.assert
          obtain ⟨rfl, rfl⟩ := h.ret
          have h0' : 0 ≤ i := by simpa using h0
          have hlt : i.toNat < rows.length := (List.getElem?_eq_some_iff.1 hr).1
          cases hx with
          | roE => simp at hr
          | ro _ _ b o cap f hcap hz hrl hc hh =>
            obtain ⟨ie, z, hi, hsz, _, _, _, hlf, _⟩ := hT.info e te hte
            have hE : E = ie.size := by
              rw [← hrl _ _ hr, chk_len hk, hlf, hsz]
            refine ⟨rfl, .pointer (some ⟨b, o + i.toNat * E, none⟩), ?_, ?_⟩
            · have hb : 0 ≤ i ∧ i < rows.length := ⟨h0', by omega⟩
              simp only [Instr.indexAt, Sem.run_bind, asIntOf, Sem.run_pure, Result.andThen_ok, run_underlying hd]
              simp only [hb, and_self, if_true, Sem.run_bind, run_sizeOf' hi, Result.andThen_ok, Sem.run_pure, add_mk, hE]
            · refine .rptr _ b _ (fun j => f i.toNat j) hz (fun j u hu => ?_) fun j u hu => ?_
              · obtain ⟨h1, u0, h2, h3⟩ := dec_get hk hu
                have := hc _ _ _ _ hr h2
                exact ⟨h1, this.2.1, by rw [Nat.add_assoc]; exact this.2.2⟩
              · obtain ⟨h1, u0, h2, h3⟩ := dec_get hk hu
                exact h3 _ _ _ _ (hh _ _ _ _ hr h2)
        · -- an own array
          rename_i kk n
          have h := h.getK
          cases hb : s.key kk with
          | none => rw [hb] at h; exact h.fail
          | some b =>
            rw [hb] at h
            simp only at h
            cases hq : ((b.kind.isBox && !b.kind.isNs) || !(Nat.beq b.E te.size)) with
            | true => rw [hq] at h; exact h.fail
            | false =>
              rw [hq] at h
              simp only [cond_false] at h
              obtain ⟨hcond, h⟩ := h.assert
              obtain ⟨rfl, rfl⟩ := h.ret
              simp only [Bool.and_eq_true, decide_eq_true_eq] at hcond
              obtain ⟨⟨h1, h2⟩, h3⟩ := hcond
              have hn := nbeq_eq h1
              simp only [Bool.or_eq_false_iff, Bool.not_eq_false'] at hq
              have hE := nbeq_eq hq.2
              obtain ⟨e1, he1, rfl, hB⟩ := hR.readArr hx hb hn
              obtain ⟨ie, z, hi, hsz, _⟩ := hT.info e te hte
              obtain ⟨g, cap, hv, hcap, hpos⟩ := hB.sliceV hq.1 (by omega)
              · rw [hv]
                refine ⟨rfl, .pointer (some ⟨g, i.toNat * b.E, none⟩), ?_, ?_⟩
                · have hbb : 0 ≤ i ∧ i < b.rows.length := ⟨h2, by omega⟩
                  simp only [Instr.indexAt, Sem.run_bind, asIntOf, Sem.run_pure, Result.andThen_ok, run_underlying hd]
                  simp only [hbb, and_self, if_true, Sem.run_bind, run_sizeOf' hi, Result.andThen_ok, Sem.run_pure, add_mk, hE, hsz, Nat.zero_add]
                · refine .ref kk n i.toNat 0 _ e1 he1 (by rw [hB.hn]; omega) rfl fun _ => ⟨by omega, g, by rw [hv]; simp only [ob]; rw [if_neg (by omega)], ?_⟩
                  rw [hB.hE, Nat.add_zero]
        · -- an inner slice
          rename_i kk n q st
          have h := h.getK
          cases hb : s.key kk with
          | none => rw [hb] at h; exact h.fail
          | some b =>
            rw [hb] at h
            simp only at h
            split at h
            · rename_i T E hkk
              cases hq : (Nat.beq st 0 && Nat.beq E te.size) with
              | false => rw [hq] at h; exact h.fail
              | true =>
                rw [hq] at h
                simp only [cond_true] at h
                simp only [Bool.and_eq_true] at hq
                have q1 := nbeq_eq hq.1
                have q2 := nbeq_eq hq.2
                subst q1 q2
                obtain ⟨h1, h⟩ := h.assert
                obtain ⟨rr, s2, h3, h4⟩ := h.bind
                clear h
                obtain ⟨e1, he1, hle, hh⟩ := hx.inn_ent
                have hB := hR.blk kk b e1 hb he1
                obtain ⟨rfl, d, hd1, hrow, hS⟩ := innRow_sim (hB.ns _ _ _ hkk) h3
                obtain ⟨hc, h5⟩ := h4.assert
                obtain ⟨rfl, rfl⟩ := h5.ret
                simp only [Bool.and_eq_true, decide_eq_true_eq] at hc
                obtain ⟨hh1, _⟩ := hh (by rw [hB.hn]; exact (verEq_eq h1).symm) (by rw [hB.hst, hkk]; rfl)
                rw [hd1] at hh1
                simp only [Option.some.injEq] at hh1
                subst hh1
                obtain ⟨ie, z, hi, hsz, _⟩ := hT.info e te hte
                rcases hS.mem with ⟨h0, _⟩ | ⟨g', o', cap', cs, m1, m2, m3, m4, m5, m6, m7, m8⟩
                · rw [h0] at hc; simp at hc; omega
                · rw [m1]
                  refine ⟨rfl, .pointer (some ⟨g', o' + i.toNat * te.size, none⟩), ?_, ?_⟩
                  · have hbb : 0 ≤ i ∧ i < rr.length := ⟨hc.1, by omega⟩
                    simp only [Instr.indexAt, Sem.run_bind, asIntOf, Sem.run_pure, Result.andThen_ok, run_underlying hd]
                    simp only [hbb, and_self, if_true, Sem.run_bind, run_sizeOf' hi, Result.andThen_ok, Sem.run_pure, add_mk, hsz]
                  · exact .ipt kk n q i.toNat te.size _ e1 he1 hle fun _ _ => ⟨g', o', rr.length, cap', by rw [hd1, m1], m4, by omega, rfl⟩
            · exact h.fail
        · exact h.fail
    · -- an array's address
      rename_i len e hde
      rw [hde] at hd
      cases hte : TT e with
      | none => rw [hte] at h; exact h.fail
      | some te =>
        rw [hte] at h
        simp only at h
        split at h
        · rename_i l
          obtain ⟨hcond, h⟩ := h.assert
          obtain ⟨r, hr, h⟩ := h.row
          obtain ⟨hk, h⟩ := h.assert
          obtain ⟨rfl, rfl⟩ := h.ret
          simp only [Bool.and_eq_true, decide_eq_true_eq] at hcond
          obtain ⟨⟨h1, h2⟩, h3⟩ := hcond
          obtain ⟨ie, z, hi, hsz, _⟩ := hT.info e te hte
          obtain ⟨hlt, rfl⟩ := chunk_get _ _ _ _ _ hr
          cases hx with
          | rptr _ b o f hz hc hh =>
            refine ⟨rfl, .pointer (some ⟨b, o + i.toNat * te.size, none⟩), ?_, ?_⟩
            · have hbb : 0 ≤ i ∧ i < len := ⟨h1, h2⟩
              simp only [Instr.indexAt, Sem.run_bind, asIntOf, Sem.run_pure, Result.andThen_ok, run_underlying hd, Instr.sureAddr]
              simp only [hbb, and_self, if_true, Sem.run_bind, run_sizeOf' hi, Result.andThen_ok, Sem.run_pure, add_mk, hsz]
            · refine .rptr _ b _ (fun j => f (i.toNat * te.size + j)) hz (fun j u hu => ?_) fun j u hu => ?_
              · obtain ⟨q1, u0, q2, q3⟩ := dec_get hk hu
                have := hc _ _ (take_drop_get q2).2
                exact ⟨q1, this.2.1, by rw [Nat.add_assoc]; exact this.2.2⟩
              · obtain ⟨q1, u0, q2, q3⟩ := dec_get hk hu
                exact q3 _ _ _ _ (hh _ _ (take_drop_get q2).2)
        · rename_i kk n ii j
          have h := h.getK
          cases hb : s.key kk with
          | none => rw [hb] at h; exact h.fail
          | some b =>
            rw [hb] at h
            obtain ⟨h1, h⟩ := h.assert
            obtain ⟨q, _, hq, rfl, h9⟩ := pickIx_inv _ _ h
            obtain ⟨rfl, rfl⟩ := h9.ret
            obtain ⟨e1, he, _⟩ := hx.ref_ent
            have hn : n = e1.n := by rw [(hR.blk kk b e1 hb he).hn]; exact (nbeq_eq h1).symm
            obtain ⟨hlt, g, hg, rfl⟩ := hx.inv_ref he hn
            obtain ⟨ie, z, hi, hsz, _⟩ := hT.info e te hte
            refine ⟨rfl, .pointer (some ⟨g, ii * e1.E + j + q * te.size, none⟩), ?_, ?_⟩
            · have hbb : 0 ≤ (q : Int) ∧ (q : Int) < len := ⟨by omega, by omega⟩
              simp only [Instr.indexAt, Sem.run_bind, asIntOf, Sem.run_pure, Result.andThen_ok, run_underlying hd, Instr.sureAddr]
              simp only [hbb, and_self, if_true, Sem.run_bind, run_sizeOf' hi, Result.andThen_ok, Sem.run_pure, add_mk, hsz, Int.toNat_natCast]
            · exact .ref _ _ _ _ _ e1 he (by omega) rfl fun _ => ⟨hlt, g, hg, by rw [Nat.add_assoc]⟩
        · exact h.fail
    · exact h.fail

theorem loadA_part (hT : TOk P TT) {t : TypeId} {l : List AVal} {v : AVal} {cs : Array Value} {o : Nat} (h : Gives (loadA TT t l) s v s1)
    (hc : ∀ (j : Nat) (u : AVal), l[j]? = some u → ∃ c, cs[o + j]? = some c ∧ VRel env Z w u c) :
    s1 = s ∧ ∃ c, (part t cs o).run P w = .ok c w ∧ VRel env Z w v c := by
  unfold loadA at h
  cases ht : TT t with
  | none => rw [ht] at h; exact h.fail
  | some ti =>
    rw [ht] at h
    simp only at h
    have hd := hT.desc t ti ht
    by_cases hg : isAggD ti.desc = true
    · rw [if_pos hg] at h
      obtain ⟨h1, h2⟩ := h.assert
      obtain ⟨rfl, rfl⟩ := h2.ret
      have hle : ti.size ≤ l.length := Nat.le_of_ble_eq_true h1
      obtain ⟨i, z, hi, hsz, _⟩ := hT.info t ti ht
      refine ⟨rfl, .agg (cs.extract o (o + ti.size)), ?_, ?_⟩
      · simp only [part, Sem.run_bind, run_isAgg hd, Result.andThen_ok, hg, if_true, run_sizeOf' hi, hsz]
        rfl
      · have hsize : (cs.extract o (o + ti.size)).size = ti.size := by
          simp only [Array.size_extract]
          rcases Nat.eq_zero_or_pos ti.size with h0 | h0
          · omega
          · obtain ⟨c, hc1, _⟩ := hc (ti.size - 1) l[ti.size - 1] (by simp [show ti.size - 1 < l.length by omega])
            have := (Array.getElem?_eq_some_iff.1 hc1).1
            omega
        refine .agg _ _ (by rw [hsize]; simp; omega) fun j u c hu hcj => ?_
        rw [List.getElem?_take] at hu
        split at hu
        · rename_i hj
          obtain ⟨c', h1, h2⟩ := hc j u hu
          have : (cs.extract o (o + ti.size))[j]? = cs[o + j]? := by
            rw [Array.getElem?_extract]
            rw [if_pos]
            have := (Array.getElem?_eq_some_iff.1 h1).1
            omega
          rw [this, h1] at hcj
          simp only [Option.some.injEq] at hcj
          subst hcj
          exact h2
        · cases hu
    · rw [if_neg hg] at h
      cases l with
      | nil => exact h.fail
      | cons x rest =>
        obtain ⟨rfl, rfl⟩ := h.ret
        obtain ⟨c, h1, h2⟩ := hc 0 v rfl
        rw [Nat.add_zero] at h1
        have hg' : isAggD ti.desc = false := by simpa using hg
        exact ⟨rfl, c, run_part_one hd hg' h1 w, h2⟩

theorem indexA_sim (hT : TOk P TT) {t : TypeId} {x v : AVal} {c : Value} {k : IntKind} {i : Int} (h : Gives (indexA TT t x i) s v s1) (hx : VRel env Z w x c) :
    s1 = s ∧ ∃ u, (Instr.index t c (.int k i)).run P w = .ok u w ∧ VRel env Z w v u := by
  unfold indexA at h
  cases ht : TT t with
  | none => rw [ht] at h; exact h.fail
  | some ti =>
    rw [ht] at h
    have hd := hT.desc t ti ht
    simp only at h
    split at h
    · rename_i len e hde
      rw [hde] at hd
      cases hte : TT e with
      | none => rw [hte] at h; exact h.fail
      | some te =>
        rw [hte] at h
        simp only at h
        split at h
        · rename_i l
          obtain ⟨hcond, h⟩ := h.assert
          obtain ⟨r, hr, h⟩ := h.row
          obtain ⟨hk, h⟩ := h.assert
          simp only [Bool.and_eq_true, decide_eq_true_eq] at hcond
          obtain ⟨⟨h1, h2⟩, h3⟩ := hcond
          obtain ⟨ie, z, hi, hsz, _⟩ := hT.info e te hte
          obtain ⟨hlt, rfl⟩ := chunk_get _ _ _ _ _ hr
          cases hx with
          | agg _ cs hl hh =>
            have hcell : ∀ (j : Nat) (u : AVal), (dec te.leaf (List.take te.size (List.drop (i.toNat * te.size) l)))[j]? = some u → ∃ c, cs[i.toNat * te.size + j]? = some c ∧ VRel env Z w u c := by
              intro j u hu
              obtain ⟨q1, u0, q2, q3⟩ := dec_get hk hu
              obtain ⟨hj, hl2⟩ := take_drop_get q2
              have hlt2 : i.toNat * te.size + j < cs.size := by rw [← hl]; exact (List.getElem?_eq_some_iff.1 hl2).1
              exact ⟨cs[i.toNat * te.size + j], by simp [hlt2], q3 _ _ _ _ (hh _ _ _ hl2 (by simp [hlt2]))⟩
            obtain ⟨rfl, c', hp, hv⟩ := loadA_part hT h hcell
            refine ⟨rfl, c', ?_, hv⟩
            have hbb : 0 ≤ i ∧ i < len := ⟨h1, h2⟩
            simp only [Instr.index, Sem.run_bind, asIntOf, Sem.run_pure, Result.andThen_ok, run_underlying hd]
            simp only [hbb, and_self, if_true, Sem.run_bind, run_sizeOf' hi, Result.andThen_ok, hsz]
            exact hp
        · exact h.fail
    · rename_i hde
      rw [hde] at hd
      split at h
      · rename_i str
        obtain ⟨hc, h2⟩ := h.assert
        obtain ⟨rfl, rfl⟩ := h2.ret
        simp only [Bool.and_eq_true, decide_eq_true_eq] at hc
        cases hx with
        | sc =>
          have hlt : i.toNat < str.size := by omega
          have hb : (if 0 ≤ i then str[i.toNat]? else none) = some str[i.toNat] := by
            rw [if_pos hc.1]
            simp [getElem?_pos, hlt]
          refine ⟨rfl, .int .u8 (str[i.toNat].toNat : Int), ?_, ?_⟩
          · simp only [Instr.index, Sem.run_bind, asIntOf, Sem.run_pure, Result.andThen_ok, run_underlying hd, hb]
          · have : byteA str i = (str[i.toNat].toNat : Int) := by
              unfold byteA
              have h2 : i.toNat < str.data.toList.length := by simpa using hlt
              rw [List.getD_eq_getElem?_getD, List.getElem?_eq_getElem h2]
              simp
              rfl
            rw [this]
            exact .sc _
      · exact h.fail
    · exact h.fail

theorem partAt_off {f : Field} {i : TypeInfo} (hi : P.info? f.type = some i) (h0 : i.size ≠ 0) (b o : Nat) (w : World) :
    (fieldPlace ⟨b, o, none⟩ f).run P w = .ok ⟨b, o + f.offset, none⟩ w := by
  simp only [fieldPlace, Sem.run_bind, run_sizeOf' hi, Result.andThen_ok, h0, if_false, add_mk]
  rfl

theorem fieldAddrA_sim (hT : TOk P TT) {t : TypeId} {x v : AVal} {c : Value} {f : Nat} (h : Gives (fieldAddrA TT t x f) s v s1) (hR : Rel X env Z s a w) (hx : VRel env Z w x c)
    :
    s1 = s ∧ ∃ u, (Instr.fieldAt t c f).run P w = .ok u w ∧ VRel env Z w v u := by
  unfold fieldAddrA at h
  cases ht : TT t with
  | none => rw [ht] at h; exact h.fail
  | some ti =>
    rw [ht] at h
    have hd := hT.desc t ti ht
    simp only at h
    split at h
    · rename_i fs hde
      rw [hde] at hd
      cases hf : fs[f]? with
      | none => rw [hf] at h; exact h.fail
      | some fd =>
        rw [hf] at h
        simp only at h
        cases htf : TT fd.type with
        | none => rw [htf] at h; exact h.fail
        | some tf =>
          rw [htf] at h
          simp only at h
          obtain ⟨i, z, hi, hsz, _⟩ := hT.info _ tf htf
          by_cases h0 : tf.size = 0
          · rw [if_pos h0] at h; exact h.fail
          · rw [if_neg h0] at h
            split at h
            · rename_i k n ii j
              have h := h.getK
              cases hb : s.key k with
              | none => rw [hb] at h; exact h.fail
              | some b =>
              rw [hb] at h
              obtain ⟨h1, h⟩ := h.assert
              obtain ⟨rfl, rfl⟩ := h.ret
              obtain ⟨e, he, _⟩ := hx.ref_ent
              have hn : n = e.n := by rw [(hR.blk k b e hb he).hn]; exact (nbeq_eq h1).symm
              obtain ⟨hlt, g, hg, rfl⟩ := hx.inv_ref he hn
              refine ⟨rfl, .pointer (some ⟨g, ii * e.E + j + fd.offset, none⟩), ?_, ?_⟩
              · simp only [Instr.fieldAt, Sem.run_bind, run_underlying hd, Result.andThen_ok, hf, Instr.sureAddr, Sem.run_pure, partAt_off hi (by rw [hsz]; exact h0)]
              · exact .ref _ _ _ _ _ e he (by omega) rfl fun _ => ⟨hlt, g, hg, by rw [Nat.add_assoc]⟩
            · rename_i l
              obtain ⟨rfl, rfl⟩ := h.ret
              cases hx with
              | rptr _ b o ff hz hc hh =>
                refine ⟨rfl, .pointer (some ⟨b, o + fd.offset, none⟩), ?_, ?_⟩
                · simp only [Instr.fieldAt, Sem.run_bind, run_underlying hd, Result.andThen_ok, hf, Instr.sureAddr, Sem.run_pure, partAt_off hi (by rw [hsz]; exact h0)]
                · refine .rptr _ b _ (fun j => ff (fd.offset + j)) hz (fun j u hu => ?_) fun j u hu => ?_
                  · rw [List.getElem?_drop] at hu
                    have := hc _ _ hu
                    exact ⟨this.1, this.2.1, by rw [Nat.add_assoc]; exact this.2.2⟩
                  · rw [List.getElem?_drop] at hu
                    exact hh _ _ hu
            · exact h.fail
    · exact h.fail

theorem fieldA_sim (hT : TOk P TT) {t : TypeId} {x v : AVal} {c : Value} {f : Nat} (h : Gives (fieldA TT t x f) s v s1) (hx : VRel env Z w x c) :
    s1 = s ∧ ∃ u, (Instr.field t c f).run P w = .ok u w ∧ VRel env Z w v u := by
  unfold fieldA at h
  cases ht : TT t with
  | none => rw [ht] at h; exact h.fail
  | some ti =>
    rw [ht] at h
    have hd := hT.desc t ti ht
    simp only at h
    split at h
    · rename_i fs hde
      rw [hde] at hd
      cases hf : fs[f]? with
      | none => rw [hf] at h; exact h.fail
      | some fd =>
        rw [hf] at h
        simp only at h
        split at h
        · rename_i l
          cases hx with
          | agg _ cs hl hh =>
            obtain ⟨rfl, c', hp, hv⟩ := loadA_part hT (cs := cs) (o := fd.offset) h fun j u hu => by
              rw [List.getElem?_drop] at hu
              have hlt2 : fd.offset + j < cs.size := by rw [← hl]; exact (List.getElem?_eq_some_iff.1 hu).1
              exact ⟨cs[fd.offset + j], by simp [hlt2], hh _ _ _ hu (by simp [hlt2])⟩
            refine ⟨rfl, c', ?_, hv⟩
            simp only [Instr.field, Sem.run_bind, run_underlying hd, Result.andThen_ok, hf, asAgg, Sem.run_pure]
            exact hp
        · exact h.fail
    · exact h.fail

/-- A slice's source: its rows, in memory. -/
def Source (env : Nat → Option Ent) (Z : Nat → Prop) (w : World) (c : Value) (E : Nat) (rows : List (List AVal)) : Prop :=
  ∃ base cap, c = .slice base rows.length cap ∧ (rows = [] ∨ ∃ (b o : Nat) (f : Nat → Value), base = some ⟨b, o, none⟩ ∧ (∀ (i : Nat) (r : List AVal), rows[i]? = some r → r.length = E) ∧
    ∀ (i j : Nat) (r : List AVal) (v : AVal), rows[i]? = some r → r[j]? = some v → flat v = true ∧ oneC (f (i * E + j)) = true ∧ w.cell? ⟨b, o + (i * E + j), none⟩ = some (f (i * E + j)) ∧ VRel env Z w v (f (i * E + j)))

theorem div_row {i j E : Nat} (h : j < E) : (i * E + j) / E = i ∧ (i * E + j) % E = j := by
  have hE : 0 < E := by omega
  rw [Nat.mul_comm]
  exact ⟨by rw [Nat.mul_add_div hE, Nat.div_eq_of_lt h, Nat.add_zero], by rw [Nat.mul_add_mod, Nat.mod_eq_of_lt h]⟩

theorem VRel.source_ro {E : Nat} {rows : List (List AVal)} {c : Value} (h : VRel env Z w (.ro E rows) c) : Source env Z w c E rows := by
  cases h with
  | roE E a cap => exact ⟨a, cap, rfl, .inl rfl⟩
  | ro _ _ b o cap f hcap hz hr hc hh =>
    refine ⟨_, cap, rfl, .inr ⟨b, o, fun q => f (q / E) (q % E), rfl, hr, fun i j r v h1 h2 => ?_⟩⟩
    have hj : j < E := by rw [← hr i r h1]; exact (List.getElem?_eq_some_iff.1 h2).1
    obtain ⟨q1, q2⟩ := div_row (i := i) hj
    have := hc i j r v h1 h2
    simp only [q1, q2]
    exact ⟨this.1, this.2.1, this.2.2, hh i j r v h1 h2⟩

theorem BRel.source {b : Blk} {e : Ent} (h : BRel env Z w b e) (hk : b.kind.isBox = false) : Source env Z w e.v b.E b.rows := by
  rcases h.arr hk with ⟨h0, a, h1⟩ | ⟨g, cap, cs, h1, h2, h3, h4, h5, h6, h7, h8, h9⟩
  · exact ⟨a, 0, by rw [h1, h0]; rfl, .inl h0⟩
  · refine ⟨_, cap, h1, .inr ⟨g, 0, fun q => cs.getD q undef, rfl, h.hlen, fun i j r v hi hj => ?_⟩⟩
    obtain ⟨c, q1, q2, q3, q4⟩ := h9 i j r v hi hj
    have : cs.getD (i * b.E + j) undef = c := by rw [Array.getD_eq_getD_getElem?, q1]; rfl
    simp only [this]
    exact ⟨q3, q4, by rw [Nat.zero_add]; exact cell_block h2 q1, q2⟩

theorem rowsOfA_sim {x : AVal} {c : Value} {p : Nat × List (List AVal)} (h : Gives (rowsOfA x) s p s1) (hR : Rel X env Z s a w) (hx : VRel env Z w x c) :
    s1 = s ∧ Source env Z w c p.1 p.2 := by
  unfold rowsOfA at h
  split at h
  · obtain ⟨rfl, rfl⟩ := h.ret
    cases hx with
    | emp a => exact ⟨rfl, a, 0, rfl, .inl rfl⟩
  · obtain ⟨rfl, rfl⟩ := h.ret
    exact ⟨rfl, hx.source_ro⟩
  · obtain ⟨rfl, rfl⟩ := h.ret
    cases hx
    exact ⟨rfl, _, _, rfl, .inl rfl⟩
  · rename_i k n
    have h := h.getK
    cases hb : s.key k with
    | none => rw [hb] at h; exact h.fail
    | some b =>
      rw [hb] at h
      simp only at h
      cases hk : b.kind.isBox with
      | true => rw [hk] at h; exact h.fail
      | false =>
        rw [hk] at h
        simp only [cond_false] at h
        obtain ⟨h1, h⟩ := h.assert
        obtain ⟨rfl, rfl⟩ := h.ret
        obtain ⟨e, he, rfl, hB⟩ := hR.readArr hx hb (nbeq_eq h1)
        exact ⟨rfl, hB.source hk⟩
  · exact h.fail

theorem lenA_sim (hT : TOk P TT) {t ty : TypeId} {x v : AVal} {c : Value} (h : Gives (lenA TT t x) s v s1) (hR : Rel X env Z s a w) (hx : VRel env Z w x c) :
    s1 = s ∧ ∃ u, (Builtin.len_ #[t] ty #[c]).run P w = .ok u w ∧ VRel env Z w v u := by
  unfold lenA at h
  cases ht : TT t with
  | none => rw [ht] at h; exact h.fail
  | some ti =>
    rw [ht] at h
    have hd := hT.desc t ti ht
    simp only at h
    split at h
    · rename_i hde
      rw [hde] at hd
      split at h
      · obtain ⟨rfl, rfl⟩ := h.ret
        cases hx
        exact ⟨rfl, _, by simp [Builtin.len_, run_underlying hd]; rfl, .sc _⟩
      · exact h.fail
    · rename_i e hde
      rw [hde] at hd
      have old : ∀ {x : AVal}, Gives ((rowsOfA x).bind fun p => .ret (.sc (.int .i64 p.2.length))) s v s1 → VRel env Z w x c → s1 = s ∧ ∃ u, (Builtin.len_ #[t] ty #[c]).run P w = .ok u w ∧ VRel env Z w v u := fun {x} h hx => by
        obtain ⟨p, s2, h1, h2⟩ := h.bind
        obtain ⟨rfl, base, cap, rfl, _⟩ := rowsOfA_sim h1 hR hx
        obtain ⟨rfl, rfl⟩ := h2.ret
        exact ⟨rfl, _, by simp [Builtin.len_, run_underlying hd]; rfl, .sc _⟩
      split at h
      · rename_i k n q st
        have g1 := h.getK
        clear h
        cases hb : s.key k with
        | none => rw [hb] at g1; exact g1.fail
        | some b =>
          rw [hb] at g1
          simp only at g1
          split at g1
          · rename_i T E hkk
            cases hq : Nat.beq st 0 with
            | false => rw [hq] at g1; exact g1.fail
            | true =>
              rw [hq] at g1
              simp only [cond_true] at g1
              have q1 := nbeq_eq hq
              subst q1
              obtain ⟨h1, g2⟩ := g1.assert
              obtain ⟨rr, s2, h3, h4⟩ := g2.bind
              obtain ⟨e1, he1, hle, hh⟩ := hx.inn_ent
              have hB := hR.blk k b e1 hb he1
              obtain ⟨rfl, d, hd1, hrow, hS⟩ := innRow_sim (hB.ns _ _ _ hkk) h3
              obtain ⟨rfl, rfl⟩ := h4.ret
              obtain ⟨hh1, _⟩ := hh (by rw [hB.hn]; exact (verEq_eq h1).symm) (by rw [hB.hst, hkk]; rfl)
              rw [hd1] at hh1
              simp only [Option.some.injEq] at hh1
              subst hh1
              rcases hS.mem with ⟨h0, a, m1⟩ | ⟨g', o', cap', cs, m1, _⟩
              · rw [m1, h0]
                exact ⟨rfl, _, by simp [Builtin.len_, run_underlying hd]; rfl, .sc _⟩
              · rw [m1]
                exact ⟨rfl, _, by simp [Builtin.len_, run_underlying hd]; rfl, .sc _⟩
          · exact g1.fail
      · rename_i k n
        have h := h.getK
        cases hb : s.key k with
        | none => rw [hb] at h; exact h.fail
        | some b =>
          rw [hb] at h
          simp only at h
          cases hns : b.kind.isNs with
          | false => rw [hns] at h; exact old h hx
          | true =>
            rw [hns] at h
            simp only [cond_true] at h
            obtain ⟨h1, h⟩ := h.assert
            obtain ⟨rfl, rfl⟩ := h.ret
            obtain ⟨e, he, rfl, hB⟩ := hR.readArr hx hb (nbeq_eq h1)
            cases hkk : b.kind with
            | ns st T E =>
              rcases (hB.ns _ _ _ hkk).out with ⟨h0, a, m1⟩ | ⟨g', cap', cs, m1, _⟩
              · rw [m1, h0]
                exact ⟨rfl, _, by simp [Builtin.len_, run_underlying hd]; rfl, .sc _⟩
              · rw [m1]
                exact ⟨rfl, _, by simp [Builtin.len_, run_underlying hd]; rfl, .sc _⟩
            | _ => rw [hkk] at hns; cases hns
      · exact old h hx
    · rename_i n e hde
      rw [hde] at hd
      obtain ⟨rfl, rfl⟩ := h.ret
      exact ⟨rfl, _, by simp [Builtin.len_, run_underlying hd]; rfl, .sc _⟩
    · exact h.fail
end

end Go.Proofs.YteiniiakpdijmaaDoor.AI
