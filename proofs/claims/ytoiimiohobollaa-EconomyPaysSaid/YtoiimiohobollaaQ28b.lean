/- Chapter 28: paying and receiving. -/
import Derived.Test.YtoiimiohobollaaQ28
namespace Go.Proofs.Ytoiimiohobollaa.AI
open Go.RowKit
set_option linter.unusedVariables false
set_option linter.unusedSimpArgs false
set_option maxRecDepth 20000
theorem same_n (l : List (List AVal)) (h : TyNames l) : F_skirmishref09_SameNames l l = some true := by
  have hm : maxLen = 9223372036854775807 := by decide
  obtain ⟨o1, o2⟩ := okNames h
  have key := run_loop (fun m (_ : Unit) i => G_skirmishref09_SameNames_0 l l m i) (fun _ _ => .inl ()) (fun _ => false) l.length (fun _ _ => True)
    (fun m k _ hk _ => by
      obtain ⟨q1, q2, _⟩ := okR_get o1 hk
      have d1 : (k : Int) < l.length := by omega
      have d2 : (0 : Int) ≤ k := by omega
      have e : List.beq (ByteArray.toList (cS (l.getD k []) 0)) (ByteArray.toList (cS (l.getD k []) 0)) = true := seq_rfl _
      simp only [G_skirmishref09_SameNames_0, Int.ofNat_eq_natCast, d1, d2, decide_true, cond_true, Int.toNat_natCast, q1, q2, Option.bind_some, wr_next hk (by omega), e, Bool.not_true, cond_false])
    (fun _ _ _ _ _ _ => trivial)
    (fun m _ _ => by
      have d1 : ¬ (l.length : Int) < l.length := by omega
      simp only [G_skirmishref09_SameNames_0, Int.ofNat_eq_natCast, d1, decide_false, cond_false]) l.length FU 0 () (by omega) (by unfold FU; omega) trivial
  have hv : ∀ r k, iter (fun (_ : Nat) (_ : Unit) => (.inl () : Unit ⊕ Bool)) (fun _ => false) r k () = false := by
    intro r
    induction r with
    | zero => intro k; rfl
    | succ r ih => intro k; exact ih (k + 1)
  have key' : G_skirmishref09_SameNames_0 l l FU 0 = some false := key.trans (congrArg some (hv _ _))
  simp only [F_skirmishref09_SameNames, bne_self_eq_false, cond_false, key', Option.bind_some]
/-- Players that can be compared. -/
def okPl (l : List (List AVal)) : Prop := (∀ r ∈ l, chk plT r = true ∧ TyNames (cR r 4)) ∧ l.length ≤ maxLen
theorem same_pl (l : List (List AVal)) (h : okPl l) : F_skirmishref25_SamePlayers l l = some true := by
  have hm : maxLen = 9223372036854775807 := by decide
  have hl := h.2
  have key := run_loop (fun m (_ : Unit) i => G_skirmishref25_SamePlayers_0 l l m i) (fun _ _ => .inl ()) (fun _ => false) l.length (fun _ _ => True)
    (fun m k _ hk _ => by
      obtain ⟨q1, q2, q3⟩ := okR_get (ts := plT) (fun r hr => (h.1 r hr).1) hk
      have d1 : (k : Int) < l.length := by omega
      have d2 : (0 : Int) ≤ k := by omega
      have sn := same_n _ (h.1 _ q3).2
      simp only [G_skirmishref25_SamePlayers_0, Int.ofNat_eq_natCast, d1, d2, decide_true, cond_true, Int.toNat_natCast, q1, q2, Option.bind_some, wr_next hk (by omega), bne_self_eq_false, beq_self_eq_true, roRows, sn, Bool.not_true, cond_false])
    (fun _ _ _ _ _ _ => trivial)
    (fun m _ _ => by
      have d1 : ¬ (l.length : Int) < l.length := by omega
      simp only [G_skirmishref25_SamePlayers_0, Int.ofNat_eq_natCast, d1, decide_false, cond_false]) l.length FU 0 () (by omega) (by unfold FU; omega) trivial
  have hv : ∀ r k, iter (fun (_ : Nat) (_ : Unit) => (.inl () : Unit ⊕ Bool)) (fun _ => false) r k () = false := by
    intro r
    induction r with
    | zero => intro k; rfl
    | succ r ih => intro k; exact ih (k + 1)
  have key' : G_skirmishref25_SamePlayers_0 l l FU 0 = some false := key.trans (congrArg some (hv _ _))
  simp only [F_skirmishref25_SamePlayers, bne_self_eq_false, cond_false, key', Option.bind_some]
theorem row_pl {r : List AVal} (h : TyL Try.prog plT r) : r = [i64 (cI r 0), i64 (cI r 1), i64 (cI r 2), i64 (cI r 3), .ro 1 (cR r 4), bo (cB r 5)] ∧ TyNames (cR r 4) := by
  obtain ⟨v0, l0, rfl, y0, t0⟩ := tyL_cons h
  obtain ⟨x0, rfl, w0⟩ := ty_int y0
  obtain ⟨v1, l1, rfl, y1, t1⟩ := tyL_cons t0
  obtain ⟨x1, rfl, w1⟩ := ty_int y1
  obtain ⟨v2, l2, rfl, y2, t2⟩ := tyL_cons t1
  obtain ⟨x2, rfl, w2⟩ := ty_int y2
  obtain ⟨v3, l3, rfl, y3, t3⟩ := tyL_cons t2
  obtain ⟨x3, rfl, w3⟩ := ty_int y3
  obtain ⟨v4, l4, rfl, y4, t4⟩ := tyL_cons t3
  obtain ⟨x4, rfl, w4⟩ := ty_sl y4
  obtain ⟨v5, l5, rfl, y5, t5⟩ := tyL_cons t4
  obtain ⟨x5, rfl⟩ := ty_bool y5
  obtain rfl := tyL_nil t5
  exact ⟨rfl, w4⟩
/-- A player with other amounts. -/
def plRow (r : List AVal) (o w : Int) : List AVal := [i64 (cI r 0), i64 (cI r 1), i64 o, i64 w, .ro 1 (cR r 4), bo (cB r 5)]
theorem sp2 {r : List AVal} (h : TyL Try.prog plT r) (o : Int) : splice r 2 [i64 o] = plRow r o (cI r 3) := by
  rw [(row_pl h).1]; rfl
theorem sp3 (r : List AVal) (o w w' : Int) : splice (plRow r o w) 3 [i64 w'] = plRow r o w' := rfl
theorem chk_pl (r : List AVal) (o w : Int) : chk plT (plRow r o w) = true := rfl
theorem okPl_of {ps : List (List AVal)} (hp : TyPlayers ps) : okPl ps := ⟨fun r hr => ⟨okPlayers hp r hr, (row_pl (pl_row (us := ps) hp hr)).2⟩, (ty_rows hp).1⟩
theorem okPl_nil : okPl [] := ⟨fun r hr => (by cases hr), by simp⟩
theorem okPl_set {ps : List (List AVal)} (h : okPl ps) (k : Nat) (r : List AVal) (hn : TyNames (cR r 4)) (o w : Int) : okPl (ps.set k (plRow r o w)) := by
  refine ⟨fun q hq => ?_, by rw [List.length_set]; exact h.2⟩
  rcases List.mem_or_eq_of_mem_set hq with hq | rfl
  · exact h.1 q hq
  · exact ⟨rfl, hn⟩
theorem clone_p {l : List (List AVal)} (h : TyPlayers l) : F_slices_Clone_Player l = some l := by
  have hb := (ty_rows h).2.2
  rw [show Try.prog.bytesOf 42 = 64 by kernel_rfl] at hb
  simp only [reachBytes] at hb
  have r : roomOk (0 + l.length) 64 = true := by simp [roomOk]; omega
  simp only [F_slices_Clone_Player, F_slices_Clone_Player_ne, r, cond_true]
  cases l <;> rfl
theorem clone_e {l : List (List AVal)} (h : TyEnts l) : F_slices_Clone_Entity l = some l := by
  have hb := (ty_rows h).2.2
  rw [show Try.prog.bytesOf 61 = 136 by kernel_rfl] at hb
  simp only [reachBytes] at hb
  have r : roomOk (0 + l.length) 136 = true := by simp [roomOk]; omega
  simp only [F_slices_Clone_Entity, F_slices_Clone_Entity_ne, r, cond_true]
  cases l <;> rfl
def piV (ps : List (List AVal)) (id : Int) : Int := fdV ps (fun r => cI r 0 == id) (fun k => (k : Int)) (-1)
section
variable (turn next win : Int) (pause : Bool) (rng : Int) (us ws ts : List (List AVal)) (mw mh : Int) (cells ps es shots mems scripts : List (List AVal))
theorem find_g (id : Int) (h : TyPlayers ps) : F_economy_find turn next win pause rng us ws ts mw mh cells ps es shots mems scripts id = some (piV ps id) := by
  have hm : maxLen = 9223372036854775807 := by decide
  have hl := (ty_rows h).1
  have key := find_loop (fun q x => G_slices_IndexFunc_Player_0 ps id ps.length q x) ps (fun r => cI r 0 == id) (fun k => (true, (k : Int))) (false, 0) hl
    (fun m k hk => by
      obtain ⟨q1, q2, _⟩ := okR_get (okPlayers h) hk
      have d1 : (k : Int) < ps.length := by omega
      have d2 : (0 : Int) ≤ k := by omega
      simp only [G_slices_IndexFunc_Player_0, F_economy_find_1, d1, d2, decide_true, cond_true, Int.toNat_natCast, q1, q2, Option.bind_some, wr_next hk (by omega)])
    (fun m => by
      have d1 : ¬ (ps.length : Int) < ps.length := by omega
      simp only [G_slices_IndexFunc_Player_0, d1, decide_false, cond_false])
  have key' : G_slices_IndexFunc_Player_0 ps id ps.length FU 0 = _ := key
  simp only [F_economy_find, F_slices_IndexFunc_Player, Int.ofNat_eq_natCast, key', Option.bind_some]
  unfold piV fdV
  cases ps.findIdx? (fun r => cI r 0 == id) <;> rfl
theorem find_r (id : Int) (h : TyPlayers ps) : F_skirmishref28_index turn next win pause rng us ws ts mw mh cells ps es shots mems scripts id = some (piV ps id) := by
  have hm : maxLen = 9223372036854775807 := by decide
  have hl := (ty_rows h).1
  have key := find_loop (fun q x => G_skirmishref28_index_0 id ps q x) ps (fun r => cI r 0 == id) (fun k => (true, (k : Int))) (false, 0) hl
    (fun m k hk => by
      obtain ⟨q1, q2, _⟩ := okR_get (okPlayers h) hk
      have d1 : (k : Int) < ps.length := by omega
      have d2 : (0 : Int) ≤ k := by omega
      simp only [G_skirmishref28_index_0, Int.ofNat_eq_natCast, d1, d2, decide_true, cond_true, Int.toNat_natCast, q1, q2, Option.bind_some, wr_next hk (by omega)])
    (fun m => by
      have d1 : ¬ (ps.length : Int) < ps.length := by omega
      simp only [G_skirmishref28_index_0, Int.ofNat_eq_natCast, d1, decide_false, cond_false])
  have key' : G_skirmishref28_index_0 id ps FU 0 = _ := key
  simp only [F_skirmishref28_index, key', Option.bind_some]
  unfold piV fdV
  cases ps.findIdx? (fun r => cI r 0 == id) <;> rfl
theorem set_r (hp : TyPlayers ps) (k : Nat) (hk : k < ps.length) (a b o w : Int) (t : List (List AVal)) (q : Bool) :
    F_skirmishref28_set turn next win pause rng us ws ts mw mh cells ps es shots mems scripts k a b o w t q = some (turn, next, win, pause, rng, us, ws, ts, mw, mh, cells, ps.set k [i64 a, i64 b, i64 o, i64 w, .ro 1 t, bo q], es, shots, mems, scripts) := by
  have hb := (ty_rows hp).2.2
  rw [show Try.prog.bytesOf 42 = 64 by kernel_rfl] at hb
  simp only [reachBytes] at hb
  have r : roomOk (0 + ps.length) 64 = true := by simp [roomOk]; omega
  have d1 : (k : Int) < ps.length := by omega
  have d2 : (0 : Int) ≤ k := by omega
  simp only [F_skirmishref28_set, r, Int.ofNat_eq_natCast, d1, d2, decide_true, Bool.and_true, cond_true, Int.toNat_natCast]
theorem getD_set {l : List (List AVal)} {k : Nat} (hk : k < l.length) (x : List AVal) : (l.set k x).getD k [] = x := by
  simp [List.getD, hk]
theorem get_set {l : List (List AVal)} {k : Nat} (hk : k < l.length) (x : List AVal) : (l.set k x)[k]? = some x := by
  simp [hk]
theorem set_set {l : List (List AVal)} {k : Nat} (x y : List AVal) : (l.set k x).set k y = l.set k y := List.set_set ..
abbrev GameT := Int × Int × Int × Bool × Int × List (List AVal) × List (List AVal) × List (List AVal) × Int × Int × List (List AVal) × List (List AVal) × List (List AVal) × List (List AVal) × List (List AVal) × List (List AVal)
theorem pay_both (id ore wood : Int) (hp : TyPlayers ps) (he : TyEnts es) : ∃ X, F_economy_Pay turn next win pause rng us ws ts mw mh cells ps es shots mems scripts id ore wood = some X ∧
    F_skirmishref28_Pay turn next win pause rng us ws ts mw mh cells ps es shots mems scripts id ore wood = some X ∧ okPl X.2.2.2.2.2.2.2.2.2.2.2.1 := by
  simp only [F_economy_Pay, F_skirmishref28_Pay, find_g turn next win pause rng us ws ts mw mh cells ps es shots mems scripts id hp, find_r turn next win pause rng us ws ts mw mh cells ps es shots mems scripts id hp, Option.bind_some]
  cases decide (ore < 0) with
  | true => exact ⟨_, rfl, rfl, okPl_nil⟩
  | false =>
  cases decide (wood < 0) with
  | true => exact ⟨_, rfl, rfl, okPl_nil⟩
  | false =>
  simp only [cond_false]
  unfold piV fdV
  cases hf : ps.findIdx? (fun r => cI r 0 == id) with
  | none => exact ⟨_, rfl, rfl, okPl_nil⟩
  | some k =>
    have hk := (fd_lt hf).1
    obtain ⟨q1, q2, q3⟩ := okR_get (okPlayers hp) hk
    have hr := pl_row (us := ps) hp q3
    have d0 : ¬ (k : Int) < 0 := by omega
    have d1 : (k : Int) < ps.length := by omega
    have d2 : (0 : Int) ≤ k := by omega
    have ha : ∀ a b c d e f g h, F_skirmishref28_Afford a b c d e f g h = F_economy_Afford a b c d e f g h := fun a b c d e f g h => rfl
    have hv : ∃ b, F_economy_Afford (cI (ps.getD k []) 0) (cI (ps.getD k []) 1) (cI (ps.getD k []) 2) (cI (ps.getD k []) 3) (cR (ps.getD k []) 4) (cB (ps.getD k []) 5) ore wood = some b := by
      simp only [F_economy_Afford]
      cases decide (ore ≥ 0) <;> cases decide (wood ≥ 0) <;> cases decide (cI (ps.getD k []) 2 ≥ ore) <;> exact ⟨_, rfl⟩
    obtain ⟨b, hb⟩ := hv
    have len2 : (k : Int) < ((ps.set k (plRow (ps.getD k []) (wr (cI (ps.getD k []) 2 - ore)) (cI (ps.getD k []) 3))).length : Int) := by rw [List.length_set]; exact d1
    simp only [d0, d2, decide_false, decide_true, cond_false, cond_true, Int.toNat_natCast, q1, q2, Option.bind_some, ha, roRows, hb, F_economy_clone, clone_p hp, clone_e he, Int.ofNat_eq_natCast, d1, sp2 hr, len2, get_set hk, getD_set hk, chk_pl, sp3, set_set, set_r turn next win pause rng us ws ts mw mh cells ps es shots mems scripts hp k hk]
    cases b with
    | false => exact ⟨_, rfl, rfl, okPl_nil⟩
    | true => exact ⟨_, rfl, rfl, okPl_set (okPl_of hp) k _ (row_pl hr).2 _ _⟩
theorem plus_v (a b : Int) : F_economy_pair_plus1 a b 1000000 = F_skirmishref28_sum a b := rfl
theorem sum_some (a b : Int) : ∃ t, F_skirmishref28_sum a b = some t := by
  simp only [F_skirmishref28_sum]
  cases decide (a > wr (1000000 - b)) <;> exact ⟨_, rfl⟩
theorem refund_both (id ore wood : Int) (hp : TyPlayers ps) (he : TyEnts es) : ∃ X, F_economy_Refund turn next win pause rng us ws ts mw mh cells ps es shots mems scripts id ore wood = some X ∧
    F_skirmishref28_Refund turn next win pause rng us ws ts mw mh cells ps es shots mems scripts id ore wood = some X ∧ okPl X.2.2.2.2.2.2.2.2.2.2.2.1 := by
  simp only [F_economy_Refund, F_skirmishref28_Refund, F_economy_clone, clone_p hp, clone_e he, find_g turn next win pause rng us ws ts mw mh cells ps es shots mems scripts id hp, find_r turn next win pause rng us ws ts mw mh cells ps es shots mems scripts id hp, Option.bind_some]
  have o1 : decide (ore < 0) = !decide (ore ≥ 0) := by by_cases h : ore < 0 <;> simp [h] <;> omega
  have o2 : decide (wood < 0) = !decide (wood ≥ 0) := by by_cases h : wood < 0 <;> simp [h] <;> omega
  unfold piV fdV
  cases hf : ps.findIdx? (fun r => cI r 0 == id) with
  | none => exact ⟨_, rfl, rfl, okPl_of hp⟩
  | some k =>
    have hk := (fd_lt hf).1
    obtain ⟨q1, q2, q3⟩ := okR_get (okPlayers hp) hk
    have hr := pl_row (us := ps) hp q3
    have d0 : ¬ (k : Int) < 0 := by omega
    have d3 : (k : Int) ≥ 0 := by omega
    have d1 : (k : Int) < ps.length := by omega
    have d2 : (0 : Int) ≤ k := by omega
    obtain ⟨t1, e1⟩ := sum_some (cI (ps.getD k []) 2) ore
    obtain ⟨t2, e2⟩ := sum_some (cI (ps.getD k []) 3) wood
    simp only [d0, d2, d3, o1, o2, decide_false, decide_true, cond_false, cond_true, Int.toNat_natCast, q1, q2, Option.bind_some, roRows, e1, e2, F_economy_receive, F_economy_pair_plus, plus_v, Int.ofNat_eq_natCast, d1, Bool.and_true, sp2 hr, getD_set hk, sp3, set_set, set_r turn next win pause rng us ws ts mw mh cells ps es shots mems scripts hp k hk]
    cases decide (ore ≥ 0) with
    | false => exact ⟨_, rfl, rfl, okPl_of hp⟩
    | true =>
    cases decide (wood ≥ 0) with
    | false => exact ⟨_, rfl, rfl, okPl_of hp⟩
    | true => exact ⟨_, rfl, rfl, okPl_set (okPl_of hp) k _ (row_pl hr).2 _ _⟩
theorem pure_EconomyPays (id ore wood : Int) (a b c d : Int) (t : List (List AVal)) (q : Bool)
    (w0 : wf .i64 turn) (w1 : wf .i64 next) (w2 : wf .i64 win) (w4 : wf .u64 rng) (h1 : Ty Try.prog (.sl 77 19) (.ro 19 us)) (h2 : Ty Try.prog (.sl 161 6) (.ro 6 ws)) (h3 : Ty Try.prog (.sl 163 8) (.ro 8 ts)) (w8 : wf .i64 mw) (w9 : wf .i64 mh) (hc : TyCells cells)
    (hp : TyPlayers ps) (he : TyEnts es) (w13 : Ty Try.prog (.sl 165 9) (.ro 9 shots)) (w14 : Ty Try.prog (.sl 169 3) (.ro 3 mems)) (w15 : Ty Try.prog (.sl 176 4) (.ro 4 scripts))
    (v0 : wf .i64 id) (v1 : wf .i64 ore) (v2 : wf .i64 wood) (p0 : wf .i64 a) (p1 : wf .i64 b) (p2 : wf .i64 c) (p3 : wf .i64 d) (p4 : TyNames t) :
    F_skirmishlaw28_EconomyPays turn next win pause rng us ws ts mw mh cells ps es shots mems scripts id ore wood a b c d t q = some true := by
  obtain ⟨b', e, l⟩ := huge_v turn next win pause rng us ws ts mw mh cells ps es shots mems scripts
  obtain ⟨X, x1, x2, x3⟩ := pay_both turn next win pause rng us ws ts mw mh cells ps es shots mems scripts id ore wood hp he
  obtain ⟨Y, y1, y2, y3⟩ := refund_both turn next win pause rng us ws ts mw mh cells ps es shots mems scripts id ore wood hp he
  have ha : ∀ a b c d e f g h, F_skirmishref28_Afford a b c d e f g h = F_economy_Afford a b c d e f g h := fun a b c d e f g h => rfl
  have hv : ∃ z, F_economy_Afford a b c d t q ore wood = some z := by
    simp only [F_economy_Afford]
    cases decide (ore ≥ 0) <;> cases decide (wood ≥ 0) <;> cases decide (c ≥ ore) <;> exact ⟨_, rfl⟩
  obtain ⟨z, hz⟩ := hv
  simp only [F_skirmishlaw28_EconomyPays, e, Option.bind_some, awake28, x1, x2, y1, y2, same_pl _ x3, same_pl _ y3, beq_self_eq_true, cond_true, ha, hz]
  cases b' <;> rfl
end
end Go.Proofs.Ytoiimiohobollaa.AI
