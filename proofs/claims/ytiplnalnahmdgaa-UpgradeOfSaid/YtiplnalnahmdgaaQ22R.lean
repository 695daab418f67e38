/- Chapter 22: the law on the effective type of an entity. -/
import Derived.Test.YtiplnalnahmdgaaQ22P
namespace Go.Proofs.Ytiplnalnahmdgaa.AI
open Go.RowKit
set_option linter.unusedVariables false
set_option linter.unusedSimpArgs false
set_option maxRecDepth 20000
abbrev entT : List LT := [(LT.int IntKind.i64), (LT.int IntKind.i64), LT.str, (LT.int IntKind.i64), (LT.int IntKind.i64), (LT.int IntKind.i64), (LT.int IntKind.i64), (LT.int IntKind.i64), (LT.int IntKind.i64), (LT.int IntKind.i64), (LT.sl 114 5), (LT.sl 117 3)]
abbrev plT : List LT := [(LT.int IntKind.i64), (LT.int IntKind.i64), (LT.int IntKind.i64), (LT.int IntKind.i64), (LT.sl 9 1), LT.bool]
abbrev TyEnts (l : List (List AVal)) : Prop := Ty Try.prog (.sl 78 12) (.ro 12 l)
abbrev TyPlayers (l : List (List AVal)) : Prop := Ty Try.prog (.sl 68 6) (.ro 6 l)
theorem okEnts {l : List (List AVal)} (h : TyEnts l) : okR entT l := okR_of (by kernel_rfl) h
theorem okPlayers {l : List (List AVal)} (h : TyPlayers l) : okR plT l := okR_of (by kernel_rfl) h
theorem ent_row {us : List (List AVal)} {q : List AVal} (h : TyEnts us) (hq : q ∈ us) : TyL Try.prog entT q := by
  have := (ty_rows h).2.1 q hq
  rwa [show leafOf Try.prog 8 78 = entT by kernel_rfl] at this
theorem pl_row {us : List (List AVal)} {q : List AVal} (h : TyPlayers us) (hq : q ∈ us) : TyL Try.prog plT q := by
  have := (ty_rows h).2.1 q hq
  rwa [show leafOf Try.prog 8 68 = plT by kernel_rfl] at this
abbrev ET := Int × Int × ByteArray × Int × Int × Int × Int × Int × Int × Int × List (List AVal) × List (List AVal) × Bool
def enT (r : List AVal) : ET := (cI r 0, cI r 1, cS r 2, cI r 3, cI r 4, cI r 5, cI r 6, cI r 7, cI r 8, cI r 9, cR r 10, cR r 11, true)
def zE : ET := (0, 0, ⟨#[]⟩, 0, 0, 0, 0, 0, 0, 0, [], [], false)
def enV (es : List (List AVal)) (id : Int) : ET := fdV es (fun r => cI r 0 == id) (fun k => enT (es.getD k [])) zE
theorem ent_r (es : List (List AVal)) (id : Int) (h : TyEnts es) : F_skirmishref21_Find es id = some (enV es id) := by
  have hm : maxLen = 9223372036854775807 := by decide
  have key := find_loop (fun m i => G_skirmishref21_Find_0 es id m i) es (fun r => cI r 0 == id) (fun k => let r := es.getD k []; (true, cI r 0, cI r 1, cS r 2, cI r 3, cI r 4, cI r 5, cI r 6, cI r 7, cI r 8, cI r 9, cR r 10, cR r 11)) (false, 0, 0, ⟨#[]⟩, 0, 0, 0, 0, 0, 0, 0, [], []) (ty_rows h).1
    (fun m k hk => by
      obtain ⟨q1, q2, _⟩ := okR_get (okEnts h) hk
      have hl := (ty_rows h).1
      have d1 : (k : Int) < es.length := by omega
      have d2 : (0 : Int) ≤ k := by omega
      simp only [G_skirmishref21_Find_0, Int.ofNat_eq_natCast, d1, d2, decide_true, cond_true, Int.toNat_natCast, q1, q2, Option.bind_some, wr_next hk (by omega)])
    (fun m => by
      have d1 : ¬ (es.length : Int) < es.length := by omega
      simp only [G_skirmishref21_Find_0, Int.ofNat_eq_natCast, d1, decide_false, cond_false])
  have key' : G_skirmishref21_Find_0 es id FU 0 = _ := key
  simp only [F_skirmishref21_Find, key', Option.bind_some]
  unfold enV fdV
  cases es.findIdx? (fun r => cI r 0 == id) <;> rfl
theorem clone_o {l : List (List AVal)} (h : Ty Try.prog (.sl 114 5) (.ro 5 l)) : F_slices_Clone_Order l = some l := by
  have hb := (ty_rows h).2.2
  rw [show Try.prog.bytesOf 114 = 48 by kernel_rfl] at hb
  simp only [reachBytes] at hb
  have r : roomOk (0 + l.length) 48 = true := by simp [roomOk]; omega
  simp only [F_slices_Clone_Order, F_slices_Clone_Order_ne, r, cond_true]
  cases l <;> rfl
theorem clone_j {l : List (List AVal)} (h : Ty Try.prog (.sl 117 3) (.ro 3 l)) : F_slices_Clone_Job l = some l := by
  have hb := (ty_rows h).2.2
  rw [show Try.prog.bytesOf 117 = 32 by kernel_rfl] at hb
  simp only [reachBytes] at hb
  have r : roomOk (0 + l.length) 32 = true := by simp [roomOk]; omega
  simp only [F_slices_Clone_Job, F_slices_Clone_Job_ne, r, cond_true]
  cases l <;> rfl
theorem ent_g (es : List (List AVal)) (id : Int) (h : TyEnts es) : F_entity_Find es id = some (enV es id) := by
  have hm : maxLen = 9223372036854775807 := by decide
  have hl := (ty_rows h).1
  have key := find_loop (fun m i => G_slices_IndexFunc_Entity_0 es id es.length m i) es (fun r => cI r 0 == id) (fun k => (true, (k : Int))) (false, 0) (ty_rows h).1
    (fun m k hk => by
      obtain ⟨q1, q2, _⟩ := okR_get (okEnts h) hk
      have d1 : (k : Int) < es.length := by omega
      have d2 : (0 : Int) ≤ k := by omega
      simp only [G_slices_IndexFunc_Entity_0, F_entity_find_1, d1, d2, decide_true, cond_true, Int.toNat_natCast, q1, q2, Option.bind_some, wr_next hk (by omega)])
    (fun m => by
      have d1 : ¬ (es.length : Int) < es.length := by omega
      simp only [G_slices_IndexFunc_Entity_0, d1, decide_false, cond_false])
  have key' : G_slices_IndexFunc_Entity_0 es id es.length FU 0 = _ := key
  simp only [F_entity_Find, F_entity_find, F_slices_IndexFunc_Entity, Int.ofNat_eq_natCast, key', Option.bind_some]
  unfold enV fdV
  cases hf : es.findIdx? (fun r => cI r 0 == id) with
  | none =>
    simp only [cond_false, Option.bind_some, show (-1 : Int) < 0 by omega, decide_true, cond_true]
    rfl
  | some k =>
    have hk := (fd_lt hf).1
    obtain ⟨q1, q2, q3⟩ := okR_get (okEnts h) hk
    have hr := ent_row (us := es) h q3
    have c1 := clone_o (tyL_sl hr (j := 10) rfl)
    have c2 := clone_j (tyL_sl hr (j := 11) rfl)
    have d1 : ¬ (k : Int) < 0 := by omega
    have d2 : (0 : Int) ≤ k := by omega
    simp only [cond_true, Option.bind_some, d1, d2, decide_false, decide_true, cond_false, Int.toNat_natCast, q1, q2, F_entity_clone, roRows, c1, c2]
    rfl

/-! ### Players -/
def plV (ps : List (List AVal)) (id : Int) : List (List AVal) := fdV ps (fun r => cI r 0 == id) (fun k => cR (ps.getD k []) 4) []
theorem techs_r (turn next win : Int) (pause : Bool) (rng : Int) (us ws ts : List (List AVal)) (mw mh : Int) (cells ps es shots mems scripts : List (List AVal)) (id : Int) (h : TyPlayers ps) :
    F_skirmishref22_Techs turn next win pause rng us ws ts mw mh cells ps es shots mems scripts id = some (plV ps id) := by
  have hm : maxLen = 9223372036854775807 := by decide
  have key := find_loop (fun m i => G_skirmishref22_Player_0 id ps m i) ps (fun r => cI r 0 == id) (fun k => let r := ps.getD k []; (true, cI r 0, cI r 1, cI r 2, cI r 3, cR r 4, cB r 5)) (false, 0, 0, 0, 0, [], false) (ty_rows h).1
    (fun m k hk => by
      obtain ⟨q1, q2, _⟩ := okR_get (okPlayers h) hk
      have hl := (ty_rows h).1
      have d1 : (k : Int) < ps.length := by omega
      have d2 : (0 : Int) ≤ k := by omega
      simp only [G_skirmishref22_Player_0, Int.ofNat_eq_natCast, d1, d2, decide_true, cond_true, Int.toNat_natCast, q1, q2, Option.bind_some, wr_next hk (by omega)])
    (fun m => by
      have d1 : ¬ (ps.length : Int) < ps.length := by omega
      simp only [G_skirmishref22_Player_0, Int.ofNat_eq_natCast, d1, decide_false, cond_false])
  have key' : G_skirmishref22_Player_0 id ps FU 0 = _ := key
  simp only [F_skirmishref22_Techs, F_skirmishref22_Player, key', Option.bind_some]
  unfold plV fdV
  cases ps.findIdx? (fun r => cI r 0 == id) <;> rfl
theorem plV_names (ps : List (List AVal)) (id : Int) (h : TyPlayers ps) : TyNames (plV ps id) := by
  unfold plV fdV
  cases hf : ps.findIdx? (fun r => cI r 0 == id) with
  | none => exact names_nil
  | some k =>
    obtain ⟨_, _, q3⟩ := okR_get (okPlayers h) (fd_lt hf).1
    exact tyL_sl (pl_row (us := ps) h q3) (j := 4) rfl
theorem index_p (ps : List (List AVal)) (a b : Int) (c : ByteArray) (d e f g i j k : Int) (l m : List (List AVal)) (h : TyPlayers ps) :
    F_slices_IndexFunc_Player ps a b c d e f g i j k l m = some (fdV ps (fun r => cI r 0 == b) (fun k => (k : Int)) (-1)) := by
  have hm : maxLen = 9223372036854775807 := by decide
  have hl := (ty_rows h).1
  have key := find_loop (fun q x => G_slices_IndexFunc_Player_0 ps a b c d e f g i j k l m ps.length q x) ps (fun r => cI r 0 == b) (fun k => (true, (k : Int))) (false, 0) (ty_rows h).1
    (fun m k hk => by
      obtain ⟨q1, q2, _⟩ := okR_get (okPlayers h) hk
      have d1 : (k : Int) < ps.length := by omega
      have d2 : (0 : Int) ≤ k := by omega
      simp only [G_slices_IndexFunc_Player_0, F_upgrade_Of_1, d1, d2, decide_true, cond_true, Int.toNat_natCast, q1, q2, Option.bind_some, wr_next hk (by omega)])
    (fun m => by
      have d1 : ¬ (ps.length : Int) < ps.length := by omega
      simp only [G_slices_IndexFunc_Player_0, d1, decide_false, cond_false])
  have key' : G_slices_IndexFunc_Player_0 ps a b c d e f g i j k l m ps.length FU 0 = _ := key
  simp only [F_slices_IndexFunc_Player, Int.ofNat_eq_natCast, key', Option.bind_some]
  unfold fdV
  cases ps.findIdx? (fun r => cI r 0 == b) <;> rfl

/-! ### The law -/
def ofV (us ts ps es : List (List AVal)) (id : Int) : UT := fdV es (fun r => cI r 0 == id) (fun k => let e := es.getD k []; eV us ts (plV ps (cI e 1)) (cS e 2)) zT
section
variable (turn next win : Int) (pause : Bool) (rng : Int) (us ws ts : List (List AVal)) (mw mh : Int) (cells ps es shots mems scripts : List (List AVal)) (id : Int)
theorem of_r (h1 : TyUnits us) (h3 : TyTechs ts) (hn : ts.length ≤ 1000000) (hp : TyPlayers ps) (he : TyEnts es) : F_skirmishref22_Of turn next win pause rng us ws ts mw mh cells ps es shots mems scripts id = some (ofV us ts ps es id) := by
  simp only [F_skirmishref22_Of, ent_r es id he, Option.bind_some]
  unfold ofV enV fdV
  cases es.findIdx? (fun r => cI r 0 == id) with
  | none => rfl
  | some k =>
    obtain ⟨p1, p2⟩ := okNames (plV_names ps (cI (es.getD k []) 1) hp)
    simp only [enT, Bool.not_true, cond_false, techs_r turn next win pause rng us ws ts mw mh cells ps es shots mems scripts _ hp, Option.bind_some, type_r us ws ts _ _ h1 (okTechs h3) hn p1 p2]
theorem of_g (h1 : TyUnits us) (h3 : TyTechs ts) (hn : ts.length ≤ 1000000) (hp : TyPlayers ps) (he : TyEnts es) : F_upgrade_Of turn next win pause rng us ws ts mw mh cells ps es shots mems scripts id = some (gOf (ofV us ts ps es id)) := by
  simp only [F_upgrade_Of, ent_g es id he, Option.bind_some]
  unfold ofV enV
  unfold fdV
  cases es.findIdx? (fun r => cI r 0 == id) with
  | none => rfl
  | some k =>
    simp only [enT, Bool.not_true, cond_false, index_p ps _ _ _ _ _ _ _ _ _ _ _ _ hp, Option.bind_some]
    unfold plV fdV
    cases hf : ps.findIdx? (fun r => cI r 0 == cI (es.getD k []) 1) with
    | none =>
      obtain ⟨p1, p2⟩ := okNames names_nil
      simp only [show ¬ (-1 : Int) ≥ 0 by omega, decide_false, cond_false, type_g us ws ts _ _ h1 (okTechs h3) hn p1 p2, Option.bind_some]
    | some j =>
      obtain ⟨q1, q2, q3⟩ := okR_get (okPlayers hp) (fd_lt hf).1
      obtain ⟨p1, p2⟩ := okNames (tyL_sl (pl_row (us := ps) hp q3) (j := 4) rfl)
      have d2 : (0 : Int) ≤ j := by omega
      have d1 : (j : Int) ≥ 0 := by omega
      simp only [d1, d2, decide_true, cond_true, Int.toNat_natCast, q1, q2, Option.bind_some, roRows, type_g us ws ts _ _ h1 (okTechs h3) hn p1 p2]
theorem ofV_names (h1 : TyUnits us) : TyNames (ofV us ts ps es id).2.2.2.2.2.2.2.2.2.2.2.2.2.2.2.2.1 ∧ TyNames (ofV us ts ps es id).2.2.2.2.2.2.2.2.2.2.2.2.2.2.2.2.2.1 ∧ TyNames (ofV us ts ps es id).2.2.2.2.2.2.2.2.2.2.2.2.2.2.2.2.2.2.1 := by
  unfold ofV fdV
  cases es.findIdx? (fun r => cI r 0 == id) with
  | none => exact ⟨names_nil, names_nil, names_nil⟩
  | some k => exact eV_names us ts _ _ h1
theorem hugeP (hp : TyPlayers ps) : ∃ t, G_skirmishlaw22_UpgradeOf_0 ps FU 0 = some t ∧ (t.1 = true → t.2 = true) := by
  have hm : maxLen = 9223372036854775807 := by decide
  have hl := (ty_rows hp).1
  have key := find_loop (fun m i => G_skirmishlaw22_UpgradeOf_0 ps m i) ps (fun r => (F_skirmishlaw22_huge (cR r 4)).getD false) (fun k => (true, true)) (false, false) hl
    (fun m k hk => by
      obtain ⟨q1, q2, q3⟩ := okR_get (okPlayers hp) hk
      have d1 : (k : Int) < ps.length := by omega
      have d2 : (0 : Int) ≤ k := by omega
      obtain ⟨p1, p2⟩ := okNames (tyL_sl (pl_row (us := ps) hp q3) (j := 4) rfl)
      obtain ⟨b, hb, _⟩ := huge_l _ p1 p2
      simp only [G_skirmishlaw22_UpgradeOf_0, Int.ofNat_eq_natCast, d1, d2, decide_true, cond_true, Int.toNat_natCast, q1, q2, Option.bind_some, wr_next hk (by omega), roRows, hb, awake22, Option.getD_some])
    (fun m => by
      have d1 : ¬ (ps.length : Int) < ps.length := by omega
      simp only [G_skirmishlaw22_UpgradeOf_0, Int.ofNat_eq_natCast, d1, decide_false, cond_false])
  have key' : G_skirmishlaw22_UpgradeOf_0 ps FU 0 = _ := key
  refine ⟨_, key', ?_⟩
  unfold fdV
  cases ps.findIdx? (fun r => (F_skirmishlaw22_huge (cR r 4)).getD false) with
  | none => intro h; cases h
  | some k => intro _; rfl
theorem pure_UpgradeOf (w0 : wf .i64 turn) (w1 : wf .i64 next) (w2 : wf .i64 win) (w4 : wf .u64 rng) (h1 : TyUnits us) (h2 : TyWeapons ws) (h3 : TyTechs ts) (w8 : wf .i64 mw) (w9 : wf .i64 mh) (w10 : Ty Try.prog (.sl 135 3) (.ro 3 cells))
    (hp : TyPlayers ps) (he : TyEnts es) (w13 : Ty Try.prog (.sl 137 9) (.ro 9 shots)) (w14 : Ty Try.prog (.sl 141 3) (.ro 3 mems)) (w15 : Ty Try.prog (.sl 148 4) (.ro 4 scripts)) (w16 : wf .i64 id) :
    F_skirmishlaw22_UpgradeOf turn next win pause rng us ws ts mw mh cells ps es shots mems scripts id = some true := by
  obtain ⟨b1, e1, l1⟩ := huge10 h1 h2 h3
  simp only [F_skirmishlaw22_UpgradeOf, e1, Option.bind_some, awake22, Int.ofNat_eq_natCast]
  cases b1 with
  | true => rfl
  | false =>
    obtain ⟨m1, m2, m3⟩ := l1 rfl
    generalize decide ((es.length : Int) > 200) = c1
    cases c1 with
    | true => rfl
    | false =>
    generalize decide ((ps.length : Int) > 100) = c2
    cases c2 with
    | true => rfl
    | false =>
      obtain ⟨t, et, ht⟩ := hugeP ps hp
      have s1 := same_g _ (ofV_names us ts ps es id h1)
      simp only at s1
      simp only [cond_false, et, Option.bind_some]
      cases h0 : t.1 with
      | true => simp only [cond_true, ht h0]
      | false =>
        simp only [cond_false, of_g turn next win pause rng us ws ts mw mh cells ps es shots mems scripts id h1 h3 (by omega) hp he, of_r turn next win pause rng us ws ts mw mh cells ps es shots mems scripts id h1 h3 (by omega) hp he, Option.bind_some, ok_g, beq_self_eq_true, cond_true, s1]
end
end Go.Proofs.Ytiplnalnahmdgaa.AI
