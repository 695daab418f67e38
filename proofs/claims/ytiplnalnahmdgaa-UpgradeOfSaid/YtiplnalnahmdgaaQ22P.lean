/- Chapter 22: the laws on effective types and weapons. -/
import Derived.Test.YtiplnalnahmdgaaQ22O
namespace Go.Proofs.Ytiplnalnahmdgaa.AI
open Go.RowKit
set_option linter.unusedVariables false
set_option linter.unusedSimpArgs false
set_option maxRecDepth 20000

/-! ### Types -/
abbrev GT := List (List AVal) × List (List AVal) × List (List AVal) × ByteArray × Bool × Bool × Int × Int × Int × Int × Int × Int × Int × Int × Int × ByteArray × Int × Int × Int × Bool
/-- A unit's answer as the program orders it. -/
def gOf (x : UT) : GT := match x with | (n, b, d, c, w, h, r, sp, si, hp, ar, lo, we, ore, wo, ti, ne, tr, re, ok) => (ne, tr, re, n, b, d, c, w, h, r, sp, si, hp, ar, lo, we, ore, wo, ti, ok)
def eT (ts techs : List (List AVal)) (u : ByteArray) (r : List AVal) : UT :=
  (cS r 0, cB r 1, cB r 2, cI r 3, cI r 4, cI r 5, cI r 6, rs (cI r 7) (sumN (hasN techs) u 3 ts ts.length) 0 256, rs (cI r 8) (sumN (hasN techs) u 4 ts ts.length) 0 16, rs (cI r 9) (sumN (hasN techs) u 1 ts ts.length) 1 100000, rs (cI r 10) (sumN (hasN techs) u 2 ts ts.length) 0 100000, cI r 11, cS r 12, cI r 13, cI r 14, cI r 15, cR r 16, cR r 17, cR r 18, true)
def eV (us ts techs : List (List AVal)) (u : ByteArray) : UT := fdV us (fun r => seq (cS r 0) u) (fun k => eT ts techs u (us.getD k [])) zT
theorem rules_unit (us ws ts : List (List AVal)) (n : ByteArray) (h : TyUnits us) : F_rules_Unit us ws ts n = some (gOf (uV us n)) := by
  obtain ⟨p1, p2, p3⟩ := uV_names us n h
  simp only [F_rules_Unit, unit_g us n h, Option.bind_some, F_rules_cloneUnit, clone_n p1, clone_n p2, clone_n p3]
  rfl
theorem type_g (us ws ts techs : List (List AVal)) (u : ByteArray) (h : TyUnits us) (hts : okR techT ts) (hn : ts.length ≤ 1000000) (hl : okR [.str] techs) (hm : techs.length ≤ maxLen) :
    F_upgrade_Type us ws ts techs u = some (gOf (eV us ts techs u)) := by
  simp only [F_upgrade_Type, rules_unit us ws ts u h, Option.bind_some, F_upgrade_newRaiser, raise_g us ws ts techs u _ _ _ _ hts hn hl hm]
  unfold eV uV fdV
  cases us.findIdx? (fun r => seq (cS r 0) u) <;> rfl
theorem type_r (us ws ts techs : List (List AVal)) (u : ByteArray) (h : TyUnits us) (hts : okR techT ts) (hn : ts.length ≤ 1000000) (hl : okR [.str] techs) (hm : techs.length ≤ maxLen) :
    F_skirmishref22_Type us ws ts techs u = some (eV us ts techs u) := by
  have b (st : Int) := sumN_in (hasN techs) u st ts ts.length (by omega)
  have w (n st lo hi : Int) (h2 : 0 ≤ lo) (h3 : lo ≤ hi) (h4 : hi ≤ 100000) : F_skirmishref22_with n (sumN (hasN techs) u st ts ts.length) lo hi = some (rs n (sumN (hasN techs) u st ts ts.length) lo hi) :=
    with_r n _ lo hi (by have := b st; omega) h2 h3 h4
  simp only [F_skirmishref22_Type, unit_r us ws ts u h, Option.bind_some, stat_r us ws ts techs u _ hts hn hl hm, w _ 1 1 100000 (by omega) (by omega) (by omega), w _ 2 0 100000 (by omega) (by omega) (by omega), w _ 3 0 256 (by omega) (by omega) (by omega), w _ 4 0 16 (by omega) (by omega) (by omega)]
  unfold eV uV fdV
  cases us.findIdx? (fun r => seq (cS r 0) u) <;> rfl
theorem eV_names (us ts techs : List (List AVal)) (n : ByteArray) (h1 : TyUnits us) : TyNames (eV us ts techs n).2.2.2.2.2.2.2.2.2.2.2.2.2.2.2.2.1 ∧ TyNames (eV us ts techs n).2.2.2.2.2.2.2.2.2.2.2.2.2.2.2.2.2.1 ∧ TyNames (eV us ts techs n).2.2.2.2.2.2.2.2.2.2.2.2.2.2.2.2.2.2.1 := by
  unfold eV fdV
  cases hf : us.findIdx? (fun r => seq (cS r 0) n) with
  | none => exact ⟨names_nil, names_nil, names_nil⟩
  | some k =>
    obtain ⟨_, _, q3⟩ := okR_get (okUnits h1) (fd_lt hf).1
    have hr := unit_row (r := us) h1 q3
    exact ⟨tyL_sl hr (j := 16) rfl, tyL_sl hr (j := 17) rfl, tyL_sl hr (j := 18) rfl⟩
theorem sumN_none (u : ByteArray) (st : Int) (ts : List (List AVal)) : ∀ k, k ≤ ts.length → sumN (hasN []) u st ts k = 0
  | 0, _ => rfl
  | k + 1, h => by
    rw [sumN_succ _ _ _ _ (by omega), sumN_none u st ts k (by omega)]
    unfold tadd
    simp [hasN]
theorem rs_zero {n lo hi : Int} (h1 : lo ≤ n) (h2 : n ≤ hi) (h3 : 0 ≤ lo) (h4 : hi ≤ 100000) : rs n 0 lo hi = n := by
  unfold rs
  omega
/-- Without technologies, and with numbers in their ranges, a unit is what it is. -/
theorem eV_nil (us ts : List (List AVal)) (u : ByteArray) (h : ∀ k, k < us.length → goodU (us.getD k [])) : eV us ts [] u = uV us u := by
  unfold eV uV fdV
  cases hf : us.findIdx? (fun r => seq (cS r 0) u) with
  | none => rfl
  | some k =>
    obtain ⟨g1, g2, g3, g4⟩ := h k (fd_lt hf).1
    show eT ts [] u (us.getD k []) = uT (us.getD k [])
    unfold eT uT
    rw [sumN_none u 1 ts _ (by omega), sumN_none u 2 ts _ (by omega), sumN_none u 3 ts _ (by omega), sumN_none u 4 ts _ (by omega), rs_zero g4.1 g4.2 (by omega) (by omega), rs_zero g1.1 g1.2 (by omega) (by omega), rs_zero g2.1 g2.2 (by omega) (by omega), rs_zero g3.1 g3.2 (by omega) (by omega)]
theorem same_g (x : UT) (h : TyNames x.2.2.2.2.2.2.2.2.2.2.2.2.2.2.2.2.1 ∧ TyNames x.2.2.2.2.2.2.2.2.2.2.2.2.2.2.2.2.2.1 ∧ TyNames x.2.2.2.2.2.2.2.2.2.2.2.2.2.2.2.2.2.2.1) :
    (let t4 := gOf x; let t5 := x; F_skirmishref09_SameUnit t4.2.2.2.1 t4.2.2.2.2.1 t4.2.2.2.2.2.1 t4.2.2.2.2.2.2.1 t4.2.2.2.2.2.2.2.1 t4.2.2.2.2.2.2.2.2.1 t4.2.2.2.2.2.2.2.2.2.1 t4.2.2.2.2.2.2.2.2.2.2.1 t4.2.2.2.2.2.2.2.2.2.2.2.1 t4.2.2.2.2.2.2.2.2.2.2.2.2.1 t4.2.2.2.2.2.2.2.2.2.2.2.2.2.1 t4.2.2.2.2.2.2.2.2.2.2.2.2.2.2.1 t4.2.2.2.2.2.2.2.2.2.2.2.2.2.2.2.1 t4.2.2.2.2.2.2.2.2.2.2.2.2.2.2.2.2.1 t4.2.2.2.2.2.2.2.2.2.2.2.2.2.2.2.2.2.1 t4.2.2.2.2.2.2.2.2.2.2.2.2.2.2.2.2.2.2.1 t4.1 t4.2.1 t4.2.2.1 t5.1 t5.2.1 t5.2.2.1 t5.2.2.2.1 t5.2.2.2.2.1 t5.2.2.2.2.2.1 t5.2.2.2.2.2.2.1 t5.2.2.2.2.2.2.2.1 t5.2.2.2.2.2.2.2.2.1 t5.2.2.2.2.2.2.2.2.2.1 t5.2.2.2.2.2.2.2.2.2.2.1 t5.2.2.2.2.2.2.2.2.2.2.2.1 t5.2.2.2.2.2.2.2.2.2.2.2.2.1 t5.2.2.2.2.2.2.2.2.2.2.2.2.2.1 t5.2.2.2.2.2.2.2.2.2.2.2.2.2.2.1 t5.2.2.2.2.2.2.2.2.2.2.2.2.2.2.2.1 t5.2.2.2.2.2.2.2.2.2.2.2.2.2.2.2.2.1 t5.2.2.2.2.2.2.2.2.2.2.2.2.2.2.2.2.2.1 t5.2.2.2.2.2.2.2.2.2.2.2.2.2.2.2.2.2.2.1) = some true := by
  obtain ⟨n, b, d, c, w, h', r, sp, si, hp, ar, lo, we, ore, wo, ti, ne, tr, re, ok⟩ := x
  exact same_u n b d c w h' r sp si hp ar lo we ore wo ti ne tr re h.1 h.2.1 h.2.2
theorem ok_g (x : UT) : (gOf x).2.2.2.2.2.2.2.2.2.2.2.2.2.2.2.2.2.2.2 = x.2.2.2.2.2.2.2.2.2.2.2.2.2.2.2.2.2.2.2 := by
  obtain ⟨n, b, d, c, w, h', r, sp, si, hp, ar, lo, we, ore, wo, ti, ne, tr, re, ok⟩ := x
  rfl

/-! ### The laws -/
section
variable (us ws ts techs : List (List AVal))
theorem pure_UpgradeTypes (u : ByteArray) (h1 : TyUnits us) (h2 : TyWeapons ws) (h3 : TyTechs ts) (h4 : TyNames techs) (h5 : u.size ≤ reachBytes) : F_skirmishlaw22_UpgradeTypes us ws ts techs u = some true := by
  obtain ⟨b1, e1, l1⟩ := huge10 h1 h2 h3
  obtain ⟨o1, o2⟩ := okNames h4
  obtain ⟨b2, e2, l2⟩ := huge_l techs o1 o2
  simp only [F_skirmishlaw22_UpgradeTypes, e1, e2, Option.bind_some, awake22]
  cases b1 with
  | true => rfl
  | false =>
    cases b2 with
    | true => rfl
    | false =>
      obtain ⟨m1, m2, m3⟩ := l1 rfl
      obtain ⟨v, ev, hv⟩ := validate_s us ws ts h1 h2 h3 m1 m2 m3
      obtain ⟨p1, p2⟩ := okNames names_nil
      have s1 := same_g _ (eV_names us ts techs u h1)
      simp only at s1
      simp only [cond_false, type_g us ws ts techs u h1 (okTechs h3) (by omega) o1 o2, type_r us ws ts techs u h1 (okTechs h3) (by omega) o1 o2, type_g us ws ts [] u h1 (okTechs h3) (by omega) p1 p2, unit_r us ws ts u h1, ev, Option.bind_some, ok_g, beq_self_eq_true, Bool.not_true, s1]
      by_cases hz : v = 0
      · have hg := (hv hz).2.1
        have s2 := same_g _ (uV_names us u h1)
        simp only at s2
        rw [eV_nil us ts u hg]
        simp only [hz, bne_self_eq_false, cond_false, ok_g, beq_self_eq_true, cond_true, s2, Option.bind_some]
      · have : (v != 0) = true := by simpa using hz
        simp only [this, cond_true]
end

/-! ### Weapons -/
theorem ba_self (a : ByteArray) : (a == a) = true := by
  obtain ⟨d⟩ := a
  exact beq_self_eq_true d
abbrev WT := ByteArray × Int × Int × Int × Int × Int × Bool
def wT (r : List AVal) : WT := (cS r 0, cI r 1, cI r 2, cI r 3, cI r 4, cI r 5, true)
def zW : WT := (⟨#[]⟩, 0, 0, 0, 0, 0, false)
def wV (ws : List (List AVal)) (n : ByteArray) : WT := fdV ws (fun r => seq (cS r 0) n) (fun k => wT (ws.getD k [])) zW
theorem weap_g (us ws ts : List (List AVal)) (n : ByteArray) (h : TyWeapons ws) : F_rules_Weapon us ws ts n = some (wV ws n) := by
  have hm : maxLen = 9223372036854775807 := by decide
  have key := find_loop (fun m i => G_rules_find_Weapon_0 n ws ws.length m i) ws (fun r => seq (cS r 0) n) (fun k => let r := ws.getD k []; (true, cS r 0, cI r 1, cI r 2, cI r 3, cI r 4, cI r 5)) (false, ⟨#[]⟩, 0, 0, 0, 0, 0) (ty_rows h).1
    (fun m k hk => by
      obtain ⟨q1, q2, _⟩ := okR_get (okWeapons h) hk
      have hl := (ty_rows h).1
      have d1 : (k : Int) < ws.length := by omega
      have d2 : (0 : Int) ≤ k := by omega
      simp only [G_rules_find_Weapon_0, F_rules_weaponName, d1, d2, decide_true, cond_true, Int.toNat_natCast, q1, q2, Option.bind_some, wr_next hk (by omega)]
      rfl)
    (fun m => by
      have d1 : ¬ (ws.length : Int) < ws.length := by omega
      simp only [G_rules_find_Weapon_0, d1, decide_false, cond_false])
  have key' : G_rules_find_Weapon_0 n ws ws.length FU 0 = _ := key
  simp only [F_rules_Weapon, F_rules_find_Weapon, Int.ofNat_eq_natCast, key', Option.bind_some]
  unfold wV fdV
  cases ws.findIdx? (fun r => seq (cS r 0) n) <;> rfl
theorem weap_r (us ws ts : List (List AVal)) (n : ByteArray) (h : TyWeapons ws) : F_skirmishref09_Weapon us ws ts n = some (wV ws n) := by
  have hm : maxLen = 9223372036854775807 := by decide
  have key := find_loop (fun m i => G_skirmishref09_Weapon_0 n ws m i) ws (fun r => seq (cS r 0) n) (fun k => let r := ws.getD k []; (true, cS r 0, cI r 1, cI r 2, cI r 3, cI r 4, cI r 5)) (false, ⟨#[]⟩, 0, 0, 0, 0, 0) (ty_rows h).1
    (fun m k hk => by
      obtain ⟨q1, q2, _⟩ := okR_get (okWeapons h) hk
      have hl := (ty_rows h).1
      have d1 : (k : Int) < ws.length := by omega
      have d2 : (0 : Int) ≤ k := by omega
      simp only [G_skirmishref09_Weapon_0, Int.ofNat_eq_natCast, d1, d2, decide_true, cond_true, Int.toNat_natCast, q1, q2, Option.bind_some, wr_next hk (by omega)]
      rfl)
    (fun m => by
      have d1 : ¬ (ws.length : Int) < ws.length := by omega
      simp only [G_skirmishref09_Weapon_0, Int.ofNat_eq_natCast, d1, decide_false, cond_false])
  have key' : G_skirmishref09_Weapon_0 n ws FU 0 = _ := key
  simp only [F_skirmishref09_Weapon, key', Option.bind_some]
  unfold wV fdV
  cases ws.findIdx? (fun r => seq (cS r 0) n) <;> rfl
def ewT (ts techs : List (List AVal)) (u : ByteArray) (r : List AVal) : WT := (cS r 0, rs (cI r 1) (sumN (hasN techs) u 6 ts ts.length) 0 8192, rs (cI r 2) (sumN (hasN techs) u 5 ts ts.length) 0 100000, cI r 3, cI r 4, cI r 5, true)
def ewV (us ws ts techs : List (List AVal)) (u : ByteArray) : WT := fdV us (fun r => seq (cS r 0) u) (fun k => fdV ws (fun r => seq (cS r 0) (cS (us.getD k []) 12)) (fun j => ewT ts techs u (ws.getD j [])) zW) zW
theorem weapon_g (us ws ts techs : List (List AVal)) (u : ByteArray) (h : TyUnits us) (h2 : TyWeapons ws) (hts : okR techT ts) (hn : ts.length ≤ 1000000) (hl : okR [.str] techs) (hm : techs.length ≤ maxLen) :
    F_upgrade_Weapon us ws ts techs u = some (ewV us ws ts techs u) := by
  simp only [F_upgrade_Weapon, rules_unit us ws ts u h, Option.bind_some, F_upgrade_newRaiser, raise_g us ws ts techs u _ _ _ _ hts hn hl hm, weap_g us ws ts _ h2]
  unfold ewV uV fdV
  cases us.findIdx? (fun r => seq (cS r 0) u) with
  | none => rfl
  | some k =>
    simp only [gOf, uT, Bool.not_true, cond_false]
    unfold wV fdV
    cases ws.findIdx? (fun r => seq (cS r 0) (cS (us.getD k []) 12)) <;> rfl
theorem weapon_r (us ws ts techs : List (List AVal)) (u : ByteArray) (h : TyUnits us) (h2 : TyWeapons ws) (hts : okR techT ts) (hn : ts.length ≤ 1000000) (hl : okR [.str] techs) (hm : techs.length ≤ maxLen) :
    F_skirmishref22_Weapon us ws ts techs u = some (ewV us ws ts techs u) := by
  have b (st : Int) := sumN_in (hasN techs) u st ts ts.length (by omega)
  have w (n st lo hi : Int) (h2 : 0 ≤ lo) (h3 : lo ≤ hi) (h4 : hi ≤ 100000) : F_skirmishref22_with n (sumN (hasN techs) u st ts ts.length) lo hi = some (rs n (sumN (hasN techs) u st ts ts.length) lo hi) :=
    with_r n _ lo hi (by have := b st; omega) h2 h3 h4
  simp only [F_skirmishref22_Weapon, unit_r us ws ts u h, weap_r us ws ts _ h2, Option.bind_some, stat_r us ws ts techs u _ hts hn hl hm, w _ 5 0 100000 (by omega) (by omega) (by omega), w _ 6 0 8192 (by omega) (by omega) (by omega)]
  unfold ewV uV fdV
  cases us.findIdx? (fun r => seq (cS r 0) u) with
  | none => rfl
  | some k =>
    simp only [uT, Bool.not_true, cond_false]
    unfold wV fdV
    cases ws.findIdx? (fun r => seq (cS r 0) (cS (us.getD k []) 12)) <;> rfl
theorem ewV_nil (us ws ts : List (List AVal)) (u : ByteArray) (hw : ∀ r ∈ ws, 1 ≤ (cS r 0).size) (h : ∀ k, k < ws.length → goodW (ws.getD k [])) : ewV us ws ts [] u = wV ws (uV us u).2.2.2.2.2.2.2.2.2.2.2.2.1 := by
  unfold ewV uV
  unfold fdV
  cases hf : us.findIdx? (fun r => seq (cS r 0) u) with
  | none =>
    show zW = wV ws ⟨#[]⟩
    unfold wV fdV
    cases hg : ws.findIdx? (fun r => seq (cS r 0) ⟨#[]⟩) with
    | none => rfl
    | some j =>
      obtain ⟨j1, j2⟩ := fd_lt hg
      have h0 := seq_size j2
      have h1 := hw (ws.getD j []) (by rw [show ws.getD j [] = ws[j] by simp [List.getD, j1]]; exact List.getElem_mem j1)
      rw [h0] at h1
      exact absurd h1 (by decide)
  | some k =>
    show _ = wV ws (cS (us.getD k []) 12)
    unfold wV fdV
    show (match ws.findIdx? (fun r => seq (cS r 0) (cS (us.getD k []) 12)) with | some k => ewT ts [] u (ws.getD k []) | none => zW) = _
    cases hg : ws.findIdx? (fun r => seq (cS r 0) (cS (us.getD k []) 12)) with
    | none => rfl
    | some j =>
      obtain ⟨g1, g2⟩ := h j (fd_lt hg).1
      show ewT ts [] u (ws.getD j []) = wT (ws.getD j [])
      unfold ewT wT
      rw [sumN_none u 5 ts _ (by omega), sumN_none u 6 ts _ (by omega), rs_zero g1.1 g1.2 (by omega) (by omega), rs_zero g2.1 g2.2 (by omega) (by omega)]
section
variable (us ws ts techs : List (List AVal))
theorem pure_UpgradeWeapons (u : ByteArray) (h1 : TyUnits us) (h2 : TyWeapons ws) (h3 : TyTechs ts) (h4 : TyNames techs) (h5 : u.size ≤ reachBytes) : F_skirmishlaw22_UpgradeWeapons us ws ts techs u = some true := by
  obtain ⟨b1, e1, l1⟩ := huge10 h1 h2 h3
  obtain ⟨o1, o2⟩ := okNames h4
  obtain ⟨b2, e2, l2⟩ := huge_l techs o1 o2
  simp only [F_skirmishlaw22_UpgradeWeapons, e1, e2, Option.bind_some, awake22]
  cases b1 with
  | true => rfl
  | false =>
    cases b2 with
    | true => rfl
    | false =>
      obtain ⟨m1, m2, m3⟩ := l1 rfl
      obtain ⟨v, ev, hv⟩ := validate_s us ws ts h1 h2 h3 m1 m2 m3
      obtain ⟨p1, p2⟩ := okNames names_nil
      simp only [cond_false, weapon_g us ws ts techs u h1 h2 (okTechs h3) (by omega) o1 o2, weapon_r us ws ts techs u h1 h2 (okTechs h3) (by omega) o1 o2, weapon_g us ws ts [] u h1 h2 (okTechs h3) (by omega) p1 p2, unit_r us ws ts u h1, weap_r us ws ts _ h2, ev, Option.bind_some, beq_self_eq_true, ba_self, Bool.not_true, cond_false, Bool.and_true]
      by_cases hz : v = 0
      · rw [ewV_nil us ws ts u (hv hz).1 (hv hz).2.2]
        simp only [hz, bne_self_eq_false, cond_false, beq_self_eq_true, ba_self, cond_true, Bool.and_true]
      · have : (v != 0) = true := by simpa using hz
        simp only [this, cond_true]
end
end Go.Proofs.Ytiplnalnahmdgaa.AI
