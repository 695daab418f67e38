/- Chapter 28: paying, receiving, totals. -/
import Derived.Test.YtoiimiohobollaaP
import Derived.Test.YtoiimiohobollaaFd
namespace Go.Proofs.Ytoiimiohobollaa.AI
open Go.RowKit
set_option linter.unusedVariables false
set_option linter.unusedSimpArgs false
set_option maxRecDepth 20000
theorem awake28 : F_skirmishlaw28_awake = some true := by kernel_rfl
abbrev plT : List LT := [(LT.int IntKind.i64), (LT.int IntKind.i64), (LT.int IntKind.i64), (LT.int IntKind.i64), (LT.sl 9 1), LT.bool]
abbrev entT : List LT := [(LT.int IntKind.i64), (LT.int IntKind.i64), LT.str, (LT.int IntKind.i64), (LT.int IntKind.i64), (LT.int IntKind.i64), (LT.int IntKind.i64), (LT.int IntKind.i64), (LT.int IntKind.i64), (LT.int IntKind.i64), (LT.sl 79 5), (LT.sl 122 3)]
abbrev celT : List LT := [(LT.int IntKind.i64), (LT.int IntKind.i64), (LT.int IntKind.i64)]
abbrev TyNames (l : List (List AVal)) : Prop := Ty Try.prog (.sl 9 1) (.ro 1 l)
abbrev TyEnts (l : List (List AVal)) : Prop := Ty Try.prog (.sl 61 12) (.ro 12 l)
abbrev TyPlayers (l : List (List AVal)) : Prop := Ty Try.prog (.sl 42 6) (.ro 6 l)
abbrev TyCells (l : List (List AVal)) : Prop := Ty Try.prog (.sl 63 3) (.ro 3 l)
theorem okNames {l : List (List AVal)} (h : TyNames l) : okR [.str] l ∧ l.length ≤ maxLen := ⟨okR_of (by kernel_rfl) h, (ty_rows h).1⟩
theorem okEnts {l : List (List AVal)} (h : TyEnts l) : okR entT l := okR_of (by kernel_rfl) h
theorem okPlayers {l : List (List AVal)} (h : TyPlayers l) : okR plT l := okR_of (by kernel_rfl) h
theorem okCells {l : List (List AVal)} (h : TyCells l) : okR celT l := okR_of (by kernel_rfl) h
theorem pl_row {us : List (List AVal)} {q : List AVal} (h : TyPlayers us) (hq : q ∈ us) : TyL Try.prog plT q := by
  have := (ty_rows h).2.1 q hq
  rwa [show leafOf Try.prog 8 42 = plT by kernel_rfl] at this

/-! ### Totals -/
def cnt (n : Int) : Int := max 0 (min n 1099511627776)
theorem cnt_in (n : Int) : 0 ≤ cnt n ∧ cnt n ≤ 1099511627776 := by unfold cnt; omega
theorem counted_v (n : Int) : F_economy_counted n = some (cnt n) := by
  simp only [F_economy_counted, F_num_Clamp, maxI_eq, minI_eq, Option.bind_some, cnt]
theorem count_v (n : Int) : F_skirmishref28_count n = some (cnt n) := by
  simp only [F_skirmishref28_count, F_skirmishref01_Clamp, maxI_eq, minI_eq, Option.bind_some, cnt]
theorem add_v (a b o w : Int) (h1 : 0 ≤ o ∧ o ≤ 1152921504606846976) (h2 : 0 ≤ w ∧ w ≤ 1152921504606846976) : F_economy_Total_1 a b o w = some (o + cnt a, w + cnt b) := by
  have ca := cnt_in a
  have cb := cnt_in b
  have d1 : ¬ o > 4611686018427387904 - cnt a := by omega
  have d2 : ¬ w > 4611686018427387904 - cnt b := by omega
  simp only [F_economy_Total_1, counted_v, Option.bind_some, F_economy_pair_plus, F_economy_pair_plus1, wr_in (n := 4611686018427387904 - cnt a) (by omega) (by omega), wr_in (n := 4611686018427387904 - cnt b) (by omega) (by omega),
    d1, d2, decide_false, cond_false, wr_in (n := o + cnt a) (by omega) (by omega), wr_in (n := w + cnt b) (by omega) (by omega)]
def Sm (g : Nat → Int) : Nat → Int
  | 0 => 0
  | n + 1 => Sm g n + g n
theorem Sm_in {g : Nat → Int} (hg : ∀ k, 0 ≤ g k ∧ g k ≤ 1099511627776) : ∀ n, 0 ≤ Sm g n ∧ Sm g n ≤ 1099511627776 * (n : Int)
  | 0 => by simp [Sm]
  | n + 1 => by
    have h := Sm_in hg n
    have := hg n
    simp only [Sm, Int.natCast_add, Int.natCast_one]
    omega
theorem tot_loop (G : Nat → Int → Int → Int → Option (Int × Int)) (n : Nat) (hn : n ≤ 5000) (g1 g2 : Nat → Int) (b1 : ∀ k, 0 ≤ g1 k ∧ g1 k ≤ 1099511627776) (b2 : ∀ k, 0 ≤ g2 k ∧ g2 k ≤ 1099511627776)
    (hstep : ∀ m (k : Nat) o w, k < n → (0 ≤ o ∧ o ≤ 1152921504606846976) → (0 ≤ w ∧ w ≤ 1152921504606846976) → G (m + 1) (k : Int) o w = G m ((k + 1 : Nat) : Int) (o + g1 k) (w + g2 k))
    (hexit : ∀ m o w, G (m + 1) (n : Int) o w = some (o, w)) (o w : Int) (ho : 0 ≤ o ∧ o ≤ 100000000000000000) (hw : 0 ≤ w ∧ w ≤ 100000000000000000) :
    G FU 0 o w = some (o + Sm g1 n, w + Sm g2 n) := by
  have key : ∀ (r m k : Nat), k + r = n → r < m → G m (k : Int) (o + Sm g1 k) (w + Sm g2 k) = some (o + Sm g1 n, w + Sm g2 n) := by
    intro r
    induction r with
    | zero =>
      intro m k e1 e2
      obtain ⟨m, rfl⟩ : ∃ q, m = q + 1 := ⟨m - 1, by omega⟩
      obtain rfl : k = n := by omega
      exact hexit m _ _
    | succ r ih =>
      intro m k e1 e2
      obtain ⟨m, rfl⟩ : ∃ q, m = q + 1 := ⟨m - 1, by omega⟩
      have s1 := Sm_in b1 k
      have s2 := Sm_in b2 k
      rw [hstep m k _ _ (by omega) (by omega) (by omega)]
      have := ih m (k + 1) (by omega) (by omega)
      simp only [Sm] at this
      rw [Int.add_assoc, Int.add_assoc]
      exact this
  have := key n FU 0 (by omega) (by unfold FU; omega)
  simpa [Sm] using this
section
variable (turn next win : Int) (pause : Bool) (rng : Int) (us ws ts : List (List AVal)) (mw mh : Int) (cells ps es shots mems scripts : List (List AVal))
def gO (l : List (List AVal)) (j : Nat) (k : Nat) : Int := cnt (cI (l.getD k []) j)
def cO (q : Int) (l : List (List AVal)) (k : Nat) : Int := bif cI (l.getD k []) 0 == q then cnt (cI (l.getD k []) 2) else 0
theorem gO_in (l : List (List AVal)) (j : Nat) : ∀ k, 0 ≤ gO l j k ∧ gO l j k ≤ 1099511627776 := fun k => cnt_in _
theorem cO_in (q : Int) (l : List (List AVal)) : ∀ k, 0 ≤ cO q l k ∧ cO q l k ≤ 1099511627776 := fun k => by
  unfold cO
  have := cnt_in (cI (l.getD k []) 2)
  cases cI (l.getD k []) 0 == q
  · simp
  · simp only [cond_true]; omega
theorem huge_v : ∃ b, F_skirmishlaw28_huge turn next win pause rng us ws ts mw mh cells ps es shots mems scripts = some b ∧ (b = false → ps.length ≤ 100 ∧ es.length ≤ 200 ∧ cells.length ≤ 2000) := by
  simp only [F_skirmishlaw28_huge, Int.ofNat_eq_natCast]
  by_cases n1 : (ps.length : Int) > 100
  · exact ⟨true, by simp only [n1, decide_true, cond_true], fun h => by cases h⟩
  by_cases n2 : (es.length : Int) > 200
  · exact ⟨true, by simp only [n1, n2, decide_true, decide_false, cond_true, cond_false], fun h => by cases h⟩
  by_cases n3 : (cells.length : Int) > 2000
  · exact ⟨true, by simp only [n1, n2, n3, decide_true, decide_false, cond_true, cond_false], fun h => by cases h⟩
  simp only [n1, n2, n3, decide_false, cond_false]
  cases decide ((shots.length : Int) > 200) <;> cases decide ((mems.length : Int) > 50) <;> exact ⟨_, rfl, fun _ => by omega⟩
theorem total_g (hp : TyPlayers ps) (he : TyEnts es) (hc : TyCells cells) (n1 : ps.length ≤ 100) (n2 : es.length ≤ 200) (n3 : cells.length ≤ 2000) :
    F_economy_Total turn next win pause rng us ws ts mw mh cells ps es shots mems scripts = some (Sm (gO ps 2) ps.length + Sm (gO es 8) es.length + Sm (cO 5 cells) cells.length, Sm (gO ps 3) ps.length + Sm (gO es 9) es.length + Sm (cO 4 cells) cells.length) := by
  have s1 := Sm_in (gO_in ps 2) ps.length
  have s2 := Sm_in (gO_in ps 3) ps.length
  have s3 := Sm_in (gO_in es 8) es.length
  have s4 := Sm_in (gO_in es 9) es.length
  have k1 := tot_loop (fun m i o w => G_economy_Total_0 ps ps.length m i o w) ps.length (by omega) (gO ps 2) (gO ps 3) (gO_in ps 2) (gO_in ps 3)
    (fun m k o w hk ho hw => by
      obtain ⟨q1, q2, _⟩ := okR_get (okPlayers hp) hk
      have d1 : (k : Int) < ps.length := by omega
      have d2 : (0 : Int) ≤ k := by omega
      simp only [G_economy_Total_0, d1, d2, decide_true, cond_true, Int.toNat_natCast, q1, q2, Option.bind_some, wr_next hk (by omega), add_v _ _ o w ho hw]
      rfl)
    (fun m o w => by
      have d1 : ¬ (ps.length : Int) < ps.length := by omega
      simp only [G_economy_Total_0, d1, decide_false, cond_false]) 0 0 (by omega) (by omega)
  have k2 := tot_loop (fun m i o w => G_economy_Total_1 es es.length m i o w) es.length (by omega) (gO es 8) (gO es 9) (gO_in es 8) (gO_in es 9)
    (fun m k o w hk ho hw => by
      obtain ⟨q1, q2, _⟩ := okR_get (okEnts he) hk
      have d1 : (k : Int) < es.length := by omega
      have d2 : (0 : Int) ≤ k := by omega
      simp only [G_economy_Total_1, d1, d2, decide_true, cond_true, Int.toNat_natCast, q1, q2, Option.bind_some, wr_next hk (by omega), add_v _ _ o w ho hw]
      rfl)
    (fun m o w => by
      have d1 : ¬ (es.length : Int) < es.length := by omega
      simp only [G_economy_Total_1, d1, decide_false, cond_false]) (0 + Sm (gO ps 2) ps.length) (0 + Sm (gO ps 3) ps.length) (by omega) (by omega)
  have k3 := tot_loop (fun m i o w => G_economy_Total_2 cells cells.length m i o w) cells.length (by omega) (cO 5 cells) (cO 4 cells) (cO_in 5 cells) (cO_in 4 cells)
    (fun m k o w hk ho hw => by
      obtain ⟨q1, q2, _⟩ := okR_get (okCells hc) hk
      have d1 : (k : Int) < cells.length := by omega
      have d2 : (0 : Int) ≤ k := by omega
      have c0 : cnt 0 = 0 := by decide
      simp only [G_economy_Total_2, d1, d2, decide_true, cond_true, Int.toNat_natCast, q1, q2, Option.bind_some, wr_next hk (by omega), add_v _ _ o w ho hw, cO, c0]
      cases h5 : (cI (cells.getD k []) 0 == 5) with
      | true =>
        have : (cI (cells.getD k []) 0 == 4) = false := by
          have := eq_of_beq h5
          rw [this]; rfl
        simp only [this, cond_true, cond_false]
      | false =>
        cases cI (cells.getD k []) 0 == 4 <;> simp only [cond_true, cond_false, Int.add_zero])
    (fun m o w => by
      have d1 : ¬ (cells.length : Int) < cells.length := by omega
      simp only [G_economy_Total_2, d1, decide_false, cond_false]) (0 + Sm (gO ps 2) ps.length + Sm (gO es 8) es.length) (0 + Sm (gO ps 3) ps.length + Sm (gO es 9) es.length) (by omega) (by omega)
  simp only [F_economy_Total, Int.ofNat_eq_natCast]
  have k1' : G_economy_Total_0 ps ps.length FU 0 0 0 = _ := k1
  rw [k1']
  simp only [Option.bind_some]
  have k2' : G_economy_Total_1 es es.length FU 0 (0 + Sm (gO ps 2) ps.length) (0 + Sm (gO ps 3) ps.length) = _ := k2
  rw [k2']
  simp only [Option.bind_some]
  have k3' : G_economy_Total_2 cells cells.length FU 0 (0 + Sm (gO ps 2) ps.length + Sm (gO es 8) es.length) (0 + Sm (gO ps 3) ps.length + Sm (gO es 9) es.length) = _ := k3
  rw [k3']
  simp only [Option.bind_some, Int.zero_add]
theorem total_r (hp : TyPlayers ps) (he : TyEnts es) (hc : TyCells cells) (n1 : ps.length ≤ 100) (n2 : es.length ≤ 200) (n3 : cells.length ≤ 2000) :
    F_skirmishref28_Total turn next win pause rng us ws ts mw mh cells ps es shots mems scripts = some (Sm (gO ps 2) ps.length + Sm (gO es 8) es.length + Sm (cO 5 cells) cells.length, Sm (gO ps 3) ps.length + Sm (gO es 9) es.length + Sm (cO 4 cells) cells.length) := by
  have s1 := Sm_in (gO_in ps 2) ps.length
  have s2 := Sm_in (gO_in ps 3) ps.length
  have s3 := Sm_in (gO_in es 8) es.length
  have s4 := Sm_in (gO_in es 9) es.length
  have k1 := tot_loop (fun m i o w => G_skirmishref28_Total_0 ps m o w i) ps.length (by omega) (gO ps 2) (gO ps 3) (gO_in ps 2) (gO_in ps 3)
    (fun m k o w hk ho hw => by
      obtain ⟨q1, q2, _⟩ := okR_get (okPlayers hp) hk
      have d1 : (k : Int) < ps.length := by omega
      have d2 : (0 : Int) ≤ k := by omega
      have c1 := cnt_in (cI (ps.getD k []) 2)
      have c2 := cnt_in (cI (ps.getD k []) 3)
      simp only [G_skirmishref28_Total_0, Int.ofNat_eq_natCast, d1, d2, decide_true, cond_true, Int.toNat_natCast, q1, q2, Option.bind_some, wr_next hk (by omega), count_v, wr_in (n := o + cnt (cI (ps.getD k []) 2)) (by omega) (by omega), wr_in (n := w + cnt (cI (ps.getD k []) 3)) (by omega) (by omega)]
      rfl)
    (fun m o w => by
      have d1 : ¬ (ps.length : Int) < ps.length := by omega
      simp only [G_skirmishref28_Total_0, Int.ofNat_eq_natCast, d1, decide_false, cond_false]) 0 0 (by omega) (by omega)
  have k2 := tot_loop (fun m i o w => G_skirmishref28_Total_1 es m o w i) es.length (by omega) (gO es 8) (gO es 9) (gO_in es 8) (gO_in es 9)
    (fun m k o w hk ho hw => by
      obtain ⟨q1, q2, _⟩ := okR_get (okEnts he) hk
      have d1 : (k : Int) < es.length := by omega
      have d2 : (0 : Int) ≤ k := by omega
      have c1 := cnt_in (cI (es.getD k []) 8)
      have c2 := cnt_in (cI (es.getD k []) 9)
      simp only [G_skirmishref28_Total_1, Int.ofNat_eq_natCast, d1, d2, decide_true, cond_true, Int.toNat_natCast, q1, q2, Option.bind_some, wr_next hk (by omega), count_v, wr_in (n := o + cnt (cI (es.getD k []) 8)) (by omega) (by omega), wr_in (n := w + cnt (cI (es.getD k []) 9)) (by omega) (by omega)]
      rfl)
    (fun m o w => by
      have d1 : ¬ (es.length : Int) < es.length := by omega
      simp only [G_skirmishref28_Total_1, Int.ofNat_eq_natCast, d1, decide_false, cond_false]) (0 + Sm (gO ps 2) ps.length) (0 + Sm (gO ps 3) ps.length) (by omega) (by omega)
  have k3 := tot_loop (fun m i o w => G_skirmishref28_Total_2 cells m o w i) cells.length (by omega) (cO 5 cells) (cO 4 cells) (cO_in 5 cells) (cO_in 4 cells)
    (fun m k o w hk ho hw => by
      obtain ⟨q1, q2, _⟩ := okR_get (okCells hc) hk
      have d1 : (k : Int) < cells.length := by omega
      have d2 : (0 : Int) ≤ k := by omega
      have c1 := cnt_in (cI (cells.getD k []) 2)
      simp only [G_skirmishref28_Total_2, Int.ofNat_eq_natCast, d1, d2, decide_true, cond_true, Int.toNat_natCast, q1, q2, Option.bind_some, wr_next hk (by omega), count_v, wr_in (n := o + cnt (cI (cells.getD k []) 2)) (by omega) (by omega), wr_in (n := w + cnt (cI (cells.getD k []) 2)) (by omega) (by omega), cO]
      cases h5 : (cI (cells.getD k []) 0 == 5) with
      | true =>
        have : (cI (cells.getD k []) 0 == 4) = false := by
          have := eq_of_beq h5
          rw [this]; rfl
        simp only [this, cond_true, cond_false, Int.add_zero]
      | false =>
        cases cI (cells.getD k []) 0 == 4 <;> simp only [cond_true, cond_false, Int.add_zero])
    (fun m o w => by
      have d1 : ¬ (cells.length : Int) < cells.length := by omega
      simp only [G_skirmishref28_Total_2, Int.ofNat_eq_natCast, d1, decide_false, cond_false]) (0 + Sm (gO ps 2) ps.length + Sm (gO es 8) es.length) (0 + Sm (gO ps 3) ps.length + Sm (gO es 9) es.length) (by omega) (by omega)
  simp only [F_skirmishref28_Total]
  have k1' : G_skirmishref28_Total_0 ps FU 0 0 0 = _ := k1
  rw [k1']
  simp only [Option.bind_some]
  have k2' : G_skirmishref28_Total_1 es FU (0 + Sm (gO ps 2) ps.length) (0 + Sm (gO ps 3) ps.length) 0 = _ := k2
  rw [k2']
  simp only [Option.bind_some]
  have k3' : G_skirmishref28_Total_2 cells FU (0 + Sm (gO ps 2) ps.length + Sm (gO es 8) es.length) (0 + Sm (gO ps 3) ps.length + Sm (gO es 9) es.length) 0 = _ := k3
  rw [k3']
  simp only [Option.bind_some, Int.zero_add]
theorem pure_EconomyTotals (w0 : wf .i64 turn) (w1 : wf .i64 next) (w2 : wf .i64 win) (w4 : wf .u64 rng) (h1 : Ty Try.prog (.sl 77 19) (.ro 19 us)) (h2 : Ty Try.prog (.sl 161 6) (.ro 6 ws)) (h3 : Ty Try.prog (.sl 163 8) (.ro 8 ts)) (w8 : wf .i64 mw) (w9 : wf .i64 mh) (hc : TyCells cells)
    (hp : TyPlayers ps) (he : TyEnts es) (w13 : Ty Try.prog (.sl 165 9) (.ro 9 shots)) (w14 : Ty Try.prog (.sl 169 3) (.ro 3 mems)) (w15 : Ty Try.prog (.sl 176 4) (.ro 4 scripts)) :
    F_skirmishlaw28_EconomyTotals turn next win pause rng us ws ts mw mh cells ps es shots mems scripts = some true := by
  obtain ⟨b, e, l⟩ := huge_v turn next win pause rng us ws ts mw mh cells ps es shots mems scripts
  simp only [F_skirmishlaw28_EconomyTotals, e, Option.bind_some, awake28]
  cases b with
  | true => rfl
  | false =>
    obtain ⟨n1, n2, n3⟩ := l rfl
    simp only [cond_false, total_g turn next win pause rng us ws ts mw mh cells ps es shots mems scripts hp he hc n1 n2 n3, total_r turn next win pause rng us ws ts mw mh cells ps es shots mems scripts hp he hc n1 n2 n3, Option.bind_some, beq_self_eq_true, cond_true]
end
end Go.Proofs.Ytoiimiohobollaa.AI
