/- Small words for values; shapes of arguments and of states; a function's loops. -/
import Derived.Test.YteiniiakpdijmaaDoorAI18
namespace Go.Proofs.YteiniiakpdijmaaDoor.AI
open Go.RowKit
set_option linter.unusedVariables false

abbrev i64 (n : Int) : AVal := .sc (.int .i64 n)
abbrev bo (b : Bool) : AVal := .sc (.bool b)
abbrev uu : AVal := .sc (.tuple #[])
def wr (n : Int) : Int := IntKind.wrap .i64 n
def noL : LT' := fun _ _ _ => none
def noG : Nat → Option (List AVal) := fun _ => none
/-- More rounds than any loop takes. -/
def FU : Nat := 18446744073709551616
/-- A row's cell. -/
def cI (r : List AVal) (j : Nat) : Int := toI (r.getD j .dead)
def cB (r : List AVal) (j : Nat) : Bool := toB (r.getD j .dead)
def cS (r : List AVal) (j : Nat) : ByteArray := toS (r.getD j .dead)
def cR (r : List AVal) (j : Nat) : List (List AVal) := roRows (r.getD j .dead)

theorem verEq_rfl (a : Nat) : verEq a a = true := by simp [verEq]
theorem verEq_of {a b : Nat} (h : a = b) : verEq a b = true := by subst h; exact verEq_rfl a

/-! ### Shapes -/
inductive FK where
  | dead | int (k : IntKind) | bool | str | ro (E : Nat) | emp | uu | slc (k pos : Nat) | ref (k n i j : Nat) | any | clo (f : Nat) (ts : List (List LT)) | cloR (f : Nat) (l : List (Nat × Nat × Nat × Nat))
inductive SK where
  | f (x : FK)
  | agg (l : List FK)
  | rptr (l : List FK)

def slcN : AVal → Nat | .slc _ n => n | _ => 0
def refI : AVal → Nat | .ref _ _ i _ => i | _ => 0
def blkAt (l : List (Nat × Blk)) (j : Nat) : Nat × Blk := l.getD j (0, default)
def blkLen (h : List (Nat × Blk)) (pos : Nat) : Nat := (blkAt h pos).2.rows.length
def cIa (l : List AVal) (j : Nat) : AVal := l.getD j .dead
def rptrL : AVal → List AVal | .rptr l => l | _ => []

/-! ### Functions' values: the cells behind the captured pointers -/
def cloL : AVal → List AVal | .clo _ l => l | _ => []
def chkX (arg : Bool) : LT → AVal → Bool
  | .int k, .sc (.int k' _) => kEq k k'
  | .bool, .sc (.bool _) => true
  | .str, .sc (.string _) => true
  | .sl _ E, .ro E' rows => Nat.beq E' E || (arg && rows.isEmpty)
  | _, _ => false
def chkXs (arg : Bool) : List LT → Nat → List AVal → Bool
  | [], _, _ => true
  | t :: ts, j, r => chkX arg t (r.getD j .dead) && chkXs arg ts (j + 1) r
def chkCap (arg : Bool) (ts : List LT) : AVal → Bool
  | .rptr r => Nat.beq r.length ts.length && chkXs arg ts 0 r
  | _ => false
def chkCaps (arg : Bool) : List (List LT) → Nat → List AVal → Bool
  | [], _, _ => true
  | ts :: tss, j, l => chkCap arg ts (cIa l j) && chkCaps arg tss (j + 1) l
def decCaps : List (List LT) → Nat → List AVal → List AVal
  | [], _, _ => []
  | ts :: tss, j, l => .rptr (dec ts (rptrL (cIa l j))) :: decCaps tss (j + 1) l

/-- Captured pointers to own boxes. -/
def sameRefs : List (Nat × Nat × Nat × Nat) → List AVal → Bool
  | [], [] => true
  | (k, n, i, j) :: ks, .ref k' n' i' j' :: l => Nat.beq k' k && Nat.beq n' n && Nat.beq i' i && Nat.beq j' j && sameRefs ks l
  | _, _ => false
def refsOf : List (Nat × Nat × Nat × Nat) → List AVal
  | [] => []
  | (k, n, i, j) :: ks => .ref k n i j :: refsOf ks
theorem sameRefs_eq : ∀ (ks : List (Nat × Nat × Nat × Nat)) (l : List AVal), sameRefs ks l = true → refsOf ks = l
  | [], [], _ => rfl
  | [], _ :: _, h => by cases h
  | (_, _, _, _) :: _, [], h => by cases h
  | (k, n, i, j) :: ks, v :: l, h => by
    cases v <;> first | cases h | skip
    simp only [sameRefs, Bool.and_eq_true] at h
    obtain ⟨⟨⟨⟨h1, h2⟩, h3⟩, h4⟩, h5⟩ := h
    rw [nbeq_eq h1, nbeq_eq h2, nbeq_eq h3, nbeq_eq h4, refsOf, sameRefs_eq ks l h5]
/-- 'len': is a row's width told (of a state), or what the type says (of an argument)? -/
def chkF (arg : Bool) (h : List (Nat × Blk)) : FK → AVal → Bool
  | .dead, _ => true
  | .int k, .sc (.int k' _) => kEq k k'
  | .bool, .sc (.bool _) => true
  | .str, .sc (.string _) => true
  | .ro E, .ro E' rows => Nat.beq E' E || (arg && rows.isEmpty)
  | .emp, .emp => true
  | .uu, .sc (.tuple a) => a.isEmpty
  | .slc k pos, .slc k' n => Nat.beq k' k && verEq n (blkLen h pos)
  | .ref k n i j, .ref k' n' i' j' => Nat.beq k' k && Nat.beq n' n && Nat.beq i' i && Nat.beq j' j
  | .clo f tss, .clo f' l => Nat.beq f' f && Nat.beq l.length tss.length && chkCaps arg tss 0 l
  | .cloR f ks, .clo f' l => Nat.beq f' f && sameRefs ks l
  | _, _ => false
def decF (h : List (Nat × Blk)) : FK → AVal → AVal
  | .dead, _ => .dead
  | .int k, v => .sc (.int k (toI v))
  | .bool, v => .sc (.bool (toB v))
  | .str, v => .sc (.string (toS v))
  | .ro E, v => .ro E (roRows v)
  | .emp, _ => .emp
  | .uu, _ => .sc (.tuple #[])
  | .slc k pos, _ => .slc k (blkLen h pos)
  | .ref k n i j, _ => .ref k n i j
  | .clo f tss, v => .clo f (decCaps tss 0 (cloL v))
  | .cloR f ks, _ => .clo f (refsOf ks)
  | .any, v => v
def chkFs (arg : Bool) (h : List (Nat × Blk)) : List FK → Nat → List AVal → Bool
  | [], _, _ => true
  | k :: ks, j, l => chkF arg h k (cIa l j) && chkFs arg h ks (j + 1) l
def decFs (h : List (Nat × Blk)) : List FK → Nat → List AVal → List AVal
  | [], _, _ => []
  | k :: ks, j, l => decF h k (cIa l j) :: decFs h ks (j + 1) l
def noDead : List FK → Bool
  | [] => true
  | .dead :: _ => false
  | _ :: ks => noDead ks
def chkS1 (arg : Bool) (h : List (Nat × Blk)) : SK → AVal → Bool
  | .f k, v => chkF arg h k v
  | .agg ks, .agg l => noDead ks && Nat.beq l.length ks.length && chkFs arg h ks 0 l
  | .rptr ks, .rptr l => noDead ks && Nat.beq l.length ks.length && chkFs arg h ks 0 l
  | _, _ => false
def decS1 (h : List (Nat × Blk)) : SK → AVal → AVal
  | .f k, v => decF h k v
  | .agg ks, v => .agg (decFs h ks 0 (aggL v))
  | .rptr ks, v => .rptr (decFs h ks 0 (rptrL v))
def chkT (arg : Bool) (h : List (Nat × Blk)) : List SK → Nat → List AVal → Bool
  | [], _, _ => true
  | k :: ks, j, l => chkS1 arg h k (cIa l j) && chkT arg h ks (j + 1) l
def decT (h : List (Nat × Blk)) : List SK → Nat → List AVal → List AVal
  | [], _, _ => []
  | k :: ks, j, l => decS1 h k (cIa l j) :: decT h ks (j + 1) l
def maskOf : List SK → List Bool
  | [] => []
  | .f .dead :: ks => false :: maskOf ks
  | _ :: ks => true :: maskOf ks

/-- A block's shape. -/
structure HK where
  key : Nat
  kind : BKind
  T : TypeId
  E : Nat
  box : Option (List FK)
def refEq : AVal → AVal → Bool
  | .ref a b c d, .ref a' b' c' d' => Nat.beq a a' && Nat.beq b b' && Nat.beq c c' && Nat.beq d d'
  | _, _ => false
def refsEq : List AVal → List AVal → Bool
  | [], [] => true
  | v :: l, u :: m => refEq v u && refsEq l m
  | _, _ => false
def kindEq : BKind → BKind → Bool
  | .box, .box | .arr, .arr | .frz, .frz => true
  | .ns a b c, .ns a' b' c' => Nat.beq a a' && Nat.beq b b' && Nat.beq c c'
  | .dfr f l, .dfr f' l' => Nat.beq f f' && refsEq l l'
  | _, _ => false
def rows0 (b : Blk) : List AVal := b.rows.getD 0 []
def chkB (H : List (Nat × Blk)) (h : HK) (p : Nat × Blk) : Bool :=
  Nat.beq p.1 h.key && kindEq p.2.kind h.kind && Nat.beq p.2.T h.T && Nat.beq p.2.E h.E &&
    (match h.box with | none => true | some ks => Nat.beq p.2.rows.length 1 && noDead ks && Nat.beq (rows0 p.2).length ks.length && chkFs false H ks 0 (rows0 p.2))
def decB (H : List (Nat × Blk)) (h : HK) (p : Nat × Blk) : Nat × Blk :=
  (h.key, ⟨h.kind, h.T, h.E, match h.box with | none => p.2.rows | some ks => [decFs H ks 0 (rows0 p.2)]⟩)
def chkH (H : List (Nat × Blk)) : List HK → Nat → Bool
  | [], _ => true
  | h :: hs, j => chkB H h (blkAt H j) && chkH H hs (j + 1)
def decH (H : List (Nat × Blk)) : List HK → Nat → List (Nat × Blk)
  | [], _ => []
  | h :: hs, j => decB H h (blkAt H j) :: decH H hs (j + 1)
def chkS (ks : List SK) (hs : List HK) (s : St) : Bool :=
  Nat.beq s.tmps.length ks.length && Nat.beq s.heap.length hs.length && chkT false s.heap ks 0 s.tmps && chkH s.heap hs 0
def decS (ks : List SK) (hs : List HK) (s : St) : St := ⟨decT s.heap ks 0 s.tmps, decH s.heap hs 0⟩

theorem drop_step {l : List AVal} {j : Nat} (h : j < l.length) : l.drop j = cIa l j :: l.drop (j + 1) := by
  rw [List.drop_eq_getElem_cons h]
  simp [cIa, List.getD, h]
theorem chkX_dec {t : LT} {v : AVal} (h : chkX false t v = true) : decL t v = v := by
  cases t with
  | int k =>
    cases v <;> first | cases h | skip
    rename_i x
    cases x <;> first | cases h | skip
    obtain rfl := kEq_eq h
    rfl
  | bool =>
    cases v <;> first | cases h | skip
    rename_i x
    cases x <;> first | rfl | cases h
  | str =>
    cases v <;> first | cases h | skip
    rename_i x
    cases x <;> first | rfl | cases h
  | sl T E =>
    cases v <;> first | cases h | skip
    simp only [chkX, Bool.false_and, Bool.or_false] at h
    obtain rfl := nbeq_eq h
    rfl
  | other => cases h
theorem chkXs_dec : ∀ (ts : List LT) (j : Nat) (r : List AVal), chkXs false ts j r = true → r.length = j + ts.length → decFrom ts j r = r.drop j
  | [], j, r, _, hl => by simp [decFrom, hl]
  | t :: ts, j, r, h, hl => by
    simp only [chkXs, Bool.and_eq_true] at h
    simp only [List.length_cons] at hl
    rw [drop_step (by omega)]
    simp only [decFrom, chkX_dec h.1, chkXs_dec ts (j + 1) r h.2 (by omega)]
    rfl
theorem chkCaps_dec : ∀ (tss : List (List LT)) (j : Nat) (l : List AVal), chkCaps false tss j l = true → l.length = j + tss.length → decCaps tss j l = l.drop j
  | [], j, l, _, hl => by simp [decCaps, hl]
  | ts :: tss, j, l, h, hl => by
    simp only [chkCaps, Bool.and_eq_true] at h
    simp only [List.length_cons] at hl
    rw [drop_step (by omega)]
    have h1 := h.1
    have : AVal.rptr (dec ts (rptrL (cIa l j))) = cIa l j := by
      generalize cIa l j = v at h1
      cases v <;> first | cases h1 | skip
      simp only [chkCap, Bool.and_eq_true] at h1
      have := chkXs_dec ts 0 _ h1.2 (by have := nbeq_eq h1.1; omega)
      rw [List.drop_zero] at this
      simp only [rptrL, dec, this]
    simp only [decCaps, this, chkCaps_dec tss (j + 1) l h.2 (by omega)]
theorem decCaps_rp : ∀ (tss : List (List LT)) (j : Nat) (l : List AVal), (decCaps tss j l).all isRp = true
  | [], _, _ => rfl
  | ts :: tss, j, l => by simp [decCaps, isRp, decCaps_rp tss (j + 1) l]
theorem chkX_L {t : LT} {v : AVal} (h : chkX true t v = true) : chkL t v = true := by
  cases t <;> cases v <;> first | exact h | (rename_i x; cases x <;> first | exact h | cases h) | cases h
theorem chkXs_from : ∀ (ts : List LT) (j : Nat) (r : List AVal), chkXs true ts j r = true → chkFrom ts j r = true
  | [], _, _, _ => rfl
  | t :: ts, j, r, h => by
    simp only [chkXs, Bool.and_eq_true] at h
    simp only [chkFrom, chkX_L h.1, chkXs_from ts (j + 1) r h.2, Bool.and_self]
theorem chkCap_norm {ts : List LT} {v : AVal} (h : chkCap true ts v = true) {env : Nat → Option Ent} {Z : Nat → Prop} {w : World} {c : Value} (hv : VRel env Z w v c) : VRel env Z w (.rptr (dec ts (rptrL v))) c := by
  cases v <;> first | cases h | skip
  rename_i r
  simp only [chkCap, Bool.and_eq_true] at h
  have hk : chk ts r = true := by simp only [chk, h.1, chkXs_from ts 0 r h.2, Bool.and_self]
  cases hv with
  | rptr _ b o f hz h1 h2 =>
    refine .rptr _ b o f hz (fun j v hj => ?_) fun j v hj => ?_
    · obtain ⟨q1, u, q2, q3⟩ := dec_get hk hj
      exact ⟨q1, (h1 j u q2).2⟩
    · obtain ⟨q1, u, q2, q3⟩ := dec_get hk hj
      exact q3 _ _ _ _ (h2 j u q2)
theorem chkCaps_norm {env : Nat → Option Ent} {Z : Nat → Prop} {w : World} : ∀ (tss : List (List LT)) (j : Nat) (l : List AVal) (cs : List Value), chkCaps true tss j l = true → l.length = j + tss.length → VRels env Z w l cs → VRels env Z w (decCaps tss j l) (cs.drop j)
  | [], j, l, cs, _, hl, hv => by
    have := hv.1
    rw [List.drop_eq_nil_of_le (by simp at hl; omega)]
    exact .nil
  | ts :: tss, j, l, cs, hc, hl, hv => by
    simp only [chkCaps, Bool.and_eq_true] at hc
    simp only [List.length_cons] at hl
    have hlen := hv.1
    have hj : j < cs.length := by omega
    have hjl : j < l.length := by omega
    rw [List.drop_eq_getElem_cons hj]
    refine .cons (chkCap_norm hc.1 ?_) (chkCaps_norm tss (j + 1) l cs hc.2 (by omega) hv)
    have : cIa l j = l[j] := by simp [cIa, List.getD, hjl]
    rw [this]
    exact hv.2 j _ _ (by simp [hjl]) (by simp [hj])

theorem chkF_dec {h : List (Nat × Blk)} {k : FK} {v : AVal} (hc : chkF false h k v = true) (hd : k ≠ .dead) : decF h k v = v := by
  cases k with
  | dead => exact absurd rfl hd
  | int k =>
    cases v <;> first | cases hc | skip
    rename_i x
    cases x <;> first | cases hc | skip
    obtain rfl := kEq_eq hc
    rfl
  | bool =>
    cases v <;> first | cases hc | skip
    rename_i x
    cases x <;> first | rfl | cases hc
  | str =>
    cases v <;> first | cases hc | skip
    rename_i x
    cases x <;> first | rfl | cases hc
  | ro E =>
    cases v <;> first | cases hc | skip
    simp only [chkF, Bool.false_and, Bool.or_false] at hc
    obtain rfl := nbeq_eq hc
    rfl
  | emp => cases v <;> first | rfl | cases hc
  | uu =>
    cases v <;> first | cases hc | skip
    rename_i x
    cases x <;> first | cases hc | skip
    rename_i a
    have : a = #[] := by simpa [chkF] using hc
    subst this
    rfl
  | slc k pos =>
    cases v <;> first | cases hc | skip
    simp only [chkF, Bool.and_eq_true] at hc
    obtain rfl := nbeq_eq hc.1
    have := nbeq_eq hc.2
    simp only [decF, this]
  | ref k n i j =>
    cases v <;> first | cases hc | skip
    simp only [chkF, Bool.and_eq_true] at hc
    obtain rfl := nbeq_eq hc.1.1.1
    obtain rfl := nbeq_eq hc.1.1.2
    obtain rfl := nbeq_eq hc.1.2
    obtain rfl := nbeq_eq hc.2
    rfl
  | clo f tss =>
    cases v <;> first | cases hc | skip
    rename_i f' l
    simp only [chkF, Bool.and_eq_true] at hc
    obtain rfl : f' = f := nbeq_eq hc.1.1
    have := chkCaps_dec tss 0 l hc.2 (by have := nbeq_eq hc.1.2; omega)
    rw [List.drop_zero] at this
    simp only [decF, cloL, this]
  | cloR f ks =>
    cases v <;> first | cases hc | skip
    rename_i f' l
    simp only [chkF, Bool.and_eq_true] at hc
    obtain rfl : f' = f := nbeq_eq hc.1
    simp only [decF, sameRefs_eq ks l hc.2]
  | any => rfl

theorem chkFs_dec {h : List (Nat × Blk)} : ∀ (ks : List FK) (j : Nat) (l : List AVal), chkFs false h ks j l = true → noDead ks = true → l.length = j + ks.length → decFs h ks j l = l.drop j
  | [], j, l, _, _, hl => by simp [decFs, hl]
  | k :: ks, j, l, hc, hn, hl => by
    simp only [chkFs, Bool.and_eq_true] at hc
    have hk : k ≠ .dead := fun e => by subst e; cases hn
    have hn' : noDead ks = true := by cases k <;> first | exact absurd rfl hk | exact hn
    simp only [List.length_cons] at hl
    rw [drop_step (by omega)]
    simp only [decFs, chkF_dec hc.1 hk, chkFs_dec ks (j + 1) l hc.2 hn' (by omega)]

theorem chkS1_dec {h : List (Nat × Blk)} {k : SK} {v : AVal} (hc : chkS1 false h k v = true) (hd : k ≠ .f .dead) : decS1 h k v = v := by
  cases k with
  | f x => exact chkF_dec hc fun e => hd (by rw [e])
  | agg ks =>
    cases v <;> first | cases hc | skip
    rename_i l
    simp only [chkS1, Bool.and_eq_true] at hc
    have hl := nbeq_eq hc.1.2
    simp only [decS1, aggL, chkFs_dec ks 0 l hc.2 hc.1.1 (by omega), List.drop_zero]
  | rptr ks =>
    cases v <;> first | cases hc | skip
    rename_i l
    simp only [chkS1, Bool.and_eq_true] at hc
    have hl := nbeq_eq hc.1.2
    simp only [decS1, rptrL, chkFs_dec ks 0 l hc.2 hc.1.1 (by omega), List.drop_zero]

theorem chkT_dec {h : List (Nat × Blk)} : ∀ (ks : List SK) (j : Nat) (l : List AVal), chkT false h ks j l = true → l.length = j + ks.length → decT h ks j l = maskT (maskOf ks) (l.drop j)
  | [], j, l, _, hl => by simp [decT, maskOf, hl, maskT]
  | k :: ks, j, l, hc, hl => by
    simp only [chkT, Bool.and_eq_true] at hc
    simp only [List.length_cons] at hl
    rw [drop_step (by omega)]
    simp only [decT, chkT_dec ks (j + 1) l hc.2 (by omega)]
    by_cases hk : k = .f .dead
    · subst hk; rfl
    · rw [chkS1_dec hc.1 hk]
      have : maskOf (k :: ks) = true :: maskOf ks := by
        cases k with
        | f x => cases x <;> first | rfl | exact absurd rfl hk
        | _ => rfl
      rw [this]
      rfl

theorem refEq_eq {v u : AVal} (h : refEq v u = true) : v = u := by
  unfold refEq at h
  split at h
  · simp only [Bool.and_eq_true] at h
    obtain ⟨⟨⟨h1, h2⟩, h3⟩, h4⟩ := h
    rw [nbeq_eq h1, nbeq_eq h2, nbeq_eq h3, nbeq_eq h4]
  · cases h
theorem refsEq_eq : ∀ {l m : List AVal}, refsEq l m = true → l = m
  | [], [], _ => rfl
  | [], _ :: _, h => by cases h
  | _ :: _, [], h => by cases h
  | v :: l, u :: m, h => by
    simp only [refsEq, Bool.and_eq_true] at h
    rw [refEq_eq h.1, refsEq_eq h.2]
theorem kindEq_eq {a b : BKind} (h : kindEq a b = true) : a = b := by
  unfold kindEq at h
  split at h
  · rfl
  · rfl
  · rfl
  · simp only [Bool.and_eq_true] at h
    rw [nbeq_eq h.1.1, nbeq_eq h.1.2, nbeq_eq h.2]
  · simp only [Bool.and_eq_true] at h
    rw [nbeq_eq h.1, refsEq_eq h.2]
  · cases h

theorem chkB_dec {H : List (Nat × Blk)} {h : HK} {p : Nat × Blk} (hc : chkB H h p = true) : decB H h p = p := by
  obtain ⟨k, ⟨kind, T, E, rows⟩⟩ := p
  obtain ⟨k', kind', T', E', box⟩ := h
  simp only [chkB, Bool.and_eq_true] at hc
  obtain ⟨⟨⟨⟨h1, h2⟩, h3⟩, h4⟩, h5⟩ := hc
  obtain rfl : k = k' := nbeq_eq h1
  obtain rfl : T = T' := nbeq_eq h3
  obtain rfl : E = E' := nbeq_eq h4
  have : kind = kind' := kindEq_eq h2
  subst this
  cases box with
  | none => rfl
  | some ks =>
    simp only [Bool.and_eq_true] at h5
    obtain ⟨⟨⟨q1, q2⟩, q3⟩, q4⟩ := h5
    have q1 := nbeq_eq q1
    have q3 := nbeq_eq q3
    match rows, q1 with
    | [r], _ =>
      simp only [decB, rows0, List.getD_cons_zero] at q3 q4 ⊢
      rw [chkFs_dec ks 0 r q4 q2 (by omega), List.drop_zero]

theorem chkH_dec {H : List (Nat × Blk)} : ∀ (hs : List HK) (j : Nat), chkH H hs j = true → H.length = j + hs.length → decH H hs j = H.drop j
  | [], j, _, hl => by simp [decH, hl]
  | h :: hs, j, hc, hl => by
    simp only [chkH, Bool.and_eq_true] at hc
    simp only [List.length_cons] at hl
    have hj : j < H.length := by omega
    rw [List.drop_eq_getElem_cons hj]
    have : blkAt H j = H[j] := by simp [blkAt, List.getD, hj]
    rw [this] at hc
    simp only [decH, this, chkB_dec hc.1, chkH_dec hs (j + 1) hc.2 (by omega)]

theorem chkS_dec {ks : List SK} {hs : List HK} {s : St} (hc : chkS ks hs s = true) : decS ks hs s = maskS0 (maskOf ks) s := by
  simp only [chkS, Bool.and_eq_true] at hc
  obtain ⟨⟨⟨h1, h2⟩, h3⟩, h4⟩ := hc
  have h1 := nbeq_eq h1
  have h2 := nbeq_eq h2
  simp only [decS, maskS0, chkT_dec ks 0 s.tmps h3 (by omega), chkH_dec hs 0 h4 (by omega), List.drop_zero]

theorem maskT_twice : ∀ (m : List Bool) (l : List AVal), maskT m (maskT m l) = maskT m l
  | [], l => by cases l <;> rfl
  | b :: m, [] => rfl
  | b :: m, v :: l => by
    simp only [maskT, maskT_twice m l]
    cases b <;> rfl
theorem maskS_twice (m : List Bool) (s : St) : maskS0 m (maskS m s) = maskS m s := by
  have h := maskS_tmps m s
  have e : maskS0 m (maskS m s) = ⟨maskT m (maskS m s).tmps, (maskS m s).heap⟩ := rfl
  rw [e, h, maskT_twice, ← h]

/-! ### Arguments -/
def chkA (ks : List SK) (us : List AVal) : Bool := Nat.beq us.length ks.length && chkT true [] ks 0 us
def decA (ks : List SK) (us : List AVal) : List AVal := decT [] ks 0 us

def NormOf (us us' : List AVal) : Prop := ∀ (env : Nat → Option Ent) (Z : Nat → Prop) (w : World) (cs : List Value), VRels env Z w us cs → VRels env Z w us' cs

theorem chkF_arg {h : List (Nat × Blk)} (k : FK) (v : AVal) (hk : ∀ E, k ≠ .ro E) (hk' : ∀ f tss, k ≠ .clo f tss) : chkF true h k v = chkF false h k v := by
  cases k with
  | ro E => exact absurd rfl (hk E)
  | clo f tss => exact absurd rfl (hk' f tss)
  | _ =>
    cases v with
    | sc x => cases x <;> rfl
    | _ => rfl

theorem chkF_norm {k : FK} {v : AVal} (hc : chkF true [] k v = true) (env : Nat → Option Ent) (Z : Nat → Prop) (w : World) (c : Value) (hv : VRel env Z w v c) : VRel env Z w (decF [] k v) c := by
  by_cases hd : k = .dead
  · subst hd; exact .dead _
  · cases k with
    | ro E =>
      cases v <;> first | cases hc | skip
      simp only [chkF, Bool.true_and] at hc
      exact ro_norm hc hv
    | clo f tss =>
      cases v <;> first | cases hc | skip
      rename_i f' l
      simp only [chkF, Bool.and_eq_true] at hc
      obtain rfl : f' = f := nbeq_eq hc.1.1
      cases hv with
      | clo _ _ cs hl hh =>
        have := chkCaps_norm (env := env) (Z := Z) (w := w) tss 0 l cs.toList hc.2 (by have := nbeq_eq hc.1.2; omega) ⟨by simpa using hl, fun i v c q1 q2 => hh i v c q1 (by simpa using q2)⟩
        rw [List.drop_zero] at this
        exact .clo _ _ _ (by have := this.1; simpa [decF, cloL] using this) fun i v c q1 q2 => this.2 i v c q1 (by simpa using q2)
    | _ =>
      rw [chkF_arg _ _ (fun E => by simp) (fun f tss => by simp)] at hc
      rw [chkF_dec hc hd]
      exact hv

theorem chkFs_norm {env : Nat → Option Ent} {Z : Nat → Prop} {w : World} : ∀ (ks : List FK) (j : Nat) (l : List AVal) (cs : List Value), chkFs true [] ks j l = true → l.length = j + ks.length → VRels env Z w l cs → VRels env Z w (decFs [] ks j l) (cs.drop j)
  | [], j, l, cs, _, hl, hv => by
    have := hv.1
    rw [List.drop_eq_nil_of_le (by simp at hl; omega)]
    exact .nil
  | k :: ks, j, l, cs, hc, hl, hv => by
    simp only [chkFs, Bool.and_eq_true] at hc
    simp only [List.length_cons] at hl
    have hlen := hv.1
    have hj : j < cs.length := by omega
    have hjl : j < l.length := by omega
    rw [List.drop_eq_getElem_cons hj]
    refine .cons (chkF_norm hc.1 _ _ _ _ ?_) (chkFs_norm ks (j + 1) l cs hc.2 (by omega) hv)
    have : cIa l j = l[j] := by simp [cIa, List.getD, hjl]
    rw [this]
    exact hv.2 j _ _ (by simp [hjl]) (by simp [hj])

theorem chkS1_norm {k : SK} {v : AVal} (hc : chkS1 true [] k v = true) (env : Nat → Option Ent) (Z : Nat → Prop) (w : World) (c : Value) (hv : VRel env Z w v c) : VRel env Z w (decS1 [] k v) c := by
  cases k with
  | f x => exact chkF_norm hc env Z w c hv
  | agg ks =>
    cases v <;> first | cases hc | skip
    rename_i l
    simp only [chkS1, Bool.and_eq_true] at hc
    have hl := nbeq_eq hc.1.2
    cases hv with
    | agg _ cs h1 h2 =>
      have := chkFs_norm (env := env) (Z := Z) (w := w) ks 0 l cs.toList hc.2 (by omega) ⟨by simpa using h1, fun i v c q1 q2 => h2 i v c q1 (by simpa using q2)⟩
      rw [List.drop_zero] at this
      simp only [decS1, aggL]
      exact .agg _ _ (by have := this.1; simpa using this) fun i v c q1 q2 => this.2 i v c q1 (by simpa using q2)
  | rptr ks =>
    cases v <;> first | cases hc | skip
    rename_i l
    simp only [chkS1, Bool.and_eq_true] at hc
    have hl := nbeq_eq hc.1.2
    cases hv with
    | rptr _ b o f hz h1 h2 =>
      have hd : ∀ (ks : List FK) (j : Nat) (l : List AVal), chkFs true [] ks j l = true → noDead ks = true → ∀ (i : Nat) (v : AVal), (decFs [] ks j l)[i]? = some v → (∃ u, l[j + i]? = some u → True) ∧ ∃ k, k ∈ ks ∧ chkF true [] k (cIa l (j + i)) = true ∧ v = decF [] k (cIa l (j + i)) ∧ k ≠ .dead := by
        intro ks
        induction ks with
        | nil => intro j l _ _ i v hv; simp [decFs] at hv
        | cons k ks ih =>
          intro j l hc hn i v hv
          simp only [chkFs, Bool.and_eq_true] at hc
          have hk : k ≠ .dead := fun e => by subst e; cases hn
          have hn' : noDead ks = true := by cases k <;> first | exact absurd rfl hk | exact hn
          cases i with
          | zero =>
            simp only [decFs, List.getElem?_cons_zero, Option.some.injEq] at hv
            exact ⟨⟨.dead, fun _ => trivial⟩, k, .head _, hc.1, hv.symm, hk⟩
          | succ i =>
            simp only [decFs, List.getElem?_cons_succ] at hv
            obtain ⟨p, k', q1, q2, q3, q4⟩ := ih (j + 1) l hc.2 hn' i v hv
            rw [show j + 1 + i = j + (i + 1) by omega] at q2 q3
            exact ⟨⟨.dead, fun _ => trivial⟩, k', .tail _ q1, q2, q3, q4⟩
      have hlen : ∀ (ks : List FK) (j : Nat), (decFs [] ks j l).length = ks.length := by
        intro ks; induction ks with
        | nil => intro j; rfl
        | cons k ks ih => intro j; simp [decFs, ih]
      have key : ∀ (j : Nat) (v : AVal), (decFs [] ks 0 l)[j]? = some v → flat v = true ∧ Go.Proofs.YteiniiakpdijmaaDoor.AI.oneC (f j) = true ∧ w.cell? ⟨b, o + j, none⟩ = some (f j) ∧ VRel env Z w v (f j) := by
        intro j v hj
        obtain ⟨_, k, _, q2, rfl, q4⟩ := hd ks 0 l hc.2 hc.1.1 j v hj
        rw [Nat.zero_add] at q2 ⊢
        have hjl : j < l.length := by
          have := (List.getElem?_eq_some_iff.1 hj).1
          rw [hlen] at this
          omega
        have he : cIa l j = l[j] := by simp [cIa, List.getD, hjl]
        have hj' : l[j]? = some (cIa l j) := by rw [he]; simp [hjl]
        refine ⟨?_, (h1 j _ hj').2.1, (h1 j _ hj').2.2, chkF_norm q2 _ _ _ _ (h2 j _ hj')⟩
        have hfl := (h1 j _ hj').1
        cases k with
        | slc k pos => generalize cIa l j = v at hfl q2; cases v <;> first | cases q2 | cases hfl
        | ref k n i' j' => generalize cIa l j = v at hfl q2; cases v <;> first | cases q2 | cases hfl
        | uu => generalize cIa l j = v at hfl q2; cases v <;> first | cases q2 | (rename_i x; cases x <;> first | cases q2 | cases hfl)
        | dead => exact absurd rfl q4
        | any => exact hfl
        | clo f tss => exact decCaps_rp _ _ _
        | cloR f ks =>
          generalize cIa l j = v at hfl q2
          cases v <;> first | cases q2 | skip
          simp only [chkF, Bool.and_eq_true] at q2
          simp only [decF, sameRefs_eq _ _ q2.2]
          exact hfl
        | _ => rfl
      exact .rptr _ b o f hz (fun j v hj => ⟨(key j v hj).1, (key j v hj).2.1, (key j v hj).2.2.1⟩) fun j v hj => (key j v hj).2.2.2

theorem chkT_norm {env : Nat → Option Ent} {Z : Nat → Prop} {w : World} : ∀ (ks : List SK) (j : Nat) (l : List AVal) (cs : List Value), chkT true [] ks j l = true → l.length = j + ks.length → VRels env Z w l cs → VRels env Z w (decT [] ks j l) (cs.drop j)
  | [], j, l, cs, _, hl, hv => by
    have := hv.1
    rw [List.drop_eq_nil_of_le (by simp at hl; omega)]
    exact .nil
  | k :: ks, j, l, cs, hc, hl, hv => by
    simp only [chkT, Bool.and_eq_true] at hc
    simp only [List.length_cons] at hl
    have hlen := hv.1
    have hj : j < cs.length := by omega
    have hjl : j < l.length := by omega
    rw [List.drop_eq_getElem_cons hj]
    refine .cons (chkS1_norm hc.1 _ _ _ _ ?_) (chkT_norm ks (j + 1) l cs hc.2 (by omega) hv)
    have : cIa l j = l[j] := by simp [cIa, List.getD, hjl]
    rw [this]
    exact hv.2 j _ _ (by simp [hjl]) (by simp [hj])

theorem chkA_norm {ks : List SK} {us : List AVal} (h : chkA ks us = true) : NormOf us (decA ks us) := fun env Z w cs hv => by
  simp only [chkA, Bool.and_eq_true] at h
  have hl := nbeq_eq h.1
  have := chkT_norm (env := env) (Z := Z) (w := w) ks 0 us cs h.2 (by omega) hv
  rwa [List.drop_zero] at this
end Go.Proofs.YteiniiakpdijmaaDoor.AI
