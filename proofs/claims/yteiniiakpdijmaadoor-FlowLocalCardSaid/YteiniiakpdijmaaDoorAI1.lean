/- An interpreter of the model's code on abstract values: definitions. -/
import Derived.Orders
import Derived.LoopN
import Derived.Below
import Derived.KernelRfl
import Derived.Laws.MakeOwn
namespace Go.Proofs.YteiniiakpdijmaaDoor.AI
set_option linter.unusedVariables false

/-- Abstract values. -/
inductive AVal where
  | dead
  | sc (v : Value)
  | emp
  | agg (l : List AVal)
  | tup (l : List AVal)
  | ro (E : Nat) (rows : List (List AVal))
  | rptr (l : List AVal)
  | slc (k n : Nat)
  | ref (k n i j : Nat)
  | clo (f : FuncId) (l : List AVal)
  /-- Slice number 'i' of the slices in block 'k', while a region lasts ('st': 0: as it lies there; 1: to be stored there). -/
  | inn (k n i st : Nat)
  /-- A pointer to its element 'j'. -/
  | ipt (k n i j E : Nat)
  deriving Inhabited

inductive BKind where
  | box | arr | frz
  /-- An own array of own slices (of type 'T', of 'E' cells): 0: at rest; 1: a slice is to be stored; 2: it was stored. -/
  | ns (st T E : Nat)
  /-- No rows: a call that was put off. -/
  | dfr (f : FuncId) (l : List AVal)

/-- No plain array. -/
def BKind.isBox : BKind → Bool | .arr | .frz | .dfr _ _ => false | _ => true
def BKind.isBx : BKind → Bool | .box => true | _ => false
def BKind.isD : BKind → Bool | .dfr _ _ => true | _ => false
def BKind.dl : BKind → List AVal | .dfr _ l => l | _ => []
def BKind.isNs : BKind → Bool | .ns _ _ _ => true | _ => false
def BKind.st : BKind → Nat | .ns st _ _ => st | _ => 0
def BKind.isArr : BKind → Bool | .arr => true | _ => false

structure Blk where
  kind : BKind
  T : TypeId
  E : Nat
  rows : List (List AVal)

instance : Inhabited Blk := ⟨⟨.box, 0, 0, []⟩⟩

/-- What a cell of a type holds. -/
inductive LT where
  | int (k : IntKind)
  | bool
  | str
  | sl (T : TypeId) (E : Nat)
  | other

structure TI where
  desc : TypeDesc
  size : Nat
  bytes : Nat
  zero : List Value
  leaf : List LT
  eqOk : Bool

def toI : AVal → Int | .sc (.int _ n) => n | _ => 0
def toB : AVal → Bool | .sc (.bool b) => b | _ => false
def toS : AVal → ByteArray | .sc (.string s) => s | _ => ⟨#[]⟩
def roE : AVal → Nat | .ro E _ => E | _ => 0
def roRows : AVal → List (List AVal) | .ro _ r => r | _ => []
def aggL : AVal → List AVal | .agg l => l | _ => []
def tupL : AVal → List AVal | .tup l => l | _ => []

def kEq : IntKind → IntKind → Bool
  | .i8, .i8 | .i16, .i16 | .i32, .i32 | .i64, .i64 | .u8, .u8 | .u16, .u16 | .u32, .u32 | .u64, .u64 => true
  | _, _ => false

def isRp : AVal → Bool
  | .rptr _ => true
  | _ => false
def chkL : LT → AVal → Bool
  | .int k, .sc (.int k' _) => kEq k k'
  | .bool, .sc (.bool _) => true
  | .str, .sc (.string _) => true
  | .sl _ E, .ro E' rows => Nat.beq E' E || rows.isEmpty
  | .sl _ _, .emp => true
  | .other, .clo _ l => l.all isRp
  | _, _ => false

def decL : LT → AVal → AVal
  | .int k, v => .sc (.int k (toI v))
  | .bool, v => .sc (.bool (toB v))
  | .str, v => .sc (.string (toS v))
  | .sl _ E, v => .ro E (roRows v)
  | .other, v => v

def chkFrom : List LT → Nat → List AVal → Bool
  | [], _, _ => true
  | t :: ts, j, r => chkL t (r.getD j .dead) && chkFrom ts (j + 1) r
def chk (ts : List LT) (r : List AVal) : Bool := Nat.beq r.length ts.length && chkFrom ts 0 r
def decFrom : List LT → Nat → List AVal → List AVal
  | [], _, _ => []
  | t :: ts, j, r => decL t (r.getD j .dead) :: decFrom ts (j + 1) r
def dec (ts : List LT) (r : List AVal) : List AVal := decFrom ts 0 r

/-- Single cells. -/
def oneC : Value → Bool
  | .agg _ | .tuple _ => false
  | _ => true
def flat : AVal → Bool
  | .sc v => oneC v
  | .emp => true
  | .ro _ _ => true
  | .rptr _ => true
  | .clo _ l => l.all isRp
  | _ => false
def niK : AVal → Bool
  | .agg _ | .tup _ | .clo _ _ | .inn _ _ _ _ | .ipt _ _ _ _ _ => false
  | _ => true
def cellOk : AVal → Bool
  | .sc v => oneC v
  | .emp | .ro _ _ | .rptr _ | .slc _ _ | .ref _ _ _ _ => true
  | .clo _ l => l.all niK
  | _ => false

def ofCell : Value → AVal
  | .slice none 0 0 => .emp
  | v => .sc v

/-- A constant. -/
def ofConst : Value → AVal
  | .slice none 0 0 => .emp
  | .agg cs => .agg (cs.toList.map ofCell)
  | v => .sc v

structure St where
  tmps : List AVal
  heap : List (Nat × Blk)

def lookK : List (Nat × Blk) → Nat → Option Blk
  | [], _ => none
  | (k', b) :: h, k => bif Nat.beq k' k then some b else lookK h k
def putK : List (Nat × Blk) → Nat → Blk → List (Nat × Blk)
  | [], k, b => [(k, b)]
  | (k', b') :: h, k, b => bif Nat.beq k' k then (k, b) :: h else (k', b') :: putK h k b
def setAt : List AVal → Nat → AVal → List AVal
  | [], _, _ => []
  | _ :: l, 0, v => v :: l
  | x :: l, n + 1, v => x :: setAt l n v

inductive Loc where
  | tmp (t : Nat)
  | key (k : Nat)
  deriving DecidableEq
def Loc.beq : Loc → Loc → Bool
  | .tmp a, .tmp b => Nat.beq a b
  | .key a, .key b => Nat.beq a b
  | _, _ => false

structure Ev where
  wr : Bool
  loc : Loc

/-- What a call answers: the value, what became of the blocks handed over, the new arrays. -/
structure CR where
  pre : Bool
  res : AVal
  outs : List (List (List AVal))
  news : List Blk

/-- What is told of a call: its answer ('o'), and the same with what follows handed in ('q'). -/
structure Call where
  o : Option CR
  q : (CR → Option CR) → Option CR
  ok : ∀ K r, q K = some r → ∃ c, o = some c ∧ K c = some r

def Call.none : Call := ⟨Option.none, fun _ => Option.none, fun K r h => by cases h⟩
/-- A call that a function on plain data tells. -/
def Call.of {T : Type} (x : Option T) (enc : T → CR) : Call :=
  ⟨x.map enc, fun K => x.bind fun t => K (enc t), fun K r h => by
    cases x with
    | none => cases h
    | some t => exact ⟨enc t, rfl, h⟩⟩

/-- An answer where a test holds. -/
def Call.guard (b : Bool) (c : Call) : Call :=
  ⟨bif b then c.o else Option.none, fun K => bif b then c.q K else Option.none, fun K r h => by
    cases b with
    | false => cases h
    | true => exact c.ok K r h⟩

/-- Is a slice's length still its array's? -/
def verEq (a b : Nat) : Bool := Nat.beq a b

inductive AM (α : Type) : Type where
  | ret (a : α)
  | fail
  | test (b : Bool) (t e : AM α)
  | br (t : Nat) (kt ke : AM α) (ko : AVal → AM α)
  | getT (t : Nat) (k : AVal → AM α)
  | setT (t : Nat) (v : AVal) (k : AM α)
  | getK (key : Nat) (k : Option Blk → AM α)
  | setK (key : Nat) (b : Blk) (k : AM α)
  | row (o : Option (List AVal)) (k : List AVal → AM α)
  | call (c : Call) (k : CR → AM α)

def AM.bind {α β : Type} : AM α → (α → AM β) → AM β
  | .ret a, f => f a
  | .fail, _ => .fail
  | .test b t e, f => .test b (t.bind f) (e.bind f)
  | .br t kt ke ko, f => .br t (kt.bind f) (ke.bind f) fun v => (ko v).bind f
  | .getT t k, f => .getT t fun v => (k v).bind f
  | .setT t v k, f => .setT t v (k.bind f)
  | .getK key k, f => .getK key fun o => (k o).bind f
  | .setK key b k, f => .setK key b (k.bind f)
  | .row o k, f => .row o fun r => (k r).bind f
  | .call c k, f => .call c fun r => (k r).bind f

/-- The run on lists, with what follows handed in. -/
def AM.run {α : Type} : AM α → St → List Ev → (α → St → List Ev → Option CR) → Option CR
  | .ret a, s, es, k => k a s es
  | .fail, _, _, _ => none
  | .test b t e, s, es, k => bif b then t.run s es k else e.run s es k
  | .br t kt ke ko, s, es, k =>
    match s.tmps.getD t .dead with
    | .sc (.bool b) => bif b then kt.run ⟨setAt s.tmps t (.sc (.bool true)), s.heap⟩ (⟨false, .tmp t⟩ :: es) k
        else ke.run ⟨setAt s.tmps t (.sc (.bool false)), s.heap⟩ (⟨false, .tmp t⟩ :: es) k
    | v => (ko v).run s (⟨false, .tmp t⟩ :: es) k
  | .getT t kk, s, es, k => (kk (s.tmps.getD t .dead)).run s (⟨false, .tmp t⟩ :: es) k
  | .setT t v kk, s, es, k => bif Nat.blt t s.tmps.length then kk.run ⟨setAt s.tmps t v, s.heap⟩ (⟨true, .tmp t⟩ :: es) k else none
  | .getK key kk, s, es, k => (kk (lookK s.heap key)).run s (⟨false, .key key⟩ :: es) k
  | .setK key b kk, s, es, k => kk.run ⟨s.tmps, putK s.heap key b⟩ (⟨true, .key key⟩ :: es) k
  | .row o kk, s, es, k => o.bind fun r => (kk r).run s es k
  | .call c kk, s, es, k => c.q fun r => (kk r).run s es k

/-! ### Operations -/
section
variable (TT : TypeId → Option TI) (TU : TypeId → Option (List TypeId)) (GL : Nat → Option (List AVal)) (C : FuncId → List AVal → List Blk → Call) (ownF : FuncId → Bool)

def evalO : Operand → AM AVal
  | .tmp t => .getT t .ret
  | .const v => .ret (ofConst v)
  | .global g => match GL g with | some l => .ret (.rptr l) | none => .fail
  | .func f => .ret (.clo f [])

def evalOs : List Operand → AM (List AVal)
  | [] => .ret []
  | x :: xs => (evalO GL x).bind fun v => (evalOs xs).bind fun vs => .ret (v :: vs)

/-- The cells of a value. -/
def cellsA : AVal → List AVal
  | .agg l => l
  | v => [v]

def isAggD : TypeDesc → Bool
  | .struct _ | .array _ _ => true
  | _ => false

def newBlk (kk : Nat) (b : Blk) (v : AVal) : AM AVal :=
  .getK kk fun o => match o with
    | some _ => .fail
    | none => .setK kk b (.ret v)

/-- 'cs' at 'off' of 'r'. -/
def splice (r : List AVal) (off : Nat) (cs : List AVal) : List AVal := r.take off ++ cs ++ r.drop (off + cs.length)

/-- 'cs' at 'j' of a row of 'E' cells. -/
def put (E : Nat) (r : List AVal) (j : Nat) (cs : List AVal) : List AVal := bif Nat.beq j 0 && Nat.beq cs.length E then cs else splice r j cs

def cellish : AVal → Bool
  | .agg _ => true
  | v => cellOk v

def fillA (place : Nat → Option (Nat × Nat)) : List AVal → List (Nat × AVal) → Option (List AVal)
  | cells, [] => some cells
  | cells, (i, v) :: rest => match place i with
    | none => none
    | some (off, size) =>
      if (cellsA v).length ≠ size || off + (cellsA v).length > cells.length || !cellish v then none
      else fillA place (splice cells off (cellsA v)) rest

def chunk (E : Nat) : Nat → List AVal → List (List AVal)
  | 0, _ => []
  | n + 1, l => l.take E :: chunk E n (l.drop E)

/-- A value of a type out of cells that begin here. -/
def loadA (t : TypeId) (cells : List AVal) : AM AVal :=
  match TT t with
  | none => .fail
  | some ti =>
    if isAggD ti.desc then .test (Nat.ble ti.size cells.length) (.ret (.agg (cells.take ti.size))) .fail
    else match cells with
      | c :: _ => .ret c
      | [] => .fail

/-- A struct's equality as one Bool. -/
def eqV (t : TypeId) (x y : Value) : Option Bool :=
    match TT t with
    | none => none
    | some ti => match ti.desc, x, y with
      | .bool, .bool a, .bool b => some (a == b)
      | .int _, .int k a, .int k' b => if kEq k k' then some (a == b) else none
      | .string, .string a, .string b => some (a == b)
      | _, _, _ => none

def eqFields (fs : List Field) (xs ys : List AVal) : Option Bool :=
  match fs with
  | [] => some true
  | f :: rest =>
    match xs[f.offset]?, ys[f.offset]? with
    | some (.sc x), some (.sc y) =>
      match (if f.name = "_" then none else eqV TT f.type x y), eqFields rest xs ys with
      | some b, some c => some (match rest with | [] => b | _ => b && c)
      | _, _ => none
    | _, _ => none

/-- A struct in a struct. -/
def eqSub (t : TypeId) (xs ys : List AVal) : Option Bool :=
  match TT t with
  | none => none
  | some ti => match ti.desc with
    | .struct gs => if ti.eqOk then (if Nat.ble ti.size xs.length && Nat.ble ti.size ys.length then eqFields TT gs.toList (xs.take ti.size) (ys.take ti.size) else none) else none
    | _ => none
def eqField (f : Field) (xs ys : List AVal) : Option Bool :=
  if f.name = "_" then none else
  match xs[f.offset]?, ys[f.offset]? with
  | some (.sc x), some (.sc y) => match eqV TT f.type x y with
    | some b => some b
    | none => eqSub TT f.type (xs.drop f.offset) (ys.drop f.offset)
  | _, _ => none
def eqFieldsN (fs : List Field) (xs ys : List AVal) : Option Bool :=
  match fs with
  | [] => some true
  | f :: rest => match eqField TT f xs ys, eqFieldsN rest xs ys with
    | some b, some c => some (cond rest.isEmpty b (b && c))
    | _, _ => none

/-- Operators on whole numbers, Bools and strings. -/
def binA (op : BinOp) (x y : Value) : AM AVal :=
  match op, x, y with
  | .add, .int k a, .int k' b => if kEq k k' then .ret (.sc (.int k (k.wrap (a + b)))) else .fail
  | .sub, .int k a, .int k' b => if kEq k k' then .ret (.sc (.int k (k.wrap (a - b)))) else .fail
  | .mul, .int k a, .int k' b => if kEq k k' then .ret (.sc (.int k (k.wrap (a * b)))) else .fail
  | .quo, .int k a, .int k' b => if kEq k k' then .test (b == 0) .fail (.ret (.sc (.int k (k.wrap (a.tdiv b))))) else .fail
  | .rem, .int k a, .int k' b => if kEq k k' then .test (b == 0) .fail (.ret (.sc (.int k (a.tmod b)))) else .fail
  | .or, .int k a, .int k' b => if kEq k k' then .ret (.sc (.int k (k.wrap ((BitVec.ofInt k.bits a ||| BitVec.ofInt k.bits b).toNat : Int)))) else .fail
  | .and, .int k a, .int k' b => if kEq k k' then .ret (.sc (.int k (k.wrap ((BitVec.ofInt k.bits a &&& BitVec.ofInt k.bits b).toNat : Int)))) else .fail
  | .eql, .int k a, .int k' b => if kEq k k' then .ret (.sc (.bool (a == b))) else .fail
  | .neq, .int k a, .int k' b => if kEq k k' then .ret (.sc (.bool (a != b))) else .fail
  | .lss, .int k a, .int k' b => if kEq k k' then .ret (.sc (.bool (decide (a < b)))) else .fail
  | .leq, .int k a, .int k' b => if kEq k k' then .ret (.sc (.bool (decide (a ≤ b)))) else .fail
  | .gtr, .int k a, .int k' b => if kEq k k' then .ret (.sc (.bool (decide (a > b)))) else .fail
  | .geq, .int k a, .int k' b => if kEq k k' then .ret (.sc (.bool (decide (a ≥ b)))) else .fail
  | .shr, .int k a, .int _ b => .test (decide (b < 0)) .fail (.ret (.sc (.int k (a.fdiv (2 ^ (min b.toNat k.bits))))))
  | .shl, .int k a, .int _ b => .test (decide (b < 0)) .fail (.ret (.sc (.int k (k.wrap (a * 2 ^ (min b.toNat k.bits))))))
  | .eql, .string a, .string b => .ret (.sc (.bool (a.toList == b.toList)))
  | .neq, .string a, .string b => .ret (.sc (.bool (!(a.toList == b.toList))))
  | .lss, .string a, .string b => .ret (.sc (.bool (Op.bytesLess a.toList b.toList)))
  | .leq, .string a, .string b => .ret (.sc (.bool (Op.bytesLess a.toList b.toList || a.toList == b.toList)))
  | .gtr, .string a, .string b => .ret (.sc (.bool (!(Op.bytesLess a.toList b.toList || a.toList == b.toList))))
  | .geq, .string a, .string b => .ret (.sc (.bool (!(Op.bytesLess a.toList b.toList))))
  | _, _, _ => .fail

def binOpA (op : BinOp) (t : TypeId) (x y : AVal) : AM AVal :=
  match x, y with
  | .sc (.bool a), .sc (.bool b) =>
    match op, TT t with
    | .eql, some ti => match ti.desc with | .bool => .ret (.sc (.bool (a == b))) | _ => .fail
    | .neq, some ti => match ti.desc with | .bool => .ret (.sc (.bool (!(a == b)))) | _ => .fail
    | _, _ => .fail
  | .sc a, .sc b => binA op a b
  | .agg a, .agg b =>
    match op, TT t with
    | .eql, some ti => match ti.desc with
      | .struct fs => if ti.eqOk then (match eqFieldsN TT fs.toList a b with | some r => .ret (.sc (.bool r)) | none => .fail) else .fail
      | _ => .fail
    | .neq, some ti => match ti.desc with
      | .struct fs => if ti.eqOk then (match eqFieldsN TT fs.toList a b with | some r => .ret (.sc (.bool (!r))) | none => .fail) else .fail
      | _ => .fail
    | _, _ => .fail
  | _, _ => .fail

def unOpA (op : UnOp) (x : AVal) : AM AVal :=
  match op, x with
  | .neg, .sc (.int k n) => .ret (.sc (.int k (k.wrap (0 - n))))
  | .not, .sc (.bool b) => .ret (.sc (.bool (!b)))
  | _, _ => .fail

def convA (dst : TypeId) (x : AVal) : AM AVal :=
  match TT dst, x with
  | some ti, .sc (.int _ n) => match ti.desc with | .int k => .ret (.sc (.int k (k.wrap n))) | _ => .fail
  | _, _ => .fail

/-- The rows that a slice reads. -/
def rowsOfA (v : AVal) : AM (Nat × List (List AVal)) :=
  match v with
  | .emp => .ret (0, [])
  | .ro E r => .ret (E, r)
  | .sc (.slice _ 0 _) => .ret (0, [])
  | .slc k n => .getK k fun o => match o with
    | some b => bif b.kind.isBox then .fail else .test (verEq b.rows.length n) (.ret (b.E, b.rows)) .fail
    | none => .fail
  | _ => .fail

/-- The rows of slice number 'i'. -/
def innRow (T E : Nat) (b : Blk) (i : Nat) : AM (List (List AVal)) :=
  .row (b.rows[i]?) fun r => .test (chk [.sl T E] r) (.ret (roRows (r.getD 0 .dead))) .fail

/-- One of the places q, q + 1, .. -/
def pickIx (i : Int) (f : Nat → AM AVal) : Nat → Nat → AM AVal
  | _, 0 => .fail
  | q, m + 1 => .test (decide (i = q)) (f q) (pickIx i f (q + 1) m)

def indexAddrA (t : TypeId) (x : AVal) (i : Int) : AM AVal :=
  match TT t with
  | none => .fail
  | some ti => match ti.desc with
    | .slice e => match TT e with
      | none => .fail
      | some te => match x with
        | .ro E rows => .test (decide (0 ≤ i)) (.row (rows[i.toNat]?) fun r => .test (chk te.leaf r) (.ret (.rptr (dec te.leaf r))) .fail) .fail
        | .slc k n => .getK k fun o => match o with
          | some b => bif (b.kind.isBox && !b.kind.isNs) || !(Nat.beq b.E te.size) then .fail else .test (verEq b.rows.length n && decide (0 ≤ i) && decide (i < b.rows.length)) (.ret (.ref k n i.toNat 0)) .fail
          | none => .fail
        | .inn k n q st => .getK k fun o => match o with
          | some b => match b.kind with
            | .ns 0 T E => bif Nat.beq st 0 && Nat.beq E te.size then .test (verEq b.rows.length n) ((innRow T E b q).bind fun rr =>
                .test (decide (0 ≤ i) && decide (i < rr.length)) (.ret (.ipt k n q i.toNat E)) .fail) .fail else .fail
            | _ => .fail
          | none => .fail
        | _ => .fail
    | .array len e => match TT e with
      | none => .fail
      | some te => match x with
        | .rptr l => .test (decide (0 ≤ i) && decide (i < len) && Nat.ble (len * te.size) l.length) (.row ((chunk te.size len l)[i.toNat]?) fun r => .test (chk te.leaf r) (.ret (.rptr (dec te.leaf r))) .fail) .fail
        | .ref k n i0 j => .getK k fun o => match o with
          | some b => .test (verEq b.rows.length n) (pickIx i (fun q => .ret (.ref k n i0 (j + q * te.size))) 0 len) .fail
          | none => .fail
        | _ => .fail
    | _ => .fail

/-- A byte of a string. -/
def byteA (s : ByteArray) (i : Int) : Int := ((s.data.toList.getD i.toNat 0).toNat : Int)
def indexA (t : TypeId) (x : AVal) (i : Int) : AM AVal :=
  match TT t with
  | none => .fail
  | some ti => match ti.desc with
    | .array len e => match TT e with
      | none => .fail
      | some te => match x with
        | .agg l => .test (decide (0 ≤ i) && decide (i < len) && Nat.beq (len * te.size) l.length) (.row ((chunk te.size len l)[i.toNat]?) fun r => .test (chk te.leaf r) (loadA TT e (dec te.leaf r)) .fail) .fail
        | _ => .fail
    | .string => match x with
      | .sc (.string s) => .test (decide (0 ≤ i) && decide (i < s.size)) (.ret (.sc (.int .u8 (byteA s i)))) .fail
      | _ => .fail
    | _ => .fail

def optInt (x : Option AVal) (d : Int) : AM Int :=
  match x with
  | none => .ret d
  | some (.sc (.int _ n)) => .ret n
  | _ => .fail

def evalOpt : Option Operand → AM (Option AVal)
  | none => .ret none
  | some x => (evalO GL x).bind fun v => .ret (some v)

def sliceA (sz : Nat) (x : AVal) (lo hi : Option AVal) : AM AVal :=
  match x with
  | .ro E rows => (optInt hi rows.length).bind fun h => (optInt lo 0).bind fun l =>
      .test (decide (0 ≤ l) && decide (l ≤ h) && decide (h ≤ rows.length) && (Nat.beq E sz || rows.isEmpty)) (.ret (.ro E ((rows.take h.toNat).drop l.toNat))) .fail
  | _ => .fail

/-- A part of an inner slice: it is to be stored in its place. -/
def sliceN (sz k n q st : Nat) (lo hi : Option AVal) : AM AVal :=
  .getK k fun o => match o with
    | some b => match b.kind with
      | .ns 0 T E => bif Nat.beq st 0 && Nat.beq E sz then .test (verEq b.rows.length n) ((innRow T E b q).bind fun rows => (optInt hi rows.length).bind fun h => (optInt lo 0).bind fun l =>
          .test (decide (0 ≤ l) && decide (l ≤ h) && decide (h ≤ rows.length)) (.setK k ⟨.ns 1 T E, b.T, b.E, b.rows.set q [.ro E ((rows.take h.toNat).drop l.toNat)]⟩ (.ret (.inn k n q 1))) .fail) .fail else .fail
      | _ => .fail
    | none => .fail

def fieldAddrA (t : TypeId) (x : AVal) (f : Nat) : AM AVal :=
  match TT t with
  | none => .fail
  | some ti => match ti.desc with
    | .struct fs => match fs[f]? with
      | none => .fail
      | some fd => match TT fd.type with
        | none => .fail
        | some tf => if tf.size = 0 then .fail else match x with
          | .ref k n i j => .getK k fun o => match o with
            | some b => .test (verEq b.rows.length n) (.ret (.ref k n i (j + fd.offset))) .fail
            | none => .fail
          | .rptr l => .ret (.rptr (l.drop fd.offset))
          | _ => .fail
    | _ => .fail

def fieldA (t : TypeId) (x : AVal) (f : Nat) : AM AVal :=
  match TT t with
  | none => .fail
  | some ti => match ti.desc with
    | .struct fs => match fs[f]? with
      | none => .fail
      | some fd => match x with
        | .agg l => loadA TT fd.type (l.drop fd.offset)
        | _ => .fail
    | _ => .fail

/-- A captured pointer that is handed to a call, told by the cells behind it (while the call lasts). -/
def snapCap (frz : Bool) (v : AVal) : AM AVal :=
  match v with
  | .rptr l => .ret (.rptr l)
  | .ref k n i j => bif frz then .fail else .getK k fun o => match o with
    | some b => match b.kind with
      | .box => match b.rows, i with
        | [r], 0 => .test (verEq b.rows.length n && r.all flat) (.ret (.rptr (r.drop j))) .fail
        | _, _ => .fail
      | _ => .fail
    | none => .fail
  | _ => .fail
def snapCaps (frz : Bool) : List AVal → AM (List AVal)
  | [] => .ret []
  | v :: vs => (snapCap frz v).bind fun u => (snapCaps frz vs).bind fun us => .ret (u :: us)

/-- A slice that is handed to a call, told by its rows; where the answer may hold slices, the array is frozen. -/
def snap (frz : Bool) (v : AVal) : AM AVal :=
  match v with
  | .emp => .ret (.ro 0 [])
  | .slc k n => .getK k fun o => match o with
    | some b => bif b.kind.isBox || b.kind.isD then .fail else .test (verEq b.rows.length n) (bif frz then .setK k ⟨.frz, b.T, b.E, b.rows⟩ (.ret (.ro b.E b.rows)) else .ret (.ro b.E b.rows)) .fail
    | none => .fail
  | .sc x => .ret (.sc x)
  | .ro E r => .ret (.ro E r)
  | .rptr l => .ret (.rptr l)
  | .clo f l => (snapCaps frz l).bind fun us => .ret (.clo f us)
  | _ => .fail

def snaps (frz : Bool) : List AVal → AM (List AVal)
  | [] => .ret []
  | v :: vs => (snap frz v).bind fun u => (snaps frz vs).bind fun us => .ret (u :: us)

def isEmpV : AVal → Bool | .emp => true | _ => false
/-- The same; cells that are all nil slices stay what they are. -/
def snapsE (l : List AVal) : AM (List AVal) := bif !l.isEmpty && l.all isEmpV then .ret l else snaps true l

def snapArg (frz : Bool) (v : AVal) : AM AVal :=
  match v with
  | .agg l => (snaps frz l).bind fun us => .ret (.agg us)
  | v => snap frz v

def snapArgs (frz : Bool) : List AVal → AM (List AVal)
  | [] => .ret []
  | v :: vs => (snapArg frz v).bind fun u => (snapArgs frz vs).bind fun us => .ret (u :: us)

def isSl : LT → Bool | .sl _ _ => true | .other => true | _ => false

/-- Is this cell new array number 'idx' of the call's? -/
def okNew (T : TypeId) (E : Nat) (v : AVal) (idx : Nat) (b : Blk) : Bool :=
  match v with
  | .slc k n => Nat.beq k idx && verEq b.rows.length n && b.kind.isArr && Nat.beq b.T T && Nat.beq b.E E
  | _ => false

def decM (own : Bool) (key0 : Nat) (news : List Blk) : List LT → Nat → List AVal → Nat → AM (List AVal × Nat)
  | [], _, _, idx => .ret ([], idx)
  | t :: ts, j, cells, idx =>
    match t, cells.getD j .dead with
    | .sl T E, .slc k n =>
      .test (Nat.blt idx news.length && okNew T E (.slc k n) idx (news.getD idx default))
        (.getK (key0 + idx) fun o => match o with
          | some _ => .fail
          | none => .setK (key0 + idx) ⟨.arr, T, E, (news.getD idx default).rows⟩
              ((decM own key0 news ts (j + 1) cells (idx + 1)).bind fun p => .ret (.slc (key0 + idx) (news.getD idx default).rows.length :: p.1, p.2)))
        .fail
    | t, _ => .test (chkL t (cells.getD j .dead)) ((decM own key0 news ts (j + 1) cells idx).bind fun p => .ret (decL t (cells.getD j .dead) :: p.1, p.2)) .fail

/-- A call's value, by its type. -/
def decV (own : Bool) (key0 : Nat) (news : List Blk) (t : TypeId) (v : AVal) (idx : Nat) : AM (AVal × Nat) :=
  match TT t with
  | none => .fail
  | some ti =>
    if isAggD ti.desc then .test (match v with | .agg l => Nat.beq l.length ti.leaf.length | _ => false)
      ((decM own key0 news ti.leaf 0 (aggL v) idx).bind fun p => .ret (.agg p.1, p.2)) .fail
    else match ti.leaf with
      | [l] => (decM own key0 news [l] 0 [v] idx).bind fun p => match p.1 with | [u] => .ret (u, p.2) | _ => .fail
      | _ => .fail

def decTup (own : Bool) (key0 : Nat) (news : List Blk) : List TypeId → Nat → List AVal → Nat → AM (List AVal × Nat)
  | [], _, _, idx => .ret ([], idx)
  | t :: ts, j, l, idx => (decV TT own key0 news t (l.getD j .dead) idx).bind fun p => (decTup own key0 news ts (j + 1) l p.2).bind fun q => .ret (p.1 :: q.1, q.2)

def decRes (own : Bool) (key0 : Nat) (t : TypeId) (r : CR) : AM AVal :=
  match TU t with
  | some ts => .test (match r.res with | .tup l => Nat.beq l.length ts.length | _ => false)
        ((decTup TT own key0 r.news ts 0 (tupL r.res) 0).bind fun p => .ret (.tup p.1)) .fail
  | none => (decV TT own key0 r.news t r.res 0).bind fun p => .ret p.1

/-- May the answer hold slices? -/
def mayHold (t : TypeId) : Bool :=
  match TU t with
  | some ts => ts.any fun u => match TT u with | none => true | some tu => tu.leaf.any isSl
  | none => match TT t with
    | none => true
    | some ti => ti.leaf.any isSl

/-! ### Calls that are handed blocks -/
/-- Functions that are handed the arrays of their slices: told by 'ownF' at this number and the function. -/
def handTag : Nat := 3000000000
/-- Types whose loads are told by rows: the arrays are frozen. -/
def snapTag : Nat := 500000000
def isRef : AVal → Bool
  | .ref _ _ _ _ => true
  | _ => false
/-- The blocks that a cell leads to. -/
def rootsC : AVal → List Nat
  | .ref k _ _ _ => [k]
  | .slc k _ => [k]
  | _ => []
def rootsV : AVal → List Nat
  | .agg l => l.flatMap rootsC
  | v => rootsC v
def blkKeys (b : Blk) : List Nat := bif b.kind.isBx then b.rows.flatMap fun r => r.flatMap rootsC else []
def collect : Nat → List Nat → List (Nat × Blk) → AM (List (Nat × Blk))
  | 0, _, _ => .fail
  | _ + 1, [], acc => .ret acc
  | n + 1, k :: todo, acc => bif (lookK acc k).isSome then collect n todo acc else .getK k fun o => match o with
    | some b => collect n (todo ++ blkKeys b) (acc ++ [(k, b)])
    | none => .fail
/-- A key's place. -/
def idxK : List (Nat × Blk) → Nat → Nat → Option Nat
  | [], _, _ => none
  | (k', _) :: l, k, i => bif Nat.beq k' k then some i else idxK l k (i + 1)
def renC (acc : List (Nat × Blk)) : AVal → Option AVal
  | .ref k n i j => match idxK acc k 0 with | some q => some (.ref q n i j) | none => none
  | .slc k n => match idxK acc k 0 with | some q => some (.slc q n) | none => none
  | v => bif flat v then some v else none
def renCs (acc : List (Nat × Blk)) : List AVal → Option (List AVal)
  | [] => some []
  | v :: vs => match renC acc v, renCs acc vs with | some u, some us => some (u :: us) | _, _ => none
def renV (acc : List (Nat × Blk)) : AVal → Option AVal
  | .agg l => match renCs acc l with | some us => some (.agg us) | none => none
  | v => renC acc v
def renVs (acc : List (Nat × Blk)) : List AVal → Option (List AVal)
  | [] => some []
  | v :: vs => match renV acc v, renVs acc vs with | some u, some us => some (u :: us) | _, _ => none
def renRows (acc : List (Nat × Blk)) : List (List AVal) → Option (List (List AVal))
  | [] => some []
  | v :: vs => match renCs acc v, renRows acc vs with | some u, some us => some (u :: us) | _, _ => none
def renBlk (acc : List (Nat × Blk)) (b : Blk) : Option Blk :=
  match b.kind with
  | .box => match renRows acc b.rows with | some rows => some ⟨.box, b.T, b.E, rows⟩ | none => none
  | .arr => some b
  | .frz => none
  | .ns st _ _ => bif Nat.beq st 0 then some b else none
  | .dfr _ _ => none
def renBlks (acc : List (Nat × Blk)) : List (Nat × Blk) → Option (List Blk)
  | [] => some []
  | (_, b) :: l => match renBlk acc b, renBlks acc l with | some u, some us => some (u :: us) | _, _ => none
/-- The way back. -/
def backC (acc : List (Nat × Blk)) : AVal → Option AVal
  | .ref q n i j => match acc[q]? with | some p => some (.ref p.1 n i j) | none => none
  | .slc q n => match acc[q]? with | some p => some (.slc p.1 n) | none => none
  | v => bif flat v then some v else none
def backCs (acc : List (Nat × Blk)) : List AVal → Option (List AVal)
  | [] => some []
  | v :: vs => match backC acc v, backCs acc vs with | some u, some us => some (u :: us) | _, _ => none
def backRows (acc : List (Nat × Blk)) : List (List AVal) → Option (List (List AVal))
  | [] => some []
  | v :: vs => match backCs acc v, backRows acc vs with | some u, some us => some (u :: us) | _, _ => none
def backBlk (acc : List (Nat × Blk)) (b : Blk) (rows : List (List AVal)) : Option Blk :=
  match b.kind with
  | .box => (match backRows acc rows with | some rows' => some ⟨.box, b.T, b.E, rows'⟩ | none => none)
  | .ns st T E => bif Nat.beq st 0 then some ⟨.ns 2 T E, b.T, b.E, rows⟩ else none
  | k => some ⟨k, b.T, b.E, rows⟩
def putBack (acc : List (Nat × Blk)) : List (Nat × Blk) → List (List (List AVal)) → AM Unit
  | [], [] => .ret ()
  | (k, b) :: l, rows :: os => match backBlk acc b rows with | some b' => .setK k b' (putBack acc l os) | none => .fail
  | _, _ => .fail
def decHV (t : TypeId) (v : AVal) : Option AVal :=
  match TT t with
  | none => none
  | some ti =>
    if isAggD ti.desc then (match v with | .agg l => bif chk ti.leaf l then some (.agg (dec ti.leaf l)) else none | _ => none)
    else match ti.leaf with
      | [l] => bif chkL l v then some (decL l v) else none
      | _ => none
def decHT : List TypeId → List AVal → Option (List AVal)
  | [], [] => some []
  | t :: ts, v :: vs => match decHV TT t v, decHT ts vs with | some u, some us => some (u :: us) | _, _ => none
  | _, _ => none
def decRH (acc : List (Nat × Blk)) (t : TypeId) (res : AVal) : Option AVal :=
  match res with
  | .slc q n => match acc[q]? with | some p => some (.slc p.1 n) | none => none
  | .tup [] => some (.tup [])
  | .tup l => match TU t with
    | some ts => match decHT TT ts l with | some us => some (.tup us) | none => none
    | none => none
  | res => match TU t with
    | some _ => none
    | none => decHV TT t res
def callH (t : TypeId) (f : FuncId) (args : List AVal) : AM AVal :=
  (collect 64 (args.flatMap rootsV) []).bind fun acc => match acc, renVs acc args, renBlks acc acc with
    | _ :: _, some us, some bs => .call (C f us bs) fun r => .test (r.pre && r.news.isEmpty) ((putBack acc acc r.outs).bind fun _ => match decRH TT TU acc t r.res with | some u => .ret u | none => .fail) .fail
    | _, _, _ => .fail
def handed (f : FuncId) (args : List AVal) : Bool := args.any isRef || (ownF (handTag + f) && args.any fun v => !(rootsV v).isEmpty)
def callA (key0 : Nat) (t : TypeId) (f : FuncId) (args : List AVal) : AM AVal :=
  bif handed ownF f args then callH TT TU C t f args else
  (snapArgs (mayHold TT TU t) args).bind fun us => .call (C f us []) fun r => .test r.pre (decRes TT TU (ownF f) key0 t r) .fail

def maxI (a b : Int) : Int := if b > a then b else a
def minI (a b : Int) : Int := if b < a then b else a
def maxFrom (k : IntKind) : Int → List AVal → AM AVal
  | a, [] => .ret (.sc (.int k a))
  | a, .sc (.int k' b) :: rest => if kEq k k' then maxFrom k (maxI a b) rest else .fail
  | _, _ => .fail
def minFrom (k : IntKind) : Int → List AVal → AM AVal
  | a, [] => .ret (.sc (.int k a))
  | a, .sc (.int k' b) :: rest => if kEq k k' then minFrom k (minI a b) rest else .fail
  | _, _ => .fail
def maxA : List AVal → AM AVal
  | .sc (.int k a) :: rest => maxFrom k a rest
  | _ => .fail
def minA : List AVal → AM AVal
  | .sc (.int k a) :: rest => minFrom k a rest
  | _ => .fail

def roomOk (n bytes : Nat) : Bool := decide (n ≤ 140737488355328) && decide (n * bytes ≤ 140737488355328)

def sameArr (k : Nat) : AVal → Bool
  | .slc k' _ => Nat.beq k k'
  | _ => false

def isEmpR : List AVal → Bool
  | [.emp] => true
  | _ => false
/-- More nil slices. -/
def appendO (k n : Nat) (b : Blk) (T E : Nat) (e : TypeId) (te : TI) (rows : List (List AVal)) : AM AVal :=
  bif Nat.beq b.T e && Nat.beq te.size 1 && rows.all isEmpR && !rows.isEmpty then
    .test (verEq b.rows.length n && roomOk (b.rows.length + rows.length) te.bytes)
      (.setK k ⟨.ns 0 T E, e, 1, b.rows ++ rows.map (fun _ => [.ro E []])⟩ (.ret (.slc k (b.rows.length + rows.length)))) .fail else .fail
/-- More elements of an inner slice: it is to be stored in its place. -/
def appendN (k n q st : Nat) (e : TypeId) (te : TI) (E' : Nat) (rows : List (List AVal)) : AM AVal :=
  .getK k fun o => match o with
    | some b => match b.kind with
      | .ns 0 T E => bif Nat.beq st 0 && Nat.beq T e && Nat.beq E te.size then .test (verEq b.rows.length n) ((innRow T E b q).bind fun rr =>
          .test ((Nat.beq E' te.size || rows.isEmpty) && roomOk (rr.length + rows.length) te.bytes)
            (.setK k ⟨.ns 1 T E, b.T, b.E, b.rows.set q [.ro E (rr ++ rows)]⟩ (.ret (.inn k n q 1))) .fail) .fail else .fail
      | _ => .fail
    | none => .fail
def appendA (key0 : Nat) (t : TypeId) (s x : AVal) : AM AVal :=
  match TT t with
  | none => .fail
  | some ti => match ti.desc with
    | .slice e => match TT e with
      | none => .fail
      | some te =>
        (rowsOfA x).bind fun p =>
        if te.size = 0 then .fail else
        match s with
        | .slc k n => .getK k fun o => match o with
          | some b => match b.kind with
            | .ns 0 T E => appendO k n b T E e te p.2
            | _ => bif !b.kind.isArr || !(Nat.beq b.T e) || !(Nat.beq b.E te.size) || sameArr k x then .fail else
              .test (verEq b.rows.length n && (Nat.beq p.1 te.size || p.2.isEmpty) && roomOk (b.rows.length + p.2.length) te.bytes)
                (.setK k ⟨.arr, e, te.size, b.rows ++ p.2⟩ (.ret (.slc k (b.rows ++ p.2).length))) .fail
          | none => .fail
        | .inn k n q st => appendN k n q st e te p.1 p.2
        | .emp => .test ((Nat.beq p.1 te.size || p.2.isEmpty) && roomOk p.2.length te.bytes)
            (newBlk key0 ⟨.arr, e, te.size, p.2⟩ (.slc key0 p.2.length)) .fail
        | _ => .fail
    | _ => .fail

def lenA (t : TypeId) (v : AVal) : AM AVal :=
  match TT t with
  | none => .fail
  | some ti => match ti.desc with
    | .string => match v with | .sc (.string s) => .ret (.sc (.int .i64 s.size)) | _ => .fail
    | .slice _ => match v with
      | .inn k n q st => .getK k fun o => match o with
        | some b => match b.kind with
          | .ns 0 T E => bif Nat.beq st 0 then .test (verEq b.rows.length n) ((innRow T E b q).bind fun rr => .ret (.sc (.int .i64 rr.length))) .fail else .fail
          | _ => .fail
        | none => .fail
      | .slc k n => .getK k fun o => match o with
        | some b => bif b.kind.isNs then .test (verEq b.rows.length n) (.ret (.sc (.int .i64 b.rows.length))) .fail
            else (rowsOfA (.slc k n)).bind fun p => .ret (.sc (.int .i64 p.2.length))
        | none => .fail
      | v => (rowsOfA v).bind fun p => .ret (.sc (.int .i64 p.2.length))
    | .array n _ => .ret (.sc (.int .i64 n))
    | _ => .fail

/-- What lies there behind a copy. -/
def copyR (old src : List (List AVal)) : List (List AVal) := src.take old.length ++ old.drop src.length
@[simp] theorem copyR_length (old src : List (List AVal)) : (copyR old src).length = old.length := by
  unfold copyR
  rw [List.length_append, List.length_take, List.length_drop]
  omega
/-- copy: what fits goes over (elements of one cell). -/
def copyA (t : TypeId) (d x : AVal) : AM AVal :=
  match TT t with
  | none => .fail
  | some ti => match ti.desc with
    | .slice e => match TT e with
      | none => .fail
      | some te => if !(Nat.beq te.size 1) then .fail else
        (rowsOfA x).bind fun p => match d with
        | .slc k n => .getK k fun o => match o with
          | some b => bif !b.kind.isArr || !(Nat.beq b.E te.size) || sameArr k x then .fail else
              .test (verEq b.rows.length n && (Nat.beq p.1 te.size || p.2.isEmpty))
                (.setK k ⟨.arr, b.T, b.E, copyR b.rows p.2⟩ (.ret (.sc (.int .i64 (p.2.take b.rows.length).length)))) .fail
          | none => .fail
        | _ => .fail
    | _ => .fail

def builtinA (key0 : Nat) (b : Builtin) (ts : List TypeId) (args : List AVal) : AM AVal :=
  match b, ts, args with
  | .len, [t], [v] => lenA TT t v
  | .max, _, l => maxA l
  | .min, _, l => minA l
  | .append, [t, u], [s, x] => if t = u then appendA TT key0 t s x else .fail
  | .copy, [t, _], [d, x] => copyA TT t d x
  | _, _, _ => .fail

def storeA (t : TypeId) (x v : AVal) : AM AVal :=
  match TT t with
  | none => .fail
  | some ti => match x with
    | .ref k n i j => .getK k fun o => match o with
      | some b => bif !cellish v || !(Nat.ble (j + ti.size) b.E) then .fail else match b.kind with
        | .box => .test (verEq b.rows.length n && Nat.beq (cellsA v).length ti.size && (cellsA v).all cellOk)
            (.setK k ⟨.box, b.T, b.E, b.rows.set i (splice (b.rows.getD i []) j (cellsA v))⟩ (.ret (.sc undef))) .fail
        | .arr => (snaps true (cellsA v)).bind fun cs => .getK k fun o' => match o' with
          | some b' => bif b'.kind.isArr then .test (verEq b'.rows.length n && Nat.beq cs.length ti.size && cs.all flat && Nat.ble (j + ti.size) b'.E)
              (.setK k ⟨.arr, b'.T, b'.E, b'.rows.set i (put b'.E (b'.rows.getD i []) j cs)⟩ (.ret (.sc undef))) .fail else .fail
          | none => .fail
        | _ => .fail
      | none => .fail
    | _ => .fail

/-- An inner slice goes to its place. -/
def storeN (t : TypeId) (k n i j k' n' i' st : Nat) : AM AVal :=
  match TT t with
  | none => .fail
  | some ti => .getK k fun o => match o with
    | some b => match b.kind with
      | .ns 1 T E => bif Nat.beq st 1 && Nat.beq k k' && Nat.beq j 0 && Nat.beq ti.size 1 then
          .test (verEq b.rows.length n && verEq b.rows.length n' && Nat.beq i i') (.setK k ⟨.ns 2 T E, b.T, b.E, b.rows⟩ (.ret (.sc undef))) .fail else .fail
      | _ => .fail
    | none => .fail

def isSlT (t : TypeId) : Bool :=
  match TT t with
  | some ti => match ti.desc with | .slice _ => true | _ => false
  | none => false
def loadOp (t : TypeId) (x : AVal) : AM AVal :=
  match x with
  | .rptr l => loadA TT t l
  | .ref k n i j => .getK k fun o => match o with
    | some b => match b.kind with
      | .box => (.test (verEq b.rows.length n) (match b.rows, i with | [r], 0 => loadA TT t (r.drop j) | _, _ => .fail) .fail)
      | .ns st T E => bif Nat.beq st 0 && Nat.beq t b.T && Nat.beq j 0 && isSlT TT t then .test (verEq b.rows.length n) (.ret (.inn k n i 0)) .fail else .fail
      | _ => match TT b.T with
          | none => .fail
          | some te => .test (verEq b.rows.length n) (.row (b.rows[i]?) fun r => .test (chk te.leaf r) (loadA TT t ((dec te.leaf r).drop j)) .fail) .fail
    | none => .fail
  | .ipt k n q j E => .getK k fun o => match o with
    | some b => match b.kind with
      | .ns 0 T E' => bif Nat.beq E E' then match TT T with
          | none => .fail
          | some te => .test (verEq b.rows.length n) ((innRow T E b q).bind fun rr => .row (rr[j]?) fun r => .test (chk te.leaf r) (loadA TT t (dec te.leaf r)) .fail) .fail
        else .fail
      | _ => .fail
    | none => .fail
  | _ => .fail

def makeSliceA (key0 : Nat) (t : TypeId) (l c : AVal) : AM AVal :=
  match TT t with
  | none => .fail
  | some ti => match ti.desc with
    | .slice e => match TT e with
      | none => .fail
      | some te => match l, c with
        | .sc (.int .i64 n), .sc (.int .i64 m) => if te.size = 0 then .fail else
            .test (decide (n = m) && decide (0 ≤ n) && decide (n ≤ 9223372036854775807) && decide (te.bytes * n ≤ 140737488355328))
              (newBlk key0 ⟨.arr, e, te.size, List.replicate n.toNat (te.zero.map ofCell)⟩ (.slc key0 (List.replicate n.toNat (te.zero.map ofCell)).length)) .fail
        | _, _ => .fail
    | _ => .fail

/-- Boxes of type T that nobody writes: told by 'ownF' at this number and T. -/
def roTag : Nat := 1000000000
/-- A slice against nil. -/
def nilA (t : TypeId) (neg : Bool) (x : AVal) : AM AVal :=
  match TT t with
  | some ti => match ti.desc with
    | .slice _ => match x with
      | .ro _ rows => .test rows.isEmpty .fail (.ret (.sc (.bool neg)))
      | .sc (.slice a _ _) => .ret (.sc (.bool (bif neg then !a.isNone else a.isNone)))
      | _ => .fail
    | _ => .fail
  | none => .fail

/-- The kind of an own array of such elements: slices are own, too. -/
def nestK (T E : Nat) : BKind :=
  match TT T with
  | some te => match te.leaf with
    | [.sl T' E'] => bif isSlT TT T && Nat.beq E 1 then .ns 0 T' E' else .arr
    | _ => .arr
  | none => .arr
/-- A result's cell, in its type's form: nil slices become own arrays, or rows of that type. -/
def ownC (own : Bool) (key : Nat) : LT → AVal → AM AVal
  | .sl T E, .emp => bif own then newBlk key ⟨nestK TT T E, T, E, []⟩ (.slc key 0) else .ret (.ro E [])
  | .sl _ E, .ro E' r => .test (Nat.beq E' E || r.isEmpty) (.ret (.ro E r)) .fail
  | _, v => .ret v
def ownCs (own : Bool) : Nat → List LT → List AVal → AM (List AVal × Nat)
  | key, t :: ts, v :: vs => (ownC TT own key t v).bind fun u => (ownCs own (key + 1) ts vs).bind fun p => .ret (u :: p.1, p.2)
  | key, _, vs => .ret (vs, key)
def ownV (own : Bool) (key : Nat) (t : TypeId) (v : AVal) : AM (AVal × Nat) :=
  match TT t with
  | none => .ret (v, key)
  | some ti => match v with
    | .agg l => (ownCs TT own key ti.leaf l).bind fun p => .ret (.agg p.1, p.2)
    | v => match ti.leaf with
      | [lt] => (ownC TT own key lt v).bind fun u => .ret (u, key + 1)
      | _ => .ret (v, key)
/-- Values of type T whose empty slices are own arrays: told by 'ownF' at this number and T. -/
def ownTag : Nat := 2000000000
def doOp (key0 : Nat) (o : Oper) : AM AVal :=
  match o.op with
  | .move x => evalO GL x
  | .assign x => match x with
    | .const (.slice none 0 0) => match TT o.type with
      | some ti => match ti.desc with
        | .slice e => match TT e with
          | some te => if te.size = 0 then .fail else newBlk key0 ⟨.arr, e, te.size, []⟩ (.slc key0 0)
          | none => .fail
        | _ => .fail
      | none => .fail
    | x => evalO GL x
  | .pick c a b => match c with
    | .tmp t => .br t (evalO GL a) (evalO GL b) fun _ => .fail
    | _ => .fail
  | .alloc T => match TT T with
    | some ti => if ti.size = ti.zero.length then
        (bif ownF (ownTag + T) then (ownCs TT true (key0 + 1) ti.leaf (ti.zero.map ofCell)).bind fun p => .test (Nat.beq p.1.length ti.size && p.1.all cellOk) (newBlk key0 ⟨.box, T, ti.size, [p.1]⟩ (.ref key0 1 0 0)) .fail
         else newBlk key0 ⟨.box, T, ti.size, [ti.zero.map ofCell]⟩ (.ref key0 1 0 0)) else .fail
    | none => .fail
  | .box T x => (evalO GL x).bind fun v => bif ownF (roTag + T) then (bif cellish v then ((snaps true (cellsA v)).bind fun cs => .test (cs.all flat) (.ret (.rptr cs)) .fail) else .fail) else .test ((cellsA v).all cellOk) (newBlk key0 ⟨.box, T, (cellsA v).length, [cellsA v]⟩ (.ref key0 1 0 0)) .fail
  | .build t parts => (evalOs GL (parts.toList.map (·.2))).bind fun vs =>
      match TT t with
      | some ti => match ti.desc with
        | .struct fs =>
          if !(fs.all fun f => (TT f.type).isSome) then .fail else
          match fillA (fun i => (fs[i]?).bind fun f => (TT f.type).map fun tf => (f.offset, tf.size)) (ti.zero.map ofCell) ((parts.toList.map (·.1)).zip vs) with
          | some cells => bif ownF (ownTag + t) then (ownV TT true key0 t (.agg cells)).bind fun p => .ret p.1 else .ret (.agg cells)
          | none => .fail
        | .array _ e => match TT e with
          | some te => match fillA (fun i => some (i * te.size, te.size)) (ti.zero.map ofCell) ((parts.toList.map (·.1)).zip vs) with
            | some cells => .ret (.agg cells)
            | none => .fail
          | none => .fail
        | _ => .fail
      | none => .fail
  | .buildSlice t len parts => (evalOs GL (parts.toList.map (·.2))).bind fun vs =>
      match TT t with
      | some ti => match ti.desc with
        | .slice e => match TT e with
          | some te => if te.size = 0 then .fail else if len * te.size > 16777216 then .fail else
              match fillA (fun i => some (i * te.size, te.size)) ((List.replicate len (te.zero.map ofCell)).flatten) ((parts.toList.map (·.1)).zip vs) with
              | some cells => (snapsE cells).bind fun cs => .test (cs.all flat && Nat.beq cs.length (len * te.size)) (newBlk key0 ⟨.arr, e, te.size, chunk te.size len cs⟩ (.slc key0 len)) .fail
              | none => .fail
          | none => .fail
        | _ => .fail
      | none => .fail
  | .load t x => (evalO GL x).bind fun v => bif ownF (snapTag + t) then (loadOp TT t v).bind fun u => snapArg true u else loadOp TT t v
  | .store t x v => (evalO GL x).bind fun p => (evalO GL v).bind fun u => match p, u with
      | .ref k n i j, .inn k' n' i' st => storeN TT t k n i j k' n' i' st
      | p, u => storeA TT t p u
  | .nilCheck x => (evalO GL x).bind fun v => match v with
      | .ref k n i j => .getK k fun o => match o with | some b => .test (verEq b.rows.length n) (.ret (.ref k n i j)) .fail | none => .fail
      | .rptr l => .ret (.rptr l)
      | _ => .fail
  | .binOp op t x y _ => match op, y with
    | .eql, .const (.slice none 0 0) => (evalO GL x).bind fun a => nilA TT t false a
    | .neq, .const (.slice none 0 0) => (evalO GL x).bind fun a => nilA TT t true a
    | op, y => (evalO GL x).bind fun a => (evalO GL y).bind fun b => binOpA TT op t a b
  | .makeFunc (.func f) first caps => if first.isEmpty then (evalOs GL caps.toList).bind fun vs => .ret (.clo f vs) else .fail
  | .unOp op _ x => (evalO GL x).bind fun a => unOpA op a
  | .convert sr d x => match TT sr with | some _ => (evalO GL x).bind fun a => convA TT d a | none => .fail
  | .makeSlice t l c => (evalO GL l).bind fun a => (evalO GL c).bind fun b => makeSliceA TT key0 t a b
  | .slice t x lo hi mx => match mx with
    | some m => match lo, hi, m with
      | none, some (.const (.int .i64 0)), .const (.int .i64 0) => (evalO GL x).bind fun v => match TT t with
        | some ti => match ti.desc with | .slice e => (match TT e with | some te => (rowsOfA v).bind fun _ => .ret .emp | none => .fail) | _ => .fail
        | none => .fail
      | _, _, _ => .fail
    | none => (evalO GL x).bind fun v => (evalOpt GL lo).bind fun l => (evalOpt GL hi).bind fun h =>
        match TT t with
        | some ti => match ti.desc with | .slice e => (match TT e with | some te => (match v with | .inn k n q st => sliceN te.size k n q st l h | v => sliceA te.size v l h) | none => .fail) | _ => .fail
        | none => .fail
  | .fieldAddr t x f => (evalO GL x).bind fun v => fieldAddrA TT t v f
  | .field t x f => (evalO GL x).bind fun v => fieldA TT t v f
  | .indexAddr t x i => (evalO GL x).bind fun v => (evalO GL i).bind fun j => match j with | .sc (.int _ n) => indexAddrA TT t v n | _ => .fail
  | .index t x i => (evalO GL x).bind fun v => (evalO GL i).bind fun j => match j with | .sc (.int _ n) => indexA TT t v n | _ => .fail
  | .extract x i => (evalO GL x).bind fun v => match v with | .tup l => (match l[i]? with | some u => .ret u | none => .fail) | _ => .fail
  | .call c => match c.callee with
    | .value (.func f) => (evalOs GL c.args.toList).bind fun vs => callA TT TU C ownF key0 o.type f vs
    | .value (.tmp t) => (evalO GL (.tmp t)).bind fun g => match g with
      | .clo f l => (evalOs GL c.args.toList).bind fun vs => callA TT TU C ownF key0 o.type f (vs ++ l)
      | _ => .fail
    | .builtin b => (evalOs GL c.args.toList).bind fun vs => builtinA TT key0 b c.argTypes.toList vs
    | _ => .fail
  | _ => .fail

def setDst (d : Option Tmp) (v : AVal) : AM Unit :=
  match d with
  | none => .ret ()
  | some t => .setT t v (.ret ())

/-- Where a call that was put off is told. -/
def dkey : Nat := 999
/-- A closure's call is put off. -/
def deferOp (o : Oper) (c : Go.Call) : AM Unit :=
  match c.callee with
  | .value (.tmp t) => if c.args.isEmpty then (evalO GL (.tmp t)).bind fun g => match g with
      | .clo f l => .getK dkey fun q => match q with
        | some _ => .fail
        | none => .test (l.all niK) (.setK dkey ⟨.dfr f l, o.type, 0, []⟩ (setDst o.dst (.sc undef))) .fail
      | _ => .fail
    else .fail
  | _ => .fail
def perform (key0 : Nat) (o : Oper) : AM Unit :=
  match o.op with
  | .defer c => deferOp GL o c
  | _ => (doOp TT TU GL C ownF key0 o).bind fun v => setDst o.dst v
def skipOp (o : Oper) : AM Unit := setDst o.dst (.sc undef)

def notBool : AVal → Bool
  | .sc (.bool _) => false
  | .sc _ => true
  | _ => false

def aop (ops : Array Oper) (key0 : Nat) (o : Oper) : AM Unit :=
  match o.guard with
  | none => perform TT TU GL C ownF key0 o
  | some (j, want) => match (ops[j]?).bind (·.dst) with
    | none => .fail
    | some d => .br d (bif want then perform TT TU GL C ownF key0 o else skipOp o) (bif want then skipOp o else perform TT TU GL C ownF key0 o)
        fun v => bif notBool v then skipOp o else .fail

def conflict (a b : List Ev) : Bool := a.any fun e => b.any fun f => (e.wr || f.wr) && e.loc.beq f.loc

/-- 'logs': newest first. Every two operations that touch one place, one of them writing, are ordered. -/
def ordOne (before : Array Nat) (j : Nat) (es : List Ev) : Nat → List (List Ev) → Bool
  | _, [] => true
  | i, l :: ls => (!conflict l es || (before.getD j 0).testBit (i - 1)) && ordOne before j es (i - 1) ls
def ordAll (before : Array Nat) : Nat → List (List Ev) → Bool
  | _, [] => true
  | j, es :: ls => ordOne before (j - 1) es (j - 1) ls && ordAll before (j - 1) ls
def edgesOk (ops : Array Oper) : Bool := ops.toList.zipIdx.all fun p => p.1.after.all fun e => !Region.binds .any e || Nat.blt e.on p.2

/-- The name of a new block: by the place in the code; of a variable by its number. -/
def keyAt (id i : Nat) (o : Oper) : Nat := match o.op, o.dst with
  | .alloc _, some t => (1000000 + t) * 16
  | _, _ => (1000 + 200 * id + i) * 16
def goOps (ops : Array Oper) (id : Nat) : List Oper → Nat → List (List Ev) → St → (St → List (List Ev) → Option CR) → Option CR
  | [], _, logs, s, k => k s logs
  | o :: rest, i, logs, s, k => (aop TT TU GL C ownF ops (keyAt id i o) o).run s [] fun _ s' es => goOps ops id rest (i + 1) (es :: logs) s' k

/-- Values that mention no inner slice. -/
def niC : AVal → Bool
  | .agg _ | .tup _ | .inn _ _ _ _ | .ipt _ _ _ _ _ => false
  | .clo _ l => l.all niK
  | _ => true
def niT : AVal → Bool
  | .agg l => l.all niC
  | .tup _ => false
  | v => niC v
def niA : AVal → Bool
  | .tup l => l.all niT
  | v => niT v
def hasN : List (Nat × Blk) → Bool
  | [] => false
  | (_, b) :: h => b.kind.isNs || hasN h
def restK : BKind → BKind
  | .ns 2 T E => .ns 0 T E
  | k => k
/-- A region is over: inner slices are told of no longer. -/
def settle (s : St) : St := bif hasN s.heap then ⟨s.tmps.map fun v => bif niA v then v else .dead, s.heap.map fun p => (p.1, ⟨restK p.2.kind, p.2.T, p.2.E, p.2.rows⟩)⟩ else s

def region (id : Nat) (ops : Array Oper) (draw : Bool) (s : St) (k : St → Option CR) : Option CR :=
  goOps TT TU GL C ownF ops id ops.toList 0 [] s fun s' logs => bif !draw || (edgesOk ops && ordAll (Region.before ops) ops.size logs) then k (settle s') else none

inductive Ex where
  | normal | exit (id : Nat) | ret | goto (l : Nat)

/-- What survives a round. -/
def isDead : AVal → Bool | .dead => true | _ => false
def keepT : List AVal → List AVal → List AVal
  | o :: os, n :: ns => (bif isDead o then .dead else n) :: keepT os ns
  | _, _ => []
def keysIn : AVal → List Nat
  | .slc k _ => [k]
  | .ref k _ _ _ => [k]
  | _ => []
def memN (k : Nat) : List Nat → Bool
  | [] => false
  | x :: xs => Nat.beq x k || memN k xs
def keepH (old : List (Nat × Blk)) (used : List Nat) : List (Nat × Blk) → List (Nat × Blk)
  | [] => []
  | (k, b) :: h => bif (lookK old k).isSome || memN k used || Nat.blt k 1000 then (k, b) :: keepH old used h else keepH old used h
/-- The blocks that a value leads to. -/
def keysC : AVal → List Nat
  | .slc k _ => [k]
  | .ref k _ _ _ => [k]
  | .clo _ l => l.flatMap keysIn
  | _ => []
def keysT : AVal → List Nat
  | .agg l => l.flatMap keysC
  | v => keysC v
def keysA : AVal → List Nat
  | .tup l => l.flatMap keysT
  | v => keysT v
/-- Values whose blocks these words tell. -/
def okK : AVal → Bool
  | .agg _ | .tup _ | .clo _ _ | .inn _ _ _ _ | .ipt _ _ _ _ _ => false
  | _ => true
def okC : AVal → Bool
  | .agg _ | .tup _ | .inn _ _ _ _ | .ipt _ _ _ _ _ => false
  | .clo _ l => l.all okK
  | _ => true
def okT : AVal → Bool
  | .agg l => l.all okC
  | .tup _ => false
  | v => okC v
def okA : AVal → Bool
  | .tup l => l.all okT
  | v => okT v
def boxKeys : List (Nat × Blk) → List Nat → List Nat
  | [], _ => []
  | (k, b) :: h, ks => (bif memN k ks && b.kind.isBx then b.rows.flatMap fun r => r.flatMap keysC else []) ++ boxKeys h ks
def keepU (used : List Nat) : List (Nat × Blk) → List (Nat × Blk)
  | [] => []
  | (k, b) :: h => bif memN k used || Nat.blt k 1000 then (k, b) :: keepU used h else keepU used h
def boxOk (h : List (Nat × Blk)) (b : Blk) : Bool :=
  bif b.kind.isBx then b.rows.all fun r => r.all fun v => flat v || (okC v && (keysC v).all fun k => (lookK h k).isSome) else b.kind.dl.all fun v => flat v || (okC v && (keysC v).all fun k => (lookK h k).isSome)
def forget {R : Type} (s s' : St) (k : St → Option R) : Option R :=
  let ts := keepT s.tmps s'.tmps
  let h := keepH s.heap (ts.flatMap keysA) s'.heap
  bif ts.all okA && Nat.beq s.tmps.length s'.tmps.length && h.all fun p => boxOk h p.2 then k ⟨ts, h⟩ else none

def loopN {R : Type} (body : St → (Ex → St → Option R) → Option R) : Nat → St → (Ex → St → Option R) → Option R
  | 0, _, _ => none
  | m + 1, s, k => body s fun e s' => match e with
    | .normal => forget s s' fun s'' => loopN body m s'' k
    | e => k e s'

/-- What a loop comes to, with what follows handed in. -/
abbrev LT' := Nat → St → (Ex → St → Option CR) → Option CR

/-- Some temporaries forgotten. -/
def maskT : List Bool → List AVal → List AVal
  | b :: bs, v :: vs => (bif b then v else .dead) :: maskT bs vs
  | _, vs => vs
def maskS0 (m : List Bool) (s : St) : St := ⟨maskT m s.tmps, s.heap⟩
def usedK (s : St) : List Nat :=
  let k0 := s.tmps.flatMap keysA
  let k1 := k0 ++ boxKeys s.heap k0
  k1 ++ boxKeys s.heap k1
/-- Blocks to which nothing leads, forgotten. -/
def tidy (s : St) : St :=
  bif s.tmps.all okA && (keepU (usedK s) s.heap).all (fun p => boxOk (keepU (usedK s) s.heap) p.2) then ⟨s.tmps, keepU (usedK s) s.heap⟩ else s
def maskS (m : List Bool) (s : St) : St := tidy (maskS0 m s)

/-- A variable that is made anew: what it was is forgotten. -/
def pre (ops : Array Oper) (s : St) : St := match ops[0]? with
  | some o => (match o.op, o.dst with
    | .alloc _, some t => (match s.tmps.getD t .dead with
      | .ref _ _ _ _ => maskS (List.replicate t true ++ [false]) s
      | _ => s)
    | _, _ => s)
  | none => s
def exec (L : LT') : Code → Nat → St → (Ex → St → Option CR) → Option CR
  | .skip, _, s, k => k .normal s
  | .region id ops draw, _, s, k => region TT TU GL C ownF id ops draw (pre ops s) (k .normal)
  | .seq a b, i, s, k => exec L a i s fun e s' => match e with | .normal => exec L b i s' k | e => k e s'
  | .cond c a b, i, s, k => match c with
    | .tmp t => match s.tmps.getD t .dead with
      | .sc (.bool v) => bif v then exec L a i ⟨setAt s.tmps t (.sc (.bool true)), s.heap⟩ k else exec L b i ⟨setAt s.tmps t (.sc (.bool false)), s.heap⟩ k
      | _ => none
    | .const (.bool v) => bif v then exec L a i s k else exec L b i s k
    | _ => none
  | .block id c, _, s, k => exec L c id s fun e s' => match e with | .exit id' => bif Nat.beq id' id then k .normal s' else k (.exit id') s' | e => k e s'
  | .loop c, i, s, k => bif Nat.ble 1000 i then none else L i s k
  | .exit id, _, s, k => k (.exit id) s
  | .ret, _, s, k => k .ret s
  | .goto l, _, s, k => k (.goto l) s
  | _, _, _, _ => none

/-- A loop's body: with the block that it stands in. -/
def loopsIn : Nat → Code → List (Nat × Code)
  | i, .seq a b => loopsIn i a ++ loopsIn i b
  | i, .cond _ a b => loopsIn i a ++ loopsIn i b
  | _, .block id c => loopsIn id c
  | i, .loop c => (i, c) :: loopsIn i c
  | _, _ => []

/-! ### Functions -/
/-- A function's code with one label in it. -/
def scopeParts : Code → Option (Code × Nat × Code)
  | .scope (.seq a (.seq (.label l) b)) => bif (findLabel a l).isNone then some (a, l, b) else none
  | _ => none
/-- A function's code. -/
def execT (L : LT') (c : Code) (s : St) (k : Ex → St → Option CR) : Option CR :=
  match scopeParts c with
  | some (a, l, _) => exec TT TU GL C ownF L a 0 s fun e s' => match e with
    | .normal => L (1000 + l) s' fun e s'' => match e with
      | .exit id => bif Nat.beq id 1000000 then k .normal s'' else none
      | .ret => k .ret s''
      | _ => none
    | .ret => k .ret s'
    | _ => none
  | none => exec TT TU GL C ownF L c 0 s k
def loopsOf (fn : Func) : List (Nat × Code) :=
  match fn.body with
  | some c => match scopeParts c with
    | some (a, l, b) => (1000 + l, b) :: (loopsIn 0 a ++ loopsIn 0 b)
    | none => loopsIn 0 c
  | none => []


/-- One cell of a result: an own array goes along ('own'), or is told by its rows. -/
def packC {R : Type} (own : Bool) (heap : List (Nat × Blk)) (v : AVal) (news : List (Nat × Blk)) (k : AVal → List (Nat × Blk) → Option R) : Option R :=
  match v with
  | .slc key n => match lookK heap key with
    | none => none
    | some b => bif b.kind.isBox || b.kind.isD then none else bif verEq b.rows.length n then
        (bif own && b.kind.isArr then (bif (lookK news key).isSome then none else k (.slc news.length b.rows.length) (news ++ [(key, b)])) else k (.ro b.E b.rows) news) else none
  | .sc x => k (.sc x) news
  | .emp => k (.ro 0 []) news
  | .ro E r => k (.ro E r) news
  | .clo f l => bif l.all isRp then k (.clo f l) news else none
  | _ => none

def packCs {R : Type} (own : Bool) (heap : List (Nat × Blk)) : List AVal → List (Nat × Blk) → (List AVal → List (Nat × Blk) → Option R) → Option R
  | [], news, k => k [] news
  | v :: vs, news, k => packC own heap v news fun u news => packCs own heap vs news fun us news => k (u :: us) news

def packV {R : Type} (own : Bool) (heap : List (Nat × Blk)) (v : AVal) (news : List (Nat × Blk)) (k : AVal → List (Nat × Blk) → Option R) : Option R :=
  match v with
  | .agg l => packCs own heap l news fun us news => k (.agg us) news
  | v => packC own heap v news k

def packVs {R : Type} (own : Bool) (heap : List (Nat × Blk)) : List AVal → List (Nat × Blk) → (List AVal → List (Nat × Blk) → Option R) → Option R
  | [], news, k => k [] news
  | v :: vs, news, k => packV own heap v news fun u news => packVs own heap vs news fun us news => k (u :: us) news

/-- A result variable's value. -/
def resVar (s : St) (r : ResultVar) (k : AVal → Option CR) : Option CR :=
  match r with
  | .tmp t => k (s.tmps.getD t .dead)
  | .cell t ty => (loadOp TT ty (s.tmps.getD t .dead)).run s [] fun v _ _ => k v

def resVars (s : St) : List ResultVar → (List AVal → Option CR) → Option CR
  | [], k => k []
  | r :: rs, k => resVar TT s r fun v => resVars s rs fun vs => k (v :: vs)

def ownVs (own : Bool) : Nat → List TypeId → List AVal → AM (List AVal)
  | key, t :: ts, v :: vs => (ownV TT own key t v).bind fun p => (ownVs own p.2 ts vs).bind fun us => .ret (p.1 :: us)
  | _, _, vs => .ret vs

def finish (own : Bool) (fn : Func) (s : St) : Option CR :=
  resVars TT s fn.results.toList fun vs => (ownVs TT own 0 fn.resultTypes.toList vs).run s [] fun vs s' _ => packVs own s'.heap vs [] fun us news =>
    match us with
    | [u] => some ⟨true, u, [], news.map (·.2)⟩
    | us => some ⟨true, .tup us, [], news.map (·.2)⟩

def initSt (fn : Func) (args : List AVal) : St := ⟨args ++ List.replicate (fn.ntmps - args.length) (.sc undef), []⟩

/-- Nothing was put off. -/
def noDfr (s : St) : Bool := match lookK s.heap dkey with | some b => !b.kind.isD | none => true

/-- A function's run, its callees' answers told by 'C', its loops' by 'L'. -/
def fcall (own : Bool) (L : LT') (fn : Func) (args : List AVal) : Option CR :=
  match fn.body with
  | none => none
  | some c => execT TT TU GL C ownF L c (initSt fn args) fun e s => match e with
    | .exit _ | .goto _ => none
    | _ => bif noDfr s then finish TT own fn s else none

/-- The same of a function that puts off a call of 'f', which 'RD' tells. -/
def fcallD (own : Bool) (L : LT') (f : FuncId) (RD : List AVal → Call) (fn : Func) (args : List AVal) : Option CR :=
  match fn.body with
  | none => none
  | some c => execT TT TU GL C ownF L c (initSt fn args) fun e s => match e with
    | .exit _ | .goto _ => none
    | _ => match lookK s.heap dkey with
      | none => finish TT own fn s
      | some b => match b.kind with
        | .dfr g l => bif Nat.beq f g then (snapCaps false l).run s [] fun us s' _ => (RD us).q fun _ => finish TT own fn s' else none
        | _ => none

/-- A cell that goes back: blocks that were handed over stay what they are, others are told by their rows. -/
def packH {R : Type} (m : Nat) (heap : List (Nat × Blk)) (v : AVal) (k : AVal → Option R) : Option R :=
  match v with
  | .slc key n => match lookK heap key with
    | none => none
    | some b => bif b.kind.isBox && !b.kind.isNs then none else bif verEq b.rows.length n then (bif Nat.blt key m then k (.slc key b.rows.length) else bif b.kind.isBox then none else k (.ro b.E b.rows)) else none
  | .sc x => bif oneC x then k (.sc x) else none
  | .emp => k (.ro 0 [])
  | .ro E r => k (.ro E r)
  | .clo f l => bif l.all isRp then k (.clo f l) else none
  | _ => none
def packHs {R : Type} (m : Nat) (heap : List (Nat × Blk)) : List AVal → (List AVal → Option R) → Option R
  | [], k => k []
  | v :: vs, k => packH m heap v fun u => packHs m heap vs fun us => k (u :: us)
def packHV {R : Type} (m : Nat) (heap : List (Nat × Blk)) (v : AVal) (k : AVal → Option R) : Option R :=
  match v with
  | .agg l => packHs m heap l fun us => k (.agg us)
  | v => packH m heap v k
def packHVs {R : Type} (m : Nat) (heap : List (Nat × Blk)) : List AVal → (List AVal → Option R) → Option R
  | [], k => k []
  | v :: vs, k => packHV m heap v fun u => packHVs m heap vs fun us => k (u :: us)
/-- What became of the blocks handed over. -/
def outBlk {R : Type} (m : Nat) (heap : List (Nat × Blk)) (key : Nat) (b : Blk) (k : List (List AVal) → Option R) : Option R :=
  match lookK heap key with
  | none => none
  | some b' => bif Nat.beq b'.T b.T && Nat.beq b'.E b.E then
      match b.kind, b'.kind with
      | .box, .box => match b'.rows with
        | [r] => packHs m heap r fun us => k [us]
        | _ => none
      | .arr, .arr => k b'.rows
      | .ns st0 T E, .ns st T' E' => bif Nat.beq st0 0 && Nat.beq st 0 && Nat.beq T' T && Nat.beq E' E then k b'.rows else none
      | _, _ => none
    else none
def outBlks {R : Type} (m : Nat) (heap : List (Nat × Blk)) : List (Nat × Blk) → (List (List (List AVal)) → Option R) → Option R
  | [], k => k []
  | (key, b) :: l, k => outBlk m heap key b fun u => outBlks m heap l fun us => k (u :: us)
def finishH (fn : Func) (H : List (Nat × Blk)) (s : St) : Option CR :=
  resVars TT s fn.results.toList fun vs => packHVs H.length s.heap vs fun us => outBlks H.length s.heap H fun os =>
    match us with
    | [u] => some ⟨true, u, os, []⟩
    | us => some ⟨true, .tup us, os, []⟩
def initStH (fn : Func) (args : List AVal) (H : List (Nat × Blk)) : St := ⟨args ++ List.replicate (fn.ntmps - args.length) (.sc undef), H⟩
/-- A function's run on blocks that were handed over. -/
def fcallH (L : LT') (fn : Func) (args : List AVal) (H : List (Nat × Blk)) : Option CR :=
  match fn.body with
  | none => none
  | some c => execT TT TU GL C ownF L c (initStH fn args H) fun e s => match e with
    | .exit _ | .goto _ => none
    | _ => bif noDfr s then finishH TT fn H s else none
def numK : Nat → List Blk → List (Nat × Blk)
  | _, [] => []
  | i, b :: l => (i, b) :: numK (i + 1) l

/-- One round of a loop (or of what lies behind a label, up to the jump back). -/
def bodyOf (L : LT') (p : Nat × Code) : St → (Ex → St → Option CR) → Option CR := fun s k =>
  bif Nat.ble 1000 p.1 then exec TT TU GL C ownF L p.2 0 s fun e s' => match e with
    | .goto l => bif Nat.beq (1000 + l) p.1 then k .normal s' else none
    | .normal => k (.exit 1000000) s'
    | .ret => k .ret s'
    | .exit _ => none
  else exec TT TU GL C ownF L p.2 p.1 s k

/-- What is told of a loop holds. -/
def LoopOk (L : LT') (p : Nat × Code) : Prop :=
  ∀ s k r, L p.1 s k = some r → ∃ (m : Nat) (M : List Bool) (W : Ex → List Bool), loopN (bodyOf TT TU GL C ownF L p) m (maskS M s) (fun e s' => k e (maskS (W e) s')) = some r

end

end Go.Proofs.YteiniiakpdijmaaDoor.AI
