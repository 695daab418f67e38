/- The types of this seat's program, told as a table (printed by wip/tool2/Ev.lean). -/
import Derived.Test.YtocgekefbdcdmaaDoorAI20
import Derived.Test.YtocgekefbdcdmaaDoorProg
namespace Go.Proofs.YtocgekefbdcdmaaDoor.AI
open Go.RowKit
def tt2 : TI := (TI.mk (TypeDesc.int IntKind.i64) 1 8 [(Value.int IntKind.i64 (0 : Int))] [(LT.int IntKind.i64)] false)
theorem tt2_ok : ttOf Tryd.prog false 2 = some tt2 := by kernel_rfl
def tt3 : TI := (TI.mk (TypeDesc.int IntKind.i64) 1 8 [(Value.int IntKind.i64 (0 : Int))] [(LT.int IntKind.i64)] false)
theorem tt3_ok : ttOf Tryd.prog false 3 = some tt3 := by kernel_rfl
def tt4 : TI := (TI.mk TypeDesc.bool 1 1 [(Value.bool false)] [LT.bool] false)
theorem tt4_ok : ttOf Tryd.prog false 4 = some tt4 := by kernel_rfl
def tt5 : TI := (TI.mk (TypeDesc.int IntKind.u8) 1 1 [(Value.int IntKind.u8 (0 : Int))] [(LT.int IntKind.u8)] false)
theorem tt5_ok : ttOf Tryd.prog false 5 = some tt5 := by kernel_rfl
def tt6 : TI := (TI.mk (TypeDesc.int IntKind.u8) 1 1 [(Value.int IntKind.u8 (0 : Int))] [(LT.int IntKind.u8)] false)
theorem tt6_ok : ttOf Tryd.prog false 6 = some tt6 := by kernel_rfl
def tt9 : TI := (TI.mk TypeDesc.string 1 16 [(Value.string (ByteArray.mk (Array.mk [])))] [LT.str] false)
theorem tt9_ok : ttOf Tryd.prog false 9 = some tt9 := by kernel_rfl
def tt10 : TI := (TI.mk TypeDesc.string 1 16 [(Value.string (ByteArray.mk (Array.mk [])))] [LT.str] false)
theorem tt10_ok : ttOf Tryd.prog false 10 = some tt10 := by kernel_rfl
def tt11 : TI := (TI.mk TypeDesc.string 1 16 [(Value.string (ByteArray.mk (Array.mk [])))] [LT.str] false)
theorem tt11_ok : ttOf Tryd.prog false 11 = some tt11 := by kernel_rfl
def tt12 : TI := (TI.mk (TypeDesc.int IntKind.u64) 1 8 [(Value.int IntKind.u64 (0 : Int))] [(LT.int IntKind.u64)] false)
theorem tt12_ok : ttOf Tryd.prog false 12 = some tt12 := by kernel_rfl
def tt21 : TI := (TI.mk (TypeDesc.int IntKind.i32) 1 4 [(Value.int IntKind.i32 (0 : Int))] [(LT.int IntKind.i32)] false)
theorem tt21_ok : ttOf Tryd.prog false 21 = some tt21 := by kernel_rfl
def tt22 : TI := (TI.mk (TypeDesc.slice 28) 1 24 [(Value.slice Option.none 0 0)] [(LT.sl 28 3)] false)
theorem tt22_ok : ttOf Tryd.prog false 22 = some tt22 := by kernel_rfl
def tt23 : TI := (TI.mk (TypeDesc.struct (Array.mk [(Field.mk "W" 3 0 false "" "" 0), (Field.mk "H" 3 1 false "" "" 8), (Field.mk "Cells" 22 2 false "" "" 16)])) 3 40 [(Value.int IntKind.i64 (0 : Int)), (Value.int IntKind.i64 (0 : Int)), (Value.slice Option.none 0 0)] [(LT.int IntKind.i64), (LT.int IntKind.i64), (LT.sl 28 3)] false)
theorem tt23_ok : ttOf Tryd.prog false 23 = some tt23 := by kernel_rfl
def tt24 : TI := (TI.mk (TypeDesc.struct (Array.mk [(Field.mk "W" 3 0 false "" "" 0), (Field.mk "H" 3 1 false "" "" 8), (Field.mk "Cells" 22 2 false "" "" 16)])) 3 40 [(Value.int IntKind.i64 (0 : Int)), (Value.int IntKind.i64 (0 : Int)), (Value.slice Option.none 0 0)] [(LT.int IntKind.i64), (LT.int IntKind.i64), (LT.sl 28 3)] false)
theorem tt24_ok : ttOf Tryd.prog false 24 = some tt24 := by kernel_rfl
def tt25 : TI := (TI.mk (TypeDesc.struct (Array.mk [(Field.mk "X" 3 0 false "" "" 0), (Field.mk "Y" 3 1 false "" "" 8)])) 2 16 [(Value.int IntKind.i64 (0 : Int)), (Value.int IntKind.i64 (0 : Int))] [(LT.int IntKind.i64), (LT.int IntKind.i64)] true)
theorem tt25_ok : ttOf Tryd.prog true 25 = some tt25 := by kernel_rfl
def tt26 : TI := (TI.mk (TypeDesc.struct (Array.mk [(Field.mk "X" 3 0 false "" "" 0), (Field.mk "Y" 3 1 false "" "" 8)])) 2 16 [(Value.int IntKind.i64 (0 : Int)), (Value.int IntKind.i64 (0 : Int))] [(LT.int IntKind.i64), (LT.int IntKind.i64)] true)
theorem tt26_ok : ttOf Tryd.prog true 26 = some tt26 := by kernel_rfl
def tt27 : TI := (TI.mk (TypeDesc.struct (Array.mk [(Field.mk "Kind" 3 0 false "" "" 0), (Field.mk "Height" 3 1 false "" "" 8), (Field.mk "Amount" 3 2 false "" "" 16)])) 3 24 [(Value.int IntKind.i64 (0 : Int)), (Value.int IntKind.i64 (0 : Int)), (Value.int IntKind.i64 (0 : Int))] [(LT.int IntKind.i64), (LT.int IntKind.i64), (LT.int IntKind.i64)] true)
theorem tt27_ok : ttOf Tryd.prog true 27 = some tt27 := by kernel_rfl
def tt28 : TI := (TI.mk (TypeDesc.struct (Array.mk [(Field.mk "Kind" 3 0 false "" "" 0), (Field.mk "Height" 3 1 false "" "" 8), (Field.mk "Amount" 3 2 false "" "" 16)])) 3 24 [(Value.int IntKind.i64 (0 : Int)), (Value.int IntKind.i64 (0 : Int)), (Value.int IntKind.i64 (0 : Int))] [(LT.int IntKind.i64), (LT.int IntKind.i64), (LT.int IntKind.i64)] true)
theorem tt28_ok : ttOf Tryd.prog true 28 = some tt28 := by kernel_rfl
def tt33 : TI := (TI.mk (TypeDesc.int IntKind.i64) 1 8 [(Value.int IntKind.i64 (0 : Int))] [(LT.int IntKind.i64)] false)
theorem tt33_ok : ttOf Tryd.prog false 33 = some tt33 := by kernel_rfl
def tt40 : TI := (TI.mk (TypeDesc.slice 4) 1 24 [(Value.slice Option.none 0 0)] [(LT.sl 4 1)] false)
theorem tt40_ok : ttOf Tryd.prog false 40 = some tt40 := by kernel_rfl
def tt41 : TI := (TI.mk (TypeDesc.struct (Array.mk [(Field.mk "Class" 3 0 false "" "" 0), (Field.mk "Dir" 3 1 false "" "" 8), (Field.mk "At" 26 2 false "" "" 16)])) 4 32 [(Value.int IntKind.i64 (0 : Int)), (Value.int IntKind.i64 (0 : Int)), (Value.int IntKind.i64 (0 : Int)), (Value.int IntKind.i64 (0 : Int))] [(LT.int IntKind.i64), (LT.int IntKind.i64), (LT.int IntKind.i64), (LT.int IntKind.i64)] true)
theorem tt41_ok : ttOf Tryd.prog true 41 = some tt41 := by kernel_rfl
def tt42 : TI := (TI.mk (TypeDesc.struct (Array.mk [(Field.mk "Class" 3 0 false "" "" 0), (Field.mk "Dir" 3 1 false "" "" 8), (Field.mk "At" 26 2 false "" "" 16)])) 4 32 [(Value.int IntKind.i64 (0 : Int)), (Value.int IntKind.i64 (0 : Int)), (Value.int IntKind.i64 (0 : Int)), (Value.int IntKind.i64 (0 : Int))] [(LT.int IntKind.i64), (LT.int IntKind.i64), (LT.int IntKind.i64), (LT.int IntKind.i64)] true)
theorem tt42_ok : ttOf Tryd.prog true 42 = some tt42 := by kernel_rfl
def tt56 : TI := (TI.mk (TypeDesc.array 6 4) 6 6 [(Value.bool false), (Value.bool false), (Value.bool false), (Value.bool false), (Value.bool false), (Value.bool false)] [LT.bool, LT.bool, LT.bool, LT.bool, LT.bool, LT.bool] false)
theorem tt56_ok : ttOf Tryd.prog false 56 = some tt56 := by kernel_rfl
def tt57 : TI := (TI.mk (TypeDesc.array 4 56) 24 24 [(Value.bool false), (Value.bool false), (Value.bool false), (Value.bool false), (Value.bool false), (Value.bool false), (Value.bool false), (Value.bool false), (Value.bool false), (Value.bool false), (Value.bool false), (Value.bool false), (Value.bool false), (Value.bool false), (Value.bool false), (Value.bool false), (Value.bool false), (Value.bool false), (Value.bool false), (Value.bool false), (Value.bool false), (Value.bool false), (Value.bool false), (Value.bool false)] [LT.bool, LT.bool, LT.bool, LT.bool, LT.bool, LT.bool, LT.bool, LT.bool, LT.bool, LT.bool, LT.bool, LT.bool, LT.bool, LT.bool, LT.bool, LT.bool, LT.bool, LT.bool, LT.bool, LT.bool, LT.bool, LT.bool, LT.bool, LT.bool] false)
theorem tt57_ok : ttOf Tryd.prog false 57 = some tt57 := by kernel_rfl
def tt59 : TI := (TI.mk (TypeDesc.array 2 26) 4 32 [(Value.int IntKind.i64 (0 : Int)), (Value.int IntKind.i64 (0 : Int)), (Value.int IntKind.i64 (0 : Int)), (Value.int IntKind.i64 (0 : Int))] [(LT.int IntKind.i64), (LT.int IntKind.i64), (LT.int IntKind.i64), (LT.int IntKind.i64)] false)
theorem tt59_ok : ttOf Tryd.prog false 59 = some tt59 := by kernel_rfl
def tt68 : TI := (TI.mk (TypeDesc.array 8 26) 16 128 [(Value.int IntKind.i64 (0 : Int)), (Value.int IntKind.i64 (0 : Int)), (Value.int IntKind.i64 (0 : Int)), (Value.int IntKind.i64 (0 : Int)), (Value.int IntKind.i64 (0 : Int)), (Value.int IntKind.i64 (0 : Int)), (Value.int IntKind.i64 (0 : Int)), (Value.int IntKind.i64 (0 : Int)), (Value.int IntKind.i64 (0 : Int)), (Value.int IntKind.i64 (0 : Int)), (Value.int IntKind.i64 (0 : Int)), (Value.int IntKind.i64 (0 : Int)), (Value.int IntKind.i64 (0 : Int)), (Value.int IntKind.i64 (0 : Int)), (Value.int IntKind.i64 (0 : Int)), (Value.int IntKind.i64 (0 : Int))] [(LT.int IntKind.i64), (LT.int IntKind.i64), (LT.int IntKind.i64), (LT.int IntKind.i64), (LT.int IntKind.i64), (LT.int IntKind.i64), (LT.int IntKind.i64), (LT.int IntKind.i64), (LT.int IntKind.i64), (LT.int IntKind.i64), (LT.int IntKind.i64), (LT.int IntKind.i64), (LT.int IntKind.i64), (LT.int IntKind.i64), (LT.int IntKind.i64), (LT.int IntKind.i64)] false)
theorem tt68_ok : ttOf Tryd.prog false 68 = some tt68 := by kernel_rfl
def tt76 : TI := (TI.mk (TypeDesc.array 0 16) 0 0 [] [] false)
theorem tt76_ok : ttOf Tryd.prog false 76 = some tt76 := by kernel_rfl
def tt80 : TI := (TI.mk (TypeDesc.int IntKind.u32) 1 4 [(Value.int IntKind.u32 (0 : Int))] [(LT.int IntKind.u32)] false)
theorem tt80_ok : ttOf Tryd.prog false 80 = some tt80 := by kernel_rfl
def tt81 : TI := (TI.mk (TypeDesc.int IntKind.u8) 1 1 [(Value.int IntKind.u8 (0 : Int))] [(LT.int IntKind.u8)] false)
theorem tt81_ok : ttOf Tryd.prog false 81 = some tt81 := by kernel_rfl
def tt82 : TI := (TI.mk (TypeDesc.int IntKind.u8) 1 1 [(Value.int IntKind.u8 (0 : Int))] [(LT.int IntKind.u8)] false)
theorem tt82_ok : ttOf Tryd.prog false 82 = some tt82 := by kernel_rfl
def tt85 : TI := (TI.mk (TypeDesc.int IntKind.i32) 1 4 [(Value.int IntKind.i32 (0 : Int))] [(LT.int IntKind.i32)] false)
theorem tt85_ok : ttOf Tryd.prog false 85 = some tt85 := by kernel_rfl
def tt86 : TI := (TI.mk (TypeDesc.int IntKind.i32) 1 4 [(Value.int IntKind.i32 (0 : Int))] [(LT.int IntKind.i32)] false)
theorem tt86_ok : ttOf Tryd.prog false 86 = some tt86 := by kernel_rfl
def tt87 : TI := (TI.mk (TypeDesc.struct (Array.mk [(Field.mk "Size_" 12 0 false "" "" 0), (Field.mk "PtrBytes" 12 1 false "" "" 8), (Field.mk "Hash" 80 2 false "" "" 16), (Field.mk "TFlag" 81 3 false "" "" 20), (Field.mk "Align_" 5 4 false "" "" 21), (Field.mk "FieldAlign_" 5 5 false "" "" 22), (Field.mk "Kind_" 82 6 false "" "" 23), (Field.mk "Equal" 83 7 false "" "" 24), (Field.mk "GCData" 84 8 false "" "" 32), (Field.mk "Str" 85 9 false "" "" 40), (Field.mk "PtrToThis" 86 10 false "" "" 44)])) 11 48 [(Value.int IntKind.u64 (0 : Int)), (Value.int IntKind.u64 (0 : Int)), (Value.int IntKind.u32 (0 : Int)), (Value.int IntKind.u8 (0 : Int)), (Value.int IntKind.u8 (0 : Int)), (Value.int IntKind.u8 (0 : Int)), (Value.int IntKind.u8 (0 : Int)), Value.nilFunc, (Value.pointer Option.none), (Value.int IntKind.i32 (0 : Int)), (Value.int IntKind.i32 (0 : Int))] [(LT.int IntKind.u64), (LT.int IntKind.u64), (LT.int IntKind.u32), (LT.int IntKind.u8), (LT.int IntKind.u8), (LT.int IntKind.u8), (LT.int IntKind.u8), LT.other, LT.other, (LT.int IntKind.i32), (LT.int IntKind.i32)] false)
theorem tt87_ok : ttOf Tryd.prog false 87 = some tt87 := by kernel_rfl
def tt88 : TI := (TI.mk (TypeDesc.struct (Array.mk [(Field.mk "Size_" 12 0 false "" "" 0), (Field.mk "PtrBytes" 12 1 false "" "" 8), (Field.mk "Hash" 80 2 false "" "" 16), (Field.mk "TFlag" 81 3 false "" "" 20), (Field.mk "Align_" 5 4 false "" "" 21), (Field.mk "FieldAlign_" 5 5 false "" "" 22), (Field.mk "Kind_" 82 6 false "" "" 23), (Field.mk "Equal" 83 7 false "" "" 24), (Field.mk "GCData" 84 8 false "" "" 32), (Field.mk "Str" 85 9 false "" "" 40), (Field.mk "PtrToThis" 86 10 false "" "" 44)])) 11 48 [(Value.int IntKind.u64 (0 : Int)), (Value.int IntKind.u64 (0 : Int)), (Value.int IntKind.u32 (0 : Int)), (Value.int IntKind.u8 (0 : Int)), (Value.int IntKind.u8 (0 : Int)), (Value.int IntKind.u8 (0 : Int)), (Value.int IntKind.u8 (0 : Int)), Value.nilFunc, (Value.pointer Option.none), (Value.int IntKind.i32 (0 : Int)), (Value.int IntKind.i32 (0 : Int))] [(LT.int IntKind.u64), (LT.int IntKind.u64), (LT.int IntKind.u32), (LT.int IntKind.u8), (LT.int IntKind.u8), (LT.int IntKind.u8), (LT.int IntKind.u8), LT.other, LT.other, (LT.int IntKind.i32), (LT.int IntKind.i32)] false)
theorem tt88_ok : ttOf Tryd.prog false 88 = some tt88 := by kernel_rfl
def tts : List (Nat × TI) := [(2, tt2), (3, tt3), (4, tt4), (5, tt5), (6, tt6), (9, tt9), (10, tt10), (11, tt11), (12, tt12), (21, tt21), (22, tt22), (23, tt23), (24, tt24), (25, tt25), (26, tt26), (27, tt27), (28, tt28), (33, tt33), (40, tt40), (41, tt41), (42, tt42), (56, tt56), (57, tt57), (59, tt59), (68, tt68), (76, tt76), (80, tt80), (81, tt81), (82, tt82), (85, tt85), (86, tt86), (87, tt87), (88, tt88)]
theorem tts_ok : TabOk Tryd.prog tts := (.cons false tt2_ok (.cons false tt3_ok (.cons false tt4_ok (.cons false tt5_ok (.cons false tt6_ok (.cons false tt9_ok (.cons false tt10_ok (.cons false tt11_ok (.cons false tt12_ok (.cons false tt21_ok (.cons false tt22_ok (.cons false tt23_ok (.cons false tt24_ok (.cons true tt25_ok (.cons true tt26_ok (.cons true tt27_ok (.cons true tt28_ok (.cons false tt33_ok (.cons false tt40_ok (.cons true tt41_ok (.cons true tt42_ok (.cons false tt56_ok (.cons false tt57_ok (.cons false tt59_ok (.cons false tt68_ok (.cons false tt76_ok (.cons false tt80_ok (.cons false tt81_ok (.cons false tt82_ok (.cons false tt85_ok (.cons false tt86_ok (.cons false tt87_ok (.cons false tt88_ok .nil)))))))))))))))))))))))))))))))))
def TT : TypeId → Option TI := tabTT tts
theorem TT_ok : TOk Tryd.prog TT := tabTT_ok tts_ok
def TU : TypeId → Option (List TypeId) := tabTU [(31, [28, 4]), (34, [24, 33]), (43, [3, 4]), (48, [24, 3, 33])]

def ownF : FuncId → Bool := fun _ => false
def ownRo : FuncId → Bool := fun f => Nat.ble roTag f
def passL : List AVal := [bo false, bo false, bo false, bo false, bo false, bo false, bo false, bo true, bo false, bo false, bo false, bo true, bo false, bo true, bo true, bo false, bo false, bo true, bo false, bo true, bo true, bo true, bo true, bo true]
def GL0 : Nat → Option (List AVal) := fun g => bif Nat.beq g 0 then some passL else none
theorem mixed : Tryd.prog.follows .mixedOrders = true := by kernel_rfl
theorem libnone : Lib Tryd.prog GL0 noC := Lib.none
def Cnone := noC
end Go.Proofs.YtocgekefbdcdmaaDoor.AI
