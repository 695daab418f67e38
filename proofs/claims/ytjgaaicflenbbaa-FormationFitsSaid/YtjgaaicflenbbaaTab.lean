/- The types of this seat's program, told as a table (printed by wip/tool2/Ev.lean). -/
import Derived.Test.YtjgaaicflenbbaaAI20
import Derived.Test.YtjgaaicflenbbaaProg
namespace Go.Proofs.Ytjgaaicflenbbaa.AI
open Go.RowKit
def tt2 : TI := (TI.mk (TypeDesc.int IntKind.i64) 1 8 [(Value.int IntKind.i64 (0 : Int))] [(LT.int IntKind.i64)] false)
theorem tt2_ok : ttOf Try.prog false 2 = some tt2 := by kernel_rfl
def tt3 : TI := (TI.mk (TypeDesc.int IntKind.i64) 1 8 [(Value.int IntKind.i64 (0 : Int))] [(LT.int IntKind.i64)] false)
theorem tt3_ok : ttOf Try.prog false 3 = some tt3 := by kernel_rfl
def tt4 : TI := (TI.mk TypeDesc.bool 1 1 [(Value.bool false)] [LT.bool] false)
theorem tt4_ok : ttOf Try.prog false 4 = some tt4 := by kernel_rfl
def tt5 : TI := (TI.mk (TypeDesc.int IntKind.u8) 1 1 [(Value.int IntKind.u8 (0 : Int))] [(LT.int IntKind.u8)] false)
theorem tt5_ok : ttOf Try.prog false 5 = some tt5 := by kernel_rfl
def tt6 : TI := (TI.mk (TypeDesc.int IntKind.u8) 1 1 [(Value.int IntKind.u8 (0 : Int))] [(LT.int IntKind.u8)] false)
theorem tt6_ok : ttOf Try.prog false 6 = some tt6 := by kernel_rfl
def tt9 : TI := (TI.mk TypeDesc.string 1 16 [(Value.string (ByteArray.mk (Array.mk [])))] [LT.str] false)
theorem tt9_ok : ttOf Try.prog false 9 = some tt9 := by kernel_rfl
def tt10 : TI := (TI.mk TypeDesc.string 1 16 [(Value.string (ByteArray.mk (Array.mk [])))] [LT.str] false)
theorem tt10_ok : ttOf Try.prog false 10 = some tt10 := by kernel_rfl
def tt11 : TI := (TI.mk TypeDesc.string 1 16 [(Value.string (ByteArray.mk (Array.mk [])))] [LT.str] false)
theorem tt11_ok : ttOf Try.prog false 11 = some tt11 := by kernel_rfl
def tt12 : TI := (TI.mk (TypeDesc.int IntKind.u64) 1 8 [(Value.int IntKind.u64 (0 : Int))] [(LT.int IntKind.u64)] false)
theorem tt12_ok : ttOf Try.prog false 12 = some tt12 := by kernel_rfl
def tt21 : TI := (TI.mk (TypeDesc.int IntKind.i32) 1 4 [(Value.int IntKind.i32 (0 : Int))] [(LT.int IntKind.i32)] false)
theorem tt21_ok : ttOf Try.prog false 21 = some tt21 := by kernel_rfl
def tt22 : TI := (TI.mk (TypeDesc.struct (Array.mk [(Field.mk "X" 3 0 false "" "" 0), (Field.mk "Y" 3 1 false "" "" 8)])) 2 16 [(Value.int IntKind.i64 (0 : Int)), (Value.int IntKind.i64 (0 : Int))] [(LT.int IntKind.i64), (LT.int IntKind.i64)] true)
theorem tt22_ok : ttOf Try.prog true 22 = some tt22 := by kernel_rfl
def tt23 : TI := (TI.mk (TypeDesc.struct (Array.mk [(Field.mk "X" 3 0 false "" "" 0), (Field.mk "Y" 3 1 false "" "" 8)])) 2 16 [(Value.int IntKind.i64 (0 : Int)), (Value.int IntKind.i64 (0 : Int))] [(LT.int IntKind.i64), (LT.int IntKind.i64)] true)
theorem tt23_ok : ttOf Try.prog true 23 = some tt23 := by kernel_rfl
def tt24 : TI := (TI.mk (TypeDesc.struct (Array.mk [(Field.mk "Kind" 3 0 false "" "" 0), (Field.mk "N" 3 1 false "" "" 8), (Field.mk "Spacing" 3 2 false "" "" 16), (Field.mk "At" 23 3 false "" "" 24), (Field.mk "Facing" 23 5 false "" "" 40)])) 7 56 [(Value.int IntKind.i64 (0 : Int)), (Value.int IntKind.i64 (0 : Int)), (Value.int IntKind.i64 (0 : Int)), (Value.int IntKind.i64 (0 : Int)), (Value.int IntKind.i64 (0 : Int)), (Value.int IntKind.i64 (0 : Int)), (Value.int IntKind.i64 (0 : Int))] [(LT.int IntKind.i64), (LT.int IntKind.i64), (LT.int IntKind.i64), (LT.int IntKind.i64), (LT.int IntKind.i64), (LT.int IntKind.i64), (LT.int IntKind.i64)] true)
theorem tt24_ok : ttOf Try.prog true 24 = some tt24 := by kernel_rfl
def tt25 : TI := (TI.mk (TypeDesc.struct (Array.mk [(Field.mk "Kind" 3 0 false "" "" 0), (Field.mk "N" 3 1 false "" "" 8), (Field.mk "Spacing" 3 2 false "" "" 16), (Field.mk "At" 23 3 false "" "" 24), (Field.mk "Facing" 23 5 false "" "" 40)])) 7 56 [(Value.int IntKind.i64 (0 : Int)), (Value.int IntKind.i64 (0 : Int)), (Value.int IntKind.i64 (0 : Int)), (Value.int IntKind.i64 (0 : Int)), (Value.int IntKind.i64 (0 : Int)), (Value.int IntKind.i64 (0 : Int)), (Value.int IntKind.i64 (0 : Int))] [(LT.int IntKind.i64), (LT.int IntKind.i64), (LT.int IntKind.i64), (LT.int IntKind.i64), (LT.int IntKind.i64), (LT.int IntKind.i64), (LT.int IntKind.i64)] true)
theorem tt25_ok : ttOf Try.prog true 25 = some tt25 := by kernel_rfl
def tt27 : TI := (TI.mk (TypeDesc.slice 23) 1 24 [(Value.slice Option.none 0 0)] [(LT.sl 23 2)] false)
theorem tt27_ok : ttOf Try.prog false 27 = some tt27 := by kernel_rfl
def tt33 : TI := (TI.mk (TypeDesc.slice 3) 1 24 [(Value.slice Option.none 0 0)] [(LT.sl 3 1)] false)
theorem tt33_ok : ttOf Try.prog false 33 = some tt33 := by kernel_rfl
def tt36 : TI := (TI.mk (TypeDesc.int IntKind.i64) 1 8 [(Value.int IntKind.i64 (0 : Int))] [(LT.int IntKind.i64)] false)
theorem tt36_ok : ttOf Try.prog false 36 = some tt36 := by kernel_rfl
def tt40 : TI := (TI.mk (TypeDesc.slice 72) 1 24 [(Value.slice Option.none 0 0)] [(LT.sl 72 3)] false)
theorem tt40_ok : ttOf Try.prog false 40 = some tt40 := by kernel_rfl
def tt41 : TI := (TI.mk (TypeDesc.struct (Array.mk [(Field.mk "W" 3 0 false "" "" 0), (Field.mk "H" 3 1 false "" "" 8), (Field.mk "Cells" 40 2 false "" "" 16)])) 3 40 [(Value.int IntKind.i64 (0 : Int)), (Value.int IntKind.i64 (0 : Int)), (Value.slice Option.none 0 0)] [(LT.int IntKind.i64), (LT.int IntKind.i64), (LT.sl 72 3)] false)
theorem tt41_ok : ttOf Try.prog false 41 = some tt41 := by kernel_rfl
def tt42 : TI := (TI.mk (TypeDesc.struct (Array.mk [(Field.mk "W" 3 0 false "" "" 0), (Field.mk "H" 3 1 false "" "" 8), (Field.mk "Cells" 40 2 false "" "" 16)])) 3 40 [(Value.int IntKind.i64 (0 : Int)), (Value.int IntKind.i64 (0 : Int)), (Value.slice Option.none 0 0)] [(LT.int IntKind.i64), (LT.int IntKind.i64), (LT.sl 72 3)] false)
theorem tt42_ok : ttOf Try.prog false 42 = some tt42 := by kernel_rfl
def tt51 : TI := (TI.mk (TypeDesc.slice 4) 1 24 [(Value.slice Option.none 0 0)] [(LT.sl 4 1)] false)
theorem tt51_ok : ttOf Try.prog false 51 = some tt51 := by kernel_rfl
def tt54 : TI := (TI.mk (TypeDesc.int IntKind.u64) 1 8 [(Value.int IntKind.u64 (0 : Int))] [(LT.int IntKind.u64)] false)
theorem tt54_ok : ttOf Try.prog false 54 = some tt54 := by kernel_rfl
def tt58 : TI := (TI.mk (TypeDesc.array 0 16) 0 0 [] [] false)
theorem tt58_ok : ttOf Try.prog false 58 = some tt58 := by kernel_rfl
def tt62 : TI := (TI.mk (TypeDesc.int IntKind.u32) 1 4 [(Value.int IntKind.u32 (0 : Int))] [(LT.int IntKind.u32)] false)
theorem tt62_ok : ttOf Try.prog false 62 = some tt62 := by kernel_rfl
def tt63 : TI := (TI.mk (TypeDesc.int IntKind.u8) 1 1 [(Value.int IntKind.u8 (0 : Int))] [(LT.int IntKind.u8)] false)
theorem tt63_ok : ttOf Try.prog false 63 = some tt63 := by kernel_rfl
def tt64 : TI := (TI.mk (TypeDesc.int IntKind.u8) 1 1 [(Value.int IntKind.u8 (0 : Int))] [(LT.int IntKind.u8)] false)
theorem tt64_ok : ttOf Try.prog false 64 = some tt64 := by kernel_rfl
def tt67 : TI := (TI.mk (TypeDesc.int IntKind.i32) 1 4 [(Value.int IntKind.i32 (0 : Int))] [(LT.int IntKind.i32)] false)
theorem tt67_ok : ttOf Try.prog false 67 = some tt67 := by kernel_rfl
def tt68 : TI := (TI.mk (TypeDesc.int IntKind.i32) 1 4 [(Value.int IntKind.i32 (0 : Int))] [(LT.int IntKind.i32)] false)
theorem tt68_ok : ttOf Try.prog false 68 = some tt68 := by kernel_rfl
def tt69 : TI := (TI.mk (TypeDesc.struct (Array.mk [(Field.mk "Size_" 12 0 false "" "" 0), (Field.mk "PtrBytes" 12 1 false "" "" 8), (Field.mk "Hash" 62 2 false "" "" 16), (Field.mk "TFlag" 63 3 false "" "" 20), (Field.mk "Align_" 5 4 false "" "" 21), (Field.mk "FieldAlign_" 5 5 false "" "" 22), (Field.mk "Kind_" 64 6 false "" "" 23), (Field.mk "Equal" 65 7 false "" "" 24), (Field.mk "GCData" 66 8 false "" "" 32), (Field.mk "Str" 67 9 false "" "" 40), (Field.mk "PtrToThis" 68 10 false "" "" 44)])) 11 48 [(Value.int IntKind.u64 (0 : Int)), (Value.int IntKind.u64 (0 : Int)), (Value.int IntKind.u32 (0 : Int)), (Value.int IntKind.u8 (0 : Int)), (Value.int IntKind.u8 (0 : Int)), (Value.int IntKind.u8 (0 : Int)), (Value.int IntKind.u8 (0 : Int)), Value.nilFunc, (Value.pointer Option.none), (Value.int IntKind.i32 (0 : Int)), (Value.int IntKind.i32 (0 : Int))] [(LT.int IntKind.u64), (LT.int IntKind.u64), (LT.int IntKind.u32), (LT.int IntKind.u8), (LT.int IntKind.u8), (LT.int IntKind.u8), (LT.int IntKind.u8), LT.other, LT.other, (LT.int IntKind.i32), (LT.int IntKind.i32)] false)
theorem tt69_ok : ttOf Try.prog false 69 = some tt69 := by kernel_rfl
def tt70 : TI := (TI.mk (TypeDesc.struct (Array.mk [(Field.mk "Size_" 12 0 false "" "" 0), (Field.mk "PtrBytes" 12 1 false "" "" 8), (Field.mk "Hash" 62 2 false "" "" 16), (Field.mk "TFlag" 63 3 false "" "" 20), (Field.mk "Align_" 5 4 false "" "" 21), (Field.mk "FieldAlign_" 5 5 false "" "" 22), (Field.mk "Kind_" 64 6 false "" "" 23), (Field.mk "Equal" 65 7 false "" "" 24), (Field.mk "GCData" 66 8 false "" "" 32), (Field.mk "Str" 67 9 false "" "" 40), (Field.mk "PtrToThis" 68 10 false "" "" 44)])) 11 48 [(Value.int IntKind.u64 (0 : Int)), (Value.int IntKind.u64 (0 : Int)), (Value.int IntKind.u32 (0 : Int)), (Value.int IntKind.u8 (0 : Int)), (Value.int IntKind.u8 (0 : Int)), (Value.int IntKind.u8 (0 : Int)), (Value.int IntKind.u8 (0 : Int)), Value.nilFunc, (Value.pointer Option.none), (Value.int IntKind.i32 (0 : Int)), (Value.int IntKind.i32 (0 : Int))] [(LT.int IntKind.u64), (LT.int IntKind.u64), (LT.int IntKind.u32), (LT.int IntKind.u8), (LT.int IntKind.u8), (LT.int IntKind.u8), (LT.int IntKind.u8), LT.other, LT.other, (LT.int IntKind.i32), (LT.int IntKind.i32)] false)
theorem tt70_ok : ttOf Try.prog false 70 = some tt70 := by kernel_rfl
def tt71 : TI := (TI.mk (TypeDesc.struct (Array.mk [(Field.mk "Kind" 3 0 false "" "" 0), (Field.mk "Height" 3 1 false "" "" 8), (Field.mk "Amount" 3 2 false "" "" 16)])) 3 24 [(Value.int IntKind.i64 (0 : Int)), (Value.int IntKind.i64 (0 : Int)), (Value.int IntKind.i64 (0 : Int))] [(LT.int IntKind.i64), (LT.int IntKind.i64), (LT.int IntKind.i64)] true)
theorem tt71_ok : ttOf Try.prog true 71 = some tt71 := by kernel_rfl
def tt72 : TI := (TI.mk (TypeDesc.struct (Array.mk [(Field.mk "Kind" 3 0 false "" "" 0), (Field.mk "Height" 3 1 false "" "" 8), (Field.mk "Amount" 3 2 false "" "" 16)])) 3 24 [(Value.int IntKind.i64 (0 : Int)), (Value.int IntKind.i64 (0 : Int)), (Value.int IntKind.i64 (0 : Int))] [(LT.int IntKind.i64), (LT.int IntKind.i64), (LT.int IntKind.i64)] true)
theorem tt72_ok : ttOf Try.prog true 72 = some tt72 := by kernel_rfl
def tts : List (Nat × TI) := [(2, tt2), (3, tt3), (4, tt4), (5, tt5), (6, tt6), (9, tt9), (10, tt10), (11, tt11), (12, tt12), (21, tt21), (22, tt22), (23, tt23), (24, tt24), (25, tt25), (27, tt27), (33, tt33), (36, tt36), (40, tt40), (41, tt41), (42, tt42), (51, tt51), (54, tt54), (58, tt58), (62, tt62), (63, tt63), (64, tt64), (67, tt67), (68, tt68), (69, tt69), (70, tt70), (71, tt71), (72, tt72)]
theorem tts_ok : TabOk Try.prog tts := (.cons false tt2_ok (.cons false tt3_ok (.cons false tt4_ok (.cons false tt5_ok (.cons false tt6_ok (.cons false tt9_ok (.cons false tt10_ok (.cons false tt11_ok (.cons false tt12_ok (.cons false tt21_ok (.cons true tt22_ok (.cons true tt23_ok (.cons true tt24_ok (.cons true tt25_ok (.cons false tt27_ok (.cons false tt33_ok (.cons false tt36_ok (.cons false tt40_ok (.cons false tt41_ok (.cons false tt42_ok (.cons false tt51_ok (.cons false tt54_ok (.cons false tt58_ok (.cons false tt62_ok (.cons false tt63_ok (.cons false tt64_ok (.cons false tt67_ok (.cons false tt68_ok (.cons false tt69_ok (.cons false tt70_ok (.cons true tt71_ok (.cons true tt72_ok .nil))))))))))))))))))))))))))))))))
def TT : TypeId → Option TI := tabTT tts
theorem TT_ok : TOk Try.prog TT := tabTT_ok tts_ok
def TU : TypeId → Option (List TypeId) := tabTU [(37, [3, 36])]

def ownF : FuncId → Bool := fun _ => false
theorem mixed : Try.prog.follows .mixedOrders = true := by kernel_rfl
theorem libnone : Lib Try.prog noG noC := Lib.none
def Cnone := noC
end Go.Proofs.Ytjgaaicflenbbaa.AI
