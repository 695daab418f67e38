/- The types of this seat's program, told as a table (printed by wip/tool2/Ev.lean). -/
import Derived.Test.YtlgaiebfdheggaaAI20
import Derived.Test.YtlgaiebfdheggaaProg
namespace Go.Proofs.Ytlgaiebfdheggaa.AI
open Go.RowKit
def tt2 : TI := (TI.mk (TypeDesc.int IntKind.i64) 1 8 [(Value.int IntKind.i64 (0 : Int))] [(LT.int IntKind.i64)] false)
theorem tt2_ok : ttOf Try.prog false 2 = some tt2 := by kernel_rfl
def tt3 : TI := (TI.mk (TypeDesc.int IntKind.i64) 1 8 [(Value.int IntKind.i64 (0 : Int))] [(LT.int IntKind.i64)] false)
theorem tt3_ok : ttOf Try.prog false 3 = some tt3 := by kernel_rfl
def tt4 : TI := (TI.mk TypeDesc.bool 1 1 [(Value.bool false)] [LT.bool] false)
theorem tt4_ok : ttOf Try.prog false 4 = some tt4 := by kernel_rfl
def tt5 : TI := (TI.mk (TypeDesc.int IntKind.u8) 1 1 [(Value.int IntKind.u8 (0 : Int))] [(LT.int IntKind.u8)] false)
theorem tt5_ok : ttOf Try.prog false 5 = some tt5 := by kernel_rfl
def tt6 : TI := (TI.mk (TypeDesc.int IntKind.u8) 1 1 [(Value.int IntKind.u8 (0 : Int))] [(LT.int IntKind.u8)] false)
theorem tt6_ok : ttOf Try.prog false 6 = some tt6 := by kernel_rfl
def tt9 : TI := (TI.mk TypeDesc.string 1 16 [(Value.string (ByteArray.mk (Array.mk [])))] [LT.str] false)
theorem tt9_ok : ttOf Try.prog false 9 = some tt9 := by kernel_rfl
def tt10 : TI := (TI.mk TypeDesc.string 1 16 [(Value.string (ByteArray.mk (Array.mk [])))] [LT.str] false)
theorem tt10_ok : ttOf Try.prog false 10 = some tt10 := by kernel_rfl
def tt11 : TI := (TI.mk TypeDesc.string 1 16 [(Value.string (ByteArray.mk (Array.mk [])))] [LT.str] false)
theorem tt11_ok : ttOf Try.prog false 11 = some tt11 := by kernel_rfl
def tt12 : TI := (TI.mk (TypeDesc.int IntKind.u64) 1 8 [(Value.int IntKind.u64 (0 : Int))] [(LT.int IntKind.u64)] false)
theorem tt12_ok : ttOf Try.prog false 12 = some tt12 := by kernel_rfl
def tt21 : TI := (TI.mk (TypeDesc.int IntKind.i32) 1 4 [(Value.int IntKind.i32 (0 : Int))] [(LT.int IntKind.i32)] false)
theorem tt21_ok : ttOf Try.prog false 21 = some tt21 := by kernel_rfl
def tt22 : TI := (TI.mk (TypeDesc.struct (Array.mk [(Field.mk "X" 3 0 false "" "" 0), (Field.mk "Y" 3 1 false "" "" 8)])) 2 16 [(Value.int IntKind.i64 (0 : Int)), (Value.int IntKind.i64 (0 : Int))] [(LT.int IntKind.i64), (LT.int IntKind.i64)] true)
theorem tt22_ok : ttOf Try.prog true 22 = some tt22 := by kernel_rfl
def tt23 : TI := (TI.mk (TypeDesc.struct (Array.mk [(Field.mk "X" 3 0 false "" "" 0), (Field.mk "Y" 3 1 false "" "" 8)])) 2 16 [(Value.int IntKind.i64 (0 : Int)), (Value.int IntKind.i64 (0 : Int))] [(LT.int IntKind.i64), (LT.int IntKind.i64)] true)
theorem tt23_ok : ttOf Try.prog true 23 = some tt23 := by kernel_rfl
def tt40 : TI := (TI.mk (TypeDesc.int IntKind.u64) 1 8 [(Value.int IntKind.u64 (0 : Int))] [(LT.int IntKind.u64)] false)
theorem tt40_ok : ttOf Try.prog false 40 = some tt40 := by kernel_rfl
def tt41 : TI := (TI.mk (TypeDesc.slice 23) 1 24 [(Value.slice Option.none 0 0)] [(LT.sl 23 2)] false)
theorem tt41_ok : ttOf Try.prog false 41 = some tt41 := by kernel_rfl
def tt45 : TI := (TI.mk (TypeDesc.array 0 16) 0 0 [] [] false)
theorem tt45_ok : ttOf Try.prog false 45 = some tt45 := by kernel_rfl
def tt49 : TI := (TI.mk (TypeDesc.int IntKind.u32) 1 4 [(Value.int IntKind.u32 (0 : Int))] [(LT.int IntKind.u32)] false)
theorem tt49_ok : ttOf Try.prog false 49 = some tt49 := by kernel_rfl
def tt50 : TI := (TI.mk (TypeDesc.int IntKind.u8) 1 1 [(Value.int IntKind.u8 (0 : Int))] [(LT.int IntKind.u8)] false)
theorem tt50_ok : ttOf Try.prog false 50 = some tt50 := by kernel_rfl
def tt51 : TI := (TI.mk (TypeDesc.int IntKind.u8) 1 1 [(Value.int IntKind.u8 (0 : Int))] [(LT.int IntKind.u8)] false)
theorem tt51_ok : ttOf Try.prog false 51 = some tt51 := by kernel_rfl
def tt54 : TI := (TI.mk (TypeDesc.int IntKind.i32) 1 4 [(Value.int IntKind.i32 (0 : Int))] [(LT.int IntKind.i32)] false)
theorem tt54_ok : ttOf Try.prog false 54 = some tt54 := by kernel_rfl
def tt55 : TI := (TI.mk (TypeDesc.int IntKind.i32) 1 4 [(Value.int IntKind.i32 (0 : Int))] [(LT.int IntKind.i32)] false)
theorem tt55_ok : ttOf Try.prog false 55 = some tt55 := by kernel_rfl
def tt56 : TI := (TI.mk (TypeDesc.struct (Array.mk [(Field.mk "Size_" 12 0 false "" "" 0), (Field.mk "PtrBytes" 12 1 false "" "" 8), (Field.mk "Hash" 49 2 false "" "" 16), (Field.mk "TFlag" 50 3 false "" "" 20), (Field.mk "Align_" 5 4 false "" "" 21), (Field.mk "FieldAlign_" 5 5 false "" "" 22), (Field.mk "Kind_" 51 6 false "" "" 23), (Field.mk "Equal" 52 7 false "" "" 24), (Field.mk "GCData" 53 8 false "" "" 32), (Field.mk "Str" 54 9 false "" "" 40), (Field.mk "PtrToThis" 55 10 false "" "" 44)])) 11 48 [(Value.int IntKind.u64 (0 : Int)), (Value.int IntKind.u64 (0 : Int)), (Value.int IntKind.u32 (0 : Int)), (Value.int IntKind.u8 (0 : Int)), (Value.int IntKind.u8 (0 : Int)), (Value.int IntKind.u8 (0 : Int)), (Value.int IntKind.u8 (0 : Int)), Value.nilFunc, (Value.pointer Option.none), (Value.int IntKind.i32 (0 : Int)), (Value.int IntKind.i32 (0 : Int))] [(LT.int IntKind.u64), (LT.int IntKind.u64), (LT.int IntKind.u32), (LT.int IntKind.u8), (LT.int IntKind.u8), (LT.int IntKind.u8), (LT.int IntKind.u8), LT.other, LT.other, (LT.int IntKind.i32), (LT.int IntKind.i32)] false)
theorem tt56_ok : ttOf Try.prog false 56 = some tt56 := by kernel_rfl
def tt57 : TI := (TI.mk (TypeDesc.struct (Array.mk [(Field.mk "Size_" 12 0 false "" "" 0), (Field.mk "PtrBytes" 12 1 false "" "" 8), (Field.mk "Hash" 49 2 false "" "" 16), (Field.mk "TFlag" 50 3 false "" "" 20), (Field.mk "Align_" 5 4 false "" "" 21), (Field.mk "FieldAlign_" 5 5 false "" "" 22), (Field.mk "Kind_" 51 6 false "" "" 23), (Field.mk "Equal" 52 7 false "" "" 24), (Field.mk "GCData" 53 8 false "" "" 32), (Field.mk "Str" 54 9 false "" "" 40), (Field.mk "PtrToThis" 55 10 false "" "" 44)])) 11 48 [(Value.int IntKind.u64 (0 : Int)), (Value.int IntKind.u64 (0 : Int)), (Value.int IntKind.u32 (0 : Int)), (Value.int IntKind.u8 (0 : Int)), (Value.int IntKind.u8 (0 : Int)), (Value.int IntKind.u8 (0 : Int)), (Value.int IntKind.u8 (0 : Int)), Value.nilFunc, (Value.pointer Option.none), (Value.int IntKind.i32 (0 : Int)), (Value.int IntKind.i32 (0 : Int))] [(LT.int IntKind.u64), (LT.int IntKind.u64), (LT.int IntKind.u32), (LT.int IntKind.u8), (LT.int IntKind.u8), (LT.int IntKind.u8), (LT.int IntKind.u8), LT.other, LT.other, (LT.int IntKind.i32), (LT.int IntKind.i32)] false)
theorem tt57_ok : ttOf Try.prog false 57 = some tt57 := by kernel_rfl
def tts : List (Nat × TI) := [(2, tt2), (3, tt3), (4, tt4), (5, tt5), (6, tt6), (9, tt9), (10, tt10), (11, tt11), (12, tt12), (21, tt21), (22, tt22), (23, tt23), (40, tt40), (41, tt41), (45, tt45), (49, tt49), (50, tt50), (51, tt51), (54, tt54), (55, tt55), (56, tt56), (57, tt57)]
theorem tts_ok : TabOk Try.prog tts := (.cons false tt2_ok (.cons false tt3_ok (.cons false tt4_ok (.cons false tt5_ok (.cons false tt6_ok (.cons false tt9_ok (.cons false tt10_ok (.cons false tt11_ok (.cons false tt12_ok (.cons false tt21_ok (.cons true tt22_ok (.cons true tt23_ok (.cons false tt40_ok (.cons false tt41_ok (.cons false tt45_ok (.cons false tt49_ok (.cons false tt50_ok (.cons false tt51_ok (.cons false tt54_ok (.cons false tt55_ok (.cons false tt56_ok (.cons false tt57_ok .nil))))))))))))))))))))))
def TT : TypeId → Option TI := tabTT tts
theorem TT_ok : TOk Try.prog TT := tabTT_ok tts_ok
def TU : TypeId → Option (List TypeId) := tabTU [(36, [23, 3])]

def ownF : FuncId → Bool := fun _ => false
theorem mixed : Try.prog.follows .mixedOrders = true := by kernel_rfl
theorem libnone : Lib Try.prog noG noC := Lib.none
def Cnone := noC
end Go.Proofs.Ytlgaiebfdheggaa.AI
