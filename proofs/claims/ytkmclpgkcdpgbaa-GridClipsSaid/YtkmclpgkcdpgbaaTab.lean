/- The types of this seat's program, told as a table (printed by wip/tool2/Ev.lean). -/
import Derived.Test.YtkmclpgkcdpgbaaAI20
import Derived.Test.YtkmclpgkcdpgbaaProg
namespace Go.Proofs.Ytkmclpgkcdpgbaa.AI
open Go.RowKit
def tt2 : TI := (TI.mk (TypeDesc.int IntKind.i64) 1 8 [(Value.int IntKind.i64 (0 : Int))] [(LT.int IntKind.i64)] false)
theorem tt2_ok : ttOf Try.prog false 2 = some tt2 := by kernel_rfl
def tt3 : TI := (TI.mk (TypeDesc.int IntKind.i64) 1 8 [(Value.int IntKind.i64 (0 : Int))] [(LT.int IntKind.i64)] false)
theorem tt3_ok : ttOf Try.prog false 3 = some tt3 := by kernel_rfl
def tt4 : TI := (TI.mk TypeDesc.bool 1 1 [(Value.bool false)] [LT.bool] false)
theorem tt4_ok : ttOf Try.prog false 4 = some tt4 := by kernel_rfl
def tt5 : TI := (TI.mk (TypeDesc.int IntKind.u8) 1 1 [(Value.int IntKind.u8 (0 : Int))] [(LT.int IntKind.u8)] false)
theorem tt5_ok : ttOf Try.prog false 5 = some tt5 := by kernel_rfl
def tt6 : TI := (TI.mk (TypeDesc.int IntKind.u8) 1 1 [(Value.int IntKind.u8 (0 : Int))] [(LT.int IntKind.u8)] false)
theorem tt6_ok : ttOf Try.prog false 6 = some tt6 := by kernel_rfl
def tt9 : TI := (TI.mk TypeDesc.string 1 16 [(Value.string (ByteArray.mk (Array.mk [])))] [LT.str] false)
theorem tt9_ok : ttOf Try.prog false 9 = some tt9 := by kernel_rfl
def tt10 : TI := (TI.mk TypeDesc.string 1 16 [(Value.string (ByteArray.mk (Array.mk [])))] [LT.str] false)
theorem tt10_ok : ttOf Try.prog false 10 = some tt10 := by kernel_rfl
def tt11 : TI := (TI.mk TypeDesc.string 1 16 [(Value.string (ByteArray.mk (Array.mk [])))] [LT.str] false)
theorem tt11_ok : ttOf Try.prog false 11 = some tt11 := by kernel_rfl
def tt12 : TI := (TI.mk (TypeDesc.int IntKind.u64) 1 8 [(Value.int IntKind.u64 (0 : Int))] [(LT.int IntKind.u64)] false)
theorem tt12_ok : ttOf Try.prog false 12 = some tt12 := by kernel_rfl
def tt21 : TI := (TI.mk (TypeDesc.int IntKind.i32) 1 4 [(Value.int IntKind.i32 (0 : Int))] [(LT.int IntKind.i32)] false)
theorem tt21_ok : ttOf Try.prog false 21 = some tt21 := by kernel_rfl
def tt22 : TI := (TI.mk (TypeDesc.struct (Array.mk [(Field.mk "X" 3 0 false "" "" 0), (Field.mk "Y" 3 1 false "" "" 8)])) 2 16 [(Value.int IntKind.i64 (0 : Int)), (Value.int IntKind.i64 (0 : Int))] [(LT.int IntKind.i64), (LT.int IntKind.i64)] true)
theorem tt22_ok : ttOf Try.prog true 22 = some tt22 := by kernel_rfl
def tt23 : TI := (TI.mk (TypeDesc.struct (Array.mk [(Field.mk "X" 3 0 false "" "" 0), (Field.mk "Y" 3 1 false "" "" 8)])) 2 16 [(Value.int IntKind.i64 (0 : Int)), (Value.int IntKind.i64 (0 : Int))] [(LT.int IntKind.i64), (LT.int IntKind.i64)] true)
theorem tt23_ok : ttOf Try.prog true 23 = some tt23 := by kernel_rfl
def tt26 : TI := (TI.mk (TypeDesc.slice 23) 1 24 [(Value.slice Option.none 0 0)] [(LT.sl 23 2)] false)
theorem tt26_ok : ttOf Try.prog false 26 = some tt26 := by kernel_rfl
def tt32 : TI := (TI.mk (TypeDesc.array 3 23) 6 48 [(Value.int IntKind.i64 (0 : Int)), (Value.int IntKind.i64 (0 : Int)), (Value.int IntKind.i64 (0 : Int)), (Value.int IntKind.i64 (0 : Int)), (Value.int IntKind.i64 (0 : Int)), (Value.int IntKind.i64 (0 : Int))] [(LT.int IntKind.i64), (LT.int IntKind.i64), (LT.int IntKind.i64), (LT.int IntKind.i64), (LT.int IntKind.i64), (LT.int IntKind.i64)] false)
theorem tt32_ok : ttOf Try.prog false 32 = some tt32 := by kernel_rfl
def tt38 : TI := (TI.mk (TypeDesc.struct (Array.mk [(Field.mk "X" 3 0 false "" "" 0), (Field.mk "Y" 3 1 false "" "" 8), (Field.mk "W" 3 2 false "" "" 16), (Field.mk "H" 3 3 false "" "" 24)])) 4 32 [(Value.int IntKind.i64 (0 : Int)), (Value.int IntKind.i64 (0 : Int)), (Value.int IntKind.i64 (0 : Int)), (Value.int IntKind.i64 (0 : Int))] [(LT.int IntKind.i64), (LT.int IntKind.i64), (LT.int IntKind.i64), (LT.int IntKind.i64)] true)
theorem tt38_ok : ttOf Try.prog true 38 = some tt38 := by kernel_rfl
def tt39 : TI := (TI.mk (TypeDesc.struct (Array.mk [(Field.mk "X" 3 0 false "" "" 0), (Field.mk "Y" 3 1 false "" "" 8), (Field.mk "W" 3 2 false "" "" 16), (Field.mk "H" 3 3 false "" "" 24)])) 4 32 [(Value.int IntKind.i64 (0 : Int)), (Value.int IntKind.i64 (0 : Int)), (Value.int IntKind.i64 (0 : Int)), (Value.int IntKind.i64 (0 : Int))] [(LT.int IntKind.i64), (LT.int IntKind.i64), (LT.int IntKind.i64), (LT.int IntKind.i64)] true)
theorem tt39_ok : ttOf Try.prog true 39 = some tt39 := by kernel_rfl
def tt40 : TI := (TI.mk (TypeDesc.array 2 3) 2 16 [(Value.int IntKind.i64 (0 : Int)), (Value.int IntKind.i64 (0 : Int))] [(LT.int IntKind.i64), (LT.int IntKind.i64)] false)
theorem tt40_ok : ttOf Try.prog false 40 = some tt40 := by kernel_rfl
def tt47 : TI := (TI.mk (TypeDesc.array 8 23) 16 128 [(Value.int IntKind.i64 (0 : Int)), (Value.int IntKind.i64 (0 : Int)), (Value.int IntKind.i64 (0 : Int)), (Value.int IntKind.i64 (0 : Int)), (Value.int IntKind.i64 (0 : Int)), (Value.int IntKind.i64 (0 : Int)), (Value.int IntKind.i64 (0 : Int)), (Value.int IntKind.i64 (0 : Int)), (Value.int IntKind.i64 (0 : Int)), (Value.int IntKind.i64 (0 : Int)), (Value.int IntKind.i64 (0 : Int)), (Value.int IntKind.i64 (0 : Int)), (Value.int IntKind.i64 (0 : Int)), (Value.int IntKind.i64 (0 : Int)), (Value.int IntKind.i64 (0 : Int)), (Value.int IntKind.i64 (0 : Int))] [(LT.int IntKind.i64), (LT.int IntKind.i64), (LT.int IntKind.i64), (LT.int IntKind.i64), (LT.int IntKind.i64), (LT.int IntKind.i64), (LT.int IntKind.i64), (LT.int IntKind.i64), (LT.int IntKind.i64), (LT.int IntKind.i64), (LT.int IntKind.i64), (LT.int IntKind.i64), (LT.int IntKind.i64), (LT.int IntKind.i64), (LT.int IntKind.i64), (LT.int IntKind.i64)] false)
theorem tt47_ok : ttOf Try.prog false 47 = some tt47 := by kernel_rfl
def tt60 : TI := (TI.mk (TypeDesc.array 0 16) 0 0 [] [] false)
theorem tt60_ok : ttOf Try.prog false 60 = some tt60 := by kernel_rfl
def tt64 : TI := (TI.mk (TypeDesc.int IntKind.u32) 1 4 [(Value.int IntKind.u32 (0 : Int))] [(LT.int IntKind.u32)] false)
theorem tt64_ok : ttOf Try.prog false 64 = some tt64 := by kernel_rfl
def tt65 : TI := (TI.mk (TypeDesc.int IntKind.u8) 1 1 [(Value.int IntKind.u8 (0 : Int))] [(LT.int IntKind.u8)] false)
theorem tt65_ok : ttOf Try.prog false 65 = some tt65 := by kernel_rfl
def tt66 : TI := (TI.mk (TypeDesc.int IntKind.u8) 1 1 [(Value.int IntKind.u8 (0 : Int))] [(LT.int IntKind.u8)] false)
theorem tt66_ok : ttOf Try.prog false 66 = some tt66 := by kernel_rfl
def tt69 : TI := (TI.mk (TypeDesc.int IntKind.i32) 1 4 [(Value.int IntKind.i32 (0 : Int))] [(LT.int IntKind.i32)] false)
theorem tt69_ok : ttOf Try.prog false 69 = some tt69 := by kernel_rfl
def tt70 : TI := (TI.mk (TypeDesc.int IntKind.i32) 1 4 [(Value.int IntKind.i32 (0 : Int))] [(LT.int IntKind.i32)] false)
theorem tt70_ok : ttOf Try.prog false 70 = some tt70 := by kernel_rfl
def tt71 : TI := (TI.mk (TypeDesc.struct (Array.mk [(Field.mk "Size_" 12 0 false "" "" 0), (Field.mk "PtrBytes" 12 1 false "" "" 8), (Field.mk "Hash" 64 2 false "" "" 16), (Field.mk "TFlag" 65 3 false "" "" 20), (Field.mk "Align_" 5 4 false "" "" 21), (Field.mk "FieldAlign_" 5 5 false "" "" 22), (Field.mk "Kind_" 66 6 false "" "" 23), (Field.mk "Equal" 67 7 false "" "" 24), (Field.mk "GCData" 68 8 false "" "" 32), (Field.mk "Str" 69 9 false "" "" 40), (Field.mk "PtrToThis" 70 10 false "" "" 44)])) 11 48 [(Value.int IntKind.u64 (0 : Int)), (Value.int IntKind.u64 (0 : Int)), (Value.int IntKind.u32 (0 : Int)), (Value.int IntKind.u8 (0 : Int)), (Value.int IntKind.u8 (0 : Int)), (Value.int IntKind.u8 (0 : Int)), (Value.int IntKind.u8 (0 : Int)), Value.nilFunc, (Value.pointer Option.none), (Value.int IntKind.i32 (0 : Int)), (Value.int IntKind.i32 (0 : Int))] [(LT.int IntKind.u64), (LT.int IntKind.u64), (LT.int IntKind.u32), (LT.int IntKind.u8), (LT.int IntKind.u8), (LT.int IntKind.u8), (LT.int IntKind.u8), LT.other, LT.other, (LT.int IntKind.i32), (LT.int IntKind.i32)] false)
theorem tt71_ok : ttOf Try.prog false 71 = some tt71 := by kernel_rfl
def tt72 : TI := (TI.mk (TypeDesc.struct (Array.mk [(Field.mk "Size_" 12 0 false "" "" 0), (Field.mk "PtrBytes" 12 1 false "" "" 8), (Field.mk "Hash" 64 2 false "" "" 16), (Field.mk "TFlag" 65 3 false "" "" 20), (Field.mk "Align_" 5 4 false "" "" 21), (Field.mk "FieldAlign_" 5 5 false "" "" 22), (Field.mk "Kind_" 66 6 false "" "" 23), (Field.mk "Equal" 67 7 false "" "" 24), (Field.mk "GCData" 68 8 false "" "" 32), (Field.mk "Str" 69 9 false "" "" 40), (Field.mk "PtrToThis" 70 10 false "" "" 44)])) 11 48 [(Value.int IntKind.u64 (0 : Int)), (Value.int IntKind.u64 (0 : Int)), (Value.int IntKind.u32 (0 : Int)), (Value.int IntKind.u8 (0 : Int)), (Value.int IntKind.u8 (0 : Int)), (Value.int IntKind.u8 (0 : Int)), (Value.int IntKind.u8 (0 : Int)), Value.nilFunc, (Value.pointer Option.none), (Value.int IntKind.i32 (0 : Int)), (Value.int IntKind.i32 (0 : Int))] [(LT.int IntKind.u64), (LT.int IntKind.u64), (LT.int IntKind.u32), (LT.int IntKind.u8), (LT.int IntKind.u8), (LT.int IntKind.u8), (LT.int IntKind.u8), LT.other, LT.other, (LT.int IntKind.i32), (LT.int IntKind.i32)] false)
theorem tt72_ok : ttOf Try.prog false 72 = some tt72 := by kernel_rfl
def tts : List (Nat × TI) := [(2, tt2), (3, tt3), (4, tt4), (5, tt5), (6, tt6), (9, tt9), (10, tt10), (11, tt11), (12, tt12), (21, tt21), (22, tt22), (23, tt23), (26, tt26), (32, tt32), (38, tt38), (39, tt39), (40, tt40), (47, tt47), (60, tt60), (64, tt64), (65, tt65), (66, tt66), (69, tt69), (70, tt70), (71, tt71), (72, tt72)]
theorem tts_ok : TabOk Try.prog tts := (.cons false tt2_ok (.cons false tt3_ok (.cons false tt4_ok (.cons false tt5_ok (.cons false tt6_ok (.cons false tt9_ok (.cons false tt10_ok (.cons false tt11_ok (.cons false tt12_ok (.cons false tt21_ok (.cons true tt22_ok (.cons true tt23_ok (.cons false tt26_ok (.cons false tt32_ok (.cons true tt38_ok (.cons true tt39_ok (.cons false tt40_ok (.cons false tt47_ok (.cons false tt60_ok (.cons false tt64_ok (.cons false tt65_ok (.cons false tt66_ok (.cons false tt69_ok (.cons false tt70_ok (.cons false tt71_ok (.cons false tt72_ok .nil))))))))))))))))))))))))))
def TT : TypeId → Option TI := tabTT tts
theorem TT_ok : TOk Try.prog TT := tabTT_ok tts_ok
def TU : TypeId → Option (List TypeId) := tabTU [(51, [3, 3])]

def ownF : FuncId → Bool := fun _ => false
theorem mixed : Try.prog.follows .mixedOrders = true := by kernel_rfl
theorem libnone : Lib Try.prog noG noC := Lib.none
def Cnone := noC
end Go.Proofs.Ytkmclpgkcdpgbaa.AI
