/- The types of this seat's program, told as a table (printed by wip/tool2/Ev.lean). -/
import Derived.Test.YtoiimiohobollaaAI20
import Derived.Test.YtoiimiohobollaaProg
namespace Go.Proofs.Ytoiimiohobollaa.AI
open Go.RowKit
def tt1 : TI := (TI.mk (TypeDesc.func (Array.mk []) (Array.mk []) false) 1 8 [Value.nilFunc] [LT.other] false)
theorem tt1_ok : ttOf Try.prog false 1 = some tt1 := by kernel_rfl
def tt2 : TI := (TI.mk (TypeDesc.int IntKind.i64) 1 8 [(Value.int IntKind.i64 (0 : Int))] [(LT.int IntKind.i64)] false)
theorem tt2_ok : ttOf Try.prog false 2 = some tt2 := by kernel_rfl
def tt3 : TI := (TI.mk (TypeDesc.int IntKind.i64) 1 8 [(Value.int IntKind.i64 (0 : Int))] [(LT.int IntKind.i64)] false)
theorem tt3_ok : ttOf Try.prog false 3 = some tt3 := by kernel_rfl
def tt4 : TI := (TI.mk TypeDesc.bool 1 1 [(Value.bool false)] [LT.bool] false)
theorem tt4_ok : ttOf Try.prog false 4 = some tt4 := by kernel_rfl
def tt5 : TI := (TI.mk (TypeDesc.int IntKind.u8) 1 1 [(Value.int IntKind.u8 (0 : Int))] [(LT.int IntKind.u8)] false)
theorem tt5_ok : ttOf Try.prog false 5 = some tt5 := by kernel_rfl
def tt6 : TI := (TI.mk (TypeDesc.int IntKind.u8) 1 1 [(Value.int IntKind.u8 (0 : Int))] [(LT.int IntKind.u8)] false)
theorem tt6_ok : ttOf Try.prog false 6 = some tt6 := by kernel_rfl
def tt9 : TI := (TI.mk TypeDesc.string 1 16 [(Value.string (ByteArray.mk (Array.mk [])))] [LT.str] false)
theorem tt9_ok : ttOf Try.prog false 9 = some tt9 := by kernel_rfl
def tt10 : TI := (TI.mk TypeDesc.string 1 16 [(Value.string (ByteArray.mk (Array.mk [])))] [LT.str] false)
theorem tt10_ok : ttOf Try.prog false 10 = some tt10 := by kernel_rfl
def tt11 : TI := (TI.mk TypeDesc.string 1 16 [(Value.string (ByteArray.mk (Array.mk [])))] [LT.str] false)
theorem tt11_ok : ttOf Try.prog false 11 = some tt11 := by kernel_rfl
def tt12 : TI := (TI.mk (TypeDesc.int IntKind.u64) 1 8 [(Value.int IntKind.u64 (0 : Int))] [(LT.int IntKind.u64)] false)
theorem tt12_ok : ttOf Try.prog false 12 = some tt12 := by kernel_rfl
def tt15 : TI := (TI.mk (TypeDesc.pointer 146) 1 8 [(Value.pointer Option.none)] [LT.other] false)
theorem tt15_ok : ttOf Try.prog false 15 = some tt15 := by kernel_rfl
def tt16 : TI := (TI.mk (TypeDesc.pointer 149) 1 8 [(Value.pointer Option.none)] [LT.other] false)
theorem tt16_ok : ttOf Try.prog false 16 = some tt16 := by kernel_rfl
def tt17 : TI := (TI.mk (TypeDesc.pointer 159) 1 8 [(Value.pointer Option.none)] [LT.other] false)
theorem tt17_ok : ttOf Try.prog false 17 = some tt17 := by kernel_rfl
def tt21 : TI := (TI.mk (TypeDesc.int IntKind.i32) 1 4 [(Value.int IntKind.i32 (0 : Int))] [(LT.int IntKind.i32)] false)
theorem tt21_ok : ttOf Try.prog false 21 = some tt21 := by kernel_rfl
def tt22 : TI := (TI.mk (TypeDesc.int IntKind.u64) 1 8 [(Value.int IntKind.u64 (0 : Int))] [(LT.int IntKind.u64)] false)
theorem tt22_ok : ttOf Try.prog false 22 = some tt22 := by kernel_rfl
def tt23 : TI := (TI.mk (TypeDesc.slice 77) 1 24 [(Value.slice Option.none 0 0)] [(LT.sl 77 19)] false)
theorem tt23_ok : ttOf Try.prog false 23 = some tt23 := by kernel_rfl
def tt24 : TI := (TI.mk (TypeDesc.slice 161) 1 24 [(Value.slice Option.none 0 0)] [(LT.sl 161 6)] false)
theorem tt24_ok : ttOf Try.prog false 24 = some tt24 := by kernel_rfl
def tt25 : TI := (TI.mk (TypeDesc.slice 163) 1 24 [(Value.slice Option.none 0 0)] [(LT.sl 163 8)] false)
theorem tt25_ok : ttOf Try.prog false 25 = some tt25 := by kernel_rfl
def tt26 : TI := (TI.mk (TypeDesc.struct (Array.mk [(Field.mk "Units" 23 0 false "" "" 0), (Field.mk "Weapons" 24 1 false "" "" 24), (Field.mk "Techs" 25 2 false "" "" 48)])) 3 72 [(Value.slice Option.none 0 0), (Value.slice Option.none 0 0), (Value.slice Option.none 0 0)] [(LT.sl 77 19), (LT.sl 161 6), (LT.sl 163 8)] false)
theorem tt26_ok : ttOf Try.prog false 26 = some tt26 := by kernel_rfl
def tt27 : TI := (TI.mk (TypeDesc.struct (Array.mk [(Field.mk "Units" 23 0 false "" "" 0), (Field.mk "Weapons" 24 1 false "" "" 24), (Field.mk "Techs" 25 2 false "" "" 48)])) 3 72 [(Value.slice Option.none 0 0), (Value.slice Option.none 0 0), (Value.slice Option.none 0 0)] [(LT.sl 77 19), (LT.sl 161 6), (LT.sl 163 8)] false)
theorem tt27_ok : ttOf Try.prog false 27 = some tt27 := by kernel_rfl
def tt28 : TI := (TI.mk (TypeDesc.slice 63) 1 24 [(Value.slice Option.none 0 0)] [(LT.sl 63 3)] false)
theorem tt28_ok : ttOf Try.prog false 28 = some tt28 := by kernel_rfl
def tt29 : TI := (TI.mk (TypeDesc.struct (Array.mk [(Field.mk "W" 3 0 false "" "" 0), (Field.mk "H" 3 1 false "" "" 8), (Field.mk "Cells" 28 2 false "" "" 16)])) 3 40 [(Value.int IntKind.i64 (0 : Int)), (Value.int IntKind.i64 (0 : Int)), (Value.slice Option.none 0 0)] [(LT.int IntKind.i64), (LT.int IntKind.i64), (LT.sl 63 3)] false)
theorem tt29_ok : ttOf Try.prog false 29 = some tt29 := by kernel_rfl
def tt30 : TI := (TI.mk (TypeDesc.struct (Array.mk [(Field.mk "W" 3 0 false "" "" 0), (Field.mk "H" 3 1 false "" "" 8), (Field.mk "Cells" 28 2 false "" "" 16)])) 3 40 [(Value.int IntKind.i64 (0 : Int)), (Value.int IntKind.i64 (0 : Int)), (Value.slice Option.none 0 0)] [(LT.int IntKind.i64), (LT.int IntKind.i64), (LT.sl 63 3)] false)
theorem tt30_ok : ttOf Try.prog false 30 = some tt30 := by kernel_rfl
def tt31 : TI := (TI.mk (TypeDesc.slice 42) 1 24 [(Value.slice Option.none 0 0)] [(LT.sl 42 6)] false)
theorem tt31_ok : ttOf Try.prog false 31 = some tt31 := by kernel_rfl
def tt32 : TI := (TI.mk (TypeDesc.slice 61) 1 24 [(Value.slice Option.none 0 0)] [(LT.sl 61 12)] false)
theorem tt32_ok : ttOf Try.prog false 32 = some tt32 := by kernel_rfl
def tt33 : TI := (TI.mk (TypeDesc.slice 165) 1 24 [(Value.slice Option.none 0 0)] [(LT.sl 165 9)] false)
theorem tt33_ok : ttOf Try.prog false 33 = some tt33 := by kernel_rfl
def tt34 : TI := (TI.mk (TypeDesc.slice 169) 1 24 [(Value.slice Option.none 0 0)] [(LT.sl 169 3)] false)
theorem tt34_ok : ttOf Try.prog false 34 = some tt34 := by kernel_rfl
def tt35 : TI := (TI.mk (TypeDesc.slice 176) 1 24 [(Value.slice Option.none 0 0)] [(LT.sl 176 4)] false)
theorem tt35_ok : ttOf Try.prog false 35 = some tt35 := by kernel_rfl
def tt36 : TI := (TI.mk (TypeDesc.struct (Array.mk [(Field.mk "Turn" 3 0 false "" "" 0), (Field.mk "NextId" 3 1 false "" "" 8), (Field.mk "Winner" 3 2 false "" "" 16), (Field.mk "Paused" 4 3 false "" "" 24), (Field.mk "Rng" 22 4 false "" "" 32), (Field.mk "Rules" 27 5 false "" "" 40), (Field.mk "Map" 30 8 false "" "" 112), (Field.mk "Players" 31 11 false "" "" 152), (Field.mk "Units" 32 12 false "" "" 176), (Field.mk "Shots" 33 13 false "" "" 200), (Field.mk "Memories" 34 14 false "" "" 224), (Field.mk "Scripts" 35 15 false "" "" 248)])) 16 272 [(Value.int IntKind.i64 (0 : Int)), (Value.int IntKind.i64 (0 : Int)), (Value.int IntKind.i64 (0 : Int)), (Value.bool false), (Value.int IntKind.u64 (0 : Int)), (Value.slice Option.none 0 0), (Value.slice Option.none 0 0), (Value.slice Option.none 0 0), (Value.int IntKind.i64 (0 : Int)), (Value.int IntKind.i64 (0 : Int)), (Value.slice Option.none 0 0), (Value.slice Option.none 0 0), (Value.slice Option.none 0 0), (Value.slice Option.none 0 0), (Value.slice Option.none 0 0), (Value.slice Option.none 0 0)] [(LT.int IntKind.i64), (LT.int IntKind.i64), (LT.int IntKind.i64), LT.bool, (LT.int IntKind.u64), (LT.sl 77 19), (LT.sl 161 6), (LT.sl 163 8), (LT.int IntKind.i64), (LT.int IntKind.i64), (LT.sl 63 3), (LT.sl 42 6), (LT.sl 61 12), (LT.sl 165 9), (LT.sl 169 3), (LT.sl 176 4)] false)
theorem tt36_ok : ttOf Try.prog false 36 = some tt36 := by kernel_rfl
def tt37 : TI := (TI.mk (TypeDesc.struct (Array.mk [(Field.mk "Turn" 3 0 false "" "" 0), (Field.mk "NextId" 3 1 false "" "" 8), (Field.mk "Winner" 3 2 false "" "" 16), (Field.mk "Paused" 4 3 false "" "" 24), (Field.mk "Rng" 22 4 false "" "" 32), (Field.mk "Rules" 27 5 false "" "" 40), (Field.mk "Map" 30 8 false "" "" 112), (Field.mk "Players" 31 11 false "" "" 152), (Field.mk "Units" 32 12 false "" "" 176), (Field.mk "Shots" 33 13 false "" "" 200), (Field.mk "Memories" 34 14 false "" "" 224), (Field.mk "Scripts" 35 15 false "" "" 248)])) 16 272 [(Value.int IntKind.i64 (0 : Int)), (Value.int IntKind.i64 (0 : Int)), (Value.int IntKind.i64 (0 : Int)), (Value.bool false), (Value.int IntKind.u64 (0 : Int)), (Value.slice Option.none 0 0), (Value.slice Option.none 0 0), (Value.slice Option.none 0 0), (Value.int IntKind.i64 (0 : Int)), (Value.int IntKind.i64 (0 : Int)), (Value.slice Option.none 0 0), (Value.slice Option.none 0 0), (Value.slice Option.none 0 0), (Value.slice Option.none 0 0), (Value.slice Option.none 0 0), (Value.slice Option.none 0 0)] [(LT.int IntKind.i64), (LT.int IntKind.i64), (LT.int IntKind.i64), LT.bool, (LT.int IntKind.u64), (LT.sl 77 19), (LT.sl 161 6), (LT.sl 163 8), (LT.int IntKind.i64), (LT.int IntKind.i64), (LT.sl 63 3), (LT.sl 42 6), (LT.sl 61 12), (LT.sl 165 9), (LT.sl 169 3), (LT.sl 176 4)] false)
theorem tt37_ok : ttOf Try.prog false 37 = some tt37 := by kernel_rfl
def tt38 : TI := (TI.mk (TypeDesc.struct (Array.mk [(Field.mk "Player" 3 0 false "" "" 0), (Field.mk "Ore" 3 1 false "" "" 8), (Field.mk "Wood" 3 2 false "" "" 16)])) 3 24 [(Value.int IntKind.i64 (0 : Int)), (Value.int IntKind.i64 (0 : Int)), (Value.int IntKind.i64 (0 : Int))] [(LT.int IntKind.i64), (LT.int IntKind.i64), (LT.int IntKind.i64)] true)
theorem tt38_ok : ttOf Try.prog true 38 = some tt38 := by kernel_rfl
def tt39 : TI := (TI.mk (TypeDesc.struct (Array.mk [(Field.mk "Player" 3 0 false "" "" 0), (Field.mk "Ore" 3 1 false "" "" 8), (Field.mk "Wood" 3 2 false "" "" 16)])) 3 24 [(Value.int IntKind.i64 (0 : Int)), (Value.int IntKind.i64 (0 : Int)), (Value.int IntKind.i64 (0 : Int))] [(LT.int IntKind.i64), (LT.int IntKind.i64), (LT.int IntKind.i64)] true)
theorem tt39_ok : ttOf Try.prog true 39 = some tt39 := by kernel_rfl
def tt40 : TI := (TI.mk (TypeDesc.slice 9) 1 24 [(Value.slice Option.none 0 0)] [(LT.sl 9 1)] false)
theorem tt40_ok : ttOf Try.prog false 40 = some tt40 := by kernel_rfl
def tt41 : TI := (TI.mk (TypeDesc.struct (Array.mk [(Field.mk "Id" 3 0 false "" "" 0), (Field.mk "Team" 3 1 false "" "" 8), (Field.mk "Ore" 3 2 false "" "" 16), (Field.mk "Wood" 3 3 false "" "" 24), (Field.mk "Techs" 40 4 false "" "" 32), (Field.mk "Out" 4 5 false "" "" 56)])) 6 64 [(Value.int IntKind.i64 (0 : Int)), (Value.int IntKind.i64 (0 : Int)), (Value.int IntKind.i64 (0 : Int)), (Value.int IntKind.i64 (0 : Int)), (Value.slice Option.none 0 0), (Value.bool false)] [(LT.int IntKind.i64), (LT.int IntKind.i64), (LT.int IntKind.i64), (LT.int IntKind.i64), (LT.sl 9 1), LT.bool] false)
theorem tt41_ok : ttOf Try.prog false 41 = some tt41 := by kernel_rfl
def tt42 : TI := (TI.mk (TypeDesc.struct (Array.mk [(Field.mk "Id" 3 0 false "" "" 0), (Field.mk "Team" 3 1 false "" "" 8), (Field.mk "Ore" 3 2 false "" "" 16), (Field.mk "Wood" 3 3 false "" "" 24), (Field.mk "Techs" 40 4 false "" "" 32), (Field.mk "Out" 4 5 false "" "" 56)])) 6 64 [(Value.int IntKind.i64 (0 : Int)), (Value.int IntKind.i64 (0 : Int)), (Value.int IntKind.i64 (0 : Int)), (Value.int IntKind.i64 (0 : Int)), (Value.slice Option.none 0 0), (Value.bool false)] [(LT.int IntKind.i64), (LT.int IntKind.i64), (LT.int IntKind.i64), (LT.int IntKind.i64), (LT.sl 9 1), LT.bool] false)
theorem tt42_ok : ttOf Try.prog false 42 = some tt42 := by kernel_rfl
def tt43 : TI := (TI.mk (TypeDesc.func (Array.mk [37]) (Array.mk [4]) false) 1 8 [Value.nilFunc] [LT.other] false)
theorem tt43_ok : ttOf Try.prog false 43 = some tt43 := by kernel_rfl
def tt44 : TI := (TI.mk (TypeDesc.func (Array.mk []) (Array.mk [4]) false) 1 8 [Value.nilFunc] [LT.other] false)
theorem tt44_ok : ttOf Try.prog false 44 = some tt44 := by kernel_rfl
def tt45 : TI := (TI.mk (TypeDesc.int IntKind.i64) 1 8 [(Value.int IntKind.i64 (0 : Int))] [(LT.int IntKind.i64)] false)
theorem tt45_ok : ttOf Try.prog false 45 = some tt45 := by kernel_rfl
def tt47 : TI := (TI.mk (TypeDesc.func (Array.mk [37, 3, 3, 3]) (Array.mk [37, 45]) false) 1 8 [Value.nilFunc] [LT.other] false)
theorem tt47_ok : ttOf Try.prog false 47 = some tt47 := by kernel_rfl
def tt48 : TI := (TI.mk (TypeDesc.func (Array.mk [37, 3, 3, 3]) (Array.mk [37]) false) 1 8 [Value.nilFunc] [LT.other] false)
theorem tt48_ok : ttOf Try.prog false 48 = some tt48 := by kernel_rfl
def tt49 : TI := (TI.mk (TypeDesc.func (Array.mk [31, 31]) (Array.mk [4]) false) 1 8 [Value.nilFunc] [LT.other] false)
theorem tt49_ok : ttOf Try.prog false 49 = some tt49 := by kernel_rfl
def tt50 : TI := (TI.mk (TypeDesc.func (Array.mk [42, 3, 3]) (Array.mk [4]) false) 1 8 [Value.nilFunc] [LT.other] false)
theorem tt50_ok : ttOf Try.prog false 50 = some tt50 := by kernel_rfl
def tt51 : TI := (TI.mk (TypeDesc.func (Array.mk [37, 39, 42]) (Array.mk [4]) false) 1 8 [Value.nilFunc] [LT.other] false)
theorem tt51_ok : ttOf Try.prog false 51 = some tt51 := by kernel_rfl
def tt53 : TI := (TI.mk (TypeDesc.func (Array.mk [37]) (Array.mk [3, 3]) false) 1 8 [Value.nilFunc] [LT.other] false)
theorem tt53_ok : ttOf Try.prog false 53 = some tt53 := by kernel_rfl
def tt54 : TI := (TI.mk (TypeDesc.func (Array.mk []) (Array.mk [37]) false) 1 8 [Value.nilFunc] [LT.other] false)
theorem tt54_ok : ttOf Try.prog false 54 = some tt54 := by kernel_rfl
def tt55 : TI := (TI.mk (TypeDesc.func (Array.mk [37]) (Array.mk [37]) false) 1 8 [Value.nilFunc] [LT.other] false)
theorem tt55_ok : ttOf Try.prog false 55 = some tt55 := by kernel_rfl
def tt56 : TI := (TI.mk (TypeDesc.struct (Array.mk [(Field.mk "X" 3 0 false "" "" 0), (Field.mk "Y" 3 1 false "" "" 8)])) 2 16 [(Value.int IntKind.i64 (0 : Int)), (Value.int IntKind.i64 (0 : Int))] [(LT.int IntKind.i64), (LT.int IntKind.i64)] true)
theorem tt56_ok : ttOf Try.prog true 56 = some tt56 := by kernel_rfl
def tt57 : TI := (TI.mk (TypeDesc.struct (Array.mk [(Field.mk "X" 3 0 false "" "" 0), (Field.mk "Y" 3 1 false "" "" 8)])) 2 16 [(Value.int IntKind.i64 (0 : Int)), (Value.int IntKind.i64 (0 : Int))] [(LT.int IntKind.i64), (LT.int IntKind.i64)] true)
theorem tt57_ok : ttOf Try.prog true 57 = some tt57 := by kernel_rfl
def tt58 : TI := (TI.mk (TypeDesc.slice 79) 1 24 [(Value.slice Option.none 0 0)] [(LT.sl 79 5)] false)
theorem tt58_ok : ttOf Try.prog false 58 = some tt58 := by kernel_rfl
def tt59 : TI := (TI.mk (TypeDesc.slice 122) 1 24 [(Value.slice Option.none 0 0)] [(LT.sl 122 3)] false)
theorem tt59_ok : ttOf Try.prog false 59 = some tt59 := by kernel_rfl
def tt60 : TI := (TI.mk (TypeDesc.struct (Array.mk [(Field.mk "Id" 3 0 false "" "" 0), (Field.mk "Owner" 3 1 false "" "" 8), (Field.mk "Type" 9 2 false "" "" 16), (Field.mk "At" 57 3 false "" "" 32), (Field.mk "Hp" 3 5 false "" "" 48), (Field.mk "Cool" 3 6 false "" "" 56), (Field.mk "Left" 3 7 false "" "" 64), (Field.mk "Ore" 3 8 false "" "" 72), (Field.mk "Wood" 3 9 false "" "" 80), (Field.mk "Orders" 58 10 false "" "" 88), (Field.mk "Jobs" 59 11 false "" "" 112)])) 12 136 [(Value.int IntKind.i64 (0 : Int)), (Value.int IntKind.i64 (0 : Int)), (Value.string (ByteArray.mk (Array.mk []))), (Value.int IntKind.i64 (0 : Int)), (Value.int IntKind.i64 (0 : Int)), (Value.int IntKind.i64 (0 : Int)), (Value.int IntKind.i64 (0 : Int)), (Value.int IntKind.i64 (0 : Int)), (Value.int IntKind.i64 (0 : Int)), (Value.int IntKind.i64 (0 : Int)), (Value.slice Option.none 0 0), (Value.slice Option.none 0 0)] [(LT.int IntKind.i64), (LT.int IntKind.i64), LT.str, (LT.int IntKind.i64), (LT.int IntKind.i64), (LT.int IntKind.i64), (LT.int IntKind.i64), (LT.int IntKind.i64), (LT.int IntKind.i64), (LT.int IntKind.i64), (LT.sl 79 5), (LT.sl 122 3)] false)
theorem tt60_ok : ttOf Try.prog false 60 = some tt60 := by kernel_rfl
def tt61 : TI := (TI.mk (TypeDesc.struct (Array.mk [(Field.mk "Id" 3 0 false "" "" 0), (Field.mk "Owner" 3 1 false "" "" 8), (Field.mk "Type" 9 2 false "" "" 16), (Field.mk "At" 57 3 false "" "" 32), (Field.mk "Hp" 3 5 false "" "" 48), (Field.mk "Cool" 3 6 false "" "" 56), (Field.mk "Left" 3 7 false "" "" 64), (Field.mk "Ore" 3 8 false "" "" 72), (Field.mk "Wood" 3 9 false "" "" 80), (Field.mk "Orders" 58 10 false "" "" 88), (Field.mk "Jobs" 59 11 false "" "" 112)])) 12 136 [(Value.int IntKind.i64 (0 : Int)), (Value.int IntKind.i64 (0 : Int)), (Value.string (ByteArray.mk (Array.mk []))), (Value.int IntKind.i64 (0 : Int)), (Value.int IntKind.i64 (0 : Int)), (Value.int IntKind.i64 (0 : Int)), (Value.int IntKind.i64 (0 : Int)), (Value.int IntKind.i64 (0 : Int)), (Value.int IntKind.i64 (0 : Int)), (Value.int IntKind.i64 (0 : Int)), (Value.slice Option.none 0 0), (Value.slice Option.none 0 0)] [(LT.int IntKind.i64), (LT.int IntKind.i64), LT.str, (LT.int IntKind.i64), (LT.int IntKind.i64), (LT.int IntKind.i64), (LT.int IntKind.i64), (LT.int IntKind.i64), (LT.int IntKind.i64), (LT.int IntKind.i64), (LT.sl 79 5), (LT.sl 122 3)] false)
theorem tt61_ok : ttOf Try.prog false 61 = some tt61 := by kernel_rfl
def tt62 : TI := (TI.mk (TypeDesc.struct (Array.mk [(Field.mk "Kind" 3 0 false "" "" 0), (Field.mk "Height" 3 1 false "" "" 8), (Field.mk "Amount" 3 2 false "" "" 16)])) 3 24 [(Value.int IntKind.i64 (0 : Int)), (Value.int IntKind.i64 (0 : Int)), (Value.int IntKind.i64 (0 : Int))] [(LT.int IntKind.i64), (LT.int IntKind.i64), (LT.int IntKind.i64)] true)
theorem tt62_ok : ttOf Try.prog true 62 = some tt62 := by kernel_rfl
def tt63 : TI := (TI.mk (TypeDesc.struct (Array.mk [(Field.mk "Kind" 3 0 false "" "" 0), (Field.mk "Height" 3 1 false "" "" 8), (Field.mk "Amount" 3 2 false "" "" 16)])) 3 24 [(Value.int IntKind.i64 (0 : Int)), (Value.int IntKind.i64 (0 : Int)), (Value.int IntKind.i64 (0 : Int))] [(LT.int IntKind.i64), (LT.int IntKind.i64), (LT.int IntKind.i64)] true)
theorem tt63_ok : ttOf Try.prog true 63 = some tt63 := by kernel_rfl
def tt64 : TI := (TI.mk (TypeDesc.func (Array.mk [37, 3]) (Array.mk [3]) false) 1 8 [Value.nilFunc] [LT.other] false)
theorem tt64_ok : ttOf Try.prog false 64 = some tt64 := by kernel_rfl
def tt65 : TI := (TI.mk (TypeDesc.func (Array.mk [37, 3, 42]) (Array.mk [37]) false) 1 8 [Value.nilFunc] [LT.other] false)
theorem tt65_ok : ttOf Try.prog false 65 = some tt65 := by kernel_rfl
def tt66 : TI := (TI.mk (TypeDesc.func (Array.mk [67, 3, 69]) (Array.mk []) false) 1 8 [Value.nilFunc] [LT.other] false)
theorem tt66_ok : ttOf Try.prog false 66 = some tt66 := by kernel_rfl
def tt67 : TI := (TI.mk (TypeDesc.pointer 37) 1 8 [(Value.pointer Option.none)] [LT.other] false)
theorem tt67_ok : ttOf Try.prog false 67 = some tt67 := by kernel_rfl
def tt68 : TI := (TI.mk (TypeDesc.struct (Array.mk [(Field.mk "ore" 3 0 false "" "skirmish/economy" 0), (Field.mk "wood" 3 1 false "" "skirmish/economy" 8)])) 2 16 [(Value.int IntKind.i64 (0 : Int)), (Value.int IntKind.i64 (0 : Int))] [(LT.int IntKind.i64), (LT.int IntKind.i64)] true)
theorem tt68_ok : ttOf Try.prog true 68 = some tt68 := by kernel_rfl
def tt69 : TI := (TI.mk (TypeDesc.struct (Array.mk [(Field.mk "ore" 3 0 false "" "skirmish/economy" 0), (Field.mk "wood" 3 1 false "" "skirmish/economy" 8)])) 2 16 [(Value.int IntKind.i64 (0 : Int)), (Value.int IntKind.i64 (0 : Int))] [(LT.int IntKind.i64), (LT.int IntKind.i64)] true)
theorem tt69_ok : ttOf Try.prog true 69 = some tt69 := by kernel_rfl
def tt70 : TI := (TI.mk (TypeDesc.func (Array.mk [3, 3]) (Array.mk [3]) false) 1 8 [Value.nilFunc] [LT.other] false)
theorem tt70_ok : ttOf Try.prog false 70 = some tt70 := by kernel_rfl
def tt71 : TI := (TI.mk (TypeDesc.func (Array.mk [40, 40]) (Array.mk [4]) false) 1 8 [Value.nilFunc] [LT.other] false)
theorem tt71_ok : ttOf Try.prog false 71 = some tt71 := by kernel_rfl
def tt72 : TI := (TI.mk (TypeDesc.func (Array.mk [69, 3]) (Array.mk [69]) false) 1 8 [Value.nilFunc] [LT.other] false)
theorem tt72_ok : ttOf Try.prog false 72 = some tt72 := by kernel_rfl
def tt73 : TI := (TI.mk (TypeDesc.func (Array.mk [3]) (Array.mk [3]) false) 1 8 [Value.nilFunc] [LT.other] false)
theorem tt73_ok : ttOf Try.prog false 73 = some tt73 := by kernel_rfl
def tt74 : TI := (TI.mk (TypeDesc.func (Array.mk [3, 3]) (Array.mk []) false) 1 8 [Value.nilFunc] [LT.other] false)
theorem tt74_ok : ttOf Try.prog false 74 = some tt74 := by kernel_rfl
def tt75 : TI := (TI.mk (TypeDesc.func (Array.mk [3, 3]) (Array.mk [30]) false) 1 8 [Value.nilFunc] [LT.other] false)
theorem tt75_ok : ttOf Try.prog false 75 = some tt75 := by kernel_rfl
def tt76 : TI := (TI.mk (TypeDesc.struct (Array.mk [(Field.mk "Name" 9 0 false "" "" 0), (Field.mk "Building" 4 1 false "" "" 16), (Field.mk "Depot" 4 2 false "" "" 17), (Field.mk "Class" 3 3 false "" "" 24), (Field.mk "W" 3 4 false "" "" 32), (Field.mk "H" 3 5 false "" "" 40), (Field.mk "Radius" 3 6 false "" "" 48), (Field.mk "Speed" 3 7 false "" "" 56), (Field.mk "Sight" 3 8 false "" "" 64), (Field.mk "Hp" 3 9 false "" "" 72), (Field.mk "Armor" 3 10 false "" "" 80), (Field.mk "Load" 3 11 false "" "" 88), (Field.mk "Weapon" 9 12 false "" "" 96), (Field.mk "Ore" 3 13 false "" "" 112), (Field.mk "Wood" 3 14 false "" "" 120), (Field.mk "Time" 3 15 false "" "" 128), (Field.mk "Needs" 40 16 false "" "" 136), (Field.mk "Trains" 40 17 false "" "" 160), (Field.mk "Researches" 40 18 false "" "" 184)])) 19 208 [(Value.string (ByteArray.mk (Array.mk []))), (Value.bool false), (Value.bool false), (Value.int IntKind.i64 (0 : Int)), (Value.int IntKind.i64 (0 : Int)), (Value.int IntKind.i64 (0 : Int)), (Value.int IntKind.i64 (0 : Int)), (Value.int IntKind.i64 (0 : Int)), (Value.int IntKind.i64 (0 : Int)), (Value.int IntKind.i64 (0 : Int)), (Value.int IntKind.i64 (0 : Int)), (Value.int IntKind.i64 (0 : Int)), (Value.string (ByteArray.mk (Array.mk []))), (Value.int IntKind.i64 (0 : Int)), (Value.int IntKind.i64 (0 : Int)), (Value.int IntKind.i64 (0 : Int)), (Value.slice Option.none 0 0), (Value.slice Option.none 0 0), (Value.slice Option.none 0 0)] [LT.str, LT.bool, LT.bool, (LT.int IntKind.i64), (LT.int IntKind.i64), (LT.int IntKind.i64), (LT.int IntKind.i64), (LT.int IntKind.i64), (LT.int IntKind.i64), (LT.int IntKind.i64), (LT.int IntKind.i64), (LT.int IntKind.i64), LT.str, (LT.int IntKind.i64), (LT.int IntKind.i64), (LT.int IntKind.i64), (LT.sl 9 1), (LT.sl 9 1), (LT.sl 9 1)] false)
theorem tt76_ok : ttOf Try.prog false 76 = some tt76 := by kernel_rfl
def tt77 : TI := (TI.mk (TypeDesc.struct (Array.mk [(Field.mk "Name" 9 0 false "" "" 0), (Field.mk "Building" 4 1 false "" "" 16), (Field.mk "Depot" 4 2 false "" "" 17), (Field.mk "Class" 3 3 false "" "" 24), (Field.mk "W" 3 4 false "" "" 32), (Field.mk "H" 3 5 false "" "" 40), (Field.mk "Radius" 3 6 false "" "" 48), (Field.mk "Speed" 3 7 false "" "" 56), (Field.mk "Sight" 3 8 false "" "" 64), (Field.mk "Hp" 3 9 false "" "" 72), (Field.mk "Armor" 3 10 false "" "" 80), (Field.mk "Load" 3 11 false "" "" 88), (Field.mk "Weapon" 9 12 false "" "" 96), (Field.mk "Ore" 3 13 false "" "" 112), (Field.mk "Wood" 3 14 false "" "" 120), (Field.mk "Time" 3 15 false "" "" 128), (Field.mk "Needs" 40 16 false "" "" 136), (Field.mk "Trains" 40 17 false "" "" 160), (Field.mk "Researches" 40 18 false "" "" 184)])) 19 208 [(Value.string (ByteArray.mk (Array.mk []))), (Value.bool false), (Value.bool false), (Value.int IntKind.i64 (0 : Int)), (Value.int IntKind.i64 (0 : Int)), (Value.int IntKind.i64 (0 : Int)), (Value.int IntKind.i64 (0 : Int)), (Value.int IntKind.i64 (0 : Int)), (Value.int IntKind.i64 (0 : Int)), (Value.int IntKind.i64 (0 : Int)), (Value.int IntKind.i64 (0 : Int)), (Value.int IntKind.i64 (0 : Int)), (Value.string (ByteArray.mk (Array.mk []))), (Value.int IntKind.i64 (0 : Int)), (Value.int IntKind.i64 (0 : Int)), (Value.int IntKind.i64 (0 : Int)), (Value.slice Option.none 0 0), (Value.slice Option.none 0 0), (Value.slice Option.none 0 0)] [LT.str, LT.bool, LT.bool, (LT.int IntKind.i64), (LT.int IntKind.i64), (LT.int IntKind.i64), (LT.int IntKind.i64), (LT.int IntKind.i64), (LT.int IntKind.i64), (LT.int IntKind.i64), (LT.int IntKind.i64), (LT.int IntKind.i64), LT.str, (LT.int IntKind.i64), (LT.int IntKind.i64), (LT.int IntKind.i64), (LT.sl 9 1), (LT.sl 9 1), (LT.sl 9 1)] false)
theorem tt77_ok : ttOf Try.prog false 77 = some tt77 := by kernel_rfl
def tt78 : TI := (TI.mk (TypeDesc.struct (Array.mk [(Field.mk "Kind" 3 0 false "" "" 0), (Field.mk "At" 57 1 false "" "" 8), (Field.mk "Target" 3 3 false "" "" 24), (Field.mk "Name" 9 4 false "" "" 32)])) 5 48 [(Value.int IntKind.i64 (0 : Int)), (Value.int IntKind.i64 (0 : Int)), (Value.int IntKind.i64 (0 : Int)), (Value.int IntKind.i64 (0 : Int)), (Value.string (ByteArray.mk (Array.mk [])))] [(LT.int IntKind.i64), (LT.int IntKind.i64), (LT.int IntKind.i64), (LT.int IntKind.i64), LT.str] true)
theorem tt78_ok : ttOf Try.prog true 78 = some tt78 := by kernel_rfl
def tt79 : TI := (TI.mk (TypeDesc.struct (Array.mk [(Field.mk "Kind" 3 0 false "" "" 0), (Field.mk "At" 57 1 false "" "" 8), (Field.mk "Target" 3 3 false "" "" 24), (Field.mk "Name" 9 4 false "" "" 32)])) 5 48 [(Value.int IntKind.i64 (0 : Int)), (Value.int IntKind.i64 (0 : Int)), (Value.int IntKind.i64 (0 : Int)), (Value.int IntKind.i64 (0 : Int)), (Value.string (ByteArray.mk (Array.mk [])))] [(LT.int IntKind.i64), (LT.int IntKind.i64), (LT.int IntKind.i64), (LT.int IntKind.i64), LT.str] true)
theorem tt79_ok : ttOf Try.prog true 79 = some tt79 := by kernel_rfl
def tt80 : TI := (TI.mk (TypeDesc.func (Array.mk [67, 3]) (Array.mk []) false) 1 8 [Value.nilFunc] [LT.other] false)
theorem tt80_ok : ttOf Try.prog false 80 = some tt80 := by kernel_rfl
def tt82 : TI := (TI.mk (TypeDesc.func (Array.mk [32, 3]) (Array.mk [61, 4]) false) 1 8 [Value.nilFunc] [LT.other] false)
theorem tt82_ok : ttOf Try.prog false 82 = some tt82 := by kernel_rfl
def tt84 : TI := (TI.mk (TypeDesc.func (Array.mk [27, 9]) (Array.mk [77, 4]) false) 1 8 [Value.nilFunc] [LT.other] false)
theorem tt84_ok : ttOf Try.prog false 84 = some tt84 := by kernel_rfl
def tt85 : TI := (TI.mk (TypeDesc.func (Array.mk [61]) (Array.mk [4]) false) 1 8 [Value.nilFunc] [LT.other] false)
theorem tt85_ok : ttOf Try.prog false 85 = some tt85 := by kernel_rfl
def tt87 : TI := (TI.mk (TypeDesc.func (Array.mk [37, 3, 3]) (Array.mk [3, 4]) false) 1 8 [Value.nilFunc] [LT.other] false)
theorem tt87_ok : ttOf Try.prog false 87 = some tt87 := by kernel_rfl
def tt88 : TI := (TI.mk (TypeDesc.func (Array.mk [31, 89]) (Array.mk [3]) false) 1 8 [Value.nilFunc] [LT.other] false)
theorem tt88_ok : ttOf Try.prog false 88 = some tt88 := by kernel_rfl
def tt89 : TI := (TI.mk (TypeDesc.func (Array.mk [42]) (Array.mk [4]) false) 1 8 [Value.nilFunc] [LT.other] false)
theorem tt89_ok : ttOf Try.prog false 89 = some tt89 := by kernel_rfl
def tt90 : TI := (TI.mk (TypeDesc.func (Array.mk [31]) (Array.mk [31]) false) 1 8 [Value.nilFunc] [LT.other] false)
theorem tt90_ok : ttOf Try.prog false 90 = some tt90 := by kernel_rfl
def tt91 : TI := (TI.mk (TypeDesc.func (Array.mk [32]) (Array.mk [32]) false) 1 8 [Value.nilFunc] [LT.other] false)
theorem tt91_ok : ttOf Try.prog false 91 = some tt91 := by kernel_rfl
def tt92 : TI := (TI.mk (TypeDesc.pointer 42) 1 8 [(Value.pointer Option.none)] [LT.other] false)
theorem tt92_ok : ttOf Try.prog false 92 = some tt92 := by kernel_rfl
def tt93 : TI := (TI.mk (TypeDesc.func (Array.mk [3, 3, 3]) (Array.mk [3]) false) 1 8 [Value.nilFunc] [LT.other] false)
theorem tt93_ok : ttOf Try.prog false 93 = some tt93 := by kernel_rfl
def tt94 : TI := (TI.mk (TypeDesc.pointer 61) 1 8 [(Value.pointer Option.none)] [LT.other] false)
theorem tt94_ok : ttOf Try.prog false 94 = some tt94 := by kernel_rfl
def tt95 : TI := (TI.mk (TypeDesc.struct (Array.mk [(Field.mk "X" 3 0 false "" "" 0), (Field.mk "Y" 3 1 false "" "" 8)])) 2 16 [(Value.int IntKind.i64 (0 : Int)), (Value.int IntKind.i64 (0 : Int))] [(LT.int IntKind.i64), (LT.int IntKind.i64)] true)
theorem tt95_ok : ttOf Try.prog true 95 = some tt95 := by kernel_rfl
def tt97 : TI := (TI.mk (TypeDesc.func (Array.mk [37, 61]) (Array.mk [95, 3, 4]) false) 1 8 [Value.nilFunc] [LT.other] false)
theorem tt97_ok : ttOf Try.prog false 97 = some tt97 := by kernel_rfl
def tt99 : TI := (TI.mk (TypeDesc.func (Array.mk [30, 95]) (Array.mk [63, 4]) false) 1 8 [Value.nilFunc] [LT.other] false)
theorem tt99_ok : ttOf Try.prog false 99 = some tt99 := by kernel_rfl
def tt100 : TI := (TI.mk (TypeDesc.func (Array.mk [57, 57, 3]) (Array.mk [4]) false) 1 8 [Value.nilFunc] [LT.other] false)
theorem tt100_ok : ttOf Try.prog false 100 = some tt100 := by kernel_rfl
def tt102 : TI := (TI.mk (TypeDesc.func (Array.mk [30, 95, 3]) (Array.mk [30, 3, 45]) false) 1 8 [Value.nilFunc] [LT.other] false)
theorem tt102_ok : ttOf Try.prog false 102 = some tt102 := by kernel_rfl
def tt103 : TI := (TI.mk (TypeDesc.func (Array.mk [58]) (Array.mk [58]) false) 1 8 [Value.nilFunc] [LT.other] false)
theorem tt103_ok : ttOf Try.prog false 103 = some tt103 := by kernel_rfl
def tt104 : TI := (TI.mk (TypeDesc.func (Array.mk [32, 3]) (Array.mk [3]) false) 1 8 [Value.nilFunc] [LT.other] false)
theorem tt104_ok : ttOf Try.prog false 104 = some tt104 := by kernel_rfl
def tt105 : TI := (TI.mk (TypeDesc.func (Array.mk [61]) (Array.mk [61]) false) 1 8 [Value.nilFunc] [LT.other] false)
theorem tt105_ok : ttOf Try.prog false 105 = some tt105 := by kernel_rfl
def tt106 : TI := (TI.mk (TypeDesc.func (Array.mk [23, 107, 9]) (Array.mk [77, 4]) false) 1 8 [Value.nilFunc] [LT.other] false)
theorem tt106_ok : ttOf Try.prog false 106 = some tt106 := by kernel_rfl
def tt107 : TI := (TI.mk (TypeDesc.func (Array.mk [77]) (Array.mk [9]) false) 1 8 [Value.nilFunc] [LT.other] false)
theorem tt107_ok : ttOf Try.prog false 107 = some tt107 := by kernel_rfl
def tt108 : TI := (TI.mk (TypeDesc.func (Array.mk [77]) (Array.mk [77]) false) 1 8 [Value.nilFunc] [LT.other] false)
theorem tt108_ok : ttOf Try.prog false 108 = some tt108 := by kernel_rfl
def tt109 : TI := (TI.mk (TypeDesc.func (Array.mk [37, 61, 61]) (Array.mk [3]) false) 1 8 [Value.nilFunc] [LT.other] false)
theorem tt109_ok : ttOf Try.prog false 109 = some tt109 := by kernel_rfl
def tt111 : TI := (TI.mk (TypeDesc.func (Array.mk [58]) (Array.mk [79, 4]) false) 1 8 [Value.nilFunc] [LT.other] false)
theorem tt111_ok : ttOf Try.prog false 111 = some tt111 := by kernel_rfl
def tt112 : TI := (TI.mk (TypeDesc.func (Array.mk [30, 95]) (Array.mk [4]) false) 1 8 [Value.nilFunc] [LT.other] false)
theorem tt112_ok : ttOf Try.prog false 112 = some tt112 := by kernel_rfl
def tt113 : TI := (TI.mk (TypeDesc.func (Array.mk [3, 95]) (Array.mk [3]) false) 1 8 [Value.nilFunc] [LT.other] false)
theorem tt113_ok : ttOf Try.prog false 113 = some tt113 := by kernel_rfl
def tt115 : TI := (TI.mk (TypeDesc.func (Array.mk [57, 57]) (Array.mk [57, 3]) false) 1 8 [Value.nilFunc] [LT.other] false)
theorem tt115_ok : ttOf Try.prog false 115 = some tt115 := by kernel_rfl
def tt116 : TI := (TI.mk (TypeDesc.func (Array.mk [57]) (Array.mk [57]) false) 1 8 [Value.nilFunc] [LT.other] false)
theorem tt116_ok : ttOf Try.prog false 116 = some tt116 := by kernel_rfl
def tt117 : TI := (TI.mk (TypeDesc.func (Array.mk [30]) (Array.mk [4]) false) 1 8 [Value.nilFunc] [LT.other] false)
theorem tt117_ok : ttOf Try.prog false 117 = some tt117 := by kernel_rfl
def tt118 : TI := (TI.mk (TypeDesc.func (Array.mk [30, 95, 63]) (Array.mk [30]) false) 1 8 [Value.nilFunc] [LT.other] false)
theorem tt118_ok : ttOf Try.prog false 118 = some tt118 := by kernel_rfl
def tt119 : TI := (TI.mk (TypeDesc.func (Array.mk [32, 85]) (Array.mk [3]) false) 1 8 [Value.nilFunc] [LT.other] false)
theorem tt119_ok : ttOf Try.prog false 119 = some tt119 := by kernel_rfl
def tt120 : TI := (TI.mk (TypeDesc.func (Array.mk [59]) (Array.mk [59]) false) 1 8 [Value.nilFunc] [LT.other] false)
theorem tt120_ok : ttOf Try.prog false 120 = some tt120 := by kernel_rfl
def tt121 : TI := (TI.mk (TypeDesc.struct (Array.mk [(Field.mk "Kind" 3 0 false "" "" 0), (Field.mk "Left" 3 1 false "" "" 8), (Field.mk "Name" 9 2 false "" "" 16)])) 3 32 [(Value.int IntKind.i64 (0 : Int)), (Value.int IntKind.i64 (0 : Int)), (Value.string (ByteArray.mk (Array.mk [])))] [(LT.int IntKind.i64), (LT.int IntKind.i64), LT.str] true)
theorem tt121_ok : ttOf Try.prog true 121 = some tt121 := by kernel_rfl
def tt122 : TI := (TI.mk (TypeDesc.struct (Array.mk [(Field.mk "Kind" 3 0 false "" "" 0), (Field.mk "Left" 3 1 false "" "" 8), (Field.mk "Name" 9 2 false "" "" 16)])) 3 32 [(Value.int IntKind.i64 (0 : Int)), (Value.int IntKind.i64 (0 : Int)), (Value.string (ByteArray.mk (Array.mk [])))] [(LT.int IntKind.i64), (LT.int IntKind.i64), LT.str] true)
theorem tt122_ok : ttOf Try.prog true 122 = some tt122 := by kernel_rfl
def tt123 : TI := (TI.mk (TypeDesc.func (Array.mk [40]) (Array.mk [40]) false) 1 8 [Value.nilFunc] [LT.other] false)
theorem tt123_ok : ttOf Try.prog false 123 = some tt123 := by kernel_rfl
def tt124 : TI := (TI.mk (TypeDesc.func (Array.mk [57]) (Array.mk [3]) false) 1 8 [Value.nilFunc] [LT.other] false)
theorem tt124_ok : ttOf Try.prog false 124 = some tt124 := by kernel_rfl
def tt125 : TI := (TI.mk (TypeDesc.func (Array.mk [57, 57]) (Array.mk [57]) false) 1 8 [Value.nilFunc] [LT.other] false)
theorem tt125_ok : ttOf Try.prog false 125 = some tt125 := by kernel_rfl
def tt126 : TI := (TI.mk (TypeDesc.func (Array.mk [37, 61, 57]) (Array.mk [57]) false) 1 8 [Value.nilFunc] [LT.other] false)
theorem tt126_ok : ttOf Try.prog false 126 = some tt126 := by kernel_rfl
def tt127 : TI := (TI.mk (TypeDesc.int IntKind.u64) 1 8 [(Value.int IntKind.u64 (0 : Int))] [(LT.int IntKind.u64)] false)
theorem tt127_ok : ttOf Try.prog false 127 = some tt127 := by kernel_rfl
def tt128 : TI := (TI.mk (TypeDesc.func (Array.mk [3, 3, 95]) (Array.mk [4]) false) 1 8 [Value.nilFunc] [LT.other] false)
theorem tt128_ok : ttOf Try.prog false 128 = some tt128 := by kernel_rfl
def tt129 : TI := (TI.mk (TypeDesc.func (Array.mk [95]) (Array.mk [95]) false) 1 8 [Value.nilFunc] [LT.other] false)
theorem tt129_ok : ttOf Try.prog false 129 = some tt129 := by kernel_rfl
def tt130 : TI := (TI.mk (TypeDesc.func (Array.mk [57, 57]) (Array.mk [3]) false) 1 8 [Value.nilFunc] [LT.other] false)
theorem tt130_ok : ttOf Try.prog false 130 = some tt130 := by kernel_rfl
def tt131 : TI := (TI.mk (TypeDesc.func (Array.mk [28, 132]) (Array.mk [4]) false) 1 8 [Value.nilFunc] [LT.other] false)
theorem tt131_ok : ttOf Try.prog false 131 = some tt131 := by kernel_rfl
def tt132 : TI := (TI.mk (TypeDesc.func (Array.mk [63]) (Array.mk [4]) false) 1 8 [Value.nilFunc] [LT.other] false)
theorem tt132_ok : ttOf Try.prog false 132 = some tt132 := by kernel_rfl
def tt133 : TI := (TI.mk (TypeDesc.func (Array.mk [28]) (Array.mk [28]) false) 1 8 [Value.nilFunc] [LT.other] false)
theorem tt133_ok : ttOf Try.prog false 133 = some tt133 := by kernel_rfl
def tt134 : TI := (TI.mk (TypeDesc.func (Array.mk [141]) (Array.mk [57]) true) 1 8 [Value.nilFunc] [LT.other] false)
theorem tt134_ok : ttOf Try.prog false 134 = some tt134 := by kernel_rfl
def tt135 : TI := (TI.mk (TypeDesc.struct (Array.mk [(Field.mk "X" 3 0 false "" "" 0), (Field.mk "Y" 3 1 false "" "" 8), (Field.mk "W" 3 2 false "" "" 16), (Field.mk "H" 3 3 false "" "" 24)])) 4 32 [(Value.int IntKind.i64 (0 : Int)), (Value.int IntKind.i64 (0 : Int)), (Value.int IntKind.i64 (0 : Int)), (Value.int IntKind.i64 (0 : Int))] [(LT.int IntKind.i64), (LT.int IntKind.i64), (LT.int IntKind.i64), (LT.int IntKind.i64)] true)
theorem tt135_ok : ttOf Try.prog true 135 = some tt135 := by kernel_rfl
def tt136 : TI := (TI.mk (TypeDesc.struct (Array.mk [(Field.mk "X" 3 0 false "" "" 0), (Field.mk "Y" 3 1 false "" "" 8), (Field.mk "W" 3 2 false "" "" 16), (Field.mk "H" 3 3 false "" "" 24)])) 4 32 [(Value.int IntKind.i64 (0 : Int)), (Value.int IntKind.i64 (0 : Int)), (Value.int IntKind.i64 (0 : Int)), (Value.int IntKind.i64 (0 : Int))] [(LT.int IntKind.i64), (LT.int IntKind.i64), (LT.int IntKind.i64), (LT.int IntKind.i64)] true)
theorem tt136_ok : ttOf Try.prog true 136 = some tt136 := by kernel_rfl
def tt138 : TI := (TI.mk (TypeDesc.func (Array.mk [27, 61]) (Array.mk [136, 4]) false) 1 8 [Value.nilFunc] [LT.other] false)
theorem tt138_ok : ttOf Try.prog false 138 = some tt138 := by kernel_rfl
def tt139 : TI := (TI.mk (TypeDesc.func (Array.mk [3, 3]) (Array.mk [4]) false) 1 8 [Value.nilFunc] [LT.other] false)
theorem tt139_ok : ttOf Try.prog false 139 = some tt139 := by kernel_rfl
def tt140 : TI := (TI.mk (TypeDesc.func (Array.mk [28, 132]) (Array.mk [3]) false) 1 8 [Value.nilFunc] [LT.other] false)
theorem tt140_ok : ttOf Try.prog false 140 = some tt140 := by kernel_rfl
def tt141 : TI := (TI.mk (TypeDesc.slice 57) 1 24 [(Value.slice Option.none 0 0)] [(LT.sl 57 2)] false)
theorem tt141_ok : ttOf Try.prog false 141 = some tt141 := by kernel_rfl
def tt142 : TI := (TI.mk (TypeDesc.func (Array.mk [57]) (Array.mk [95]) false) 1 8 [Value.nilFunc] [LT.other] false)
theorem tt142_ok : ttOf Try.prog false 142 = some tt142 := by kernel_rfl
def tt143 : TI := (TI.mk (TypeDesc.func (Array.mk [77, 57]) (Array.mk [57]) false) 1 8 [Value.nilFunc] [LT.other] false)
theorem tt143_ok : ttOf Try.prog false 143 = some tt143 := by kernel_rfl
def tt144 : TI := (TI.mk (TypeDesc.func (Array.mk []) (Array.mk [9]) false) 1 8 [Value.nilFunc] [LT.other] false)
theorem tt144_ok : ttOf Try.prog false 144 = some tt144 := by kernel_rfl
def tt147 : TI := (TI.mk (TypeDesc.array 0 16) 0 0 [] [] false)
theorem tt147_ok : ttOf Try.prog false 147 = some tt147 := by kernel_rfl
def tt150 : TI := (TI.mk (TypeDesc.func (Array.mk []) (Array.mk [3]) false) 1 8 [Value.nilFunc] [LT.other] false)
theorem tt150_ok : ttOf Try.prog false 150 = some tt150 := by kernel_rfl
def tt151 : TI := (TI.mk (TypeDesc.int IntKind.u32) 1 4 [(Value.int IntKind.u32 (0 : Int))] [(LT.int IntKind.u32)] false)
theorem tt151_ok : ttOf Try.prog false 151 = some tt151 := by kernel_rfl
def tt152 : TI := (TI.mk (TypeDesc.int IntKind.u8) 1 1 [(Value.int IntKind.u8 (0 : Int))] [(LT.int IntKind.u8)] false)
theorem tt152_ok : ttOf Try.prog false 152 = some tt152 := by kernel_rfl
def tt153 : TI := (TI.mk (TypeDesc.int IntKind.u8) 1 1 [(Value.int IntKind.u8 (0 : Int))] [(LT.int IntKind.u8)] false)
theorem tt153_ok : ttOf Try.prog false 153 = some tt153 := by kernel_rfl
def tt154 : TI := (TI.mk (TypeDesc.func (Array.mk [177, 177]) (Array.mk [4]) false) 1 8 [Value.nilFunc] [LT.other] false)
theorem tt154_ok : ttOf Try.prog false 154 = some tt154 := by kernel_rfl
def tt155 : TI := (TI.mk (TypeDesc.pointer 5) 1 8 [(Value.pointer Option.none)] [LT.other] false)
theorem tt155_ok : ttOf Try.prog false 155 = some tt155 := by kernel_rfl
def tt156 : TI := (TI.mk (TypeDesc.int IntKind.i32) 1 4 [(Value.int IntKind.i32 (0 : Int))] [(LT.int IntKind.i32)] false)
theorem tt156_ok : ttOf Try.prog false 156 = some tt156 := by kernel_rfl
def tt157 : TI := (TI.mk (TypeDesc.int IntKind.i32) 1 4 [(Value.int IntKind.i32 (0 : Int))] [(LT.int IntKind.i32)] false)
theorem tt157_ok : ttOf Try.prog false 157 = some tt157 := by kernel_rfl
def tt158 : TI := (TI.mk (TypeDesc.struct (Array.mk [(Field.mk "Size_" 12 0 false "" "" 0), (Field.mk "PtrBytes" 12 1 false "" "" 8), (Field.mk "Hash" 151 2 false "" "" 16), (Field.mk "TFlag" 152 3 false "" "" 20), (Field.mk "Align_" 5 4 false "" "" 21), (Field.mk "FieldAlign_" 5 5 false "" "" 22), (Field.mk "Kind_" 153 6 false "" "" 23), (Field.mk "Equal" 154 7 false "" "" 24), (Field.mk "GCData" 155 8 false "" "" 32), (Field.mk "Str" 156 9 false "" "" 40), (Field.mk "PtrToThis" 157 10 false "" "" 44)])) 11 48 [(Value.int IntKind.u64 (0 : Int)), (Value.int IntKind.u64 (0 : Int)), (Value.int IntKind.u32 (0 : Int)), (Value.int IntKind.u8 (0 : Int)), (Value.int IntKind.u8 (0 : Int)), (Value.int IntKind.u8 (0 : Int)), (Value.int IntKind.u8 (0 : Int)), Value.nilFunc, (Value.pointer Option.none), (Value.int IntKind.i32 (0 : Int)), (Value.int IntKind.i32 (0 : Int))] [(LT.int IntKind.u64), (LT.int IntKind.u64), (LT.int IntKind.u32), (LT.int IntKind.u8), (LT.int IntKind.u8), (LT.int IntKind.u8), (LT.int IntKind.u8), LT.other, LT.other, (LT.int IntKind.i32), (LT.int IntKind.i32)] false)
theorem tt158_ok : ttOf Try.prog false 158 = some tt158 := by kernel_rfl
def tt159 : TI := (TI.mk (TypeDesc.struct (Array.mk [(Field.mk "Size_" 12 0 false "" "" 0), (Field.mk "PtrBytes" 12 1 false "" "" 8), (Field.mk "Hash" 151 2 false "" "" 16), (Field.mk "TFlag" 152 3 false "" "" 20), (Field.mk "Align_" 5 4 false "" "" 21), (Field.mk "FieldAlign_" 5 5 false "" "" 22), (Field.mk "Kind_" 153 6 false "" "" 23), (Field.mk "Equal" 154 7 false "" "" 24), (Field.mk "GCData" 155 8 false "" "" 32), (Field.mk "Str" 156 9 false "" "" 40), (Field.mk "PtrToThis" 157 10 false "" "" 44)])) 11 48 [(Value.int IntKind.u64 (0 : Int)), (Value.int IntKind.u64 (0 : Int)), (Value.int IntKind.u32 (0 : Int)), (Value.int IntKind.u8 (0 : Int)), (Value.int IntKind.u8 (0 : Int)), (Value.int IntKind.u8 (0 : Int)), (Value.int IntKind.u8 (0 : Int)), Value.nilFunc, (Value.pointer Option.none), (Value.int IntKind.i32 (0 : Int)), (Value.int IntKind.i32 (0 : Int))] [(LT.int IntKind.u64), (LT.int IntKind.u64), (LT.int IntKind.u32), (LT.int IntKind.u8), (LT.int IntKind.u8), (LT.int IntKind.u8), (LT.int IntKind.u8), LT.other, LT.other, (LT.int IntKind.i32), (LT.int IntKind.i32)] false)
theorem tt159_ok : ttOf Try.prog false 159 = some tt159 := by kernel_rfl
def tt160 : TI := (TI.mk (TypeDesc.struct (Array.mk [(Field.mk "Name" 9 0 false "" "" 0), (Field.mk "Range" 3 1 false "" "" 16), (Field.mk "Damage" 3 2 false "" "" 24), (Field.mk "Cool" 3 3 false "" "" 32), (Field.mk "Speed" 3 4 false "" "" 40), (Field.mk "Splash" 3 5 false "" "" 48)])) 6 56 [(Value.string (ByteArray.mk (Array.mk []))), (Value.int IntKind.i64 (0 : Int)), (Value.int IntKind.i64 (0 : Int)), (Value.int IntKind.i64 (0 : Int)), (Value.int IntKind.i64 (0 : Int)), (Value.int IntKind.i64 (0 : Int))] [LT.str, (LT.int IntKind.i64), (LT.int IntKind.i64), (LT.int IntKind.i64), (LT.int IntKind.i64), (LT.int IntKind.i64)] true)
theorem tt160_ok : ttOf Try.prog true 160 = some tt160 := by kernel_rfl
def tt161 : TI := (TI.mk (TypeDesc.struct (Array.mk [(Field.mk "Name" 9 0 false "" "" 0), (Field.mk "Range" 3 1 false "" "" 16), (Field.mk "Damage" 3 2 false "" "" 24), (Field.mk "Cool" 3 3 false "" "" 32), (Field.mk "Speed" 3 4 false "" "" 40), (Field.mk "Splash" 3 5 false "" "" 48)])) 6 56 [(Value.string (ByteArray.mk (Array.mk []))), (Value.int IntKind.i64 (0 : Int)), (Value.int IntKind.i64 (0 : Int)), (Value.int IntKind.i64 (0 : Int)), (Value.int IntKind.i64 (0 : Int)), (Value.int IntKind.i64 (0 : Int))] [LT.str, (LT.int IntKind.i64), (LT.int IntKind.i64), (LT.int IntKind.i64), (LT.int IntKind.i64), (LT.int IntKind.i64)] true)
theorem tt161_ok : ttOf Try.prog true 161 = some tt161 := by kernel_rfl
def tt162 : TI := (TI.mk (TypeDesc.struct (Array.mk [(Field.mk "Name" 9 0 false "" "" 0), (Field.mk "Needs" 40 1 false "" "" 16), (Field.mk "Ore" 3 2 false "" "" 40), (Field.mk "Wood" 3 3 false "" "" 48), (Field.mk "Time" 3 4 false "" "" 56), (Field.mk "Unit" 9 5 false "" "" 64), (Field.mk "Stat" 3 6 false "" "" 80), (Field.mk "Amount" 3 7 false "" "" 88)])) 8 96 [(Value.string (ByteArray.mk (Array.mk []))), (Value.slice Option.none 0 0), (Value.int IntKind.i64 (0 : Int)), (Value.int IntKind.i64 (0 : Int)), (Value.int IntKind.i64 (0 : Int)), (Value.string (ByteArray.mk (Array.mk []))), (Value.int IntKind.i64 (0 : Int)), (Value.int IntKind.i64 (0 : Int))] [LT.str, (LT.sl 9 1), (LT.int IntKind.i64), (LT.int IntKind.i64), (LT.int IntKind.i64), LT.str, (LT.int IntKind.i64), (LT.int IntKind.i64)] false)
theorem tt162_ok : ttOf Try.prog false 162 = some tt162 := by kernel_rfl
def tt163 : TI := (TI.mk (TypeDesc.struct (Array.mk [(Field.mk "Name" 9 0 false "" "" 0), (Field.mk "Needs" 40 1 false "" "" 16), (Field.mk "Ore" 3 2 false "" "" 40), (Field.mk "Wood" 3 3 false "" "" 48), (Field.mk "Time" 3 4 false "" "" 56), (Field.mk "Unit" 9 5 false "" "" 64), (Field.mk "Stat" 3 6 false "" "" 80), (Field.mk "Amount" 3 7 false "" "" 88)])) 8 96 [(Value.string (ByteArray.mk (Array.mk []))), (Value.slice Option.none 0 0), (Value.int IntKind.i64 (0 : Int)), (Value.int IntKind.i64 (0 : Int)), (Value.int IntKind.i64 (0 : Int)), (Value.string (ByteArray.mk (Array.mk []))), (Value.int IntKind.i64 (0 : Int)), (Value.int IntKind.i64 (0 : Int))] [LT.str, (LT.sl 9 1), (LT.int IntKind.i64), (LT.int IntKind.i64), (LT.int IntKind.i64), LT.str, (LT.int IntKind.i64), (LT.int IntKind.i64)] false)
theorem tt163_ok : ttOf Try.prog false 163 = some tt163 := by kernel_rfl
def tt164 : TI := (TI.mk (TypeDesc.struct (Array.mk [(Field.mk "Owner" 3 0 false "" "" 0), (Field.mk "Target" 3 1 false "" "" 8), (Field.mk "Left" 3 2 false "" "" 16), (Field.mk "Weapon" 9 3 false "" "" 24), (Field.mk "Damage" 3 4 false "" "" 40), (Field.mk "At" 57 5 false "" "" 48), (Field.mk "To" 57 7 false "" "" 64)])) 9 80 [(Value.int IntKind.i64 (0 : Int)), (Value.int IntKind.i64 (0 : Int)), (Value.int IntKind.i64 (0 : Int)), (Value.string (ByteArray.mk (Array.mk []))), (Value.int IntKind.i64 (0 : Int)), (Value.int IntKind.i64 (0 : Int)), (Value.int IntKind.i64 (0 : Int)), (Value.int IntKind.i64 (0 : Int)), (Value.int IntKind.i64 (0 : Int))] [(LT.int IntKind.i64), (LT.int IntKind.i64), (LT.int IntKind.i64), LT.str, (LT.int IntKind.i64), (LT.int IntKind.i64), (LT.int IntKind.i64), (LT.int IntKind.i64), (LT.int IntKind.i64)] true)
theorem tt164_ok : ttOf Try.prog true 164 = some tt164 := by kernel_rfl
def tt165 : TI := (TI.mk (TypeDesc.struct (Array.mk [(Field.mk "Owner" 3 0 false "" "" 0), (Field.mk "Target" 3 1 false "" "" 8), (Field.mk "Left" 3 2 false "" "" 16), (Field.mk "Weapon" 9 3 false "" "" 24), (Field.mk "Damage" 3 4 false "" "" 40), (Field.mk "At" 57 5 false "" "" 48), (Field.mk "To" 57 7 false "" "" 64)])) 9 80 [(Value.int IntKind.i64 (0 : Int)), (Value.int IntKind.i64 (0 : Int)), (Value.int IntKind.i64 (0 : Int)), (Value.string (ByteArray.mk (Array.mk []))), (Value.int IntKind.i64 (0 : Int)), (Value.int IntKind.i64 (0 : Int)), (Value.int IntKind.i64 (0 : Int)), (Value.int IntKind.i64 (0 : Int)), (Value.int IntKind.i64 (0 : Int))] [(LT.int IntKind.i64), (LT.int IntKind.i64), (LT.int IntKind.i64), LT.str, (LT.int IntKind.i64), (LT.int IntKind.i64), (LT.int IntKind.i64), (LT.int IntKind.i64), (LT.int IntKind.i64)] true)
theorem tt165_ok : ttOf Try.prog true 165 = some tt165 := by kernel_rfl
def tt166 : TI := (TI.mk (TypeDesc.slice 4) 1 24 [(Value.slice Option.none 0 0)] [(LT.sl 4 1)] false)
theorem tt166_ok : ttOf Try.prog false 166 = some tt166 := by kernel_rfl
def tt167 : TI := (TI.mk (TypeDesc.slice 179) 1 24 [(Value.slice Option.none 0 0)] [(LT.sl 179 6)] false)
theorem tt167_ok : ttOf Try.prog false 167 = some tt167 := by kernel_rfl
def tt168 : TI := (TI.mk (TypeDesc.struct (Array.mk [(Field.mk "Player" 3 0 false "" "" 0), (Field.mk "Explored" 166 1 false "" "" 8), (Field.mk "Seen" 167 2 false "" "" 32)])) 3 56 [(Value.int IntKind.i64 (0 : Int)), (Value.slice Option.none 0 0), (Value.slice Option.none 0 0)] [(LT.int IntKind.i64), (LT.sl 4 1), (LT.sl 179 6)] false)
theorem tt168_ok : ttOf Try.prog false 168 = some tt168 := by kernel_rfl
def tt169 : TI := (TI.mk (TypeDesc.struct (Array.mk [(Field.mk "Player" 3 0 false "" "" 0), (Field.mk "Explored" 166 1 false "" "" 8), (Field.mk "Seen" 167 2 false "" "" 32)])) 3 56 [(Value.int IntKind.i64 (0 : Int)), (Value.slice Option.none 0 0), (Value.slice Option.none 0 0)] [(LT.int IntKind.i64), (LT.sl 4 1), (LT.sl 179 6)] false)
theorem tt169_ok : ttOf Try.prog false 169 = some tt169 := by kernel_rfl
def tt170 : TI := (TI.mk (TypeDesc.slice 181) 1 24 [(Value.slice Option.none 0 0)] [(LT.sl 181 3)] false)
theorem tt170_ok : ttOf Try.prog false 170 = some tt170 := by kernel_rfl
def tt171 : TI := (TI.mk (TypeDesc.slice 183) 1 24 [(Value.slice Option.none 0 0)] [(LT.sl 183 4)] false)
theorem tt171_ok : ttOf Try.prog false 171 = some tt171 := by kernel_rfl
def tt172 : TI := (TI.mk (TypeDesc.struct (Array.mk [(Field.mk "Entries" 170 0 false "" "" 0), (Field.mk "Instrs" 171 1 false "" "" 24)])) 2 48 [(Value.slice Option.none 0 0), (Value.slice Option.none 0 0)] [(LT.sl 181 3), (LT.sl 183 4)] false)
theorem tt172_ok : ttOf Try.prog false 172 = some tt172 := by kernel_rfl
def tt173 : TI := (TI.mk (TypeDesc.struct (Array.mk [(Field.mk "Entries" 170 0 false "" "" 0), (Field.mk "Instrs" 171 1 false "" "" 24)])) 2 48 [(Value.slice Option.none 0 0), (Value.slice Option.none 0 0)] [(LT.sl 181 3), (LT.sl 183 4)] false)
theorem tt173_ok : ttOf Try.prog false 173 = some tt173 := by kernel_rfl
def tt174 : TI := (TI.mk (TypeDesc.slice 186) 1 24 [(Value.slice Option.none 0 0)] [(LT.sl 186 5)] false)
theorem tt174_ok : ttOf Try.prog false 174 = some tt174 := by kernel_rfl
def tt175 : TI := (TI.mk (TypeDesc.struct (Array.mk [(Field.mk "Player" 3 0 false "" "" 0), (Field.mk "Code" 173 1 false "" "" 8), (Field.mk "Tasks" 174 3 false "" "" 56)])) 4 80 [(Value.int IntKind.i64 (0 : Int)), (Value.slice Option.none 0 0), (Value.slice Option.none 0 0), (Value.slice Option.none 0 0)] [(LT.int IntKind.i64), (LT.sl 181 3), (LT.sl 183 4), (LT.sl 186 5)] false)
theorem tt175_ok : ttOf Try.prog false 175 = some tt175 := by kernel_rfl
def tt176 : TI := (TI.mk (TypeDesc.struct (Array.mk [(Field.mk "Player" 3 0 false "" "" 0), (Field.mk "Code" 173 1 false "" "" 8), (Field.mk "Tasks" 174 3 false "" "" 56)])) 4 80 [(Value.int IntKind.i64 (0 : Int)), (Value.slice Option.none 0 0), (Value.slice Option.none 0 0), (Value.slice Option.none 0 0)] [(LT.int IntKind.i64), (LT.sl 181 3), (LT.sl 183 4), (LT.sl 186 5)] false)
theorem tt176_ok : ttOf Try.prog false 176 = some tt176 := by kernel_rfl
def tt178 : TI := (TI.mk (TypeDesc.struct (Array.mk [(Field.mk "Id" 3 0 false "" "" 0), (Field.mk "Owner" 3 1 false "" "" 8), (Field.mk "Type" 9 2 false "" "" 16), (Field.mk "At" 57 3 false "" "" 32), (Field.mk "Hp" 3 5 false "" "" 48)])) 6 56 [(Value.int IntKind.i64 (0 : Int)), (Value.int IntKind.i64 (0 : Int)), (Value.string (ByteArray.mk (Array.mk []))), (Value.int IntKind.i64 (0 : Int)), (Value.int IntKind.i64 (0 : Int)), (Value.int IntKind.i64 (0 : Int))] [(LT.int IntKind.i64), (LT.int IntKind.i64), LT.str, (LT.int IntKind.i64), (LT.int IntKind.i64), (LT.int IntKind.i64)] true)
theorem tt178_ok : ttOf Try.prog true 178 = some tt178 := by kernel_rfl
def tt179 : TI := (TI.mk (TypeDesc.struct (Array.mk [(Field.mk "Id" 3 0 false "" "" 0), (Field.mk "Owner" 3 1 false "" "" 8), (Field.mk "Type" 9 2 false "" "" 16), (Field.mk "At" 57 3 false "" "" 32), (Field.mk "Hp" 3 5 false "" "" 48)])) 6 56 [(Value.int IntKind.i64 (0 : Int)), (Value.int IntKind.i64 (0 : Int)), (Value.string (ByteArray.mk (Array.mk []))), (Value.int IntKind.i64 (0 : Int)), (Value.int IntKind.i64 (0 : Int)), (Value.int IntKind.i64 (0 : Int))] [(LT.int IntKind.i64), (LT.int IntKind.i64), LT.str, (LT.int IntKind.i64), (LT.int IntKind.i64), (LT.int IntKind.i64)] true)
theorem tt179_ok : ttOf Try.prog true 179 = some tt179 := by kernel_rfl
def tt180 : TI := (TI.mk (TypeDesc.struct (Array.mk [(Field.mk "Name" 9 0 false "" "" 0), (Field.mk "At" 3 1 false "" "" 16), (Field.mk "Slots" 3 2 false "" "" 24)])) 3 32 [(Value.string (ByteArray.mk (Array.mk []))), (Value.int IntKind.i64 (0 : Int)), (Value.int IntKind.i64 (0 : Int))] [LT.str, (LT.int IntKind.i64), (LT.int IntKind.i64)] true)
theorem tt180_ok : ttOf Try.prog true 180 = some tt180 := by kernel_rfl
def tt181 : TI := (TI.mk (TypeDesc.struct (Array.mk [(Field.mk "Name" 9 0 false "" "" 0), (Field.mk "At" 3 1 false "" "" 16), (Field.mk "Slots" 3 2 false "" "" 24)])) 3 32 [(Value.string (ByteArray.mk (Array.mk []))), (Value.int IntKind.i64 (0 : Int)), (Value.int IntKind.i64 (0 : Int))] [LT.str, (LT.int IntKind.i64), (LT.int IntKind.i64)] true)
theorem tt181_ok : ttOf Try.prog true 181 = some tt181 := by kernel_rfl
def tt182 : TI := (TI.mk (TypeDesc.struct (Array.mk [(Field.mk "Op" 3 0 false "" "" 0), (Field.mk "A" 3 1 false "" "" 8), (Field.mk "N" 2 2 false "" "" 16), (Field.mk "S" 9 3 false "" "" 24)])) 4 40 [(Value.int IntKind.i64 (0 : Int)), (Value.int IntKind.i64 (0 : Int)), (Value.int IntKind.i64 (0 : Int)), (Value.string (ByteArray.mk (Array.mk [])))] [(LT.int IntKind.i64), (LT.int IntKind.i64), (LT.int IntKind.i64), LT.str] true)
theorem tt182_ok : ttOf Try.prog true 182 = some tt182 := by kernel_rfl
def tt183 : TI := (TI.mk (TypeDesc.struct (Array.mk [(Field.mk "Op" 3 0 false "" "" 0), (Field.mk "A" 3 1 false "" "" 8), (Field.mk "N" 2 2 false "" "" 16), (Field.mk "S" 9 3 false "" "" 24)])) 4 40 [(Value.int IntKind.i64 (0 : Int)), (Value.int IntKind.i64 (0 : Int)), (Value.int IntKind.i64 (0 : Int)), (Value.string (ByteArray.mk (Array.mk [])))] [(LT.int IntKind.i64), (LT.int IntKind.i64), (LT.int IntKind.i64), LT.str] true)
theorem tt183_ok : ttOf Try.prog true 183 = some tt183 := by kernel_rfl
def tt184 : TI := (TI.mk (TypeDesc.slice 2) 1 24 [(Value.slice Option.none 0 0)] [(LT.sl 2 1)] false)
theorem tt184_ok : ttOf Try.prog false 184 = some tt184 := by kernel_rfl
def tt185 : TI := (TI.mk (TypeDesc.struct (Array.mk [(Field.mk "State" 3 0 false "" "" 0), (Field.mk "At" 3 1 false "" "" 8), (Field.mk "Wait" 3 2 false "" "" 16), (Field.mk "Slots" 184 3 false "" "" 24), (Field.mk "Stack" 184 4 false "" "" 48)])) 5 72 [(Value.int IntKind.i64 (0 : Int)), (Value.int IntKind.i64 (0 : Int)), (Value.int IntKind.i64 (0 : Int)), (Value.slice Option.none 0 0), (Value.slice Option.none 0 0)] [(LT.int IntKind.i64), (LT.int IntKind.i64), (LT.int IntKind.i64), (LT.sl 2 1), (LT.sl 2 1)] false)
theorem tt185_ok : ttOf Try.prog false 185 = some tt185 := by kernel_rfl
def tt186 : TI := (TI.mk (TypeDesc.struct (Array.mk [(Field.mk "State" 3 0 false "" "" 0), (Field.mk "At" 3 1 false "" "" 8), (Field.mk "Wait" 3 2 false "" "" 16), (Field.mk "Slots" 184 3 false "" "" 24), (Field.mk "Stack" 184 4 false "" "" 48)])) 5 72 [(Value.int IntKind.i64 (0 : Int)), (Value.int IntKind.i64 (0 : Int)), (Value.int IntKind.i64 (0 : Int)), (Value.slice Option.none 0 0), (Value.slice Option.none 0 0)] [(LT.int IntKind.i64), (LT.int IntKind.i64), (LT.int IntKind.i64), (LT.sl 2 1), (LT.sl 2 1)] false)
theorem tt186_ok : ttOf Try.prog false 186 = some tt186 := by kernel_rfl
def tts : List (Nat × TI) := [(1, tt1), (2, tt2), (3, tt3), (4, tt4), (5, tt5), (6, tt6), (9, tt9), (10, tt10), (11, tt11), (12, tt12), (15, tt15), (16, tt16), (17, tt17), (21, tt21), (22, tt22), (23, tt23), (24, tt24), (25, tt25), (26, tt26), (27, tt27), (28, tt28), (29, tt29), (30, tt30), (31, tt31), (32, tt32), (33, tt33), (34, tt34), (35, tt35), (36, tt36), (37, tt37), (38, tt38), (39, tt39), (40, tt40), (41, tt41), (42, tt42), (43, tt43), (44, tt44), (45, tt45), (47, tt47), (48, tt48), (49, tt49), (50, tt50), (51, tt51), (53, tt53), (54, tt54), (55, tt55), (56, tt56), (57, tt57), (58, tt58), (59, tt59), (60, tt60), (61, tt61), (62, tt62), (63, tt63), (64, tt64), (65, tt65), (66, tt66), (67, tt67), (68, tt68), (69, tt69), (70, tt70), (71, tt71), (72, tt72), (73, tt73), (74, tt74), (75, tt75), (76, tt76), (77, tt77), (78, tt78), (79, tt79), (80, tt80), (82, tt82), (84, tt84), (85, tt85), (87, tt87), (88, tt88), (89, tt89), (90, tt90), (91, tt91), (92, tt92), (93, tt93), (94, tt94), (95, tt95), (97, tt97), (99, tt99), (100, tt100), (102, tt102), (103, tt103), (104, tt104), (105, tt105), (106, tt106), (107, tt107), (108, tt108), (109, tt109), (111, tt111), (112, tt112), (113, tt113), (115, tt115), (116, tt116), (117, tt117), (118, tt118), (119, tt119), (120, tt120), (121, tt121), (122, tt122), (123, tt123), (124, tt124), (125, tt125), (126, tt126), (127, tt127), (128, tt128), (129, tt129), (130, tt130), (131, tt131), (132, tt132), (133, tt133), (134, tt134), (135, tt135), (136, tt136), (138, tt138), (139, tt139), (140, tt140), (141, tt141), (142, tt142), (143, tt143), (144, tt144), (147, tt147), (150, tt150), (151, tt151), (152, tt152), (153, tt153), (154, tt154), (155, tt155), (156, tt156), (157, tt157), (158, tt158), (159, tt159), (160, tt160), (161, tt161), (162, tt162), (163, tt163), (164, tt164), (165, tt165), (166, tt166), (167, tt167), (168, tt168), (169, tt169), (170, tt170), (171, tt171), (172, tt172), (173, tt173), (174, tt174), (175, tt175), (176, tt176), (178, tt178), (179, tt179), (180, tt180), (181, tt181), (182, tt182), (183, tt183), (184, tt184), (185, tt185), (186, tt186)]
theorem tts_ok : TabOk Try.prog tts := (.cons false tt1_ok (.cons false tt2_ok (.cons false tt3_ok (.cons false tt4_ok (.cons false tt5_ok (.cons false tt6_ok (.cons false tt9_ok (.cons false tt10_ok (.cons false tt11_ok (.cons false tt12_ok (.cons false tt15_ok (.cons false tt16_ok (.cons false tt17_ok (.cons false tt21_ok (.cons false tt22_ok (.cons false tt23_ok (.cons false tt24_ok (.cons false tt25_ok (.cons false tt26_ok (.cons false tt27_ok (.cons false tt28_ok (.cons false tt29_ok (.cons false tt30_ok (.cons false tt31_ok (.cons false tt32_ok (.cons false tt33_ok (.cons false tt34_ok (.cons false tt35_ok (.cons false tt36_ok (.cons false tt37_ok (.cons true tt38_ok (.cons true tt39_ok (.cons false tt40_ok (.cons false tt41_ok (.cons false tt42_ok (.cons false tt43_ok (.cons false tt44_ok (.cons false tt45_ok (.cons false tt47_ok (.cons false tt48_ok (.cons false tt49_ok (.cons false tt50_ok (.cons false tt51_ok (.cons false tt53_ok (.cons false tt54_ok (.cons false tt55_ok (.cons true tt56_ok (.cons true tt57_ok (.cons false tt58_ok (.cons false tt59_ok (.cons false tt60_ok (.cons false tt61_ok (.cons true tt62_ok (.cons true tt63_ok (.cons false tt64_ok (.cons false tt65_ok (.cons false tt66_ok (.cons false tt67_ok (.cons true tt68_ok (.cons true tt69_ok (.cons false tt70_ok (.cons false tt71_ok (.cons false tt72_ok (.cons false tt73_ok (.cons false tt74_ok (.cons false tt75_ok (.cons false tt76_ok (.cons false tt77_ok (.cons true tt78_ok (.cons true tt79_ok (.cons false tt80_ok (.cons false tt82_ok (.cons false tt84_ok (.cons false tt85_ok (.cons false tt87_ok (.cons false tt88_ok (.cons false tt89_ok (.cons false tt90_ok (.cons false tt91_ok (.cons false tt92_ok (.cons false tt93_ok (.cons false tt94_ok (.cons true tt95_ok (.cons false tt97_ok (.cons false tt99_ok (.cons false tt100_ok (.cons false tt102_ok (.cons false tt103_ok (.cons false tt104_ok (.cons false tt105_ok (.cons false tt106_ok (.cons false tt107_ok (.cons false tt108_ok (.cons false tt109_ok (.cons false tt111_ok (.cons false tt112_ok (.cons false tt113_ok (.cons false tt115_ok (.cons false tt116_ok (.cons false tt117_ok (.cons false tt118_ok (.cons false tt119_ok (.cons false tt120_ok (.cons true tt121_ok (.cons true tt122_ok (.cons false tt123_ok (.cons false tt124_ok (.cons false tt125_ok (.cons false tt126_ok (.cons false tt127_ok (.cons false tt128_ok (.cons false tt129_ok (.cons false tt130_ok (.cons false tt131_ok (.cons false tt132_ok (.cons false tt133_ok (.cons false tt134_ok (.cons true tt135_ok (.cons true tt136_ok (.cons false tt138_ok (.cons false tt139_ok (.cons false tt140_ok (.cons false tt141_ok (.cons false tt142_ok (.cons false tt143_ok (.cons false tt144_ok (.cons false tt147_ok (.cons false tt150_ok (.cons false tt151_ok (.cons false tt152_ok (.cons false tt153_ok (.cons false tt154_ok (.cons false tt155_ok (.cons false tt156_ok (.cons false tt157_ok (.cons false tt158_ok (.cons false tt159_ok (.cons true tt160_ok (.cons true tt161_ok (.cons false tt162_ok (.cons false tt163_ok (.cons true tt164_ok (.cons true tt165_ok (.cons false tt166_ok (.cons false tt167_ok (.cons false tt168_ok (.cons false tt169_ok (.cons false tt170_ok (.cons false tt171_ok (.cons false tt172_ok (.cons false tt173_ok (.cons false tt174_ok (.cons false tt175_ok (.cons false tt176_ok (.cons true tt178_ok (.cons true tt179_ok (.cons true tt180_ok (.cons true tt181_ok (.cons true tt182_ok (.cons true tt183_ok (.cons false tt184_ok (.cons false tt185_ok (.cons false tt186_ok .nil)))))))))))))))))))))))))))))))))))))))))))))))))))))))))))))))))))))))))))))))))))))))))))))))))))))))))))))))))))))))))))))))))))))))))))))))))))))))))))))))))))
def TT : TypeId → Option TI := tabTT tts
theorem TT_ok : TOk Try.prog TT := tabTT_ok tts_ok
def TU : TypeId → Option (List TypeId) := tabTU [(46, [37, 45]), (52, [3, 3]), (81, [61, 4]), (83, [77, 4]), (86, [3, 4]), (96, [95, 3, 4]), (98, [63, 4]), (101, [30, 3, 45]), (110, [79, 4]), (114, [57, 3]), (137, [136, 4])]

def ownF : FuncId → Bool := fun _ => false
def ownRo : FuncId → Bool := fun f => Nat.ble roTag f && Nat.blt f ownTag
def ownE : FuncId → Bool := fun f => Nat.ble ownTag f && Nat.blt f handTag
def ownRE : FuncId → Bool := fun f => Nat.ble roTag f && Nat.blt f handTag
def ownFH : FuncId → Bool := fun f => Nat.ble handTag f
def ownRoH : FuncId → Bool := fun f => (Nat.ble roTag f && Nat.blt f ownTag) || Nat.ble handTag f
def ownEH : FuncId → Bool := fun f => Nat.ble ownTag f
def ownREH : FuncId → Bool := fun f => Nat.ble roTag f
def GL0 : Nat → Option (List AVal) := fun _ => none
theorem mixed : Try.prog.follows .mixedOrders = true := by kernel_rfl
theorem libnone : Lib Try.prog GL0 noC := Lib.none
def Cnone := noC
end Go.Proofs.Ytoiimiohobollaa.AI
