/- The types of this seat's program, told as a table (printed by wip/tool2/Ev.lean). -/
import Derived.Test.YteiniiakpdijmaaDoorAI20
import Derived.Test.YteiniiakpdijmaaDoorProg
namespace Go.Proofs.YteiniiakpdijmaaDoor.AI
open Go.RowKit
def tt1 : TI := (TI.mk (TypeDesc.func (Array.mk []) (Array.mk []) false) 1 8 [Value.nilFunc] [LT.other] false)
theorem tt1_ok : ttOf Tryd.prog false 1 = some tt1 := by kernel_rfl
def tt2 : TI := (TI.mk (TypeDesc.int IntKind.i64) 1 8 [(Value.int IntKind.i64 (0 : Int))] [(LT.int IntKind.i64)] false)
theorem tt2_ok : ttOf Tryd.prog false 2 = some tt2 := by kernel_rfl
def tt3 : TI := (TI.mk (TypeDesc.int IntKind.i64) 1 8 [(Value.int IntKind.i64 (0 : Int))] [(LT.int IntKind.i64)] false)
theorem tt3_ok : ttOf Tryd.prog false 3 = some tt3 := by kernel_rfl
def tt4 : TI := (TI.mk TypeDesc.bool 1 1 [(Value.bool false)] [LT.bool] false)
theorem tt4_ok : ttOf Tryd.prog false 4 = some tt4 := by kernel_rfl
def tt5 : TI := (TI.mk (TypeDesc.int IntKind.u8) 1 1 [(Value.int IntKind.u8 (0 : Int))] [(LT.int IntKind.u8)] false)
theorem tt5_ok : ttOf Tryd.prog false 5 = some tt5 := by kernel_rfl
def tt6 : TI := (TI.mk (TypeDesc.int IntKind.u8) 1 1 [(Value.int IntKind.u8 (0 : Int))] [(LT.int IntKind.u8)] false)
theorem tt6_ok : ttOf Tryd.prog false 6 = some tt6 := by kernel_rfl
def tt9 : TI := (TI.mk TypeDesc.string 1 16 [(Value.string (ByteArray.mk (Array.mk [])))] [LT.str] false)
theorem tt9_ok : ttOf Tryd.prog false 9 = some tt9 := by kernel_rfl
def tt10 : TI := (TI.mk TypeDesc.string 1 16 [(Value.string (ByteArray.mk (Array.mk [])))] [LT.str] false)
theorem tt10_ok : ttOf Tryd.prog false 10 = some tt10 := by kernel_rfl
def tt11 : TI := (TI.mk TypeDesc.string 1 16 [(Value.string (ByteArray.mk (Array.mk [])))] [LT.str] false)
theorem tt11_ok : ttOf Tryd.prog false 11 = some tt11 := by kernel_rfl
def tt12 : TI := (TI.mk (TypeDesc.int IntKind.u64) 1 8 [(Value.int IntKind.u64 (0 : Int))] [(LT.int IntKind.u64)] false)
theorem tt12_ok : ttOf Tryd.prog false 12 = some tt12 := by kernel_rfl
def tt15 : TI := (TI.mk (TypeDesc.pointer 102) 1 8 [(Value.pointer Option.none)] [LT.other] false)
theorem tt15_ok : ttOf Tryd.prog false 15 = some tt15 := by kernel_rfl
def tt16 : TI := (TI.mk (TypeDesc.pointer 105) 1 8 [(Value.pointer Option.none)] [LT.other] false)
theorem tt16_ok : ttOf Tryd.prog false 16 = some tt16 := by kernel_rfl
def tt17 : TI := (TI.mk (TypeDesc.pointer 115) 1 8 [(Value.pointer Option.none)] [LT.other] false)
theorem tt17_ok : ttOf Tryd.prog false 17 = some tt17 := by kernel_rfl
def tt21 : TI := (TI.mk (TypeDesc.int IntKind.i32) 1 4 [(Value.int IntKind.i32 (0 : Int))] [(LT.int IntKind.i32)] false)
theorem tt21_ok : ttOf Tryd.prog false 21 = some tt21 := by kernel_rfl
def tt22 : TI := (TI.mk (TypeDesc.slice 48) 1 24 [(Value.slice Option.none 0 0)] [(LT.sl 48 3)] false)
theorem tt22_ok : ttOf Tryd.prog false 22 = some tt22 := by kernel_rfl
def tt23 : TI := (TI.mk (TypeDesc.struct (Array.mk [(Field.mk "W" 3 0 false "" "" 0), (Field.mk "H" 3 1 false "" "" 8), (Field.mk "Cells" 22 2 false "" "" 16)])) 3 40 [(Value.int IntKind.i64 (0 : Int)), (Value.int IntKind.i64 (0 : Int)), (Value.slice Option.none 0 0)] [(LT.int IntKind.i64), (LT.int IntKind.i64), (LT.sl 48 3)] false)
theorem tt23_ok : ttOf Tryd.prog false 23 = some tt23 := by kernel_rfl
def tt24 : TI := (TI.mk (TypeDesc.struct (Array.mk [(Field.mk "W" 3 0 false "" "" 0), (Field.mk "H" 3 1 false "" "" 8), (Field.mk "Cells" 22 2 false "" "" 16)])) 3 40 [(Value.int IntKind.i64 (0 : Int)), (Value.int IntKind.i64 (0 : Int)), (Value.slice Option.none 0 0)] [(LT.int IntKind.i64), (LT.int IntKind.i64), (LT.sl 48 3)] false)
theorem tt24_ok : ttOf Tryd.prog false 24 = some tt24 := by kernel_rfl
def tt25 : TI := (TI.mk (TypeDesc.slice 4) 1 24 [(Value.slice Option.none 0 0)] [(LT.sl 4 1)] false)
theorem tt25_ok : ttOf Tryd.prog false 25 = some tt25 := by kernel_rfl
def tt26 : TI := (TI.mk (TypeDesc.slice 28) 1 24 [(Value.slice Option.none 0 0)] [(LT.sl 28 2)] false)
theorem tt26_ok : ttOf Tryd.prog false 26 = some tt26 := by kernel_rfl
def tt27 : TI := (TI.mk (TypeDesc.struct (Array.mk [(Field.mk "X" 3 0 false "" "" 0), (Field.mk "Y" 3 1 false "" "" 8)])) 2 16 [(Value.int IntKind.i64 (0 : Int)), (Value.int IntKind.i64 (0 : Int))] [(LT.int IntKind.i64), (LT.int IntKind.i64)] true)
theorem tt27_ok : ttOf Tryd.prog true 27 = some tt27 := by kernel_rfl
def tt28 : TI := (TI.mk (TypeDesc.struct (Array.mk [(Field.mk "X" 3 0 false "" "" 0), (Field.mk "Y" 3 1 false "" "" 8)])) 2 16 [(Value.int IntKind.i64 (0 : Int)), (Value.int IntKind.i64 (0 : Int))] [(LT.int IntKind.i64), (LT.int IntKind.i64)] true)
theorem tt28_ok : ttOf Tryd.prog true 28 = some tt28 := by kernel_rfl
def tt29 : TI := (TI.mk (TypeDesc.struct (Array.mk [(Field.mk "M" 24 0 false "" "" 0), (Field.mk "Blocked" 25 3 false "" "" 40), (Field.mk "Class" 3 4 false "" "" 64), (Field.mk "Goals" 26 5 false "" "" 72), (Field.mk "At" 28 6 false "" "" 96)])) 8 112 [(Value.int IntKind.i64 (0 : Int)), (Value.int IntKind.i64 (0 : Int)), (Value.slice Option.none 0 0), (Value.slice Option.none 0 0), (Value.int IntKind.i64 (0 : Int)), (Value.slice Option.none 0 0), (Value.int IntKind.i64 (0 : Int)), (Value.int IntKind.i64 (0 : Int))] [(LT.int IntKind.i64), (LT.int IntKind.i64), (LT.sl 48 3), (LT.sl 4 1), (LT.int IntKind.i64), (LT.sl 28 2), (LT.int IntKind.i64), (LT.int IntKind.i64)] false)
theorem tt29_ok : ttOf Tryd.prog false 29 = some tt29 := by kernel_rfl
def tt30 : TI := (TI.mk (TypeDesc.struct (Array.mk [(Field.mk "M" 24 0 false "" "" 0), (Field.mk "Blocked" 25 3 false "" "" 40), (Field.mk "Class" 3 4 false "" "" 64), (Field.mk "Goals" 26 5 false "" "" 72), (Field.mk "At" 28 6 false "" "" 96)])) 8 112 [(Value.int IntKind.i64 (0 : Int)), (Value.int IntKind.i64 (0 : Int)), (Value.slice Option.none 0 0), (Value.slice Option.none 0 0), (Value.int IntKind.i64 (0 : Int)), (Value.slice Option.none 0 0), (Value.int IntKind.i64 (0 : Int)), (Value.int IntKind.i64 (0 : Int))] [(LT.int IntKind.i64), (LT.int IntKind.i64), (LT.sl 48 3), (LT.sl 4 1), (LT.int IntKind.i64), (LT.sl 28 2), (LT.int IntKind.i64), (LT.int IntKind.i64)] false)
theorem tt30_ok : ttOf Tryd.prog false 30 = some tt30 := by kernel_rfl
def tt31 : TI := (TI.mk (TypeDesc.func (Array.mk [30]) (Array.mk [4]) false) 1 8 [Value.nilFunc] [LT.other] false)
theorem tt31_ok : ttOf Tryd.prog false 31 = some tt31 := by kernel_rfl
def tt32 : TI := (TI.mk (TypeDesc.func (Array.mk []) (Array.mk [4]) false) 1 8 [Value.nilFunc] [LT.other] false)
theorem tt32_ok : ttOf Tryd.prog false 32 = some tt32 := by kernel_rfl
def tt33 : TI := (TI.mk (TypeDesc.slice 3) 1 24 [(Value.slice Option.none 0 0)] [(LT.sl 3 1)] false)
theorem tt33_ok : ttOf Tryd.prog false 33 = some tt33 := by kernel_rfl
def tt34 : TI := (TI.mk (TypeDesc.struct (Array.mk [(Field.mk "Class" 3 0 false "" "" 0), (Field.mk "Goals" 26 1 false "" "" 8), (Field.mk "Cost" 33 2 false "" "" 32), (Field.mk "Dir" 33 3 false "" "" 56)])) 4 80 [(Value.int IntKind.i64 (0 : Int)), (Value.slice Option.none 0 0), (Value.slice Option.none 0 0), (Value.slice Option.none 0 0)] [(LT.int IntKind.i64), (LT.sl 28 2), (LT.sl 3 1), (LT.sl 3 1)] false)
theorem tt34_ok : ttOf Tryd.prog false 34 = some tt34 := by kernel_rfl
def tt35 : TI := (TI.mk (TypeDesc.struct (Array.mk [(Field.mk "Class" 3 0 false "" "" 0), (Field.mk "Goals" 26 1 false "" "" 8), (Field.mk "Cost" 33 2 false "" "" 32), (Field.mk "Dir" 33 3 false "" "" 56)])) 4 80 [(Value.int IntKind.i64 (0 : Int)), (Value.slice Option.none 0 0), (Value.slice Option.none 0 0), (Value.slice Option.none 0 0)] [(LT.int IntKind.i64), (LT.sl 28 2), (LT.sl 3 1), (LT.sl 3 1)] false)
theorem tt35_ok : ttOf Tryd.prog false 35 = some tt35 := by kernel_rfl
def tt36 : TI := (TI.mk (TypeDesc.int IntKind.i64) 1 8 [(Value.int IntKind.i64 (0 : Int))] [(LT.int IntKind.i64)] false)
theorem tt36_ok : ttOf Tryd.prog false 36 = some tt36 := by kernel_rfl
def tt38 : TI := (TI.mk (TypeDesc.func (Array.mk [24, 25, 3, 26]) (Array.mk [35, 36]) false) 1 8 [Value.nilFunc] [LT.other] false)
theorem tt38_ok : ttOf Tryd.prog false 38 = some tt38 := by kernel_rfl
def tt39 : TI := (TI.mk (TypeDesc.func (Array.mk [35, 35]) (Array.mk [4]) false) 1 8 [Value.nilFunc] [LT.other] false)
theorem tt39_ok : ttOf Tryd.prog false 39 = some tt39 := by kernel_rfl
def tt41 : TI := (TI.mk (TypeDesc.func (Array.mk [35, 24, 28]) (Array.mk [28, 4]) false) 1 8 [Value.nilFunc] [LT.other] false)
theorem tt41_ok : ttOf Tryd.prog false 41 = some tt41 := by kernel_rfl
def tt42 : TI := (TI.mk (TypeDesc.func (Array.mk [26, 26]) (Array.mk [4]) false) 1 8 [Value.nilFunc] [LT.other] false)
theorem tt42_ok : ttOf Tryd.prog false 42 = some tt42 := by kernel_rfl
def tt43 : TI := (TI.mk (TypeDesc.func (Array.mk [35, 24, 28]) (Array.mk [26]) false) 1 8 [Value.nilFunc] [LT.other] false)
theorem tt43_ok : ttOf Tryd.prog false 43 = some tt43 := by kernel_rfl
def tt44 : TI := (TI.mk (TypeDesc.func (Array.mk [35, 24, 28]) (Array.mk [4]) false) 1 8 [Value.nilFunc] [LT.other] false)
theorem tt44_ok : ttOf Tryd.prog false 44 = some tt44 := by kernel_rfl
def tt45 : TI := (TI.mk (TypeDesc.slice 50) 1 24 [(Value.slice Option.none 0 0)] [(LT.sl 50 6)] false)
theorem tt45_ok : ttOf Tryd.prog false 45 = some tt45 := by kernel_rfl
def tt46 : TI := (TI.mk (TypeDesc.func (Array.mk [3, 3, 28]) (Array.mk [4]) false) 1 8 [Value.nilFunc] [LT.other] false)
theorem tt46_ok : ttOf Tryd.prog false 46 = some tt46 := by kernel_rfl
def tt47 : TI := (TI.mk (TypeDesc.struct (Array.mk [(Field.mk "Kind" 3 0 false "" "" 0), (Field.mk "Height" 3 1 false "" "" 8), (Field.mk "Amount" 3 2 false "" "" 16)])) 3 24 [(Value.int IntKind.i64 (0 : Int)), (Value.int IntKind.i64 (0 : Int)), (Value.int IntKind.i64 (0 : Int))] [(LT.int IntKind.i64), (LT.int IntKind.i64), (LT.int IntKind.i64)] true)
theorem tt47_ok : ttOf Tryd.prog true 47 = some tt47 := by kernel_rfl
def tt48 : TI := (TI.mk (TypeDesc.struct (Array.mk [(Field.mk "Kind" 3 0 false "" "" 0), (Field.mk "Height" 3 1 false "" "" 8), (Field.mk "Amount" 3 2 false "" "" 16)])) 3 24 [(Value.int IntKind.i64 (0 : Int)), (Value.int IntKind.i64 (0 : Int)), (Value.int IntKind.i64 (0 : Int))] [(LT.int IntKind.i64), (LT.int IntKind.i64), (LT.int IntKind.i64)] true)
theorem tt48_ok : ttOf Tryd.prog true 48 = some tt48 := by kernel_rfl
def tt49 : TI := (TI.mk (TypeDesc.struct (Array.mk [(Field.mk "At" 28 0 false "" "" 0), (Field.mk "Cell" 48 2 false "" "" 16), (Field.mk "Blocked" 4 5 false "" "" 40)])) 6 48 [(Value.int IntKind.i64 (0 : Int)), (Value.int IntKind.i64 (0 : Int)), (Value.int IntKind.i64 (0 : Int)), (Value.int IntKind.i64 (0 : Int)), (Value.int IntKind.i64 (0 : Int)), (Value.bool false)] [(LT.int IntKind.i64), (LT.int IntKind.i64), (LT.int IntKind.i64), (LT.int IntKind.i64), (LT.int IntKind.i64), LT.bool] true)
theorem tt49_ok : ttOf Tryd.prog true 49 = some tt49 := by kernel_rfl
def tt50 : TI := (TI.mk (TypeDesc.struct (Array.mk [(Field.mk "At" 28 0 false "" "" 0), (Field.mk "Cell" 48 2 false "" "" 16), (Field.mk "Blocked" 4 5 false "" "" 40)])) 6 48 [(Value.int IntKind.i64 (0 : Int)), (Value.int IntKind.i64 (0 : Int)), (Value.int IntKind.i64 (0 : Int)), (Value.int IntKind.i64 (0 : Int)), (Value.int IntKind.i64 (0 : Int)), (Value.bool false)] [(LT.int IntKind.i64), (LT.int IntKind.i64), (LT.int IntKind.i64), (LT.int IntKind.i64), (LT.int IntKind.i64), LT.bool] true)
theorem tt50_ok : ttOf Tryd.prog true 50 = some tt50 := by kernel_rfl
def tt51 : TI := (TI.mk (TypeDesc.func (Array.mk [30, 50]) (Array.mk [30]) false) 1 8 [Value.nilFunc] [LT.other] false)
theorem tt51_ok : ttOf Tryd.prog false 51 = some tt51 := by kernel_rfl
def tt52 : TI := (TI.mk (TypeDesc.func (Array.mk [35, 24, 25, 26]) (Array.mk [35, 36]) false) 1 8 [Value.nilFunc] [LT.other] false)
theorem tt52_ok : ttOf Tryd.prog false 52 = some tt52 := by kernel_rfl
def tt53 : TI := (TI.mk (TypeDesc.func (Array.mk [30, 45, 26]) (Array.mk [4]) false) 1 8 [Value.nilFunc] [LT.other] false)
theorem tt53_ok : ttOf Tryd.prog false 53 = some tt53 := by kernel_rfl
def tt54 : TI := (TI.mk (TypeDesc.func (Array.mk [35, 24, 25]) (Array.mk [4]) false) 1 8 [Value.nilFunc] [LT.other] false)
theorem tt54_ok : ttOf Tryd.prog false 54 = some tt54 := by kernel_rfl
def tt56 : TI := (TI.mk (TypeDesc.func (Array.mk [24, 25, 3, 26]) (Array.mk [3, 36]) false) 1 8 [Value.nilFunc] [LT.other] false)
theorem tt56_ok : ttOf Tryd.prog false 56 = some tt56 := by kernel_rfl
def tt58 : TI := (TI.mk (TypeDesc.func (Array.mk [24, 25, 3, 28, 3]) (Array.mk [3, 4]) false) 1 8 [Value.nilFunc] [LT.other] false)
theorem tt58_ok : ttOf Tryd.prog false 58 = some tt58 := by kernel_rfl
def tt59 : TI := (TI.mk (TypeDesc.func (Array.mk [28, 3]) (Array.mk [28]) false) 1 8 [Value.nilFunc] [LT.other] false)
theorem tt59_ok : ttOf Tryd.prog false 59 = some tt59 := by kernel_rfl
def tt60 : TI := (TI.mk (TypeDesc.func (Array.mk [24]) (Array.mk [4]) false) 1 8 [Value.nilFunc] [LT.other] false)
theorem tt60_ok : ttOf Tryd.prog false 60 = some tt60 := by kernel_rfl
def tt61 : TI := (TI.mk (TypeDesc.pointer 64) 1 8 [(Value.pointer Option.none)] [LT.other] false)
theorem tt61_ok : ttOf Tryd.prog false 61 = some tt61 := by kernel_rfl
def tt62 : TI := (TI.mk (TypeDesc.slice 26) 1 24 [(Value.slice Option.none 0 0)] [(LT.sl 26 1)] false)
theorem tt62_ok : ttOf Tryd.prog false 62 = some tt62 := by kernel_rfl
def tt63 : TI := (TI.mk (TypeDesc.struct (Array.mk [(Field.mk "m" 24 0 false "" "skirmish/flow" 0), (Field.mk "blocked" 25 3 false "" "skirmish/flow" 40), (Field.mk "class" 3 4 false "" "skirmish/flow" 64), (Field.mk "cost" 33 5 false "" "skirmish/flow" 72), (Field.mk "buckets" 62 6 false "" "skirmish/flow" 96)])) 7 120 [(Value.int IntKind.i64 (0 : Int)), (Value.int IntKind.i64 (0 : Int)), (Value.slice Option.none 0 0), (Value.slice Option.none 0 0), (Value.int IntKind.i64 (0 : Int)), (Value.slice Option.none 0 0), (Value.slice Option.none 0 0)] [(LT.int IntKind.i64), (LT.int IntKind.i64), (LT.sl 48 3), (LT.sl 4 1), (LT.int IntKind.i64), (LT.sl 3 1), (LT.sl 26 1)] false)
theorem tt63_ok : ttOf Tryd.prog false 63 = some tt63 := by kernel_rfl
def tt64 : TI := (TI.mk (TypeDesc.struct (Array.mk [(Field.mk "m" 24 0 false "" "skirmish/flow" 0), (Field.mk "blocked" 25 3 false "" "skirmish/flow" 40), (Field.mk "class" 3 4 false "" "skirmish/flow" 64), (Field.mk "cost" 33 5 false "" "skirmish/flow" 72), (Field.mk "buckets" 62 6 false "" "skirmish/flow" 96)])) 7 120 [(Value.int IntKind.i64 (0 : Int)), (Value.int IntKind.i64 (0 : Int)), (Value.slice Option.none 0 0), (Value.slice Option.none 0 0), (Value.int IntKind.i64 (0 : Int)), (Value.slice Option.none 0 0), (Value.slice Option.none 0 0)] [(LT.int IntKind.i64), (LT.int IntKind.i64), (LT.sl 48 3), (LT.sl 4 1), (LT.int IntKind.i64), (LT.sl 3 1), (LT.sl 26 1)] false)
theorem tt64_ok : ttOf Tryd.prog false 64 = some tt64 := by kernel_rfl
def tt65 : TI := (TI.mk (TypeDesc.func (Array.mk [24, 25, 3, 28]) (Array.mk [4]) false) 1 8 [Value.nilFunc] [LT.other] false)
theorem tt65_ok : ttOf Tryd.prog false 65 = some tt65 := by kernel_rfl
def tt66 : TI := (TI.mk (TypeDesc.func (Array.mk [28, 3]) (Array.mk []) false) 1 8 [Value.nilFunc] [LT.other] false)
theorem tt66_ok : ttOf Tryd.prog false 66 = some tt66 := by kernel_rfl
def tt67 : TI := (TI.mk (TypeDesc.func (Array.mk [26]) (Array.mk [26]) false) 1 8 [Value.nilFunc] [LT.other] false)
theorem tt67_ok : ttOf Tryd.prog false 67 = some tt67 := by kernel_rfl
def tt68 : TI := (TI.mk (TypeDesc.func (Array.mk [28]) (Array.mk [3]) false) 1 8 [Value.nilFunc] [LT.other] false)
theorem tt68_ok : ttOf Tryd.prog false 68 = some tt68 := by kernel_rfl
def tt69 : TI := (TI.mk (TypeDesc.func (Array.mk [3, 3]) (Array.mk [28]) false) 1 8 [Value.nilFunc] [LT.other] false)
theorem tt69_ok : ttOf Tryd.prog false 69 = some tt69 := by kernel_rfl
def tt70 : TI := (TI.mk (TypeDesc.func (Array.mk [3]) (Array.mk [4]) false) 1 8 [Value.nilFunc] [LT.other] false)
theorem tt70_ok : ttOf Tryd.prog false 70 = some tt70 := by kernel_rfl
def tt71 : TI := (TI.mk (TypeDesc.func (Array.mk [3]) (Array.mk [33]) false) 1 8 [Value.nilFunc] [LT.other] false)
theorem tt71_ok : ttOf Tryd.prog false 71 = some tt71 := by kernel_rfl
def tt72 : TI := (TI.mk (TypeDesc.func (Array.mk [24, 25, 3, 33]) (Array.mk [33]) false) 1 8 [Value.nilFunc] [LT.other] false)
theorem tt72_ok : ttOf Tryd.prog false 72 = some tt72 := by kernel_rfl
def tt73 : TI := (TI.mk (TypeDesc.func (Array.mk [24, 25, 3, 33, 3]) (Array.mk [3]) false) 1 8 [Value.nilFunc] [LT.other] false)
theorem tt73_ok : ttOf Tryd.prog false 73 = some tt73 := by kernel_rfl
def tt74 : TI := (TI.mk (TypeDesc.func (Array.mk [33, 33]) (Array.mk [4]) false) 1 8 [Value.nilFunc] [LT.other] false)
theorem tt74_ok : ttOf Tryd.prog false 74 = some tt74 := by kernel_rfl
def tt75 : TI := (TI.mk (TypeDesc.func (Array.mk [35, 24]) (Array.mk [4]) false) 1 8 [Value.nilFunc] [LT.other] false)
theorem tt75_ok : ttOf Tryd.prog false 75 = some tt75 := by kernel_rfl
def tt76 : TI := (TI.mk (TypeDesc.func (Array.mk [3, 28]) (Array.mk [3]) false) 1 8 [Value.nilFunc] [LT.other] false)
theorem tt76_ok : ttOf Tryd.prog false 76 = some tt76 := by kernel_rfl
def tt77 : TI := (TI.mk (TypeDesc.func (Array.mk [33]) (Array.mk [33]) false) 1 8 [Value.nilFunc] [LT.other] false)
theorem tt77_ok : ttOf Tryd.prog false 77 = some tt77 := by kernel_rfl
def tt78 : TI := (TI.mk (TypeDesc.func (Array.mk [24, 28]) (Array.mk [4]) false) 1 8 [Value.nilFunc] [LT.other] false)
theorem tt78_ok : ttOf Tryd.prog false 78 = some tt78 := by kernel_rfl
def tt79 : TI := (TI.mk (TypeDesc.func (Array.mk [24, 25, 3, 28, 28]) (Array.mk [3, 4]) false) 1 8 [Value.nilFunc] [LT.other] false)
theorem tt79_ok : ttOf Tryd.prog false 79 = some tt79 := by kernel_rfl
def tt80 : TI := (TI.mk (TypeDesc.func (Array.mk [24, 25, 3, 28, 28]) (Array.mk [4]) false) 1 8 [Value.nilFunc] [LT.other] false)
theorem tt80_ok : ttOf Tryd.prog false 80 = some tt80 := by kernel_rfl
def tt82 : TI := (TI.mk (TypeDesc.func (Array.mk [24, 28]) (Array.mk [48, 4]) false) 1 8 [Value.nilFunc] [LT.other] false)
theorem tt82_ok : ttOf Tryd.prog false 82 = some tt82 := by kernel_rfl
def tt83 : TI := (TI.mk (TypeDesc.func (Array.mk [48, 48]) (Array.mk [3]) false) 1 8 [Value.nilFunc] [LT.other] false)
theorem tt83_ok : ttOf Tryd.prog false 83 = some tt83 := by kernel_rfl
def tt84 : TI := (TI.mk (TypeDesc.func (Array.mk [22, 85]) (Array.mk [4]) false) 1 8 [Value.nilFunc] [LT.other] false)
theorem tt84_ok : ttOf Tryd.prog false 84 = some tt84 := by kernel_rfl
def tt85 : TI := (TI.mk (TypeDesc.func (Array.mk [48]) (Array.mk [4]) false) 1 8 [Value.nilFunc] [LT.other] false)
theorem tt85_ok : ttOf Tryd.prog false 85 = some tt85 := by kernel_rfl
def tt86 : TI := (TI.mk (TypeDesc.func (Array.mk [24, 3, 28]) (Array.mk [4]) false) 1 8 [Value.nilFunc] [LT.other] false)
theorem tt86_ok : ttOf Tryd.prog false 86 = some tt86 := by kernel_rfl
def tt87 : TI := (TI.mk (TypeDesc.func (Array.mk [33, 25]) (Array.mk [3]) false) 1 8 [Value.nilFunc] [LT.other] false)
theorem tt87_ok : ttOf Tryd.prog false 87 = some tt87 := by kernel_rfl
def tt88 : TI := (TI.mk (TypeDesc.func (Array.mk [28]) (Array.mk [28]) false) 1 8 [Value.nilFunc] [LT.other] false)
theorem tt88_ok : ttOf Tryd.prog false 88 = some tt88 := by kernel_rfl
def tt89 : TI := (TI.mk (TypeDesc.func (Array.mk [3]) (Array.mk [3]) false) 1 8 [Value.nilFunc] [LT.other] false)
theorem tt89_ok : ttOf Tryd.prog false 89 = some tt89 := by kernel_rfl
def tt90 : TI := (TI.mk (TypeDesc.func (Array.mk [3]) (Array.mk [28]) false) 1 8 [Value.nilFunc] [LT.other] false)
theorem tt90_ok : ttOf Tryd.prog false 90 = some tt90 := by kernel_rfl
def tt91 : TI := (TI.mk (TypeDesc.func (Array.mk [3, 3]) (Array.mk [4]) false) 1 8 [Value.nilFunc] [LT.other] false)
theorem tt91_ok : ttOf Tryd.prog false 91 = some tt91 := by kernel_rfl
def tt92 : TI := (TI.mk (TypeDesc.func (Array.mk [22, 85]) (Array.mk [3]) false) 1 8 [Value.nilFunc] [LT.other] false)
theorem tt92_ok : ttOf Tryd.prog false 92 = some tt92 := by kernel_rfl
def tt93 : TI := (TI.mk (TypeDesc.array 6 4) 6 6 [(Value.bool false), (Value.bool false), (Value.bool false), (Value.bool false), (Value.bool false), (Value.bool false)] [LT.bool, LT.bool, LT.bool, LT.bool, LT.bool, LT.bool] false)
theorem tt93_ok : ttOf Tryd.prog false 93 = some tt93 := by kernel_rfl
def tt94 : TI := (TI.mk (TypeDesc.array 4 93) 24 24 [(Value.bool false), (Value.bool false), (Value.bool false), (Value.bool false), (Value.bool false), (Value.bool false), (Value.bool false), (Value.bool false), (Value.bool false), (Value.bool false), (Value.bool false), (Value.bool false), (Value.bool false), (Value.bool false), (Value.bool false), (Value.bool false), (Value.bool false), (Value.bool false), (Value.bool false), (Value.bool false), (Value.bool false), (Value.bool false), (Value.bool false), (Value.bool false)] [LT.bool, LT.bool, LT.bool, LT.bool, LT.bool, LT.bool, LT.bool, LT.bool, LT.bool, LT.bool, LT.bool, LT.bool, LT.bool, LT.bool, LT.bool, LT.bool, LT.bool, LT.bool, LT.bool, LT.bool, LT.bool, LT.bool, LT.bool, LT.bool] false)
theorem tt94_ok : ttOf Tryd.prog false 94 = some tt94 := by kernel_rfl
def tt95 : TI := (TI.mk (TypeDesc.array 2 28) 4 32 [(Value.int IntKind.i64 (0 : Int)), (Value.int IntKind.i64 (0 : Int)), (Value.int IntKind.i64 (0 : Int)), (Value.int IntKind.i64 (0 : Int))] [(LT.int IntKind.i64), (LT.int IntKind.i64), (LT.int IntKind.i64), (LT.int IntKind.i64)] false)
theorem tt95_ok : ttOf Tryd.prog false 95 = some tt95 := by kernel_rfl
def tt96 : TI := (TI.mk (TypeDesc.array 8 28) 16 128 [(Value.int IntKind.i64 (0 : Int)), (Value.int IntKind.i64 (0 : Int)), (Value.int IntKind.i64 (0 : Int)), (Value.int IntKind.i64 (0 : Int)), (Value.int IntKind.i64 (0 : Int)), (Value.int IntKind.i64 (0 : Int)), (Value.int IntKind.i64 (0 : Int)), (Value.int IntKind.i64 (0 : Int)), (Value.int IntKind.i64 (0 : Int)), (Value.int IntKind.i64 (0 : Int)), (Value.int IntKind.i64 (0 : Int)), (Value.int IntKind.i64 (0 : Int)), (Value.int IntKind.i64 (0 : Int)), (Value.int IntKind.i64 (0 : Int)), (Value.int IntKind.i64 (0 : Int)), (Value.int IntKind.i64 (0 : Int))] [(LT.int IntKind.i64), (LT.int IntKind.i64), (LT.int IntKind.i64), (LT.int IntKind.i64), (LT.int IntKind.i64), (LT.int IntKind.i64), (LT.int IntKind.i64), (LT.int IntKind.i64), (LT.int IntKind.i64), (LT.int IntKind.i64), (LT.int IntKind.i64), (LT.int IntKind.i64), (LT.int IntKind.i64), (LT.int IntKind.i64), (LT.int IntKind.i64), (LT.int IntKind.i64)] false)
theorem tt96_ok : ttOf Tryd.prog false 96 = some tt96 := by kernel_rfl
def tt97 : TI := (TI.mk (TypeDesc.func (Array.mk []) (Array.mk [96]) false) 1 8 [Value.nilFunc] [LT.other] false)
theorem tt97_ok : ttOf Tryd.prog false 97 = some tt97 := by kernel_rfl
def tt98 : TI := (TI.mk (TypeDesc.func (Array.mk [3, 3, 3]) (Array.mk [3]) false) 1 8 [Value.nilFunc] [LT.other] false)
theorem tt98_ok : ttOf Tryd.prog false 98 = some tt98 := by kernel_rfl
def tt99 : TI := (TI.mk (TypeDesc.func (Array.mk [24, 3, 28, 28]) (Array.mk [4]) false) 1 8 [Value.nilFunc] [LT.other] false)
theorem tt99_ok : ttOf Tryd.prog false 99 = some tt99 := by kernel_rfl
def tt100 : TI := (TI.mk (TypeDesc.func (Array.mk []) (Array.mk [9]) false) 1 8 [Value.nilFunc] [LT.other] false)
theorem tt100_ok : ttOf Tryd.prog false 100 = some tt100 := by kernel_rfl
def tt103 : TI := (TI.mk (TypeDesc.array 0 16) 0 0 [] [] false)
theorem tt103_ok : ttOf Tryd.prog false 103 = some tt103 := by kernel_rfl
def tt106 : TI := (TI.mk (TypeDesc.func (Array.mk []) (Array.mk [3]) false) 1 8 [Value.nilFunc] [LT.other] false)
theorem tt106_ok : ttOf Tryd.prog false 106 = some tt106 := by kernel_rfl
def tt107 : TI := (TI.mk (TypeDesc.int IntKind.u32) 1 4 [(Value.int IntKind.u32 (0 : Int))] [(LT.int IntKind.u32)] false)
theorem tt107_ok : ttOf Tryd.prog false 107 = some tt107 := by kernel_rfl
def tt108 : TI := (TI.mk (TypeDesc.int IntKind.u8) 1 1 [(Value.int IntKind.u8 (0 : Int))] [(LT.int IntKind.u8)] false)
theorem tt108_ok : ttOf Tryd.prog false 108 = some tt108 := by kernel_rfl
def tt109 : TI := (TI.mk (TypeDesc.int IntKind.u8) 1 1 [(Value.int IntKind.u8 (0 : Int))] [(LT.int IntKind.u8)] false)
theorem tt109_ok : ttOf Tryd.prog false 109 = some tt109 := by kernel_rfl
def tt110 : TI := (TI.mk (TypeDesc.func (Array.mk [116, 116]) (Array.mk [4]) false) 1 8 [Value.nilFunc] [LT.other] false)
theorem tt110_ok : ttOf Tryd.prog false 110 = some tt110 := by kernel_rfl
def tt111 : TI := (TI.mk (TypeDesc.pointer 5) 1 8 [(Value.pointer Option.none)] [LT.other] false)
theorem tt111_ok : ttOf Tryd.prog false 111 = some tt111 := by kernel_rfl
def tt112 : TI := (TI.mk (TypeDesc.int IntKind.i32) 1 4 [(Value.int IntKind.i32 (0 : Int))] [(LT.int IntKind.i32)] false)
theorem tt112_ok : ttOf Tryd.prog false 112 = some tt112 := by kernel_rfl
def tt113 : TI := (TI.mk (TypeDesc.int IntKind.i32) 1 4 [(Value.int IntKind.i32 (0 : Int))] [(LT.int IntKind.i32)] false)
theorem tt113_ok : ttOf Tryd.prog false 113 = some tt113 := by kernel_rfl
def tt114 : TI := (TI.mk (TypeDesc.struct (Array.mk [(Field.mk "Size_" 12 0 false "" "" 0), (Field.mk "PtrBytes" 12 1 false "" "" 8), (Field.mk "Hash" 107 2 false "" "" 16), (Field.mk "TFlag" 108 3 false "" "" 20), (Field.mk "Align_" 5 4 false "" "" 21), (Field.mk "FieldAlign_" 5 5 false "" "" 22), (Field.mk "Kind_" 109 6 false "" "" 23), (Field.mk "Equal" 110 7 false "" "" 24), (Field.mk "GCData" 111 8 false "" "" 32), (Field.mk "Str" 112 9 false "" "" 40), (Field.mk "PtrToThis" 113 10 false "" "" 44)])) 11 48 [(Value.int IntKind.u64 (0 : Int)), (Value.int IntKind.u64 (0 : Int)), (Value.int IntKind.u32 (0 : Int)), (Value.int IntKind.u8 (0 : Int)), (Value.int IntKind.u8 (0 : Int)), (Value.int IntKind.u8 (0 : Int)), (Value.int IntKind.u8 (0 : Int)), Value.nilFunc, (Value.pointer Option.none), (Value.int IntKind.i32 (0 : Int)), (Value.int IntKind.i32 (0 : Int))] [(LT.int IntKind.u64), (LT.int IntKind.u64), (LT.int IntKind.u32), (LT.int IntKind.u8), (LT.int IntKind.u8), (LT.int IntKind.u8), (LT.int IntKind.u8), LT.other, LT.other, (LT.int IntKind.i32), (LT.int IntKind.i32)] false)
theorem tt114_ok : ttOf Tryd.prog false 114 = some tt114 := by kernel_rfl
def tt115 : TI := (TI.mk (TypeDesc.struct (Array.mk [(Field.mk "Size_" 12 0 false "" "" 0), (Field.mk "PtrBytes" 12 1 false "" "" 8), (Field.mk "Hash" 107 2 false "" "" 16), (Field.mk "TFlag" 108 3 false "" "" 20), (Field.mk "Align_" 5 4 false "" "" 21), (Field.mk "FieldAlign_" 5 5 false "" "" 22), (Field.mk "Kind_" 109 6 false "" "" 23), (Field.mk "Equal" 110 7 false "" "" 24), (Field.mk "GCData" 111 8 false "" "" 32), (Field.mk "Str" 112 9 false "" "" 40), (Field.mk "PtrToThis" 113 10 false "" "" 44)])) 11 48 [(Value.int IntKind.u64 (0 : Int)), (Value.int IntKind.u64 (0 : Int)), (Value.int IntKind.u32 (0 : Int)), (Value.int IntKind.u8 (0 : Int)), (Value.int IntKind.u8 (0 : Int)), (Value.int IntKind.u8 (0 : Int)), (Value.int IntKind.u8 (0 : Int)), Value.nilFunc, (Value.pointer Option.none), (Value.int IntKind.i32 (0 : Int)), (Value.int IntKind.i32 (0 : Int))] [(LT.int IntKind.u64), (LT.int IntKind.u64), (LT.int IntKind.u32), (LT.int IntKind.u8), (LT.int IntKind.u8), (LT.int IntKind.u8), (LT.int IntKind.u8), LT.other, LT.other, (LT.int IntKind.i32), (LT.int IntKind.i32)] false)
theorem tt115_ok : ttOf Tryd.prog false 115 = some tt115 := by kernel_rfl
def tts : List (Nat × TI) := [(1, tt1), (2, tt2), (3, tt3), (4, tt4), (5, tt5), (6, tt6), (9, tt9), (10, tt10), (11, tt11), (12, tt12), (15, tt15), (16, tt16), (17, tt17), (21, tt21), (22, tt22), (23, tt23), (24, tt24), (25, tt25), (26, tt26), (27, tt27), (28, tt28), (29, tt29), (30, tt30), (31, tt31), (32, tt32), (33, tt33), (34, tt34), (35, tt35), (36, tt36), (38, tt38), (39, tt39), (41, tt41), (42, tt42), (43, tt43), (44, tt44), (45, tt45), (46, tt46), (47, tt47), (48, tt48), (49, tt49), (50, tt50), (51, tt51), (52, tt52), (53, tt53), (54, tt54), (56, tt56), (58, tt58), (59, tt59), (60, tt60), (61, tt61), (62, tt62), (63, tt63), (64, tt64), (65, tt65), (66, tt66), (67, tt67), (68, tt68), (69, tt69), (70, tt70), (71, tt71), (72, tt72), (73, tt73), (74, tt74), (75, tt75), (76, tt76), (77, tt77), (78, tt78), (79, tt79), (80, tt80), (82, tt82), (83, tt83), (84, tt84), (85, tt85), (86, tt86), (87, tt87), (88, tt88), (89, tt89), (90, tt90), (91, tt91), (92, tt92), (93, tt93), (94, tt94), (95, tt95), (96, tt96), (97, tt97), (98, tt98), (99, tt99), (100, tt100), (103, tt103), (106, tt106), (107, tt107), (108, tt108), (109, tt109), (110, tt110), (111, tt111), (112, tt112), (113, tt113), (114, tt114), (115, tt115)]
theorem tts_ok : TabOk Tryd.prog tts := (.cons false tt1_ok (.cons false tt2_ok (.cons false tt3_ok (.cons false tt4_ok (.cons false tt5_ok (.cons false tt6_ok (.cons false tt9_ok (.cons false tt10_ok (.cons false tt11_ok (.cons false tt12_ok (.cons false tt15_ok (.cons false tt16_ok (.cons false tt17_ok (.cons false tt21_ok (.cons false tt22_ok (.cons false tt23_ok (.cons false tt24_ok (.cons false tt25_ok (.cons false tt26_ok (.cons true tt27_ok (.cons true tt28_ok (.cons false tt29_ok (.cons false tt30_ok (.cons false tt31_ok (.cons false tt32_ok (.cons false tt33_ok (.cons false tt34_ok (.cons false tt35_ok (.cons false tt36_ok (.cons false tt38_ok (.cons false tt39_ok (.cons false tt41_ok (.cons false tt42_ok (.cons false tt43_ok (.cons false tt44_ok (.cons false tt45_ok (.cons false tt46_ok (.cons true tt47_ok (.cons true tt48_ok (.cons true tt49_ok (.cons true tt50_ok (.cons false tt51_ok (.cons false tt52_ok (.cons false tt53_ok (.cons false tt54_ok (.cons false tt56_ok (.cons false tt58_ok (.cons false tt59_ok (.cons false tt60_ok (.cons false tt61_ok (.cons false tt62_ok (.cons false tt63_ok (.cons false tt64_ok (.cons false tt65_ok (.cons false tt66_ok (.cons false tt67_ok (.cons false tt68_ok (.cons false tt69_ok (.cons false tt70_ok (.cons false tt71_ok (.cons false tt72_ok (.cons false tt73_ok (.cons false tt74_ok (.cons false tt75_ok (.cons false tt76_ok (.cons false tt77_ok (.cons false tt78_ok (.cons false tt79_ok (.cons false tt80_ok (.cons false tt82_ok (.cons false tt83_ok (.cons false tt84_ok (.cons false tt85_ok (.cons false tt86_ok (.cons false tt87_ok (.cons false tt88_ok (.cons false tt89_ok (.cons false tt90_ok (.cons false tt91_ok (.cons false tt92_ok (.cons false tt93_ok (.cons false tt94_ok (.cons false tt95_ok (.cons false tt96_ok (.cons false tt97_ok (.cons false tt98_ok (.cons false tt99_ok (.cons false tt100_ok (.cons false tt103_ok (.cons false tt106_ok (.cons false tt107_ok (.cons false tt108_ok (.cons false tt109_ok (.cons false tt110_ok (.cons false tt111_ok (.cons false tt112_ok (.cons false tt113_ok (.cons false tt114_ok (.cons false tt115_ok .nil)))))))))))))))))))))))))))))))))))))))))))))))))))))))))))))))))))))))))))))))))))))))))))))))))))
def TT : TypeId → Option TI := tabTT tts
theorem TT_ok : TOk Tryd.prog TT := tabTT_ok tts_ok
def TU : TypeId → Option (List TypeId) := tabTU [(37, [35, 36]), (40, [28, 4]), (55, [3, 36]), (57, [3, 4]), (81, [48, 4])]

def ownF : FuncId → Bool := fun _ => false
def ownRo : FuncId → Bool := fun f => Nat.ble roTag f && Nat.blt f ownTag
def ownE : FuncId → Bool := fun f => Nat.ble ownTag f && Nat.blt f handTag
def ownRE : FuncId → Bool := fun f => Nat.ble roTag f && Nat.blt f handTag
def ownFH : FuncId → Bool := fun f => Nat.ble handTag f
def ownRoH : FuncId → Bool := fun f => (Nat.ble roTag f && Nat.blt f ownTag) || Nat.ble handTag f
def ownEH : FuncId → Bool := fun f => Nat.ble ownTag f
def ownREH : FuncId → Bool := fun f => Nat.ble roTag f
def passL : List AVal := [bo false, bo false, bo false, bo false, bo false, bo false, bo false, bo true, bo false, bo false, bo false, bo true, bo false, bo true, bo true, bo false, bo false, bo true, bo false, bo true, bo true, bo true, bo true, bo true]
def GL0 : Nat → Option (List AVal) := fun g => bif Nat.beq g 0 then some passL else none
def ownES : FuncId → Bool := fun f => ownE f || Nat.beq f (snapTag + 24)
theorem mixed : Tryd.prog.follows .mixedOrders = true := by kernel_rfl
theorem libnone : Lib Tryd.prog GL0 noC := Lib.none
def Cnone := noC
end Go.Proofs.YteiniiakpdijmaaDoor.AI
