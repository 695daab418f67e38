/- The types of this seat's program, told as a table (printed by wip/tool2/Ev.lean). -/
import Derived.Test.YtoiimiohobollaaGreatHA2
import Derived.Test.YtoiimiohobollaaGreatProg
namespace Go.Proofs.YtoiimiohobollaaGreat.AI
open Go.RowKit
@[reducible] def vI : Value := Value.int IntKind.i64 (0 : Int)
@[reducible] def lI : LT := LT.int IntKind.i64
@[reducible] def vS : Value := Value.slice Option.none 0 0
@[reducible] def vT : Value := Value.string (ByteArray.mk (Array.mk []))
@[reducible] def fd (n : String) (a b c : Nat) : Field := Field.mk n a b false "" "" c
def tt2 : TI := (TI.mk (TypeDesc.int IntKind.i64) 1 8 [vI] [lI] false)
theorem tt2_ok : ttOf Tryz.prog false 2 = some tt2 := by kernel_rfl
def tt3 : TI := (TI.mk (TypeDesc.int IntKind.i64) 1 8 [vI] [lI] false)
theorem tt3_ok : ttOf Tryz.prog false 3 = some tt3 := by kernel_rfl
def tt4 : TI := (TI.mk TypeDesc.bool 1 1 [(Value.bool false)] [LT.bool] false)
theorem tt4_ok : ttOf Tryz.prog false 4 = some tt4 := by kernel_rfl
def tt5 : TI := (TI.mk (TypeDesc.int IntKind.u8) 1 1 [(Value.int IntKind.u8 (0 : Int))] [(LT.int IntKind.u8)] false)
theorem tt5_ok : ttOf Tryz.prog false 5 = some tt5 := by kernel_rfl
def tt6 : TI := (TI.mk (TypeDesc.int IntKind.u8) 1 1 [(Value.int IntKind.u8 (0 : Int))] [(LT.int IntKind.u8)] false)
theorem tt6_ok : ttOf Tryz.prog false 6 = some tt6 := by kernel_rfl
def tt9 : TI := (TI.mk TypeDesc.string 1 16 [vT] [LT.str] false)
theorem tt9_ok : ttOf Tryz.prog false 9 = some tt9 := by kernel_rfl
def tt10 : TI := (TI.mk TypeDesc.string 1 16 [vT] [LT.str] false)
theorem tt10_ok : ttOf Tryz.prog false 10 = some tt10 := by kernel_rfl
def tt11 : TI := (TI.mk TypeDesc.string 1 16 [vT] [LT.str] false)
theorem tt11_ok : ttOf Tryz.prog false 11 = some tt11 := by kernel_rfl
def tt12 : TI := (TI.mk (TypeDesc.int IntKind.u64) 1 8 [(Value.int IntKind.u64 (0 : Int))] [(LT.int IntKind.u64)] false)
theorem tt12_ok : ttOf Tryz.prog false 12 = some tt12 := by kernel_rfl
def tt21 : TI := (TI.mk (TypeDesc.int IntKind.i32) 1 4 [(Value.int IntKind.i32 (0 : Int))] [(LT.int IntKind.i32)] false)
theorem tt21_ok : ttOf Tryz.prog false 21 = some tt21 := by kernel_rfl
def tt22 : TI := (TI.mk (TypeDesc.int IntKind.u64) 1 8 [(Value.int IntKind.u64 (0 : Int))] [(LT.int IntKind.u64)] false)
theorem tt22_ok : ttOf Tryz.prog false 22 = some tt22 := by kernel_rfl
def tt23 : TI := (TI.mk (TypeDesc.slice 65) 1 24 [vS] [(LT.sl 65 19)] false)
theorem tt23_ok : ttOf Tryz.prog false 23 = some tt23 := by kernel_rfl
def tt24 : TI := (TI.mk (TypeDesc.slice 96) 1 24 [vS] [(LT.sl 96 6)] false)
theorem tt24_ok : ttOf Tryz.prog false 24 = some tt24 := by kernel_rfl
def tt25 : TI := (TI.mk (TypeDesc.slice 98) 1 24 [vS] [(LT.sl 98 8)] false)
theorem tt25_ok : ttOf Tryz.prog false 25 = some tt25 := by kernel_rfl
def tt26 : TI := (TI.mk (TypeDesc.struct (Array.mk [(fd "Units" 23 0 0), (fd "Weapons" 24 1 24), (fd "Techs" 25 2 48)])) 3 72 [vS, vS, vS] [(LT.sl 65 19), (LT.sl 96 6), (LT.sl 98 8)] false)
theorem tt26_ok : ttOf Tryz.prog false 26 = some tt26 := by kernel_rfl
def tt27 : TI := (TI.mk (TypeDesc.struct (Array.mk [(fd "Units" 23 0 0), (fd "Weapons" 24 1 24), (fd "Techs" 25 2 48)])) 3 72 [vS, vS, vS] [(LT.sl 65 19), (LT.sl 96 6), (LT.sl 98 8)] false)
theorem tt27_ok : ttOf Tryz.prog false 27 = some tt27 := by kernel_rfl
def tt28 : TI := (TI.mk (TypeDesc.slice 54) 1 24 [vS] [(LT.sl 54 3)] false)
theorem tt28_ok : ttOf Tryz.prog false 28 = some tt28 := by kernel_rfl
def tt29 : TI := (TI.mk (TypeDesc.struct (Array.mk [(fd "W" 3 0 0), (fd "H" 3 1 8), (fd "Cells" 28 2 16)])) 3 40 [vI, vI, vS] [lI, lI, (LT.sl 54 3)] false)
theorem tt29_ok : ttOf Tryz.prog false 29 = some tt29 := by kernel_rfl
def tt30 : TI := (TI.mk (TypeDesc.struct (Array.mk [(fd "W" 3 0 0), (fd "H" 3 1 8), (fd "Cells" 28 2 16)])) 3 40 [vI, vI, vS] [lI, lI, (LT.sl 54 3)] false)
theorem tt30_ok : ttOf Tryz.prog false 30 = some tt30 := by kernel_rfl
def tt31 : TI := (TI.mk (TypeDesc.slice 70) 1 24 [vS] [(LT.sl 70 6)] false)
theorem tt31_ok : ttOf Tryz.prog false 31 = some tt31 := by kernel_rfl
def tt32 : TI := (TI.mk (TypeDesc.slice 60) 1 24 [vS] [(LT.sl 60 12)] false)
theorem tt32_ok : ttOf Tryz.prog false 32 = some tt32 := by kernel_rfl
def tt33 : TI := (TI.mk (TypeDesc.slice 75) 1 24 [vS] [(LT.sl 75 9)] false)
theorem tt33_ok : ttOf Tryz.prog false 33 = some tt33 := by kernel_rfl
def tt34 : TI := (TI.mk (TypeDesc.slice 116) 1 24 [vS] [(LT.sl 116 3)] false)
theorem tt34_ok : ttOf Tryz.prog false 34 = some tt34 := by kernel_rfl
def tt35 : TI := (TI.mk (TypeDesc.slice 125) 1 24 [vS] [(LT.sl 125 4)] false)
theorem tt35_ok : ttOf Tryz.prog false 35 = some tt35 := by kernel_rfl
def tt36 : TI := (TI.mk (TypeDesc.struct (Array.mk [(fd "Turn" 3 0 0), (fd "NextId" 3 1 8), (fd "Winner" 3 2 16), (fd "Paused" 4 3 24), (fd "Rng" 22 4 32), (fd "Rules" 27 5 40), (fd "Map" 30 8 112), (fd "Players" 31 11 152), (fd "Units" 32 12 176), (fd "Shots" 33 13 200), (fd "Memories" 34 14 224), (fd "Scripts" 35 15 248)])) 16 272 [vI, vI, vI, (Value.bool false), (Value.int IntKind.u64 (0 : Int)), vS, vS, vS, vI, vI, vS, vS, vS, vS, vS, vS] [lI, lI, lI, LT.bool, (LT.int IntKind.u64), (LT.sl 65 19), (LT.sl 96 6), (LT.sl 98 8), lI, lI, (LT.sl 54 3), (LT.sl 70 6), (LT.sl 60 12), (LT.sl 75 9), (LT.sl 116 3), (LT.sl 125 4)] false)
theorem tt36_ok : ttOf Tryz.prog false 36 = some tt36 := by kernel_rfl
def tt37 : TI := (TI.mk (TypeDesc.struct (Array.mk [(fd "Turn" 3 0 0), (fd "NextId" 3 1 8), (fd "Winner" 3 2 16), (fd "Paused" 4 3 24), (fd "Rng" 22 4 32), (fd "Rules" 27 5 40), (fd "Map" 30 8 112), (fd "Players" 31 11 152), (fd "Units" 32 12 176), (fd "Shots" 33 13 200), (fd "Memories" 34 14 224), (fd "Scripts" 35 15 248)])) 16 272 [vI, vI, vI, (Value.bool false), (Value.int IntKind.u64 (0 : Int)), vS, vS, vS, vI, vI, vS, vS, vS, vS, vS, vS] [lI, lI, lI, LT.bool, (LT.int IntKind.u64), (LT.sl 65 19), (LT.sl 96 6), (LT.sl 98 8), lI, lI, (LT.sl 54 3), (LT.sl 70 6), (LT.sl 60 12), (LT.sl 75 9), (LT.sl 116 3), (LT.sl 125 4)] false)
theorem tt37_ok : ttOf Tryz.prog false 37 = some tt37 := by kernel_rfl
def tt38 : TI := (TI.mk (TypeDesc.struct (Array.mk [(fd "Player" 3 0 0), (fd "Ore" 3 1 8), (fd "Wood" 3 2 16)])) 3 24 [vI, vI, vI] [lI, lI, lI] true)
theorem tt38_ok : ttOf Tryz.prog true 38 = some tt38 := by kernel_rfl
def tt39 : TI := (TI.mk (TypeDesc.struct (Array.mk [(fd "Player" 3 0 0), (fd "Ore" 3 1 8), (fd "Wood" 3 2 16)])) 3 24 [vI, vI, vI] [lI, lI, lI] true)
theorem tt39_ok : ttOf Tryz.prog true 39 = some tt39 := by kernel_rfl
def tt42 : TI := (TI.mk (TypeDesc.int IntKind.i64) 1 8 [vI] [lI] false)
theorem tt42_ok : ttOf Tryz.prog false 42 = some tt42 := by kernel_rfl
def tt53 : TI := (TI.mk (TypeDesc.struct (Array.mk [(fd "Kind" 3 0 0), (fd "Height" 3 1 8), (fd "Amount" 3 2 16)])) 3 24 [vI, vI, vI] [lI, lI, lI] true)
theorem tt53_ok : ttOf Tryz.prog true 53 = some tt53 := by kernel_rfl
def tt54 : TI := (TI.mk (TypeDesc.struct (Array.mk [(fd "Kind" 3 0 0), (fd "Height" 3 1 8), (fd "Amount" 3 2 16)])) 3 24 [vI, vI, vI] [lI, lI, lI] true)
theorem tt54_ok : ttOf Tryz.prog true 54 = some tt54 := by kernel_rfl
def tt55 : TI := (TI.mk (TypeDesc.struct (Array.mk [(fd "X" 3 0 0), (fd "Y" 3 1 8)])) 2 16 [vI, vI] [lI, lI] true)
theorem tt55_ok : ttOf Tryz.prog true 55 = some tt55 := by kernel_rfl
def tt56 : TI := (TI.mk (TypeDesc.struct (Array.mk [(fd "X" 3 0 0), (fd "Y" 3 1 8)])) 2 16 [vI, vI] [lI, lI] true)
theorem tt56_ok : ttOf Tryz.prog true 56 = some tt56 := by kernel_rfl
def tt57 : TI := (TI.mk (TypeDesc.slice 104) 1 24 [vS] [(LT.sl 104 5)] false)
theorem tt57_ok : ttOf Tryz.prog false 57 = some tt57 := by kernel_rfl
def tt58 : TI := (TI.mk (TypeDesc.slice 163) 1 24 [vS] [(LT.sl 163 3)] false)
theorem tt58_ok : ttOf Tryz.prog false 58 = some tt58 := by kernel_rfl
def tt59 : TI := (TI.mk (TypeDesc.struct (Array.mk [(fd "Id" 3 0 0), (fd "Owner" 3 1 8), (fd "Type" 9 2 16), (fd "At" 56 3 32), (fd "Hp" 3 5 48), (fd "Cool" 3 6 56), (fd "Left" 3 7 64), (fd "Ore" 3 8 72), (fd "Wood" 3 9 80), (fd "Orders" 57 10 88), (fd "Jobs" 58 11 112)])) 12 136 [vI, vI, vT, vI, vI, vI, vI, vI, vI, vI, vS, vS] [lI, lI, LT.str, lI, lI, lI, lI, lI, lI, lI, (LT.sl 104 5), (LT.sl 163 3)] false)
theorem tt59_ok : ttOf Tryz.prog false 59 = some tt59 := by kernel_rfl
def tt60 : TI := (TI.mk (TypeDesc.struct (Array.mk [(fd "Id" 3 0 0), (fd "Owner" 3 1 8), (fd "Type" 9 2 16), (fd "At" 56 3 32), (fd "Hp" 3 5 48), (fd "Cool" 3 6 56), (fd "Left" 3 7 64), (fd "Ore" 3 8 72), (fd "Wood" 3 9 80), (fd "Orders" 57 10 88), (fd "Jobs" 58 11 112)])) 12 136 [vI, vI, vT, vI, vI, vI, vI, vI, vI, vI, vS, vS] [lI, lI, LT.str, lI, lI, lI, lI, lI, lI, lI, (LT.sl 104 5), (LT.sl 163 3)] false)
theorem tt60_ok : ttOf Tryz.prog false 60 = some tt60 := by kernel_rfl
def tt63 : TI := (TI.mk (TypeDesc.slice 9) 1 24 [vS] [(LT.sl 9 1)] false)
theorem tt63_ok : ttOf Tryz.prog false 63 = some tt63 := by kernel_rfl
def tt64 : TI := (TI.mk (TypeDesc.struct (Array.mk [(fd "Name" 9 0 0), (fd "Building" 4 1 16), (fd "Depot" 4 2 17), (fd "Class" 3 3 24), (fd "W" 3 4 32), (fd "H" 3 5 40), (fd "Radius" 3 6 48), (fd "Speed" 3 7 56), (fd "Sight" 3 8 64), (fd "Hp" 3 9 72), (fd "Armor" 3 10 80), (fd "Load" 3 11 88), (fd "Weapon" 9 12 96), (fd "Ore" 3 13 112), (fd "Wood" 3 14 120), (fd "Time" 3 15 128), (fd "Needs" 63 16 136), (fd "Trains" 63 17 160), (fd "Researches" 63 18 184)])) 19 208 [vT, (Value.bool false), (Value.bool false), vI, vI, vI, vI, vI, vI, vI, vI, vI, vT, vI, vI, vI, vS, vS, vS] [LT.str, LT.bool, LT.bool, lI, lI, lI, lI, lI, lI, lI, lI, lI, LT.str, lI, lI, lI, (LT.sl 9 1), (LT.sl 9 1), (LT.sl 9 1)] false)
theorem tt64_ok : ttOf Tryz.prog false 64 = some tt64 := by kernel_rfl
def tt65 : TI := (TI.mk (TypeDesc.struct (Array.mk [(fd "Name" 9 0 0), (fd "Building" 4 1 16), (fd "Depot" 4 2 17), (fd "Class" 3 3 24), (fd "W" 3 4 32), (fd "H" 3 5 40), (fd "Radius" 3 6 48), (fd "Speed" 3 7 56), (fd "Sight" 3 8 64), (fd "Hp" 3 9 72), (fd "Armor" 3 10 80), (fd "Load" 3 11 88), (fd "Weapon" 9 12 96), (fd "Ore" 3 13 112), (fd "Wood" 3 14 120), (fd "Time" 3 15 128), (fd "Needs" 63 16 136), (fd "Trains" 63 17 160), (fd "Researches" 63 18 184)])) 19 208 [vT, (Value.bool false), (Value.bool false), vI, vI, vI, vI, vI, vI, vI, vI, vI, vT, vI, vI, vI, vS, vS, vS] [LT.str, LT.bool, LT.bool, lI, lI, lI, lI, lI, lI, lI, lI, lI, LT.str, lI, lI, lI, (LT.sl 9 1), (LT.sl 9 1), (LT.sl 9 1)] false)
theorem tt65_ok : ttOf Tryz.prog false 65 = some tt65 := by kernel_rfl
def tt69 : TI := (TI.mk (TypeDesc.struct (Array.mk [(fd "Id" 3 0 0), (fd "Team" 3 1 8), (fd "Ore" 3 2 16), (fd "Wood" 3 3 24), (fd "Techs" 63 4 32), (fd "Out" 4 5 56)])) 6 64 [vI, vI, vI, vI, vS, (Value.bool false)] [lI, lI, lI, lI, (LT.sl 9 1), LT.bool] false)
theorem tt69_ok : ttOf Tryz.prog false 69 = some tt69 := by kernel_rfl
def tt70 : TI := (TI.mk (TypeDesc.struct (Array.mk [(fd "Id" 3 0 0), (fd "Team" 3 1 8), (fd "Ore" 3 2 16), (fd "Wood" 3 3 24), (fd "Techs" 63 4 32), (fd "Out" 4 5 56)])) 6 64 [vI, vI, vI, vI, vS, (Value.bool false)] [lI, lI, lI, lI, (LT.sl 9 1), LT.bool] false)
theorem tt70_ok : ttOf Tryz.prog false 70 = some tt70 := by kernel_rfl
def tt74 : TI := (TI.mk (TypeDesc.struct (Array.mk [(fd "Owner" 3 0 0), (fd "Target" 3 1 8), (fd "Left" 3 2 16), (fd "Weapon" 9 3 24), (fd "Damage" 3 4 40), (fd "At" 56 5 48), (fd "To" 56 7 64)])) 9 80 [vI, vI, vI, vT, vI, vI, vI, vI, vI] [lI, lI, lI, LT.str, lI, lI, lI, lI, lI] true)
theorem tt74_ok : ttOf Tryz.prog true 74 = some tt74 := by kernel_rfl
def tt75 : TI := (TI.mk (TypeDesc.struct (Array.mk [(fd "Owner" 3 0 0), (fd "Target" 3 1 8), (fd "Left" 3 2 16), (fd "Weapon" 9 3 24), (fd "Damage" 3 4 40), (fd "At" 56 5 48), (fd "To" 56 7 64)])) 9 80 [vI, vI, vI, vT, vI, vI, vI, vI, vI] [lI, lI, lI, LT.str, lI, lI, lI, lI, lI] true)
theorem tt75_ok : ttOf Tryz.prog true 75 = some tt75 := by kernel_rfl
def tt84 : TI := (TI.mk (TypeDesc.struct (Array.mk [(Field.mk "ore" 3 0 false "" "skirmish/economy" 0), (Field.mk "wood" 3 1 false "" "skirmish/economy" 8)])) 2 16 [vI, vI] [lI, lI] true)
theorem tt84_ok : ttOf Tryz.prog true 84 = some tt84 := by kernel_rfl
def tt85 : TI := (TI.mk (TypeDesc.struct (Array.mk [(Field.mk "ore" 3 0 false "" "skirmish/economy" 0), (Field.mk "wood" 3 1 false "" "skirmish/economy" 8)])) 2 16 [vI, vI] [lI, lI] true)
theorem tt85_ok : ttOf Tryz.prog true 85 = some tt85 := by kernel_rfl
def tt95 : TI := (TI.mk (TypeDesc.struct (Array.mk [(fd "Name" 9 0 0), (fd "Range" 3 1 16), (fd "Damage" 3 2 24), (fd "Cool" 3 3 32), (fd "Speed" 3 4 40), (fd "Splash" 3 5 48)])) 6 56 [vT, vI, vI, vI, vI, vI] [LT.str, lI, lI, lI, lI, lI] true)
theorem tt95_ok : ttOf Tryz.prog true 95 = some tt95 := by kernel_rfl
def tt96 : TI := (TI.mk (TypeDesc.struct (Array.mk [(fd "Name" 9 0 0), (fd "Range" 3 1 16), (fd "Damage" 3 2 24), (fd "Cool" 3 3 32), (fd "Speed" 3 4 40), (fd "Splash" 3 5 48)])) 6 56 [vT, vI, vI, vI, vI, vI] [LT.str, lI, lI, lI, lI, lI] true)
theorem tt96_ok : ttOf Tryz.prog true 96 = some tt96 := by kernel_rfl
def tt97 : TI := (TI.mk (TypeDesc.struct (Array.mk [(fd "Name" 9 0 0), (fd "Needs" 63 1 16), (fd "Ore" 3 2 40), (fd "Wood" 3 3 48), (fd "Time" 3 4 56), (fd "Unit" 9 5 64), (fd "Stat" 3 6 80), (fd "Amount" 3 7 88)])) 8 96 [vT, vS, vI, vI, vI, vT, vI, vI] [LT.str, (LT.sl 9 1), lI, lI, lI, LT.str, lI, lI] false)
theorem tt97_ok : ttOf Tryz.prog false 97 = some tt97 := by kernel_rfl
def tt98 : TI := (TI.mk (TypeDesc.struct (Array.mk [(fd "Name" 9 0 0), (fd "Needs" 63 1 16), (fd "Ore" 3 2 40), (fd "Wood" 3 3 48), (fd "Time" 3 4 56), (fd "Unit" 9 5 64), (fd "Stat" 3 6 80), (fd "Amount" 3 7 88)])) 8 96 [vT, vS, vI, vI, vI, vT, vI, vI] [LT.str, (LT.sl 9 1), lI, lI, lI, LT.str, lI, lI] false)
theorem tt98_ok : ttOf Tryz.prog false 98 = some tt98 := by kernel_rfl
def tt103 : TI := (TI.mk (TypeDesc.struct (Array.mk [(fd "Kind" 3 0 0), (fd "At" 56 1 8), (fd "Target" 3 3 24), (fd "Name" 9 4 32)])) 5 48 [vI, vI, vI, vI, vT] [lI, lI, lI, lI, LT.str] true)
theorem tt103_ok : ttOf Tryz.prog true 103 = some tt103 := by kernel_rfl
def tt104 : TI := (TI.mk (TypeDesc.struct (Array.mk [(fd "Kind" 3 0 0), (fd "At" 56 1 8), (fd "Target" 3 3 24), (fd "Name" 9 4 32)])) 5 48 [vI, vI, vI, vI, vT] [lI, lI, lI, lI, LT.str] true)
theorem tt104_ok : ttOf Tryz.prog true 104 = some tt104 := by kernel_rfl
def tt113 : TI := (TI.mk (TypeDesc.slice 4) 1 24 [vS] [(LT.sl 4 1)] false)
theorem tt113_ok : ttOf Tryz.prog false 113 = some tt113 := by kernel_rfl
def tt114 : TI := (TI.mk (TypeDesc.slice 166) 1 24 [vS] [(LT.sl 166 6)] false)
theorem tt114_ok : ttOf Tryz.prog false 114 = some tt114 := by kernel_rfl
def tt115 : TI := (TI.mk (TypeDesc.struct (Array.mk [(fd "Player" 3 0 0), (fd "Explored" 113 1 8), (fd "Seen" 114 2 32)])) 3 56 [vI, vS, vS] [lI, (LT.sl 4 1), (LT.sl 166 6)] false)
theorem tt115_ok : ttOf Tryz.prog false 115 = some tt115 := by kernel_rfl
def tt116 : TI := (TI.mk (TypeDesc.struct (Array.mk [(fd "Player" 3 0 0), (fd "Explored" 113 1 8), (fd "Seen" 114 2 32)])) 3 56 [vI, vS, vS] [lI, (LT.sl 4 1), (LT.sl 166 6)] false)
theorem tt116_ok : ttOf Tryz.prog false 116 = some tt116 := by kernel_rfl
def tt119 : TI := (TI.mk (TypeDesc.slice 168) 1 24 [vS] [(LT.sl 168 3)] false)
theorem tt119_ok : ttOf Tryz.prog false 119 = some tt119 := by kernel_rfl
def tt120 : TI := (TI.mk (TypeDesc.slice 170) 1 24 [vS] [(LT.sl 170 4)] false)
theorem tt120_ok : ttOf Tryz.prog false 120 = some tt120 := by kernel_rfl
def tt121 : TI := (TI.mk (TypeDesc.struct (Array.mk [(fd "Entries" 119 0 0), (fd "Instrs" 120 1 24)])) 2 48 [vS, vS] [(LT.sl 168 3), (LT.sl 170 4)] false)
theorem tt121_ok : ttOf Tryz.prog false 121 = some tt121 := by kernel_rfl
def tt122 : TI := (TI.mk (TypeDesc.struct (Array.mk [(fd "Entries" 119 0 0), (fd "Instrs" 120 1 24)])) 2 48 [vS, vS] [(LT.sl 168 3), (LT.sl 170 4)] false)
theorem tt122_ok : ttOf Tryz.prog false 122 = some tt122 := by kernel_rfl
def tt123 : TI := (TI.mk (TypeDesc.slice 173) 1 24 [vS] [(LT.sl 173 5)] false)
theorem tt123_ok : ttOf Tryz.prog false 123 = some tt123 := by kernel_rfl
def tt124 : TI := (TI.mk (TypeDesc.struct (Array.mk [(fd "Player" 3 0 0), (fd "Code" 122 1 8), (fd "Tasks" 123 3 56)])) 4 80 [vI, vS, vS, vS] [lI, (LT.sl 168 3), (LT.sl 170 4), (LT.sl 173 5)] false)
theorem tt124_ok : ttOf Tryz.prog false 124 = some tt124 := by kernel_rfl
def tt125 : TI := (TI.mk (TypeDesc.struct (Array.mk [(fd "Player" 3 0 0), (fd "Code" 122 1 8), (fd "Tasks" 123 3 56)])) 4 80 [vI, vS, vS, vS] [lI, (LT.sl 168 3), (LT.sl 170 4), (LT.sl 173 5)] false)
theorem tt125_ok : ttOf Tryz.prog false 125 = some tt125 := by kernel_rfl
def tt139 : TI := (TI.mk (TypeDesc.struct (Array.mk [(fd "X" 3 0 0), (fd "Y" 3 1 8)])) 2 16 [vI, vI] [lI, lI] true)
theorem tt139_ok : ttOf Tryz.prog true 139 = some tt139 := by kernel_rfl
def tt160 : TI := (TI.mk (TypeDesc.slice 205) 1 24 [vS] [(LT.sl 205 7)] false)
theorem tt160_ok : ttOf Tryz.prog false 160 = some tt160 := by kernel_rfl
def tt162 : TI := (TI.mk (TypeDesc.struct (Array.mk [(fd "Kind" 3 0 0), (fd "Left" 3 1 8), (fd "Name" 9 2 16)])) 3 32 [vI, vI, vT] [lI, lI, LT.str] true)
theorem tt162_ok : ttOf Tryz.prog true 162 = some tt162 := by kernel_rfl
def tt163 : TI := (TI.mk (TypeDesc.struct (Array.mk [(fd "Kind" 3 0 0), (fd "Left" 3 1 8), (fd "Name" 9 2 16)])) 3 32 [vI, vI, vT] [lI, lI, LT.str] true)
theorem tt163_ok : ttOf Tryz.prog true 163 = some tt163 := by kernel_rfl
def tt165 : TI := (TI.mk (TypeDesc.struct (Array.mk [(fd "Id" 3 0 0), (fd "Owner" 3 1 8), (fd "Type" 9 2 16), (fd "At" 56 3 32), (fd "Hp" 3 5 48)])) 6 56 [vI, vI, vT, vI, vI, vI] [lI, lI, LT.str, lI, lI, lI] true)
theorem tt165_ok : ttOf Tryz.prog true 165 = some tt165 := by kernel_rfl
def tt166 : TI := (TI.mk (TypeDesc.struct (Array.mk [(fd "Id" 3 0 0), (fd "Owner" 3 1 8), (fd "Type" 9 2 16), (fd "At" 56 3 32), (fd "Hp" 3 5 48)])) 6 56 [vI, vI, vT, vI, vI, vI] [lI, lI, LT.str, lI, lI, lI] true)
theorem tt166_ok : ttOf Tryz.prog true 166 = some tt166 := by kernel_rfl
def tt167 : TI := (TI.mk (TypeDesc.struct (Array.mk [(fd "Name" 9 0 0), (fd "At" 3 1 16), (fd "Slots" 3 2 24)])) 3 32 [vT, vI, vI] [LT.str, lI, lI] true)
theorem tt167_ok : ttOf Tryz.prog true 167 = some tt167 := by kernel_rfl
def tt168 : TI := (TI.mk (TypeDesc.struct (Array.mk [(fd "Name" 9 0 0), (fd "At" 3 1 16), (fd "Slots" 3 2 24)])) 3 32 [vT, vI, vI] [LT.str, lI, lI] true)
theorem tt168_ok : ttOf Tryz.prog true 168 = some tt168 := by kernel_rfl
def tt169 : TI := (TI.mk (TypeDesc.struct (Array.mk [(fd "Op" 3 0 0), (fd "A" 3 1 8), (fd "N" 2 2 16), (fd "S" 9 3 24)])) 4 40 [vI, vI, vI, vT] [lI, lI, lI, LT.str] true)
theorem tt169_ok : ttOf Tryz.prog true 169 = some tt169 := by kernel_rfl
def tt170 : TI := (TI.mk (TypeDesc.struct (Array.mk [(fd "Op" 3 0 0), (fd "A" 3 1 8), (fd "N" 2 2 16), (fd "S" 9 3 24)])) 4 40 [vI, vI, vI, vT] [lI, lI, lI, LT.str] true)
theorem tt170_ok : ttOf Tryz.prog true 170 = some tt170 := by kernel_rfl
def tt171 : TI := (TI.mk (TypeDesc.slice 2) 1 24 [vS] [(LT.sl 2 1)] false)
theorem tt171_ok : ttOf Tryz.prog false 171 = some tt171 := by kernel_rfl
def tt172 : TI := (TI.mk (TypeDesc.struct (Array.mk [(fd "State" 3 0 0), (fd "At" 3 1 8), (fd "Wait" 3 2 16), (fd "Slots" 171 3 24), (fd "Stack" 171 4 48)])) 5 72 [vI, vI, vI, vS, vS] [lI, lI, lI, (LT.sl 2 1), (LT.sl 2 1)] false)
theorem tt172_ok : ttOf Tryz.prog false 172 = some tt172 := by kernel_rfl
def tt173 : TI := (TI.mk (TypeDesc.struct (Array.mk [(fd "State" 3 0 0), (fd "At" 3 1 8), (fd "Wait" 3 2 16), (fd "Slots" 171 3 24), (fd "Stack" 171 4 48)])) 5 72 [vI, vI, vI, vS, vS] [lI, lI, lI, (LT.sl 2 1), (LT.sl 2 1)] false)
theorem tt173_ok : ttOf Tryz.prog false 173 = some tt173 := by kernel_rfl
def tt179 : TI := (TI.mk (TypeDesc.struct (Array.mk [(fd "X" 3 0 0), (fd "Y" 3 1 8), (fd "W" 3 2 16), (fd "H" 3 3 24)])) 4 32 [vI, vI, vI, vI] [lI, lI, lI, lI] true)
theorem tt179_ok : ttOf Tryz.prog true 179 = some tt179 := by kernel_rfl
def tt180 : TI := (TI.mk (TypeDesc.struct (Array.mk [(fd "X" 3 0 0), (fd "Y" 3 1 8), (fd "W" 3 2 16), (fd "H" 3 3 24)])) 4 32 [vI, vI, vI, vI] [lI, lI, lI, lI] true)
theorem tt180_ok : ttOf Tryz.prog true 180 = some tt180 := by kernel_rfl
def tt204 : TI := (TI.mk (TypeDesc.struct (Array.mk [(fd "Id" 3 0 0), (fd "Class" 3 1 8), (fd "R" 3 2 16), (fd "At" 56 3 24), (fd "Want" 56 5 40)])) 7 56 [vI, vI, vI, vI, vI, vI, vI] [lI, lI, lI, lI, lI, lI, lI] true)
theorem tt204_ok : ttOf Tryz.prog true 204 = some tt204 := by kernel_rfl
def tt205 : TI := (TI.mk (TypeDesc.struct (Array.mk [(fd "Id" 3 0 0), (fd "Class" 3 1 8), (fd "R" 3 2 16), (fd "At" 56 3 24), (fd "Want" 56 5 40)])) 7 56 [vI, vI, vI, vI, vI, vI, vI] [lI, lI, lI, lI, lI, lI, lI] true)
theorem tt205_ok : ttOf Tryz.prog true 205 = some tt205 := by kernel_rfl
def tt209 : TI := (TI.mk (TypeDesc.int IntKind.u64) 1 8 [(Value.int IntKind.u64 (0 : Int))] [(LT.int IntKind.u64)] false)
theorem tt209_ok : ttOf Tryz.prog false 209 = some tt209 := by kernel_rfl
def tt221 : TI := (TI.mk (TypeDesc.slice 56) 1 24 [vS] [(LT.sl 56 2)] false)
theorem tt221_ok : ttOf Tryz.prog false 221 = some tt221 := by kernel_rfl
def tt227 : TI := (TI.mk (TypeDesc.array 0 16) 0 0 [] [] false)
theorem tt227_ok : ttOf Tryz.prog false 227 = some tt227 := by kernel_rfl
def tt231 : TI := (TI.mk (TypeDesc.int IntKind.u32) 1 4 [(Value.int IntKind.u32 (0 : Int))] [(LT.int IntKind.u32)] false)
theorem tt231_ok : ttOf Tryz.prog false 231 = some tt231 := by kernel_rfl
def tt232 : TI := (TI.mk (TypeDesc.int IntKind.u8) 1 1 [(Value.int IntKind.u8 (0 : Int))] [(LT.int IntKind.u8)] false)
theorem tt232_ok : ttOf Tryz.prog false 232 = some tt232 := by kernel_rfl
def tt233 : TI := (TI.mk (TypeDesc.int IntKind.u8) 1 1 [(Value.int IntKind.u8 (0 : Int))] [(LT.int IntKind.u8)] false)
theorem tt233_ok : ttOf Tryz.prog false 233 = some tt233 := by kernel_rfl
def tt236 : TI := (TI.mk (TypeDesc.int IntKind.i32) 1 4 [(Value.int IntKind.i32 (0 : Int))] [(LT.int IntKind.i32)] false)
theorem tt236_ok : ttOf Tryz.prog false 236 = some tt236 := by kernel_rfl
def tt237 : TI := (TI.mk (TypeDesc.int IntKind.i32) 1 4 [(Value.int IntKind.i32 (0 : Int))] [(LT.int IntKind.i32)] false)
theorem tt237_ok : ttOf Tryz.prog false 237 = some tt237 := by kernel_rfl
def tt238 : TI := (TI.mk (TypeDesc.struct (Array.mk [(fd "Size_" 12 0 0), (fd "PtrBytes" 12 1 8), (fd "Hash" 231 2 16), (fd "TFlag" 232 3 20), (fd "Align_" 5 4 21), (fd "FieldAlign_" 5 5 22), (fd "Kind_" 233 6 23), (fd "Equal" 234 7 24), (fd "GCData" 235 8 32), (fd "Str" 236 9 40), (fd "PtrToThis" 237 10 44)])) 11 48 [(Value.int IntKind.u64 (0 : Int)), (Value.int IntKind.u64 (0 : Int)), (Value.int IntKind.u32 (0 : Int)), (Value.int IntKind.u8 (0 : Int)), (Value.int IntKind.u8 (0 : Int)), (Value.int IntKind.u8 (0 : Int)), (Value.int IntKind.u8 (0 : Int)), Value.nilFunc, (Value.pointer Option.none), (Value.int IntKind.i32 (0 : Int)), (Value.int IntKind.i32 (0 : Int))] [(LT.int IntKind.u64), (LT.int IntKind.u64), (LT.int IntKind.u32), (LT.int IntKind.u8), (LT.int IntKind.u8), (LT.int IntKind.u8), (LT.int IntKind.u8), LT.other, LT.other, (LT.int IntKind.i32), (LT.int IntKind.i32)] false)
theorem tt238_ok : ttOf Tryz.prog false 238 = some tt238 := by kernel_rfl
def tt239 : TI := (TI.mk (TypeDesc.struct (Array.mk [(fd "Size_" 12 0 0), (fd "PtrBytes" 12 1 8), (fd "Hash" 231 2 16), (fd "TFlag" 232 3 20), (fd "Align_" 5 4 21), (fd "FieldAlign_" 5 5 22), (fd "Kind_" 233 6 23), (fd "Equal" 234 7 24), (fd "GCData" 235 8 32), (fd "Str" 236 9 40), (fd "PtrToThis" 237 10 44)])) 11 48 [(Value.int IntKind.u64 (0 : Int)), (Value.int IntKind.u64 (0 : Int)), (Value.int IntKind.u32 (0 : Int)), (Value.int IntKind.u8 (0 : Int)), (Value.int IntKind.u8 (0 : Int)), (Value.int IntKind.u8 (0 : Int)), (Value.int IntKind.u8 (0 : Int)), Value.nilFunc, (Value.pointer Option.none), (Value.int IntKind.i32 (0 : Int)), (Value.int IntKind.i32 (0 : Int))] [(LT.int IntKind.u64), (LT.int IntKind.u64), (LT.int IntKind.u32), (LT.int IntKind.u8), (LT.int IntKind.u8), (LT.int IntKind.u8), (LT.int IntKind.u8), LT.other, LT.other, (LT.int IntKind.i32), (LT.int IntKind.i32)] false)
theorem tt239_ok : ttOf Tryz.prog false 239 = some tt239 := by kernel_rfl
def tts : List (Nat × TI) := [(2, tt2), (3, tt3), (4, tt4), (5, tt5), (6, tt6), (9, tt9), (10, tt10), (11, tt11), (12, tt12), (21, tt21), (22, tt22), (23, tt23), (24, tt24), (25, tt25), (26, tt26), (27, tt27), (28, tt28), (29, tt29), (30, tt30), (31, tt31), (32, tt32), (33, tt33), (34, tt34), (35, tt35), (36, tt36), (37, tt37), (38, tt38), (39, tt39), (42, tt42), (53, tt53), (54, tt54), (55, tt55), (56, tt56), (57, tt57), (58, tt58), (59, tt59), (60, tt60), (63, tt63), (64, tt64), (65, tt65), (69, tt69), (70, tt70), (74, tt74), (75, tt75), (84, tt84), (85, tt85), (95, tt95), (96, tt96), (97, tt97), (98, tt98), (103, tt103), (104, tt104), (113, tt113), (114, tt114), (115, tt115), (116, tt116), (119, tt119), (120, tt120), (121, tt121), (122, tt122), (123, tt123), (124, tt124), (125, tt125), (139, tt139), (160, tt160), (162, tt162), (163, tt163), (165, tt165), (166, tt166), (167, tt167), (168, tt168), (169, tt169), (170, tt170), (171, tt171), (172, tt172), (173, tt173), (179, tt179), (180, tt180), (204, tt204), (205, tt205), (209, tt209), (221, tt221), (227, tt227), (231, tt231), (232, tt232), (233, tt233), (236, tt236), (237, tt237), (238, tt238), (239, tt239)]
theorem tts_ok : TabOk Tryz.prog tts := (.cons false tt2_ok (.cons false tt3_ok (.cons false tt4_ok (.cons false tt5_ok (.cons false tt6_ok (.cons false tt9_ok (.cons false tt10_ok (.cons false tt11_ok (.cons false tt12_ok (.cons false tt21_ok (.cons false tt22_ok (.cons false tt23_ok (.cons false tt24_ok (.cons false tt25_ok (.cons false tt26_ok (.cons false tt27_ok (.cons false tt28_ok (.cons false tt29_ok (.cons false tt30_ok (.cons false tt31_ok (.cons false tt32_ok (.cons false tt33_ok (.cons false tt34_ok (.cons false tt35_ok (.cons false tt36_ok (.cons false tt37_ok (.cons true tt38_ok (.cons true tt39_ok (.cons false tt42_ok (.cons true tt53_ok (.cons true tt54_ok (.cons true tt55_ok (.cons true tt56_ok (.cons false tt57_ok (.cons false tt58_ok (.cons false tt59_ok (.cons false tt60_ok (.cons false tt63_ok (.cons false tt64_ok (.cons false tt65_ok (.cons false tt69_ok (.cons false tt70_ok (.cons true tt74_ok (.cons true tt75_ok (.cons true tt84_ok (.cons true tt85_ok (.cons true tt95_ok (.cons true tt96_ok (.cons false tt97_ok (.cons false tt98_ok (.cons true tt103_ok (.cons true tt104_ok (.cons false tt113_ok (.cons false tt114_ok (.cons false tt115_ok (.cons false tt116_ok (.cons false tt119_ok (.cons false tt120_ok (.cons false tt121_ok (.cons false tt122_ok (.cons false tt123_ok (.cons false tt124_ok (.cons false tt125_ok (.cons true tt139_ok (.cons false tt160_ok (.cons true tt162_ok (.cons true tt163_ok (.cons true tt165_ok (.cons true tt166_ok (.cons true tt167_ok (.cons true tt168_ok (.cons true tt169_ok (.cons true tt170_ok (.cons false tt171_ok (.cons false tt172_ok (.cons false tt173_ok (.cons true tt179_ok (.cons true tt180_ok (.cons true tt204_ok (.cons true tt205_ok (.cons false tt209_ok (.cons false tt221_ok (.cons false tt227_ok (.cons false tt231_ok (.cons false tt232_ok (.cons false tt233_ok (.cons false tt236_ok (.cons false tt237_ok (.cons false tt238_ok (.cons false tt239_ok .nil))))))))))))))))))))))))))))))))))))))))))))))))))))))))))))))))))))))))))))))))))))))))))
def TT : TypeId → Option TI := tabTT tts
theorem TT_ok : TOk Tryz.prog TT := tabTT_ok tts_ok
def TU : TypeId → Option (List TypeId) := tabTU [(43, [37, 42]), (51, [3, 3]), (61, [60, 4]), (66, [65, 4]), (87, [3, 4]), (140, [139, 3, 4]), (142, [54, 4]), (145, [30, 3, 42]), (148, [104, 4]), (181, [180, 4]), (185, [56, 3]), (197, [98, 4]), (206, [205, 4]), (214, [3, 42])]
def ownF : FuncId → Bool := fun _ => false
def ownRo : FuncId → Bool := fun f => Nat.ble roTag f && Nat.blt f ownTag
def ownE : FuncId → Bool := fun f => Nat.ble ownTag f && Nat.blt f handTag
def ownRE : FuncId → Bool := fun f => Nat.ble roTag f && Nat.blt f handTag
def ownFH : FuncId → Bool := fun f => Nat.ble handTag f
def ownRoH : FuncId → Bool := fun f => (Nat.ble roTag f && Nat.blt f ownTag) || Nat.ble handTag f
def ownEH : FuncId → Bool := fun f => Nat.ble ownTag f
def ownREH : FuncId → Bool := fun f => Nat.ble roTag f
def GL0 : Nat → Option (List AVal) := fun _ => none
theorem mixed : Tryz.prog.follows .mixedOrders = true := by kernel_rfl
theorem libnone : Lib Tryz.prog GL0 noC := Lib.none
def Cnone := noC
end Go.Proofs.YtoiimiohobollaaGreat.AI
