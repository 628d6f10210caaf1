/- PRINTED by program: the types that the functions of this seat use. Not trusted: Lean checks it. -/
import Derived.Test.YtchhpagkdaaglaaDoorSlP
import Derived.Test.YtchhpagkdaaglaaDoorProg
set_option linter.unusedVariables false
set_option linter.unusedSimpArgs false
set_option maxRecDepth 100000
namespace Go.Proofs.YtchhpagkdaaglaaDoor.SL
open Go
def ty3 : TI := ⟨1, 8, .int .i64 0, .int .i64, 0⟩   -- int
theorem ok3 : TIok Tryd.prog 3 ty3 := ⟨by kernel_rfl, by kernel_rfl, fun h => absurd rfl h⟩
def ty4 : TI := ⟨1, 1, .bool false, .bool, 0⟩   -- bool
theorem ok4 : TIok Tryd.prog 4 ty4 := ⟨by kernel_rfl, by kernel_rfl, fun h => absurd rfl h⟩
def ty5 : TI := ⟨1, 1, .int .u8 0, .int .u8, 0⟩   -- uint8
theorem ok5 : TIok Tryd.prog 5 ty5 := ⟨by kernel_rfl, by kernel_rfl, fun h => absurd rfl h⟩
def ty9 : TI := ⟨1, 16, .string ByteArray.empty, .string, 0⟩   -- string
theorem ok9 : TIok Tryd.prog 9 ty9 := ⟨by kernel_rfl, by kernel_rfl, fun h => absurd rfl h⟩
def ty22 : TI := ⟨1, 8, .int .u64 0, .int .u64, 0⟩   -- uint64
theorem ok22 : TIok Tryd.prog 22 ty22 := ⟨by kernel_rfl, by kernel_rfl, fun h => absurd rfl h⟩
def ty24 : TI := ⟨3, 24, .agg #[.int .u64 0, .int .i64 0, .int .i64 0], .struct [(0, 22), (1, 3), (2, 3)], 3⟩   -- api.Params
theorem ok24 : TIok Tryd.prog 24 ty24 := ⟨by kernel_rfl, by kernel_rfl, fun h => ⟨by kernel_rfl, by kernel_rfl, by kernel_rfl, by kernel_rfl, by kernel_rfl⟩⟩
def ty25 : TI := ⟨1, 24, .slice none 0 0, .slice 3, 0⟩   -- []int
theorem ok25 : TIok Tryd.prog 25 ty25 := ⟨by kernel_rfl, by kernel_rfl, fun h => absurd rfl h⟩
def ty26 : TI := ⟨1, 24, .slice none 0 0, .slice 109, 0⟩   -- []api.Deviation
theorem ok26 : TIok Tryd.prog 26 ty26 := ⟨by kernel_rfl, by kernel_rfl, fun h => absurd rfl h⟩
def ty27 : TI := ⟨1, 24, .slice none 0 0, .slice 52, 0⟩   -- [][]uint64
theorem ok27 : TIok Tryd.prog 27 ty27 := ⟨by kernel_rfl, by kernel_rfl, fun h => absurd rfl h⟩
def ty29 : TI := ⟨6, 96, .agg #[.int .u64 0, .int .i64 0, .int .i64 0, .slice none 0 0, .slice none 0 0, .slice none 0 0], .struct [(0, 24), (3, 25), (4, 26), (5, 27)], 0⟩   -- api.Scenario
theorem ok29 : TIok Tryd.prog 29 ty29 := ⟨by kernel_rfl, by kernel_rfl, fun h => absurd rfl h⟩
def ty30 : TI := ⟨1, 24, .slice none 0 0, .slice 46, 0⟩   -- []privitylaw14.RoundSpec
theorem ok30 : TIok Tryd.prog 30 ty30 := ⟨by kernel_rfl, by kernel_rfl, fun h => absurd rfl h⟩
def ty32 : TI := ⟨7, 120, .agg #[.int .u64 0, .int .i64 0, .int .i64 0, .slice none 0 0, .slice none 0 0, .slice none 0 0, .slice none 0 0], .struct [(0, 29), (6, 30)], 0⟩   -- privitylaw14.Execution
theorem ok32 : TIok Tryd.prog 32 ty32 := ⟨by kernel_rfl, by kernel_rfl, fun h => absurd rfl h⟩
def ty35 : TI := ⟨1, 8, .pointer none, .pointer 98, 0⟩   -- *network.Net
theorem ok35 : TIok Tryd.prog 35 ty35 := ⟨by kernel_rfl, by kernel_rfl, fun h => absurd rfl h⟩
def ty36 : TI := ⟨1, 8, .int .i64 0, .int .i64, 0⟩   -- api.Errno
theorem ok36 : TIok Tryd.prog 36 ty36 := ⟨by kernel_rfl, by kernel_rfl, fun h => absurd rfl h⟩
def ty44 : TI := ⟨1, 24, .slice none 0 0, .slice 27, 0⟩   -- [][][]uint64
theorem ok44 : TIok Tryd.prog 44 ty44 := ⟨by kernel_rfl, by kernel_rfl, fun h => absurd rfl h⟩
def ty46 : TI := ⟨2, 32, .agg #[.bool false, .slice none 0 0], .struct [(0, 4), (1, 44)], 0⟩   -- privitylaw14.RoundSpec
theorem ok46 : TIok Tryd.prog 46 ty46 := ⟨by kernel_rfl, by kernel_rfl, fun h => absurd rfl h⟩
def ty49 : TI := ⟨1, 24, .slice none 0 0, .slice 90, 0⟩   -- api.View
theorem ok49 : TIok Tryd.prog 49 ty49 := ⟨by kernel_rfl, by kernel_rfl, fun h => absurd rfl h⟩
def ty52 : TI := ⟨1, 24, .slice none 0 0, .slice 22, 0⟩   -- []uint64
theorem ok52 : TIok Tryd.prog 52 ty52 := ⟨by kernel_rfl, by kernel_rfl, fun h => absurd rfl h⟩
def ty54 : TI := ⟨7, 120, .agg #[.int .u64 0, .int .i64 0, .int .i64 0, .slice none 0 0, .slice none 0 0, .slice none 0 0, .slice none 0 0], .struct [(0, 29), (6, 52)], 0⟩   -- privitylaw16.Ask
theorem ok54 : TIok Tryd.prog 54 ty54 := ⟨by kernel_rfl, by kernel_rfl, fun h => absurd rfl h⟩
def ty61 : TI := ⟨8, 144, .agg #[.int .u64 0, .int .i64 0, .int .i64 0, .slice none 0 0, .slice none 0 0, .slice none 0 0, .slice none 0 0, .slice none 0 0], .struct [(0, 29), (6, 27), (7, 25)], 0⟩   -- privitylaw17.Play
theorem ok61 : TIok Tryd.prog 61 ty61 := ⟨by kernel_rfl, by kernel_rfl, fun h => absurd rfl h⟩
def ty67 : TI := ⟨7, 120, .agg #[.int .u64 0, .int .i64 0, .int .i64 0, .slice none 0 0, .slice none 0 0, .slice none 0 0, .slice none 0 0], .struct [(0, 29), (6, 44)], 0⟩   -- privitylaw18.Dealing
theorem ok67 : TIok Tryd.prog 67 ty67 := ⟨by kernel_rfl, by kernel_rfl, fun h => absurd rfl h⟩
def ty69 : TI := ⟨1, 24, .slice none 0 0, .slice 44, 0⟩   -- [][][][]uint64
theorem ok69 : TIok Tryd.prog 69 ty69 := ⟨by kernel_rfl, by kernel_rfl, fun h => absurd rfl h⟩
def ty71 : TI := ⟨3, 72, .agg #[.slice none 0 0, .slice none 0 0, .slice none 0 0], .struct [(0, 69), (1, 69), (2, 44)], 0⟩   -- api.VSSState
theorem ok71 : TIok Tryd.prog 71 ty71 := ⟨by kernel_rfl, by kernel_rfl, fun h => absurd rfl h⟩
def ty79 : TI := ⟨2, 2, .agg #[.int .u8 0, .int .u8 0], .array 2 5, 0⟩   -- [2]uint8
theorem ok79 : TIok Tryd.prog 79 ty79 := ⟨by kernel_rfl, by kernel_rfl, fun h => absurd rfl h⟩
def ty90 : TI := ⟨3, 40, .agg #[.int .i64 0, .int .i64 0, .slice none 0 0], .struct [(0, 3), (1, 3), (2, 52)], 0⟩   -- api.Event
theorem ok90 : TIok Tryd.prog 90 ty90 := ⟨by kernel_rfl, by kernel_rfl, fun h => absurd rfl h⟩
def ty95 : TI := ⟨1, 24, .slice none 0 0, .slice 49, 0⟩   -- []api.View
theorem ok95 : TIok Tryd.prog 95 ty95 := ⟨by kernel_rfl, by kernel_rfl, fun h => absurd rfl h⟩
def ty96 : TI := ⟨1, 24, .slice none 0 0, .slice 99, 0⟩   -- []*tape.Tape
theorem ok96 : TIok Tryd.prog 96 ty96 := ⟨by kernel_rfl, by kernel_rfl, fun h => absurd rfl h⟩
def ty98 : TI := ⟨9, 152, .agg #[.int .u64 0, .int .i64 0, .int .i64 0, .slice none 0 0, .slice none 0 0, .slice none 0 0, .int .i64 0, .slice none 0 0, .slice none 0 0], .struct [(0, 29), (6, 3), (7, 95), (8, 96)], 0⟩   -- network.Net
theorem ok98 : TIok Tryd.prog 98 ty98 := ⟨by kernel_rfl, by kernel_rfl, fun h => absurd rfl h⟩
def ty99 : TI := ⟨1, 8, .pointer none, .pointer 136, 0⟩   -- *tape.Tape
theorem ok99 : TIok Tryd.prog 99 ty99 := ⟨by kernel_rfl, by kernel_rfl, fun h => absurd rfl h⟩
def ty101 : TI := ⟨1, 24, .slice none 0 0, .slice 104, 0⟩   -- []*privityref11.Tape
theorem ok101 : TIok Tryd.prog 101 ty101 := ⟨by kernel_rfl, by kernel_rfl, fun h => absurd rfl h⟩
def ty103 : TI := ⟨9, 152, .agg #[.int .u64 0, .int .i64 0, .int .i64 0, .slice none 0 0, .slice none 0 0, .slice none 0 0, .int .i64 0, .slice none 0 0, .slice none 0 0], .struct [(0, 29), (6, 3), (7, 95), (8, 101)], 0⟩   -- privityref14.Net
theorem ok103 : TIok Tryd.prog 103 ty103 := ⟨by kernel_rfl, by kernel_rfl, fun h => absurd rfl h⟩
def ty104 : TI := ⟨1, 8, .pointer none, .pointer 139, 0⟩   -- *privityref11.Tape
theorem ok104 : TIok Tryd.prog 104 ty104 := ⟨by kernel_rfl, by kernel_rfl, fun h => absurd rfl h⟩
def ty109 : TI := ⟨8, 64, .agg #[.int .i64 0, .int .i64 0, .int .i64 0, .int .i64 0, .int .i64 0, .int .u64 0, .int .i64 0, .int .i64 0], .struct [(0, 3), (1, 3), (2, 3), (3, 3), (4, 3), (5, 22), (6, 3), (7, 3)], 8⟩   -- api.Deviation
theorem ok109 : TIok Tryd.prog 109 ty109 := ⟨by kernel_rfl, by kernel_rfl, fun h => ⟨by kernel_rfl, by kernel_rfl, by kernel_rfl, by kernel_rfl, by kernel_rfl⟩⟩
def ty136 : TI := ⟨2, 32, .agg #[.slice none 0 0, .int .i64 0], .struct [(0, 52), (1, 3)], 0⟩   -- tape.Tape
theorem ok136 : TIok Tryd.prog 136 ty136 := ⟨by kernel_rfl, by kernel_rfl, fun h => absurd rfl h⟩
def ty139 : TI := ⟨2, 32, .agg #[.slice none 0 0, .int .i64 0], .struct [(0, 52), (1, 3)], 0⟩   -- privityref11.Tape
theorem ok139 : TIok Tryd.prog 139 ty139 := ⟨by kernel_rfl, by kernel_rfl, fun h => absurd rfl h⟩
def ty140 : TI := ⟨1, 24, .slice none 0 0, .slice 4, 0⟩   -- []bool
theorem ok140 : TIok Tryd.prog 140 ty140 := ⟨by kernel_rfl, by kernel_rfl, fun h => absurd rfl h⟩
def ty150 : TI := ⟨1, 8, .pointer none, .pointer 152, 0⟩   -- *vssdeal.phase
theorem ok150 : TIok Tryd.prog 150 ty150 := ⟨by kernel_rfl, by kernel_rfl, fun h => absurd rfl h⟩
def ty152 : TI := ⟨8, 128, .agg #[.pointer none, .int .u64 0, .int .i64 0, .int .i64 0, .slice none 0 0, .slice none 0 0, .slice none 0 0, .slice none 0 0], .struct [(0, 35), (1, 24), (4, 44), (5, 71)], 0⟩   -- vssdeal.phase
theorem ok152 : TIok Tryd.prog 152 ty152 := ⟨by kernel_rfl, by kernel_rfl, fun h => absurd rfl h⟩
def ty154 : TI := ⟨1, 8, .int .u64 0, .int .u64, 0⟩   -- uint
theorem ok154 : TIok Tryd.prog 154 ty154 := ⟨by kernel_rfl, by kernel_rfl, fun h => absurd rfl h⟩
def ty182 : TI := ⟨7, 56, .agg #[.int .i64 0, .int .i64 0, .int .i64 0, .int .i64 0, .int .i64 0, .int .i64 0, .int .i64 0], .array 7 3, 0⟩   -- [7]int
theorem ok182 : TIok Tryd.prog 182 ty182 := ⟨by kernel_rfl, by kernel_rfl, fun h => absurd rfl h⟩
def T : Types := lookupT [(3, ty3), (4, ty4), (5, ty5), (9, ty9), (22, ty22), (24, ty24), (25, ty25), (26, ty26), (27, ty27), (29, ty29), (30, ty30), (32, ty32), (35, ty35), (36, ty36), (44, ty44), (46, ty46), (49, ty49), (52, ty52), (54, ty54), (61, ty61), (67, ty67), (69, ty69), (71, ty71), (79, ty79), (90, ty90), (95, ty95), (96, ty96), (98, ty98), (99, ty99), (101, ty101), (103, ty103), (104, ty104), (109, ty109), (136, ty136), (139, ty139), (140, ty140), (150, ty150), (152, ty152), (154, ty154), (182, ty182)]
theorem tok : TOk Tryd.prog T := tok_of (tcons ok3 (tcons ok4 (tcons ok5 (tcons ok9 (tcons ok22 (tcons ok24 (tcons ok25 (tcons ok26 (tcons ok27 (tcons ok29 (tcons ok30 (tcons ok32 (tcons ok35 (tcons ok36 (tcons ok44 (tcons ok46 (tcons ok49 (tcons ok52 (tcons ok54 (tcons ok61 (tcons ok67 (tcons ok69 (tcons ok71 (tcons ok79 (tcons ok90 (tcons ok95 (tcons ok96 (tcons ok98 (tcons ok99 (tcons ok101 (tcons ok103 (tcons ok104 (tcons ok109 (tcons ok136 (tcons ok139 (tcons ok140 (tcons ok150 (tcons ok152 (tcons ok154 (tcons ok182 tnil))))))))))))))))))))))))))))))))))))))))
theorem mixed : Tryd.prog.follows .mixedOrders = true := by kernel_rfl
def ext : Externs := extOf 151
theorem xok : XOk Tryd.prog ext := xok_of Tryd.func151 (by kernel_rfl) (by kernel_rfl) (by kernel_rfl) (by kernel_rfl)
end Go.Proofs.YtchhpagkdaaglaaDoor.SL
