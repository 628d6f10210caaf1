/- PRINTED by program: the types that the functions of this seat use. Not trusted: Lean checks it. -/
import Derived.Test.YtpbaoefjkfdgmaaDoorSlP
import Derived.Test.YtpbaoefjkfdgmaaDoorProg
set_option linter.unusedVariables false
set_option linter.unusedSimpArgs false
set_option maxRecDepth 100000
namespace Go.Proofs.YtpbaoefjkfdgmaaDoor.SL
open Go
def ty3 : TI := ⟨1, 8, .int .i64 0, .int .i64, 0⟩   -- int
theorem ok3 : TIok Tryd.prog 3 ty3 := ⟨by kernel_rfl, by kernel_rfl, fun h => absurd rfl h⟩
def ty4 : TI := ⟨1, 1, .bool false, .bool, 0⟩   -- bool
theorem ok4 : TIok Tryd.prog 4 ty4 := ⟨by kernel_rfl, by kernel_rfl, fun h => absurd rfl h⟩
def ty5 : TI := ⟨1, 1, .int .u8 0, .int .u8, 0⟩   -- uint8
theorem ok5 : TIok Tryd.prog 5 ty5 := ⟨by kernel_rfl, by kernel_rfl, fun h => absurd rfl h⟩
def ty9 : TI := ⟨1, 16, .string ByteArray.empty, .string, 0⟩   -- string
theorem ok9 : TIok Tryd.prog 9 ty9 := ⟨by kernel_rfl, by kernel_rfl, fun h => absurd rfl h⟩
def ty22 : TI := ⟨1, 8, .int .u64 0, .int .u64, 0⟩   -- uint64
theorem ok22 : TIok Tryd.prog 22 ty22 := ⟨by kernel_rfl, by kernel_rfl, fun h => absurd rfl h⟩
def ty23 : TI := ⟨1, 24, .slice none 0 0, .slice 37, 0⟩   -- []api.Gate
theorem ok23 : TIok Tryd.prog 23 ty23 := ⟨by kernel_rfl, by kernel_rfl, fun h => absurd rfl h⟩
def ty24 : TI := ⟨1, 24, .slice none 0 0, .slice 3, 0⟩   -- []int
theorem ok24 : TIok Tryd.prog 24 ty24 := ⟨by kernel_rfl, by kernel_rfl, fun h => absurd rfl h⟩
def ty26 : TI := ⟨3, 56, .agg #[.int .u64 0, .slice none 0 0, .slice none 0 0], .struct [(0, 22), (1, 23), (2, 24)], 0⟩   -- api.Circuit
theorem ok26 : TIok Tryd.prog 26 ty26 := ⟨by kernel_rfl, by kernel_rfl, fun h => absurd rfl h⟩
def ty27 : TI := ⟨1, 24, .slice none 0 0, .slice 30, 0⟩   -- [][]uint64
theorem ok27 : TIok Tryd.prog 27 ty27 := ⟨by kernel_rfl, by kernel_rfl, fun h => absurd rfl h⟩
def ty30 : TI := ⟨1, 24, .slice none 0 0, .slice 22, 0⟩   -- []uint64
theorem ok30 : TIok Tryd.prog 30 ty30 := ⟨by kernel_rfl, by kernel_rfl, fun h => absurd rfl h⟩
def ty31 : TI := ⟨1, 8, .int .i64 0, .int .i64, 0⟩   -- api.Errno
theorem ok31 : TIok Tryd.prog 31 ty31 := ⟨by kernel_rfl, by kernel_rfl, fun h => absurd rfl h⟩
def ty37 : TI := ⟨5, 40, .agg #[.int .i64 0, .int .i64 0, .int .i64 0, .int .i64 0, .int .u64 0], .struct [(0, 3), (1, 3), (2, 3), (3, 3), (4, 22)], 5⟩   -- api.Gate
theorem ok37 : TIok Tryd.prog 37 ty37 := ⟨by kernel_rfl, by kernel_rfl, fun h => ⟨by kernel_rfl, by kernel_rfl, by kernel_rfl, by kernel_rfl, by kernel_rfl⟩⟩
def ty43 : TI := ⟨3, 56, .agg #[.int .u64 0, .slice none 0 0, .slice none 0 0], .struct [(0, 22), (1, 30), (2, 27)], 0⟩   -- cleartext.known
theorem ok43 : TIok Tryd.prog 43 ty43 := ⟨by kernel_rfl, by kernel_rfl, fun h => absurd rfl h⟩
def ty44 : TI := ⟨1, 8, .nilFunc, .func, 0⟩   -- func(*cleartext.known, api.Gate) uint64
theorem ok44 : TIok Tryd.prog 44 ty44 := ⟨by kernel_rfl, by kernel_rfl, fun h => absurd rfl h⟩
def ty45 : TI := ⟨7, 56, .agg #[.nilFunc, .nilFunc, .nilFunc, .nilFunc, .nilFunc, .nilFunc, .nilFunc], .array 7 44, 0⟩   -- [7]func(*cleartext.known, api.Gate) uint64
theorem ok45 : TIok Tryd.prog 45 ty45 := ⟨by kernel_rfl, by kernel_rfl, fun h => absurd rfl h⟩
def ty52 : TI := ⟨1, 24, .slice none 0 0, .slice 4, 0⟩   -- []bool
theorem ok52 : TIok Tryd.prog 52 ty52 := ⟨by kernel_rfl, by kernel_rfl, fun h => absurd rfl h⟩
def ty55 : TI := ⟨1, 8, .int .u64 0, .int .u64, 0⟩   -- uint
theorem ok55 : TIok Tryd.prog 55 ty55 := ⟨by kernel_rfl, by kernel_rfl, fun h => absurd rfl h⟩
def ty58 : TI := ⟨7, 32, .agg #[.string ByteArray.empty, .int .i64 0, .bool false, .bool false, .bool false, .bool false, .bool false], .struct [(0, 9), (1, 3), (2, 4), (3, 4), (4, 4), (5, 4), (6, 4)], 0⟩   -- circuit.form
theorem ok58 : TIok Tryd.prog 58 ty58 := ⟨by kernel_rfl, by kernel_rfl, fun h => absurd rfl h⟩
def ty63 : TI := ⟨7, 56, .agg #[.int .i64 0, .int .i64 0, .int .i64 0, .int .i64 0, .int .i64 0, .int .i64 0, .int .i64 0], .array 7 3, 0⟩   -- [7]int
theorem ok63 : TIok Tryd.prog 63 ty63 := ⟨by kernel_rfl, by kernel_rfl, fun h => absurd rfl h⟩
def ty64 : TI := ⟨49, 224, .agg #[.string ByteArray.empty, .int .i64 0, .bool false, .bool false, .bool false, .bool false, .bool false, .string ByteArray.empty, .int .i64 0, .bool false, .bool false, .bool false, .bool false, .bool false, .string ByteArray.empty, .int .i64 0, .bool false, .bool false, .bool false, .bool false, .bool false, .string ByteArray.empty, .int .i64 0, .bool false, .bool false, .bool false, .bool false, .bool false, .string ByteArray.empty, .int .i64 0, .bool false, .bool false, .bool false, .bool false, .bool false, .string ByteArray.empty, .int .i64 0, .bool false, .bool false, .bool false, .bool false, .bool false, .string ByteArray.empty, .int .i64 0, .bool false, .bool false, .bool false, .bool false, .bool false], .array 7 58, 0⟩   -- [7]circuit.form
theorem ok64 : TIok Tryd.prog 64 ty64 := ⟨by kernel_rfl, by kernel_rfl, fun h => absurd rfl h⟩
def T : Types := lookupT [(3, ty3), (4, ty4), (5, ty5), (9, ty9), (22, ty22), (23, ty23), (24, ty24), (26, ty26), (27, ty27), (30, ty30), (31, ty31), (37, ty37), (43, ty43), (44, ty44), (45, ty45), (52, ty52), (55, ty55), (58, ty58), (63, ty63), (64, ty64)]
theorem tok : TOk Tryd.prog T := tok_of (tcons ok3 (tcons ok4 (tcons ok5 (tcons ok9 (tcons ok22 (tcons ok23 (tcons ok24 (tcons ok26 (tcons ok27 (tcons ok30 (tcons ok31 (tcons ok37 (tcons ok43 (tcons ok44 (tcons ok45 (tcons ok52 (tcons ok55 (tcons ok58 (tcons ok63 (tcons ok64 tnil))))))))))))))))))))
theorem mixed : Tryd.prog.follows .mixedOrders = true := by kernel_rfl
def ext : Externs := extOf 61
theorem xok : XOk Tryd.prog ext := xok_of Tryd.func61 (by kernel_rfl) (by kernel_rfl) (by kernel_rfl) (by kernel_rfl)
end Go.Proofs.YtpbaoefjkfdgmaaDoor.SL
