/- PRINTED by program: the types that the functions of this seat use. Not trusted: Lean checks it. -/
import Derived.Test.YtpbaoefjkfdgmaaSlP
import Derived.Test.YtpbaoefjkfdgmaaProg
set_option linter.unusedVariables false
set_option linter.unusedSimpArgs false
set_option maxRecDepth 100000
namespace Go.Proofs.Ytpbaoefjkfdgmaa.SL
open Go
def ty3 : TI := ⟨1, 8, .int .i64 0, .int .i64, 0⟩   -- int
theorem ok3 : TIok Try.prog 3 ty3 := ⟨by kernel_rfl, by kernel_rfl, fun h => absurd rfl h⟩
def ty4 : TI := ⟨1, 1, .bool false, .bool, 0⟩   -- bool
theorem ok4 : TIok Try.prog 4 ty4 := ⟨by kernel_rfl, by kernel_rfl, fun h => absurd rfl h⟩
def ty5 : TI := ⟨1, 1, .int .u8 0, .int .u8, 0⟩   -- uint8
theorem ok5 : TIok Try.prog 5 ty5 := ⟨by kernel_rfl, by kernel_rfl, fun h => absurd rfl h⟩
def ty9 : TI := ⟨1, 16, .string ByteArray.empty, .string, 0⟩   -- string
theorem ok9 : TIok Try.prog 9 ty9 := ⟨by kernel_rfl, by kernel_rfl, fun h => absurd rfl h⟩
def ty22 : TI := ⟨1, 8, .int .u64 0, .int .u64, 0⟩   -- uint64
theorem ok22 : TIok Try.prog 22 ty22 := ⟨by kernel_rfl, by kernel_rfl, fun h => absurd rfl h⟩
def ty23 : TI := ⟨2, 16, .agg #[.int .u64 0, .int .u64 0], .array 2 22, 0⟩   -- [2]uint64
theorem ok23 : TIok Try.prog 23 ty23 := ⟨by kernel_rfl, by kernel_rfl, fun h => absurd rfl h⟩
def ty26 : TI := ⟨1, 8, .pointer none, .pointer 74, 0⟩   -- *gadget.Builder
theorem ok26 : TIok Try.prog 26 ty26 := ⟨by kernel_rfl, by kernel_rfl, fun h => absurd rfl h⟩
def ty35 : TI := ⟨1, 24, .slice none 0 0, .slice 22, 0⟩   -- []uint64
theorem ok35 : TIok Try.prog 35 ty35 := ⟨by kernel_rfl, by kernel_rfl, fun h => absurd rfl h⟩
def ty37 : TI := ⟨1, 24, .slice none 0 0, .slice 47, 0⟩   -- []api.Gate
theorem ok37 : TIok Try.prog 37 ty37 := ⟨by kernel_rfl, by kernel_rfl, fun h => absurd rfl h⟩
def ty38 : TI := ⟨1, 24, .slice none 0 0, .slice 3, 0⟩   -- []int
theorem ok38 : TIok Try.prog 38 ty38 := ⟨by kernel_rfl, by kernel_rfl, fun h => absurd rfl h⟩
def ty40 : TI := ⟨3, 56, .agg #[.int .u64 0, .slice none 0 0, .slice none 0 0], .struct [(0, 22), (1, 37), (2, 38)], 0⟩   -- api.Circuit
theorem ok40 : TIok Try.prog 40 ty40 := ⟨by kernel_rfl, by kernel_rfl, fun h => absurd rfl h⟩
def ty42 : TI := ⟨1, 24, .slice none 0 0, .slice 35, 0⟩   -- [][]uint64
theorem ok42 : TIok Try.prog 42 ty42 := ⟨by kernel_rfl, by kernel_rfl, fun h => absurd rfl h⟩
def ty44 : TI := ⟨1, 24, .slice none 0 0, .slice 5, 0⟩   -- []uint8
theorem ok44 : TIok Try.prog 44 ty44 := ⟨by kernel_rfl, by kernel_rfl, fun h => absurd rfl h⟩
def ty47 : TI := ⟨5, 40, .agg #[.int .i64 0, .int .i64 0, .int .i64 0, .int .i64 0, .int .u64 0], .struct [(0, 3), (1, 3), (2, 3), (3, 3), (4, 22)], 5⟩   -- api.Gate
theorem ok47 : TIok Try.prog 47 ty47 := ⟨by kernel_rfl, by kernel_rfl, fun h => ⟨by kernel_rfl, by kernel_rfl, by kernel_rfl, by kernel_rfl, by kernel_rfl⟩⟩
def ty51 : TI := ⟨3, 3, .agg #[.bool false, .bool false, .bool false], .array 3 4, 0⟩   -- [3]bool
theorem ok51 : TIok Try.prog 51 ty51 := ⟨by kernel_rfl, by kernel_rfl, fun h => absurd rfl h⟩
def ty54 : TI := ⟨1, 24, .slice none 0 0, .slice 4, 0⟩   -- []bool
theorem ok54 : TIok Try.prog 54 ty54 := ⟨by kernel_rfl, by kernel_rfl, fun h => absurd rfl h⟩
def ty66 : TI := ⟨2, 16, .agg #[.int .i64 0, .int .i64 0], .array 2 3, 0⟩   -- [2]int
theorem ok66 : TIok Try.prog 66 ty66 := ⟨by kernel_rfl, by kernel_rfl, fun h => absurd rfl h⟩
def ty69 : TI := ⟨1, 8, .int .i64 0, .int .i64, 0⟩   -- api.Errno
theorem ok69 : TIok Try.prog 69 ty69 := ⟨by kernel_rfl, by kernel_rfl, fun h => absurd rfl h⟩
def ty74 : TI := ⟨3, 56, .agg #[.int .u64 0, .slice none 0 0, .slice none 0 0], .struct [(0, 22), (1, 37), (2, 38)], 0⟩   -- gadget.Builder
theorem ok74 : TIok Try.prog 74 ty74 := ⟨by kernel_rfl, by kernel_rfl, fun h => absurd rfl h⟩
def ty76 : TI := ⟨1, 8, .int .u64 0, .int .u64, 0⟩   -- uint
theorem ok76 : TIok Try.prog 76 ty76 := ⟨by kernel_rfl, by kernel_rfl, fun h => absurd rfl h⟩
def T : Types := lookupT [(3, ty3), (4, ty4), (5, ty5), (9, ty9), (22, ty22), (23, ty23), (26, ty26), (35, ty35), (37, ty37), (38, ty38), (40, ty40), (42, ty42), (44, ty44), (47, ty47), (51, ty51), (54, ty54), (66, ty66), (69, ty69), (74, ty74), (76, ty76)]
theorem tok : TOk Try.prog T := tok_of (tcons ok3 (tcons ok4 (tcons ok5 (tcons ok9 (tcons ok22 (tcons ok23 (tcons ok26 (tcons ok35 (tcons ok37 (tcons ok38 (tcons ok40 (tcons ok42 (tcons ok44 (tcons ok47 (tcons ok51 (tcons ok54 (tcons ok66 (tcons ok69 (tcons ok74 (tcons ok76 tnil))))))))))))))))))))
theorem mixed : Try.prog.follows .mixedOrders = true := by kernel_rfl
def ext : Externs := extOf 77
theorem xok : XOk Try.prog ext := xok_of Try.func77 (by kernel_rfl) (by kernel_rfl) (by kernel_rfl) (by kernel_rfl)
end Go.Proofs.Ytpbaoefjkfdgmaa.SL
