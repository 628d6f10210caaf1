/- PRINTED by program: the types that the functions of this seat use. Not trusted: Lean checks it. -/
import Derived.Test.YtchhpagkdaaglaaSlP
import Derived.Test.YtchhpagkdaaglaaProg
set_option linter.unusedVariables false
set_option linter.unusedSimpArgs false
set_option maxRecDepth 100000
namespace Go.Proofs.Ytchhpagkdaaglaa.SL
open Go
def ty3 : TI := ⟨1, 8, .int .i64 0, .int .i64, 0⟩   -- int
theorem ok3 : TIok Try.prog 3 ty3 := ⟨by kernel_rfl, by kernel_rfl, fun h => absurd rfl h⟩
def ty5 : TI := ⟨1, 1, .int .u8 0, .int .u8, 0⟩   -- uint8
theorem ok5 : TIok Try.prog 5 ty5 := ⟨by kernel_rfl, by kernel_rfl, fun h => absurd rfl h⟩
def ty9 : TI := ⟨1, 16, .string ByteArray.empty, .string, 0⟩   -- string
theorem ok9 : TIok Try.prog 9 ty9 := ⟨by kernel_rfl, by kernel_rfl, fun h => absurd rfl h⟩
def ty22 : TI := ⟨1, 8, .int .u64 0, .int .u64, 0⟩   -- uint64
theorem ok22 : TIok Try.prog 22 ty22 := ⟨by kernel_rfl, by kernel_rfl, fun h => absurd rfl h⟩
def ty24 : TI := ⟨3, 24, .agg #[.int .u64 0, .int .i64 0, .int .i64 0], .struct [(0, 22), (1, 3), (2, 3)], 3⟩   -- api.Params
theorem ok24 : TIok Try.prog 24 ty24 := ⟨by kernel_rfl, by kernel_rfl, fun h => ⟨by kernel_rfl, by kernel_rfl, by kernel_rfl, by kernel_rfl, by kernel_rfl⟩⟩
def ty25 : TI := ⟨1, 24, .slice none 0 0, .slice 3, 0⟩   -- []int
theorem ok25 : TIok Try.prog 25 ty25 := ⟨by kernel_rfl, by kernel_rfl, fun h => absurd rfl h⟩
def ty26 : TI := ⟨1, 24, .slice none 0 0, .slice 44, 0⟩   -- []api.Deviation
theorem ok26 : TIok Try.prog 26 ty26 := ⟨by kernel_rfl, by kernel_rfl, fun h => absurd rfl h⟩
def ty27 : TI := ⟨1, 24, .slice none 0 0, .slice 41, 0⟩   -- [][]uint64
theorem ok27 : TIok Try.prog 27 ty27 := ⟨by kernel_rfl, by kernel_rfl, fun h => absurd rfl h⟩
def ty29 : TI := ⟨6, 96, .agg #[.int .u64 0, .int .i64 0, .int .i64 0, .slice none 0 0, .slice none 0 0, .slice none 0 0], .struct [(0, 24), (3, 25), (4, 26), (5, 27)], 0⟩   -- api.Scenario
theorem ok29 : TIok Try.prog 29 ty29 := ⟨by kernel_rfl, by kernel_rfl, fun h => absurd rfl h⟩
def ty30 : TI := ⟨1, 24, .slice none 0 0, .slice 27, 0⟩   -- [][][]uint64
theorem ok30 : TIok Try.prog 30 ty30 := ⟨by kernel_rfl, by kernel_rfl, fun h => absurd rfl h⟩
def ty32 : TI := ⟨9, 152, .agg #[.int .u64 0, .int .i64 0, .int .i64 0, .slice none 0 0, .slice none 0 0, .slice none 0 0, .int .i64 0, .slice none 0 0, .slice none 0 0], .struct [(0, 29), (6, 3), (7, 30), (8, 27)], 0⟩   -- privitylaw13.Ask
theorem ok32 : TIok Try.prog 32 ty32 := ⟨by kernel_rfl, by kernel_rfl, fun h => absurd rfl h⟩
def ty41 : TI := ⟨1, 24, .slice none 0 0, .slice 22, 0⟩   -- []uint64
theorem ok41 : TIok Try.prog 41 ty41 := ⟨by kernel_rfl, by kernel_rfl, fun h => absurd rfl h⟩
def ty44 : TI := ⟨8, 64, .agg #[.int .i64 0, .int .i64 0, .int .i64 0, .int .i64 0, .int .i64 0, .int .u64 0, .int .i64 0, .int .i64 0], .struct [(0, 3), (1, 3), (2, 3), (3, 3), (4, 3), (5, 22), (6, 3), (7, 3)], 8⟩   -- api.Deviation
theorem ok44 : TIok Try.prog 44 ty44 := ⟨by kernel_rfl, by kernel_rfl, fun h => ⟨by kernel_rfl, by kernel_rfl, by kernel_rfl, by kernel_rfl, by kernel_rfl⟩⟩
def ty63 : TI := ⟨1, 8, .int .u64 0, .int .u64, 0⟩   -- uint
theorem ok63 : TIok Try.prog 63 ty63 := ⟨by kernel_rfl, by kernel_rfl, fun h => absurd rfl h⟩
def T : Types := lookupT [(3, ty3), (5, ty5), (9, ty9), (22, ty22), (24, ty24), (25, ty25), (26, ty26), (27, ty27), (29, ty29), (30, ty30), (32, ty32), (41, ty41), (44, ty44), (63, ty63)]
theorem tok : TOk Try.prog T := tok_of (tcons ok3 (tcons ok5 (tcons ok9 (tcons ok22 (tcons ok24 (tcons ok25 (tcons ok26 (tcons ok27 (tcons ok29 (tcons ok30 (tcons ok32 (tcons ok41 (tcons ok44 (tcons ok63 tnil))))))))))))))
theorem mixed : Try.prog.follows .mixedOrders = true := by kernel_rfl
def ext : Externs := extOf 41
theorem xok : XOk Try.prog ext := xok_of Try.func41 (by kernel_rfl) (by kernel_rfl) (by kernel_rfl) (by kernel_rfl)
end Go.Proofs.Ytchhpagkdaaglaa.SL
