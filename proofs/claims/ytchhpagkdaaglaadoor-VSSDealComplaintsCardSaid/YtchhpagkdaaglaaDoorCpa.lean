/- Part 21 of the proof of LawCp: Tab Fn0 Fn1 Fn2 Num NumC NumR AdvA, one behind the other. -/
import Derived.Test.YtchhpagkdaaglaaDoorCpSlU
import Derived.Test.YtchhpagkdaaglaaDoorCpSlP
import Derived.Test.YtchhpagkdaaglaaDoorProg
import Derived.Laws.MathBits
section
set_option linter.unusedVariables false
set_option linter.unusedSimpArgs false
set_option maxRecDepth 100000
namespace Go.Proofs.YtchhpagkdaaglaaDoor.SL
open Go
abbrev QT := Ending → Heap → Prop
abbrev K0T := Heap → Prop
abbrev K1T := Value → Heap → Prop
abbrev K2T := Value → Value → Heap → Prop
abbrev K3T := Value → Value → Value → Heap → Prop
abbrev K4T := Value → Value → Value → Value → Heap → Prop
abbrev K5T := Value → Value → Value → Value → Value → Heap → Prop
abbrev K6T := Value → Value → Value → Value → Value → Value → Heap → Prop
abbrev K7T := Value → Value → Value → Value → Value → Value → Value → Heap → Prop
abbrev K8T := Value → Value → Value → Value → Value → Value → Value → Value → Heap → Prop
abbrev K9T := Value → Value → Value → Value → Value → Value → Value → Value → Value → Heap → Prop
abbrev K10T := Value → Value → Value → Value → Value → Value → Value → Value → Value → Value → Heap → Prop
abbrev K11T := Value → Value → Value → Value → Value → Value → Value → Value → Value → Value → Value → Heap → Prop
abbrev K12T := Value → Value → Value → Value → Value → Value → Value → Value → Value → Value → Value → Value → Heap → Prop
abbrev K13T := Value → Value → Value → Value → Value → Value → Value → Value → Value → Value → Value → Value → Value → Heap → Prop
abbrev K14T := Value → Value → Value → Value → Value → Value → Value → Value → Value → Value → Value → Value → Value → Value → Heap → Prop
abbrev K15T := Value → Value → Value → Value → Value → Value → Value → Value → Value → Value → Value → Value → Value → Value → Value → Heap → Prop
abbrev K16T := Value → Value → Value → Value → Value → Value → Value → Value → Value → Value → Value → Value → Value → Value → Value → Value → Heap → Prop
def ty3 : TI := ⟨1, 8, .int .i64 0, .int .i64, 0⟩   -- int
theorem ok3 : TIok Tryd.prog 3 ty3 := ⟨by kernel_rfl, by kernel_rfl, fun h => absurd rfl h⟩
def ty4 : TI := ⟨1, 1, .bool false, .bool, 0⟩   -- bool
theorem ok4 : TIok Tryd.prog 4 ty4 := ⟨by kernel_rfl, by kernel_rfl, fun h => absurd rfl h⟩
def ty5 : TI := ⟨1, 1, .int .u8 0, .int .u8, 0⟩   -- uint8
theorem ok5 : TIok Tryd.prog 5 ty5 := ⟨by kernel_rfl, by kernel_rfl, fun h => absurd rfl h⟩
def ty9 : TI := ⟨1, 16, .string ByteArray.empty, .string, 0⟩   -- string
theorem ok9 : TIok Tryd.prog 9 ty9 := ⟨by kernel_rfl, by kernel_rfl, fun h => absurd rfl h⟩
def ty22 : TI := ⟨1, 8, .int .u64 0, .int .u64, 0⟩   -- uint64
theorem ok22 : TIok Tryd.prog 22 ty22 := ⟨by kernel_rfl, by kernel_rfl, fun h => absurd rfl h⟩
def ty24 : TI := ⟨3, 24, .agg #[.int .u64 0, .int .i64 0, .int .i64 0], .struct [(0, 22), (1, 3), (2, 3)], 3⟩   -- api.Params
theorem ok24 : TIok Tryd.prog 24 ty24 := ⟨by kernel_rfl, by kernel_rfl, fun h => ⟨by kernel_rfl, by kernel_rfl, by kernel_rfl, by kernel_rfl, by kernel_rfl⟩⟩
def ty25 : TI := ⟨1, 24, .slice none 0 0, .slice 3, 0⟩   -- []int
theorem ok25 : TIok Tryd.prog 25 ty25 := ⟨by kernel_rfl, by kernel_rfl, fun h => absurd rfl h⟩
def ty26 : TI := ⟨1, 24, .slice none 0 0, .slice 109, 0⟩   -- []api.Deviation
theorem ok26 : TIok Tryd.prog 26 ty26 := ⟨by kernel_rfl, by kernel_rfl, fun h => absurd rfl h⟩
def ty27 : TI := ⟨1, 24, .slice none 0 0, .slice 52, 0⟩   -- [][]uint64
theorem ok27 : TIok Tryd.prog 27 ty27 := ⟨by kernel_rfl, by kernel_rfl, fun h => absurd rfl h⟩
def ty29 : TI := ⟨6, 96, .agg #[.int .u64 0, .int .i64 0, .int .i64 0, .slice none 0 0, .slice none 0 0, .slice none 0 0], .struct [(0, 24), (3, 25), (4, 26), (5, 27)], 0⟩   -- api.Scenario
theorem ok29 : TIok Tryd.prog 29 ty29 := ⟨by kernel_rfl, by kernel_rfl, fun h => absurd rfl h⟩
def ty30 : TI := ⟨1, 24, .slice none 0 0, .slice 46, 0⟩   -- []privitylaw14.RoundSpec
theorem ok30 : TIok Tryd.prog 30 ty30 := ⟨by kernel_rfl, by kernel_rfl, fun h => absurd rfl h⟩
def ty32 : TI := ⟨7, 120, .agg #[.int .u64 0, .int .i64 0, .int .i64 0, .slice none 0 0, .slice none 0 0, .slice none 0 0, .slice none 0 0], .struct [(0, 29), (6, 30)], 0⟩   -- privitylaw14.Execution
theorem ok32 : TIok Tryd.prog 32 ty32 := ⟨by kernel_rfl, by kernel_rfl, fun h => absurd rfl h⟩
def ty35 : TI := ⟨1, 8, .pointer none, .pointer 98, 0⟩   -- *network.Net
theorem ok35 : TIok Tryd.prog 35 ty35 := ⟨by kernel_rfl, by kernel_rfl, fun h => absurd rfl h⟩
def ty36 : TI := ⟨1, 8, .int .i64 0, .int .i64, 0⟩   -- api.Errno
theorem ok36 : TIok Tryd.prog 36 ty36 := ⟨by kernel_rfl, by kernel_rfl, fun h => absurd rfl h⟩
def ty44 : TI := ⟨1, 24, .slice none 0 0, .slice 27, 0⟩   -- [][][]uint64
theorem ok44 : TIok Tryd.prog 44 ty44 := ⟨by kernel_rfl, by kernel_rfl, fun h => absurd rfl h⟩
def ty46 : TI := ⟨2, 32, .agg #[.bool false, .slice none 0 0], .struct [(0, 4), (1, 44)], 0⟩   -- privitylaw14.RoundSpec
theorem ok46 : TIok Tryd.prog 46 ty46 := ⟨by kernel_rfl, by kernel_rfl, fun h => absurd rfl h⟩
def ty49 : TI := ⟨1, 24, .slice none 0 0, .slice 90, 0⟩   -- api.View
theorem ok49 : TIok Tryd.prog 49 ty49 := ⟨by kernel_rfl, by kernel_rfl, fun h => absurd rfl h⟩
def ty52 : TI := ⟨1, 24, .slice none 0 0, .slice 22, 0⟩   -- []uint64
theorem ok52 : TIok Tryd.prog 52 ty52 := ⟨by kernel_rfl, by kernel_rfl, fun h => absurd rfl h⟩
def ty54 : TI := ⟨7, 120, .agg #[.int .u64 0, .int .i64 0, .int .i64 0, .slice none 0 0, .slice none 0 0, .slice none 0 0, .slice none 0 0], .struct [(0, 29), (6, 52)], 0⟩   -- privitylaw16.Ask
theorem ok54 : TIok Tryd.prog 54 ty54 := ⟨by kernel_rfl, by kernel_rfl, fun h => absurd rfl h⟩
def ty61 : TI := ⟨8, 144, .agg #[.int .u64 0, .int .i64 0, .int .i64 0, .slice none 0 0, .slice none 0 0, .slice none 0 0, .slice none 0 0, .slice none 0 0], .struct [(0, 29), (6, 27), (7, 25)], 0⟩   -- privitylaw17.Play
theorem ok61 : TIok Tryd.prog 61 ty61 := ⟨by kernel_rfl, by kernel_rfl, fun h => absurd rfl h⟩
def ty67 : TI := ⟨7, 120, .agg #[.int .u64 0, .int .i64 0, .int .i64 0, .slice none 0 0, .slice none 0 0, .slice none 0 0, .slice none 0 0], .struct [(0, 29), (6, 44)], 0⟩   -- privitylaw18.Dealing
theorem ok67 : TIok Tryd.prog 67 ty67 := ⟨by kernel_rfl, by kernel_rfl, fun h => absurd rfl h⟩
def ty69 : TI := ⟨1, 24, .slice none 0 0, .slice 44, 0⟩   -- [][][][]uint64
theorem ok69 : TIok Tryd.prog 69 ty69 := ⟨by kernel_rfl, by kernel_rfl, fun h => absurd rfl h⟩
def ty71 : TI := ⟨3, 72, .agg #[.slice none 0 0, .slice none 0 0, .slice none 0 0], .struct [(0, 69), (1, 69), (2, 44)], 0⟩   -- api.VSSState
theorem ok71 : TIok Tryd.prog 71 ty71 := ⟨by kernel_rfl, by kernel_rfl, fun h => absurd rfl h⟩
def ty79 : TI := ⟨2, 2, .agg #[.int .u8 0, .int .u8 0], .array 2 5, 0⟩   -- [2]uint8
theorem ok79 : TIok Tryd.prog 79 ty79 := ⟨by kernel_rfl, by kernel_rfl, fun h => absurd rfl h⟩
def ty90 : TI := ⟨3, 40, .agg #[.int .i64 0, .int .i64 0, .slice none 0 0], .struct [(0, 3), (1, 3), (2, 52)], 0⟩   -- api.Event
theorem ok90 : TIok Tryd.prog 90 ty90 := ⟨by kernel_rfl, by kernel_rfl, fun h => absurd rfl h⟩
def ty95 : TI := ⟨1, 24, .slice none 0 0, .slice 49, 0⟩   -- []api.View
theorem ok95 : TIok Tryd.prog 95 ty95 := ⟨by kernel_rfl, by kernel_rfl, fun h => absurd rfl h⟩
def ty96 : TI := ⟨1, 24, .slice none 0 0, .slice 99, 0⟩   -- []*tape.Tape
theorem ok96 : TIok Tryd.prog 96 ty96 := ⟨by kernel_rfl, by kernel_rfl, fun h => absurd rfl h⟩
def ty98 : TI := ⟨9, 152, .agg #[.int .u64 0, .int .i64 0, .int .i64 0, .slice none 0 0, .slice none 0 0, .slice none 0 0, .int .i64 0, .slice none 0 0, .slice none 0 0], .struct [(0, 29), (6, 3), (7, 95), (8, 96)], 0⟩   -- network.Net
theorem ok98 : TIok Tryd.prog 98 ty98 := ⟨by kernel_rfl, by kernel_rfl, fun h => absurd rfl h⟩
def ty99 : TI := ⟨1, 8, .pointer none, .pointer 136, 0⟩   -- *tape.Tape
theorem ok99 : TIok Tryd.prog 99 ty99 := ⟨by kernel_rfl, by kernel_rfl, fun h => absurd rfl h⟩
def ty101 : TI := ⟨1, 24, .slice none 0 0, .slice 104, 0⟩   -- []*privityref11.Tape
theorem ok101 : TIok Tryd.prog 101 ty101 := ⟨by kernel_rfl, by kernel_rfl, fun h => absurd rfl h⟩
def ty103 : TI := ⟨9, 152, .agg #[.int .u64 0, .int .i64 0, .int .i64 0, .slice none 0 0, .slice none 0 0, .slice none 0 0, .int .i64 0, .slice none 0 0, .slice none 0 0], .struct [(0, 29), (6, 3), (7, 95), (8, 101)], 0⟩   -- privityref14.Net
theorem ok103 : TIok Tryd.prog 103 ty103 := ⟨by kernel_rfl, by kernel_rfl, fun h => absurd rfl h⟩
def ty104 : TI := ⟨1, 8, .pointer none, .pointer 139, 0⟩   -- *privityref11.Tape
theorem ok104 : TIok Tryd.prog 104 ty104 := ⟨by kernel_rfl, by kernel_rfl, fun h => absurd rfl h⟩
def ty109 : TI := ⟨8, 64, .agg #[.int .i64 0, .int .i64 0, .int .i64 0, .int .i64 0, .int .i64 0, .int .u64 0, .int .i64 0, .int .i64 0], .struct [(0, 3), (1, 3), (2, 3), (3, 3), (4, 3), (5, 22), (6, 3), (7, 3)], 8⟩   -- api.Deviation
theorem ok109 : TIok Tryd.prog 109 ty109 := ⟨by kernel_rfl, by kernel_rfl, fun h => ⟨by kernel_rfl, by kernel_rfl, by kernel_rfl, by kernel_rfl, by kernel_rfl⟩⟩
def ty136 : TI := ⟨2, 32, .agg #[.slice none 0 0, .int .i64 0], .struct [(0, 52), (1, 3)], 0⟩   -- tape.Tape
theorem ok136 : TIok Tryd.prog 136 ty136 := ⟨by kernel_rfl, by kernel_rfl, fun h => absurd rfl h⟩
def ty139 : TI := ⟨2, 32, .agg #[.slice none 0 0, .int .i64 0], .struct [(0, 52), (1, 3)], 0⟩   -- privityref11.Tape
theorem ok139 : TIok Tryd.prog 139 ty139 := ⟨by kernel_rfl, by kernel_rfl, fun h => absurd rfl h⟩
def ty140 : TI := ⟨1, 24, .slice none 0 0, .slice 4, 0⟩   -- []bool
theorem ok140 : TIok Tryd.prog 140 ty140 := ⟨by kernel_rfl, by kernel_rfl, fun h => absurd rfl h⟩
def ty150 : TI := ⟨1, 8, .pointer none, .pointer 152, 0⟩   -- *vssdeal.phase
theorem ok150 : TIok Tryd.prog 150 ty150 := ⟨by kernel_rfl, by kernel_rfl, fun h => absurd rfl h⟩
def ty152 : TI := ⟨8, 128, .agg #[.pointer none, .int .u64 0, .int .i64 0, .int .i64 0, .slice none 0 0, .slice none 0 0, .slice none 0 0, .slice none 0 0], .struct [(0, 35), (1, 24), (4, 44), (5, 71)], 0⟩   -- vssdeal.phase
theorem ok152 : TIok Tryd.prog 152 ty152 := ⟨by kernel_rfl, by kernel_rfl, fun h => absurd rfl h⟩
def ty154 : TI := ⟨1, 8, .int .u64 0, .int .u64, 0⟩   -- uint
theorem ok154 : TIok Tryd.prog 154 ty154 := ⟨by kernel_rfl, by kernel_rfl, fun h => absurd rfl h⟩
def ty182 : TI := ⟨7, 56, .agg #[.int .i64 0, .int .i64 0, .int .i64 0, .int .i64 0, .int .i64 0, .int .i64 0, .int .i64 0], .array 7 3, 0⟩   -- [7]int
theorem ok182 : TIok Tryd.prog 182 ty182 := ⟨by kernel_rfl, by kernel_rfl, fun h => absurd rfl h⟩
def T : Types := lookupT [(3, ty3), (4, ty4), (5, ty5), (9, ty9), (22, ty22), (24, ty24), (25, ty25), (26, ty26), (27, ty27), (29, ty29), (30, ty30), (32, ty32), (35, ty35), (36, ty36), (44, ty44), (46, ty46), (49, ty49), (52, ty52), (54, ty54), (61, ty61), (67, ty67), (69, ty69), (71, ty71), (79, ty79), (90, ty90), (95, ty95), (96, ty96), (98, ty98), (99, ty99), (101, ty101), (103, ty103), (104, ty104), (109, ty109), (136, ty136), (139, ty139), (140, ty140), (150, ty150), (152, ty152), (154, ty154), (182, ty182)]
theorem tok : TOk Tryd.prog T := tok_of (tcons ok3 (tcons ok4 (tcons ok5 (tcons ok9 (tcons ok22 (tcons ok24 (tcons ok25 (tcons ok26 (tcons ok27 (tcons ok29 (tcons ok30 (tcons ok32 (tcons ok35 (tcons ok36 (tcons ok44 (tcons ok46 (tcons ok49 (tcons ok52 (tcons ok54 (tcons ok61 (tcons ok67 (tcons ok69 (tcons ok71 (tcons ok79 (tcons ok90 (tcons ok95 (tcons ok96 (tcons ok98 (tcons ok99 (tcons ok101 (tcons ok103 (tcons ok104 (tcons ok109 (tcons ok136 (tcons ok139 (tcons ok140 (tcons ok150 (tcons ok152 (tcons ok154 (tcons ok182 tnil))))))))))))))))))))))))))))))))))))))))
theorem mixed : Tryd.prog.follows .mixedOrders = true := by kernel_rfl
def ext : Externs := extOf 151
theorem xok : XOk Tryd.prog ext := xok_of Tryd.func151 (by kernel_rfl) (by kernel_rfl) (by kernel_rfl) (by kernel_rfl)
end Go.Proofs.YtchhpagkdaaglaaDoor.SL
end

section
set_option linter.unusedVariables false
set_option linter.unusedSimpArgs false
set_option maxRecDepth 100000
namespace Go.Proofs.YtchhpagkdaaglaaDoor.SL
open Go
def hint148 : Nat → List Nat := lookupL []
def m148_1 (H : Heap) (Q : QT) : Prop :=
Q (.returned (.int .i64 0)) H
theorem c148_1 (env : Env) (H : Heap) (Q : QT) (h : m148_1 H Q) :
    RCode Tryd.prog 16 (codeAt [1, 1] (bodyOf Tryd.f148)) env H (mkK (retK T Tryd.f148.results.toList Q) (fun _ _ _ => False) (retK T Tryd.f148.results.toList Q) (fun c H => Q (.panicked c) H)) :=
  RCode.leaf_ (T := T) (X := ext) (hint := hint148) tok xok mixed (by kernel_rfl) h
def L148_3 (x0 x5 x6 : Value) (H : Heap) (kn : K0T) (Q : QT) : Prop :=
  ∀ env : Env, env 0 = x0 → env 5 = x5 → env 6 = x6 → RLoop Tryd.prog 16 (codeAt [1, 0, 1, 0, 0] (bodyOf Tryd.f148)) env H (mkK (fun _ _ => False) (inK 0 (fun e H => kn H) (fun _ _ _ => False)) (retK T Tryd.f148.results.toList Q) (fun c H => Q (.panicked c) H))
theorem cL148_3 (env : Env) (H : Heap) (kn : K0T) (Q : QT) (h : L148_3 (env 0) (env 5) (env 6) H kn Q) :
    RCode Tryd.prog 16 (codeAt [1, 0, 1] (bodyOf Tryd.f148)) env H (mkK (fun e H => kn H) (fun _ _ _ => False) (retK T Tryd.f148.results.toList Q) (fun c H => Q (.panicked c) H)) :=
  RCode.blk (by kernel_rfl : (codeAt [1, 0, 1] (bodyOf Tryd.f148)) = .block 0 (codeAt [1, 0, 1, 0] (bodyOf Tryd.f148))) (RCode.lp (by kernel_rfl : (codeAt [1, 0, 1, 0] (bodyOf Tryd.f148)) = .loop (codeAt [1, 0, 1, 0, 0] (bodyOf Tryd.f148))) ((h env rfl rfl rfl).mono (mkK_mono (fun _ _ h => h.elim) (fun _ _ _ h => h) (fun _ _ h => h) (fun _ _ h => h))))
def m148_4 (x0 x5 x6 : Value) (H : Heap) (kn : K3T) (kx0 : K0T) (Q : QT) : Prop :=
oV (vInt .lss x6 (.int .i64 7)) fun t7_1 =>
condK t7_1 (
oV (vIndexA false 7 1 x5 x6) fun t8_2 =>
oV (vInt .shl (.int .u64 1) t8_2) fun t11_3 =>
oV (vInt .sub t11_3 (.int .u64 1)) fun t12_4 =>
oV (vInt .eql x0 t12_4) fun t13_5 =>
condK t13_5 (
Q (.returned t8_2) H) (
oV (vInt .add x6 (.int .i64 1)) fun t15_6 =>
kn x0 x5 t15_6 H)) (
kx0 H)
theorem c148_4 (env : Env) (H : Heap) (kn : K3T) (kx0 : K0T) (Q : QT) (h : m148_4 (env 0) (env 5) (env 6) H kn kx0 Q) :
    RCode Tryd.prog 16 (codeAt [1, 0, 1, 0, 0] (bodyOf Tryd.f148)) env H (mkK (fun e H => kn (e 0) (e 5) (e 6) H) (inK 0 (fun e H => kx0 H) (fun _ _ _ => False)) (retK T Tryd.f148.results.toList Q) (fun c H => Q (.panicked c) H)) :=
  RCode.leaf_ (T := T) (X := ext) (hint := hint148) tok xok mixed (by kernel_rfl) h
theorem L148_3_round (x0 x5 x6 : Value) (H : Heap) (kn : K0T) (Q : QT) (h : m148_4 x0 x5 x6 H (fun y0 y5 y6 H => L148_3 y0 y5 y6 H kn Q) kn Q) : L148_3 x0 x5 x6 H kn Q := by
  intro env h0 h5 h6
  subst h0; subst h5; subst h6
  exact RLoop.round ((c148_4 env H (fun y0 y5 y6 H => L148_3 y0 y5 y6 H kn Q) kn Q h).mono (mkK_mono (fun e H h => h e rfl rfl rfl) (fun _ _ _ h => h) (fun _ _ h => h) (fun _ _ h => h)))
def m148_2 (x0 : Value) (H : Heap) (kn : K0T) (Q : QT) : Prop :=
oV (vLoad ty182 (.pointer (some ⟨0, 0, none⟩)) H) fun t5_7 =>
L148_3 x0 t5_7 (.int .i64 0) H kn Q
theorem c148_2 (env : Env) (H : Heap) (kn : K0T) (Q : QT) (h : m148_2 (env 0) H kn Q) :
    RCode Tryd.prog 16 (codeAt [1, 0] (bodyOf Tryd.f148)) env H (mkK (fun e H => kn H) (fun _ _ _ => False) (retK T Tryd.f148.results.toList Q) (fun c H => Q (.panicked c) H)) :=
  RCode.prefix_ (T := T) (X := ext) (hint := hint148) (hole := (fun e H => L148_3 (e 0) (e 5) (e 6) H kn Q)) tok xok mixed 1 (by kernel_rfl) (by kernel_rfl : codeAt _ _ = (codeAt [1, 0, 1] (bodyOf Tryd.f148))) h
    (fun e H h => (cL148_3 e H kn Q h))
def m148 (x0 : Value) (H : Heap) (Q : QT) : Prop :=
m148_2 x0 H (fun H_8 => m148_1 H_8 Q) Q
theorem c148_0 (env : Env) (H : Heap) (Q : QT) (h : m148 (env 0) H Q) :
    RCode Tryd.prog 16 (bodyOf Tryd.f148) env H (mkK (retK T Tryd.f148.results.toList Q) (fun _ _ _ => False) (retK T Tryd.f148.results.toList Q) (fun c H => Q (.panicked c) H)) :=
  RCode.prefix_ (T := T) (X := ext) (hint := hint148) (hole := (fun e H => m148_2 (e 0) H (fun H_9 => m148_1 H_9 Q) Q)) tok xok mixed 1 (by kernel_rfl) (by kernel_rfl : codeAt _ _ = (codeAt [1] (bodyOf Tryd.f148))) h
    (fun e H h => RCode.join (by kernel_rfl : (codeAt [1] (bodyOf Tryd.f148)) = .seq (codeAt [1, 0] (bodyOf Tryd.f148)) (codeAt [1, 1] (bodyOf Tryd.f148))) ((c148_2 e H (fun H_10 => m148_1 H_10 Q) Q h).mono (mkK_mono (fun e H h => c148_1 e H Q h) (fun _ _ _ h => h) (fun _ _ h => h) (fun _ _ h => h))))
theorem call148 (a0 : Value) (H : Heap) (Q : QT) (h : m148 a0 H Q) : RCalls Tryd.prog 148 [a0] H Q :=
  RCalls.intro (nt := 16) tok Tryd.func148 (by kernel_rfl) (by kernel_rfl) (by kernel_rfl) (of_decide_eq_true (by kernel_rfl)) (c148_0 (envOf [a0]) H Q h)
def hint140 : Nat → List Nat := lookupL []
def m140 (x0 : Value) (H : Heap) (Q : QT) : Prop :=
oRC Tryd.prog 148 [x0] H (fun c H => Q (.panicked c) H) fun v_1 H_2 =>
oV (vInt .neq v_1 (.int .i64 0)) fun t5_3 =>
Q (.returned t5_3) H_2
theorem c140_0 (env : Env) (H : Heap) (Q : QT) (h : m140 (env 0) H Q) :
    RCode Tryd.prog 6 (bodyOf Tryd.f140) env H (mkK (retK T Tryd.f140.results.toList Q) (fun _ _ _ => False) (retK T Tryd.f140.results.toList Q) (fun c H => Q (.panicked c) H)) :=
  RCode.leaf_ (T := T) (X := ext) (hint := hint140) tok xok mixed (by kernel_rfl) h
theorem call140 (a0 : Value) (H : Heap) (Q : QT) (h : m140 a0 H Q) : RCalls Tryd.prog 140 [a0] H Q :=
  RCalls.intro (nt := 6) tok Tryd.func140 (by kernel_rfl) (by kernel_rfl) (by kernel_rfl) (of_decide_eq_true (by kernel_rfl)) (c140_0 (envOf [a0]) H Q h)
def hint112 : Nat → List Nat := lookupL []
def m112 (x0 : Value) (H : Heap) (Q : QT) : Prop :=
oNew (Value.cells x0).toList (Value.cells x0).toList.length 24 H fun i_1 H_2 =>
oV (vField 0 (ptrTo i_1)) fun t3_3 =>
oV (vLoad ty22 t3_3 H_2) fun t4_4 =>
oRC Tryd.prog 140 [t4_4] H_2 (fun c H => Q (.panicked c) H) fun v_5 H_6 =>
oV (gV v_5 true (vField 1 (ptrTo i_1)) (some undef)) fun t7_7 =>
oV (gV v_5 true (vLoad ty3 t7_7 H_6) (some undef)) fun t8_8 =>
oV (gV v_5 true (vInt .geq t8_8 (.int .i64 4)) (some undef)) fun t9_9 =>
oV (vPick v_5 t9_9 (.bool false)) fun t10_10 =>
oV (gV t10_10 true (vField 1 (ptrTo i_1)) (some undef)) fun t12_11 =>
oV (gV t10_10 true (vLoad ty3 t12_11 H_6) (some undef)) fun t13_12 =>
oV (gV t10_10 true (vInt .leq t13_12 (.int .i64 13)) (some undef)) fun t14_13 =>
oV (vPick t10_10 t14_13 (.bool false)) fun t15_14 =>
oV (gV t15_14 true (vField 1 (ptrTo i_1)) (some undef)) fun t17_15 =>
oV (gV t15_14 true (vLoad ty3 t17_15 H_6) (some undef)) fun t18_16 =>
oV (gV t15_14 true (vConv (.int .u64) t18_16) (some undef)) fun t19_17 =>
oV (gV t15_14 true (vField 0 (ptrTo i_1)) (some undef)) fun t20_18 =>
oV (gV t15_14 true (vLoad ty22 t20_18 H_6) (some undef)) fun t21_19 =>
oV (gV t15_14 true (vInt .lss t19_17 t21_19) (some undef)) fun t22_20 =>
oV (vPick t15_14 t22_20 (.bool false)) fun t23_21 =>
oV (gV t23_21 true (vField 2 (ptrTo i_1)) (some undef)) fun t25_22 =>
oV (gV t23_21 true (vLoad ty3 t25_22 H_6) (some undef)) fun t26_23 =>
oV (gV t23_21 true (vInt .geq t26_23 (.int .i64 1)) (some undef)) fun t27_24 =>
oV (vPick t23_21 t27_24 (.bool false)) fun t28_25 =>
oV (gV t28_25 true (vField 2 (ptrTo i_1)) (some undef)) fun t30_26 =>
oV (gV t28_25 true (vLoad ty3 t30_26 H_6) (some undef)) fun t31_27 =>
oV (gV t28_25 true (vField 1 (ptrTo i_1)) (some undef)) fun t32_28 =>
oV (gV t28_25 true (vLoad ty3 t32_28 H_6) (some undef)) fun t33_29 =>
oV (gV t28_25 true (vInt .lss t31_27 t33_29) (some undef)) fun t34_30 =>
oV (vPick t28_25 t34_30 (.bool false)) fun t35_31 =>
oV (gV t35_31 true (vField 2 (ptrTo i_1)) (some undef)) fun t37_32 =>
oV (gV t35_31 true (vLoad ty3 t37_32 H_6) (some undef)) fun t38_33 =>
oV (gV t35_31 true (vInt .mul (.int .i64 3) t38_33) (some undef)) fun t39_34 =>
oV (gV t35_31 true (vField 1 (ptrTo i_1)) (some undef)) fun t40_35 =>
oV (gV t35_31 true (vLoad ty3 t40_35 H_6) (some undef)) fun t41_36 =>
oV (gV t35_31 true (vInt .lss t39_34 t41_36) (some undef)) fun t42_37 =>
oV (vPick t35_31 t42_37 (.bool false)) fun t43_38 =>
Q (.returned t43_38) H_6
theorem c112_0 (env : Env) (H : Heap) (Q : QT) (h : m112 (env 0) H Q) :
    RCode Tryd.prog 44 (bodyOf Tryd.f112) env H (mkK (retK T Tryd.f112.results.toList Q) (fun _ _ _ => False) (retK T Tryd.f112.results.toList Q) (fun c H => Q (.panicked c) H)) :=
  RCode.leaf_ (T := T) (X := ext) (hint := hint112) tok xok mixed (by kernel_rfl) h
theorem call112 (a0 : Value) (H : Heap) (Q : QT) (h : m112 a0 H Q) : RCalls Tryd.prog 112 [a0] H Q :=
  RCalls.intro (nt := 44) tok Tryd.func112 (by kernel_rfl) (by kernel_rfl) (by kernel_rfl) (of_decide_eq_true (by kernel_rfl)) (c112_0 (envOf [a0]) H Q h)
def hint82 : Nat → List Nat := lookupL []
def m82_1 (H : Heap) (Q : QT) : Prop :=
Q (.returned (.bool true)) H
theorem c82_1 (env : Env) (H : Heap) (Q : QT) (h : m82_1 H Q) :
    RCode Tryd.prog 46 (codeAt [1, 1, 1] (bodyOf Tryd.f82)) env H (mkK (retK T Tryd.f82.results.toList Q) (fun _ _ _ => False) (retK T Tryd.f82.results.toList Q) (fun c H => Q (.panicked c) H)) :=
  RCode.leaf_ (T := T) (X := ext) (hint := hint82) tok xok mixed (by kernel_rfl) h
def L82_3 (x1 x2 x17 x18 x19 : Value) (H : Heap) (kn : K0T) (Q : QT) : Prop :=
  ∀ env : Env, env 1 = x1 → env 2 = x2 → env 17 = x17 → env 18 = x18 → env 19 = x19 → RLoop Tryd.prog 46 (codeAt [1, 1, 0, 1, 0, 0] (bodyOf Tryd.f82)) env H (mkK (fun _ _ => False) (inK 0 (fun e H => kn H) (fun _ _ _ => False)) (retK T Tryd.f82.results.toList Q) (fun c H => Q (.panicked c) H))
theorem cL82_3 (env : Env) (H : Heap) (kn : K0T) (Q : QT) (h : L82_3 (env 1) (env 2) (env 17) (env 18) (env 19) H kn Q) :
    RCode Tryd.prog 46 (codeAt [1, 1, 0, 1] (bodyOf Tryd.f82)) env H (mkK (fun e H => kn H) (fun _ _ _ => False) (retK T Tryd.f82.results.toList Q) (fun c H => Q (.panicked c) H)) :=
  RCode.blk (by kernel_rfl : (codeAt [1, 1, 0, 1] (bodyOf Tryd.f82)) = .block 0 (codeAt [1, 1, 0, 1, 0] (bodyOf Tryd.f82))) (RCode.lp (by kernel_rfl : (codeAt [1, 1, 0, 1, 0] (bodyOf Tryd.f82)) = .loop (codeAt [1, 1, 0, 1, 0, 0] (bodyOf Tryd.f82))) ((h env rfl rfl rfl rfl rfl).mono (mkK_mono (fun _ _ h => h.elim) (fun _ _ _ h => h) (fun _ _ h => h) (fun _ _ h => h))))
def m82_4 (x1 x2 x17 x18 x19 : Value) (H : Heap) (kn : K5T) (kx0 : K0T) (Q : QT) : Prop :=
oV (vInt .lss x19 x18) fun t20_1 =>
condK t20_1 (
oV (vIdxS 1 x17 x19) fun t22_2 =>
oV (vLoad ty3 t22_2 H) fun t23_3 =>
oV (vInt .lss t23_3 (.int .i64 1)) fun t25_4 =>
oV (gV t25_4 false (some t23_3) (some undef)) fun t27_5 =>
oV (gV t25_4 false (vField 1 x2) (some undef)) fun t28_6 =>
oV (gV t25_4 false (vLoad ty3 t28_6 H) (some undef)) fun t29_7 =>
oV (gV t25_4 false (vInt .gtr t27_5 t29_7) (some undef)) fun t30_8 =>
oV (vPick t25_4 (.bool true) t30_8) fun t31_9 =>
oV (gV t31_9 false (some x19) (some undef)) fun t33_10 =>
oV (gV t31_9 false (vInt .gtr t33_10 (.int .i64 0)) (some undef)) fun t34_11 =>
oV (gV t31_9 false (some t34_11) (some undef)) fun t35_12 =>
oV (gV t35_12 true (some x1) (some undef)) fun t36_13 =>
oV (gV t35_12 true (some x19) (some undef)) fun t37_14 =>
oV (gV t35_12 true (vInt .sub t37_14 (.int .i64 1)) (some undef)) fun t38_15 =>
oV (gV t35_12 true (vIdxS 1 t36_13 t38_15) (some undef)) fun t39_16 =>
oV (gV t35_12 true (vLoad ty3 t39_16 H) (some undef)) fun t40_17 =>
oV (gV t35_12 true (some t23_3) (some undef)) fun t41_18 =>
oV (gV t35_12 true (vInt .geq t40_17 t41_18) (some undef)) fun t42_19 =>
oV (gV t31_9 false (vPick t35_12 t42_19 (.bool false)) (some undef)) fun t43_20 =>
oV (vPick t31_9 (.bool true) t43_20) fun t44_21 =>
condK t44_21 (
Q (.returned (.bool false)) H) (
oV (vInt .add x19 (.int .i64 1)) fun t45_22 =>
kn x1 x2 x17 x18 t45_22 H)) (
kx0 H)
theorem c82_4 (env : Env) (H : Heap) (kn : K5T) (kx0 : K0T) (Q : QT) (h : m82_4 (env 1) (env 2) (env 17) (env 18) (env 19) H kn kx0 Q) :
    RCode Tryd.prog 46 (codeAt [1, 1, 0, 1, 0, 0] (bodyOf Tryd.f82)) env H (mkK (fun e H => kn (e 1) (e 2) (e 17) (e 18) (e 19) H) (inK 0 (fun e H => kx0 H) (fun _ _ _ => False)) (retK T Tryd.f82.results.toList Q) (fun c H => Q (.panicked c) H)) :=
  RCode.leaf_ (T := T) (X := ext) (hint := hint82) tok xok mixed (by kernel_rfl) h
theorem L82_3_round (x1 x2 x17 x18 x19 : Value) (H : Heap) (kn : K0T) (Q : QT) (h : m82_4 x1 x2 x17 x18 x19 H (fun y1 y2 y17 y18 y19 H => L82_3 y1 y2 y17 y18 y19 H kn Q) kn Q) : L82_3 x1 x2 x17 x18 x19 H kn Q := by
  intro env h1 h2 h17 h18 h19
  subst h1; subst h2; subst h17; subst h18; subst h19
  exact RLoop.round ((c82_4 env H (fun y1 y2 y17 y18 y19 H => L82_3 y1 y2 y17 y18 y19 H kn Q) kn Q h).mono (mkK_mono (fun e H h => h e rfl rfl rfl rfl rfl) (fun _ _ _ h => h) (fun _ _ h => h) (fun _ _ h => h)))
def m82_2 (x1 x2 : Value) (H : Heap) (kn : K0T) (Q : QT) : Prop :=
oV (vLen x1) fun t18_23 =>
L82_3 x1 x2 x1 t18_23 (.int .i64 0) H kn Q
theorem c82_2 (env : Env) (H : Heap) (kn : K0T) (Q : QT) (h : m82_2 (env 1) (env 2) H kn Q) :
    RCode Tryd.prog 46 (codeAt [1, 1, 0] (bodyOf Tryd.f82)) env H (mkK (fun e H => kn H) (fun _ _ _ => False) (retK T Tryd.f82.results.toList Q) (fun c H => Q (.panicked c) H)) :=
  RCode.prefix_ (T := T) (X := ext) (hint := hint82) (hole := (fun e H => L82_3 (e 1) (e 2) (e 17) (e 18) (e 19) H kn Q)) tok xok mixed 1 (by kernel_rfl) (by kernel_rfl : codeAt _ _ = (codeAt [1, 1, 0, 1] (bodyOf Tryd.f82))) h
    (fun e H h => (cL82_3 e H kn Q h))
def m82 (x0 x1 : Value) (H : Heap) (Q : QT) : Prop :=
oNew (Value.cells x0).toList (Value.cells x0).toList.length 24 H fun i_24 H_25 =>
oV (vLoad ty24 (ptrTo i_24) H_25) fun t7_26 =>
oRC Tryd.prog 112 [t7_26] H_25 (fun c H => Q (.panicked c) H) fun v_27 H_28 =>
oV (vUn .not v_27) fun t9_29 =>
oV (gV t9_29 false (some x1) (some undef)) fun t11_30 =>
oV (gV t9_29 false (vLen t11_30) (some undef)) fun t12_31 =>
oV (gV t9_29 false (vField 2 (ptrTo i_24)) (some undef)) fun t13_32 =>
oV (gV t9_29 false (vLoad ty3 t13_32 H_28) (some undef)) fun t14_33 =>
oV (gV t9_29 false (vInt .gtr t12_31 t14_33) (some undef)) fun t15_34 =>
oV (vPick t9_29 (.bool true) t15_34) fun t16_35 =>
condK t16_35 (
Q (.returned (.bool false)) H_28) (
m82_2 x1 (ptrTo i_24) H_28 (fun H_36 => m82_1 H_36 Q) Q)
theorem c82_0 (env : Env) (H : Heap) (Q : QT) (h : m82 (env 0) (env 1) H Q) :
    RCode Tryd.prog 46 (bodyOf Tryd.f82) env H (mkK (retK T Tryd.f82.results.toList Q) (fun _ _ _ => False) (retK T Tryd.f82.results.toList Q) (fun c H => Q (.panicked c) H)) :=
  RCode.prefix_ (T := T) (X := ext) (hint := hint82) (hole := (fun e H => m82_2 (e 1) (e 2) H (fun H_37 => m82_1 H_37 Q) Q)) tok xok mixed 2 (by kernel_rfl) (by kernel_rfl : codeAt _ _ = (codeAt [1, 1] (bodyOf Tryd.f82))) h
    (fun e H h => RCode.join (by kernel_rfl : (codeAt [1, 1] (bodyOf Tryd.f82)) = .seq (codeAt [1, 1, 0] (bodyOf Tryd.f82)) (codeAt [1, 1, 1] (bodyOf Tryd.f82))) ((c82_2 e H (fun H_38 => m82_1 H_38 Q) Q h).mono (mkK_mono (fun e H h => c82_1 e H Q h) (fun _ _ _ h => h) (fun _ _ h => h) (fun _ _ h => h))))
theorem call82 (a0 a1 : Value) (H : Heap) (Q : QT) (h : m82 a0 a1 H Q) : RCalls Tryd.prog 82 [a0, a1] H Q :=
  RCalls.intro (nt := 46) tok Tryd.func82 (by kernel_rfl) (by kernel_rfl) (by kernel_rfl) (of_decide_eq_true (by kernel_rfl)) (c82_0 (envOf [a0, a1]) H Q h)
def hint85 : Nat → List Nat := lookupL []
def m85 (x0 x1 : Value) (H : Heap) (Q : QT) : Prop :=
oNew (Value.cells x0).toList (Value.cells x0).toList.length 24 H fun i_1 H_2 =>
oNew (Value.cells x1).toList (Value.cells x1).toList.length 109 H_2 fun i_3 H_4 =>
oV (vField 4 (ptrTo i_3)) fun t6_5 =>
oV (vLoad ty3 t6_5 H_4) fun t7_6 =>
oV (vInt .eql t7_6 (.int .i64 3)) fun t8_7 =>
condK t8_7 (
oV (vField 0 (ptrTo i_3)) fun t9_8 =>
oV (vLoad ty3 t9_8 H_4) fun t10_9 =>
oV (vInt .geq t10_9 (.int .i64 0)) fun t11_10 =>
oV (gV t11_10 true (vField 3 (ptrTo i_3)) (some undef)) fun t13_11 =>
oV (gV t11_10 true (vLoad ty3 t13_11 H_4) (some undef)) fun t14_12 =>
oV (gV t11_10 true (vInt .geq t14_12 (.int .i64 0)) (some undef)) fun t15_13 =>
oV (vPick t11_10 t15_13 (.bool false)) fun t16_14 =>
oV (gV t16_14 true (vField 7 (ptrTo i_3)) (some undef)) fun t18_15 =>
oV (gV t16_14 true (vLoad ty3 t18_15 H_4) (some undef)) fun t19_16 =>
oV (gV t16_14 true (vInt .geq t19_16 (.int .i64 0)) (some undef)) fun t20_17 =>
oV (vPick t16_14 t20_17 (.bool false)) fun t21_18 =>
oV (gV t21_18 true (vField 1 (ptrTo i_3)) (some undef)) fun t23_19 =>
oV (gV t21_18 true (vLoad ty3 t23_19 H_4) (some undef)) fun t24_20 =>
oV (gV t21_18 true (vInt .geq t24_20 (.int .i64 1)) (some undef)) fun t25_21 =>
oV (vPick t21_18 t25_21 (.bool false)) fun t26_22 =>
oV (gV t26_22 true (vField 1 (ptrTo i_3)) (some undef)) fun t28_23 =>
oV (gV t26_22 true (vLoad ty3 t28_23 H_4) (some undef)) fun t29_24 =>
oV (gV t26_22 true (vField 1 (ptrTo i_1)) (some undef)) fun t30_25 =>
oV (gV t26_22 true (vLoad ty3 t30_25 H_4) (some undef)) fun t31_26 =>
oV (gV t26_22 true (vInt .leq t29_24 t31_26) (some undef)) fun t32_27 =>
oV (vPick t26_22 t32_27 (.bool false)) fun t33_28 =>
oV (gV t33_28 true (vField 2 (ptrTo i_3)) (some undef)) fun t35_29 =>
oV (gV t33_28 true (vLoad ty3 t35_29 H_4) (some undef)) fun t36_30 =>
oV (gV t33_28 true (vInt .geq t36_30 (.int .i64 0)) (some undef)) fun t37_31 =>
oV (vPick t33_28 t37_31 (.bool false)) fun t38_32 =>
oV (gV t38_32 true (vField 2 (ptrTo i_3)) (some undef)) fun t40_33 =>
oV (gV t38_32 true (vLoad ty3 t40_33 H_4) (some undef)) fun t41_34 =>
oV (gV t38_32 true (vField 1 (ptrTo i_1)) (some undef)) fun t42_35 =>
oV (gV t38_32 true (vLoad ty3 t42_35 H_4) (some undef)) fun t43_36 =>
oV (gV t38_32 true (vInt .leq t41_34 t43_36) (some undef)) fun t44_37 =>
oV (vPick t38_32 t44_37 (.bool false)) fun t45_38 =>
oV (gV t45_38 true (vField 4 (ptrTo i_3)) (some undef)) fun t47_39 =>
oV (gV t45_38 true (vLoad ty3 t47_39 H_4) (some undef)) fun t48_40 =>
oV (gV t45_38 true (vInt .geq t48_40 (.int .i64 1)) (some undef)) fun t49_41 =>
oV (vPick t45_38 t49_41 (.bool false)) fun t50_42 =>
oV (gV t50_42 true (vField 4 (ptrTo i_3)) (some undef)) fun t52_43 =>
oV (gV t50_42 true (vLoad ty3 t52_43 H_4) (some undef)) fun t53_44 =>
oV (gV t50_42 true (vInt .leq t53_44 (.int .i64 4)) (some undef)) fun t54_45 =>
oV (vPick t50_42 t54_45 (.bool false)) fun t55_46 =>
oV (gV t55_46 true (vField 6 (ptrTo i_3)) (some undef)) fun t57_47 =>
oV (gV t55_46 true (vLoad ty3 t57_47 H_4) (some undef)) fun t58_48 =>
oV (gV t55_46 true (some (.int .i64 1)) (some undef)) fun t59_49 =>
oV (gV t55_46 true (vInt .geq t58_48 t59_49) (some undef)) fun t60_50 =>
oV (vPick t55_46 t60_50 (.bool false)) fun t61_51 =>
oV (gV t61_51 true (vField 6 (ptrTo i_3)) (some undef)) fun t63_52 =>
oV (gV t61_51 true (vLoad ty3 t63_52 H_4) (some undef)) fun t64_53 =>
oV (gV t61_51 true (vField 1 (ptrTo i_1)) (some undef)) fun t65_54 =>
oV (gV t61_51 true (vLoad ty3 t65_54 H_4) (some undef)) fun t66_55 =>
oV (gV t61_51 true (vInt .leq t64_53 t66_55) (some undef)) fun t67_56 =>
oV (vPick t61_51 t67_56 (.bool false)) fun t68_57 =>
Q (.returned t68_57) H_4) (
oV (vField 0 (ptrTo i_3)) fun t9_58 =>
oV (vLoad ty3 t9_58 H_4) fun t10_59 =>
oV (vInt .geq t10_59 (.int .i64 0)) fun t11_60 =>
oV (gV t11_60 true (vField 3 (ptrTo i_3)) (some undef)) fun t13_61 =>
oV (gV t11_60 true (vLoad ty3 t13_61 H_4) (some undef)) fun t14_62 =>
oV (gV t11_60 true (vInt .geq t14_62 (.int .i64 0)) (some undef)) fun t15_63 =>
oV (vPick t11_60 t15_63 (.bool false)) fun t16_64 =>
oV (gV t16_64 true (vField 7 (ptrTo i_3)) (some undef)) fun t18_65 =>
oV (gV t16_64 true (vLoad ty3 t18_65 H_4) (some undef)) fun t19_66 =>
oV (gV t16_64 true (vInt .geq t19_66 (.int .i64 0)) (some undef)) fun t20_67 =>
oV (vPick t16_64 t20_67 (.bool false)) fun t21_68 =>
oV (gV t21_68 true (vField 1 (ptrTo i_3)) (some undef)) fun t23_69 =>
oV (gV t21_68 true (vLoad ty3 t23_69 H_4) (some undef)) fun t24_70 =>
oV (gV t21_68 true (vInt .geq t24_70 (.int .i64 1)) (some undef)) fun t25_71 =>
oV (vPick t21_68 t25_71 (.bool false)) fun t26_72 =>
oV (gV t26_72 true (vField 1 (ptrTo i_3)) (some undef)) fun t28_73 =>
oV (gV t26_72 true (vLoad ty3 t28_73 H_4) (some undef)) fun t29_74 =>
oV (gV t26_72 true (vField 1 (ptrTo i_1)) (some undef)) fun t30_75 =>
oV (gV t26_72 true (vLoad ty3 t30_75 H_4) (some undef)) fun t31_76 =>
oV (gV t26_72 true (vInt .leq t29_74 t31_76) (some undef)) fun t32_77 =>
oV (vPick t26_72 t32_77 (.bool false)) fun t33_78 =>
oV (gV t33_78 true (vField 2 (ptrTo i_3)) (some undef)) fun t35_79 =>
oV (gV t33_78 true (vLoad ty3 t35_79 H_4) (some undef)) fun t36_80 =>
oV (gV t33_78 true (vInt .geq t36_80 (.int .i64 0)) (some undef)) fun t37_81 =>
oV (vPick t33_78 t37_81 (.bool false)) fun t38_82 =>
oV (gV t38_82 true (vField 2 (ptrTo i_3)) (some undef)) fun t40_83 =>
oV (gV t38_82 true (vLoad ty3 t40_83 H_4) (some undef)) fun t41_84 =>
oV (gV t38_82 true (vField 1 (ptrTo i_1)) (some undef)) fun t42_85 =>
oV (gV t38_82 true (vLoad ty3 t42_85 H_4) (some undef)) fun t43_86 =>
oV (gV t38_82 true (vInt .leq t41_84 t43_86) (some undef)) fun t44_87 =>
oV (vPick t38_82 t44_87 (.bool false)) fun t45_88 =>
oV (gV t45_88 true (vField 4 (ptrTo i_3)) (some undef)) fun t47_89 =>
oV (gV t45_88 true (vLoad ty3 t47_89 H_4) (some undef)) fun t48_90 =>
oV (gV t45_88 true (vInt .geq t48_90 (.int .i64 1)) (some undef)) fun t49_91 =>
oV (vPick t45_88 t49_91 (.bool false)) fun t50_92 =>
oV (gV t50_92 true (vField 4 (ptrTo i_3)) (some undef)) fun t52_93 =>
oV (gV t50_92 true (vLoad ty3 t52_93 H_4) (some undef)) fun t53_94 =>
oV (gV t50_92 true (vInt .leq t53_94 (.int .i64 4)) (some undef)) fun t54_95 =>
oV (vPick t50_92 t54_95 (.bool false)) fun t55_96 =>
oV (gV t55_96 true (vField 6 (ptrTo i_3)) (some undef)) fun t57_97 =>
oV (gV t55_96 true (vLoad ty3 t57_97 H_4) (some undef)) fun t58_98 =>
oV (gV t55_96 true (some (.int .i64 0)) (some undef)) fun t59_99 =>
oV (gV t55_96 true (vInt .geq t58_98 t59_99) (some undef)) fun t60_100 =>
oV (vPick t55_96 t60_100 (.bool false)) fun t61_101 =>
oV (gV t61_101 true (vField 6 (ptrTo i_3)) (some undef)) fun t63_102 =>
oV (gV t61_101 true (vLoad ty3 t63_102 H_4) (some undef)) fun t64_103 =>
oV (gV t61_101 true (vField 1 (ptrTo i_1)) (some undef)) fun t65_104 =>
oV (gV t61_101 true (vLoad ty3 t65_104 H_4) (some undef)) fun t66_105 =>
oV (gV t61_101 true (vInt .leq t64_103 t66_105) (some undef)) fun t67_106 =>
oV (vPick t61_101 t67_106 (.bool false)) fun t68_107 =>
Q (.returned t68_107) H_4)
theorem c85_0 (env : Env) (H : Heap) (Q : QT) (h : m85 (env 0) (env 1) H Q) :
    RCode Tryd.prog 69 (bodyOf Tryd.f85) env H (mkK (retK T Tryd.f85.results.toList Q) (fun _ _ _ => False) (retK T Tryd.f85.results.toList Q) (fun c H => Q (.panicked c) H)) :=
  RCode.leaf_ (T := T) (X := ext) (hint := hint85) tok xok mixed (by kernel_rfl) h
theorem call85 (a0 a1 : Value) (H : Heap) (Q : QT) (h : m85 a0 a1 H Q) : RCalls Tryd.prog 85 [a0, a1] H Q :=
  RCalls.intro (nt := 69) tok Tryd.func85 (by kernel_rfl) (by kernel_rfl) (by kernel_rfl) (of_decide_eq_true (by kernel_rfl)) (c85_0 (envOf [a0, a1]) H Q h)
def hint84 : Nat → List Nat := lookupL []
def m84 (x0 x1 : Value) (H : Heap) (Q : QT) : Prop :=
oNew (Value.cells x0).toList (Value.cells x0).toList.length 109 H fun i_1 H_2 =>
oV (vField 0 x1) fun t4_3 =>
oV (vLoad ty24 t4_3 H_2) fun t5_4 =>
oV (vLoad ty109 (ptrTo i_1) H_2) fun t6_5 =>
oRC Tryd.prog 85 [t5_4, t6_5] H_2 (fun c H => Q (.panicked c) H) fun v_6 H_7 =>
oV (vUn .not v_6) fun t8_8 =>
Q (.returned t8_8) H_7
theorem c84_0 (env : Env) (H : Heap) (Q : QT) (h : m84 (env 0) (env 1) H Q) :
    RCode Tryd.prog 9 (bodyOf Tryd.f84) env H (mkK (retK T Tryd.f84.results.toList Q) (fun _ _ _ => False) (retK T Tryd.f84.results.toList Q) (fun c H => Q (.panicked c) H)) :=
  RCode.leaf_ (T := T) (X := ext) (hint := hint84) tok xok mixed (by kernel_rfl) h
theorem call84 (a0 a1 : Value) (H : Heap) (Q : QT) (h : m84 a0 a1 H Q) : RCalls Tryd.prog 84 [a0, a1] H Q :=
  RCalls.intro (nt := 9) tok Tryd.func84 (by kernel_rfl) (by kernel_rfl) (by kernel_rfl) (of_decide_eq_true (by kernel_rfl)) (c84_0 (envOf [a0, a1]) H Q h)
def hint113 : Nat → List Nat := lookupL []
def m113_1 (H : Heap) (Q : QT) : Prop :=
Q (.returned (.int .i64 (-1))) H
theorem c113_1 (env : Env) (H : Heap) (Q : QT) (h : m113_1 H Q) :
    RCode Tryd.prog 19 (codeAt [1, 1] (bodyOf Tryd.f113)) env H (mkK (retK T Tryd.f113.results.toList Q) (fun _ _ _ => False) (retK T Tryd.f113.results.toList Q) (fun c H => Q (.panicked c) H)) :=
  RCode.leaf_ (T := T) (X := ext) (hint := hint113) tok xok mixed (by kernel_rfl) h
def L113_3 (x0 x1 x7 x8 : Value) (H : Heap) (kn : K0T) (Q : QT) : Prop :=
  ∀ env : Env, env 0 = x0 → env 1 = x1 → env 7 = x7 → env 8 = x8 → RLoop Tryd.prog 19 (codeAt [1, 0, 1, 0, 0] (bodyOf Tryd.f113)) env H (mkK (fun _ _ => False) (inK 0 (fun e H => kn H) (fun _ _ _ => False)) (retK T Tryd.f113.results.toList Q) (fun c H => Q (.panicked c) H))
theorem cL113_3 (env : Env) (H : Heap) (kn : K0T) (Q : QT) (h : L113_3 (env 0) (env 1) (env 7) (env 8) H kn Q) :
    RCode Tryd.prog 19 (codeAt [1, 0, 1] (bodyOf Tryd.f113)) env H (mkK (fun e H => kn H) (fun _ _ _ => False) (retK T Tryd.f113.results.toList Q) (fun c H => Q (.panicked c) H)) :=
  RCode.blk (by kernel_rfl : (codeAt [1, 0, 1] (bodyOf Tryd.f113)) = .block 0 (codeAt [1, 0, 1, 0] (bodyOf Tryd.f113))) (RCode.lp (by kernel_rfl : (codeAt [1, 0, 1, 0] (bodyOf Tryd.f113)) = .loop (codeAt [1, 0, 1, 0, 0] (bodyOf Tryd.f113))) ((h env rfl rfl rfl rfl).mono (mkK_mono (fun _ _ h => h.elim) (fun _ _ _ h => h) (fun _ _ h => h) (fun _ _ h => h))))
def m113_4 (x0 x1 x7 x8 : Value) (H : Heap) (kn : K4T) (kx0 : K0T) (Q : QT) : Prop :=
oV (vInt .lss x8 x7) fun t9_1 =>
condK t9_1 (
oV (vIdxS 8 x0 x8) fun t14_2 =>
oV (vLoad ty109 t14_2 H) fun t15_3 =>
oCl ext Tryd.prog x1 [t15_3] H (fun c H => Q (.panicked c) H) fun v_4 H_5 =>
condK v_4 (
Q (.returned x8) H_5) (
oV (vInt .add x8 (.int .i64 1)) fun t18_6 =>
kn x0 x1 x7 t18_6 H_5)) (
kx0 H)
theorem c113_4 (env : Env) (H : Heap) (kn : K4T) (kx0 : K0T) (Q : QT) (h : m113_4 (env 0) (env 1) (env 7) (env 8) H kn kx0 Q) :
    RCode Tryd.prog 19 (codeAt [1, 0, 1, 0, 0] (bodyOf Tryd.f113)) env H (mkK (fun e H => kn (e 0) (e 1) (e 7) (e 8) H) (inK 0 (fun e H => kx0 H) (fun _ _ _ => False)) (retK T Tryd.f113.results.toList Q) (fun c H => Q (.panicked c) H)) :=
  RCode.leaf_ (T := T) (X := ext) (hint := hint113) tok xok mixed (by kernel_rfl) h
theorem L113_3_round (x0 x1 x7 x8 : Value) (H : Heap) (kn : K0T) (Q : QT) (h : m113_4 x0 x1 x7 x8 H (fun y0 y1 y7 y8 H => L113_3 y0 y1 y7 y8 H kn Q) kn Q) : L113_3 x0 x1 x7 x8 H kn Q := by
  intro env h0 h1 h7 h8
  subst h0; subst h1; subst h7; subst h8
  exact RLoop.round ((c113_4 env H (fun y0 y1 y7 y8 H => L113_3 y0 y1 y7 y8 H kn Q) kn Q h).mono (mkK_mono (fun e H h => h e rfl rfl rfl rfl) (fun _ _ _ h => h) (fun _ _ h => h) (fun _ _ h => h)))
def m113_2 (x0 x1 : Value) (H : Heap) (kn : K0T) (Q : QT) : Prop :=
oV (vLen x0) fun t7_7 =>
L113_3 x0 x1 t7_7 (.int .i64 0) H kn Q
theorem c113_2 (env : Env) (H : Heap) (kn : K0T) (Q : QT) (h : m113_2 (env 0) (env 1) H kn Q) :
    RCode Tryd.prog 19 (codeAt [1, 0] (bodyOf Tryd.f113)) env H (mkK (fun e H => kn H) (fun _ _ _ => False) (retK T Tryd.f113.results.toList Q) (fun c H => Q (.panicked c) H)) :=
  RCode.prefix_ (T := T) (X := ext) (hint := hint113) (hole := (fun e H => L113_3 (e 0) (e 1) (e 7) (e 8) H kn Q)) tok xok mixed 1 (by kernel_rfl) (by kernel_rfl : codeAt _ _ = (codeAt [1, 0, 1] (bodyOf Tryd.f113))) h
    (fun e H h => (cL113_3 e H kn Q h))
def m113 (x0 x1 : Value) (H : Heap) (Q : QT) : Prop :=
m113_2 x0 x1 H (fun H_8 => m113_1 H_8 Q) Q
theorem c113_0 (env : Env) (H : Heap) (Q : QT) (h : m113 (env 0) (env 1) H Q) :
    RCode Tryd.prog 19 (bodyOf Tryd.f113) env H (mkK (retK T Tryd.f113.results.toList Q) (fun _ _ _ => False) (retK T Tryd.f113.results.toList Q) (fun c H => Q (.panicked c) H)) :=
  RCode.prefix_ (T := T) (X := ext) (hint := hint113) (hole := (fun e H => m113_2 (e 0) (e 1) H (fun H_9 => m113_1 H_9 Q) Q)) tok xok mixed 1 (by kernel_rfl) (by kernel_rfl : codeAt _ _ = (codeAt [1] (bodyOf Tryd.f113))) h
    (fun e H h => RCode.join (by kernel_rfl : (codeAt [1] (bodyOf Tryd.f113)) = .seq (codeAt [1, 0] (bodyOf Tryd.f113)) (codeAt [1, 1] (bodyOf Tryd.f113))) ((c113_2 e H (fun H_10 => m113_1 H_10 Q) Q h).mono (mkK_mono (fun e H h => c113_1 e H Q h) (fun _ _ _ h => h) (fun _ _ h => h) (fun _ _ h => h))))
theorem call113 (a0 a1 : Value) (H : Heap) (Q : QT) (h : m113 a0 a1 H Q) : RCalls Tryd.prog 113 [a0, a1] H Q :=
  RCalls.intro (nt := 19) tok Tryd.func113 (by kernel_rfl) (by kernel_rfl) (by kernel_rfl) (of_decide_eq_true (by kernel_rfl)) (c113_0 (envOf [a0, a1]) H Q h)
def hint83 : Nat → List Nat := lookupL []
def m83 (x0 x1 : Value) (H : Heap) (Q : QT) : Prop :=
oRC Tryd.prog 113 [x0, x1] H (fun c H => Q (.panicked c) H) fun v_1 H_2 =>
oV (vInt .geq v_1 (.int .i64 0)) fun t8_3 =>
Q (.returned t8_3) H_2
theorem c83_0 (env : Env) (H : Heap) (Q : QT) (h : m83 (env 0) (env 1) H Q) :
    RCode Tryd.prog 9 (bodyOf Tryd.f83) env H (mkK (retK T Tryd.f83.results.toList Q) (fun _ _ _ => False) (retK T Tryd.f83.results.toList Q) (fun c H => Q (.panicked c) H)) :=
  RCode.leaf_ (T := T) (X := ext) (hint := hint83) tok xok mixed (by kernel_rfl) h
theorem call83 (a0 a1 : Value) (H : Heap) (Q : QT) (h : m83 a0 a1 H Q) : RCalls Tryd.prog 83 [a0, a1] H Q :=
  RCalls.intro (nt := 9) tok Tryd.func83 (by kernel_rfl) (by kernel_rfl) (by kernel_rfl) (of_decide_eq_true (by kernel_rfl)) (c83_0 (envOf [a0, a1]) H Q h)
def hint89 : Nat → List Nat := lookupL []
def m89 (x0 x1 : Value) (H : Heap) (Q : QT) : Prop :=
oV (vField 0 x1) fun t5_1 =>
oV (vField 0 t5_1) fun t6_2 =>
oV (vLoad ty22 t6_2 H) fun t7_3 =>
oV (vInt .geq x0 t7_3) fun t8_4 =>
Q (.returned t8_4) H
theorem c89_0 (env : Env) (H : Heap) (Q : QT) (h : m89 (env 0) (env 1) H Q) :
    RCode Tryd.prog 9 (bodyOf Tryd.f89) env H (mkK (retK T Tryd.f89.results.toList Q) (fun _ _ _ => False) (retK T Tryd.f89.results.toList Q) (fun c H => Q (.panicked c) H)) :=
  RCode.leaf_ (T := T) (X := ext) (hint := hint89) tok xok mixed (by kernel_rfl) h
theorem call89 (a0 a1 : Value) (H : Heap) (Q : QT) (h : m89 a0 a1 H Q) : RCalls Tryd.prog 89 [a0, a1] H Q :=
  RCalls.intro (nt := 9) tok Tryd.func89 (by kernel_rfl) (by kernel_rfl) (by kernel_rfl) (of_decide_eq_true (by kernel_rfl)) (c89_0 (envOf [a0, a1]) H Q h)
def hint115 : Nat → List Nat := lookupL []
def m115_1 (H : Heap) (Q : QT) : Prop :=
Q (.returned (.int .i64 (-1))) H
theorem c115_1 (env : Env) (H : Heap) (Q : QT) (h : m115_1 H Q) :
    RCode Tryd.prog 19 (codeAt [1, 1] (bodyOf Tryd.f115)) env H (mkK (retK T Tryd.f115.results.toList Q) (fun _ _ _ => False) (retK T Tryd.f115.results.toList Q) (fun c H => Q (.panicked c) H)) :=
  RCode.leaf_ (T := T) (X := ext) (hint := hint115) tok xok mixed (by kernel_rfl) h
def L115_3 (x0 x1 x7 x8 : Value) (H : Heap) (kn : K0T) (Q : QT) : Prop :=
  ∀ env : Env, env 0 = x0 → env 1 = x1 → env 7 = x7 → env 8 = x8 → RLoop Tryd.prog 19 (codeAt [1, 0, 1, 0, 0] (bodyOf Tryd.f115)) env H (mkK (fun _ _ => False) (inK 0 (fun e H => kn H) (fun _ _ _ => False)) (retK T Tryd.f115.results.toList Q) (fun c H => Q (.panicked c) H))
theorem cL115_3 (env : Env) (H : Heap) (kn : K0T) (Q : QT) (h : L115_3 (env 0) (env 1) (env 7) (env 8) H kn Q) :
    RCode Tryd.prog 19 (codeAt [1, 0, 1] (bodyOf Tryd.f115)) env H (mkK (fun e H => kn H) (fun _ _ _ => False) (retK T Tryd.f115.results.toList Q) (fun c H => Q (.panicked c) H)) :=
  RCode.blk (by kernel_rfl : (codeAt [1, 0, 1] (bodyOf Tryd.f115)) = .block 0 (codeAt [1, 0, 1, 0] (bodyOf Tryd.f115))) (RCode.lp (by kernel_rfl : (codeAt [1, 0, 1, 0] (bodyOf Tryd.f115)) = .loop (codeAt [1, 0, 1, 0, 0] (bodyOf Tryd.f115))) ((h env rfl rfl rfl rfl).mono (mkK_mono (fun _ _ h => h.elim) (fun _ _ _ h => h) (fun _ _ h => h) (fun _ _ h => h))))
def m115_4 (x0 x1 x7 x8 : Value) (H : Heap) (kn : K4T) (kx0 : K0T) (Q : QT) : Prop :=
oV (vInt .lss x8 x7) fun t9_1 =>
condK t9_1 (
oV (vIdxS 1 x0 x8) fun t14_2 =>
oV (vLoad ty22 t14_2 H) fun t15_3 =>
oCl ext Tryd.prog x1 [t15_3] H (fun c H => Q (.panicked c) H) fun v_4 H_5 =>
condK v_4 (
Q (.returned x8) H_5) (
oV (vInt .add x8 (.int .i64 1)) fun t18_6 =>
kn x0 x1 x7 t18_6 H_5)) (
kx0 H)
theorem c115_4 (env : Env) (H : Heap) (kn : K4T) (kx0 : K0T) (Q : QT) (h : m115_4 (env 0) (env 1) (env 7) (env 8) H kn kx0 Q) :
    RCode Tryd.prog 19 (codeAt [1, 0, 1, 0, 0] (bodyOf Tryd.f115)) env H (mkK (fun e H => kn (e 0) (e 1) (e 7) (e 8) H) (inK 0 (fun e H => kx0 H) (fun _ _ _ => False)) (retK T Tryd.f115.results.toList Q) (fun c H => Q (.panicked c) H)) :=
  RCode.leaf_ (T := T) (X := ext) (hint := hint115) tok xok mixed (by kernel_rfl) h
theorem L115_3_round (x0 x1 x7 x8 : Value) (H : Heap) (kn : K0T) (Q : QT) (h : m115_4 x0 x1 x7 x8 H (fun y0 y1 y7 y8 H => L115_3 y0 y1 y7 y8 H kn Q) kn Q) : L115_3 x0 x1 x7 x8 H kn Q := by
  intro env h0 h1 h7 h8
  subst h0; subst h1; subst h7; subst h8
  exact RLoop.round ((c115_4 env H (fun y0 y1 y7 y8 H => L115_3 y0 y1 y7 y8 H kn Q) kn Q h).mono (mkK_mono (fun e H h => h e rfl rfl rfl rfl) (fun _ _ _ h => h) (fun _ _ h => h) (fun _ _ h => h)))
def m115_2 (x0 x1 : Value) (H : Heap) (kn : K0T) (Q : QT) : Prop :=
oV (vLen x0) fun t7_7 =>
L115_3 x0 x1 t7_7 (.int .i64 0) H kn Q
theorem c115_2 (env : Env) (H : Heap) (kn : K0T) (Q : QT) (h : m115_2 (env 0) (env 1) H kn Q) :
    RCode Tryd.prog 19 (codeAt [1, 0] (bodyOf Tryd.f115)) env H (mkK (fun e H => kn H) (fun _ _ _ => False) (retK T Tryd.f115.results.toList Q) (fun c H => Q (.panicked c) H)) :=
  RCode.prefix_ (T := T) (X := ext) (hint := hint115) (hole := (fun e H => L115_3 (e 0) (e 1) (e 7) (e 8) H kn Q)) tok xok mixed 1 (by kernel_rfl) (by kernel_rfl : codeAt _ _ = (codeAt [1, 0, 1] (bodyOf Tryd.f115))) h
    (fun e H h => (cL115_3 e H kn Q h))
def m115 (x0 x1 : Value) (H : Heap) (Q : QT) : Prop :=
m115_2 x0 x1 H (fun H_8 => m115_1 H_8 Q) Q
theorem c115_0 (env : Env) (H : Heap) (Q : QT) (h : m115 (env 0) (env 1) H Q) :
    RCode Tryd.prog 19 (bodyOf Tryd.f115) env H (mkK (retK T Tryd.f115.results.toList Q) (fun _ _ _ => False) (retK T Tryd.f115.results.toList Q) (fun c H => Q (.panicked c) H)) :=
  RCode.prefix_ (T := T) (X := ext) (hint := hint115) (hole := (fun e H => m115_2 (e 0) (e 1) H (fun H_9 => m115_1 H_9 Q) Q)) tok xok mixed 1 (by kernel_rfl) (by kernel_rfl : codeAt _ _ = (codeAt [1] (bodyOf Tryd.f115))) h
    (fun e H h => RCode.join (by kernel_rfl : (codeAt [1] (bodyOf Tryd.f115)) = .seq (codeAt [1, 0] (bodyOf Tryd.f115)) (codeAt [1, 1] (bodyOf Tryd.f115))) ((c115_2 e H (fun H_10 => m115_1 H_10 Q) Q h).mono (mkK_mono (fun e H h => c115_1 e H Q h) (fun _ _ _ h => h) (fun _ _ h => h) (fun _ _ h => h))))
theorem call115 (a0 a1 : Value) (H : Heap) (Q : QT) (h : m115 a0 a1 H Q) : RCalls Tryd.prog 115 [a0, a1] H Q :=
  RCalls.intro (nt := 19) tok Tryd.func115 (by kernel_rfl) (by kernel_rfl) (by kernel_rfl) (of_decide_eq_true (by kernel_rfl)) (c115_0 (envOf [a0, a1]) H Q h)
def hint88 : Nat → List Nat := lookupL []
def m88 (x0 x1 : Value) (H : Heap) (Q : QT) : Prop :=
oRC Tryd.prog 115 [x0, x1] H (fun c H => Q (.panicked c) H) fun v_1 H_2 =>
oV (vInt .geq v_1 (.int .i64 0)) fun t8_3 =>
Q (.returned t8_3) H_2
theorem c88_0 (env : Env) (H : Heap) (Q : QT) (h : m88 (env 0) (env 1) H Q) :
    RCode Tryd.prog 9 (bodyOf Tryd.f88) env H (mkK (retK T Tryd.f88.results.toList Q) (fun _ _ _ => False) (retK T Tryd.f88.results.toList Q) (fun c H => Q (.panicked c) H)) :=
  RCode.leaf_ (T := T) (X := ext) (hint := hint88) tok xok mixed (by kernel_rfl) h
theorem call88 (a0 a1 : Value) (H : Heap) (Q : QT) (h : m88 a0 a1 H Q) : RCalls Tryd.prog 88 [a0, a1] H Q :=
  RCalls.intro (nt := 9) tok Tryd.func88 (by kernel_rfl) (by kernel_rfl) (by kernel_rfl) (of_decide_eq_true (by kernel_rfl)) (c88_0 (envOf [a0, a1]) H Q h)
def hint87 : Nat → List Nat := lookupL []
def m87 (x0 x1 : Value) (H : Heap) (Q : QT) : Prop :=
oRC Tryd.prog 88 [x0, (.func (.func 89) #[] #[x1])] H (fun c H => Q (.panicked c) H) fun v_1 H_2 =>
Q (.returned v_1) H_2
theorem c87_0 (env : Env) (H : Heap) (Q : QT) (h : m87 (env 0) (env 1) H Q) :
    RCode Tryd.prog 7 (bodyOf Tryd.f87) env H (mkK (retK T Tryd.f87.results.toList Q) (fun _ _ _ => False) (retK T Tryd.f87.results.toList Q) (fun c H => Q (.panicked c) H)) :=
  RCode.leaf_ (T := T) (X := ext) (hint := hint87) tok xok mixed (by kernel_rfl) h
theorem call87 (a0 a1 : Value) (H : Heap) (Q : QT) (h : m87 a0 a1 H Q) : RCalls Tryd.prog 87 [a0, a1] H Q :=
  RCalls.intro (nt := 7) tok Tryd.func87 (by kernel_rfl) (by kernel_rfl) (by kernel_rfl) (of_decide_eq_true (by kernel_rfl)) (c87_0 (envOf [a0, a1]) H Q h)
def hint114 : Nat → List Nat := lookupL []
def m114_1 (H : Heap) (Q : QT) : Prop :=
Q (.returned (.int .i64 (-1))) H
theorem c114_1 (env : Env) (H : Heap) (Q : QT) (h : m114_1 H Q) :
    RCode Tryd.prog 19 (codeAt [1, 1] (bodyOf Tryd.f114)) env H (mkK (retK T Tryd.f114.results.toList Q) (fun _ _ _ => False) (retK T Tryd.f114.results.toList Q) (fun c H => Q (.panicked c) H)) :=
  RCode.leaf_ (T := T) (X := ext) (hint := hint114) tok xok mixed (by kernel_rfl) h
def L114_3 (x0 x1 x7 x8 : Value) (H : Heap) (kn : K0T) (Q : QT) : Prop :=
  ∀ env : Env, env 0 = x0 → env 1 = x1 → env 7 = x7 → env 8 = x8 → RLoop Tryd.prog 19 (codeAt [1, 0, 1, 0, 0] (bodyOf Tryd.f114)) env H (mkK (fun _ _ => False) (inK 0 (fun e H => kn H) (fun _ _ _ => False)) (retK T Tryd.f114.results.toList Q) (fun c H => Q (.panicked c) H))
theorem cL114_3 (env : Env) (H : Heap) (kn : K0T) (Q : QT) (h : L114_3 (env 0) (env 1) (env 7) (env 8) H kn Q) :
    RCode Tryd.prog 19 (codeAt [1, 0, 1] (bodyOf Tryd.f114)) env H (mkK (fun e H => kn H) (fun _ _ _ => False) (retK T Tryd.f114.results.toList Q) (fun c H => Q (.panicked c) H)) :=
  RCode.blk (by kernel_rfl : (codeAt [1, 0, 1] (bodyOf Tryd.f114)) = .block 0 (codeAt [1, 0, 1, 0] (bodyOf Tryd.f114))) (RCode.lp (by kernel_rfl : (codeAt [1, 0, 1, 0] (bodyOf Tryd.f114)) = .loop (codeAt [1, 0, 1, 0, 0] (bodyOf Tryd.f114))) ((h env rfl rfl rfl rfl).mono (mkK_mono (fun _ _ h => h.elim) (fun _ _ _ h => h) (fun _ _ h => h) (fun _ _ h => h))))
def m114_4 (x0 x1 x7 x8 : Value) (H : Heap) (kn : K4T) (kx0 : K0T) (Q : QT) : Prop :=
oV (vInt .lss x8 x7) fun t9_1 =>
condK t9_1 (
oV (vIdxS 1 x0 x8) fun t14_2 =>
oV (vLoad ty52 t14_2 H) fun t15_3 =>
oCl ext Tryd.prog x1 [t15_3] H (fun c H => Q (.panicked c) H) fun v_4 H_5 =>
condK v_4 (
Q (.returned x8) H_5) (
oV (vInt .add x8 (.int .i64 1)) fun t18_6 =>
kn x0 x1 x7 t18_6 H_5)) (
kx0 H)
theorem c114_4 (env : Env) (H : Heap) (kn : K4T) (kx0 : K0T) (Q : QT) (h : m114_4 (env 0) (env 1) (env 7) (env 8) H kn kx0 Q) :
    RCode Tryd.prog 19 (codeAt [1, 0, 1, 0, 0] (bodyOf Tryd.f114)) env H (mkK (fun e H => kn (e 0) (e 1) (e 7) (e 8) H) (inK 0 (fun e H => kx0 H) (fun _ _ _ => False)) (retK T Tryd.f114.results.toList Q) (fun c H => Q (.panicked c) H)) :=
  RCode.leaf_ (T := T) (X := ext) (hint := hint114) tok xok mixed (by kernel_rfl) h
theorem L114_3_round (x0 x1 x7 x8 : Value) (H : Heap) (kn : K0T) (Q : QT) (h : m114_4 x0 x1 x7 x8 H (fun y0 y1 y7 y8 H => L114_3 y0 y1 y7 y8 H kn Q) kn Q) : L114_3 x0 x1 x7 x8 H kn Q := by
  intro env h0 h1 h7 h8
  subst h0; subst h1; subst h7; subst h8
  exact RLoop.round ((c114_4 env H (fun y0 y1 y7 y8 H => L114_3 y0 y1 y7 y8 H kn Q) kn Q h).mono (mkK_mono (fun e H h => h e rfl rfl rfl rfl) (fun _ _ _ h => h) (fun _ _ h => h) (fun _ _ h => h)))
def m114_2 (x0 x1 : Value) (H : Heap) (kn : K0T) (Q : QT) : Prop :=
oV (vLen x0) fun t7_7 =>
L114_3 x0 x1 t7_7 (.int .i64 0) H kn Q
theorem c114_2 (env : Env) (H : Heap) (kn : K0T) (Q : QT) (h : m114_2 (env 0) (env 1) H kn Q) :
    RCode Tryd.prog 19 (codeAt [1, 0] (bodyOf Tryd.f114)) env H (mkK (fun e H => kn H) (fun _ _ _ => False) (retK T Tryd.f114.results.toList Q) (fun c H => Q (.panicked c) H)) :=
  RCode.prefix_ (T := T) (X := ext) (hint := hint114) (hole := (fun e H => L114_3 (e 0) (e 1) (e 7) (e 8) H kn Q)) tok xok mixed 1 (by kernel_rfl) (by kernel_rfl : codeAt _ _ = (codeAt [1, 0, 1] (bodyOf Tryd.f114))) h
    (fun e H h => (cL114_3 e H kn Q h))
def m114 (x0 x1 : Value) (H : Heap) (Q : QT) : Prop :=
m114_2 x0 x1 H (fun H_8 => m114_1 H_8 Q) Q
theorem c114_0 (env : Env) (H : Heap) (Q : QT) (h : m114 (env 0) (env 1) H Q) :
    RCode Tryd.prog 19 (bodyOf Tryd.f114) env H (mkK (retK T Tryd.f114.results.toList Q) (fun _ _ _ => False) (retK T Tryd.f114.results.toList Q) (fun c H => Q (.panicked c) H)) :=
  RCode.prefix_ (T := T) (X := ext) (hint := hint114) (hole := (fun e H => m114_2 (e 0) (e 1) H (fun H_9 => m114_1 H_9 Q) Q)) tok xok mixed 1 (by kernel_rfl) (by kernel_rfl : codeAt _ _ = (codeAt [1] (bodyOf Tryd.f114))) h
    (fun e H h => RCode.join (by kernel_rfl : (codeAt [1] (bodyOf Tryd.f114)) = .seq (codeAt [1, 0] (bodyOf Tryd.f114)) (codeAt [1, 1] (bodyOf Tryd.f114))) ((c114_2 e H (fun H_10 => m114_1 H_10 Q) Q h).mono (mkK_mono (fun e H h => c114_1 e H Q h) (fun _ _ _ h => h) (fun _ _ h => h) (fun _ _ h => h))))
theorem call114 (a0 a1 : Value) (H : Heap) (Q : QT) (h : m114 a0 a1 H Q) : RCalls Tryd.prog 114 [a0, a1] H Q :=
  RCalls.intro (nt := 19) tok Tryd.func114 (by kernel_rfl) (by kernel_rfl) (by kernel_rfl) (of_decide_eq_true (by kernel_rfl)) (c114_0 (envOf [a0, a1]) H Q h)
def hint86 : Nat → List Nat := lookupL []
def m86 (x0 x1 : Value) (H : Heap) (Q : QT) : Prop :=
oRC Tryd.prog 114 [x0, x1] H (fun c H => Q (.panicked c) H) fun v_1 H_2 =>
oV (vInt .geq v_1 (.int .i64 0)) fun t8_3 =>
Q (.returned t8_3) H_2
theorem c86_0 (env : Env) (H : Heap) (Q : QT) (h : m86 (env 0) (env 1) H Q) :
    RCode Tryd.prog 9 (bodyOf Tryd.f86) env H (mkK (retK T Tryd.f86.results.toList Q) (fun _ _ _ => False) (retK T Tryd.f86.results.toList Q) (fun c H => Q (.panicked c) H)) :=
  RCode.leaf_ (T := T) (X := ext) (hint := hint86) tok xok mixed (by kernel_rfl) h
theorem call86 (a0 a1 : Value) (H : Heap) (Q : QT) (h : m86 a0 a1 H Q) : RCalls Tryd.prog 86 [a0, a1] H Q :=
  RCalls.intro (nt := 9) tok Tryd.func86 (by kernel_rfl) (by kernel_rfl) (by kernel_rfl) (of_decide_eq_true (by kernel_rfl)) (c86_0 (envOf [a0, a1]) H Q h)
def hint52 : Nat → List Nat := lookupL []
def m52 (x0 : Value) (H : Heap) (Q : QT) : Prop :=
oNew (Value.cells x0).toList (Value.cells x0).toList.length 29 H fun i_1 H_2 =>
oV (vField 0 (ptrTo i_1)) fun t3_3 =>
oV (vLoad ty24 t3_3 H_2) fun t4_4 =>
oV (vField 3 (ptrTo i_1)) fun t5_5 =>
oV (vLoad ty25 t5_5 H_2) fun t6_6 =>
oRC Tryd.prog 82 [t4_4, t6_6] H_2 (fun c H => Q (.panicked c) H) fun v_7 H_8 =>
oV (vUn .not v_7) fun t8_9 =>
oV (gV t8_9 false (vField 5 (ptrTo i_1)) (some undef)) fun t10_10 =>
oV (gV t8_9 false (vLoad ty27 t10_10 H_8) (some undef)) fun t11_11 =>
oV (gV t8_9 false (vLen t11_11) (some undef)) fun t12_12 =>
oV (gV t8_9 false (vField 0 (ptrTo i_1)) (some undef)) fun t13_13 =>
oV (gV t8_9 false (vField 1 t13_13) (some undef)) fun t14_14 =>
oV (gV t8_9 false (vLoad ty3 t14_14 H_8) (some undef)) fun t15_15 =>
oV (gV t8_9 false (vInt .neq t12_12 t15_15) (some undef)) fun t16_16 =>
oV (vPick t8_9 (.bool true) t16_16) fun t17_17 =>
oV (gV t17_17 false (vField 4 (ptrTo i_1)) (some undef)) fun t19_18 =>
oV (gV t17_17 false (vLoad ty26 t19_18 H_8) (some undef)) fun t20_19 =>
oV (gV t17_17 false (some (.func (.func 84) #[] #[(ptrTo i_1)])) (some undef)) fun t21_20 =>
letK (fun t22_22 H_23 =>
oV (vPick t17_17 (.bool true) t22_22) fun t23_24 =>
condK t23_24 (
Q (.returned (.bool false)) H_23) (
oV (vField 5 (ptrTo i_1)) fun t24_25 =>
oV (vLoad ty27 t24_25 H_23) fun t25_26 =>
oRC Tryd.prog 86 [t25_26, (.func (.func 87) #[] #[(ptrTo i_1)])] H_23 (fun c H => Q (.panicked c) H) fun v_27 H_28 =>
oV (vUn .not v_27) fun t28_29 =>
Q (.returned t28_29) H_28)) fun k_21 => gK t17_17 false (oRC Tryd.prog 83 [t20_19, t21_20] H_8 (fun c H => Q (.panicked c) H) fun v_30 H_31 =>
k_21 v_30 H_31) (k_21 undef H_8)
theorem c52_0 (env : Env) (H : Heap) (Q : QT) (h : m52 (env 0) H Q) :
    RCode Tryd.prog 29 (bodyOf Tryd.f52) env H (mkK (retK T Tryd.f52.results.toList Q) (fun _ _ _ => False) (retK T Tryd.f52.results.toList Q) (fun c H => Q (.panicked c) H)) :=
  RCode.leaf_ (T := T) (X := ext) (hint := hint52) tok xok mixed (by kernel_rfl) h
theorem call52 (a0 : Value) (H : Heap) (Q : QT) (h : m52 a0 H Q) : RCalls Tryd.prog 52 [a0] H Q :=
  RCalls.intro (nt := 29) tok Tryd.func52 (by kernel_rfl) (by kernel_rfl) (by kernel_rfl) (of_decide_eq_true (by kernel_rfl)) (c52_0 (envOf [a0]) H Q h)
def hint53 : Nat → List Nat := lookupL []
def m53 (x0 : Value) (H : Heap) (Q : QT) : Prop :=
oV (vBuild ty136 [((0, 1), x0)]) fun t4_1 =>
oNew (Value.cells t4_1).toList (Value.cells t4_1).toList.length 136 H fun i_2 H_3 =>
Q (.returned (ptrTo i_2)) H_3
theorem c53_0 (env : Env) (H : Heap) (Q : QT) (h : m53 (env 0) H Q) :
    RCode Tryd.prog 6 (bodyOf Tryd.f53) env H (mkK (retK T Tryd.f53.results.toList Q) (fun _ _ _ => False) (retK T Tryd.f53.results.toList Q) (fun c H => Q (.panicked c) H)) :=
  RCode.leaf_ (T := T) (X := ext) (hint := hint53) tok xok mixed (by kernel_rfl) h
theorem call53 (a0 : Value) (H : Heap) (Q : QT) (h : m53 a0 H Q) : RCalls Tryd.prog 53 [a0] H Q :=
  RCalls.intro (nt := 6) tok Tryd.func53 (by kernel_rfl) (by kernel_rfl) (by kernel_rfl) (of_decide_eq_true (by kernel_rfl)) (c53_0 (envOf [a0]) H Q h)
def hint12 : Nat → List Nat := lookupL [(3, [0, 1, 2, 3, 4, 5, 6, 7]), (7, [0, 1, 2, 3, 4, 5, 6, 7, 8, 9, 10, 11])]
def m12_1 (x4 : Value) (H : Heap) (Q : QT) : Prop :=
Q (.returned (.tuple #[x4, (.int .i64 0)])) H
theorem c12_1 (env : Env) (H : Heap) (Q : QT) (h : m12_1 (env 4) H Q) :
    RCode Tryd.prog 37 (codeAt [1, 1, 1, 1] (bodyOf Tryd.f12)) env H (mkK (retK T Tryd.f12.results.toList Q) (fun _ _ _ => False) (retK T Tryd.f12.results.toList Q) (fun c H => Q (.panicked c) H)) :=
  RCode.leaf_ (T := T) (X := ext) (hint := hint12) tok xok mixed (by kernel_rfl) h
def L12_3 (x4 x18 x19 x20 : Value) (H : Heap) (kn : K1T) (Q : QT) : Prop :=
  ∀ env : Env, env 4 = x4 → env 18 = x18 → env 19 = x19 → env 20 = x20 → RLoop Tryd.prog 37 (codeAt [1, 1, 1, 0, 1, 0, 0] (bodyOf Tryd.f12)) env H (mkK (fun _ _ => False) (inK 0 (fun e H => kn (e 4) H) (fun _ _ _ => False)) (retK T Tryd.f12.results.toList Q) (fun c H => Q (.panicked c) H))
theorem cL12_3 (env : Env) (H : Heap) (kn : K1T) (Q : QT) (h : L12_3 (env 4) (env 18) (env 19) (env 20) H kn Q) :
    RCode Tryd.prog 37 (codeAt [1, 1, 1, 0, 1] (bodyOf Tryd.f12)) env H (mkK (fun e H => kn (e 4) H) (fun _ _ _ => False) (retK T Tryd.f12.results.toList Q) (fun c H => Q (.panicked c) H)) :=
  RCode.blk (by kernel_rfl : (codeAt [1, 1, 1, 0, 1] (bodyOf Tryd.f12)) = .block 0 (codeAt [1, 1, 1, 0, 1, 0] (bodyOf Tryd.f12))) (RCode.lp (by kernel_rfl : (codeAt [1, 1, 1, 0, 1, 0] (bodyOf Tryd.f12)) = .loop (codeAt [1, 1, 1, 0, 1, 0, 0] (bodyOf Tryd.f12))) ((h env rfl rfl rfl rfl).mono (mkK_mono (fun _ _ h => h.elim) (fun _ _ _ h => h) (fun _ _ h => h) (fun _ _ h => h))))
def m12_4 (x4 x18 x19 x20 : Value) (H : Heap) (kn : K4T) (kx0 : K1T) (Q : QT) : Prop :=
oV (vInt .lss x20 x19) fun t21_1 =>
condK t21_1 (
oV (vIdxS 1 x18 x20) fun t22_2 =>
oV (vLoad ty52 t22_2 H) fun t23_3 =>
oV (vNil x4) fun t26_4 =>
oV (vField 8 t26_4) fun t27_5 =>
oV (vLoad ty96 t27_5 H) fun t28_6 =>
oRC Tryd.prog 53 [t23_3] H noP fun v_7 H_8 =>
(vLoad ty96 t27_5 H_8 = some t28_6 ∧
oBuildS ty99 99 1 [((0, 1), v_7)] H_8 fun s_9 H_10 =>
oAppend ty99 99 t28_6 s_9 H_10 fun v_11 H_12 =>
oV (vNil x4) fun t33_13 =>
oV (vField 8 t33_13) fun t34_14 =>
oHeap (vStore ty96 t34_14 v_11 H_12) fun H_15 =>
oV (vInt .add x20 (.int .i64 1)) fun t35_16 =>
kn x4 x18 x19 t35_16 H_15)) (
kx0 x4 H)
theorem c12_4 (env : Env) (H : Heap) (kn : K4T) (kx0 : K1T) (Q : QT) (h : m12_4 (env 4) (env 18) (env 19) (env 20) H kn kx0 Q) :
    RCode Tryd.prog 37 (codeAt [1, 1, 1, 0, 1, 0, 0] (bodyOf Tryd.f12)) env H (mkK (fun e H => kn (e 4) (e 18) (e 19) (e 20) H) (inK 0 (fun e H => kx0 (e 4) H) (fun _ _ _ => False)) (retK T Tryd.f12.results.toList Q) (fun c H => Q (.panicked c) H)) :=
  RCode.leaf_ (T := T) (X := ext) (hint := hint12) tok xok mixed (by kernel_rfl) h
theorem L12_3_round (x4 x18 x19 x20 : Value) (H : Heap) (kn : K1T) (Q : QT) (h : m12_4 x4 x18 x19 x20 H (fun y4 y18 y19 y20 H => L12_3 y4 y18 y19 y20 H kn Q) kn Q) : L12_3 x4 x18 x19 x20 H kn Q := by
  intro env h4 h18 h19 h20
  subst h4; subst h18; subst h19; subst h20
  exact RLoop.round ((c12_4 env H (fun y4 y18 y19 y20 H => L12_3 y4 y18 y19 y20 H kn Q) kn Q h).mono (mkK_mono (fun e H h => h e rfl rfl rfl rfl) (fun _ _ _ h => h) (fun _ _ h => h) (fun _ _ h => h)))
def m12_2 (x1 x4 : Value) (H : Heap) (kn : K1T) (Q : QT) : Prop :=
oV (vField 5 x1) fun t17_17 =>
oV (vLoad ty27 t17_17 H) fun t18_18 =>
oV (vLen t18_18) fun t19_19 =>
L12_3 x4 t18_18 t19_19 (.int .i64 0) H kn Q
theorem c12_2 (env : Env) (H : Heap) (kn : K1T) (Q : QT) (h : m12_2 (env 1) (env 4) H kn Q) :
    RCode Tryd.prog 37 (codeAt [1, 1, 1, 0] (bodyOf Tryd.f12)) env H (mkK (fun e H => kn (e 4) H) (fun _ _ _ => False) (retK T Tryd.f12.results.toList Q) (fun c H => Q (.panicked c) H)) :=
  RCode.prefix_ (T := T) (X := ext) (hint := hint12) (hole := (fun e H => L12_3 (e 4) (e 18) (e 19) (e 20) H kn Q)) tok xok mixed 1 (by kernel_rfl) (by kernel_rfl : codeAt _ _ = (codeAt [1, 1, 1, 0, 1] (bodyOf Tryd.f12))) h
    (fun e H h => (cL12_3 e H kn Q h))
def m12 (x0 : Value) (H : Heap) (Q : QT) : Prop :=
oNew (Value.cells x0).toList (Value.cells x0).toList.length 29 H fun i_20 H_21 =>
oV (vLoad ty29 (ptrTo i_20) H_21) fun t7_22 =>
oRC Tryd.prog 52 [t7_22] H_21 (fun c H => Q (.panicked c) H) fun v_23 H_24 =>
oV (vUn .not v_23) fun t9_25 =>
condK t9_25 (
Q (.returned (.tuple #[(.pointer none), (.int .i64 1)])) H_24) (
oV (vLoad ty29 (ptrTo i_20) H_24) fun t10_26 =>
oV (vField 0 (ptrTo i_20)) fun t11_27 =>
oV (vField 1 t11_27) fun t12_28 =>
oV (vLoad ty3 t12_28 H_24) fun t13_29 =>
oMake ty49 49 t13_29 t13_29 H_24 fun s_30 H_31 =>
oV (vBuild ty98 [((0, 6), t10_26), ((7, 1), s_30)]) fun t15_32 =>
oNew (Value.cells t15_32).toList (Value.cells t15_32).toList.length 98 H_31 fun i_33 H_34 =>
m12_2 (ptrTo i_20) (ptrTo i_33) H_34 (fun y4_35 H_36 => m12_1 y4_35 H_36 Q) Q)
theorem c12_0 (env : Env) (H : Heap) (Q : QT) (h : m12 (env 0) H Q) :
    RCode Tryd.prog 37 (bodyOf Tryd.f12) env H (mkK (retK T Tryd.f12.results.toList Q) (fun _ _ _ => False) (retK T Tryd.f12.results.toList Q) (fun c H => Q (.panicked c) H)) :=
  RCode.prefix_ (T := T) (X := ext) (hint := hint12) (hole := (fun e H => m12_2 (e 1) (e 4) H (fun y4_37 H_38 => m12_1 y4_37 H_38 Q) Q)) tok xok mixed 3 (by kernel_rfl) (by kernel_rfl : codeAt _ _ = (codeAt [1, 1, 1] (bodyOf Tryd.f12))) h
    (fun e H h => RCode.join (by kernel_rfl : (codeAt [1, 1, 1] (bodyOf Tryd.f12)) = .seq (codeAt [1, 1, 1, 0] (bodyOf Tryd.f12)) (codeAt [1, 1, 1, 1] (bodyOf Tryd.f12))) ((c12_2 e H (fun y4_39 H_40 => m12_1 y4_39 H_40 Q) Q h).mono (mkK_mono (fun e H h => c12_1 e H Q h) (fun _ _ _ h => h) (fun _ _ h => h) (fun _ _ h => h))))
theorem call12 (a0 : Value) (H : Heap) (Q : QT) (h : m12 a0 H Q) : RCalls Tryd.prog 12 [a0] H Q :=
  RCalls.intro (nt := 37) tok Tryd.func12 (by kernel_rfl) (by kernel_rfl) (by kernel_rfl) (of_decide_eq_true (by kernel_rfl)) (c12_0 (envOf [a0]) H Q h)
def hint79 : Nat → List Nat := lookupL [(1, [0, 1, 2, 3, 4, 5, 6, 7, 8, 9, 10, 11, 12, 13, 14, 15, 16, 17, 18, 19, 20, 21, 22, 23, 24])]
def m79 (x0 x1 x2 x3 : Value) (H : Heap) (Q : QT) : Prop :=
oV (vInt .neq x1 x2) fun t10_1 =>
oV (gV t10_1 true (some x3) (some undef)) fun t12_2 =>
oV (gV t10_1 true (vLen t12_2) (some undef)) fun t13_3 =>
oV (gV t10_1 true (vInt .gtr t13_3 (.int .i64 0)) (some undef)) fun t14_4 =>
oV (vPick t10_1 t14_4 (.bool false)) fun t15_5 =>
condK t15_5 (
oV (vNil x0) fun t17_6 =>
oV (vField 7 t17_6) fun t18_7 =>
oV (vLoad ty95 t18_7 H) fun t19_8 =>
oV (vNil x0) fun t22_9 =>
oV (vField 7 t22_9) fun t23_10 =>
oV (vLoad ty95 t23_10 H) fun t24_11 =>
oV (vIdxS 1 t24_11 x1) fun t26_12 =>
oV (vLoad ty49 t26_12 H) fun t27_13 =>
oV (vNil x0) fun t29_14 =>
oV (vField 6 t29_14) fun t30_15 =>
oV (vLoad ty3 t30_15 H) fun t31_16 =>
oV (vInt .add x2 (.int .i64 1)) fun t33_17 =>
oAppend ty22 22 (.slice none 0 0) x3 H fun v_18 H_19 =>
(vLoad ty3 t30_15 H_19 = some t31_16 ∧
(vLoad ty49 t26_12 H_19 = some t27_13 ∧
(vLoad ty95 t23_10 H_19 = some t24_11 ∧
(vLoad ty95 t18_7 H_19 = some t19_8 ∧
oV (vBuild ty90 [((0, 1), t31_16), ((1, 1), t33_17), ((2, 1), v_18)]) fun t36_20 =>
oBuildS ty90 90 1 [((0, 3), t36_20)] H_19 fun s_21 H_22 =>
oAppend ty90 90 t27_13 s_21 H_22 fun v_23 H_24 =>
(vLoad ty95 t18_7 H_24 = some t19_8 ∧
oV (vIdxS 1 t19_8 x1) fun t39_25 =>
oHeap (vStore ty49 t39_25 v_23 H_24) fun H_26 =>
Q (.returned (.tuple #[])) H_26)))))) (
Q (.returned (.tuple #[])) H)
theorem c79_0 (env : Env) (H : Heap) (Q : QT) (h : m79 (env 0) (env 1) (env 2) (env 3) H Q) :
    RCode Tryd.prog 40 (bodyOf Tryd.f79) env H (mkK (retK T Tryd.f79.results.toList Q) (fun _ _ _ => False) (retK T Tryd.f79.results.toList Q) (fun c H => Q (.panicked c) H)) :=
  RCode.leaf_ (T := T) (X := ext) (hint := hint79) tok xok mixed (by kernel_rfl) h
theorem call79 (a0 a1 a2 a3 : Value) (H : Heap) (Q : QT) (h : m79 a0 a1 a2 a3 H Q) : RCalls Tryd.prog 79 [a0, a1, a2, a3] H Q :=
  RCalls.intro (nt := 40) tok Tryd.func79 (by kernel_rfl) (by kernel_rfl) (by kernel_rfl) (of_decide_eq_true (by kernel_rfl)) (c79_0 (envOf [a0, a1, a2, a3]) H Q h)
def hint109 : Nat → List Nat := lookupL []
def m109 (x0 : Value) (H : Heap) (Q : QT) : Prop :=
oV (vNilOp .eql x0 (.slice none 0 0)) fun t4_1 =>
condK t4_1 (
Q (.returned (.slice none 0 0)) H) (
oBuildS ty52 52 0 [] H fun s_2 H_3 =>
oAppend ty52 52 s_2 x0 H_3 fun v_4 H_5 =>
Q (.returned v_4) H_5)
theorem c109_0 (env : Env) (H : Heap) (Q : QT) (h : m109 (env 0) H Q) :
    RCode Tryd.prog 8 (bodyOf Tryd.f109) env H (mkK (retK T Tryd.f109.results.toList Q) (fun _ _ _ => False) (retK T Tryd.f109.results.toList Q) (fun c H => Q (.panicked c) H)) :=
  RCode.leaf_ (T := T) (X := ext) (hint := hint109) tok xok mixed (by kernel_rfl) h
theorem call109 (a0 : Value) (H : Heap) (Q : QT) (h : m109 a0 H Q) : RCalls Tryd.prog 109 [a0] H Q :=
  RCalls.intro (nt := 8) tok Tryd.func109 (by kernel_rfl) (by kernel_rfl) (by kernel_rfl) (of_decide_eq_true (by kernel_rfl)) (c109_0 (envOf [a0]) H Q h)
def hint145 : Nat → List Nat := lookupL []
def m145_1 (H : Heap) (Q : QT) : Prop :=
Q (.returned (.int .i64 (-1))) H
theorem c145_1 (env : Env) (H : Heap) (Q : QT) (h : m145_1 H Q) :
    RCode Tryd.prog 19 (codeAt [1, 1] (bodyOf Tryd.f145)) env H (mkK (retK T Tryd.f145.results.toList Q) (fun _ _ _ => False) (retK T Tryd.f145.results.toList Q) (fun c H => Q (.panicked c) H)) :=
  RCode.leaf_ (T := T) (X := ext) (hint := hint145) tok xok mixed (by kernel_rfl) h
def L145_3 (x0 x1 x7 x8 : Value) (H : Heap) (kn : K0T) (Q : QT) : Prop :=
  ∀ env : Env, env 0 = x0 → env 1 = x1 → env 7 = x7 → env 8 = x8 → RLoop Tryd.prog 19 (codeAt [1, 0, 1, 0, 0] (bodyOf Tryd.f145)) env H (mkK (fun _ _ => False) (inK 0 (fun e H => kn H) (fun _ _ _ => False)) (retK T Tryd.f145.results.toList Q) (fun c H => Q (.panicked c) H))
theorem cL145_3 (env : Env) (H : Heap) (kn : K0T) (Q : QT) (h : L145_3 (env 0) (env 1) (env 7) (env 8) H kn Q) :
    RCode Tryd.prog 19 (codeAt [1, 0, 1] (bodyOf Tryd.f145)) env H (mkK (fun e H => kn H) (fun _ _ _ => False) (retK T Tryd.f145.results.toList Q) (fun c H => Q (.panicked c) H)) :=
  RCode.blk (by kernel_rfl : (codeAt [1, 0, 1] (bodyOf Tryd.f145)) = .block 0 (codeAt [1, 0, 1, 0] (bodyOf Tryd.f145))) (RCode.lp (by kernel_rfl : (codeAt [1, 0, 1, 0] (bodyOf Tryd.f145)) = .loop (codeAt [1, 0, 1, 0, 0] (bodyOf Tryd.f145))) ((h env rfl rfl rfl rfl).mono (mkK_mono (fun _ _ h => h.elim) (fun _ _ _ h => h) (fun _ _ h => h) (fun _ _ h => h))))
def m145_4 (x0 x1 x7 x8 : Value) (H : Heap) (kn : K4T) (kx0 : K0T) (Q : QT) : Prop :=
oV (vInt .lss x8 x7) fun t9_1 =>
condK t9_1 (
oV (vIdxS 1 x0 x8) fun t14_2 =>
oV (vLoad ty3 t14_2 H) fun t15_3 =>
oV (vInt .eql x1 t15_3) fun t16_4 =>
condK t16_4 (
Q (.returned x8) H) (
oV (vInt .add x8 (.int .i64 1)) fun t18_5 =>
kn x0 x1 x7 t18_5 H)) (
kx0 H)
theorem c145_4 (env : Env) (H : Heap) (kn : K4T) (kx0 : K0T) (Q : QT) (h : m145_4 (env 0) (env 1) (env 7) (env 8) H kn kx0 Q) :
    RCode Tryd.prog 19 (codeAt [1, 0, 1, 0, 0] (bodyOf Tryd.f145)) env H (mkK (fun e H => kn (e 0) (e 1) (e 7) (e 8) H) (inK 0 (fun e H => kx0 H) (fun _ _ _ => False)) (retK T Tryd.f145.results.toList Q) (fun c H => Q (.panicked c) H)) :=
  RCode.leaf_ (T := T) (X := ext) (hint := hint145) tok xok mixed (by kernel_rfl) h
theorem L145_3_round (x0 x1 x7 x8 : Value) (H : Heap) (kn : K0T) (Q : QT) (h : m145_4 x0 x1 x7 x8 H (fun y0 y1 y7 y8 H => L145_3 y0 y1 y7 y8 H kn Q) kn Q) : L145_3 x0 x1 x7 x8 H kn Q := by
  intro env h0 h1 h7 h8
  subst h0; subst h1; subst h7; subst h8
  exact RLoop.round ((c145_4 env H (fun y0 y1 y7 y8 H => L145_3 y0 y1 y7 y8 H kn Q) kn Q h).mono (mkK_mono (fun e H h => h e rfl rfl rfl rfl) (fun _ _ _ h => h) (fun _ _ h => h) (fun _ _ h => h)))
def m145_2 (x0 x1 : Value) (H : Heap) (kn : K0T) (Q : QT) : Prop :=
oV (vLen x0) fun t7_6 =>
L145_3 x0 x1 t7_6 (.int .i64 0) H kn Q
theorem c145_2 (env : Env) (H : Heap) (kn : K0T) (Q : QT) (h : m145_2 (env 0) (env 1) H kn Q) :
    RCode Tryd.prog 19 (codeAt [1, 0] (bodyOf Tryd.f145)) env H (mkK (fun e H => kn H) (fun _ _ _ => False) (retK T Tryd.f145.results.toList Q) (fun c H => Q (.panicked c) H)) :=
  RCode.prefix_ (T := T) (X := ext) (hint := hint145) (hole := (fun e H => L145_3 (e 0) (e 1) (e 7) (e 8) H kn Q)) tok xok mixed 1 (by kernel_rfl) (by kernel_rfl : codeAt _ _ = (codeAt [1, 0, 1] (bodyOf Tryd.f145))) h
    (fun e H h => (cL145_3 e H kn Q h))
def m145 (x0 x1 : Value) (H : Heap) (Q : QT) : Prop :=
m145_2 x0 x1 H (fun H_7 => m145_1 H_7 Q) Q
theorem c145_0 (env : Env) (H : Heap) (Q : QT) (h : m145 (env 0) (env 1) H Q) :
    RCode Tryd.prog 19 (bodyOf Tryd.f145) env H (mkK (retK T Tryd.f145.results.toList Q) (fun _ _ _ => False) (retK T Tryd.f145.results.toList Q) (fun c H => Q (.panicked c) H)) :=
  RCode.prefix_ (T := T) (X := ext) (hint := hint145) (hole := (fun e H => m145_2 (e 0) (e 1) H (fun H_8 => m145_1 H_8 Q) Q)) tok xok mixed 1 (by kernel_rfl) (by kernel_rfl : codeAt _ _ = (codeAt [1] (bodyOf Tryd.f145))) h
    (fun e H h => RCode.join (by kernel_rfl : (codeAt [1] (bodyOf Tryd.f145)) = .seq (codeAt [1, 0] (bodyOf Tryd.f145)) (codeAt [1, 1] (bodyOf Tryd.f145))) ((c145_2 e H (fun H_9 => m145_1 H_9 Q) Q h).mono (mkK_mono (fun e H h => c145_1 e H Q h) (fun _ _ _ h => h) (fun _ _ h => h) (fun _ _ h => h))))
theorem call145 (a0 a1 : Value) (H : Heap) (Q : QT) (h : m145 a0 a1 H Q) : RCalls Tryd.prog 145 [a0, a1] H Q :=
  RCalls.intro (nt := 19) tok Tryd.func145 (by kernel_rfl) (by kernel_rfl) (by kernel_rfl) (of_decide_eq_true (by kernel_rfl)) (c145_0 (envOf [a0, a1]) H Q h)
def hint134 : Nat → List Nat := lookupL []
def m134 (x0 x1 : Value) (H : Heap) (Q : QT) : Prop :=
oRC Tryd.prog 145 [x0, x1] H (fun c H => Q (.panicked c) H) fun v_1 H_2 =>
oV (vInt .geq v_1 (.int .i64 0)) fun t8_3 =>
Q (.returned t8_3) H_2
theorem c134_0 (env : Env) (H : Heap) (Q : QT) (h : m134 (env 0) (env 1) H Q) :
    RCode Tryd.prog 9 (bodyOf Tryd.f134) env H (mkK (retK T Tryd.f134.results.toList Q) (fun _ _ _ => False) (retK T Tryd.f134.results.toList Q) (fun c H => Q (.panicked c) H)) :=
  RCode.leaf_ (T := T) (X := ext) (hint := hint134) tok xok mixed (by kernel_rfl) h
theorem call134 (a0 a1 : Value) (H : Heap) (Q : QT) (h : m134 a0 a1 H Q) : RCalls Tryd.prog 134 [a0, a1] H Q :=
  RCalls.intro (nt := 9) tok Tryd.func134 (by kernel_rfl) (by kernel_rfl) (by kernel_rfl) (of_decide_eq_true (by kernel_rfl)) (c134_0 (envOf [a0, a1]) H Q h)
def hint110 : Nat → List Nat := lookupL []
def m110 (x0 x1 x2 : Value) (H : Heap) (Q : QT) : Prop :=
oNew (Value.cells x0).toList (Value.cells x0).toList.length 29 H fun i_1 H_2 =>
oNew (Value.cells x1).toList (Value.cells x1).toList.length 109 H_2 fun i_3 H_4 =>
oV (vField 0 (ptrTo i_3)) fun t7_5 =>
oV (vLoad ty3 t7_5 H_4) fun t8_6 =>
oV (vInt .eql t8_6 x2) fun t10_7 =>
oV (gV t10_7 true (vField 3 (ptrTo i_1)) (some undef)) fun t12_8 =>
oV (gV t10_7 true (vLoad ty25 t12_8 H_4) (some undef)) fun t13_9 =>
oV (gV t10_7 true (vField 1 (ptrTo i_3)) (some undef)) fun t14_10 =>
oV (gV t10_7 true (vLoad ty3 t14_10 H_4) (some undef)) fun t15_11 =>
letK (fun t16_13 H_14 =>
oV (vPick t10_7 t16_13 (.bool false)) fun t17_15 =>
Q (.returned t17_15) H_14) fun k_12 => gK t10_7 true (oRC Tryd.prog 134 [t13_9, t15_11] H_4 (fun c H => Q (.panicked c) H) fun v_16 H_17 =>
k_12 v_16 H_17) (k_12 undef H_4)
theorem c110_0 (env : Env) (H : Heap) (Q : QT) (h : m110 (env 0) (env 1) (env 2) H Q) :
    RCode Tryd.prog 18 (bodyOf Tryd.f110) env H (mkK (retK T Tryd.f110.results.toList Q) (fun _ _ _ => False) (retK T Tryd.f110.results.toList Q) (fun c H => Q (.panicked c) H)) :=
  RCode.leaf_ (T := T) (X := ext) (hint := hint110) tok xok mixed (by kernel_rfl) h
theorem call110 (a0 a1 a2 : Value) (H : Heap) (Q : QT) (h : m110 a0 a1 a2 H Q) : RCalls Tryd.prog 110 [a0, a1, a2] H Q :=
  RCalls.intro (nt := 18) tok Tryd.func110 (by kernel_rfl) (by kernel_rfl) (by kernel_rfl) (of_decide_eq_true (by kernel_rfl)) (c110_0 (envOf [a0, a1, a2]) H Q h)
def hint152 : Nat → List Nat := lookupL []
def m152 (x0 : Value) (H : Heap) (Q : QT) : Prop :=
oV (vInt .geq x0 (.int .u64 4294967296)) fun t4_1 =>
condK t4_1 (
oV (vInt .shr x0 (.int .u64 32)) fun t6_2 =>
oV (vInt .geq t6_2 (.int .u64 65536)) fun t8_3 =>
condK t8_3 (
oV (vInt .shr t6_2 (.int .u64 16)) fun t10_4 =>
oV (vInt .add (.int .i64 32) (.int .i64 16)) fun t12_5 =>
oV (vInt .geq t10_4 (.int .u64 256)) fun t14_6 =>
condK t14_6 (
oV (vInt .shr t10_4 (.int .u64 8)) fun t16_7 =>
oV (vInt .add t12_5 (.int .i64 8)) fun t18_8 =>
oV (vConv (.int .u8) t16_7) fun t21_9 =>
oV (vIndexStr (.string { data := #[0, 1, 2, 2, 3, 3, 3, 3, 4, 4, 4, 4, 4, 4, 4, 4, 5, 5, 5, 5, 5, 5, 5, 5, 5, 5, 5, 5, 5, 5, 5, 5, 6, 6, 6, 6, 6, 6, 6, 6, 6, 6, 6, 6, 6, 6, 6, 6, 6, 6, 6, 6, 6, 6, 6, 6, 6, 6, 6, 6, 6, 6, 6, 6, 7, 7, 7, 7, 7, 7, 7, 7, 7, 7, 7, 7, 7, 7, 7, 7, 7, 7, 7, 7, 7, 7, 7, 7, 7, 7, 7, 7, 7, 7, 7, 7, 7, 7, 7, 7, 7, 7, 7, 7, 7, 7, 7, 7, 7, 7, 7, 7, 7, 7, 7, 7, 7, 7, 7, 7, 7, 7, 7, 7, 7, 7, 7, 7, 8, 8, 8, 8, 8, 8, 8, 8, 8, 8, 8, 8, 8, 8, 8, 8, 8, 8, 8, 8, 8, 8, 8, 8, 8, 8, 8, 8, 8, 8, 8, 8, 8, 8, 8, 8, 8, 8, 8, 8, 8, 8, 8, 8, 8, 8, 8, 8, 8, 8, 8, 8, 8, 8, 8, 8, 8, 8, 8, 8, 8, 8, 8, 8, 8, 8, 8, 8, 8, 8, 8, 8, 8, 8, 8, 8, 8, 8, 8, 8, 8, 8, 8, 8, 8, 8, 8, 8, 8, 8, 8, 8, 8, 8, 8, 8, 8, 8, 8, 8, 8, 8, 8, 8, 8, 8, 8, 8, 8, 8, 8, 8, 8, 8, 8, 8, 8, 8, 8, 8, 8, 8, 8, 8, 8, 8, 8, 8] }) t21_9) fun t22_10 =>
oV (vConv (.int .i64) t22_10) fun t23_11 =>
oV (vInt .add t18_8 t23_11) fun t24_12 =>
Q (.returned t24_12) H) (
oV (vConv (.int .u8) t10_4) fun t21_13 =>
oV (vIndexStr (.string { data := #[0, 1, 2, 2, 3, 3, 3, 3, 4, 4, 4, 4, 4, 4, 4, 4, 5, 5, 5, 5, 5, 5, 5, 5, 5, 5, 5, 5, 5, 5, 5, 5, 6, 6, 6, 6, 6, 6, 6, 6, 6, 6, 6, 6, 6, 6, 6, 6, 6, 6, 6, 6, 6, 6, 6, 6, 6, 6, 6, 6, 6, 6, 6, 6, 7, 7, 7, 7, 7, 7, 7, 7, 7, 7, 7, 7, 7, 7, 7, 7, 7, 7, 7, 7, 7, 7, 7, 7, 7, 7, 7, 7, 7, 7, 7, 7, 7, 7, 7, 7, 7, 7, 7, 7, 7, 7, 7, 7, 7, 7, 7, 7, 7, 7, 7, 7, 7, 7, 7, 7, 7, 7, 7, 7, 7, 7, 7, 7, 8, 8, 8, 8, 8, 8, 8, 8, 8, 8, 8, 8, 8, 8, 8, 8, 8, 8, 8, 8, 8, 8, 8, 8, 8, 8, 8, 8, 8, 8, 8, 8, 8, 8, 8, 8, 8, 8, 8, 8, 8, 8, 8, 8, 8, 8, 8, 8, 8, 8, 8, 8, 8, 8, 8, 8, 8, 8, 8, 8, 8, 8, 8, 8, 8, 8, 8, 8, 8, 8, 8, 8, 8, 8, 8, 8, 8, 8, 8, 8, 8, 8, 8, 8, 8, 8, 8, 8, 8, 8, 8, 8, 8, 8, 8, 8, 8, 8, 8, 8, 8, 8, 8, 8, 8, 8, 8, 8, 8, 8, 8, 8, 8, 8, 8, 8, 8, 8, 8, 8, 8, 8, 8, 8, 8, 8, 8, 8] }) t21_13) fun t22_14 =>
oV (vConv (.int .i64) t22_14) fun t23_15 =>
oV (vInt .add t12_5 t23_15) fun t24_16 =>
Q (.returned t24_16) H)) (
oV (vInt .geq t6_2 (.int .u64 256)) fun t14_17 =>
condK t14_17 (
oV (vInt .shr t6_2 (.int .u64 8)) fun t16_18 =>
oV (vInt .add (.int .i64 32) (.int .i64 8)) fun t18_19 =>
oV (vConv (.int .u8) t16_18) fun t21_20 =>
oV (vIndexStr (.string { data := #[0, 1, 2, 2, 3, 3, 3, 3, 4, 4, 4, 4, 4, 4, 4, 4, 5, 5, 5, 5, 5, 5, 5, 5, 5, 5, 5, 5, 5, 5, 5, 5, 6, 6, 6, 6, 6, 6, 6, 6, 6, 6, 6, 6, 6, 6, 6, 6, 6, 6, 6, 6, 6, 6, 6, 6, 6, 6, 6, 6, 6, 6, 6, 6, 7, 7, 7, 7, 7, 7, 7, 7, 7, 7, 7, 7, 7, 7, 7, 7, 7, 7, 7, 7, 7, 7, 7, 7, 7, 7, 7, 7, 7, 7, 7, 7, 7, 7, 7, 7, 7, 7, 7, 7, 7, 7, 7, 7, 7, 7, 7, 7, 7, 7, 7, 7, 7, 7, 7, 7, 7, 7, 7, 7, 7, 7, 7, 7, 8, 8, 8, 8, 8, 8, 8, 8, 8, 8, 8, 8, 8, 8, 8, 8, 8, 8, 8, 8, 8, 8, 8, 8, 8, 8, 8, 8, 8, 8, 8, 8, 8, 8, 8, 8, 8, 8, 8, 8, 8, 8, 8, 8, 8, 8, 8, 8, 8, 8, 8, 8, 8, 8, 8, 8, 8, 8, 8, 8, 8, 8, 8, 8, 8, 8, 8, 8, 8, 8, 8, 8, 8, 8, 8, 8, 8, 8, 8, 8, 8, 8, 8, 8, 8, 8, 8, 8, 8, 8, 8, 8, 8, 8, 8, 8, 8, 8, 8, 8, 8, 8, 8, 8, 8, 8, 8, 8, 8, 8, 8, 8, 8, 8, 8, 8, 8, 8, 8, 8, 8, 8, 8, 8, 8, 8, 8, 8] }) t21_20) fun t22_21 =>
oV (vConv (.int .i64) t22_21) fun t23_22 =>
oV (vInt .add t18_19 t23_22) fun t24_23 =>
Q (.returned t24_23) H) (
oV (vConv (.int .u8) t6_2) fun t21_24 =>
oV (vIndexStr (.string { data := #[0, 1, 2, 2, 3, 3, 3, 3, 4, 4, 4, 4, 4, 4, 4, 4, 5, 5, 5, 5, 5, 5, 5, 5, 5, 5, 5, 5, 5, 5, 5, 5, 6, 6, 6, 6, 6, 6, 6, 6, 6, 6, 6, 6, 6, 6, 6, 6, 6, 6, 6, 6, 6, 6, 6, 6, 6, 6, 6, 6, 6, 6, 6, 6, 7, 7, 7, 7, 7, 7, 7, 7, 7, 7, 7, 7, 7, 7, 7, 7, 7, 7, 7, 7, 7, 7, 7, 7, 7, 7, 7, 7, 7, 7, 7, 7, 7, 7, 7, 7, 7, 7, 7, 7, 7, 7, 7, 7, 7, 7, 7, 7, 7, 7, 7, 7, 7, 7, 7, 7, 7, 7, 7, 7, 7, 7, 7, 7, 8, 8, 8, 8, 8, 8, 8, 8, 8, 8, 8, 8, 8, 8, 8, 8, 8, 8, 8, 8, 8, 8, 8, 8, 8, 8, 8, 8, 8, 8, 8, 8, 8, 8, 8, 8, 8, 8, 8, 8, 8, 8, 8, 8, 8, 8, 8, 8, 8, 8, 8, 8, 8, 8, 8, 8, 8, 8, 8, 8, 8, 8, 8, 8, 8, 8, 8, 8, 8, 8, 8, 8, 8, 8, 8, 8, 8, 8, 8, 8, 8, 8, 8, 8, 8, 8, 8, 8, 8, 8, 8, 8, 8, 8, 8, 8, 8, 8, 8, 8, 8, 8, 8, 8, 8, 8, 8, 8, 8, 8, 8, 8, 8, 8, 8, 8, 8, 8, 8, 8, 8, 8, 8, 8, 8, 8, 8, 8] }) t21_24) fun t22_25 =>
oV (vConv (.int .i64) t22_25) fun t23_26 =>
oV (vInt .add (.int .i64 32) t23_26) fun t24_27 =>
Q (.returned t24_27) H))) (
oV (vInt .geq x0 (.int .u64 65536)) fun t8_28 =>
condK t8_28 (
oV (vInt .shr x0 (.int .u64 16)) fun t10_29 =>
oV (vInt .add (.int .i64 0) (.int .i64 16)) fun t12_30 =>
oV (vInt .geq t10_29 (.int .u64 256)) fun t14_31 =>
condK t14_31 (
oV (vInt .shr t10_29 (.int .u64 8)) fun t16_32 =>
oV (vInt .add t12_30 (.int .i64 8)) fun t18_33 =>
oV (vConv (.int .u8) t16_32) fun t21_34 =>
oV (vIndexStr (.string { data := #[0, 1, 2, 2, 3, 3, 3, 3, 4, 4, 4, 4, 4, 4, 4, 4, 5, 5, 5, 5, 5, 5, 5, 5, 5, 5, 5, 5, 5, 5, 5, 5, 6, 6, 6, 6, 6, 6, 6, 6, 6, 6, 6, 6, 6, 6, 6, 6, 6, 6, 6, 6, 6, 6, 6, 6, 6, 6, 6, 6, 6, 6, 6, 6, 7, 7, 7, 7, 7, 7, 7, 7, 7, 7, 7, 7, 7, 7, 7, 7, 7, 7, 7, 7, 7, 7, 7, 7, 7, 7, 7, 7, 7, 7, 7, 7, 7, 7, 7, 7, 7, 7, 7, 7, 7, 7, 7, 7, 7, 7, 7, 7, 7, 7, 7, 7, 7, 7, 7, 7, 7, 7, 7, 7, 7, 7, 7, 7, 8, 8, 8, 8, 8, 8, 8, 8, 8, 8, 8, 8, 8, 8, 8, 8, 8, 8, 8, 8, 8, 8, 8, 8, 8, 8, 8, 8, 8, 8, 8, 8, 8, 8, 8, 8, 8, 8, 8, 8, 8, 8, 8, 8, 8, 8, 8, 8, 8, 8, 8, 8, 8, 8, 8, 8, 8, 8, 8, 8, 8, 8, 8, 8, 8, 8, 8, 8, 8, 8, 8, 8, 8, 8, 8, 8, 8, 8, 8, 8, 8, 8, 8, 8, 8, 8, 8, 8, 8, 8, 8, 8, 8, 8, 8, 8, 8, 8, 8, 8, 8, 8, 8, 8, 8, 8, 8, 8, 8, 8, 8, 8, 8, 8, 8, 8, 8, 8, 8, 8, 8, 8, 8, 8, 8, 8, 8, 8] }) t21_34) fun t22_35 =>
oV (vConv (.int .i64) t22_35) fun t23_36 =>
oV (vInt .add t18_33 t23_36) fun t24_37 =>
Q (.returned t24_37) H) (
oV (vConv (.int .u8) t10_29) fun t21_38 =>
oV (vIndexStr (.string { data := #[0, 1, 2, 2, 3, 3, 3, 3, 4, 4, 4, 4, 4, 4, 4, 4, 5, 5, 5, 5, 5, 5, 5, 5, 5, 5, 5, 5, 5, 5, 5, 5, 6, 6, 6, 6, 6, 6, 6, 6, 6, 6, 6, 6, 6, 6, 6, 6, 6, 6, 6, 6, 6, 6, 6, 6, 6, 6, 6, 6, 6, 6, 6, 6, 7, 7, 7, 7, 7, 7, 7, 7, 7, 7, 7, 7, 7, 7, 7, 7, 7, 7, 7, 7, 7, 7, 7, 7, 7, 7, 7, 7, 7, 7, 7, 7, 7, 7, 7, 7, 7, 7, 7, 7, 7, 7, 7, 7, 7, 7, 7, 7, 7, 7, 7, 7, 7, 7, 7, 7, 7, 7, 7, 7, 7, 7, 7, 7, 8, 8, 8, 8, 8, 8, 8, 8, 8, 8, 8, 8, 8, 8, 8, 8, 8, 8, 8, 8, 8, 8, 8, 8, 8, 8, 8, 8, 8, 8, 8, 8, 8, 8, 8, 8, 8, 8, 8, 8, 8, 8, 8, 8, 8, 8, 8, 8, 8, 8, 8, 8, 8, 8, 8, 8, 8, 8, 8, 8, 8, 8, 8, 8, 8, 8, 8, 8, 8, 8, 8, 8, 8, 8, 8, 8, 8, 8, 8, 8, 8, 8, 8, 8, 8, 8, 8, 8, 8, 8, 8, 8, 8, 8, 8, 8, 8, 8, 8, 8, 8, 8, 8, 8, 8, 8, 8, 8, 8, 8, 8, 8, 8, 8, 8, 8, 8, 8, 8, 8, 8, 8, 8, 8, 8, 8, 8, 8] }) t21_38) fun t22_39 =>
oV (vConv (.int .i64) t22_39) fun t23_40 =>
oV (vInt .add t12_30 t23_40) fun t24_41 =>
Q (.returned t24_41) H)) (
oV (vInt .geq x0 (.int .u64 256)) fun t14_42 =>
condK t14_42 (
oV (vInt .shr x0 (.int .u64 8)) fun t16_43 =>
oV (vInt .add (.int .i64 0) (.int .i64 8)) fun t18_44 =>
oV (vConv (.int .u8) t16_43) fun t21_45 =>
oV (vIndexStr (.string { data := #[0, 1, 2, 2, 3, 3, 3, 3, 4, 4, 4, 4, 4, 4, 4, 4, 5, 5, 5, 5, 5, 5, 5, 5, 5, 5, 5, 5, 5, 5, 5, 5, 6, 6, 6, 6, 6, 6, 6, 6, 6, 6, 6, 6, 6, 6, 6, 6, 6, 6, 6, 6, 6, 6, 6, 6, 6, 6, 6, 6, 6, 6, 6, 6, 7, 7, 7, 7, 7, 7, 7, 7, 7, 7, 7, 7, 7, 7, 7, 7, 7, 7, 7, 7, 7, 7, 7, 7, 7, 7, 7, 7, 7, 7, 7, 7, 7, 7, 7, 7, 7, 7, 7, 7, 7, 7, 7, 7, 7, 7, 7, 7, 7, 7, 7, 7, 7, 7, 7, 7, 7, 7, 7, 7, 7, 7, 7, 7, 8, 8, 8, 8, 8, 8, 8, 8, 8, 8, 8, 8, 8, 8, 8, 8, 8, 8, 8, 8, 8, 8, 8, 8, 8, 8, 8, 8, 8, 8, 8, 8, 8, 8, 8, 8, 8, 8, 8, 8, 8, 8, 8, 8, 8, 8, 8, 8, 8, 8, 8, 8, 8, 8, 8, 8, 8, 8, 8, 8, 8, 8, 8, 8, 8, 8, 8, 8, 8, 8, 8, 8, 8, 8, 8, 8, 8, 8, 8, 8, 8, 8, 8, 8, 8, 8, 8, 8, 8, 8, 8, 8, 8, 8, 8, 8, 8, 8, 8, 8, 8, 8, 8, 8, 8, 8, 8, 8, 8, 8, 8, 8, 8, 8, 8, 8, 8, 8, 8, 8, 8, 8, 8, 8, 8, 8, 8, 8] }) t21_45) fun t22_46 =>
oV (vConv (.int .i64) t22_46) fun t23_47 =>
oV (vInt .add t18_44 t23_47) fun t24_48 =>
Q (.returned t24_48) H) (
oV (vConv (.int .u8) x0) fun t21_49 =>
oV (vIndexStr (.string { data := #[0, 1, 2, 2, 3, 3, 3, 3, 4, 4, 4, 4, 4, 4, 4, 4, 5, 5, 5, 5, 5, 5, 5, 5, 5, 5, 5, 5, 5, 5, 5, 5, 6, 6, 6, 6, 6, 6, 6, 6, 6, 6, 6, 6, 6, 6, 6, 6, 6, 6, 6, 6, 6, 6, 6, 6, 6, 6, 6, 6, 6, 6, 6, 6, 7, 7, 7, 7, 7, 7, 7, 7, 7, 7, 7, 7, 7, 7, 7, 7, 7, 7, 7, 7, 7, 7, 7, 7, 7, 7, 7, 7, 7, 7, 7, 7, 7, 7, 7, 7, 7, 7, 7, 7, 7, 7, 7, 7, 7, 7, 7, 7, 7, 7, 7, 7, 7, 7, 7, 7, 7, 7, 7, 7, 7, 7, 7, 7, 8, 8, 8, 8, 8, 8, 8, 8, 8, 8, 8, 8, 8, 8, 8, 8, 8, 8, 8, 8, 8, 8, 8, 8, 8, 8, 8, 8, 8, 8, 8, 8, 8, 8, 8, 8, 8, 8, 8, 8, 8, 8, 8, 8, 8, 8, 8, 8, 8, 8, 8, 8, 8, 8, 8, 8, 8, 8, 8, 8, 8, 8, 8, 8, 8, 8, 8, 8, 8, 8, 8, 8, 8, 8, 8, 8, 8, 8, 8, 8, 8, 8, 8, 8, 8, 8, 8, 8, 8, 8, 8, 8, 8, 8, 8, 8, 8, 8, 8, 8, 8, 8, 8, 8, 8, 8, 8, 8, 8, 8, 8, 8, 8, 8, 8, 8, 8, 8, 8, 8, 8, 8, 8, 8, 8, 8, 8, 8] }) t21_49) fun t22_50 =>
oV (vConv (.int .i64) t22_50) fun t23_51 =>
oV (vInt .add (.int .i64 0) t23_51) fun t24_52 =>
Q (.returned t24_52) H)))
theorem c152_0 (env : Env) (H : Heap) (Q : QT) (h : m152 (env 0) H Q) :
    RCode Tryd.prog 25 (bodyOf Tryd.f152) env H (mkK (retK T Tryd.f152.results.toList Q) (fun _ _ _ => False) (retK T Tryd.f152.results.toList Q) (fun c H => Q (.panicked c) H)) :=
  RCode.leaf_ (T := T) (X := ext) (hint := hint152) tok xok mixed (by kernel_rfl) h
theorem call152 (a0 : Value) (H : Heap) (Q : QT) (h : m152 a0 H Q) : RCalls Tryd.prog 152 [a0] H Q :=
  RCalls.intro (nt := 25) tok Tryd.func152 (by kernel_rfl) (by kernel_rfl) (by kernel_rfl) (of_decide_eq_true (by kernel_rfl)) (c152_0 (envOf [a0]) H Q h)
def hint150 : Nat → List Nat := lookupL []
def m150 (x0 : Value) (H : Heap) (Q : QT) : Prop :=
oRC Tryd.prog 152 [x0] H (fun c H => Q (.panicked c) H) fun v_1 H_2 =>
oV (vConv (.int .u64) v_1) fun t5_3 =>
Q (.returned t5_3) H_2
theorem c150_0 (env : Env) (H : Heap) (Q : QT) (h : m150 (env 0) H Q) :
    RCode Tryd.prog 6 (bodyOf Tryd.f150) env H (mkK (retK T Tryd.f150.results.toList Q) (fun _ _ _ => False) (retK T Tryd.f150.results.toList Q) (fun c H => Q (.panicked c) H)) :=
  RCode.leaf_ (T := T) (X := ext) (hint := hint150) tok xok mixed (by kernel_rfl) h
theorem call150 (a0 : Value) (H : Heap) (Q : QT) (h : m150 a0 H Q) : RCalls Tryd.prog 150 [a0] H Q :=
  RCalls.intro (nt := 6) tok Tryd.func150 (by kernel_rfl) (by kernel_rfl) (by kernel_rfl) (of_decide_eq_true (by kernel_rfl)) (c150_0 (envOf [a0]) H Q h)
def hint146 : Nat → List Nat := lookupL []
def m146_1 (x0 x2 : Value) (H : Heap) (Q : QT) : Prop :=
oV (vInt .eql x2 x0) fun t46_1 =>
condK t46_1 (
Q (.returned (.int .u64 0)) H) (
Q (.returned x2) H)
theorem c146_1 (env : Env) (H : Heap) (Q : QT) (h : m146_1 (env 0) (env 2) H Q) :
    RCode Tryd.prog 48 (codeAt [1, 1, 1] (bodyOf Tryd.f146)) env H (mkK (retK T Tryd.f146.results.toList Q) (fun _ _ _ => False) (retK T Tryd.f146.results.toList Q) (fun c H => Q (.panicked c) H)) :=
  RCode.leaf_ (T := T) (X := ext) (hint := hint146) tok xok mixed (by kernel_rfl) h
def L146_2 (x0 x1 x2 x7 : Value) (H : Heap) (kn : K2T) (Q : QT) : Prop :=
  ∀ env : Env, env 0 = x0 → env 1 = x1 → env 2 = x2 → env 7 = x7 → RLoop Tryd.prog 48 (codeAt [1, 1, 0, 0, 0] (bodyOf Tryd.f146)) env H (mkK (fun _ _ => False) (inK 0 (fun e H => kn (e 0) (e 2) H) (fun _ _ _ => False)) (retK T Tryd.f146.results.toList Q) (fun c H => Q (.panicked c) H))
theorem cL146_2 (env : Env) (H : Heap) (kn : K2T) (Q : QT) (h : L146_2 (env 0) (env 1) (env 2) (env 7) H kn Q) :
    RCode Tryd.prog 48 (codeAt [1, 1, 0] (bodyOf Tryd.f146)) env H (mkK (fun e H => kn (e 0) (e 2) H) (fun _ _ _ => False) (retK T Tryd.f146.results.toList Q) (fun c H => Q (.panicked c) H)) :=
  RCode.blk (by kernel_rfl : (codeAt [1, 1, 0] (bodyOf Tryd.f146)) = .block 0 (codeAt [1, 1, 0, 0] (bodyOf Tryd.f146))) (RCode.lp (by kernel_rfl : (codeAt [1, 1, 0, 0] (bodyOf Tryd.f146)) = .loop (codeAt [1, 1, 0, 0, 0] (bodyOf Tryd.f146))) ((h env rfl rfl rfl rfl).mono (mkK_mono (fun _ _ h => h.elim) (fun _ _ _ h => h) (fun _ _ h => h) (fun _ _ h => h))))
def m146_3 (x0 x1 x2 x7 : Value) (H : Heap) (kn : K4T) (kx0 : K2T) (Q : QT) : Prop :=
oV (vInt .neq x1 (.int .u64 0)) fun t14_2 =>
oV (gV t14_2 false (some x2) (some undef)) fun t16_3 =>
oV (gV t14_2 false (some x0) (some undef)) fun t17_4 =>
oV (gV t14_2 false (vInt .gtr t16_3 t17_4) (some undef)) fun t18_5 =>
oV (vPick t14_2 (.bool true) t18_5) fun t19_6 =>
condK t19_6 (
oV (vInt .and x2 x0) fun t22_7 =>
oV (vInt .shr x2 x7) fun t25_8 =>
oV (vInt .sub (.int .u64 64) x7) fun t28_9 =>
oV (vInt .shl x1 t28_9) fun t29_10 =>
oV (vInt .or t25_8 t29_10) fun t30_11 =>
oV (vInt .shr x1 x7) fun t33_12 =>
oV (vAdd64 [t30_11, t22_7, (.int .u64 0)]) fun v_13 =>
oV (vExtract v_13 0) fun t38_15 =>
oV (vExtract v_13 1) fun t39_16 =>
oV (vInt .add t33_12 t39_16) fun t43_17 =>
kn x0 t43_17 t38_15 x7 H) (
kx0 x0 x2 H)
theorem c146_3 (env : Env) (H : Heap) (kn : K4T) (kx0 : K2T) (Q : QT) (h : m146_3 (env 0) (env 1) (env 2) (env 7) H kn kx0 Q) :
    RCode Tryd.prog 48 (codeAt [1, 1, 0, 0, 0] (bodyOf Tryd.f146)) env H (mkK (fun e H => kn (e 0) (e 1) (e 2) (e 7) H) (inK 0 (fun e H => kx0 (e 0) (e 2) H) (fun _ _ _ => False)) (retK T Tryd.f146.results.toList Q) (fun c H => Q (.panicked c) H)) :=
  RCode.leaf_ (T := T) (X := ext) (hint := hint146) tok xok mixed (by kernel_rfl) h
theorem L146_2_round (x0 x1 x2 x7 : Value) (H : Heap) (kn : K2T) (Q : QT) (h : m146_3 x0 x1 x2 x7 H (fun y0 y1 y2 y7 H => L146_2 y0 y1 y2 y7 H kn Q) kn Q) : L146_2 x0 x1 x2 x7 H kn Q := by
  intro env h0 h1 h2 h7
  subst h0; subst h1; subst h2; subst h7
  exact RLoop.round ((c146_3 env H (fun y0 y1 y2 y7 H => L146_2 y0 y1 y2 y7 H kn Q) kn Q h).mono (mkK_mono (fun e H h => h e rfl rfl rfl rfl) (fun _ _ _ h => h) (fun _ _ h => h) (fun _ _ h => h)))
def m146 (x0 x1 x2 : Value) (H : Heap) (Q : QT) : Prop :=
oRC Tryd.prog 150 [x0] H (fun c H => Q (.panicked c) H) fun v_18 H_19 =>
L146_2 x0 x1 x2 v_18 H_19 (fun y0_20 y2_21 H_22 => m146_1 y0_20 y2_21 H_22 Q) Q
theorem c146_0 (env : Env) (H : Heap) (Q : QT) (h : m146 (env 0) (env 1) (env 2) H Q) :
    RCode Tryd.prog 48 (bodyOf Tryd.f146) env H (mkK (retK T Tryd.f146.results.toList Q) (fun _ _ _ => False) (retK T Tryd.f146.results.toList Q) (fun c H => Q (.panicked c) H)) :=
  RCode.prefix_ (T := T) (X := ext) (hint := hint146) (hole := (fun e H => L146_2 (e 0) (e 1) (e 2) (e 7) H (fun y0_23 y2_24 H_25 => m146_1 y0_23 y2_24 H_25 Q) Q)) tok xok mixed 2 (by kernel_rfl) (by kernel_rfl : codeAt _ _ = (codeAt [1, 1] (bodyOf Tryd.f146))) h
    (fun e H h => RCode.join (by kernel_rfl : (codeAt [1, 1] (bodyOf Tryd.f146)) = .seq (codeAt [1, 1, 0] (bodyOf Tryd.f146)) (codeAt [1, 1, 1] (bodyOf Tryd.f146))) ((cL146_2 e H (fun y0_26 y2_27 H_28 => m146_1 y0_26 y2_27 H_28 Q) Q h).mono (mkK_mono (fun e H h => c146_1 e H Q h) (fun _ _ _ h => h) (fun _ _ h => h) (fun _ _ h => h))))
theorem call146 (a0 a1 a2 : Value) (H : Heap) (Q : QT) (h : m146 a0 a1 a2 H Q) : RCalls Tryd.prog 146 [a0, a1, a2] H Q :=
  RCalls.intro (nt := 48) tok Tryd.func146 (by kernel_rfl) (by kernel_rfl) (by kernel_rfl) (of_decide_eq_true (by kernel_rfl)) (c146_0 (envOf [a0, a1, a2]) H Q h)
def hint135 : Nat → List Nat := lookupL []
def m135 (x0 x1 : Value) (H : Heap) (Q : QT) : Prop :=
oRC Tryd.prog 146 [x0, (.int .u64 0), x1] H (fun c H => Q (.panicked c) H) fun v_1 H_2 =>
Q (.returned v_1) H_2
theorem c135_0 (env : Env) (H : Heap) (Q : QT) (h : m135 (env 0) (env 1) H Q) :
    RCode Tryd.prog 8 (bodyOf Tryd.f135) env H (mkK (retK T Tryd.f135.results.toList Q) (fun _ _ _ => False) (retK T Tryd.f135.results.toList Q) (fun c H => Q (.panicked c) H)) :=
  RCode.leaf_ (T := T) (X := ext) (hint := hint135) tok xok mixed (by kernel_rfl) h
theorem call135 (a0 a1 : Value) (H : Heap) (Q : QT) (h : m135 a0 a1 H Q) : RCalls Tryd.prog 135 [a0, a1] H Q :=
  RCalls.intro (nt := 8) tok Tryd.func135 (by kernel_rfl) (by kernel_rfl) (by kernel_rfl) (of_decide_eq_true (by kernel_rfl)) (c135_0 (envOf [a0, a1]) H Q h)
def hint136 : Nat → List Nat := lookupL []
def m136 (x0 : Value) (H : Heap) (Q : QT) : Prop :=
oV (vNilOp .eql x0 (.slice none 0 0)) fun t4_1 =>
condK t4_1 (
Q (.returned (.slice none 0 0)) H) (
oBuildS ty22 22 0 [] H fun s_2 H_3 =>
oAppend ty22 22 s_2 x0 H_3 fun v_4 H_5 =>
Q (.returned v_4) H_5)
theorem c136_0 (env : Env) (H : Heap) (Q : QT) (h : m136 (env 0) H Q) :
    RCode Tryd.prog 8 (bodyOf Tryd.f136) env H (mkK (retK T Tryd.f136.results.toList Q) (fun _ _ _ => False) (retK T Tryd.f136.results.toList Q) (fun c H => Q (.panicked c) H)) :=
  RCode.leaf_ (T := T) (X := ext) (hint := hint136) tok xok mixed (by kernel_rfl) h
theorem call136 (a0 : Value) (H : Heap) (Q : QT) (h : m136 a0 H Q) : RCalls Tryd.prog 136 [a0] H Q :=
  RCalls.intro (nt := 8) tok Tryd.func136 (by kernel_rfl) (by kernel_rfl) (by kernel_rfl) (of_decide_eq_true (by kernel_rfl)) (c136_0 (envOf [a0]) H Q h)
def hint137 : Nat → List Nat := lookupL []
def m137 (x0 x1 x2 : Value) (H : Heap) (Q : QT) : Prop :=
oV (vInt .add x1 x2) fun t10_1 =>
oRC Tryd.prog 146 [x0, (.int .u64 0), t10_1] H (fun c H => Q (.panicked c) H) fun v_2 H_3 =>
Q (.returned v_2) H_3
theorem c137_0 (env : Env) (H : Heap) (Q : QT) (h : m137 (env 0) (env 1) (env 2) H Q) :
    RCode Tryd.prog 12 (bodyOf Tryd.f137) env H (mkK (retK T Tryd.f137.results.toList Q) (fun _ _ _ => False) (retK T Tryd.f137.results.toList Q) (fun c H => Q (.panicked c) H)) :=
  RCode.leaf_ (T := T) (X := ext) (hint := hint137) tok xok mixed (by kernel_rfl) h
theorem call137 (a0 a1 a2 : Value) (H : Heap) (Q : QT) (h : m137 a0 a1 a2 H Q) : RCalls Tryd.prog 137 [a0, a1, a2] H Q :=
  RCalls.intro (nt := 12) tok Tryd.func137 (by kernel_rfl) (by kernel_rfl) (by kernel_rfl) (of_decide_eq_true (by kernel_rfl)) (c137_0 (envOf [a0, a1, a2]) H Q h)
def hint138 : Nat → List Nat := lookupL []
def m138 (x0 x1 : Value) (H : Heap) (Q : QT) : Prop :=
oV (vInt .lss x1 (.int .i64 0)) fun t6_1 =>
oV (gV t6_1 false (some x1) (some undef)) fun t8_2 =>
oV (gV t6_1 false (some x0) (some undef)) fun t9_3 =>
oV (gV t6_1 false (vLen t9_3) (some undef)) fun t10_4 =>
oV (gV t6_1 false (vInt .geq t8_2 t10_4) (some undef)) fun t11_5 =>
oV (vPick t6_1 (.bool true) t11_5) fun t12_6 =>
condK t12_6 (
Q (.returned (.int .u64 0)) H) (
oV (vIdxS 1 x0 x1) fun t15_7 =>
oV (vLoad ty22 t15_7 H) fun t16_8 =>
Q (.returned t16_8) H)
theorem c138_0 (env : Env) (H : Heap) (Q : QT) (h : m138 (env 0) (env 1) H Q) :
    RCode Tryd.prog 17 (bodyOf Tryd.f138) env H (mkK (retK T Tryd.f138.results.toList Q) (fun _ _ _ => False) (retK T Tryd.f138.results.toList Q) (fun c H => Q (.panicked c) H)) :=
  RCode.leaf_ (T := T) (X := ext) (hint := hint138) tok xok mixed (by kernel_rfl) h
theorem call138 (a0 a1 : Value) (H : Heap) (Q : QT) (h : m138 a0 a1 H Q) : RCalls Tryd.prog 138 [a0, a1] H Q :=
  RCalls.intro (nt := 17) tok Tryd.func138 (by kernel_rfl) (by kernel_rfl) (by kernel_rfl) (of_decide_eq_true (by kernel_rfl)) (c138_0 (envOf [a0, a1]) H Q h)
def hint147 : Nat → List Nat := lookupL []
def m147 (x0 x1 : Value) (H : Heap) (Q : QT) : Prop :=
oV (vInt .and x0 (.int .u64 4294967295)) fun t15_1 =>
oV (vInt .shr x0 (.int .u64 32)) fun t17_2 =>
oV (vInt .and x1 (.int .u64 4294967295)) fun t19_3 =>
oV (vInt .shr x1 (.int .u64 32)) fun t21_4 =>
oV (vInt .mul t15_1 t19_3) fun t24_5 =>
oV (vInt .mul t17_2 t19_3) fun t27_6 =>
oV (vInt .shr t24_5 (.int .u64 32)) fun t29_7 =>
oV (vInt .add t27_6 t29_7) fun t30_8 =>
oV (vInt .and t30_8 (.int .u64 4294967295)) fun t32_9 =>
oV (vInt .shr t30_8 (.int .u64 32)) fun t34_10 =>
oV (vInt .mul t15_1 t21_4) fun t38_11 =>
oV (vInt .add t32_9 t38_11) fun t39_12 =>
oV (vInt .mul t17_2 t21_4) fun t42_13 =>
oV (vInt .add t42_13 t34_10) fun t44_14 =>
oV (vInt .shr t39_12 (.int .u64 32)) fun t46_15 =>
oV (vInt .add t44_14 t46_15) fun t47_16 =>
oV (vInt .mul x0 x1) fun t50_17 =>
Q (.returned (.tuple #[t47_16, t50_17])) H
theorem c147_0 (env : Env) (H : Heap) (Q : QT) (h : m147 (env 0) (env 1) H Q) :
    RCode Tryd.prog 51 (bodyOf Tryd.f147) env H (mkK (retK T Tryd.f147.results.toList Q) (fun _ _ _ => False) (retK T Tryd.f147.results.toList Q) (fun c H => Q (.panicked c) H)) :=
  RCode.leaf_ (T := T) (X := ext) (hint := hint147) tok xok mixed (by kernel_rfl) h
theorem call147 (a0 a1 : Value) (H : Heap) (Q : QT) (h : m147 a0 a1 H Q) : RCalls Tryd.prog 147 [a0, a1] H Q :=
  RCalls.intro (nt := 51) tok Tryd.func147 (by kernel_rfl) (by kernel_rfl) (by kernel_rfl) (of_decide_eq_true (by kernel_rfl)) (c147_0 (envOf [a0, a1]) H Q h)
def hint139 : Nat → List Nat := lookupL []
def m139 (x0 x1 x2 : Value) (H : Heap) (Q : QT) : Prop :=
oRC Tryd.prog 147 [x1, x2] H (fun c H => Q (.panicked c) H) fun v_1 H_2 =>
oV (vExtract v_1 0) fun t13_3 =>
oV (vExtract v_1 1) fun t14_4 =>
oRC Tryd.prog 146 [x0, t13_3, t14_4] H_2 (fun c H => Q (.panicked c) H) fun v_5 H_6 =>
Q (.returned v_5) H_6
theorem c139_0 (env : Env) (H : Heap) (Q : QT) (h : m139 (env 0) (env 1) (env 2) H Q) :
    RCode Tryd.prog 19 (bodyOf Tryd.f139) env H (mkK (retK T Tryd.f139.results.toList Q) (fun _ _ _ => False) (retK T Tryd.f139.results.toList Q) (fun c H => Q (.panicked c) H)) :=
  RCode.leaf_ (T := T) (X := ext) (hint := hint139) tok xok mixed (by kernel_rfl) h
theorem call139 (a0 a1 a2 : Value) (H : Heap) (Q : QT) (h : m139 a0 a1 a2 H Q) : RCalls Tryd.prog 139 [a0, a1, a2] H Q :=
  RCalls.intro (nt := 19) tok Tryd.func139 (by kernel_rfl) (by kernel_rfl) (by kernel_rfl) (of_decide_eq_true (by kernel_rfl)) (c139_0 (envOf [a0, a1, a2]) H Q h)
def hint111 : Nat → List Nat := lookupL [(12, [0, 1, 2, 3, 4, 5, 6, 7, 8, 9, 10, 11, 12]), (17, [0, 1, 2, 3, 4, 5, 6, 7, 8, 9, 10, 11, 12, 13, 14, 15])]
def m111 (x0 x1 x2 x3 : Value) (H : Heap) (Q : QT) : Prop :=
oNew (Value.cells x0).toList (Value.cells x0).toList.length 29 H fun i_1 H_2 =>
oNew (Value.cells x1).toList (Value.cells x1).toList.length 109 H_2 fun i_3 H_4 =>
oV (vField 4 (ptrTo i_3)) fun t12_5 =>
oV (vLoad ty3 t12_5 H_4) fun t13_6 =>
oV (vInt .eql t13_6 (.int .i64 4)) fun t14_7 =>
condK t14_7 (
Q (.returned (.slice none 0 0)) H_4) (
oV (vField 3 (ptrTo i_3)) fun t15_8 =>
oV (vLoad ty3 t15_8 H_4) fun t16_9 =>
oV (vLen x2) fun t18_10 =>
oV (vInt .geq t16_9 t18_10) fun t19_11 =>
condK t19_11 (
Q (.returned x2) H_4) (
oV (vField 0 (ptrTo i_1)) fun t21_12 =>
oV (vField 0 t21_12) fun t22_13 =>
oV (vLoad ty22 t22_13 H_4) fun t23_14 =>
oV (vField 5 (ptrTo i_3)) fun t25_15 =>
oV (vLoad ty22 t25_15 H_4) fun t26_16 =>
oRC Tryd.prog 135 [t23_14, t26_16] H_4 (fun c H => Q (.panicked c) H) fun v_17 H_18 =>
oRC Tryd.prog 136 [x2] H_18 (fun c H => Q (.panicked c) H) fun v_19 H_20 =>
oV (vField 4 (ptrTo i_3)) fun t30_21 =>
oV (vLoad ty3 t30_21 H_20) fun t31_22 =>
oV (vInt .eql t31_22 (.int .i64 1)) fun t33_23 =>
condK t33_23 (
oV (vField 3 (ptrTo i_3)) fun t35_24 =>
oV (vLoad ty3 t35_24 H_20) fun t36_25 =>
oV (vIdxS 1 v_19 t36_25) fun t38_26 =>
oHeap (vStore ty22 t38_26 v_17 H_20) fun H_27 =>
Q (.returned v_19) H_27) (
oV (vInt .eql t31_22 (.int .i64 2)) fun t40_28 =>
condK t40_28 (
oV (vField 3 (ptrTo i_3)) fun t42_29 =>
oV (vLoad ty3 t42_29 H_20) fun t43_30 =>
oV (vField 3 (ptrTo i_3)) fun t46_31 =>
oV (vLoad ty3 t46_31 H_20) fun t47_32 =>
oV (vIdxS 1 v_19 t47_32) fun t48_33 =>
oV (vLoad ty22 t48_33 H_20) fun t49_34 =>
oRC Tryd.prog 137 [t23_14, t49_34, v_17] H_20 noP fun v_35 H_36 =>
(vLoad ty3 t42_29 H_36 = some t43_30 ∧
oV (vIdxS 1 v_19 t43_30) fun t52_37 =>
oHeap (vStore ty22 t52_37 v_35 H_36) fun H_38 =>
Q (.returned v_19) H_38)) (
oV (vInt .eql t31_22 (.int .i64 3)) fun t54_39 =>
condK t54_39 (
oV (vField 3 (ptrTo i_1)) fun t55_40 =>
oV (vLoad ty25 t55_40 H_20) fun t56_41 =>
oV (vField 6 (ptrTo i_3)) fun t57_42 =>
oV (vLoad ty3 t57_42 H_20) fun t58_43 =>
oRC Tryd.prog 134 [t56_41, t58_43] H_20 (fun c H => Q (.panicked c) H) fun v_44 H_45 =>
oV (vUn .not v_44) fun t60_46 =>
condK t60_46 (
oV (vField 7 (ptrTo i_3)) fun t62_47 =>
oV (vLoad ty3 t62_47 H_45) fun t63_48 =>
oRC Tryd.prog 138 [x3, t63_48] H_45 (fun c H => Q (.panicked c) H) fun v_49 H_50 =>
oV (vField 3 (ptrTo i_3)) fun t66_51 =>
oV (vLoad ty3 t66_51 H_50) fun t67_52 =>
oV (vField 3 (ptrTo i_3)) fun t70_53 =>
oV (vLoad ty3 t70_53 H_50) fun t71_54 =>
oV (vIdxS 1 v_19 t71_54) fun t72_55 =>
oV (vLoad ty22 t72_55 H_50) fun t73_56 =>
oRC Tryd.prog 139 [t23_14, v_17, v_49] H_50 noP fun v_57 H_58 =>
(vLoad ty22 t72_55 H_58 = some t73_56 ∧
(vLoad ty3 t70_53 H_58 = some t71_54 ∧
(vLoad ty3 t66_51 H_58 = some t67_52 ∧
oRC Tryd.prog 137 [t23_14, t73_56, v_57] H_58 noP fun v_59 H_60 =>
(vLoad ty3 t66_51 H_60 = some t67_52 ∧
oV (vIdxS 1 v_19 t67_52) fun t79_61 =>
oHeap (vStore ty22 t79_61 v_59 H_60) fun H_62 =>
Q (.returned v_19) H_62))))) (
oV (vField 3 (ptrTo i_3)) fun t66_63 =>
oV (vLoad ty3 t66_63 H_45) fun t67_64 =>
oV (vField 3 (ptrTo i_3)) fun t70_65 =>
oV (vLoad ty3 t70_65 H_45) fun t71_66 =>
oV (vIdxS 1 v_19 t71_66) fun t72_67 =>
oV (vLoad ty22 t72_67 H_45) fun t73_68 =>
oRC Tryd.prog 139 [t23_14, v_17, (.int .u64 0)] H_45 noP fun v_69 H_70 =>
(vLoad ty22 t72_67 H_70 = some t73_68 ∧
(vLoad ty3 t70_65 H_70 = some t71_66 ∧
(vLoad ty3 t66_63 H_70 = some t67_64 ∧
oRC Tryd.prog 137 [t23_14, t73_68, v_69] H_70 noP fun v_71 H_72 =>
(vLoad ty3 t66_63 H_72 = some t67_64 ∧
oV (vIdxS 1 v_19 t67_64) fun t79_73 =>
oHeap (vStore ty22 t79_73 v_71 H_72) fun H_74 =>
Q (.returned v_19) H_74)))))) (
Q (.returned v_19) H_20)))))
theorem c111_0 (env : Env) (H : Heap) (Q : QT) (h : m111 (env 0) (env 1) (env 2) (env 3) H Q) :
    RCode Tryd.prog 81 (bodyOf Tryd.f111) env H (mkK (retK T Tryd.f111.results.toList Q) (fun _ _ _ => False) (retK T Tryd.f111.results.toList Q) (fun c H => Q (.panicked c) H)) :=
  RCode.leaf_ (T := T) (X := ext) (hint := hint111) tok xok mixed (by kernel_rfl) h
theorem call111 (a0 a1 a2 a3 : Value) (H : Heap) (Q : QT) (h : m111 a0 a1 a2 a3 H Q) : RCalls Tryd.prog 111 [a0, a1, a2, a3] H Q :=
  RCalls.intro (nt := 81) tok Tryd.func111 (by kernel_rfl) (by kernel_rfl) (by kernel_rfl) (of_decide_eq_true (by kernel_rfl)) (c111_0 (envOf [a0, a1, a2, a3]) H Q h)
def hint80 : Nat → List Nat := lookupL [(13, [0, 1, 2, 3, 4, 5, 6, 7, 8, 9, 10, 11]), (18, [0, 1, 2, 3, 4, 5, 6, 7, 8, 9, 10, 11, 12, 13, 14, 15, 16, 17, 18, 19, 20, 21])]
def m80_2 (x7 : Value) (H : Heap) (Q : QT) : Prop :=
Q (.returned x7) H
theorem c80_2 (env : Env) (H : Heap) (Q : QT) (h : m80_2 (env 7) H Q) :
    RCode Tryd.prog 107 (codeAt [1, 1, 1, 1] (bodyOf Tryd.f80)) env H (mkK (retK T Tryd.f80.results.toList Q) (fun _ _ _ => False) (retK T Tryd.f80.results.toList Q) (fun c H => Q (.panicked c) H)) :=
  RCode.leaf_ (T := T) (X := ext) (hint := hint80) tok xok mixed (by kernel_rfl) h
def L80_4 (x1 x2 x3 x7 x31 x32 x33 : Value) (H : Heap) (kn : K1T) (Q : QT) : Prop :=
  ∀ env : Env, env 1 = x1 → env 2 = x2 → env 3 = x3 → env 7 = x7 → env 31 = x31 → env 32 = x32 → env 33 = x33 → RLoop Tryd.prog 107 (codeAt [1, 1, 1, 0, 1, 0, 0] (bodyOf Tryd.f80)) env H (mkK (fun _ _ => False) (inK 2 (fun e H => kn (e 7) H) (fun _ _ _ => False)) (retK T Tryd.f80.results.toList Q) (fun c H => Q (.panicked c) H))
theorem cL80_4 (env : Env) (H : Heap) (kn : K1T) (Q : QT) (h : L80_4 (env 1) (env 2) (env 3) (env 7) (env 31) (env 32) (env 33) H kn Q) :
    RCode Tryd.prog 107 (codeAt [1, 1, 1, 0, 1] (bodyOf Tryd.f80)) env H (mkK (fun e H => kn (e 7) H) (fun _ _ _ => False) (retK T Tryd.f80.results.toList Q) (fun c H => Q (.panicked c) H)) :=
  RCode.blk (by kernel_rfl : (codeAt [1, 1, 1, 0, 1] (bodyOf Tryd.f80)) = .block 2 (codeAt [1, 1, 1, 0, 1, 0] (bodyOf Tryd.f80))) (RCode.lp (by kernel_rfl : (codeAt [1, 1, 1, 0, 1, 0] (bodyOf Tryd.f80)) = .loop (codeAt [1, 1, 1, 0, 1, 0, 0] (bodyOf Tryd.f80))) ((h env rfl rfl rfl rfl rfl rfl rfl).mono (mkK_mono (fun _ _ h => h.elim) (fun _ _ _ h => h) (fun _ _ h => h) (fun _ _ h => h))))
def m80_6 (x1 x2 x3 x7 x31 x32 x33 : Value) (H : Heap) (kn : K7T) (kx2 : K1T) (Q : QT) : Prop :=
oV (vInt .add x33 (.int .i64 1)) fun t105_1 =>
kn x1 x2 x3 x7 x31 x32 t105_1 H
theorem c80_6 (env : Env) (H : Heap) (kn : K7T) (kx2 : K1T) (Q : QT) (h : m80_6 (env 1) (env 2) (env 3) (env 7) (env 31) (env 32) (env 33) H kn kx2 Q) :
    RCode Tryd.prog 107 (codeAt [1, 1, 1, 0, 1, 0, 0, 1, 1, 1] (bodyOf Tryd.f80)) env H (mkK (fun e H => kn (e 1) (e 2) (e 3) (e 7) (e 31) (e 32) (e 33) H) (inK 2 (fun e H => kx2 (e 7) H) (fun _ _ _ => False)) (retK T Tryd.f80.results.toList Q) (fun c H => Q (.panicked c) H)) :=
  RCode.leaf_ (T := T) (X := ext) (hint := hint80) tok xok mixed (by kernel_rfl) h
def L80_10 (x1 x2 x3 x7 x11 x12 x31 x32 x33 x62 x63 : Value) (H : Heap) (kn : K7T) (kx3 : K7T) (kx2 : K1T) (Q : QT) : Prop :=
  ∀ env : Env, env 1 = x1 → env 2 = x2 → env 3 = x3 → env 7 = x7 → env 11 = x11 → env 12 = x12 → env 31 = x31 → env 32 = x32 → env 33 = x33 → env 62 = x62 → env 63 = x63 → RLoop Tryd.prog 107 (codeAt [1, 1, 1, 0, 1, 0, 0, 1, 1, 0, 0, 1, 1, 1, 1, 1, 0, 0] (bodyOf Tryd.f80)) env H (mkK (fun _ _ => False) (inK 4 (fun e H => kn (e 1) (e 2) (e 3) (e 7) (e 31) (e 32) (e 33) H) (inK 3 (fun e H => kx3 (e 1) (e 2) (e 3) (e 7) (e 31) (e 32) (e 33) H) (inK 2 (fun e H => kx2 (e 7) H) (fun _ _ _ => False)))) (retK T Tryd.f80.results.toList Q) (fun c H => Q (.panicked c) H))
theorem cL80_10 (env : Env) (H : Heap) (kn : K7T) (kx3 : K7T) (kx2 : K1T) (Q : QT) (h : L80_10 (env 1) (env 2) (env 3) (env 7) (env 11) (env 12) (env 31) (env 32) (env 33) (env 62) (env 63) H kn kx3 kx2 Q) :
    RCode Tryd.prog 107 (codeAt [1, 1, 1, 0, 1, 0, 0, 1, 1, 0, 0, 1, 1, 1, 1, 1] (bodyOf Tryd.f80)) env H (mkK (fun e H => kn (e 1) (e 2) (e 3) (e 7) (e 31) (e 32) (e 33) H) (inK 3 (fun e H => kx3 (e 1) (e 2) (e 3) (e 7) (e 31) (e 32) (e 33) H) (inK 2 (fun e H => kx2 (e 7) H) (fun _ _ _ => False))) (retK T Tryd.f80.results.toList Q) (fun c H => Q (.panicked c) H)) :=
  RCode.blk (by kernel_rfl : (codeAt [1, 1, 1, 0, 1, 0, 0, 1, 1, 0, 0, 1, 1, 1, 1, 1] (bodyOf Tryd.f80)) = .block 4 (codeAt [1, 1, 1, 0, 1, 0, 0, 1, 1, 0, 0, 1, 1, 1, 1, 1, 0] (bodyOf Tryd.f80))) (RCode.lp (by kernel_rfl : (codeAt [1, 1, 1, 0, 1, 0, 0, 1, 1, 0, 0, 1, 1, 1, 1, 1, 0] (bodyOf Tryd.f80)) = .loop (codeAt [1, 1, 1, 0, 1, 0, 0, 1, 1, 0, 0, 1, 1, 1, 1, 1, 0, 0] (bodyOf Tryd.f80))) ((h env rfl rfl rfl rfl rfl rfl rfl rfl rfl rfl rfl).mono (mkK_mono (fun _ _ h => h.elim) (fun _ _ _ h => h) (fun _ _ h => h) (fun _ _ h => h))))
def m80_11 (x1 x2 x3 x7 x11 x12 x31 x32 x33 x62 x63 : Value) (H : Heap) (kn : K11T) (kx4 : K7T) (kx3 : K7T) (kx2 : K1T) (Q : QT) : Prop :=
oV (vInt .lss x63 x62) fun t64_2 =>
condK t64_2 (
oV (vInt .add x63 (.int .i64 1)) fun t67_3 =>
oV (vField 1 x11) fun t68_4 =>
oV (vLoad ty3 t68_4 H) fun t69_5 =>
oV (vInt .neq t67_3 t69_5) fun t70_6 =>
oV (gV t70_6 true (vField 2 x11) (some undef)) fun t72_7 =>
oV (gV t70_6 true (vLoad ty3 t72_7 H) (some undef)) fun t73_8 =>
oV (gV t70_6 true (vInt .eql t73_8 (.int .i64 0)) (some undef)) fun t74_9 =>
oV (gV t70_6 true (some t74_9) (some undef)) fun t75_10 =>
oV (gV t75_10 false (vField 2 x11) (some undef)) fun t76_11 =>
oV (gV t75_10 false (vLoad ty3 t76_11 H) (some undef)) fun t77_12 =>
oV (gV t75_10 false (some x63) (some undef)) fun t78_13 =>
oV (gV t75_10 false (vInt .add t78_13 (.int .i64 1)) (some undef)) fun t79_14 =>
oV (gV t75_10 false (vInt .eql t77_12 t79_14) (some undef)) fun t80_15 =>
oV (gV t70_6 true (vPick t75_10 (.bool true) t80_15) (some undef)) fun t81_16 =>
oV (vPick t70_6 t81_16 (.bool false)) fun t82_17 =>
condK t82_17 (
oV (vField 1 x11) fun t84_18 =>
oV (vLoad ty3 t84_18 H) fun t85_19 =>
oV (vInt .sub t85_19 (.int .i64 1)) fun t86_20 =>
oV (vIdxS 1 x7 t86_20) fun t87_21 =>
oV (vLoad ty27 t87_21 H) fun t88_22 =>
oV (vLoad ty29 x3 H) fun t90_23 =>
oV (vLoad ty109 x11 H) fun t91_24 =>
oV (vField 1 x11) fun t93_25 =>
oV (vLoad ty3 t93_25 H) fun t94_26 =>
oV (vInt .sub t94_26 (.int .i64 1)) fun t95_27 =>
oV (vIdxS 1 x7 t95_27) fun t96_28 =>
oV (vLoad ty27 t96_28 H) fun t97_29 =>
oV (vIdxS 1 t97_29 x63) fun t99_30 =>
oV (vLoad ty52 t99_30 H) fun t100_31 =>
oRC Tryd.prog 111 [t90_23, t91_24, t100_31, x12] H noP fun v_32 H_33 =>
(vLoad ty27 t87_21 H_33 = some t88_22 ∧
(vLoad ty3 t84_18 H_33 = some t85_19 ∧
oV (vIdxS 1 t88_22 x63) fun t103_34 =>
oHeap (vStore ty52 t103_34 v_32 H_33) fun H_35 =>
oV (vInt .add x63 (.int .i64 1)) fun t104_36 =>
kn x1 x2 x3 x7 x11 x12 x31 x32 x33 x62 t104_36 H_35))) (
oV (vInt .add x63 (.int .i64 1)) fun t104_37 =>
kn x1 x2 x3 x7 x11 x12 x31 x32 x33 x62 t104_37 H)) (
kx4 x1 x2 x3 x7 x31 x32 x33 H)
theorem c80_11 (env : Env) (H : Heap) (kn : K11T) (kx4 : K7T) (kx3 : K7T) (kx2 : K1T) (Q : QT) (h : m80_11 (env 1) (env 2) (env 3) (env 7) (env 11) (env 12) (env 31) (env 32) (env 33) (env 62) (env 63) H kn kx4 kx3 kx2 Q) :
    RCode Tryd.prog 107 (codeAt [1, 1, 1, 0, 1, 0, 0, 1, 1, 0, 0, 1, 1, 1, 1, 1, 0, 0] (bodyOf Tryd.f80)) env H (mkK (fun e H => kn (e 1) (e 2) (e 3) (e 7) (e 11) (e 12) (e 31) (e 32) (e 33) (e 62) (e 63) H) (inK 4 (fun e H => kx4 (e 1) (e 2) (e 3) (e 7) (e 31) (e 32) (e 33) H) (inK 3 (fun e H => kx3 (e 1) (e 2) (e 3) (e 7) (e 31) (e 32) (e 33) H) (inK 2 (fun e H => kx2 (e 7) H) (fun _ _ _ => False)))) (retK T Tryd.f80.results.toList Q) (fun c H => Q (.panicked c) H)) :=
  RCode.leaf_ (T := T) (X := ext) (hint := hint80) tok xok mixed (by kernel_rfl) h
theorem L80_10_round (x1 x2 x3 x7 x11 x12 x31 x32 x33 x62 x63 : Value) (H : Heap) (kn : K7T) (kx3 : K7T) (kx2 : K1T) (Q : QT) (h : m80_11 x1 x2 x3 x7 x11 x12 x31 x32 x33 x62 x63 H (fun y1 y2 y3 y7 y11 y12 y31 y32 y33 y62 y63 H => L80_10 y1 y2 y3 y7 y11 y12 y31 y32 y33 y62 y63 H kn kx3 kx2 Q) kn kx3 kx2 Q) : L80_10 x1 x2 x3 x7 x11 x12 x31 x32 x33 x62 x63 H kn kx3 kx2 Q := by
  intro env h1 h2 h3 h7 h11 h12 h31 h32 h33 h62 h63
  subst h1; subst h2; subst h3; subst h7; subst h11; subst h12; subst h31; subst h32; subst h33; subst h62; subst h63
  exact RLoop.round ((c80_11 env H (fun y1 y2 y3 y7 y11 y12 y31 y32 y33 y62 y63 H => L80_10 y1 y2 y3 y7 y11 y12 y31 y32 y33 y62 y63 H kn kx3 kx2 Q) kn kx3 kx2 Q h).mono (mkK_mono (fun e H h => h e rfl rfl rfl rfl rfl rfl rfl rfl rfl rfl rfl) (fun _ _ _ h => h) (fun _ _ h => h) (fun _ _ h => h)))
def m80_9 (x1 x2 x3 x7 x11 x12 x31 x32 x33 : Value) (H : Heap) (kn : K7T) (kx3 : K7T) (kx2 : K1T) (Q : QT) : Prop :=
oV (vField 1 x11) fun t57_38 =>
oV (vLoad ty3 t57_38 H) fun t58_39 =>
oV (vInt .sub t58_39 (.int .i64 1)) fun t59_40 =>
oV (vIdxS 1 x7 t59_40) fun t60_41 =>
oV (vLoad ty27 t60_41 H) fun t61_42 =>
oV (vLen t61_42) fun t62_43 =>
L80_10 x1 x2 x3 x7 x11 x12 x31 x32 x33 t62_43 (.int .i64 0) H kn kx3 kx2 Q
theorem c80_9 (env : Env) (H : Heap) (kn : K7T) (kx3 : K7T) (kx2 : K1T) (Q : QT) (h : m80_9 (env 1) (env 2) (env 3) (env 7) (env 11) (env 12) (env 31) (env 32) (env 33) H kn kx3 kx2 Q) :
    RCode Tryd.prog 107 (codeAt [1, 1, 1, 0, 1, 0, 0, 1, 1, 0, 0, 1, 1, 1, 1] (bodyOf Tryd.f80)) env H (mkK (fun e H => kn (e 1) (e 2) (e 3) (e 7) (e 31) (e 32) (e 33) H) (inK 3 (fun e H => kx3 (e 1) (e 2) (e 3) (e 7) (e 31) (e 32) (e 33) H) (inK 2 (fun e H => kx2 (e 7) H) (fun _ _ _ => False))) (retK T Tryd.f80.results.toList Q) (fun c H => Q (.panicked c) H)) :=
  RCode.prefix_ (T := T) (X := ext) (hint := hint80) (hole := (fun e H => L80_10 (e 1) (e 2) (e 3) (e 7) (e 11) (e 12) (e 31) (e 32) (e 33) (e 62) (e 63) H kn kx3 kx2 Q)) tok xok mixed 1 (by kernel_rfl) (by kernel_rfl : codeAt _ _ = (codeAt [1, 1, 1, 0, 1, 0, 0, 1, 1, 0, 0, 1, 1, 1, 1, 1] (bodyOf Tryd.f80))) h
    (fun e H h => (cL80_10 e H kn kx3 kx2 Q h))
def m80_8 (x1 x2 x3 x7 x31 x32 x33 : Value) (H : Heap) (kn : K7T) (kx3 : K7T) (kx2 : K1T) (Q : QT) : Prop :=
oV (vIdxS 8 x31 x33) fun t35_44 =>
oV (vLoad ty109 t35_44 H) fun t36_45 =>
oNew (Value.cells ty109.zero).toList (Value.cells ty109.zero).toList.length 109 H fun i_46 H_47 =>
oHeap (vStore ty109 (ptrTo i_46) t36_45 H_47) fun H_48 =>
oV (vLoad ty29 x3 H_48) fun t37_49 =>
oV (vLoad ty109 (ptrTo i_46) H_48) fun t38_50 =>
oRC Tryd.prog 110 [t37_49, t38_50, x1] H_48 (fun c H => Q (.panicked c) H) fun v_51 H_52 =>
oV (vUn .not v_51) fun t41_53 =>
condK t41_53 (
kx3 x1 x2 x3 x7 x31 x32 x33 H_52) (
oV (vField 4 (ptrTo i_46)) fun t42_54 =>
oV (vLoad ty3 t42_54 H_52) fun t43_55 =>
oV (vInt .eql t43_55 (.int .i64 3)) fun t44_56 =>
condK t44_56 (
oV (vField 6 (ptrTo i_46)) fun t46_57 =>
oV (vLoad ty3 t46_57 H_52) fun t47_58 =>
oV (vInt .sub t47_58 (.int .i64 1)) fun t48_59 =>
oV (vIdxS 1 x2 t48_59) fun t49_60 =>
oV (vLoad ty27 t49_60 H_52) fun t50_61 =>
oV (vField 1 (ptrTo i_46)) fun t51_62 =>
oV (vLoad ty3 t51_62 H_52) fun t52_63 =>
oV (vInt .sub t52_63 (.int .i64 1)) fun t53_64 =>
oV (vIdxS 1 t50_61 t53_64) fun t54_65 =>
oV (vLoad ty52 t54_65 H_52) fun t55_66 =>
m80_9 x1 x2 x3 x7 (ptrTo i_46) t55_66 x31 x32 x33 H_52 kn kx3 kx2 Q) (
m80_9 x1 x2 x3 x7 (ptrTo i_46) (.slice none 0 0) x31 x32 x33 H_52 kn kx3 kx2 Q))
theorem c80_8 (env : Env) (H : Heap) (kn : K7T) (kx3 : K7T) (kx2 : K1T) (Q : QT) (h : m80_8 (env 1) (env 2) (env 3) (env 7) (env 31) (env 32) (env 33) H kn kx3 kx2 Q) :
    RCode Tryd.prog 107 (codeAt [1, 1, 1, 0, 1, 0, 0, 1, 1, 0, 0] (bodyOf Tryd.f80)) env H (mkK (fun e H => kn (e 1) (e 2) (e 3) (e 7) (e 31) (e 32) (e 33) H) (inK 3 (fun e H => kx3 (e 1) (e 2) (e 3) (e 7) (e 31) (e 32) (e 33) H) (inK 2 (fun e H => kx2 (e 7) H) (fun _ _ _ => False))) (retK T Tryd.f80.results.toList Q) (fun c H => Q (.panicked c) H)) :=
  RCode.prefix_ (T := T) (X := ext) (hint := hint80) (hole := (fun e H => m80_9 (e 1) (e 2) (e 3) (e 7) (e 11) (e 12) (e 31) (e 32) (e 33) H kn kx3 kx2 Q)) tok xok mixed 4 (by kernel_rfl) (by kernel_rfl : codeAt _ _ = (codeAt [1, 1, 1, 0, 1, 0, 0, 1, 1, 0, 0, 1, 1, 1, 1] (bodyOf Tryd.f80))) h
    (fun e H h => c80_9 e H kn kx3 kx2 Q h)
def m80_7 (x1 x2 x3 x7 x31 x32 x33 : Value) (H : Heap) (kn : K7T) (kx2 : K1T) (Q : QT) : Prop :=
m80_8 x1 x2 x3 x7 x31 x32 x33 H kn kn kx2 Q
theorem c80_7 (env : Env) (H : Heap) (kn : K7T) (kx2 : K1T) (Q : QT) (h : m80_7 (env 1) (env 2) (env 3) (env 7) (env 31) (env 32) (env 33) H kn kx2 Q) :
    RCode Tryd.prog 107 (codeAt [1, 1, 1, 0, 1, 0, 0, 1, 1, 0] (bodyOf Tryd.f80)) env H (mkK (fun e H => kn (e 1) (e 2) (e 3) (e 7) (e 31) (e 32) (e 33) H) (inK 2 (fun e H => kx2 (e 7) H) (fun _ _ _ => False)) (retK T Tryd.f80.results.toList Q) (fun c H => Q (.panicked c) H)) :=
  RCode.blk (by kernel_rfl : (codeAt [1, 1, 1, 0, 1, 0, 0, 1, 1, 0] (bodyOf Tryd.f80)) = .block 3 (codeAt [1, 1, 1, 0, 1, 0, 0, 1, 1, 0, 0] (bodyOf Tryd.f80))) (c80_8 env H kn kn kx2 Q h)
def m80_5 (x1 x2 x3 x7 x31 x32 x33 : Value) (H : Heap) (kn : K7T) (kx2 : K1T) (Q : QT) : Prop :=
oV (vInt .lss x33 x32) fun t34_67 =>
condK t34_67 (
m80_7 x1 x2 x3 x7 x31 x32 x33 H (fun y1_68 y2_69 y3_70 y7_71 y31_72 y32_73 y33_74 H_75 => m80_6 y1_68 y2_69 y3_70 y7_71 y31_72 y32_73 y33_74 H_75 kn kx2 Q) kx2 Q) (
kx2 x7 H)
theorem c80_5 (env : Env) (H : Heap) (kn : K7T) (kx2 : K1T) (Q : QT) (h : m80_5 (env 1) (env 2) (env 3) (env 7) (env 31) (env 32) (env 33) H kn kx2 Q) :
    RCode Tryd.prog 107 (codeAt [1, 1, 1, 0, 1, 0, 0] (bodyOf Tryd.f80)) env H (mkK (fun e H => kn (e 1) (e 2) (e 3) (e 7) (e 31) (e 32) (e 33) H) (inK 2 (fun e H => kx2 (e 7) H) (fun _ _ _ => False)) (retK T Tryd.f80.results.toList Q) (fun c H => Q (.panicked c) H)) :=
  RCode.prefix_ (T := T) (X := ext) (hint := hint80) (hole := (fun e H => m80_7 (e 1) (e 2) (e 3) (e 7) (e 31) (e 32) (e 33) H (fun y1_76 y2_77 y3_78 y7_79 y31_80 y32_81 y33_82 H_83 => m80_6 y1_76 y2_77 y3_78 y7_79 y31_80 y32_81 y33_82 H_83 kn kx2 Q) kx2 Q)) tok xok mixed 2 (by kernel_rfl) (by kernel_rfl : codeAt _ _ = (codeAt [1, 1, 1, 0, 1, 0, 0, 1, 1] (bodyOf Tryd.f80))) h
    (fun e H h => RCode.join (by kernel_rfl : (codeAt [1, 1, 1, 0, 1, 0, 0, 1, 1] (bodyOf Tryd.f80)) = .seq (codeAt [1, 1, 1, 0, 1, 0, 0, 1, 1, 0] (bodyOf Tryd.f80)) (codeAt [1, 1, 1, 0, 1, 0, 0, 1, 1, 1] (bodyOf Tryd.f80))) ((c80_7 e H (fun y1_84 y2_85 y3_86 y7_87 y31_88 y32_89 y33_90 H_91 => m80_6 y1_84 y2_85 y3_86 y7_87 y31_88 y32_89 y33_90 H_91 kn kx2 Q) kx2 Q h).mono (mkK_mono (fun e H h => c80_6 e H kn kx2 Q h) (fun _ _ _ h => h) (fun _ _ h => h) (fun _ _ h => h))))
theorem L80_4_round (x1 x2 x3 x7 x31 x32 x33 : Value) (H : Heap) (kn : K1T) (Q : QT) (h : m80_5 x1 x2 x3 x7 x31 x32 x33 H (fun y1 y2 y3 y7 y31 y32 y33 H => L80_4 y1 y2 y3 y7 y31 y32 y33 H kn Q) kn Q) : L80_4 x1 x2 x3 x7 x31 x32 x33 H kn Q := by
  intro env h1 h2 h3 h7 h31 h32 h33
  subst h1; subst h2; subst h3; subst h7; subst h31; subst h32; subst h33
  exact RLoop.round ((c80_5 env H (fun y1 y2 y3 y7 y31 y32 y33 H => L80_4 y1 y2 y3 y7 y31 y32 y33 H kn Q) kn Q h).mono (mkK_mono (fun e H h => h e rfl rfl rfl rfl rfl rfl rfl) (fun _ _ _ h => h) (fun _ _ h => h) (fun _ _ h => h)))
def m80_3 (x1 x2 x3 x7 : Value) (H : Heap) (kn : K1T) (Q : QT) : Prop :=
oV (vField 4 x3) fun t30_92 =>
oV (vLoad ty26 t30_92 H) fun t31_93 =>
oV (vLen t31_93) fun t32_94 =>
L80_4 x1 x2 x3 x7 t31_93 t32_94 (.int .i64 0) H kn Q
theorem c80_3 (env : Env) (H : Heap) (kn : K1T) (Q : QT) (h : m80_3 (env 1) (env 2) (env 3) (env 7) H kn Q) :
    RCode Tryd.prog 107 (codeAt [1, 1, 1, 0] (bodyOf Tryd.f80)) env H (mkK (fun e H => kn (e 7) H) (fun _ _ _ => False) (retK T Tryd.f80.results.toList Q) (fun c H => Q (.panicked c) H)) :=
  RCode.prefix_ (T := T) (X := ext) (hint := hint80) (hole := (fun e H => L80_4 (e 1) (e 2) (e 3) (e 7) (e 31) (e 32) (e 33) H kn Q)) tok xok mixed 1 (by kernel_rfl) (by kernel_rfl : codeAt _ _ = (codeAt [1, 1, 1, 0, 1] (bodyOf Tryd.f80))) h
    (fun e H h => (cL80_4 e H kn Q h))
def m80_1 (x1 x2 x3 x7 : Value) (H : Heap) (Q : QT) : Prop :=
m80_3 x1 x2 x3 x7 H (fun y7_95 H_96 => m80_2 y7_95 H_96 Q) Q
theorem c80_1 (env : Env) (H : Heap) (Q : QT) (h : m80_1 (env 1) (env 2) (env 3) (env 7) H Q) :
    RCode Tryd.prog 107 (codeAt [1, 1, 1] (bodyOf Tryd.f80)) env H (mkK (retK T Tryd.f80.results.toList Q) (fun _ _ _ => False) (retK T Tryd.f80.results.toList Q) (fun c H => Q (.panicked c) H)) :=
  RCode.join (by kernel_rfl : (codeAt [1, 1, 1] (bodyOf Tryd.f80)) = .seq (codeAt [1, 1, 1, 0] (bodyOf Tryd.f80)) (codeAt [1, 1, 1, 1] (bodyOf Tryd.f80))) ((c80_3 env H (fun y7_97 H_98 => m80_2 y7_97 H_98 Q) Q h).mono (mkK_mono (fun e H h => c80_2 e H Q h) (fun _ _ _ h => h) (fun _ _ h => h) (fun _ _ h => h)))
def L80_13 (x1 x2 x3 x7 x17 x18 x19 : Value) (H : Heap) (kn : K4T) (Q : QT) : Prop :=
  ∀ env : Env, env 1 = x1 → env 2 = x2 → env 3 = x3 → env 7 = x7 → env 17 = x17 → env 18 = x18 → env 19 = x19 → RLoop Tryd.prog 107 (codeAt [1, 1, 0, 1, 0, 0] (bodyOf Tryd.f80)) env H (mkK (fun _ _ => False) (inK 0 (fun e H => kn (e 1) (e 2) (e 3) (e 7) H) (fun _ _ _ => False)) (retK T Tryd.f80.results.toList Q) (fun c H => Q (.panicked c) H))
theorem cL80_13 (env : Env) (H : Heap) (kn : K4T) (Q : QT) (h : L80_13 (env 1) (env 2) (env 3) (env 7) (env 17) (env 18) (env 19) H kn Q) :
    RCode Tryd.prog 107 (codeAt [1, 1, 0, 1] (bodyOf Tryd.f80)) env H (mkK (fun e H => kn (e 1) (e 2) (e 3) (e 7) H) (fun _ _ _ => False) (retK T Tryd.f80.results.toList Q) (fun c H => Q (.panicked c) H)) :=
  RCode.blk (by kernel_rfl : (codeAt [1, 1, 0, 1] (bodyOf Tryd.f80)) = .block 0 (codeAt [1, 1, 0, 1, 0] (bodyOf Tryd.f80))) (RCode.lp (by kernel_rfl : (codeAt [1, 1, 0, 1, 0] (bodyOf Tryd.f80)) = .loop (codeAt [1, 1, 0, 1, 0, 0] (bodyOf Tryd.f80))) ((h env rfl rfl rfl rfl rfl rfl rfl).mono (mkK_mono (fun _ _ h => h.elim) (fun _ _ _ h => h) (fun _ _ h => h) (fun _ _ h => h))))
def m80_14 (x1 x2 x3 x7 x17 x18 x19 : Value) (H : Heap) (kn : K7T) (kx0 : K4T) (Q : QT) : Prop :=
oV (vInt .lss x19 x18) fun t20_99 =>
condK t20_99 (
oV (vIdxS 1 x17 x19) fun t22_100 =>
oV (vLoad ty27 t22_100 H) fun t23_101 =>
oRC Tryd.prog 109 [t23_101] H (fun c H => Q (.panicked c) H) fun v_102 H_103 =>
oV (vIdxS 1 x7 x19) fun t28_104 =>
oHeap (vStore ty27 t28_104 v_102 H_103) fun H_105 =>
oV (vInt .add x19 (.int .i64 1)) fun t29_106 =>
kn x1 x2 x3 x7 x17 x18 t29_106 H_105) (
kx0 x1 x2 x3 x7 H)
theorem c80_14 (env : Env) (H : Heap) (kn : K7T) (kx0 : K4T) (Q : QT) (h : m80_14 (env 1) (env 2) (env 3) (env 7) (env 17) (env 18) (env 19) H kn kx0 Q) :
    RCode Tryd.prog 107 (codeAt [1, 1, 0, 1, 0, 0] (bodyOf Tryd.f80)) env H (mkK (fun e H => kn (e 1) (e 2) (e 3) (e 7) (e 17) (e 18) (e 19) H) (inK 0 (fun e H => kx0 (e 1) (e 2) (e 3) (e 7) H) (fun _ _ _ => False)) (retK T Tryd.f80.results.toList Q) (fun c H => Q (.panicked c) H)) :=
  RCode.leaf_ (T := T) (X := ext) (hint := hint80) tok xok mixed (by kernel_rfl) h
theorem L80_13_round (x1 x2 x3 x7 x17 x18 x19 : Value) (H : Heap) (kn : K4T) (Q : QT) (h : m80_14 x1 x2 x3 x7 x17 x18 x19 H (fun y1 y2 y3 y7 y17 y18 y19 H => L80_13 y1 y2 y3 y7 y17 y18 y19 H kn Q) kn Q) : L80_13 x1 x2 x3 x7 x17 x18 x19 H kn Q := by
  intro env h1 h2 h3 h7 h17 h18 h19
  subst h1; subst h2; subst h3; subst h7; subst h17; subst h18; subst h19
  exact RLoop.round ((c80_14 env H (fun y1 y2 y3 y7 y17 y18 y19 H => L80_13 y1 y2 y3 y7 y17 y18 y19 H kn Q) kn Q h).mono (mkK_mono (fun e H h => h e rfl rfl rfl rfl rfl rfl rfl) (fun _ _ _ h => h) (fun _ _ h => h) (fun _ _ h => h)))
def m80_12 (x1 x2 x3 x7 : Value) (H : Heap) (kn : K4T) (Q : QT) : Prop :=
oV (vLen x2) fun t18_107 =>
L80_13 x1 x2 x3 x7 x2 t18_107 (.int .i64 0) H kn Q
theorem c80_12 (env : Env) (H : Heap) (kn : K4T) (Q : QT) (h : m80_12 (env 1) (env 2) (env 3) (env 7) H kn Q) :
    RCode Tryd.prog 107 (codeAt [1, 1, 0] (bodyOf Tryd.f80)) env H (mkK (fun e H => kn (e 1) (e 2) (e 3) (e 7) H) (fun _ _ _ => False) (retK T Tryd.f80.results.toList Q) (fun c H => Q (.panicked c) H)) :=
  RCode.prefix_ (T := T) (X := ext) (hint := hint80) (hole := (fun e H => L80_13 (e 1) (e 2) (e 3) (e 7) (e 17) (e 18) (e 19) H kn Q)) tok xok mixed 1 (by kernel_rfl) (by kernel_rfl : codeAt _ _ = (codeAt [1, 1, 0, 1] (bodyOf Tryd.f80))) h
    (fun e H h => (cL80_13 e H kn Q h))
def m80 (x0 x1 x2 : Value) (H : Heap) (Q : QT) : Prop :=
oNew (Value.cells x0).toList (Value.cells x0).toList.length 29 H fun i_108 H_109 =>
oV (vLen x2) fun t15_110 =>
oMake ty27 27 t15_110 t15_110 H_109 fun s_111 H_112 =>
m80_12 x1 x2 (ptrTo i_108) s_111 H_112 (fun y1_113 y2_114 y3_115 y7_116 H_117 => m80_1 y1_113 y2_114 y3_115 y7_116 H_117 Q) Q
theorem c80_0 (env : Env) (H : Heap) (Q : QT) (h : m80 (env 0) (env 1) (env 2) H Q) :
    RCode Tryd.prog 107 (bodyOf Tryd.f80) env H (mkK (retK T Tryd.f80.results.toList Q) (fun _ _ _ => False) (retK T Tryd.f80.results.toList Q) (fun c H => Q (.panicked c) H)) :=
  RCode.prefix_ (T := T) (X := ext) (hint := hint80) (hole := (fun e H => m80_12 (e 1) (e 2) (e 3) (e 7) H (fun y1_118 y2_119 y3_120 y7_121 H_122 => m80_1 y1_118 y2_119 y3_120 y7_121 H_122 Q) Q)) tok xok mixed 2 (by kernel_rfl) (by kernel_rfl : codeAt _ _ = (codeAt [1, 1] (bodyOf Tryd.f80))) h
    (fun e H h => RCode.join (by kernel_rfl : (codeAt [1, 1] (bodyOf Tryd.f80)) = .seq (codeAt [1, 1, 0] (bodyOf Tryd.f80)) (codeAt [1, 1, 1] (bodyOf Tryd.f80))) ((c80_12 e H (fun y1_123 y2_124 y3_125 y7_126 H_127 => m80_1 y1_123 y2_124 y3_125 y7_126 H_127 Q) Q h).mono (mkK_mono (fun e H h => c80_1 e H Q h) (fun _ _ _ h => h) (fun _ _ h => h) (fun _ _ h => h))))
theorem call80 (a0 a1 a2 : Value) (H : Heap) (Q : QT) (h : m80 a0 a1 a2 H Q) : RCalls Tryd.prog 80 [a0, a1, a2] H Q :=
  RCalls.intro (nt := 107) tok Tryd.func80 (by kernel_rfl) (by kernel_rfl) (by kernel_rfl) (of_decide_eq_true (by kernel_rfl)) (c80_0 (envOf [a0, a1, a2]) H Q h)
def hint47 : Nat → List Nat := lookupL [(2, [0, 1, 2, 3, 4, 5, 6, 7, 8, 9, 10])]
def m47_1 (x0 x7 : Value) (H : Heap) (Q : QT) : Prop :=
oV (vNil x0) fun t70_1 =>
oV (vField 6 t70_1) fun t71_2 =>
oV (vLoad ty3 t71_2 H) fun t72_3 =>
oV (vInt .add t72_3 (.int .i64 1)) fun t73_4 =>
oV (vNil x0) fun t74_5 =>
oV (vField 6 t74_5) fun t75_6 =>
oHeap (vStore ty3 t75_6 t73_4 H) fun H_7 =>
Q (.returned x7) H_7
theorem c47_1 (env : Env) (H : Heap) (Q : QT) (h : m47_1 (env 0) (env 7) H Q) :
    RCode Tryd.prog 77 (codeAt [1, 1, 1, 1, 1] (bodyOf Tryd.f47)) env H (mkK (retK T Tryd.f47.results.toList Q) (fun _ _ _ => False) (retK T Tryd.f47.results.toList Q) (fun c H => Q (.panicked c) H)) :=
  RCode.leaf_ (T := T) (X := ext) (hint := hint47) tok xok mixed (by kernel_rfl) h
def L47_3 (x0 x5 x6 x7 x31 x32 : Value) (H : Heap) (kn : K2T) (Q : QT) : Prop :=
  ∀ env : Env, env 0 = x0 → env 5 = x5 → env 6 = x6 → env 7 = x7 → env 31 = x31 → env 32 = x32 → RLoop Tryd.prog 77 (codeAt [1, 1, 1, 1, 0, 1, 0, 0] (bodyOf Tryd.f47)) env H (mkK (fun _ _ => False) (inK 0 (fun e H => kn (e 0) (e 7) H) (fun _ _ _ => False)) (retK T Tryd.f47.results.toList Q) (fun c H => Q (.panicked c) H))
theorem cL47_3 (env : Env) (H : Heap) (kn : K2T) (Q : QT) (h : L47_3 (env 0) (env 5) (env 6) (env 7) (env 31) (env 32) H kn Q) :
    RCode Tryd.prog 77 (codeAt [1, 1, 1, 1, 0, 1] (bodyOf Tryd.f47)) env H (mkK (fun e H => kn (e 0) (e 7) H) (fun _ _ _ => False) (retK T Tryd.f47.results.toList Q) (fun c H => Q (.panicked c) H)) :=
  RCode.blk (by kernel_rfl : (codeAt [1, 1, 1, 1, 0, 1] (bodyOf Tryd.f47)) = .block 0 (codeAt [1, 1, 1, 1, 0, 1, 0] (bodyOf Tryd.f47))) (RCode.lp (by kernel_rfl : (codeAt [1, 1, 1, 1, 0, 1, 0] (bodyOf Tryd.f47)) = .loop (codeAt [1, 1, 1, 1, 0, 1, 0, 0] (bodyOf Tryd.f47))) ((h env rfl rfl rfl rfl rfl rfl).mono (mkK_mono (fun _ _ h => h.elim) (fun _ _ _ h => h) (fun _ _ h => h) (fun _ _ h => h))))
def m47_5 (x0 x5 x6 x7 x31 x32 : Value) (H : Heap) (kn : K6T) (kx0 : K2T) (Q : QT) : Prop :=
oV (vInt .add x32 (.int .i64 1)) fun t68_8 =>
kn x0 x5 x6 x7 x31 t68_8 H
theorem c47_5 (env : Env) (H : Heap) (kn : K6T) (kx0 : K2T) (Q : QT) (h : m47_5 (env 0) (env 5) (env 6) (env 7) (env 31) (env 32) H kn kx0 Q) :
    RCode Tryd.prog 77 (codeAt [1, 1, 1, 1, 0, 1, 0, 0, 1, 1, 1] (bodyOf Tryd.f47)) env H (mkK (fun e H => kn (e 0) (e 5) (e 6) (e 7) (e 31) (e 32) H) (inK 0 (fun e H => kx0 (e 0) (e 7) H) (fun _ _ _ => False)) (retK T Tryd.f47.results.toList Q) (fun c H => Q (.panicked c) H)) :=
  RCode.leaf_ (T := T) (X := ext) (hint := hint47) tok xok mixed (by kernel_rfl) h
def L47_8 (x0 x5 x6 x7 x8 x31 x32 x40 x41 : Value) (H : Heap) (kn : K6T) (kx1 : K6T) (kx0 : K2T) (Q : QT) : Prop :=
  ∀ env : Env, env 0 = x0 → env 5 = x5 → env 6 = x6 → env 7 = x7 → env 8 = x8 → env 31 = x31 → env 32 = x32 → env 40 = x40 → env 41 = x41 → RLoop Tryd.prog 77 (codeAt [1, 1, 1, 1, 0, 1, 0, 0, 1, 1, 0, 0, 1, 1, 0, 0] (bodyOf Tryd.f47)) env H (mkK (fun _ _ => False) (inK 2 (fun e H => kn (e 0) (e 5) (e 6) (e 7) (e 31) (e 32) H) (inK 1 (fun e H => kx1 (e 0) (e 5) (e 6) (e 7) (e 31) (e 32) H) (inK 0 (fun e H => kx0 (e 0) (e 7) H) (fun _ _ _ => False)))) (retK T Tryd.f47.results.toList Q) (fun c H => Q (.panicked c) H))
theorem cL47_8 (env : Env) (H : Heap) (kn : K6T) (kx1 : K6T) (kx0 : K2T) (Q : QT) (h : L47_8 (env 0) (env 5) (env 6) (env 7) (env 8) (env 31) (env 32) (env 40) (env 41) H kn kx1 kx0 Q) :
    RCode Tryd.prog 77 (codeAt [1, 1, 1, 1, 0, 1, 0, 0, 1, 1, 0, 0, 1, 1] (bodyOf Tryd.f47)) env H (mkK (fun e H => kn (e 0) (e 5) (e 6) (e 7) (e 31) (e 32) H) (inK 1 (fun e H => kx1 (e 0) (e 5) (e 6) (e 7) (e 31) (e 32) H) (inK 0 (fun e H => kx0 (e 0) (e 7) H) (fun _ _ _ => False))) (retK T Tryd.f47.results.toList Q) (fun c H => Q (.panicked c) H)) :=
  RCode.blk (by kernel_rfl : (codeAt [1, 1, 1, 1, 0, 1, 0, 0, 1, 1, 0, 0, 1, 1] (bodyOf Tryd.f47)) = .block 2 (codeAt [1, 1, 1, 1, 0, 1, 0, 0, 1, 1, 0, 0, 1, 1, 0] (bodyOf Tryd.f47))) (RCode.lp (by kernel_rfl : (codeAt [1, 1, 1, 1, 0, 1, 0, 0, 1, 1, 0, 0, 1, 1, 0] (bodyOf Tryd.f47)) = .loop (codeAt [1, 1, 1, 1, 0, 1, 0, 0, 1, 1, 0, 0, 1, 1, 0, 0] (bodyOf Tryd.f47))) ((h env rfl rfl rfl rfl rfl rfl rfl rfl rfl).mono (mkK_mono (fun _ _ h => h.elim) (fun _ _ _ h => h) (fun _ _ h => h) (fun _ _ h => h))))
def m47_9 (x0 x5 x6 x7 x8 x31 x32 x40 x41 : Value) (H : Heap) (kn : K9T) (kx2 : K6T) (kx1 : K6T) (kx0 : K2T) (Q : QT) : Prop :=
oV (vInt .lss x41 x40) fun t42_9 =>
condK t42_9 (
oV (vIdxS 1 x6 x41) fun t46_10 =>
oV (vLoad ty27 t46_10 H) fun t47_11 =>
oV (vIdxS 1 t47_11 x8) fun t49_12 =>
oV (vLoad ty52 t49_12 H) fun t50_13 =>
oAppend ty22 22 (.slice none 0 0) t50_13 H fun v_14 H_15 =>
oV (vIdxS 1 x7 x8) fun t56_16 =>
oV (vLoad ty27 t56_16 H_15) fun t57_17 =>
oBuildS ty52 52 1 [((0, 1), v_14)] H_15 fun s_18 H_19 =>
oAppend ty52 52 t57_17 s_18 H_19 fun v_20 H_21 =>
oV (vIdxS 1 x7 x8) fun t61_22 =>
oHeap (vStore ty27 t61_22 v_20 H_21) fun H_23 =>
oCl ext Tryd.prog x5 [x8, x41, v_14] H_23 (fun c H => Q (.panicked c) H) fun v_24 H_25 =>
oV (vInt .add x41 (.int .i64 1)) fun t67_26 =>
kn x0 x5 x6 x7 x8 x31 x32 x40 t67_26 H_25) (
kx2 x0 x5 x6 x7 x31 x32 H)
theorem c47_9 (env : Env) (H : Heap) (kn : K9T) (kx2 : K6T) (kx1 : K6T) (kx0 : K2T) (Q : QT) (h : m47_9 (env 0) (env 5) (env 6) (env 7) (env 8) (env 31) (env 32) (env 40) (env 41) H kn kx2 kx1 kx0 Q) :
    RCode Tryd.prog 77 (codeAt [1, 1, 1, 1, 0, 1, 0, 0, 1, 1, 0, 0, 1, 1, 0, 0] (bodyOf Tryd.f47)) env H (mkK (fun e H => kn (e 0) (e 5) (e 6) (e 7) (e 8) (e 31) (e 32) (e 40) (e 41) H) (inK 2 (fun e H => kx2 (e 0) (e 5) (e 6) (e 7) (e 31) (e 32) H) (inK 1 (fun e H => kx1 (e 0) (e 5) (e 6) (e 7) (e 31) (e 32) H) (inK 0 (fun e H => kx0 (e 0) (e 7) H) (fun _ _ _ => False)))) (retK T Tryd.f47.results.toList Q) (fun c H => Q (.panicked c) H)) :=
  RCode.leaf_ (T := T) (X := ext) (hint := hint47) tok xok mixed (by kernel_rfl) h
theorem L47_8_round (x0 x5 x6 x7 x8 x31 x32 x40 x41 : Value) (H : Heap) (kn : K6T) (kx1 : K6T) (kx0 : K2T) (Q : QT) (h : m47_9 x0 x5 x6 x7 x8 x31 x32 x40 x41 H (fun y0 y5 y6 y7 y8 y31 y32 y40 y41 H => L47_8 y0 y5 y6 y7 y8 y31 y32 y40 y41 H kn kx1 kx0 Q) kn kx1 kx0 Q) : L47_8 x0 x5 x6 x7 x8 x31 x32 x40 x41 H kn kx1 kx0 Q := by
  intro env h0 h5 h6 h7 h8 h31 h32 h40 h41
  subst h0; subst h5; subst h6; subst h7; subst h8; subst h31; subst h32; subst h40; subst h41
  exact RLoop.round ((c47_9 env H (fun y0 y5 y6 y7 y8 y31 y32 y40 y41 H => L47_8 y0 y5 y6 y7 y8 y31 y32 y40 y41 H kn kx1 kx0 Q) kn kx1 kx0 Q h).mono (mkK_mono (fun e H h => h e rfl rfl rfl rfl rfl rfl rfl rfl rfl) (fun _ _ _ h => h) (fun _ _ h => h) (fun _ _ h => h)))
def m47_7 (x0 x5 x6 x7 x31 x32 : Value) (H : Heap) (kn : K6T) (kx1 : K6T) (kx0 : K2T) (Q : QT) : Prop :=
oV (vNil x0) fun t36_27 =>
oV (vField 0 t36_27) fun t37_28 =>
oV (vField 0 t37_28) fun t38_29 =>
oV (vField 1 t38_29) fun t39_30 =>
oV (vLoad ty3 t39_30 H) fun t40_31 =>
L47_8 x0 x5 x6 x7 x32 x31 x32 t40_31 (.int .i64 0) H kn kx1 kx0 Q
theorem c47_7 (env : Env) (H : Heap) (kn : K6T) (kx1 : K6T) (kx0 : K2T) (Q : QT) (h : m47_7 (env 0) (env 5) (env 6) (env 7) (env 31) (env 32) H kn kx1 kx0 Q) :
    RCode Tryd.prog 77 (codeAt [1, 1, 1, 1, 0, 1, 0, 0, 1, 1, 0, 0] (bodyOf Tryd.f47)) env H (mkK (fun e H => kn (e 0) (e 5) (e 6) (e 7) (e 31) (e 32) H) (inK 1 (fun e H => kx1 (e 0) (e 5) (e 6) (e 7) (e 31) (e 32) H) (inK 0 (fun e H => kx0 (e 0) (e 7) H) (fun _ _ _ => False))) (retK T Tryd.f47.results.toList Q) (fun c H => Q (.panicked c) H)) :=
  RCode.prefix_ (T := T) (X := ext) (hint := hint47) (hole := (fun e H => L47_8 (e 0) (e 5) (e 6) (e 7) (e 8) (e 31) (e 32) (e 40) (e 41) H kn kx1 kx0 Q)) tok xok mixed 2 (by kernel_rfl) (by kernel_rfl : codeAt _ _ = (codeAt [1, 1, 1, 1, 0, 1, 0, 0, 1, 1, 0, 0, 1, 1] (bodyOf Tryd.f47))) h
    (fun e H h => (cL47_8 e H kn kx1 kx0 Q h))
def m47_6 (x0 x5 x6 x7 x31 x32 : Value) (H : Heap) (kn : K6T) (kx0 : K2T) (Q : QT) : Prop :=
m47_7 x0 x5 x6 x7 x31 x32 H kn kn kx0 Q
theorem c47_6 (env : Env) (H : Heap) (kn : K6T) (kx0 : K2T) (Q : QT) (h : m47_6 (env 0) (env 5) (env 6) (env 7) (env 31) (env 32) H kn kx0 Q) :
    RCode Tryd.prog 77 (codeAt [1, 1, 1, 1, 0, 1, 0, 0, 1, 1, 0] (bodyOf Tryd.f47)) env H (mkK (fun e H => kn (e 0) (e 5) (e 6) (e 7) (e 31) (e 32) H) (inK 0 (fun e H => kx0 (e 0) (e 7) H) (fun _ _ _ => False)) (retK T Tryd.f47.results.toList Q) (fun c H => Q (.panicked c) H)) :=
  RCode.blk (by kernel_rfl : (codeAt [1, 1, 1, 1, 0, 1, 0, 0, 1, 1, 0] (bodyOf Tryd.f47)) = .block 1 (codeAt [1, 1, 1, 1, 0, 1, 0, 0, 1, 1, 0, 0] (bodyOf Tryd.f47))) (c47_7 env H kn kn kx0 Q h)
def m47_4 (x0 x5 x6 x7 x31 x32 : Value) (H : Heap) (kn : K6T) (kx0 : K2T) (Q : QT) : Prop :=
oV (vInt .lss x32 x31) fun t33_32 =>
condK t33_32 (
m47_6 x0 x5 x6 x7 x31 x32 H (fun y0_33 y5_34 y6_35 y7_36 y31_37 y32_38 H_39 => m47_5 y0_33 y5_34 y6_35 y7_36 y31_37 y32_38 H_39 kn kx0 Q) kx0 Q) (
kx0 x0 x7 H)
theorem c47_4 (env : Env) (H : Heap) (kn : K6T) (kx0 : K2T) (Q : QT) (h : m47_4 (env 0) (env 5) (env 6) (env 7) (env 31) (env 32) H kn kx0 Q) :
    RCode Tryd.prog 77 (codeAt [1, 1, 1, 1, 0, 1, 0, 0] (bodyOf Tryd.f47)) env H (mkK (fun e H => kn (e 0) (e 5) (e 6) (e 7) (e 31) (e 32) H) (inK 0 (fun e H => kx0 (e 0) (e 7) H) (fun _ _ _ => False)) (retK T Tryd.f47.results.toList Q) (fun c H => Q (.panicked c) H)) :=
  RCode.prefix_ (T := T) (X := ext) (hint := hint47) (hole := (fun e H => m47_6 (e 0) (e 5) (e 6) (e 7) (e 31) (e 32) H (fun y0_40 y5_41 y6_42 y7_43 y31_44 y32_45 H_46 => m47_5 y0_40 y5_41 y6_42 y7_43 y31_44 y32_45 H_46 kn kx0 Q) kx0 Q)) tok xok mixed 2 (by kernel_rfl) (by kernel_rfl : codeAt _ _ = (codeAt [1, 1, 1, 1, 0, 1, 0, 0, 1, 1] (bodyOf Tryd.f47))) h
    (fun e H h => RCode.join (by kernel_rfl : (codeAt [1, 1, 1, 1, 0, 1, 0, 0, 1, 1] (bodyOf Tryd.f47)) = .seq (codeAt [1, 1, 1, 1, 0, 1, 0, 0, 1, 1, 0] (bodyOf Tryd.f47)) (codeAt [1, 1, 1, 1, 0, 1, 0, 0, 1, 1, 1] (bodyOf Tryd.f47))) ((c47_6 e H (fun y0_47 y5_48 y6_49 y7_50 y31_51 y32_52 H_53 => m47_5 y0_47 y5_48 y6_49 y7_50 y31_51 y32_52 H_53 kn kx0 Q) kx0 Q h).mono (mkK_mono (fun e H h => c47_5 e H kn kx0 Q h) (fun _ _ _ h => h) (fun _ _ h => h) (fun _ _ h => h))))
theorem L47_3_round (x0 x5 x6 x7 x31 x32 : Value) (H : Heap) (kn : K2T) (Q : QT) (h : m47_4 x0 x5 x6 x7 x31 x32 H (fun y0 y5 y6 y7 y31 y32 H => L47_3 y0 y5 y6 y7 y31 y32 H kn Q) kn Q) : L47_3 x0 x5 x6 x7 x31 x32 H kn Q := by
  intro env h0 h5 h6 h7 h31 h32
  subst h0; subst h5; subst h6; subst h7; subst h31; subst h32
  exact RLoop.round ((c47_4 env H (fun y0 y5 y6 y7 y31 y32 H => L47_3 y0 y5 y6 y7 y31 y32 H kn Q) kn Q h).mono (mkK_mono (fun e H h => h e rfl rfl rfl rfl rfl rfl) (fun _ _ _ h => h) (fun _ _ h => h) (fun _ _ h => h)))
def m47_2 (x0 x5 x6 x7 : Value) (H : Heap) (kn : K2T) (Q : QT) : Prop :=
oV (vLen x7) fun t31_54 =>
L47_3 x0 x5 x6 x7 t31_54 (.int .i64 0) H kn Q
theorem c47_2 (env : Env) (H : Heap) (kn : K2T) (Q : QT) (h : m47_2 (env 0) (env 5) (env 6) (env 7) H kn Q) :
    RCode Tryd.prog 77 (codeAt [1, 1, 1, 1, 0] (bodyOf Tryd.f47)) env H (mkK (fun e H => kn (e 0) (e 7) H) (fun _ _ _ => False) (retK T Tryd.f47.results.toList Q) (fun c H => Q (.panicked c) H)) :=
  RCode.prefix_ (T := T) (X := ext) (hint := hint47) (hole := (fun e H => L47_3 (e 0) (e 5) (e 6) (e 7) (e 31) (e 32) H kn Q)) tok xok mixed 1 (by kernel_rfl) (by kernel_rfl : codeAt _ _ = (codeAt [1, 1, 1, 1, 0, 1] (bodyOf Tryd.f47))) h
    (fun e H h => (cL47_3 e H kn Q h))
def m47 (x0 x1 : Value) (H : Heap) (Q : QT) : Prop :=
oV (vNil x0) fun t14_55 =>
oV (vField 0 t14_55) fun t15_56 =>
oV (vLoad ty29 t15_56 H) fun t16_57 =>
oV (vNil x0) fun t18_58 =>
oV (vField 6 t18_58) fun t19_59 =>
oV (vLoad ty3 t19_59 H) fun t20_60 =>
oRC Tryd.prog 80 [t16_57, t20_60, x1] H noP fun v_61 H_62 =>
oV (vNil x0) fun t24_63 =>
oV (vField 0 t24_63) fun t25_64 =>
oV (vField 0 t25_64) fun t26_65 =>
oV (vField 1 t26_65) fun t27_66 =>
oV (vLoad ty3 t27_66 H_62) fun t28_67 =>
oMake ty27 27 t28_67 t28_67 H_62 fun s_68 H_69 =>
m47_2 x0 (.func (.func 79) #[x0] #[]) v_61 s_68 H_69 (fun y0_70 y7_71 H_72 => m47_1 y0_70 y7_71 H_72 Q) Q
theorem c47_0 (env : Env) (H : Heap) (Q : QT) (h : m47 (env 0) (env 1) H Q) :
    RCode Tryd.prog 77 (bodyOf Tryd.f47) env H (mkK (retK T Tryd.f47.results.toList Q) (fun _ _ _ => False) (retK T Tryd.f47.results.toList Q) (fun c H => Q (.panicked c) H)) :=
  RCode.prefix_ (T := T) (X := ext) (hint := hint47) (hole := (fun e H => m47_2 (e 0) (e 5) (e 6) (e 7) H (fun y0_73 y7_74 H_75 => m47_1 y0_73 y7_74 H_75 Q) Q)) tok xok mixed 4 (by kernel_rfl) (by kernel_rfl : codeAt _ _ = (codeAt [1, 1, 1, 1] (bodyOf Tryd.f47))) h
    (fun e H h => RCode.join (by kernel_rfl : (codeAt [1, 1, 1, 1] (bodyOf Tryd.f47)) = .seq (codeAt [1, 1, 1, 1, 0] (bodyOf Tryd.f47)) (codeAt [1, 1, 1, 1, 1] (bodyOf Tryd.f47))) ((c47_2 e H (fun y0_76 y7_77 H_78 => m47_1 y0_76 y7_77 H_78 Q) Q h).mono (mkK_mono (fun e H h => c47_1 e H Q h) (fun _ _ _ h => h) (fun _ _ h => h) (fun _ _ h => h))))
theorem call47 (a0 a1 : Value) (H : Heap) (Q : QT) (h : m47 a0 a1 H Q) : RCalls Tryd.prog 47 [a0, a1] H Q :=
  RCalls.intro (nt := 77) tok Tryd.func47 (by kernel_rfl) (by kernel_rfl) (by kernel_rfl) (of_decide_eq_true (by kernel_rfl)) (c47_0 (envOf [a0, a1]) H Q h)
def hint81 : Nat → List Nat := lookupL [(9, [0, 1, 2, 3, 4, 5, 6, 7, 8, 9, 10, 11, 12, 13, 14, 15])]
def m81_1 (x7 : Value) (H : Heap) (Q : QT) : Prop :=
Q (.returned x7) H
theorem c81_1 (env : Env) (H : Heap) (Q : QT) (h : m81_1 (env 7) H Q) :
    RCode Tryd.prog 51 (codeAt [1, 1, 1] (bodyOf Tryd.f81)) env H (mkK (retK T Tryd.f81.results.toList Q) (fun _ _ _ => False) (retK T Tryd.f81.results.toList Q) (fun c H => Q (.panicked c) H)) :=
  RCode.leaf_ (T := T) (X := ext) (hint := hint81) tok xok mixed (by kernel_rfl) h
def L81_3 (x1 x2 x3 x7 x14 x15 x16 : Value) (H : Heap) (kn : K1T) (Q : QT) : Prop :=
  ∀ env : Env, env 1 = x1 → env 2 = x2 → env 3 = x3 → env 7 = x7 → env 14 = x14 → env 15 = x15 → env 16 = x16 → RLoop Tryd.prog 51 (codeAt [1, 1, 0, 1, 0, 0] (bodyOf Tryd.f81)) env H (mkK (fun _ _ => False) (inK 0 (fun e H => kn (e 7) H) (fun _ _ _ => False)) (retK T Tryd.f81.results.toList Q) (fun c H => Q (.panicked c) H))
theorem cL81_3 (env : Env) (H : Heap) (kn : K1T) (Q : QT) (h : L81_3 (env 1) (env 2) (env 3) (env 7) (env 14) (env 15) (env 16) H kn Q) :
    RCode Tryd.prog 51 (codeAt [1, 1, 0, 1] (bodyOf Tryd.f81)) env H (mkK (fun e H => kn (e 7) H) (fun _ _ _ => False) (retK T Tryd.f81.results.toList Q) (fun c H => Q (.panicked c) H)) :=
  RCode.blk (by kernel_rfl : (codeAt [1, 1, 0, 1] (bodyOf Tryd.f81)) = .block 0 (codeAt [1, 1, 0, 1, 0] (bodyOf Tryd.f81))) (RCode.lp (by kernel_rfl : (codeAt [1, 1, 0, 1, 0] (bodyOf Tryd.f81)) = .loop (codeAt [1, 1, 0, 1, 0, 0] (bodyOf Tryd.f81))) ((h env rfl rfl rfl rfl rfl rfl rfl).mono (mkK_mono (fun _ _ h => h.elim) (fun _ _ _ h => h) (fun _ _ h => h) (fun _ _ h => h))))
def m81_4 (x1 x2 x3 x7 x14 x15 x16 : Value) (H : Heap) (kn : K7T) (kx0 : K1T) (Q : QT) : Prop :=
oV (vInt .lss x16 x15) fun t17_1 =>
condK t17_1 (
oV (vIdxS 8 x14 x16) fun t18_2 =>
oV (vLoad ty109 t18_2 H) fun t19_3 =>
oNew (Value.cells ty109.zero).toList (Value.cells ty109.zero).toList.length 109 H fun i_4 H_5 =>
oHeap (vStore ty109 (ptrTo i_4) t19_3 H_5) fun H_6 =>
oV (vLoad ty29 x3 H_6) fun t20_7 =>
oV (vLoad ty109 (ptrTo i_4) H_6) fun t21_8 =>
oRC Tryd.prog 110 [t20_7, t21_8, x1] H_6 (fun c H => Q (.panicked c) H) fun v_9 H_10 =>
oV (vUn .not v_9) fun t24_11 =>
condK t24_11 (
oV (vInt .add x16 (.int .i64 1)) fun t49_12 =>
kn x1 x2 x3 x7 x14 x15 t49_12 H_10) (
oV (vField 4 (ptrTo i_4)) fun t25_13 =>
oV (vLoad ty3 t25_13 H_10) fun t26_14 =>
oV (vInt .eql t26_14 (.int .i64 3)) fun t27_15 =>
condK t27_15 (
oV (vField 6 (ptrTo i_4)) fun t29_16 =>
oV (vLoad ty3 t29_16 H_10) fun t30_17 =>
oV (vInt .sub t30_17 (.int .i64 1)) fun t31_18 =>
oV (vIdxS 1 x2 t31_18) fun t32_19 =>
oV (vLoad ty52 t32_19 H_10) fun t33_20 =>
oV (vField 1 (ptrTo i_4)) fun t35_21 =>
oV (vLoad ty3 t35_21 H_10) fun t36_22 =>
oV (vInt .sub t36_22 (.int .i64 1)) fun t37_23 =>
oV (vLoad ty29 x3 H_10) fun t38_24 =>
oV (vLoad ty109 (ptrTo i_4) H_10) fun t39_25 =>
oV (vField 1 (ptrTo i_4)) fun t41_26 =>
oV (vLoad ty3 t41_26 H_10) fun t42_27 =>
oV (vInt .sub t42_27 (.int .i64 1)) fun t43_28 =>
oV (vIdxS 1 x7 t43_28) fun t44_29 =>
oV (vLoad ty52 t44_29 H_10) fun t45_30 =>
oRC Tryd.prog 111 [t38_24, t39_25, t45_30, t33_20] H_10 noP fun v_31 H_32 =>
(vLoad ty3 t35_21 H_32 = some t36_22 ∧
oV (vIdxS 1 x7 t37_23) fun t48_33 =>
oHeap (vStore ty52 t48_33 v_31 H_32) fun H_34 =>
oV (vInt .add x16 (.int .i64 1)) fun t49_35 =>
kn x1 x2 x3 x7 x14 x15 t49_35 H_34)) (
oV (vField 1 (ptrTo i_4)) fun t35_36 =>
oV (vLoad ty3 t35_36 H_10) fun t36_37 =>
oV (vInt .sub t36_37 (.int .i64 1)) fun t37_38 =>
oV (vLoad ty29 x3 H_10) fun t38_39 =>
oV (vLoad ty109 (ptrTo i_4) H_10) fun t39_40 =>
oV (vField 1 (ptrTo i_4)) fun t41_41 =>
oV (vLoad ty3 t41_41 H_10) fun t42_42 =>
oV (vInt .sub t42_42 (.int .i64 1)) fun t43_43 =>
oV (vIdxS 1 x7 t43_43) fun t44_44 =>
oV (vLoad ty52 t44_44 H_10) fun t45_45 =>
oRC Tryd.prog 111 [t38_39, t39_40, t45_45, (.slice none 0 0)] H_10 noP fun v_46 H_47 =>
(vLoad ty3 t35_36 H_47 = some t36_37 ∧
oV (vIdxS 1 x7 t37_38) fun t48_48 =>
oHeap (vStore ty52 t48_48 v_46 H_47) fun H_49 =>
oV (vInt .add x16 (.int .i64 1)) fun t49_50 =>
kn x1 x2 x3 x7 x14 x15 t49_50 H_49)))) (
kx0 x7 H)
theorem c81_4 (env : Env) (H : Heap) (kn : K7T) (kx0 : K1T) (Q : QT) (h : m81_4 (env 1) (env 2) (env 3) (env 7) (env 14) (env 15) (env 16) H kn kx0 Q) :
    RCode Tryd.prog 51 (codeAt [1, 1, 0, 1, 0, 0] (bodyOf Tryd.f81)) env H (mkK (fun e H => kn (e 1) (e 2) (e 3) (e 7) (e 14) (e 15) (e 16) H) (inK 0 (fun e H => kx0 (e 7) H) (fun _ _ _ => False)) (retK T Tryd.f81.results.toList Q) (fun c H => Q (.panicked c) H)) :=
  RCode.leaf_ (T := T) (X := ext) (hint := hint81) tok xok mixed (by kernel_rfl) h
theorem L81_3_round (x1 x2 x3 x7 x14 x15 x16 : Value) (H : Heap) (kn : K1T) (Q : QT) (h : m81_4 x1 x2 x3 x7 x14 x15 x16 H (fun y1 y2 y3 y7 y14 y15 y16 H => L81_3 y1 y2 y3 y7 y14 y15 y16 H kn Q) kn Q) : L81_3 x1 x2 x3 x7 x14 x15 x16 H kn Q := by
  intro env h1 h2 h3 h7 h14 h15 h16
  subst h1; subst h2; subst h3; subst h7; subst h14; subst h15; subst h16
  exact RLoop.round ((c81_4 env H (fun y1 y2 y3 y7 y14 y15 y16 H => L81_3 y1 y2 y3 y7 y14 y15 y16 H kn Q) kn Q h).mono (mkK_mono (fun e H h => h e rfl rfl rfl rfl rfl rfl rfl) (fun _ _ _ h => h) (fun _ _ h => h) (fun _ _ h => h)))
def m81_2 (x1 x2 x3 x7 : Value) (H : Heap) (kn : K1T) (Q : QT) : Prop :=
oV (vField 4 x3) fun t13_51 =>
oV (vLoad ty26 t13_51 H) fun t14_52 =>
oV (vLen t14_52) fun t15_53 =>
L81_3 x1 x2 x3 x7 t14_52 t15_53 (.int .i64 0) H kn Q
theorem c81_2 (env : Env) (H : Heap) (kn : K1T) (Q : QT) (h : m81_2 (env 1) (env 2) (env 3) (env 7) H kn Q) :
    RCode Tryd.prog 51 (codeAt [1, 1, 0] (bodyOf Tryd.f81)) env H (mkK (fun e H => kn (e 7) H) (fun _ _ _ => False) (retK T Tryd.f81.results.toList Q) (fun c H => Q (.panicked c) H)) :=
  RCode.prefix_ (T := T) (X := ext) (hint := hint81) (hole := (fun e H => L81_3 (e 1) (e 2) (e 3) (e 7) (e 14) (e 15) (e 16) H kn Q)) tok xok mixed 1 (by kernel_rfl) (by kernel_rfl : codeAt _ _ = (codeAt [1, 1, 0, 1] (bodyOf Tryd.f81))) h
    (fun e H h => (cL81_3 e H kn Q h))
def m81 (x0 x1 x2 : Value) (H : Heap) (Q : QT) : Prop :=
oNew (Value.cells x0).toList (Value.cells x0).toList.length 29 H fun i_54 H_55 =>
oRC Tryd.prog 109 [x2] H_55 (fun c H => Q (.panicked c) H) fun v_56 H_57 =>
m81_2 x1 x2 (ptrTo i_54) v_56 H_57 (fun y7_58 H_59 => m81_1 y7_58 H_59 Q) Q
theorem c81_0 (env : Env) (H : Heap) (Q : QT) (h : m81 (env 0) (env 1) (env 2) H Q) :
    RCode Tryd.prog 51 (bodyOf Tryd.f81) env H (mkK (retK T Tryd.f81.results.toList Q) (fun _ _ _ => False) (retK T Tryd.f81.results.toList Q) (fun c H => Q (.panicked c) H)) :=
  RCode.prefix_ (T := T) (X := ext) (hint := hint81) (hole := (fun e H => m81_2 (e 1) (e 2) (e 3) (e 7) H (fun y7_60 H_61 => m81_1 y7_60 H_61 Q) Q)) tok xok mixed 2 (by kernel_rfl) (by kernel_rfl : codeAt _ _ = (codeAt [1, 1] (bodyOf Tryd.f81))) h
    (fun e H h => RCode.join (by kernel_rfl : (codeAt [1, 1] (bodyOf Tryd.f81)) = .seq (codeAt [1, 1, 0] (bodyOf Tryd.f81)) (codeAt [1, 1, 1] (bodyOf Tryd.f81))) ((c81_2 e H (fun y7_62 H_63 => m81_1 y7_62 H_63 Q) Q h).mono (mkK_mono (fun e H h => c81_1 e H Q h) (fun _ _ _ h => h) (fun _ _ h => h) (fun _ _ h => h))))
theorem call81 (a0 a1 a2 : Value) (H : Heap) (Q : QT) (h : m81 a0 a1 a2 H Q) : RCalls Tryd.prog 81 [a0, a1, a2] H Q :=
  RCalls.intro (nt := 51) tok Tryd.func81 (by kernel_rfl) (by kernel_rfl) (by kernel_rfl) (of_decide_eq_true (by kernel_rfl)) (c81_0 (envOf [a0, a1, a2]) H Q h)
end Go.Proofs.YtchhpagkdaaglaaDoor.SL
end

section
set_option linter.unusedVariables false
set_option linter.unusedSimpArgs false
set_option maxRecDepth 100000
namespace Go.Proofs.YtchhpagkdaaglaaDoor.SL
open Go
def hint48 : Nat → List Nat := lookupL [(2, [0, 1, 2, 3, 4, 5, 6, 7, 8, 9, 10])]
def m48_1 (x0 x7 : Value) (H : Heap) (Q : QT) : Prop :=
oV (vNil x0) fun t58_1 =>
oV (vField 6 t58_1) fun t59_2 =>
oV (vLoad ty3 t59_2 H) fun t60_3 =>
oV (vInt .add t60_3 (.int .i64 1)) fun t61_4 =>
oV (vNil x0) fun t62_5 =>
oV (vField 6 t62_5) fun t63_6 =>
oHeap (vStore ty3 t63_6 t61_4 H) fun H_7 =>
Q (.returned x7) H_7
theorem c48_1 (env : Env) (H : Heap) (Q : QT) (h : m48_1 (env 0) (env 7) H Q) :
    RCode Tryd.prog 65 (codeAt [1, 1, 1, 1, 1] (bodyOf Tryd.f48)) env H (mkK (retK T Tryd.f48.results.toList Q) (fun _ _ _ => False) (retK T Tryd.f48.results.toList Q) (fun c H => Q (.panicked c) H)) :=
  RCode.leaf_ (T := T) (X := ext) (hint := hint48) tok xok mixed (by kernel_rfl) h
def L48_3 (x0 x5 x6 x7 x30 x31 : Value) (H : Heap) (kn : K2T) (Q : QT) : Prop :=
  ∀ env : Env, env 0 = x0 → env 5 = x5 → env 6 = x6 → env 7 = x7 → env 30 = x30 → env 31 = x31 → RLoop Tryd.prog 65 (codeAt [1, 1, 1, 1, 0, 1, 0, 0] (bodyOf Tryd.f48)) env H (mkK (fun _ _ => False) (inK 0 (fun e H => kn (e 0) (e 7) H) (fun _ _ _ => False)) (retK T Tryd.f48.results.toList Q) (fun c H => Q (.panicked c) H))
theorem cL48_3 (env : Env) (H : Heap) (kn : K2T) (Q : QT) (h : L48_3 (env 0) (env 5) (env 6) (env 7) (env 30) (env 31) H kn Q) :
    RCode Tryd.prog 65 (codeAt [1, 1, 1, 1, 0, 1] (bodyOf Tryd.f48)) env H (mkK (fun e H => kn (e 0) (e 7) H) (fun _ _ _ => False) (retK T Tryd.f48.results.toList Q) (fun c H => Q (.panicked c) H)) :=
  RCode.blk (by kernel_rfl : (codeAt [1, 1, 1, 1, 0, 1] (bodyOf Tryd.f48)) = .block 0 (codeAt [1, 1, 1, 1, 0, 1, 0] (bodyOf Tryd.f48))) (RCode.lp (by kernel_rfl : (codeAt [1, 1, 1, 1, 0, 1, 0] (bodyOf Tryd.f48)) = .loop (codeAt [1, 1, 1, 1, 0, 1, 0, 0] (bodyOf Tryd.f48))) ((h env rfl rfl rfl rfl rfl rfl).mono (mkK_mono (fun _ _ h => h.elim) (fun _ _ _ h => h) (fun _ _ h => h) (fun _ _ h => h))))
def m48_5 (x0 x5 x6 x7 x30 x31 : Value) (H : Heap) (kn : K6T) (kx0 : K2T) (Q : QT) : Prop :=
oV (vInt .add x31 (.int .i64 1)) fun t56_8 =>
kn x0 x5 x6 x7 x30 t56_8 H
theorem c48_5 (env : Env) (H : Heap) (kn : K6T) (kx0 : K2T) (Q : QT) (h : m48_5 (env 0) (env 5) (env 6) (env 7) (env 30) (env 31) H kn kx0 Q) :
    RCode Tryd.prog 65 (codeAt [1, 1, 1, 1, 0, 1, 0, 0, 1, 1, 1] (bodyOf Tryd.f48)) env H (mkK (fun e H => kn (e 0) (e 5) (e 6) (e 7) (e 30) (e 31) H) (inK 0 (fun e H => kx0 (e 0) (e 7) H) (fun _ _ _ => False)) (retK T Tryd.f48.results.toList Q) (fun c H => Q (.panicked c) H)) :=
  RCode.leaf_ (T := T) (X := ext) (hint := hint48) tok xok mixed (by kernel_rfl) h
def L48_8 (x0 x5 x6 x7 x8 x30 x31 x43 x44 : Value) (H : Heap) (kn : K6T) (kx1 : K6T) (kx0 : K2T) (Q : QT) : Prop :=
  ∀ env : Env, env 0 = x0 → env 5 = x5 → env 6 = x6 → env 7 = x7 → env 8 = x8 → env 30 = x30 → env 31 = x31 → env 43 = x43 → env 44 = x44 → RLoop Tryd.prog 65 (codeAt [1, 1, 1, 1, 0, 1, 0, 0, 1, 1, 0, 0, 1, 1, 1, 0, 0] (bodyOf Tryd.f48)) env H (mkK (fun _ _ => False) (inK 2 (fun e H => kn (e 0) (e 5) (e 6) (e 7) (e 30) (e 31) H) (inK 1 (fun e H => kx1 (e 0) (e 5) (e 6) (e 7) (e 30) (e 31) H) (inK 0 (fun e H => kx0 (e 0) (e 7) H) (fun _ _ _ => False)))) (retK T Tryd.f48.results.toList Q) (fun c H => Q (.panicked c) H))
theorem cL48_8 (env : Env) (H : Heap) (kn : K6T) (kx1 : K6T) (kx0 : K2T) (Q : QT) (h : L48_8 (env 0) (env 5) (env 6) (env 7) (env 8) (env 30) (env 31) (env 43) (env 44) H kn kx1 kx0 Q) :
    RCode Tryd.prog 65 (codeAt [1, 1, 1, 1, 0, 1, 0, 0, 1, 1, 0, 0, 1, 1, 1] (bodyOf Tryd.f48)) env H (mkK (fun e H => kn (e 0) (e 5) (e 6) (e 7) (e 30) (e 31) H) (inK 1 (fun e H => kx1 (e 0) (e 5) (e 6) (e 7) (e 30) (e 31) H) (inK 0 (fun e H => kx0 (e 0) (e 7) H) (fun _ _ _ => False))) (retK T Tryd.f48.results.toList Q) (fun c H => Q (.panicked c) H)) :=
  RCode.blk (by kernel_rfl : (codeAt [1, 1, 1, 1, 0, 1, 0, 0, 1, 1, 0, 0, 1, 1, 1] (bodyOf Tryd.f48)) = .block 2 (codeAt [1, 1, 1, 1, 0, 1, 0, 0, 1, 1, 0, 0, 1, 1, 1, 0] (bodyOf Tryd.f48))) (RCode.lp (by kernel_rfl : (codeAt [1, 1, 1, 1, 0, 1, 0, 0, 1, 1, 0, 0, 1, 1, 1, 0] (bodyOf Tryd.f48)) = .loop (codeAt [1, 1, 1, 1, 0, 1, 0, 0, 1, 1, 0, 0, 1, 1, 1, 0, 0] (bodyOf Tryd.f48))) ((h env rfl rfl rfl rfl rfl rfl rfl rfl rfl).mono (mkK_mono (fun _ _ h => h.elim) (fun _ _ _ h => h) (fun _ _ h => h) (fun _ _ h => h))))
def m48_9 (x0 x5 x6 x7 x8 x30 x31 x43 x44 : Value) (H : Heap) (kn : K9T) (kx2 : K6T) (kx1 : K6T) (kx0 : K2T) (Q : QT) : Prop :=
oV (vInt .lss x44 x43) fun t45_9 =>
condK t45_9 (
oV (vIdxS 1 x7 x8) fun t52_10 =>
oV (vLoad ty52 t52_10 H) fun t53_11 =>
oCl ext Tryd.prog x5 [x44, x8, t53_11] H (fun c H => Q (.panicked c) H) fun v_12 H_13 =>
oV (vInt .add x44 (.int .i64 1)) fun t55_14 =>
kn x0 x5 x6 x7 x8 x30 x31 x43 t55_14 H_13) (
kx2 x0 x5 x6 x7 x30 x31 H)
theorem c48_9 (env : Env) (H : Heap) (kn : K9T) (kx2 : K6T) (kx1 : K6T) (kx0 : K2T) (Q : QT) (h : m48_9 (env 0) (env 5) (env 6) (env 7) (env 8) (env 30) (env 31) (env 43) (env 44) H kn kx2 kx1 kx0 Q) :
    RCode Tryd.prog 65 (codeAt [1, 1, 1, 1, 0, 1, 0, 0, 1, 1, 0, 0, 1, 1, 1, 0, 0] (bodyOf Tryd.f48)) env H (mkK (fun e H => kn (e 0) (e 5) (e 6) (e 7) (e 8) (e 30) (e 31) (e 43) (e 44) H) (inK 2 (fun e H => kx2 (e 0) (e 5) (e 6) (e 7) (e 30) (e 31) H) (inK 1 (fun e H => kx1 (e 0) (e 5) (e 6) (e 7) (e 30) (e 31) H) (inK 0 (fun e H => kx0 (e 0) (e 7) H) (fun _ _ _ => False)))) (retK T Tryd.f48.results.toList Q) (fun c H => Q (.panicked c) H)) :=
  RCode.leaf_ (T := T) (X := ext) (hint := hint48) tok xok mixed (by kernel_rfl) h
theorem L48_8_round (x0 x5 x6 x7 x8 x30 x31 x43 x44 : Value) (H : Heap) (kn : K6T) (kx1 : K6T) (kx0 : K2T) (Q : QT) (h : m48_9 x0 x5 x6 x7 x8 x30 x31 x43 x44 H (fun y0 y5 y6 y7 y8 y30 y31 y43 y44 H => L48_8 y0 y5 y6 y7 y8 y30 y31 y43 y44 H kn kx1 kx0 Q) kn kx1 kx0 Q) : L48_8 x0 x5 x6 x7 x8 x30 x31 x43 x44 H kn kx1 kx0 Q := by
  intro env h0 h5 h6 h7 h8 h30 h31 h43 h44
  subst h0; subst h5; subst h6; subst h7; subst h8; subst h30; subst h31; subst h43; subst h44
  exact RLoop.round ((c48_9 env H (fun y0 y5 y6 y7 y8 y30 y31 y43 y44 H => L48_8 y0 y5 y6 y7 y8 y30 y31 y43 y44 H kn kx1 kx0 Q) kn kx1 kx0 Q h).mono (mkK_mono (fun e H h => h e rfl rfl rfl rfl rfl rfl rfl rfl rfl) (fun _ _ _ h => h) (fun _ _ h => h) (fun _ _ h => h)))
def m48_7 (x0 x5 x6 x7 x30 x31 : Value) (H : Heap) (kn : K6T) (kx1 : K6T) (kx0 : K2T) (Q : QT) : Prop :=
oV (vIdxS 1 x6 x31) fun t38_15 =>
oV (vLoad ty52 t38_15 H) fun t39_16 =>
oAppend ty22 22 (.slice none 0 0) t39_16 H fun v_17 H_18 =>
oV (vIdxS 1 x7 x31) fun t41_19 =>
oHeap (vStore ty52 t41_19 v_17 H_18) fun H_20 =>
oV (vLen x7) fun t43_21 =>
L48_8 x0 x5 x6 x7 x31 x30 x31 t43_21 (.int .i64 0) H_20 kn kx1 kx0 Q
theorem c48_7 (env : Env) (H : Heap) (kn : K6T) (kx1 : K6T) (kx0 : K2T) (Q : QT) (h : m48_7 (env 0) (env 5) (env 6) (env 7) (env 30) (env 31) H kn kx1 kx0 Q) :
    RCode Tryd.prog 65 (codeAt [1, 1, 1, 1, 0, 1, 0, 0, 1, 1, 0, 0] (bodyOf Tryd.f48)) env H (mkK (fun e H => kn (e 0) (e 5) (e 6) (e 7) (e 30) (e 31) H) (inK 1 (fun e H => kx1 (e 0) (e 5) (e 6) (e 7) (e 30) (e 31) H) (inK 0 (fun e H => kx0 (e 0) (e 7) H) (fun _ _ _ => False))) (retK T Tryd.f48.results.toList Q) (fun c H => Q (.panicked c) H)) :=
  RCode.prefix_ (T := T) (X := ext) (hint := hint48) (hole := (fun e H => L48_8 (e 0) (e 5) (e 6) (e 7) (e 8) (e 30) (e 31) (e 43) (e 44) H kn kx1 kx0 Q)) tok xok mixed 3 (by kernel_rfl) (by kernel_rfl : codeAt _ _ = (codeAt [1, 1, 1, 1, 0, 1, 0, 0, 1, 1, 0, 0, 1, 1, 1] (bodyOf Tryd.f48))) h
    (fun e H h => (cL48_8 e H kn kx1 kx0 Q h))
def m48_6 (x0 x5 x6 x7 x30 x31 : Value) (H : Heap) (kn : K6T) (kx0 : K2T) (Q : QT) : Prop :=
m48_7 x0 x5 x6 x7 x30 x31 H kn kn kx0 Q
theorem c48_6 (env : Env) (H : Heap) (kn : K6T) (kx0 : K2T) (Q : QT) (h : m48_6 (env 0) (env 5) (env 6) (env 7) (env 30) (env 31) H kn kx0 Q) :
    RCode Tryd.prog 65 (codeAt [1, 1, 1, 1, 0, 1, 0, 0, 1, 1, 0] (bodyOf Tryd.f48)) env H (mkK (fun e H => kn (e 0) (e 5) (e 6) (e 7) (e 30) (e 31) H) (inK 0 (fun e H => kx0 (e 0) (e 7) H) (fun _ _ _ => False)) (retK T Tryd.f48.results.toList Q) (fun c H => Q (.panicked c) H)) :=
  RCode.blk (by kernel_rfl : (codeAt [1, 1, 1, 1, 0, 1, 0, 0, 1, 1, 0] (bodyOf Tryd.f48)) = .block 1 (codeAt [1, 1, 1, 1, 0, 1, 0, 0, 1, 1, 0, 0] (bodyOf Tryd.f48))) (c48_7 env H kn kn kx0 Q h)
def m48_4 (x0 x5 x6 x7 x30 x31 : Value) (H : Heap) (kn : K6T) (kx0 : K2T) (Q : QT) : Prop :=
oV (vInt .lss x31 x30) fun t32_22 =>
condK t32_22 (
m48_6 x0 x5 x6 x7 x30 x31 H (fun y0_23 y5_24 y6_25 y7_26 y30_27 y31_28 H_29 => m48_5 y0_23 y5_24 y6_25 y7_26 y30_27 y31_28 H_29 kn kx0 Q) kx0 Q) (
kx0 x0 x7 H)
theorem c48_4 (env : Env) (H : Heap) (kn : K6T) (kx0 : K2T) (Q : QT) (h : m48_4 (env 0) (env 5) (env 6) (env 7) (env 30) (env 31) H kn kx0 Q) :
    RCode Tryd.prog 65 (codeAt [1, 1, 1, 1, 0, 1, 0, 0] (bodyOf Tryd.f48)) env H (mkK (fun e H => kn (e 0) (e 5) (e 6) (e 7) (e 30) (e 31) H) (inK 0 (fun e H => kx0 (e 0) (e 7) H) (fun _ _ _ => False)) (retK T Tryd.f48.results.toList Q) (fun c H => Q (.panicked c) H)) :=
  RCode.prefix_ (T := T) (X := ext) (hint := hint48) (hole := (fun e H => m48_6 (e 0) (e 5) (e 6) (e 7) (e 30) (e 31) H (fun y0_30 y5_31 y6_32 y7_33 y30_34 y31_35 H_36 => m48_5 y0_30 y5_31 y6_32 y7_33 y30_34 y31_35 H_36 kn kx0 Q) kx0 Q)) tok xok mixed 2 (by kernel_rfl) (by kernel_rfl : codeAt _ _ = (codeAt [1, 1, 1, 1, 0, 1, 0, 0, 1, 1] (bodyOf Tryd.f48))) h
    (fun e H h => RCode.join (by kernel_rfl : (codeAt [1, 1, 1, 1, 0, 1, 0, 0, 1, 1] (bodyOf Tryd.f48)) = .seq (codeAt [1, 1, 1, 1, 0, 1, 0, 0, 1, 1, 0] (bodyOf Tryd.f48)) (codeAt [1, 1, 1, 1, 0, 1, 0, 0, 1, 1, 1] (bodyOf Tryd.f48))) ((c48_6 e H (fun y0_37 y5_38 y6_39 y7_40 y30_41 y31_42 H_43 => m48_5 y0_37 y5_38 y6_39 y7_40 y30_41 y31_42 H_43 kn kx0 Q) kx0 Q h).mono (mkK_mono (fun e H h => c48_5 e H kn kx0 Q h) (fun _ _ _ h => h) (fun _ _ h => h) (fun _ _ h => h))))
theorem L48_3_round (x0 x5 x6 x7 x30 x31 : Value) (H : Heap) (kn : K2T) (Q : QT) (h : m48_4 x0 x5 x6 x7 x30 x31 H (fun y0 y5 y6 y7 y30 y31 H => L48_3 y0 y5 y6 y7 y30 y31 H kn Q) kn Q) : L48_3 x0 x5 x6 x7 x30 x31 H kn Q := by
  intro env h0 h5 h6 h7 h30 h31
  subst h0; subst h5; subst h6; subst h7; subst h30; subst h31
  exact RLoop.round ((c48_4 env H (fun y0 y5 y6 y7 y30 y31 H => L48_3 y0 y5 y6 y7 y30 y31 H kn Q) kn Q h).mono (mkK_mono (fun e H h => h e rfl rfl rfl rfl rfl rfl) (fun _ _ _ h => h) (fun _ _ h => h) (fun _ _ h => h)))
def m48_2 (x0 x5 x6 x7 : Value) (H : Heap) (kn : K2T) (Q : QT) : Prop :=
oV (vLen x7) fun t30_44 =>
L48_3 x0 x5 x6 x7 t30_44 (.int .i64 0) H kn Q
theorem c48_2 (env : Env) (H : Heap) (kn : K2T) (Q : QT) (h : m48_2 (env 0) (env 5) (env 6) (env 7) H kn Q) :
    RCode Tryd.prog 65 (codeAt [1, 1, 1, 1, 0] (bodyOf Tryd.f48)) env H (mkK (fun e H => kn (e 0) (e 7) H) (fun _ _ _ => False) (retK T Tryd.f48.results.toList Q) (fun c H => Q (.panicked c) H)) :=
  RCode.prefix_ (T := T) (X := ext) (hint := hint48) (hole := (fun e H => L48_3 (e 0) (e 5) (e 6) (e 7) (e 30) (e 31) H kn Q)) tok xok mixed 1 (by kernel_rfl) (by kernel_rfl : codeAt _ _ = (codeAt [1, 1, 1, 1, 0, 1] (bodyOf Tryd.f48))) h
    (fun e H h => (cL48_3 e H kn Q h))
def m48 (x0 x1 : Value) (H : Heap) (Q : QT) : Prop :=
oV (vNil x0) fun t13_45 =>
oV (vField 0 t13_45) fun t14_46 =>
oV (vLoad ty29 t14_46 H) fun t15_47 =>
oV (vNil x0) fun t17_48 =>
oV (vField 6 t17_48) fun t18_49 =>
oV (vLoad ty3 t18_49 H) fun t19_50 =>
oRC Tryd.prog 81 [t15_47, t19_50, x1] H noP fun v_51 H_52 =>
oV (vNil x0) fun t23_53 =>
oV (vField 0 t23_53) fun t24_54 =>
oV (vField 0 t24_54) fun t25_55 =>
oV (vField 1 t25_55) fun t26_56 =>
oV (vLoad ty3 t26_56 H_52) fun t27_57 =>
oMake ty52 52 t27_57 t27_57 H_52 fun s_58 H_59 =>
m48_2 x0 (.func (.func 79) #[x0] #[]) v_51 s_58 H_59 (fun y0_60 y7_61 H_62 => m48_1 y0_60 y7_61 H_62 Q) Q
theorem c48_0 (env : Env) (H : Heap) (Q : QT) (h : m48 (env 0) (env 1) H Q) :
    RCode Tryd.prog 65 (bodyOf Tryd.f48) env H (mkK (retK T Tryd.f48.results.toList Q) (fun _ _ _ => False) (retK T Tryd.f48.results.toList Q) (fun c H => Q (.panicked c) H)) :=
  RCode.prefix_ (T := T) (X := ext) (hint := hint48) (hole := (fun e H => m48_2 (e 0) (e 5) (e 6) (e 7) H (fun y0_63 y7_64 H_65 => m48_1 y0_63 y7_64 H_65 Q) Q)) tok xok mixed 4 (by kernel_rfl) (by kernel_rfl : codeAt _ _ = (codeAt [1, 1, 1, 1] (bodyOf Tryd.f48))) h
    (fun e H h => RCode.join (by kernel_rfl : (codeAt [1, 1, 1, 1] (bodyOf Tryd.f48)) = .seq (codeAt [1, 1, 1, 1, 0] (bodyOf Tryd.f48)) (codeAt [1, 1, 1, 1, 1] (bodyOf Tryd.f48))) ((c48_2 e H (fun y0_66 y7_67 H_68 => m48_1 y0_66 y7_67 H_68 Q) Q h).mono (mkK_mono (fun e H h => c48_1 e H Q h) (fun _ _ _ h => h) (fun _ _ h => h) (fun _ _ h => h))))
theorem call48 (a0 a1 : Value) (H : Heap) (Q : QT) (h : m48 a0 a1 H Q) : RCalls Tryd.prog 48 [a0, a1] H Q :=
  RCalls.intro (nt := 65) tok Tryd.func48 (by kernel_rfl) (by kernel_rfl) (by kernel_rfl) (of_decide_eq_true (by kernel_rfl)) (c48_0 (envOf [a0, a1]) H Q h)
def hint14 : Nat → List Nat := lookupL []
def m14 (x0 : Value) (H : Heap) (Q : QT) : Prop :=
oV (vNil x0) fun t4_1 =>
oV (vField 6 t4_1) fun t5_2 =>
oV (vLoad ty3 t5_2 H) fun t6_3 =>
Q (.returned t6_3) H
theorem c14_0 (env : Env) (H : Heap) (Q : QT) (h : m14 (env 0) H Q) :
    RCode Tryd.prog 7 (bodyOf Tryd.f14) env H (mkK (retK T Tryd.f14.results.toList Q) (fun _ _ _ => False) (retK T Tryd.f14.results.toList Q) (fun c H => Q (.panicked c) H)) :=
  RCode.leaf_ (T := T) (X := ext) (hint := hint14) tok xok mixed (by kernel_rfl) h
theorem call14 (a0 : Value) (H : Heap) (Q : QT) (h : m14 a0 H Q) : RCalls Tryd.prog 14 [a0] H Q :=
  RCalls.intro (nt := 7) tok Tryd.func14 (by kernel_rfl) (by kernel_rfl) (by kernel_rfl) (of_decide_eq_true (by kernel_rfl)) (c14_0 (envOf [a0]) H Q h)
def hint49 : Nat → List Nat := lookupL []
def m49 (x0 x1 : Value) (H : Heap) (Q : QT) : Prop :=
oMake ty22 22 x1 x1 H fun s_1 H_2 =>
oCopy ty22 s_1 x0 H_2 fun v_3 H_4 =>
Q (.returned s_1) H_4
theorem c49_0 (env : Env) (H : Heap) (Q : QT) (h : m49 (env 0) (env 1) H Q) :
    RCode Tryd.prog 12 (bodyOf Tryd.f49) env H (mkK (retK T Tryd.f49.results.toList Q) (fun _ _ _ => False) (retK T Tryd.f49.results.toList Q) (fun c H => Q (.panicked c) H)) :=
  RCode.leaf_ (T := T) (X := ext) (hint := hint49) tok xok mixed (by kernel_rfl) h
theorem call49 (a0 a1 : Value) (H : Heap) (Q : QT) (h : m49 a0 a1 H Q) : RCalls Tryd.prog 49 [a0, a1] H Q :=
  RCalls.intro (nt := 12) tok Tryd.func49 (by kernel_rfl) (by kernel_rfl) (by kernel_rfl) (of_decide_eq_true (by kernel_rfl)) (c49_0 (envOf [a0, a1]) H Q h)
def hint149 : Nat → List Nat := lookupL []
def m149 (H : Heap) (Q : QT) : Prop :=
oBuildS ty3 3 7 [((0, 1), (.int .i64 5)), ((1, 1), (.int .i64 7)), ((2, 1), (.int .i64 13)), ((3, 1), (.int .i64 17)), ((4, 1), (.int .i64 19)), ((5, 1), (.int .i64 31)), ((6, 1), (.int .i64 61))] H fun s_1 H_2 =>
Q (.returned s_1) H_2
theorem c149_0 (env : Env) (H : Heap) (Q : QT) (h : m149 H Q) :
    RCode Tryd.prog 2 (bodyOf Tryd.f149) env H (mkK (retK T Tryd.f149.results.toList Q) (fun _ _ _ => False) (retK T Tryd.f149.results.toList Q) (fun c H => Q (.panicked c) H)) :=
  RCode.leaf_ (T := T) (X := ext) (hint := hint149) tok xok mixed (by kernel_rfl) h
theorem call149 (H : Heap) (Q : QT) (h : m149 H Q) : RCalls Tryd.prog 149 [] H Q :=
  RCalls.intro (nt := 2) tok Tryd.func149 (by kernel_rfl) (by kernel_rfl) (by kernel_rfl) (of_decide_eq_true (by kernel_rfl)) (c149_0 (envOf []) H Q h)
def hint141 : Nat → List Nat := lookupL []
def m141_1 (H : Heap) (Q : QT) : Prop :=
Q (.returned (.int .i64 0)) H
theorem c141_1 (env : Env) (H : Heap) (Q : QT) (h : m141_1 H Q) :
    RCode Tryd.prog 25 (codeAt [1, 1, 1] (bodyOf Tryd.f141)) env H (mkK (retK T Tryd.f141.results.toList Q) (fun _ _ _ => False) (retK T Tryd.f141.results.toList Q) (fun c H => Q (.panicked c) H)) :=
  RCode.leaf_ (T := T) (X := ext) (hint := hint141) tok xok mixed (by kernel_rfl) h
def L141_3 (x0 x3 x4 : Value) (H : Heap) (kn : K0T) (Q : QT) : Prop :=
  ∀ env : Env, env 0 = x0 → env 3 = x3 → env 4 = x4 → RLoop Tryd.prog 25 (codeAt [1, 1, 0, 1, 0, 0] (bodyOf Tryd.f141)) env H (mkK (fun _ _ => False) (inK 0 (fun e H => kn H) (fun _ _ _ => False)) (retK T Tryd.f141.results.toList Q) (fun c H => Q (.panicked c) H))
theorem cL141_3 (env : Env) (H : Heap) (kn : K0T) (Q : QT) (h : L141_3 (env 0) (env 3) (env 4) H kn Q) :
    RCode Tryd.prog 25 (codeAt [1, 1, 0, 1] (bodyOf Tryd.f141)) env H (mkK (fun e H => kn H) (fun _ _ _ => False) (retK T Tryd.f141.results.toList Q) (fun c H => Q (.panicked c) H)) :=
  RCode.blk (by kernel_rfl : (codeAt [1, 1, 0, 1] (bodyOf Tryd.f141)) = .block 0 (codeAt [1, 1, 0, 1, 0] (bodyOf Tryd.f141))) (RCode.lp (by kernel_rfl : (codeAt [1, 1, 0, 1, 0] (bodyOf Tryd.f141)) = .loop (codeAt [1, 1, 0, 1, 0, 0] (bodyOf Tryd.f141))) ((h env rfl rfl rfl).mono (mkK_mono (fun _ _ h => h.elim) (fun _ _ _ h => h) (fun _ _ h => h) (fun _ _ h => h))))
def m141_4 (x0 x3 x4 : Value) (H : Heap) (kn : K3T) (kx0 : K0T) (Q : QT) : Prop :=
oV (vLen x3) fun t8_1 =>
oV (vInt .lss x4 t8_1) fun t9_2 =>
condK t9_2 (
oV (vIdxS 1 x3 x4) fun t15_3 =>
oV (vLoad ty3 t15_3 H) fun t16_4 =>
oV (vConv (.int .u64) t16_4) fun t17_5 =>
oV (vInt .shl (.int .u64 1) t17_5) fun t18_6 =>
oV (vInt .sub t18_6 (.int .u64 1)) fun t19_7 =>
oV (vInt .eql x0 t19_7) fun t20_8 =>
condK t20_8 (
oV (vIdxS 1 x3 x4) fun t23_9 =>
oV (vLoad ty3 t23_9 H) fun t24_10 =>
Q (.returned t24_10) H) (
oV (vInt .add x4 (.int .i64 1)) fun t11_11 =>
kn x0 x3 t11_11 H)) (
kx0 H)
theorem c141_4 (env : Env) (H : Heap) (kn : K3T) (kx0 : K0T) (Q : QT) (h : m141_4 (env 0) (env 3) (env 4) H kn kx0 Q) :
    RCode Tryd.prog 25 (codeAt [1, 1, 0, 1, 0, 0] (bodyOf Tryd.f141)) env H (mkK (fun e H => kn (e 0) (e 3) (e 4) H) (inK 0 (fun e H => kx0 H) (fun _ _ _ => False)) (retK T Tryd.f141.results.toList Q) (fun c H => Q (.panicked c) H)) :=
  RCode.leaf_ (T := T) (X := ext) (hint := hint141) tok xok mixed (by kernel_rfl) h
theorem L141_3_round (x0 x3 x4 : Value) (H : Heap) (kn : K0T) (Q : QT) (h : m141_4 x0 x3 x4 H (fun y0 y3 y4 H => L141_3 y0 y3 y4 H kn Q) kn Q) : L141_3 x0 x3 x4 H kn Q := by
  intro env h0 h3 h4
  subst h0; subst h3; subst h4
  exact RLoop.round ((c141_4 env H (fun y0 y3 y4 H => L141_3 y0 y3 y4 H kn Q) kn Q h).mono (mkK_mono (fun e H h => h e rfl rfl rfl) (fun _ _ _ h => h) (fun _ _ h => h) (fun _ _ h => h)))
def m141_2 (x0 x3 : Value) (H : Heap) (kn : K0T) (Q : QT) : Prop :=
L141_3 x0 x3 (.int .i64 0) H kn Q
theorem c141_2 (env : Env) (H : Heap) (kn : K0T) (Q : QT) (h : m141_2 (env 0) (env 3) H kn Q) :
    RCode Tryd.prog 25 (codeAt [1, 1, 0] (bodyOf Tryd.f141)) env H (mkK (fun e H => kn H) (fun _ _ _ => False) (retK T Tryd.f141.results.toList Q) (fun c H => Q (.panicked c) H)) :=
  RCode.prefix_ (T := T) (X := ext) (hint := hint141) (hole := (fun e H => L141_3 (e 0) (e 3) (e 4) H kn Q)) tok xok mixed 1 (by kernel_rfl) (by kernel_rfl : codeAt _ _ = (codeAt [1, 1, 0, 1] (bodyOf Tryd.f141))) h
    (fun e H h => (cL141_3 e H kn Q h))
def m141 (x0 : Value) (H : Heap) (Q : QT) : Prop :=
oRC Tryd.prog 149 [] H (fun c H => Q (.panicked c) H) fun v_12 H_13 =>
m141_2 x0 v_12 H_13 (fun H_14 => m141_1 H_14 Q) Q
theorem c141_0 (env : Env) (H : Heap) (Q : QT) (h : m141 (env 0) H Q) :
    RCode Tryd.prog 25 (bodyOf Tryd.f141) env H (mkK (retK T Tryd.f141.results.toList Q) (fun _ _ _ => False) (retK T Tryd.f141.results.toList Q) (fun c H => Q (.panicked c) H)) :=
  RCode.prefix_ (T := T) (X := ext) (hint := hint141) (hole := (fun e H => m141_2 (e 0) (e 3) H (fun H_15 => m141_1 H_15 Q) Q)) tok xok mixed 2 (by kernel_rfl) (by kernel_rfl : codeAt _ _ = (codeAt [1, 1] (bodyOf Tryd.f141))) h
    (fun e H h => RCode.join (by kernel_rfl : (codeAt [1, 1] (bodyOf Tryd.f141)) = .seq (codeAt [1, 1, 0] (bodyOf Tryd.f141)) (codeAt [1, 1, 1] (bodyOf Tryd.f141))) ((c141_2 e H (fun H_16 => m141_1 H_16 Q) Q h).mono (mkK_mono (fun e H h => c141_1 e H Q h) (fun _ _ _ h => h) (fun _ _ h => h) (fun _ _ h => h))))
theorem call141 (a0 : Value) (H : Heap) (Q : QT) (h : m141 a0 H Q) : RCalls Tryd.prog 141 [a0] H Q :=
  RCalls.intro (nt := 25) tok Tryd.func141 (by kernel_rfl) (by kernel_rfl) (by kernel_rfl) (of_decide_eq_true (by kernel_rfl)) (c141_0 (envOf [a0]) H Q h)
def hint116 : Nat → List Nat := lookupL []
def m116 (x0 : Value) (H : Heap) (Q : QT) : Prop :=
oRC Tryd.prog 141 [x0] H (fun c H => Q (.panicked c) H) fun v_1 H_2 =>
oV (vInt .gtr v_1 (.int .i64 0)) fun t5_3 =>
Q (.returned t5_3) H_2
theorem c116_0 (env : Env) (H : Heap) (Q : QT) (h : m116 (env 0) H Q) :
    RCode Tryd.prog 6 (bodyOf Tryd.f116) env H (mkK (retK T Tryd.f116.results.toList Q) (fun _ _ _ => False) (retK T Tryd.f116.results.toList Q) (fun c H => Q (.panicked c) H)) :=
  RCode.leaf_ (T := T) (X := ext) (hint := hint116) tok xok mixed (by kernel_rfl) h
theorem call116 (a0 : Value) (H : Heap) (Q : QT) (h : m116 a0 H Q) : RCalls Tryd.prog 116 [a0] H Q :=
  RCalls.intro (nt := 6) tok Tryd.func116 (by kernel_rfl) (by kernel_rfl) (by kernel_rfl) (of_decide_eq_true (by kernel_rfl)) (c116_0 (envOf [a0]) H Q h)
def hint90 : Nat → List Nat := lookupL []
def m90 (x0 : Value) (H : Heap) (Q : QT) : Prop :=
oNew (Value.cells x0).toList (Value.cells x0).toList.length 24 H fun i_1 H_2 =>
oV (vField 0 (ptrTo i_1)) fun t3_3 =>
oV (vLoad ty22 t3_3 H_2) fun t4_4 =>
oRC Tryd.prog 116 [t4_4] H_2 (fun c H => Q (.panicked c) H) fun v_5 H_6 =>
oV (gV v_5 true (vField 1 (ptrTo i_1)) (some undef)) fun t7_7 =>
oV (gV v_5 true (vLoad ty3 t7_7 H_6) (some undef)) fun t8_8 =>
oV (gV v_5 true (vInt .geq t8_8 (.int .i64 4)) (some undef)) fun t9_9 =>
oV (vPick v_5 t9_9 (.bool false)) fun t10_10 =>
oV (gV t10_10 true (vField 1 (ptrTo i_1)) (some undef)) fun t12_11 =>
oV (gV t10_10 true (vLoad ty3 t12_11 H_6) (some undef)) fun t13_12 =>
oV (gV t10_10 true (vInt .leq t13_12 (.int .i64 13)) (some undef)) fun t14_13 =>
oV (vPick t10_10 t14_13 (.bool false)) fun t15_14 =>
oV (gV t15_14 true (vField 1 (ptrTo i_1)) (some undef)) fun t17_15 =>
oV (gV t15_14 true (vLoad ty3 t17_15 H_6) (some undef)) fun t18_16 =>
oV (gV t15_14 true (vConv (.int .u64) t18_16) (some undef)) fun t19_17 =>
oV (gV t15_14 true (vField 0 (ptrTo i_1)) (some undef)) fun t20_18 =>
oV (gV t15_14 true (vLoad ty22 t20_18 H_6) (some undef)) fun t21_19 =>
oV (gV t15_14 true (vInt .lss t19_17 t21_19) (some undef)) fun t22_20 =>
oV (vPick t15_14 t22_20 (.bool false)) fun t23_21 =>
oV (gV t23_21 true (vField 2 (ptrTo i_1)) (some undef)) fun t25_22 =>
oV (gV t23_21 true (vLoad ty3 t25_22 H_6) (some undef)) fun t26_23 =>
oV (gV t23_21 true (vInt .geq t26_23 (.int .i64 1)) (some undef)) fun t27_24 =>
oV (vPick t23_21 t27_24 (.bool false)) fun t28_25 =>
oV (gV t28_25 true (vField 2 (ptrTo i_1)) (some undef)) fun t30_26 =>
oV (gV t28_25 true (vLoad ty3 t30_26 H_6) (some undef)) fun t31_27 =>
oV (gV t28_25 true (vField 1 (ptrTo i_1)) (some undef)) fun t32_28 =>
oV (gV t28_25 true (vLoad ty3 t32_28 H_6) (some undef)) fun t33_29 =>
oV (gV t28_25 true (vInt .lss t31_27 t33_29) (some undef)) fun t34_30 =>
oV (vPick t28_25 t34_30 (.bool false)) fun t35_31 =>
oV (gV t35_31 true (vField 2 (ptrTo i_1)) (some undef)) fun t37_32 =>
oV (gV t35_31 true (vLoad ty3 t37_32 H_6) (some undef)) fun t38_33 =>
oV (gV t35_31 true (vInt .mul (.int .i64 3) t38_33) (some undef)) fun t39_34 =>
oV (gV t35_31 true (vField 1 (ptrTo i_1)) (some undef)) fun t40_35 =>
oV (gV t35_31 true (vLoad ty3 t40_35 H_6) (some undef)) fun t41_36 =>
oV (gV t35_31 true (vInt .lss t39_34 t41_36) (some undef)) fun t42_37 =>
oV (vPick t35_31 t42_37 (.bool false)) fun t43_38 =>
Q (.returned t43_38) H_6
theorem c90_0 (env : Env) (H : Heap) (Q : QT) (h : m90 (env 0) H Q) :
    RCode Tryd.prog 44 (bodyOf Tryd.f90) env H (mkK (retK T Tryd.f90.results.toList Q) (fun _ _ _ => False) (retK T Tryd.f90.results.toList Q) (fun c H => Q (.panicked c) H)) :=
  RCode.leaf_ (T := T) (X := ext) (hint := hint90) tok xok mixed (by kernel_rfl) h
theorem call90 (a0 : Value) (H : Heap) (Q : QT) (h : m90 a0 H Q) : RCalls Tryd.prog 90 [a0] H Q :=
  RCalls.intro (nt := 44) tok Tryd.func90 (by kernel_rfl) (by kernel_rfl) (by kernel_rfl) (of_decide_eq_true (by kernel_rfl)) (c90_0 (envOf [a0]) H Q h)
def hint91 : Nat → List Nat := lookupL [(6, [0, 1, 2, 3, 4, 5, 6, 7, 8, 9, 10, 11, 12, 13, 14, 15, 16, 17, 18, 19, 20, 21, 22, 23, 24, 25, 26, 27, 28, 29])]
def m91_1 (H : Heap) (Q : QT) : Prop :=
Q (.returned (.bool true)) H
theorem c91_1 (env : Env) (H : Heap) (Q : QT) (h : m91_1 H Q) :
    RCode Tryd.prog 52 (codeAt [1, 1, 1] (bodyOf Tryd.f91)) env H (mkK (retK T Tryd.f91.results.toList Q) (fun _ _ _ => False) (retK T Tryd.f91.results.toList Q) (fun c H => Q (.panicked c) H)) :=
  RCode.leaf_ (T := T) (X := ext) (hint := hint91) tok xok mixed (by kernel_rfl) h
def L91_3 (x1 x2 x5 : Value) (H : Heap) (kn : K0T) (Q : QT) : Prop :=
  ∀ env : Env, env 1 = x1 → env 2 = x2 → env 5 = x5 → RLoop Tryd.prog 52 (codeAt [1, 1, 0, 1, 0, 0] (bodyOf Tryd.f91)) env H (mkK (fun _ _ => False) (inK 0 (fun e H => kn H) (fun _ _ _ => False)) (retK T Tryd.f91.results.toList Q) (fun c H => Q (.panicked c) H))
theorem cL91_3 (env : Env) (H : Heap) (kn : K0T) (Q : QT) (h : L91_3 (env 1) (env 2) (env 5) H kn Q) :
    RCode Tryd.prog 52 (codeAt [1, 1, 0, 1] (bodyOf Tryd.f91)) env H (mkK (fun e H => kn H) (fun _ _ _ => False) (retK T Tryd.f91.results.toList Q) (fun c H => Q (.panicked c) H)) :=
  RCode.blk (by kernel_rfl : (codeAt [1, 1, 0, 1] (bodyOf Tryd.f91)) = .block 0 (codeAt [1, 1, 0, 1, 0] (bodyOf Tryd.f91))) (RCode.lp (by kernel_rfl : (codeAt [1, 1, 0, 1, 0] (bodyOf Tryd.f91)) = .loop (codeAt [1, 1, 0, 1, 0, 0] (bodyOf Tryd.f91))) ((h env rfl rfl rfl).mono (mkK_mono (fun _ _ h => h.elim) (fun _ _ _ h => h) (fun _ _ h => h) (fun _ _ h => h))))
def m91_4 (x1 x2 x5 : Value) (H : Heap) (kn : K3T) (kx0 : K0T) (Q : QT) : Prop :=
oV (vLen x1) fun t18_1 =>
oV (vInt .lss x5 t18_1) fun t19_2 =>
condK t19_2 (
oV (vIdxS 1 x1 x5) fun t24_3 =>
oV (vLoad ty3 t24_3 H) fun t25_4 =>
oV (vInt .lss t25_4 (.int .i64 1)) fun t26_5 =>
oV (gV t26_5 false (some x1) (some undef)) fun t28_6 =>
oV (gV t26_5 false (some x5) (some undef)) fun t29_7 =>
oV (gV t26_5 false (vIdxS 1 t28_6 t29_7) (some undef)) fun t30_8 =>
oV (gV t26_5 false (vLoad ty3 t30_8 H) (some undef)) fun t31_9 =>
oV (gV t26_5 false (vField 1 x2) (some undef)) fun t32_10 =>
oV (gV t26_5 false (vLoad ty3 t32_10 H) (some undef)) fun t33_11 =>
oV (gV t26_5 false (vInt .gtr t31_9 t33_11) (some undef)) fun t34_12 =>
oV (vPick t26_5 (.bool true) t34_12) fun t35_13 =>
oV (gV t35_13 false (some x5) (some undef)) fun t37_14 =>
oV (gV t35_13 false (vInt .gtr t37_14 (.int .i64 0)) (some undef)) fun t38_15 =>
oV (gV t35_13 false (some t38_15) (some undef)) fun t39_16 =>
oV (gV t39_16 true (some x1) (some undef)) fun t40_17 =>
oV (gV t39_16 true (some x5) (some undef)) fun t41_18 =>
oV (gV t39_16 true (vIdxS 1 t40_17 t41_18) (some undef)) fun t42_19 =>
oV (gV t39_16 true (vLoad ty3 t42_19 H) (some undef)) fun t43_20 =>
oV (gV t39_16 true (some x1) (some undef)) fun t44_21 =>
oV (gV t39_16 true (some x5) (some undef)) fun t45_22 =>
oV (gV t39_16 true (vInt .sub t45_22 (.int .i64 1)) (some undef)) fun t46_23 =>
oV (gV t39_16 true (vIdxS 1 t44_21 t46_23) (some undef)) fun t47_24 =>
oV (gV t39_16 true (vLoad ty3 t47_24 H) (some undef)) fun t48_25 =>
oV (gV t39_16 true (vInt .leq t43_20 t48_25) (some undef)) fun t49_26 =>
oV (gV t35_13 false (vPick t39_16 t49_26 (.bool false)) (some undef)) fun t50_27 =>
oV (vPick t35_13 (.bool true) t50_27) fun t51_28 =>
condK t51_28 (
Q (.returned (.bool false)) H) (
oV (vInt .add x5 (.int .i64 1)) fun t21_29 =>
kn x1 x2 t21_29 H)) (
kx0 H)
theorem c91_4 (env : Env) (H : Heap) (kn : K3T) (kx0 : K0T) (Q : QT) (h : m91_4 (env 1) (env 2) (env 5) H kn kx0 Q) :
    RCode Tryd.prog 52 (codeAt [1, 1, 0, 1, 0, 0] (bodyOf Tryd.f91)) env H (mkK (fun e H => kn (e 1) (e 2) (e 5) H) (inK 0 (fun e H => kx0 H) (fun _ _ _ => False)) (retK T Tryd.f91.results.toList Q) (fun c H => Q (.panicked c) H)) :=
  RCode.leaf_ (T := T) (X := ext) (hint := hint91) tok xok mixed (by kernel_rfl) h
theorem L91_3_round (x1 x2 x5 : Value) (H : Heap) (kn : K0T) (Q : QT) (h : m91_4 x1 x2 x5 H (fun y1 y2 y5 H => L91_3 y1 y2 y5 H kn Q) kn Q) : L91_3 x1 x2 x5 H kn Q := by
  intro env h1 h2 h5
  subst h1; subst h2; subst h5
  exact RLoop.round ((c91_4 env H (fun y1 y2 y5 H => L91_3 y1 y2 y5 H kn Q) kn Q h).mono (mkK_mono (fun e H h => h e rfl rfl rfl) (fun _ _ _ h => h) (fun _ _ h => h) (fun _ _ h => h)))
def m91_2 (x1 x2 : Value) (H : Heap) (kn : K0T) (Q : QT) : Prop :=
L91_3 x1 x2 (.int .i64 0) H kn Q
theorem c91_2 (env : Env) (H : Heap) (kn : K0T) (Q : QT) (h : m91_2 (env 1) (env 2) H kn Q) :
    RCode Tryd.prog 52 (codeAt [1, 1, 0] (bodyOf Tryd.f91)) env H (mkK (fun e H => kn H) (fun _ _ _ => False) (retK T Tryd.f91.results.toList Q) (fun c H => Q (.panicked c) H)) :=
  RCode.prefix_ (T := T) (X := ext) (hint := hint91) (hole := (fun e H => L91_3 (e 1) (e 2) (e 5) H kn Q)) tok xok mixed 1 (by kernel_rfl) (by kernel_rfl : codeAt _ _ = (codeAt [1, 1, 0, 1] (bodyOf Tryd.f91))) h
    (fun e H h => (cL91_3 e H kn Q h))
def m91 (x0 x1 : Value) (H : Heap) (Q : QT) : Prop :=
oNew (Value.cells x0).toList (Value.cells x0).toList.length 24 H fun i_30 H_31 =>
oV (vLoad ty24 (ptrTo i_30) H_31) fun t6_32 =>
oRC Tryd.prog 90 [t6_32] H_31 (fun c H => Q (.panicked c) H) fun v_33 H_34 =>
oV (vUn .not v_33) fun t8_35 =>
oV (gV t8_35 false (some x1) (some undef)) fun t10_36 =>
oV (gV t8_35 false (vLen t10_36) (some undef)) fun t11_37 =>
oV (gV t8_35 false (vField 2 (ptrTo i_30)) (some undef)) fun t12_38 =>
oV (gV t8_35 false (vLoad ty3 t12_38 H_34) (some undef)) fun t13_39 =>
oV (gV t8_35 false (vInt .gtr t11_37 t13_39) (some undef)) fun t14_40 =>
oV (vPick t8_35 (.bool true) t14_40) fun t15_41 =>
condK t15_41 (
Q (.returned (.bool false)) H_34) (
m91_2 x1 (ptrTo i_30) H_34 (fun H_42 => m91_1 H_42 Q) Q)
theorem c91_0 (env : Env) (H : Heap) (Q : QT) (h : m91 (env 0) (env 1) H Q) :
    RCode Tryd.prog 52 (bodyOf Tryd.f91) env H (mkK (retK T Tryd.f91.results.toList Q) (fun _ _ _ => False) (retK T Tryd.f91.results.toList Q) (fun c H => Q (.panicked c) H)) :=
  RCode.prefix_ (T := T) (X := ext) (hint := hint91) (hole := (fun e H => m91_2 (e 1) (e 2) H (fun H_43 => m91_1 H_43 Q) Q)) tok xok mixed 2 (by kernel_rfl) (by kernel_rfl : codeAt _ _ = (codeAt [1, 1] (bodyOf Tryd.f91))) h
    (fun e H h => RCode.join (by kernel_rfl : (codeAt [1, 1] (bodyOf Tryd.f91)) = .seq (codeAt [1, 1, 0] (bodyOf Tryd.f91)) (codeAt [1, 1, 1] (bodyOf Tryd.f91))) ((c91_2 e H (fun H_44 => m91_1 H_44 Q) Q h).mono (mkK_mono (fun e H h => c91_1 e H Q h) (fun _ _ _ h => h) (fun _ _ h => h) (fun _ _ h => h))))
theorem call91 (a0 a1 : Value) (H : Heap) (Q : QT) (h : m91 a0 a1 H Q) : RCalls Tryd.prog 91 [a0, a1] H Q :=
  RCalls.intro (nt := 52) tok Tryd.func91 (by kernel_rfl) (by kernel_rfl) (by kernel_rfl) (of_decide_eq_true (by kernel_rfl)) (c91_0 (envOf [a0, a1]) H Q h)
def hint92 : Nat → List Nat := lookupL []
def m92 (x0 x1 : Value) (H : Heap) (Q : QT) : Prop :=
oNew (Value.cells x0).toList (Value.cells x0).toList.length 24 H fun i_1 H_2 =>
oNew (Value.cells x1).toList (Value.cells x1).toList.length 109 H_2 fun i_3 H_4 =>
oV (vField 0 (ptrTo i_3)) fun t5_5 =>
oV (vLoad ty3 t5_5 H_4) fun t6_6 =>
oV (vInt .geq t6_6 (.int .i64 0)) fun t7_7 =>
oV (gV t7_7 true (vField 3 (ptrTo i_3)) (some undef)) fun t9_8 =>
oV (gV t7_7 true (vLoad ty3 t9_8 H_4) (some undef)) fun t10_9 =>
oV (gV t7_7 true (vInt .geq t10_9 (.int .i64 0)) (some undef)) fun t11_10 =>
oV (vPick t7_7 t11_10 (.bool false)) fun t12_11 =>
oV (gV t12_11 true (vField 7 (ptrTo i_3)) (some undef)) fun t14_12 =>
oV (gV t12_11 true (vLoad ty3 t14_12 H_4) (some undef)) fun t15_13 =>
oV (gV t12_11 true (vInt .geq t15_13 (.int .i64 0)) (some undef)) fun t16_14 =>
oV (vPick t12_11 t16_14 (.bool false)) fun t17_15 =>
oV (gV t17_15 true (vField 1 (ptrTo i_3)) (some undef)) fun t19_16 =>
oV (gV t17_15 true (vLoad ty3 t19_16 H_4) (some undef)) fun t20_17 =>
oV (gV t17_15 true (vInt .geq t20_17 (.int .i64 1)) (some undef)) fun t21_18 =>
oV (vPick t17_15 t21_18 (.bool false)) fun t22_19 =>
oV (gV t22_19 true (vField 1 (ptrTo i_3)) (some undef)) fun t24_20 =>
oV (gV t22_19 true (vLoad ty3 t24_20 H_4) (some undef)) fun t25_21 =>
oV (gV t22_19 true (vField 1 (ptrTo i_1)) (some undef)) fun t26_22 =>
oV (gV t22_19 true (vLoad ty3 t26_22 H_4) (some undef)) fun t27_23 =>
oV (gV t22_19 true (vInt .leq t25_21 t27_23) (some undef)) fun t28_24 =>
oV (vPick t22_19 t28_24 (.bool false)) fun t29_25 =>
oV (gV t29_25 true (vField 2 (ptrTo i_3)) (some undef)) fun t31_26 =>
oV (gV t29_25 true (vLoad ty3 t31_26 H_4) (some undef)) fun t32_27 =>
oV (gV t29_25 true (vInt .geq t32_27 (.int .i64 0)) (some undef)) fun t33_28 =>
oV (vPick t29_25 t33_28 (.bool false)) fun t34_29 =>
oV (gV t34_29 true (vField 2 (ptrTo i_3)) (some undef)) fun t36_30 =>
oV (gV t34_29 true (vLoad ty3 t36_30 H_4) (some undef)) fun t37_31 =>
oV (gV t34_29 true (vField 1 (ptrTo i_1)) (some undef)) fun t38_32 =>
oV (gV t34_29 true (vLoad ty3 t38_32 H_4) (some undef)) fun t39_33 =>
oV (gV t34_29 true (vInt .leq t37_31 t39_33) (some undef)) fun t40_34 =>
oV (vPick t34_29 t40_34 (.bool false)) fun t41_35 =>
oV (gV t41_35 true (vField 4 (ptrTo i_3)) (some undef)) fun t43_36 =>
oV (gV t41_35 true (vLoad ty3 t43_36 H_4) (some undef)) fun t44_37 =>
oV (gV t41_35 true (vInt .geq t44_37 (.int .i64 1)) (some undef)) fun t45_38 =>
oV (vPick t41_35 t45_38 (.bool false)) fun t46_39 =>
oV (gV t46_39 true (vField 4 (ptrTo i_3)) (some undef)) fun t48_40 =>
oV (gV t46_39 true (vLoad ty3 t48_40 H_4) (some undef)) fun t49_41 =>
oV (gV t46_39 true (vInt .leq t49_41 (.int .i64 4)) (some undef)) fun t50_42 =>
oV (vPick t46_39 t50_42 (.bool false)) fun t51_43 =>
oV (gV t51_43 true (vField 6 (ptrTo i_3)) (some undef)) fun t53_44 =>
oV (gV t51_43 true (vLoad ty3 t53_44 H_4) (some undef)) fun t54_45 =>
oV (gV t51_43 true (vInt .geq t54_45 (.int .i64 0)) (some undef)) fun t55_46 =>
oV (vPick t51_43 t55_46 (.bool false)) fun t56_47 =>
oV (gV t56_47 true (vField 6 (ptrTo i_3)) (some undef)) fun t58_48 =>
oV (gV t56_47 true (vLoad ty3 t58_48 H_4) (some undef)) fun t59_49 =>
oV (gV t56_47 true (vField 1 (ptrTo i_1)) (some undef)) fun t60_50 =>
oV (gV t56_47 true (vLoad ty3 t60_50 H_4) (some undef)) fun t61_51 =>
oV (gV t56_47 true (vInt .leq t59_49 t61_51) (some undef)) fun t62_52 =>
oV (vPick t56_47 t62_52 (.bool false)) fun t63_53 =>
oV (gV t63_53 true (vField 4 (ptrTo i_3)) (some undef)) fun t65_54 =>
oV (gV t63_53 true (vLoad ty3 t65_54 H_4) (some undef)) fun t66_55 =>
oV (gV t63_53 true (vInt .neq t66_55 (.int .i64 3)) (some undef)) fun t67_56 =>
oV (gV t63_53 true (some t67_56) (some undef)) fun t68_57 =>
oV (gV t68_57 false (vField 6 (ptrTo i_3)) (some undef)) fun t69_58 =>
oV (gV t68_57 false (vLoad ty3 t69_58 H_4) (some undef)) fun t70_59 =>
oV (gV t68_57 false (vInt .geq t70_59 (.int .i64 1)) (some undef)) fun t71_60 =>
oV (gV t63_53 true (vPick t68_57 (.bool true) t71_60) (some undef)) fun t72_61 =>
oV (vPick t63_53 t72_61 (.bool false)) fun t73_62 =>
Q (.returned t73_62) H_4
theorem c92_0 (env : Env) (H : Heap) (Q : QT) (h : m92 (env 0) (env 1) H Q) :
    RCode Tryd.prog 74 (bodyOf Tryd.f92) env H (mkK (retK T Tryd.f92.results.toList Q) (fun _ _ _ => False) (retK T Tryd.f92.results.toList Q) (fun c H => Q (.panicked c) H)) :=
  RCode.leaf_ (T := T) (X := ext) (hint := hint92) tok xok mixed (by kernel_rfl) h
theorem call92 (a0 a1 : Value) (H : Heap) (Q : QT) (h : m92 a0 a1 H Q) : RCalls Tryd.prog 92 [a0, a1] H Q :=
  RCalls.intro (nt := 74) tok Tryd.func92 (by kernel_rfl) (by kernel_rfl) (by kernel_rfl) (of_decide_eq_true (by kernel_rfl)) (c92_0 (envOf [a0, a1]) H Q h)
def hint65 : Nat → List Nat := lookupL []
def m65_1 (H : Heap) (Q : QT) : Prop :=
Q (.returned (.bool true)) H
theorem c65_1 (env : Env) (H : Heap) (Q : QT) (h : m65_1 H Q) :
    RCode Tryd.prog 18 (codeAt [1, 1] (bodyOf Tryd.f65)) env H (mkK (retK T Tryd.f65.results.toList Q) (fun _ _ _ => False) (retK T Tryd.f65.results.toList Q) (fun c H => Q (.panicked c) H)) :=
  RCode.leaf_ (T := T) (X := ext) (hint := hint65) tok xok mixed (by kernel_rfl) h
def L65_3 (x0 x1 x5 : Value) (H : Heap) (kn : K0T) (Q : QT) : Prop :=
  ∀ env : Env, env 0 = x0 → env 1 = x1 → env 5 = x5 → RLoop Tryd.prog 18 (codeAt [1, 0, 1, 0, 0] (bodyOf Tryd.f65)) env H (mkK (fun _ _ => False) (inK 0 (fun e H => kn H) (fun _ _ _ => False)) (retK T Tryd.f65.results.toList Q) (fun c H => Q (.panicked c) H))
theorem cL65_3 (env : Env) (H : Heap) (kn : K0T) (Q : QT) (h : L65_3 (env 0) (env 1) (env 5) H kn Q) :
    RCode Tryd.prog 18 (codeAt [1, 0, 1] (bodyOf Tryd.f65)) env H (mkK (fun e H => kn H) (fun _ _ _ => False) (retK T Tryd.f65.results.toList Q) (fun c H => Q (.panicked c) H)) :=
  RCode.blk (by kernel_rfl : (codeAt [1, 0, 1] (bodyOf Tryd.f65)) = .block 0 (codeAt [1, 0, 1, 0] (bodyOf Tryd.f65))) (RCode.lp (by kernel_rfl : (codeAt [1, 0, 1, 0] (bodyOf Tryd.f65)) = .loop (codeAt [1, 0, 1, 0, 0] (bodyOf Tryd.f65))) ((h env rfl rfl rfl).mono (mkK_mono (fun _ _ h => h.elim) (fun _ _ _ h => h) (fun _ _ h => h) (fun _ _ h => h))))
def m65_4 (x0 x1 x5 : Value) (H : Heap) (kn : K3T) (kx0 : K0T) (Q : QT) : Prop :=
oV (vLen x1) fun t8_1 =>
oV (vInt .lss x5 t8_1) fun t9_2 =>
condK t9_2 (
oV (vIdxS 1 x1 x5) fun t14_3 =>
oV (vLoad ty22 t14_3 H) fun t15_4 =>
oV (vInt .geq t15_4 x0) fun t17_5 =>
condK t17_5 (
Q (.returned (.bool false)) H) (
oV (vInt .add x5 (.int .i64 1)) fun t11_6 =>
kn x0 x1 t11_6 H)) (
kx0 H)
theorem c65_4 (env : Env) (H : Heap) (kn : K3T) (kx0 : K0T) (Q : QT) (h : m65_4 (env 0) (env 1) (env 5) H kn kx0 Q) :
    RCode Tryd.prog 18 (codeAt [1, 0, 1, 0, 0] (bodyOf Tryd.f65)) env H (mkK (fun e H => kn (e 0) (e 1) (e 5) H) (inK 0 (fun e H => kx0 H) (fun _ _ _ => False)) (retK T Tryd.f65.results.toList Q) (fun c H => Q (.panicked c) H)) :=
  RCode.leaf_ (T := T) (X := ext) (hint := hint65) tok xok mixed (by kernel_rfl) h
theorem L65_3_round (x0 x1 x5 : Value) (H : Heap) (kn : K0T) (Q : QT) (h : m65_4 x0 x1 x5 H (fun y0 y1 y5 H => L65_3 y0 y1 y5 H kn Q) kn Q) : L65_3 x0 x1 x5 H kn Q := by
  intro env h0 h1 h5
  subst h0; subst h1; subst h5
  exact RLoop.round ((c65_4 env H (fun y0 y1 y5 H => L65_3 y0 y1 y5 H kn Q) kn Q h).mono (mkK_mono (fun e H h => h e rfl rfl rfl) (fun _ _ _ h => h) (fun _ _ h => h) (fun _ _ h => h)))
def m65_2 (x0 x1 : Value) (H : Heap) (kn : K0T) (Q : QT) : Prop :=
L65_3 x0 x1 (.int .i64 0) H kn Q
theorem c65_2 (env : Env) (H : Heap) (kn : K0T) (Q : QT) (h : m65_2 (env 0) (env 1) H kn Q) :
    RCode Tryd.prog 18 (codeAt [1, 0] (bodyOf Tryd.f65)) env H (mkK (fun e H => kn H) (fun _ _ _ => False) (retK T Tryd.f65.results.toList Q) (fun c H => Q (.panicked c) H)) :=
  RCode.prefix_ (T := T) (X := ext) (hint := hint65) (hole := (fun e H => L65_3 (e 0) (e 1) (e 5) H kn Q)) tok xok mixed 1 (by kernel_rfl) (by kernel_rfl : codeAt _ _ = (codeAt [1, 0, 1] (bodyOf Tryd.f65))) h
    (fun e H h => (cL65_3 e H kn Q h))
def m65 (x0 x1 : Value) (H : Heap) (Q : QT) : Prop :=
m65_2 x0 x1 H (fun H_7 => m65_1 H_7 Q) Q
theorem c65_0 (env : Env) (H : Heap) (Q : QT) (h : m65 (env 0) (env 1) H Q) :
    RCode Tryd.prog 18 (bodyOf Tryd.f65) env H (mkK (retK T Tryd.f65.results.toList Q) (fun _ _ _ => False) (retK T Tryd.f65.results.toList Q) (fun c H => Q (.panicked c) H)) :=
  RCode.prefix_ (T := T) (X := ext) (hint := hint65) (hole := (fun e H => m65_2 (e 0) (e 1) H (fun H_8 => m65_1 H_8 Q) Q)) tok xok mixed 1 (by kernel_rfl) (by kernel_rfl : codeAt _ _ = (codeAt [1] (bodyOf Tryd.f65))) h
    (fun e H h => RCode.join (by kernel_rfl : (codeAt [1] (bodyOf Tryd.f65)) = .seq (codeAt [1, 0] (bodyOf Tryd.f65)) (codeAt [1, 1] (bodyOf Tryd.f65))) ((c65_2 e H (fun H_9 => m65_1 H_9 Q) Q h).mono (mkK_mono (fun e H h => c65_1 e H Q h) (fun _ _ _ h => h) (fun _ _ h => h) (fun _ _ h => h))))
theorem call65 (a0 a1 : Value) (H : Heap) (Q : QT) (h : m65 a0 a1 H Q) : RCalls Tryd.prog 65 [a0, a1] H Q :=
  RCalls.intro (nt := 18) tok Tryd.func65 (by kernel_rfl) (by kernel_rfl) (by kernel_rfl) (of_decide_eq_true (by kernel_rfl)) (c65_0 (envOf [a0, a1]) H Q h)
def hint54 : Nat → List Nat := lookupL [(6, [0, 1, 2, 3, 4, 5, 6, 7, 8]), (11, [0, 1, 2, 3, 4, 5, 6, 7, 8, 9])]
def m54_2 (H : Heap) (Q : QT) : Prop :=
Q (.returned (.bool true)) H
theorem c54_2 (env : Env) (H : Heap) (Q : QT) (h : m54_2 H Q) :
    RCode Tryd.prog 59 (codeAt [1, 1, 1, 1] (bodyOf Tryd.f54)) env H (mkK (retK T Tryd.f54.results.toList Q) (fun _ _ _ => False) (retK T Tryd.f54.results.toList Q) (fun c H => Q (.panicked c) H)) :=
  RCode.leaf_ (T := T) (X := ext) (hint := hint54) tok xok mixed (by kernel_rfl) h
def L54_4 (x1 x4 : Value) (H : Heap) (kn : K0T) (Q : QT) : Prop :=
  ∀ env : Env, env 1 = x1 → env 4 = x4 → RLoop Tryd.prog 59 (codeAt [1, 1, 1, 0, 1, 0, 0] (bodyOf Tryd.f54)) env H (mkK (fun _ _ => False) (inK 2 (fun e H => kn H) (fun _ _ _ => False)) (retK T Tryd.f54.results.toList Q) (fun c H => Q (.panicked c) H))
theorem cL54_4 (env : Env) (H : Heap) (kn : K0T) (Q : QT) (h : L54_4 (env 1) (env 4) H kn Q) :
    RCode Tryd.prog 59 (codeAt [1, 1, 1, 0, 1] (bodyOf Tryd.f54)) env H (mkK (fun e H => kn H) (fun _ _ _ => False) (retK T Tryd.f54.results.toList Q) (fun c H => Q (.panicked c) H)) :=
  RCode.blk (by kernel_rfl : (codeAt [1, 1, 1, 0, 1] (bodyOf Tryd.f54)) = .block 2 (codeAt [1, 1, 1, 0, 1, 0] (bodyOf Tryd.f54))) (RCode.lp (by kernel_rfl : (codeAt [1, 1, 1, 0, 1, 0] (bodyOf Tryd.f54)) = .loop (codeAt [1, 1, 1, 0, 1, 0, 0] (bodyOf Tryd.f54))) ((h env rfl rfl).mono (mkK_mono (fun _ _ h => h.elim) (fun _ _ _ h => h) (fun _ _ h => h) (fun _ _ h => h))))
def m54_5 (x1 x4 : Value) (H : Heap) (kn : K2T) (kx2 : K0T) (Q : QT) : Prop :=
oV (vField 5 x1) fun t43_1 =>
oV (vLoad ty27 t43_1 H) fun t44_2 =>
oV (vLen t44_2) fun t45_3 =>
oV (vInt .lss x4 t45_3) fun t46_4 =>
condK t46_4 (
oV (vField 0 x1) fun t49_5 =>
oV (vField 0 t49_5) fun t50_6 =>
oV (vLoad ty22 t50_6 H) fun t51_7 =>
oV (vField 5 x1) fun t52_8 =>
oV (vLoad ty27 t52_8 H) fun t53_9 =>
oV (vIdxS 1 t53_9 x4) fun t55_10 =>
oV (vLoad ty52 t55_10 H) fun t56_11 =>
oRC Tryd.prog 65 [t51_7, t56_11] H noP fun v_12 H_13 =>
oV (vUn .not v_12) fun t58_14 =>
condK t58_14 (
Q (.returned (.bool false)) H_13) (
oV (vInt .add x4 (.int .i64 1)) fun t48_15 =>
kn x1 t48_15 H_13)) (
kx2 H)
theorem c54_5 (env : Env) (H : Heap) (kn : K2T) (kx2 : K0T) (Q : QT) (h : m54_5 (env 1) (env 4) H kn kx2 Q) :
    RCode Tryd.prog 59 (codeAt [1, 1, 1, 0, 1, 0, 0] (bodyOf Tryd.f54)) env H (mkK (fun e H => kn (e 1) (e 4) H) (inK 2 (fun e H => kx2 H) (fun _ _ _ => False)) (retK T Tryd.f54.results.toList Q) (fun c H => Q (.panicked c) H)) :=
  RCode.leaf_ (T := T) (X := ext) (hint := hint54) tok xok mixed (by kernel_rfl) h
theorem L54_4_round (x1 x4 : Value) (H : Heap) (kn : K0T) (Q : QT) (h : m54_5 x1 x4 H (fun y1 y4 H => L54_4 y1 y4 H kn Q) kn Q) : L54_4 x1 x4 H kn Q := by
  intro env h1 h4
  subst h1; subst h4
  exact RLoop.round ((c54_5 env H (fun y1 y4 H => L54_4 y1 y4 H kn Q) kn Q h).mono (mkK_mono (fun e H h => h e rfl rfl) (fun _ _ _ h => h) (fun _ _ h => h) (fun _ _ h => h)))
def m54_3 (x1 : Value) (H : Heap) (kn : K0T) (Q : QT) : Prop :=
L54_4 x1 (.int .i64 0) H kn Q
theorem c54_3 (env : Env) (H : Heap) (kn : K0T) (Q : QT) (h : m54_3 (env 1) H kn Q) :
    RCode Tryd.prog 59 (codeAt [1, 1, 1, 0] (bodyOf Tryd.f54)) env H (mkK (fun e H => kn H) (fun _ _ _ => False) (retK T Tryd.f54.results.toList Q) (fun c H => Q (.panicked c) H)) :=
  RCode.prefix_ (T := T) (X := ext) (hint := hint54) (hole := (fun e H => L54_4 (e 1) (e 4) H kn Q)) tok xok mixed 1 (by kernel_rfl) (by kernel_rfl : codeAt _ _ = (codeAt [1, 1, 1, 0, 1] (bodyOf Tryd.f54))) h
    (fun e H h => (cL54_4 e H kn Q h))
def m54_1 (x1 : Value) (H : Heap) (Q : QT) : Prop :=
m54_3 x1 H (fun H_16 => m54_2 H_16 Q) Q
theorem c54_1 (env : Env) (H : Heap) (Q : QT) (h : m54_1 (env 1) H Q) :
    RCode Tryd.prog 59 (codeAt [1, 1, 1] (bodyOf Tryd.f54)) env H (mkK (retK T Tryd.f54.results.toList Q) (fun _ _ _ => False) (retK T Tryd.f54.results.toList Q) (fun c H => Q (.panicked c) H)) :=
  RCode.join (by kernel_rfl : (codeAt [1, 1, 1] (bodyOf Tryd.f54)) = .seq (codeAt [1, 1, 1, 0] (bodyOf Tryd.f54)) (codeAt [1, 1, 1, 1] (bodyOf Tryd.f54))) ((c54_3 env H (fun H_17 => m54_2 H_17 Q) Q h).mono (mkK_mono (fun e H h => c54_2 e H Q h) (fun _ _ _ h => h) (fun _ _ h => h) (fun _ _ h => h)))
def L54_7 (x1 x3 : Value) (H : Heap) (kn : K1T) (Q : QT) : Prop :=
  ∀ env : Env, env 1 = x1 → env 3 = x3 → RLoop Tryd.prog 59 (codeAt [1, 1, 0, 1, 0, 0] (bodyOf Tryd.f54)) env H (mkK (fun _ _ => False) (inK 0 (fun e H => kn (e 1) H) (fun _ _ _ => False)) (retK T Tryd.f54.results.toList Q) (fun c H => Q (.panicked c) H))
theorem cL54_7 (env : Env) (H : Heap) (kn : K1T) (Q : QT) (h : L54_7 (env 1) (env 3) H kn Q) :
    RCode Tryd.prog 59 (codeAt [1, 1, 0, 1] (bodyOf Tryd.f54)) env H (mkK (fun e H => kn (e 1) H) (fun _ _ _ => False) (retK T Tryd.f54.results.toList Q) (fun c H => Q (.panicked c) H)) :=
  RCode.blk (by kernel_rfl : (codeAt [1, 1, 0, 1] (bodyOf Tryd.f54)) = .block 0 (codeAt [1, 1, 0, 1, 0] (bodyOf Tryd.f54))) (RCode.lp (by kernel_rfl : (codeAt [1, 1, 0, 1, 0] (bodyOf Tryd.f54)) = .loop (codeAt [1, 1, 0, 1, 0, 0] (bodyOf Tryd.f54))) ((h env rfl rfl).mono (mkK_mono (fun _ _ h => h.elim) (fun _ _ _ h => h) (fun _ _ h => h) (fun _ _ h => h))))
def m54_8 (x1 x3 : Value) (H : Heap) (kn : K2T) (kx0 : K1T) (Q : QT) : Prop :=
oV (vField 4 x1) fun t27_18 =>
oV (vLoad ty26 t27_18 H) fun t28_19 =>
oV (vLen t28_19) fun t29_20 =>
oV (vInt .lss x3 t29_20) fun t30_21 =>
condK t30_21 (
oV (vField 0 x1) fun t33_22 =>
oV (vLoad ty24 t33_22 H) fun t34_23 =>
oV (vField 4 x1) fun t35_24 =>
oV (vLoad ty26 t35_24 H) fun t36_25 =>
oV (vIdxS 8 t36_25 x3) fun t38_26 =>
oV (vLoad ty109 t38_26 H) fun t39_27 =>
oRC Tryd.prog 92 [t34_23, t39_27] H noP fun v_28 H_29 =>
oV (vUn .not v_28) fun t41_30 =>
condK t41_30 (
Q (.returned (.bool false)) H_29) (
oV (vInt .add x3 (.int .i64 1)) fun t32_31 =>
kn x1 t32_31 H_29)) (
kx0 x1 H)
theorem c54_8 (env : Env) (H : Heap) (kn : K2T) (kx0 : K1T) (Q : QT) (h : m54_8 (env 1) (env 3) H kn kx0 Q) :
    RCode Tryd.prog 59 (codeAt [1, 1, 0, 1, 0, 0] (bodyOf Tryd.f54)) env H (mkK (fun e H => kn (e 1) (e 3) H) (inK 0 (fun e H => kx0 (e 1) H) (fun _ _ _ => False)) (retK T Tryd.f54.results.toList Q) (fun c H => Q (.panicked c) H)) :=
  RCode.leaf_ (T := T) (X := ext) (hint := hint54) tok xok mixed (by kernel_rfl) h
theorem L54_7_round (x1 x3 : Value) (H : Heap) (kn : K1T) (Q : QT) (h : m54_8 x1 x3 H (fun y1 y3 H => L54_7 y1 y3 H kn Q) kn Q) : L54_7 x1 x3 H kn Q := by
  intro env h1 h3
  subst h1; subst h3
  exact RLoop.round ((c54_8 env H (fun y1 y3 H => L54_7 y1 y3 H kn Q) kn Q h).mono (mkK_mono (fun e H h => h e rfl rfl) (fun _ _ _ h => h) (fun _ _ h => h) (fun _ _ h => h)))
def m54_6 (x1 : Value) (H : Heap) (kn : K1T) (Q : QT) : Prop :=
L54_7 x1 (.int .i64 0) H kn Q
theorem c54_6 (env : Env) (H : Heap) (kn : K1T) (Q : QT) (h : m54_6 (env 1) H kn Q) :
    RCode Tryd.prog 59 (codeAt [1, 1, 0] (bodyOf Tryd.f54)) env H (mkK (fun e H => kn (e 1) H) (fun _ _ _ => False) (retK T Tryd.f54.results.toList Q) (fun c H => Q (.panicked c) H)) :=
  RCode.prefix_ (T := T) (X := ext) (hint := hint54) (hole := (fun e H => L54_7 (e 1) (e 3) H kn Q)) tok xok mixed 1 (by kernel_rfl) (by kernel_rfl : codeAt _ _ = (codeAt [1, 1, 0, 1] (bodyOf Tryd.f54))) h
    (fun e H h => (cL54_7 e H kn Q h))
def m54 (x0 : Value) (H : Heap) (Q : QT) : Prop :=
oNew (Value.cells x0).toList (Value.cells x0).toList.length 29 H fun i_32 H_33 =>
oV (vField 0 (ptrTo i_32)) fun t5_34 =>
oV (vLoad ty24 t5_34 H_33) fun t6_35 =>
oRC Tryd.prog 90 [t6_35] H_33 (fun c H => Q (.panicked c) H) fun v_36 H_37 =>
oV (vUn .not v_36) fun t8_38 =>
oV (gV t8_38 false (vField 0 (ptrTo i_32)) (some undef)) fun t10_39 =>
oV (gV t8_38 false (vLoad ty24 t10_39 H_37) (some undef)) fun t11_40 =>
oV (gV t8_38 false (vField 3 (ptrTo i_32)) (some undef)) fun t12_41 =>
oV (gV t8_38 false (vLoad ty25 t12_41 H_37) (some undef)) fun t13_42 =>
letK (fun t14_44 H_45 =>
oV (gV t8_38 false (vUn .not t14_44) (some undef)) fun t15_46 =>
oV (vPick t8_38 (.bool true) t15_46) fun t16_47 =>
oV (gV t16_47 false (vField 5 (ptrTo i_32)) (some undef)) fun t18_48 =>
oV (gV t16_47 false (vLoad ty27 t18_48 H_45) (some undef)) fun t19_49 =>
oV (gV t16_47 false (vLen t19_49) (some undef)) fun t20_50 =>
oV (gV t16_47 false (vField 0 (ptrTo i_32)) (some undef)) fun t21_51 =>
oV (gV t16_47 false (vField 1 t21_51) (some undef)) fun t22_52 =>
oV (gV t16_47 false (vLoad ty3 t22_52 H_45) (some undef)) fun t23_53 =>
oV (gV t16_47 false (vInt .neq t20_50 t23_53) (some undef)) fun t24_54 =>
oV (vPick t16_47 (.bool true) t24_54) fun t25_55 =>
condK t25_55 (
Q (.returned (.bool false)) H_45) (
m54_6 (ptrTo i_32) H_45 (fun y1_56 H_57 => m54_1 y1_56 H_57 Q) Q)) fun k_43 => gK t8_38 false (oRC Tryd.prog 91 [t11_40, t13_42] H_37 (fun c H => Q (.panicked c) H) fun v_58 H_59 =>
k_43 v_58 H_59) (k_43 undef H_37)
theorem c54_0 (env : Env) (H : Heap) (Q : QT) (h : m54 (env 0) H Q) :
    RCode Tryd.prog 59 (bodyOf Tryd.f54) env H (mkK (retK T Tryd.f54.results.toList Q) (fun _ _ _ => False) (retK T Tryd.f54.results.toList Q) (fun c H => Q (.panicked c) H)) :=
  RCode.prefix_ (T := T) (X := ext) (hint := hint54) (hole := (fun e H => m54_6 (e 1) H (fun y1_60 H_61 => m54_1 y1_60 H_61 Q) Q)) tok xok mixed 2 (by kernel_rfl) (by kernel_rfl : codeAt _ _ = (codeAt [1, 1] (bodyOf Tryd.f54))) h
    (fun e H h => RCode.join (by kernel_rfl : (codeAt [1, 1] (bodyOf Tryd.f54)) = .seq (codeAt [1, 1, 0] (bodyOf Tryd.f54)) (codeAt [1, 1, 1] (bodyOf Tryd.f54))) ((c54_6 e H (fun y1_62 H_63 => m54_1 y1_62 H_63 Q) Q h).mono (mkK_mono (fun e H h => c54_1 e H Q h) (fun _ _ _ h => h) (fun _ _ h => h) (fun _ _ h => h))))
theorem call54 (a0 : Value) (H : Heap) (Q : QT) (h : m54 a0 H Q) : RCalls Tryd.prog 54 [a0] H Q :=
  RCalls.intro (nt := 59) tok Tryd.func54 (by kernel_rfl) (by kernel_rfl) (by kernel_rfl) (of_decide_eq_true (by kernel_rfl)) (c54_0 (envOf [a0]) H Q h)
def hint50 : Nat → List Nat := lookupL []
def m50_1 (x3 : Value) (H : Heap) (Q : QT) : Prop :=
oV (vLoad ty29 x3 H) fun t40_1 =>
oRC Tryd.prog 54 [t40_1] H (fun c H => Q (.panicked c) H) fun v_2 H_3 =>
Q (.returned v_2) H_3
theorem c50_1 (env : Env) (H : Heap) (Q : QT) (h : m50_1 (env 3) H Q) :
    RCode Tryd.prog 42 (codeAt [1, 1, 1] (bodyOf Tryd.f50)) env H (mkK (retK T Tryd.f50.results.toList Q) (fun _ _ _ => False) (retK T Tryd.f50.results.toList Q) (fun c H => Q (.panicked c) H)) :=
  RCode.leaf_ (T := T) (X := ext) (hint := hint50) tok xok mixed (by kernel_rfl) h
def L50_3 (x2 x3 x7 : Value) (H : Heap) (kn : K1T) (Q : QT) : Prop :=
  ∀ env : Env, env 2 = x2 → env 3 = x3 → env 7 = x7 → RLoop Tryd.prog 42 (codeAt [1, 1, 0, 1, 0, 0] (bodyOf Tryd.f50)) env H (mkK (fun _ _ => False) (inK 0 (fun e H => kn (e 3) H) (fun _ _ _ => False)) (retK T Tryd.f50.results.toList Q) (fun c H => Q (.panicked c) H))
theorem cL50_3 (env : Env) (H : Heap) (kn : K1T) (Q : QT) (h : L50_3 (env 2) (env 3) (env 7) H kn Q) :
    RCode Tryd.prog 42 (codeAt [1, 1, 0, 1] (bodyOf Tryd.f50)) env H (mkK (fun e H => kn (e 3) H) (fun _ _ _ => False) (retK T Tryd.f50.results.toList Q) (fun c H => Q (.panicked c) H)) :=
  RCode.blk (by kernel_rfl : (codeAt [1, 1, 0, 1] (bodyOf Tryd.f50)) = .block 0 (codeAt [1, 1, 0, 1, 0] (bodyOf Tryd.f50))) (RCode.lp (by kernel_rfl : (codeAt [1, 1, 0, 1, 0] (bodyOf Tryd.f50)) = .loop (codeAt [1, 1, 0, 1, 0, 0] (bodyOf Tryd.f50))) ((h env rfl rfl rfl).mono (mkK_mono (fun _ _ h => h.elim) (fun _ _ _ h => h) (fun _ _ h => h) (fun _ _ h => h))))
def m50_4 (x2 x3 x7 : Value) (H : Heap) (kn : K3T) (kx0 : K1T) (Q : QT) : Prop :=
oV (vField 5 x3) fun t26_4 =>
oV (vLoad ty27 t26_4 H) fun t27_5 =>
oV (vLen t27_5) fun t28_6 =>
oV (vInt .lss x7 t28_6) fun t29_7 =>
condK t29_7 (
oV (vField 5 x3) fun t32_8 =>
oV (vLoad ty27 t32_8 H) fun t33_9 =>
oV (vIdxS 1 t33_9 x7) fun t35_10 =>
oV (vLoad ty52 t35_10 H) fun t36_11 =>
oV (vLen t36_11) fun t37_12 =>
oV (vInt .gtr t37_12 x2) fun t39_13 =>
condK t39_13 (
Q (.returned (.bool false)) H) (
oV (vInt .add x7 (.int .i64 1)) fun t31_14 =>
kn x2 x3 t31_14 H)) (
kx0 x3 H)
theorem c50_4 (env : Env) (H : Heap) (kn : K3T) (kx0 : K1T) (Q : QT) (h : m50_4 (env 2) (env 3) (env 7) H kn kx0 Q) :
    RCode Tryd.prog 42 (codeAt [1, 1, 0, 1, 0, 0] (bodyOf Tryd.f50)) env H (mkK (fun e H => kn (e 2) (e 3) (e 7) H) (inK 0 (fun e H => kx0 (e 3) H) (fun _ _ _ => False)) (retK T Tryd.f50.results.toList Q) (fun c H => Q (.panicked c) H)) :=
  RCode.leaf_ (T := T) (X := ext) (hint := hint50) tok xok mixed (by kernel_rfl) h
theorem L50_3_round (x2 x3 x7 : Value) (H : Heap) (kn : K1T) (Q : QT) (h : m50_4 x2 x3 x7 H (fun y2 y3 y7 H => L50_3 y2 y3 y7 H kn Q) kn Q) : L50_3 x2 x3 x7 H kn Q := by
  intro env h2 h3 h7
  subst h2; subst h3; subst h7
  exact RLoop.round ((c50_4 env H (fun y2 y3 y7 H => L50_3 y2 y3 y7 H kn Q) kn Q h).mono (mkK_mono (fun e H h => h e rfl rfl rfl) (fun _ _ _ h => h) (fun _ _ h => h) (fun _ _ h => h)))
def m50_2 (x2 x3 : Value) (H : Heap) (kn : K1T) (Q : QT) : Prop :=
L50_3 x2 x3 (.int .i64 0) H kn Q
theorem c50_2 (env : Env) (H : Heap) (kn : K1T) (Q : QT) (h : m50_2 (env 2) (env 3) H kn Q) :
    RCode Tryd.prog 42 (codeAt [1, 1, 0] (bodyOf Tryd.f50)) env H (mkK (fun e H => kn (e 3) H) (fun _ _ _ => False) (retK T Tryd.f50.results.toList Q) (fun c H => Q (.panicked c) H)) :=
  RCode.prefix_ (T := T) (X := ext) (hint := hint50) (hole := (fun e H => L50_3 (e 2) (e 3) (e 7) H kn Q)) tok xok mixed 1 (by kernel_rfl) (by kernel_rfl : codeAt _ _ = (codeAt [1, 1, 0, 1] (bodyOf Tryd.f50))) h
    (fun e H h => (cL50_3 e H kn Q h))
def m50 (x0 x1 x2 : Value) (H : Heap) (Q : QT) : Prop :=
oNew (Value.cells x0).toList (Value.cells x0).toList.length 29 H fun i_15 H_16 =>
oV (vField 4 (ptrTo i_15)) fun t8_17 =>
oV (vLoad ty26 t8_17 H_16) fun t9_18 =>
oV (vLen t9_18) fun t10_19 =>
oV (vInt .gtr t10_19 x1) fun t12_20 =>
oV (gV t12_20 false (vField 5 (ptrTo i_15)) (some undef)) fun t14_21 =>
oV (gV t12_20 false (vLoad ty27 t14_21 H_16) (some undef)) fun t15_22 =>
oV (gV t12_20 false (vLen t15_22) (some undef)) fun t16_23 =>
oV (gV t12_20 false (vInt .gtr t16_23 (.int .i64 13)) (some undef)) fun t17_24 =>
oV (vPick t12_20 (.bool true) t17_24) fun t18_25 =>
oV (gV t18_25 false (vField 3 (ptrTo i_15)) (some undef)) fun t20_26 =>
oV (gV t18_25 false (vLoad ty25 t20_26 H_16) (some undef)) fun t21_27 =>
oV (gV t18_25 false (vLen t21_27) (some undef)) fun t22_28 =>
oV (gV t18_25 false (vInt .gtr t22_28 (.int .i64 13)) (some undef)) fun t23_29 =>
oV (vPick t18_25 (.bool true) t23_29) fun t24_30 =>
condK t24_30 (
Q (.returned (.bool false)) H_16) (
m50_2 x2 (ptrTo i_15) H_16 (fun y3_31 H_32 => m50_1 y3_31 H_32 Q) Q)
theorem c50_0 (env : Env) (H : Heap) (Q : QT) (h : m50 (env 0) (env 1) (env 2) H Q) :
    RCode Tryd.prog 42 (bodyOf Tryd.f50) env H (mkK (retK T Tryd.f50.results.toList Q) (fun _ _ _ => False) (retK T Tryd.f50.results.toList Q) (fun c H => Q (.panicked c) H)) :=
  RCode.prefix_ (T := T) (X := ext) (hint := hint50) (hole := (fun e H => m50_2 (e 2) (e 3) H (fun y3_33 H_34 => m50_1 y3_33 H_34 Q) Q)) tok xok mixed 2 (by kernel_rfl) (by kernel_rfl : codeAt _ _ = (codeAt [1, 1] (bodyOf Tryd.f50))) h
    (fun e H h => RCode.join (by kernel_rfl : (codeAt [1, 1] (bodyOf Tryd.f50)) = .seq (codeAt [1, 1, 0] (bodyOf Tryd.f50)) (codeAt [1, 1, 1] (bodyOf Tryd.f50))) ((c50_2 e H (fun y3_35 H_36 => m50_1 y3_35 H_36 Q) Q h).mono (mkK_mono (fun e H h => c50_1 e H Q h) (fun _ _ _ h => h) (fun _ _ h => h) (fun _ _ h => h))))
theorem call50 (a0 a1 a2 : Value) (H : Heap) (Q : QT) (h : m50 a0 a1 a2 H Q) : RCalls Tryd.prog 50 [a0, a1, a2] H Q :=
  RCalls.intro (nt := 42) tok Tryd.func50 (by kernel_rfl) (by kernel_rfl) (by kernel_rfl) (of_decide_eq_true (by kernel_rfl)) (c50_0 (envOf [a0, a1, a2]) H Q h)
def hint75 : Nat → List Nat := lookupL []
def m75 (x0 x1 x2 : Value) (H : Heap) (Q : QT) : Prop :=
oV (vInt .add x1 x2) fun t9_1 =>
oV (vInt .rem t9_1 x0) fun t11_2 =>
Q (.returned t11_2) H
theorem c75_0 (env : Env) (H : Heap) (Q : QT) (h : m75 (env 0) (env 1) (env 2) H Q) :
    RCode Tryd.prog 12 (bodyOf Tryd.f75) env H (mkK (retK T Tryd.f75.results.toList Q) (fun _ _ _ => False) (retK T Tryd.f75.results.toList Q) (fun c H => Q (.panicked c) H)) :=
  RCode.leaf_ (T := T) (X := ext) (hint := hint75) tok xok mixed (by kernel_rfl) h
theorem call75 (a0 a1 a2 : Value) (H : Heap) (Q : QT) (h : m75 a0 a1 a2 H Q) : RCalls Tryd.prog 75 [a0, a1, a2] H Q :=
  RCalls.intro (nt := 12) tok Tryd.func75 (by kernel_rfl) (by kernel_rfl) (by kernel_rfl) (of_decide_eq_true (by kernel_rfl)) (c75_0 (envOf [a0, a1, a2]) H Q h)
def hint76 : Nat → List Nat := lookupL []
def m76_1 (x12 : Value) (H : Heap) (Q : QT) : Prop :=
Q (.returned x12) H
theorem c76_1 (env : Env) (H : Heap) (Q : QT) (h : m76_1 (env 12) H Q) :
    RCode Tryd.prog 94 (codeAt [1, 1, 1, 1, 1] (bodyOf Tryd.f76)) env H (mkK (retK T Tryd.f76.results.toList Q) (fun _ _ _ => False) (retK T Tryd.f76.results.toList Q) (fun c H => Q (.panicked c) H)) :=
  RCode.leaf_ (T := T) (X := ext) (hint := hint76) tok xok mixed (by kernel_rfl) h
def L76_2 (x0 x1 x2 x12 : Value) (H : Heap) (kn : K1T) (Q : QT) : Prop :=
  ∀ env : Env, env 0 = x0 → env 1 = x1 → env 2 = x2 → env 12 = x12 → RLoop Tryd.prog 94 (codeAt [1, 1, 1, 1, 0, 0, 0] (bodyOf Tryd.f76)) env H (mkK (fun _ _ => False) (inK 0 (fun e H => kn (e 12) H) (fun _ _ _ => False)) (retK T Tryd.f76.results.toList Q) (fun c H => Q (.panicked c) H))
theorem cL76_2 (env : Env) (H : Heap) (kn : K1T) (Q : QT) (h : L76_2 (env 0) (env 1) (env 2) (env 12) H kn Q) :
    RCode Tryd.prog 94 (codeAt [1, 1, 1, 1, 0] (bodyOf Tryd.f76)) env H (mkK (fun e H => kn (e 12) H) (fun _ _ _ => False) (retK T Tryd.f76.results.toList Q) (fun c H => Q (.panicked c) H)) :=
  RCode.blk (by kernel_rfl : (codeAt [1, 1, 1, 1, 0] (bodyOf Tryd.f76)) = .block 0 (codeAt [1, 1, 1, 1, 0, 0] (bodyOf Tryd.f76))) (RCode.lp (by kernel_rfl : (codeAt [1, 1, 1, 1, 0, 0] (bodyOf Tryd.f76)) = .loop (codeAt [1, 1, 1, 1, 0, 0, 0] (bodyOf Tryd.f76))) ((h env rfl rfl rfl rfl).mono (mkK_mono (fun _ _ h => h.elim) (fun _ _ _ h => h) (fun _ _ h => h) (fun _ _ h => h))))
def m76 (x0 x1 x2 : Value) (H : Heap) (Q : QT) : Prop :=
oV (vInt .gtr x0 (.int .u64 0)) fun t14_12 =>
oV (gV t14_12 true (some x0) (some undef)) fun t16_13 =>
oV (gV t14_12 true (vInt .lss t16_13 (.int .u64 2147483648)) (some undef)) fun t17_14 =>
oV (vPick t14_12 t17_14 (.bool false)) fun t18_15 =>
oV (gV t18_15 true (some x1) (some undef)) fun t20_16 =>
oV (gV t18_15 true (vInt .lss t20_16 (.int .u64 2147483648)) (some undef)) fun t21_17 =>
oV (vPick t18_15 t21_17 (.bool false)) fun t22_18 =>
oV (gV t22_18 true (some x2) (some undef)) fun t24_19 =>
oV (gV t22_18 true (vInt .lss t24_19 (.int .u64 2147483648)) (some undef)) fun t25_20 =>
oV (vPick t22_18 t25_20 (.bool false)) fun t26_21 =>
condK t26_21 (
oV (vInt .mul x1 x2) fun t29_22 =>
oV (vInt .rem t29_22 x0) fun t31_23 =>
Q (.returned t31_23) H) (
oV (vInt .eql x0 (.int .u64 2305843009213693951)) fun t33_24 =>
oV (gV t33_24 true (some x1) (some undef)) fun t35_25 =>
oV (gV t33_24 true (some x0) (some undef)) fun t36_26 =>
oV (gV t33_24 true (vInt .lss t35_25 t36_26) (some undef)) fun t37_27 =>
oV (vPick t33_24 t37_27 (.bool false)) fun t38_28 =>
oV (gV t38_28 true (some x2) (some undef)) fun t40_29 =>
oV (gV t38_28 true (some x0) (some undef)) fun t41_30 =>
oV (gV t38_28 true (vInt .lss t40_29 t41_30) (some undef)) fun t42_31 =>
oV (vPick t38_28 t42_31 (.bool false)) fun t43_32 =>
condK t43_32 (
oV (vInt .shr x1 (.int .u64 31)) fun t45_33 =>
oV (vInt .rem x1 (.int .u64 2147483648)) fun t47_34 =>
oV (vInt .shr x2 (.int .u64 31)) fun t49_35 =>
oV (vInt .rem x2 (.int .u64 2147483648)) fun t51_36 =>
oV (vInt .mul t45_33 t51_36) fun t54_37 =>
oV (vInt .mul t47_34 t49_35) fun t57_38 =>
oV (vInt .add t54_37 t57_38) fun t58_39 =>
oV (vInt .mul (.int .u64 2) t45_33) fun t60_40 =>
oV (vInt .mul t60_40 t49_35) fun t62_41 =>
oV (vInt .shr t58_39 (.int .u64 30)) fun t64_42 =>
oV (vInt .add t62_41 t64_42) fun t65_43 =>
oV (vInt .rem t58_39 (.int .u64 1073741824)) fun t67_44 =>
oV (vInt .shl t67_44 (.int .u64 31)) fun t68_45 =>
oV (vInt .add t65_43 t68_45) fun t69_46 =>
oV (vInt .mul t47_34 t51_36) fun t72_47 =>
oV (vInt .add t69_46 t72_47) fun t73_48 =>
oV (vInt .rem t73_48 x0) fun t75_49 =>
Q (.returned t75_49) H) (
L76_2 x0 x1 x2 (.int .u64 0) H (fun y12_50 H_51 => m76_1 y12_50 H_51 Q) Q))
theorem c76_0 (env : Env) (H : Heap) (Q : QT) (h : m76 (env 0) (env 1) (env 2) H Q) :
    RCode Tryd.prog 94 (bodyOf Tryd.f76) env H (mkK (retK T Tryd.f76.results.toList Q) (fun _ _ _ => False) (retK T Tryd.f76.results.toList Q) (fun c H => Q (.panicked c) H)) :=
  RCode.prefix_ (T := T) (X := ext) (hint := hint76) (hole := (fun e H => L76_2 (e 0) (e 1) (e 2) (e 12) H (fun y12_52 H_53 => m76_1 y12_52 H_53 Q) Q)) tok xok mixed 4 (by kernel_rfl) (by kernel_rfl : codeAt _ _ = (codeAt [1, 1, 1, 1] (bodyOf Tryd.f76))) h
    (fun e H h => RCode.join (by kernel_rfl : (codeAt [1, 1, 1, 1] (bodyOf Tryd.f76)) = .seq (codeAt [1, 1, 1, 1, 0] (bodyOf Tryd.f76)) (codeAt [1, 1, 1, 1, 1] (bodyOf Tryd.f76))) ((cL76_2 e H (fun y12_54 H_55 => m76_1 y12_54 H_55 Q) Q h).mono (mkK_mono (fun e H h => c76_1 e H Q h) (fun _ _ _ h => h) (fun _ _ h => h) (fun _ _ h => h))))
theorem call76 (a0 a1 a2 : Value) (H : Heap) (Q : QT) (h : m76 a0 a1 a2 H Q) : RCalls Tryd.prog 76 [a0, a1, a2] H Q :=
  RCalls.intro (nt := 94) tok Tryd.func76 (by kernel_rfl) (by kernel_rfl) (by kernel_rfl) (of_decide_eq_true (by kernel_rfl)) (c76_0 (envOf [a0, a1, a2]) H Q h)
end Go.Proofs.YtchhpagkdaaglaaDoor.SL
end

section
set_option linter.unusedVariables false
set_option linter.unusedSimpArgs false
set_option maxRecDepth 100000
namespace Go.Proofs.YtchhpagkdaaglaaDoor.SL
open Go
def hint19 : Nat → List Nat := lookupL []
def m19 (x0 : Value) (H : Heap) (Q : QT) : Prop :=
oNew (Value.cells ty29.zero).toList (Value.cells ty29.zero).toList.length 29 H fun i_1 H_2 =>
oV (vNil x0) fun t4_3 =>
oV (vField 0 t4_3) fun t5_4 =>
oV (vLoad ty29 t5_4 H_2) fun t6_5 =>
oHeap (vStore ty29 (ptrTo i_1) t6_5 H_2) fun H_6 =>
retM ((vLoad ty29 (ptrTo i_1) H_6).bind fun v => (some []).map (v :: ·)) Q H_6
theorem c19_0 (env : Env) (H : Heap) (Q : QT) (h : m19 (env 0) H Q) :
    RCode Tryd.prog 7 (bodyOf Tryd.f19) env H (mkK (retK T Tryd.f19.results.toList Q) (fun _ _ _ => False) (retK T Tryd.f19.results.toList Q) (fun c H => Q (.panicked c) H)) :=
  RCode.leaf_ (T := T) (X := ext) (hint := hint19) tok xok mixed (by kernel_rfl) h
theorem call19 (a0 : Value) (H : Heap) (Q : QT) (h : m19 a0 H Q) : RCalls Tryd.prog 19 [a0] H Q :=
  RCalls.intro (nt := 7) tok Tryd.func19 (by kernel_rfl) (by kernel_rfl) (by kernel_rfl) (of_decide_eq_true (by kernel_rfl)) (c19_0 (envOf [a0]) H Q h)
end Go.Proofs.YtchhpagkdaaglaaDoor.SL
end

section
set_option linter.unusedVariables false
set_option linter.unusedSimpArgs false
namespace Go.Proofs.YtchhpagkdaaglaaDoor.SL
open Go

def expo (p : Int) : Int := if p = 31 then 5 else if p = 127 then 7 else if p = 8191 then 13 else if p = 131071 then 17 else if p = 524287 then 19 else if p = 2147483647 then 31 else if p = 2305843009213693951 then 61 else 0
def Supp (p : Int) : Prop := p = 31 ∨ p = 127 ∨ p = 8191 ∨ p = 131071 ∨ p = 524287 ∨ p = 2147483647 ∨ p = 2305843009213693951
instance (p : Int) : Decidable (Supp p) := by unfold Supp; infer_instance
theorem expo_pos (p : Int) : 0 < expo p ↔ Supp p := by
  unfold expo Supp
  repeat' split
  all_goals (first | omega | simp_all)
theorem Supp.pos {p : Int} (h : Supp p) : 31 ≤ p ∧ p ≤ 2305843009213693951 := by
  unfold Supp at h
  omega
/-- It gives x; what is known stays. -/
def Grow (x : Value) (H : Heap) : Ending → Heap → Prop := Ret fun v H' => v = x ∧ Le H H'
theorem oRC_grow {P : Program} {f : FuncId} {args : List Value} {H : Heap} {p : List PanicEntry → Heap → Prop} {k : Value → Heap → Prop} {x : Value} (h : RCalls P f args H (Grow x H)) (hk : ∀ H', Le H H' → k x H') : oRC P f args H p k :=
  oRC_ret h fun v H' hv => by
    obtain ⟨rfl, hl⟩ := hv
    exact hk _ hl
theorem exponent_spec (H : Heap) (p : Int) : RCalls Tryd.prog 141 [.int .u64 p] H (Grow (.int .i64 (expo p)) H) := by
  apply call141
  unfold m141
  refine oRC_ret (R := fun v H' => ∃ i, H i = none ∧ v = .slice (some ⟨i, 0, none⟩) 7 7 ∧ H' = hins H i (.cells [.int .i64 5, .int .i64 7, .int .i64 13, .int .i64 17, .int .i64 19, .int .i64 31, .int .i64 61] 7 3 true)) (call149 _ _ ?_) ?_
  · show oNew [.int .i64 5, .int .i64 7, .int .i64 13, .int .i64 17, .int .i64 19, .int .i64 31, .int .i64 61] 7 3 H _
    intro i hi
    exact ⟨i, hi, rfl, rfl⟩
  rintro v H' ⟨i, hi, rfl, rfl⟩
  unfold m141_2
  have hle := Le.ins (H := H) (i := i) (.cells [.int .i64 5, .int .i64 7, .int .i64 13, .int .i64 17, .int .i64 19, .int .i64 31, .int .i64 61] 7 3 true) hi
  generalize hH : hins H i (.cells [.int .i64 5, .int .i64 7, .int .i64 13, .int .i64 17, .int .i64 19, .int .i64 31, .int .i64 61] 7 3 true) = H' at hle ⊢
  generalize hkn : (fun H_14 => m141_1 H_14 (Grow (.int .i64 (expo p)) H)) = kn
  have round : ∀ (j : Nat) (q m : Int), j < 7 → ([5, 7, 13, 17, 19, 31, 61] : List Int)[j]? = some q → 0 ≤ q → q ≤ 64 → IntKind.u64.wrap (IntKind.u64.wrap (1 * 2 ^ (min q.toNat 64)) - 1) = m → (p = m → expo p = q) →
      (p ≠ m → L141_3 (.int .u64 p) (.slice (some ⟨i, 0, none⟩) 7 7) (.int .i64 ((j : Int) + 1)) H' kn (Grow (.int .i64 (expo p)) H)) → L141_3 (.int .u64 p) (.slice (some ⟨i, 0, none⟩) 7 7) (.int .i64 j) H' kn (Grow (.int .i64 (expo p)) H) := by
    intro j q m hj hq hq0 hq1 hm he hn
    apply L141_3_round
    unfold m141_4
    simp only [vLen_slice, oV_some, vInt_lss]
    refine condK_dec (fun _ => ?_) (fun h => absurd (by omega) h)
    have hx : vIdxS 1 (.slice (some ⟨i, 0, none⟩) 7 7) (.int .i64 j) = some (.pointer (some ⟨i, j, none⟩)) := by
      simp only [vIdxS]
      rw [if_pos (by omega)]
      simp
    have hl : vLoad ty3 (.pointer (some ⟨i, j, none⟩)) H' = some (.int .i64 q) := by
      subst hH
      simp only [vLoad, hins_self]
      show ([5, 7, 13, 17, 19, 31, 61].map (Value.int .i64))[j]? = _
      rw [List.getElem?_map, hq]
      rfl
    simp only [hx, hl, oV_some, vConv_int, vInt_shl, wrap_u64 hq0 (by omega)]
    rw [if_neg (by omega)]
    simp only [oV_some, vInt_sub, vInt_eql, vInt_add, IntKind.bits]
    rw [hm]
    refine condK_dec (fun h => ⟨by rw [he h], hle⟩) (fun h => ?_)
    rw [wrap_i64 (by omega) (by omega)]
    exact hn h
  refine round 0 5 31 (by omega) rfl (by omega) (by omega) (by decide) (fun e => by subst e; rfl) fun h0 => ?_
  refine round 1 7 127 (by omega) rfl (by omega) (by omega) (by decide) (fun e => by subst e; rfl) fun h1 => ?_
  refine round 2 13 8191 (by omega) rfl (by omega) (by omega) (by decide) (fun e => by subst e; rfl) fun h2 => ?_
  refine round 3 17 131071 (by omega) rfl (by omega) (by omega) (by decide) (fun e => by subst e; rfl) fun h3 => ?_
  refine round 4 19 524287 (by omega) rfl (by omega) (by omega) (by decide) (fun e => by subst e; rfl) fun h4 => ?_
  refine round 5 31 2147483647 (by omega) rfl (by omega) (by omega) (by decide) (fun e => by subst e; rfl) fun h5 => ?_
  refine round 6 61 2305843009213693951 (by omega) rfl (by omega) (by omega) (by decide) (fun e => by subst e; rfl) fun h6 => ?_
  apply L141_3_round
  unfold m141_4
  simp only [vLen_slice, oV_some, vInt_lss]
  refine condK_dec (fun h => absurd h (by decide)) (fun _ => ?_)
  subst hkn
  exact ⟨by simp [expo, h0, h1, h2, h3, h4, h5, h6], hle⟩
theorem supported_spec (H : Heap) (p : Int) : RCalls Tryd.prog 116 [.int .u64 p] H (Grow (.bool (decide (Supp p))) H) := by
  apply call116
  unfold m116
  refine oRC_grow (exponent_spec H p) fun H' hle => ?_
  simp only [vInt_gtr, oV_some]
  refine ⟨?_, hle⟩
  congr 1
  exact decide_eq_decide.2 (expo_pos p)
theorem radd_spec (H : Heap) {p a b : Int} (hp : 0 < p) (ha : 0 ≤ a) (hb : 0 ≤ b) (h : a + b ≤ 18446744073709551615) : RCalls Tryd.prog 75 [.int .u64 p, .int .u64 a, .int .u64 b] H (Val (.int .u64 ((a + b) % p)) H) := by
  apply call75
  unfold m75
  simp only [vInt_add, oV_some, vInt_rem, wrap_u64 (by omega : 0 ≤ a + b) h]
  rw [if_neg (by omega), oV_some, Int.tmod_eq_emod_of_nonneg (by omega)]
  exact ⟨rfl, rfl⟩
theorem mul_bounds {a b m : Int} (ha : 0 ≤ a) (hb : 0 ≤ b) (ham : a ≤ m) (hbm : b ≤ m) : 0 ≤ a * b ∧ a * b ≤ m * m :=
  ⟨Int.mul_nonneg ha hb, Int.mul_le_mul ham hbm hb (by omega)⟩
theorem split_mul (a1 a0 b1 b0 : Int) : (a1 * 2147483648 + a0) * (b1 * 2147483648 + b0) = (a1 * b1) * 4611686018427387904 + (a1 * b0 + a0 * b1) * 2147483648 + a0 * b0 := by
  rw [Int.add_mul, Int.mul_add, Int.mul_add]
  have e1 : a1 * 2147483648 * (b1 * 2147483648) = (a1 * b1) * 4611686018427387904 := by
    rw [Int.mul_assoc, Int.mul_left_comm 2147483648, ← Int.mul_assoc]
    rfl
  have e2 : a1 * 2147483648 * b0 = (a1 * b0) * 2147483648 := by rw [Int.mul_right_comm]
  have e3 : a0 * (b1 * 2147483648) = (a0 * b1) * 2147483648 := by rw [Int.mul_assoc]
  rw [e1, e2, e3, Int.add_mul]
  omega
theorem rmul_spec (H : Heap) {p a b : Int} (hp : Supp p) (ha : 0 ≤ a) (hap : a < p) (hb : 0 ≤ b) (hbp : b < p) : RCalls Tryd.prog 76 [.int .u64 p, .int .u64 a, .int .u64 b] H (Val (.int .u64 (a * b % p)) H) := by
  apply call76
  unfold m76
  have hpos := hp.pos
  by_cases hs : p < 2147483648
  · have hab := mul_bounds (m := 2147483647) ha hb (by omega) (by omega)
    simp only [vInt_gtr, oV_some, gV_bool, vInt_lss, vPick_bool, decide_eq_true (show 0 < p by omega), decide_eq_true hs, decide_eq_true (show a < 2147483648 by omega), decide_eq_true (show b < 2147483648 by omega), if_true]
    refine condK_true ?_
    simp only [vInt_mul, oV_some, vInt_rem, wrap_u64 hab.1 (by omega)]
    rw [if_neg (by omega), oV_some, Int.tmod_eq_emod_of_nonneg hab.1]
    exact ⟨rfl, rfl⟩
  · have he : p = 2305843009213693951 := by unfold Supp at hp; omega
    subst he
    simp only [vInt_gtr, oV_some, gV_bool, vInt_lss, vPick_bool, vInt_eql, decide_eq_true (show (0 : Int) < 2305843009213693951 by omega), decide_eq_false hs, decide_eq_true hap, decide_eq_true hbp, decide_true, if_true, Bool.false_eq_true, if_false]
    refine condK_false ?_
    refine condK_true ?_
    have f31 : ∀ x : Int, x.fdiv (2 ^ (min (31 : Int).toNat IntKind.u64.bits)) = x / 2147483648 := fun x => by
      rw [show ((2 : Int) ^ (min (31 : Int).toNat IntKind.u64.bits)) = 2147483648 from by decide]
      exact Int.fdiv_eq_ediv_of_nonneg _ (by omega)
    have f30 : ∀ x : Int, x.fdiv (2 ^ (min (30 : Int).toNat IntKind.u64.bits)) = x / 1073741824 := fun x => by
      rw [show ((2 : Int) ^ (min (30 : Int).toNat IntKind.u64.bits)) = 1073741824 from by decide]
      exact Int.fdiv_eq_ediv_of_nonneg _ (by omega)
    have g31 : ∀ x : Int, x.fdiv 2147483648 = x / 2147483648 := fun x => Int.fdiv_eq_ediv_of_nonneg _ (by omega)
    have g30 : ∀ x : Int, x.fdiv 1073741824 = x / 1073741824 := fun x => Int.fdiv_eq_ediv_of_nonneg _ (by omega)
    have s31 : ((2 : Int) ^ (min (31 : Int).toNat IntKind.u64.bits)) = 2147483648 := by decide
    obtain ⟨a1, ha1⟩ : ∃ x, x = a / 2147483648 := ⟨_, rfl⟩
    obtain ⟨a0, ha0⟩ : ∃ x, x = a % 2147483648 := ⟨_, rfl⟩
    obtain ⟨b1, hb1⟩ : ∃ x, x = b / 2147483648 := ⟨_, rfl⟩
    obtain ⟨b0, hb0⟩ : ∃ x, x = b % 2147483648 := ⟨_, rfl⟩
    have ea : a = a1 * 2147483648 + a0 := by omega
    have eb : b = b1 * 2147483648 + b0 := by omega
    have m1 := mul_bounds (a := a1) (b := b1) (m := 1073741823) (by omega) (by omega) (by omega) (by omega)
    have m0 := mul_bounds (a := a0) (b := b0) (m := 2147483647) (by omega) (by omega) (by omega) (by omega)
    have mx : 0 ≤ a1 * b0 ∧ a1 * b0 ≤ 1073741823 * 2147483647 := ⟨Int.mul_nonneg (by omega) (by omega), Int.mul_le_mul (by omega) (by omega) (by omega) (by omega)⟩
    have my : 0 ≤ a0 * b1 ∧ a0 * b1 ≤ 2147483647 * 1073741823 := ⟨Int.mul_nonneg (by omega) (by omega), Int.mul_le_mul (by omega) (by omega) (by omega) (by omega)⟩
    have key : a * b % 2305843009213693951 = (2 * (a1 * b1) + (a1 * b0 + a0 * b1) / 1073741824 + (a1 * b0 + a0 * b1) % 1073741824 * 2147483648 + a0 * b0) % 2305843009213693951 := by
      rw [ea, eb, split_mul]
      generalize a1 * b1 = A at *
      generalize a1 * b0 + a0 * b1 = C at *
      generalize a0 * b0 = B at *
      omega
    have tm : ∀ x : Int, 0 ≤ x → ∀ y, x.tmod y = x % y := fun x hx y => Int.tmod_eq_emod_of_nonneg hx
    have e2 : 2 * a1 * b1 = 2 * (a1 * b1) := Int.mul_assoc _ _ _
    simp only [vInt_shr, vInt_rem, vInt_mul, vInt_add, vInt_shl, oV_some, show ¬ ((31 : Int) < 0) by omega, show ¬ ((30 : Int) < 0) by omega, show ¬ ((2147483648 : Int) = 0) by omega, show ¬ ((1073741824 : Int) = 0) by omega, show ¬ ((2305843009213693951 : Int) = 0) by omega, if_false, f31, g31, tm a ha, tm b hb, ← ha1, ← ha0, ← hb1, ← hb0,
      wrap_u64 mx.1 (by omega : a1 * b0 ≤ _), wrap_u64 my.1 (by omega : a0 * b1 ≤ _), wrap_u64 (show 0 ≤ a1 * b0 + a0 * b1 by omega) (by omega), wrap_u64 (show 0 ≤ 2 * a1 by omega) (by omega), e2, wrap_u64 (show 0 ≤ 2 * (a1 * b1) by omega) (by omega), f30, g30,
      wrap_u64 (show 0 ≤ 2 * (a1 * b1) + (a1 * b0 + a0 * b1) / 1073741824 by omega) (by omega), tm (a1 * b0 + a0 * b1) (by omega), s31, wrap_u64 (show 0 ≤ (a1 * b0 + a0 * b1) % 1073741824 * 2147483648 by omega) (by omega),
      wrap_u64 (show 0 ≤ 2 * (a1 * b1) + (a1 * b0 + a0 * b1) / 1073741824 + (a1 * b0 + a0 * b1) % 1073741824 * 2147483648 by omega) (by omega), wrap_u64 m0.1 (by omega), wrap_u64 (show 0 ≤ 2 * (a1 * b1) + (a1 * b0 + a0 * b1) / 1073741824 + (a1 * b0 + a0 * b1) % 1073741824 * 2147483648 + a0 * b0 by omega) (by omega),
      tm (2 * (a1 * b1) + (a1 * b0 + a0 * b1) / 1073741824 + (a1 * b0 + a0 * b1) % 1073741824 * 2147483648 + a0 * b0) (by omega)]
    exact ⟨by rw [key], rfl⟩
end Go.Proofs.YtchhpagkdaaglaaDoor.SL
end

section
set_option linter.unusedVariables false
set_option linter.unusedSimpArgs false
namespace Go.Proofs.YtchhpagkdaaglaaDoor.SL
open Go

theorem and_low (x : Int) (q : Nat) (hq : q ≤ 64) (h0 : 0 ≤ x) (h1 : x ≤ 18446744073709551615) : ((BitVec.ofInt 64 x &&& BitVec.ofInt 64 (2 ^ q - 1)).toNat : Int) = x % 2 ^ q := by
  obtain ⟨n, rfl⟩ := Int.eq_ofNat_of_zero_le h0
  have e2 : ((2 : Int) ^ q - 1) = ((2 ^ q - 1 : Nat) : Int) := by
    have : 0 < 2 ^ q := Nat.pow_pos (by omega)
    rw [Int.ofNat_sub (by omega)]
    simp
  have hlt : 2 ^ q - 1 < 2 ^ 64 := by
    have := Nat.pow_le_pow_right (show 2 > 0 by omega) hq
    omega
  rw [e2, BitVec.ofInt_natCast, BitVec.ofInt_natCast, BitVec.toNat_and, BitVec.toNat_ofNat, BitVec.toNat_ofNat, Nat.mod_eq_of_lt (by omega : n < 2 ^ 64), Nat.mod_eq_of_lt hlt, Nat.and_two_pow_sub_one_eq_mod]
  simp
theorem or_add (a b : Nat) (i : Nat) (ha : a < 2 ^ i) (hb : 2 ^ i * b + a < 2 ^ 64) : ((BitVec.ofInt 64 (a : Int) ||| BitVec.ofInt 64 ((2 ^ i * b : Nat) : Int)).toNat) = 2 ^ i * b + a := by
  rw [BitVec.ofInt_natCast, BitVec.ofInt_natCast, BitVec.toNat_or, BitVec.toNat_ofNat, BitVec.toNat_ofNat, Nat.mod_eq_of_lt (by omega), Nat.mod_eq_of_lt (by omega), Nat.or_comm, ← Nat.two_pow_add_eq_or_of_lt ha]
/-- What fold needs to know of the prime p = 2^q - 1. -/
structure FN (p q : Int) : Prop where
  dvd : (p + 1) ∣ 18446744073709551616
  rng : 5 ≤ q ∧ q ≤ 61
  and : ∀ x : Int, 0 ≤ x → x ≤ 18446744073709551615 → IntKind.u64.wrap ((BitVec.ofInt IntKind.u64.bits x &&& BitVec.ofInt IntKind.u64.bits p).toNat) = x % (p + 1)
  shr : ∀ x : Int, x.fdiv (2 ^ (min q.toNat IntKind.u64.bits)) = x / (p + 1)
  or : ∀ hi lo : Int, 0 ≤ hi → hi ≤ 18446744073709551615 → 0 ≤ lo → lo ≤ 18446744073709551615 → ∃ X : Int, IntKind.u64.wrap ((BitVec.ofInt IntKind.u64.bits (lo / (p + 1)) ||| BitVec.ofInt IntKind.u64.bits (IntKind.u64.wrap (hi * 2 ^ (min (64 - q).toNat IntKind.u64.bits)))).toNat) = X ∧ 0 ≤ X ∧ X ≤ 18446744073709551615 ∧ (hi * 18446744073709551616 + lo) / (p + 1) = hi / (p + 1) * 18446744073709551616 + X
theorem FN.of {p q : Int} (k : Nat) (hk : k ≤ 64) (P R : Nat) (hP : 2 ^ k = P) (hR : 2 ^ (64 - k) = R) (hp : p + 1 = P) (hq : q = k) (hr : 5 ≤ q ∧ q ≤ 61) (hd : ((P : Int) ∣ 18446744073709551616))
    (hX : ∀ hi lo : Int, 0 ≤ hi → hi ≤ 18446744073709551615 → 0 ≤ lo → lo ≤ 18446744073709551615 → hi * R % 18446744073709551616 = R * (hi % P) ∧ lo / P < R ∧ 0 ≤ lo / P ∧ R * (hi % P) + lo / P ≤ 18446744073709551615 ∧ (hi * 18446744073709551616 + lo) / P = hi / P * 18446744073709551616 + (R * (hi % P) + lo / P)) : FN p q := by
  have hPi : ((2 : Int) ^ k) = P := by rw [← hP]; simp
  have hPpos : 0 < P := by rw [← hP]; exact Nat.pow_pos (by omega)
  refine ⟨by rw [hp]; exact hd, hr, fun x h0 h1 => ?_, fun x => ?_, fun hi lo a0 a1 b0 b1 => ?_⟩
  · have : p = 2 ^ k - 1 := by omega
    show IntKind.u64.wrap ((BitVec.ofInt 64 x &&& BitVec.ofInt 64 p).toNat) = x % (p + 1)
    rw [this, and_low x k hk h0 h1, hPi, ← hp, wrap_u64]
    · congr 1; omega
    · exact Int.emod_nonneg _ (by omega)
    · have := Int.emod_lt_of_pos x (show 0 < (p + 1) by omega)
      have hm : x % (p + 1) ≤ x := by
        by_cases h : x < p + 1
        · rw [Int.emod_eq_of_lt h0 h]; omega
        · omega
      omega
  · show x.fdiv (2 ^ (min q.toNat 64)) = x / (p + 1)
    rw [hq, Int.toNat_natCast, Nat.min_eq_left hk, hPi, hp]
    exact Int.fdiv_eq_ediv_of_nonneg _ (by omega)
  · obtain ⟨c1, c2, c3, c4, c5⟩ := hX hi lo a0 a1 b0 b1
    have hRi : ((2 : Int) ^ (min (64 - q).toNat 64)) = R := by
      rw [hq, show ((64 : Int) - (k : Int)).toNat = 64 - k by omega, Nat.min_eq_left (by omega), ← hR]
      simp
    obtain ⟨a, ha⟩ := Int.eq_ofNat_of_zero_le c3
    have hm0 : 0 ≤ hi % (P : Int) := Int.emod_nonneg _ (by omega)
    obtain ⟨b, hb⟩ := Int.eq_ofNat_of_zero_le hm0
    have hor := or_add a b (64 - k) (by rw [hR]; omega) (by
      rw [hR]
      rw [hb, ha] at c4
      have : ((R * b + a : Nat) : Int) ≤ 18446744073709551615 := by
        rw [Int.natCast_add, Int.natCast_mul]
        exact c4
      omega)
    refine ⟨R * (hi % P) + lo / P, ?_, ?_, c4, by rw [hp]; exact c5⟩
    · show IntKind.u64.wrap ((BitVec.ofInt 64 (lo / (p + 1)) ||| BitVec.ofInt 64 (IntKind.u64.wrap (hi * 2 ^ (min (64 - q).toNat 64)))).toNat) = R * (hi % P) + lo / P
      have hin : IntKind.u64.wrap (hi * R) = R * (hi % P) := by rw [wrap_u64_mod, c1]
      rw [hRi, hin, hp, ha, hb]
      have e : ((R : Int) * (b : Int)) = ((2 ^ (64 - k) * b : Nat) : Int) := by rw [hR]; simp
      rw [e, hor]
      have e2 : ((2 ^ (64 - k) * b + a : Nat) : Int) = R * b + a := by rw [hR]; simp
      rw [hb, ha] at c4
      rw [e2, wrap_u64 (by omega) c4, ← e2]
      simp
    · have := Int.mul_nonneg (show 0 ≤ (R : Int) by omega) hm0
      omega
theorem fn_supp {p : Int} (hp : Supp p) : FN p (expo p) := by
  unfold Supp at hp
  rcases hp with rfl | rfl | rfl | rfl | rfl | rfl | rfl
  · exact FN.of 5 (by omega) 32 576460752303423488 (by simp) (by simp) (by simp) (by simp [expo]) (by simp [expo]) (by decide) (by intros; omega)
  · exact FN.of 7 (by omega) 128 144115188075855872 (by simp) (by simp) (by simp) (by simp [expo]) (by simp [expo]) (by decide) (by intros; omega)
  · exact FN.of 13 (by omega) 8192 2251799813685248 (by simp) (by simp) (by simp) (by simp [expo]) (by simp [expo]) (by decide) (by intros; omega)
  · exact FN.of 17 (by omega) 131072 140737488355328 (by simp) (by simp) (by simp) (by simp [expo]) (by simp [expo]) (by decide) (by intros; omega)
  · exact FN.of 19 (by omega) 524288 35184372088832 (by simp) (by simp) (by simp) (by simp [expo]) (by simp [expo]) (by decide) (by intros; omega)
  · exact FN.of 31 (by omega) 2147483648 8589934592 (by simp) (by simp) (by simp) (by simp [expo]) (by simp [expo]) (by decide) (by intros; omega)
  · exact FN.of 61 (by omega) 2305843009213693952 8 (by simp) (by simp) (by simp) (by simp [expo]) (by simp [expo]) (by decide) (by intros; omega)
set_option maxRecDepth 100000 in
theorem len64_spec (H : Heap) {p : Int} (hp : Supp p) : RCalls Tryd.prog 152 [.int .u64 p] H (Val (.int .i64 (expo p)) H) := by
  apply call152
  unfold m152
  unfold Supp at hp
  rcases hp with rfl | rfl | rfl | rfl | rfl | rfl | rfl
  · exact condK_false (condK_false (condK_false (Eq.mpr (by kernel_rfl : _ = (Value.int .i64 5 = Value.int .i64 5 ∧ H = H)) ⟨rfl, rfl⟩)))
  · exact condK_false (condK_false (condK_false (Eq.mpr (by kernel_rfl : _ = (Value.int .i64 7 = Value.int .i64 7 ∧ H = H)) ⟨rfl, rfl⟩)))
  · exact condK_false (condK_false (condK_true (Eq.mpr (by kernel_rfl : _ = (Value.int .i64 13 = Value.int .i64 13 ∧ H = H)) ⟨rfl, rfl⟩)))
  · exact condK_false (condK_true (condK_false (Eq.mpr (by kernel_rfl : _ = (Value.int .i64 17 = Value.int .i64 17 ∧ H = H)) ⟨rfl, rfl⟩)))
  · exact condK_false (condK_true (condK_false (Eq.mpr (by kernel_rfl : _ = (Value.int .i64 19 = Value.int .i64 19 ∧ H = H)) ⟨rfl, rfl⟩)))
  · exact condK_false (condK_true (condK_true (Eq.mpr (by kernel_rfl : _ = (Value.int .i64 31 = Value.int .i64 31 ∧ H = H)) ⟨rfl, rfl⟩)))
  · exact condK_true (condK_true (condK_true (Eq.mpr (by kernel_rfl : _ = (Value.int .i64 61 = Value.int .i64 61 ∧ H = H)) ⟨rfl, rfl⟩)))
theorem width_spec (H : Heap) {p : Int} (hp : Supp p) : RCalls Tryd.prog 150 [.int .u64 p] H (Val (.int .u64 (expo p)) H) := by
  apply call150
  unfold m150
  refine oRC_val (len64_spec H hp) ?_
  have := (fn_supp hp).rng
  simp only [vConv_int, oV_some, wrap_u64 (by omega : 0 ≤ expo p) (by omega)]
  exact ⟨rfl, rfl⟩
theorem fold_loop {H : Heap} {p q : Int} (hq : FN p q) (hp : 31 ≤ p ∧ p ≤ 2305843009213693951) {kn : Value → Value → Heap → Prop} {Q : Ending → Heap → Prop} :
    ∀ (d : Nat) (hi lo : Int), (hi * 18446744073709551616 + lo).toNat ≤ d → 0 ≤ hi → hi ≤ 18446744073709551615 → 0 ≤ lo → lo ≤ 18446744073709551615 →
      (∀ x, 0 ≤ x → x ≤ p → x % p = (hi * 18446744073709551616 + lo) % p → kn (.int .u64 p) (.int .u64 x) H) → L146_2 (.int .u64 p) (.int .u64 hi) (.int .u64 lo) (.int .u64 q) H kn Q := by
  intro d
  induction d with
  | zero =>
    intro hi lo hd h0 h1 l0 l1 hk
    have : hi = 0 := by omega
    have : lo = 0 := by omega
    subst_vars
    apply L146_2_round
    unfold m146_3
    simp only [vInt_neq, oV_some, gV_bool, vPick_bool, vInt_gtr, ne_eq, not_true_eq_false, decide_false, if_true, Bool.false_eq_true, if_false, show ¬ (p < 0) by omega]
    exact condK_false (hk 0 (by omega) (by omega) rfl)
  | succ d ih =>
    intro hi lo hd h0 h1 l0 l1 hk
    apply L146_2_round
    unfold m146_3
    simp only [vInt_neq, oV_some, gV_bool]
    by_cases hz : hi = 0 ∧ lo ≤ p
    · obtain ⟨rfl, hl⟩ := hz
      simp only [ne_eq, not_true_eq_false, decide_false, if_true, oV_some, vInt_gtr, vPick_bool, Bool.false_eq_true, if_false, show ¬ (p < lo) by omega]
      exact condK_false (hk lo l0 hl (by simp))
    · have hc : ∀ A B : Prop, A → oV (if decide (hi ≠ 0) = false then some (Value.int .u64 lo) else some undef) (fun t16 => oV (if decide (hi ≠ 0) = false then some (Value.int .u64 p) else some undef) fun t17 =>
          oV (if decide (hi ≠ 0) = false then vInt .gtr t16 t17 else some undef) fun t18 => oV (vPick (.bool (decide (hi ≠ 0))) (.bool true) t18) fun t19 => condK t19 A B) := by
        intro A B hA
        by_cases he : hi = 0
        · simp only [he, ne_eq, not_true_eq_false, decide_false, if_true, oV_some, vInt_gtr, vPick_bool, Bool.false_eq_true, if_false, show p < lo by omega, decide_true]
          exact condK_true hA
        · simp only [he, ne_eq, not_false_eq_true, decide_true, if_true, oV_some, vPick_bool, Bool.true_eq_false, if_false]
          exact condK_true hA
      apply hc
      have hr := hq.rng
      obtain ⟨X, hX, x0, x1, hN⟩ := hq.or hi lo h0 h1 l0 l1
      have ew : IntKind.u64.wrap (64 - q) = 64 - q := wrap_u64 (by omega) (by omega)
      simp only [vInt_and, vInt_shr, vInt_sub, vInt_shl, vInt_or, vInt_add, oV_some, hq.and lo l0 l1, hq.shr, ew, if_neg (show ¬ (q < 0) by omega), if_neg (show ¬ (64 - q < 0) by omega), hX]
      have hP : 0 < p + 1 := by omega
      have hm0 := Int.emod_nonneg lo (show p + 1 ≠ 0 by omega)
      have hm1 := Int.emod_lt_of_pos lo hP
      have hNm : (hi * 18446744073709551616 + lo) % (p + 1) = lo % (p + 1) := by
        obtain ⟨c, hc⟩ := hq.dvd
        rw [hc, Int.mul_left_comm, Int.add_comm, Int.add_mul_emod_self_left]
      have hdiv := Int.mul_ediv_add_emod (hi * 18446744073709551616 + lo) (p + 1)
      rw [hN, hNm] at hdiv
      have hh0 : 0 ≤ hi / (p + 1) := Int.ediv_nonneg h0 (by omega)
      have hh1 : hi / (p + 1) ≤ hi := Int.ediv_le_self _ h0
      have hh2 : hi / (p + 1) ≤ 18446744073709551615 / 32 := by
        have h1 := Int.mul_ediv_add_emod hi (p + 1)
        have h2 := Int.emod_nonneg hi (show p + 1 ≠ 0 by omega)
        have h3 : 32 * (hi / (p + 1)) ≤ (p + 1) * (hi / (p + 1)) := Int.mul_le_mul_of_nonneg_right (by omega) hh0
        omega
      simp only [vAdd64, if_pos (show 0 ≤ X ∧ 0 ≤ lo % (p + 1) ∧ (0 : Int) ≤ 0 ∧ (0 : Int) ≤ 1 by omega), oV_some, vExtract_tuple]
      try simp only [List.getElem?_toArray, List.getElem?_cons_zero, List.getElem?_cons_succ, oV_some, vInt_add]
      have hlt64 : lo % (p + 1) ≤ lo := by
        have h1 := Int.mul_ediv_add_emod lo (p + 1)
        have h2 := Int.ediv_nonneg l0 (show 0 ≤ p + 1 by omega)
        have h3 := Int.mul_nonneg (show 0 ≤ p + 1 by omega) h2
        omega
      have hcar : (X + lo % (p + 1) + 0) / 18446744073709551616 ≤ 1 := by omega
      rw [wrap_u64 (by omega) (by omega)]
      have hsum : (hi / (p + 1) + (X + lo % (p + 1) + 0) / 18446744073709551616) * 18446744073709551616 + (X + lo % (p + 1) + 0) % 18446744073709551616 = hi / (p + 1) * 18446744073709551616 + X + lo % (p + 1) := by omega
      generalize hM : hi / (p + 1) * 18446744073709551616 + X = M at *
      have hM0 : 0 ≤ M := by omega
      have hlin : (p + 1) * M = p * M + M := by rw [Int.add_mul, Int.one_mul]
      have hbig : p < hi * 18446744073709551616 + lo := by omega
      have hM1 : 1 ≤ M := by
        by_cases hM2 : M = 0
        · subst hM2
          omega
        · omega
      have hpm : p ≤ p * M := by
        have := Int.mul_le_mul_of_nonneg_left hM1 (show 0 ≤ p by omega)
        omega
      refine ih _ _ (by rw [hsum]; omega) (by omega) (by omega) (by omega) (by omega) fun x a0 a1 hx => hk x a0 a1 ?_
      rw [hx, hsum, ← hdiv, hlin, Int.add_assoc, Int.add_comm (p * M), Int.add_mul_emod_self_left]
theorem fold_spec (H : Heap) {p hi lo : Int} (hp : Supp p) (h0 : 0 ≤ hi) (h1 : hi ≤ 18446744073709551615) (l0 : 0 ≤ lo) (l1 : lo ≤ 18446744073709551615) :
    RCalls Tryd.prog 146 [.int .u64 p, .int .u64 hi, .int .u64 lo] H (Val (.int .u64 ((hi * 18446744073709551616 + lo) % p)) H) := by
  apply call146
  unfold m146
  refine oRC_val (width_spec H hp) ?_
  refine fold_loop (fn_supp hp) hp.pos _ hi lo (Nat.le_refl _) h0 h1 l0 l1 fun x a0 a1 hx => ?_
  unfold m146_1
  simp only [vInt_eql, oV_some]
  have := hp.pos
  refine condK_dec (fun h => ⟨?_, rfl⟩) (fun h => ⟨?_, rfl⟩)
  · subst h
    rw [← hx, Int.emod_self]
  · rw [← hx, Int.emod_eq_of_lt a0 (by omega)]
end Go.Proofs.YtchhpagkdaaglaaDoor.SL
end

section
set_option linter.unusedVariables false
set_option linter.unusedSimpArgs false
namespace Go.Proofs.YtchhpagkdaaglaaDoor.SL
open Go

theorem reduce_spec (H : Heap) {p n : Int} (hp : Supp p) (l0 : 0 ≤ n) (l1 : n ≤ 18446744073709551615) : RCalls Tryd.prog 135 [.int .u64 p, .int .u64 n] H (Val (.int .u64 (n % p)) H) := by
  apply call135
  unfold m135
  refine oRC_val (fold_spec H hp (by omega) (by omega) l0 l1) ⟨?_, rfl⟩
  simp
end Go.Proofs.YtchhpagkdaaglaaDoor.SL
end

section
set_option linter.unusedVariables false
set_option linter.unusedSimpArgs false
namespace Go.Proofs.YtchhpagkdaaglaaDoor.SL
open Go

theorem hins_hins (H : Heap) (i : Nat) (c c' : Blk) : hins (hins H i c) i c' = hins H i c' := by
  funext j
  by_cases e : j = i
  · subst e; simp
  · simp [hins_other _ _ e]
structure Dev where
  rd : Int
  fr : Int
  to_ : Int
  at_ : Int
  kd : Int
  k : Int
  of_ : Int
  src : Int
def Dev.cells (d : Dev) : List Value := [.int .i64 d.rd, .int .i64 d.fr, .int .i64 d.to_, .int .i64 d.at_, .int .i64 d.kd, .int .u64 d.k, .int .i64 d.of_, .int .i64 d.src]
def Dev.val (d : Dev) : Value := .agg #[.int .i64 d.rd, .int .i64 d.fr, .int .i64 d.to_, .int .i64 d.at_, .int .i64 d.kd, .int .u64 d.k, .int .i64 d.of_, .int .i64 d.src]
def eDev : El Dev where
  sz := 8
  rel _ d cs := cs = d.cells
  len := by rintro H x cs rfl; rfl
  mono := by rintro H G x cs _ h; exact h
structure Scn where
  P : Int
  N : Int
  T : Int
  bad : List Int
  devs : List Dev
  tapes : List (List Int)
def scnVal (s : Scn) (cv dv tv : Value) : Value := .agg #[.int .u64 s.P, .int .i64 s.N, .int .i64 s.T, cv, dv, tv]
def parVal (s : Scn) : Value := .agg #[.int .u64 s.P, .int .i64 s.N, .int .i64 s.T]
structure ScnOk (H : Heap) (s : Scn) (cv dv tv : Value) : Prop where
  bad : Sl (eInt .i64) H cv s.bad
  devs : Sl eDev H dv s.devs
  tapes : Sl (eSlice (eInt .u64)) H tv s.tapes
theorem ScnOk.mono {H G : Heap} {s : Scn} {cv dv tv : Value} (h : ScnOk H s cv dv tv) (hl : Le H G) : ScnOk G s cv dv tv := ⟨h.bad.mono hl, h.devs.mono hl, h.tapes.mono hl⟩
structure SAt (H : Heap) (i : Nat) (s : Scn) (cv dv tv : Value) : Prop where
  blk : H i = some (.cells [.int .u64 s.P, .int .i64 s.N, .int .i64 s.T, cv, dv, tv] 6 29 true)
section
variable {H G : Heap} {i : Nat} {s : Scn} {cv dv tv : Value}
theorem SAt.mono (h : SAt H i s cv dv tv) (hl : Le H G) : SAt G i s cv dv tv := ⟨hl _ _ h.blk⟩
theorem SAt.p (h : SAt H i s cv dv tv) : vLoad ty22 (.pointer (some ⟨i, 0, none⟩)) H = some (.int .u64 s.P) := by simp only [vLoad, h.blk]; rfl
theorem SAt.n (h : SAt H i s cv dv tv) : vLoad ty3 (.pointer (some ⟨i, 1, none⟩)) H = some (.int .i64 s.N) := by simp only [vLoad, h.blk]; rfl
theorem SAt.c (h : SAt H i s cv dv tv) : vLoad ty25 (.pointer (some ⟨i, 3, none⟩)) H = some cv := by simp only [vLoad, h.blk]; rfl
theorem SAt.ds (h : SAt H i s cv dv tv) : vLoad ty26 (.pointer (some ⟨i, 4, none⟩)) H = some dv := by simp only [vLoad, h.blk]; rfl
theorem SAt.t (h : SAt H i s cv dv tv) : vLoad ty27 (.pointer (some ⟨i, 5, none⟩)) H = some tv := by simp only [vLoad, h.blk]; rfl
theorem SAt.par (h : SAt H i s cv dv tv) : vLoad ty24 (.pointer (some ⟨i, 0, none⟩)) H = some (parVal s) := by simp only [vLoad, h.blk]; rfl
theorem SAt.all (h : SAt H i s cv dv tv) : vLoad ty29 (ptrTo i) H = some (scnVal s cv dv tv) := by simp only [vLoad, ptrTo, h.blk]; rfl
theorem scn_new {k : Nat → Heap → Prop} (s : Scn) (cv dv tv : Value) (hk : ∀ i H', Le H H' → SAt H' i s cv dv tv → k i H') : oNew (scnVal s cv dv tv).cells.toList (scnVal s cv dv tv).cells.toList.length 29 H k := by
  show oNew [.int .u64 s.P, .int .i64 s.N, .int .i64 s.T, cv, dv, tv] 6 29 H _
  intro i hi
  exact hk i _ (Le.ins _ hi) ⟨hins_self _ _ _⟩
structure DAt (H : Heap) (i : Nat) (d : Dev) : Prop where
  blk : H i = some (.cells d.cells 8 109 true)
variable {d : Dev}
theorem DAt.mono (h : DAt H i d) (hl : Le H G) : DAt G i d := ⟨hl _ _ h.blk⟩
theorem DAt.l0 (h : DAt H i d) : vLoad ty3 (.pointer (some ⟨i, 0, none⟩)) H = some (.int .i64 d.rd) := by simp only [vLoad, h.blk]; rfl
theorem DAt.l1 (h : DAt H i d) : vLoad ty3 (.pointer (some ⟨i, 1, none⟩)) H = some (.int .i64 d.fr) := by simp only [vLoad, h.blk]; rfl
theorem DAt.l2 (h : DAt H i d) : vLoad ty3 (.pointer (some ⟨i, 2, none⟩)) H = some (.int .i64 d.to_) := by simp only [vLoad, h.blk]; rfl
theorem DAt.l3 (h : DAt H i d) : vLoad ty3 (.pointer (some ⟨i, 3, none⟩)) H = some (.int .i64 d.at_) := by simp only [vLoad, h.blk]; rfl
theorem DAt.l4 (h : DAt H i d) : vLoad ty3 (.pointer (some ⟨i, 4, none⟩)) H = some (.int .i64 d.kd) := by simp only [vLoad, h.blk]; rfl
theorem DAt.l5 (h : DAt H i d) : vLoad ty22 (.pointer (some ⟨i, 5, none⟩)) H = some (.int .u64 d.k) := by simp only [vLoad, h.blk]; rfl
theorem DAt.l6 (h : DAt H i d) : vLoad ty3 (.pointer (some ⟨i, 6, none⟩)) H = some (.int .i64 d.of_) := by simp only [vLoad, h.blk]; rfl
theorem DAt.l7 (h : DAt H i d) : vLoad ty3 (.pointer (some ⟨i, 7, none⟩)) H = some (.int .i64 d.src) := by simp only [vLoad, h.blk]; rfl
theorem DAt.all (h : DAt H i d) : vLoad ty109 (ptrTo i) H = some d.val := by simp only [vLoad, ptrTo, h.blk]; rfl
theorem dev_new {k : Nat → Heap → Prop} (d : Dev) (hk : ∀ i H', Le H H' → DAt H' i d → k i H') : oNew d.val.cells.toList d.val.cells.toList.length 109 H k := by
  show oNew d.cells 8 109 H _
  intro i hi
  exact hk i _ (Le.ins _ hi) ⟨hins_self _ _ _⟩
/-- A local copy. -/
theorem dev_local {k : Nat → Heap → Prop} (d : Dev) (hk : ∀ i H', Le H H' → DAt H' i d → k i H') : oNew ty109.zero.cells.toList ty109.zero.cells.toList.length 109 H fun i H1 => oHeap (vStore ty109 (ptrTo i) d.val H1) fun H2 => k i H2 := by
  show oNew [.int .i64 0, .int .i64 0, .int .i64 0, .int .i64 0, .int .i64 0, .int .u64 0, .int .i64 0, .int .i64 0] 8 109 H _
  intro i hi
  have e : vStore ty109 (ptrTo i) d.val (hins H i (.cells [.int .i64 0, .int .i64 0, .int .i64 0, .int .i64 0, .int .i64 0, .int .u64 0, .int .i64 0, .int .i64 0] 8 109 true)) = some (hins (hins H i (.cells [.int .i64 0, .int .i64 0, .int .i64 0, .int .i64 0, .int .i64 0, .int .u64 0, .int .i64 0, .int .i64 0] 8 109 true)) i (.cells d.cells 8 109 true)) := by
    simp only [vStore, ptrTo, hins_self]
    rfl
  rw [e, hins_hins]
  exact hk i _ (Le.ins _ hi) ⟨hins_self _ _ _⟩
theorem Sl.dev {v : Value} {ds : List Dev} (h : Sl eDev H v ds) {i : Nat} (hi : i < ds.length) : ∃ q, vIdxS 8 v (.int .i64 i) = some q ∧ vLoad ty109 q H = some ds[i].val := by
  obtain ⟨p, cs, x, hp, hx, hr, ha⟩ := h.at_ .i64 (i := (i : Int)) (by omega) (by omega)
  cases hr
  rw [Int.toNat_natCast, List.getElem?_eq_getElem hi] at hx
  cases hx
  exact ⟨p, hp, ha.loadA rfl rfl⟩
theorem index_loop {v : Value} {xs : List Int} {x : Int} (h : Sl (eInt .i64) H v xs) {kn : Heap → Prop} {Q : Ending → Heap → Prop} (hk : x ∉ xs → kn H) (hq : ∀ j : Nat, x ∈ xs → Q (.returned (.int .i64 j)) H) :
    ∀ (d i : Nat), xs.length - i = d → i ≤ xs.length → x ∉ xs.take i → L145_3 v (.int .i64 x) (.int .i64 xs.length) (.int .i64 i) H kn Q := by
  have hm := h.max
  intro d
  induction d with
  | zero =>
    intro i hd hi hn
    apply L145_3_round
    unfold m145_4
    refine oV_eq (vInt_lss _ _ _) (condK_dec (fun hlt => absurd hlt (by omega)) (fun _ => hk ?_))
    rwa [List.take_of_length_le (by omega)] at hn
  | succ d ih =>
    intro i hd hi hn
    apply L145_3_round
    unfold m145_4
    refine oV_eq (vInt_lss _ _ _) (condK_dec (fun hlt => ?_) (fun hlt => absurd (by omega) hlt))
    have hil : i < xs.length := by omega
    obtain ⟨q, f1, f2⟩ := h.int .i64 (i := (i : Int)) (by omega) (by omega) (ti := ty3) rfl
    have e : xs.getD (i : Int).toNat 0 = xs[i] := by simp [hil]
    rw [e] at f2
    refine oV_eq f1 (oV_eq f2 (oV_eq (vInt_eql _ _ _) (condK_dec (fun he => hq i (he ▸ List.getElem_mem hil)) (fun he => oV_eq (vInt_add _ _ _) ?_))))
    rw [wrap_i64 (by omega) (by omega)]
    refine ih (i + 1) (by omega) (by omega) fun hmem => ?_
    rw [List.take_succ_eq_append_getElem hil] at hmem
    rcases List.mem_append.1 hmem with hmem | hmem
    · exact hn hmem
    · exact he (List.mem_singleton.1 hmem)
theorem contains_spec {v : Value} {xs : List Int} {x : Int} (h : Sl (eInt .i64) H v xs) : RCalls Tryd.prog 134 [v, .int .i64 x] H (Val (.bool (decide (x ∈ xs))) H) := by
  apply call134
  unfold m134
  refine oRC_ret (R := fun r H' => H' = H ∧ ∃ n : Int, r = .int .i64 n ∧ decide (0 ≤ n) = decide (x ∈ xs)) (call145 _ _ _ _ ?_) fun r H' hr => ?_
  · unfold m145 m145_2
    refine oV_eq h.len (index_loop h (fun hn => ?_) (fun j hj => ⟨rfl, j, rfl, ?_⟩) _ 0 rfl (by omega) (by simp))
    · unfold m145_1
      exact ⟨rfl, -1, rfl, by rw [decide_eq_false hn]; rfl⟩
    · rw [decide_eq_true hj, decide_eq_true (by omega)]
  · obtain ⟨rfl, n, rfl, hn⟩ := hr
    refine oV_eq (vInt_geq _ _ _) ?_
    rw [hn]
    exact ⟨rfl, rfl⟩
def word (l : List Int) (i : Int) : Int := if i < 0 ∨ (l.length : Int) ≤ i then 0 else l.getD i.toNat 0
theorem word_spec {v : Value} {l : List Int} (h : Sl (eInt .u64) H v l) (x : Int) : RCalls Tryd.prog 138 [v, .int .i64 x] H (Val (.int .u64 (word l x)) H) := by
  apply call138
  unfold m138
  refine oV_eq (vInt_lss _ _ _) ?_
  by_cases c : x < 0
  · rw [decide_eq_true c]
    refine condK_true ⟨?_, rfl⟩
    rw [word, if_pos (.inl c)]
  · rw [decide_eq_false c]
    refine oV_eq (v := .int .i64 x) rfl (oV_eq (v := v) rfl (oV_eq (v := .int .i64 l.length) h.len (oV_eq (v := .bool (decide ((l.length : Int) ≤ x))) (vInt_geq .i64 x (l.length : Int)) (oV_eq (v := .bool (decide ((l.length : Int) ≤ x))) rfl (condK_dec (fun c2 => ⟨?_, rfl⟩) (fun c2 => ?_))))))
    · rw [word, if_pos (.inr c2)]
    · obtain ⟨q, f1, f2⟩ := h.int .i64 (i := x) (by omega) (by omega) (ti := ty22) rfl
      refine oV_eq f1 (oV_eq f2 ⟨?_, rfl⟩)
      rw [word, if_neg (by omega)]
end
theorem mul64_spec (H : Heap) {x y : Int} (hx0 : 0 ≤ x) (hx : x < 18446744073709551616) (hy0 : 0 ≤ y) (hy : y < 18446744073709551616) :
    RCalls Tryd.prog 147 [.int .u64 x, .int .u64 y] H (Val (.tuple #[.int .u64 (x * y / 18446744073709551616), .int .u64 (x * y % 18446744073709551616)]) H) := by
  apply call147
  unfold m147
  have a32 : ∀ z : Int, 0 ≤ z → z ≤ 18446744073709551615 → vInt .and (.int .u64 z) (.int .u64 4294967295) = some (.int .u64 (z % 4294967296)) := fun z h0 h1 => by
    rw [vInt_and]
    have := and_low z 32 (by decide) h0 h1
    have e : ((2 : Int) ^ 32 - 1) = 4294967295 := by decide
    rw [e] at this
    show some (Value.int .u64 (IntKind.u64.wrap ((BitVec.ofInt 64 z &&& BitVec.ofInt 64 4294967295).toNat : Int))) = _
    rw [this, show ((2 : Int) ^ 32) = 4294967296 by decide, wrap_u64 (by omega) (by omega)]
  have s32 : ∀ z : Int, vInt .shr (.int .u64 z) (.int .u64 32) = some (.int .u64 (z / 4294967296)) := fun z => by
    rw [vInt_shr, if_neg (by decide), show ((2 : Int) ^ (min (32 : Int).toNat IntKind.u64.bits)) = 4294967296 from by decide, Int.fdiv_eq_ediv_of_nonneg _ (by omega)]
  have key := mul64_arith x y hx0 hx hy0 hy
  simp only [↓oV_of (a32 x hx0 (by omega)), ↓oV_of (a32 y hy0 (by omega)), ↓oV_of (s32 x), ↓oV_of (s32 y), ↓hs_mul, ↓hs_add, wrap_u64_mod, ↓oV_of (s32 _), ↓oV_of (a32 ((x / 4294967296 * (y % 4294967296) % 18446744073709551616 + x % 4294967296 * (y % 4294967296) % 18446744073709551616 / 4294967296) % 18446744073709551616) (by omega) (by omega))]
  refine ⟨?_, rfl⟩
  rw [← key]
theorem fmul_spec (H : Heap) {p a b : Int} (hp : Supp p) (ha : 0 ≤ a) (ha1 : a < 18446744073709551616) (hb : 0 ≤ b) (hb1 : b < 18446744073709551616) : RCalls Tryd.prog 139 [.int .u64 p, .int .u64 a, .int .u64 b] H (Val (.int .u64 (a * b % p)) H) := by
  apply call139
  unfold m139
  refine oRC_val (mul64_spec H ha ha1 hb hb1) ?_
  have h0 : 0 ≤ a * b := Int.mul_nonneg ha hb
  have h1 : a * b ≤ 18446744073709551615 * 18446744073709551615 := Int.mul_le_mul (by omega) (by omega) hb (by omega)
  refine oV_eq (v := .int .u64 (a * b / 18446744073709551616)) rfl (oV_eq (v := .int .u64 (a * b % 18446744073709551616)) rfl (oRC_val (fold_spec H hp (by omega) (by omega) (by omega) (by omega)) ⟨?_, rfl⟩))
  congr 2
  omega
theorem fadd_spec (H : Heap) {p a b : Int} (hp : Supp p) (ha : 0 ≤ a) (hb : 0 ≤ b) (h : a + b ≤ 18446744073709551615) : RCalls Tryd.prog 137 [.int .u64 p, .int .u64 a, .int .u64 b] H (Val (.int .u64 ((a + b) % p)) H) := by
  apply call137
  unfold m137
  refine oV_eq (vInt_add _ _ _) ?_
  rw [wrap_u64 (by omega) h]
  refine oRC_val (fold_spec H hp (by omega) (by omega) (by omega) h) ⟨?_, rfl⟩
  simp
end Go.Proofs.YtchhpagkdaaglaaDoor.SL
end
