/- Part 21 of the proof of LawSe: Tab Fn0 Fn1 Fn2 Num NumC NumR AdvA AdvB, one behind the other. -/
import Derived.Test.YtchhpagkdaaglaaDoorSeSlU
import Derived.Test.YtchhpagkdaaglaaDoorSeSlP
import Derived.Test.YtchhpagkdaaglaaDoorProg
import Derived.Laws.MathBits
set_option linter.unusedVariables false
set_option linter.unusedSimpArgs false
namespace Go.Proofs.YtchhpagkdaaglaaDoor.SL

section
set_option maxRecDepth 100000
open Go
abbrev QT := Ending → Heap → Prop
abbrev K0T := Heap → Prop
abbrev K1T := Value → Heap → Prop
abbrev K2T := Value → Value → Heap → Prop
abbrev K3T := Value → Value → Value → Heap → Prop
abbrev K4T := Value → Value → Value → Value → Heap → Prop
abbrev K5T := Value → Value → Value → Value → Value → Heap → Prop
abbrev K6T := Value → Value → Value → Value → Value → Value → Heap → Prop
abbrev K7T := Value → Value → Value → Value → Value → Value → Value → Heap → Prop
abbrev K8T := Value → Value → Value → Value → Value → Value → Value → Value → Heap → Prop
abbrev K9T := Value → Value → Value → Value → Value → Value → Value → Value → Value → Heap → Prop
abbrev K10T := Value → Value → Value → Value → Value → Value → Value → Value → Value → Value → Heap → Prop
abbrev K11T := Value → Value → Value → Value → Value → Value → Value → Value → Value → Value → Value → Heap → Prop
abbrev K12T := Value → Value → Value → Value → Value → Value → Value → Value → Value → Value → Value → Value → Heap → Prop
abbrev K13T := Value → Value → Value → Value → Value → Value → Value → Value → Value → Value → Value → Value → Value → Heap → Prop
abbrev K14T := Value → Value → Value → Value → Value → Value → Value → Value → Value → Value → Value → Value → Value → Value → Heap → Prop
abbrev K15T := Value → Value → Value → Value → Value → Value → Value → Value → Value → Value → Value → Value → Value → Value → Value → Heap → Prop
abbrev K16T := Value → Value → Value → Value → Value → Value → Value → Value → Value → Value → Value → Value → Value → Value → Value → Value → Heap → Prop
abbrev pKZ (Q : QT) : List PanicEntry → Heap → Prop := fun c H => Q (.panicked c) H
def ty3 : TI := ⟨1,8, .int .i64 0, .int .i64,0⟩   -- int
theorem ok3 : TIok Tryd.prog 3 ty3 := ⟨by kernel_rfl, by kernel_rfl, fun h => absurd rfl h⟩
def ty4 : TI := ⟨1,1, .bool false, .bool, 0⟩   -- bool
theorem ok4 : TIok Tryd.prog 4 ty4 := ⟨by kernel_rfl, by kernel_rfl, fun h => absurd rfl h⟩
def ty5 : TI := ⟨1,1, .int .u8 0, .int .u8,0⟩   -- uint8
theorem ok5 : TIok Tryd.prog 5 ty5 := ⟨by kernel_rfl, by kernel_rfl, fun h => absurd rfl h⟩
def ty9 : TI := ⟨1,16, .string ByteArray.empty, .string, 0⟩   -- string
theorem ok9 : TIok Tryd.prog 9 ty9 := ⟨by kernel_rfl, by kernel_rfl, fun h => absurd rfl h⟩
def ty22 : TI := ⟨1,8, .int .u64 0, .int .u64,0⟩   -- uint64
theorem ok22 : TIok Tryd.prog 22 ty22 := ⟨by kernel_rfl, by kernel_rfl, fun h => absurd rfl h⟩
def ty24 : TI := ⟨3,24, .agg #[.int .u64 0, .int .i64 0, .int .i64 0], .struct [(0,22), (1,3), (2,3)], 3⟩   -- api.Params
theorem ok24 : TIok Tryd.prog 24 ty24 := ⟨by kernel_rfl, by kernel_rfl, fun h => ⟨by kernel_rfl, by kernel_rfl, by kernel_rfl, by kernel_rfl, by kernel_rfl⟩⟩
def ty25 : TI := ⟨1,24, .slice none 0 0, .slice 3,0⟩   -- []int
theorem ok25 : TIok Tryd.prog 25 ty25 := ⟨by kernel_rfl, by kernel_rfl, fun h => absurd rfl h⟩
def ty26 : TI := ⟨1,24, .slice none 0 0, .slice 109,0⟩   -- []api.Deviation
theorem ok26 : TIok Tryd.prog 26 ty26 := ⟨by kernel_rfl, by kernel_rfl, fun h => absurd rfl h⟩
def ty27 : TI := ⟨1,24, .slice none 0 0, .slice 52,0⟩   -- [][]uint64
theorem ok27 : TIok Tryd.prog 27 ty27 := ⟨by kernel_rfl, by kernel_rfl, fun h => absurd rfl h⟩
def ty29 : TI := ⟨6,96, .agg #[.int .u64 0, .int .i64 0, .int .i64 0, .slice none 0 0, .slice none 0 0, .slice none 0 0], .struct [(0,24), (3,25), (4,26), (5,27)], 0⟩   -- api.Scenario
theorem ok29 : TIok Tryd.prog 29 ty29 := ⟨by kernel_rfl, by kernel_rfl, fun h => absurd rfl h⟩
def ty30 : TI := ⟨1,24, .slice none 0 0, .slice 46,0⟩   -- []privitylaw14.RoundSpec
theorem ok30 : TIok Tryd.prog 30 ty30 := ⟨by kernel_rfl, by kernel_rfl, fun h => absurd rfl h⟩
def ty32 : TI := ⟨7,120, .agg #[.int .u64 0, .int .i64 0, .int .i64 0, .slice none 0 0, .slice none 0 0, .slice none 0 0, .slice none 0 0], .struct [(0,29), (6,30)], 0⟩   -- privitylaw14.Execution
theorem ok32 : TIok Tryd.prog 32 ty32 := ⟨by kernel_rfl, by kernel_rfl, fun h => absurd rfl h⟩
def ty35 : TI := ⟨1,8, .pointer none, .pointer 98,0⟩   -- *network.Net
theorem ok35 : TIok Tryd.prog 35 ty35 := ⟨by kernel_rfl, by kernel_rfl, fun h => absurd rfl h⟩
def ty36 : TI := ⟨1,8, .int .i64 0, .int .i64,0⟩   -- api.Errno
theorem ok36 : TIok Tryd.prog 36 ty36 := ⟨by kernel_rfl, by kernel_rfl, fun h => absurd rfl h⟩
def ty44 : TI := ⟨1,24, .slice none 0 0, .slice 27,0⟩   -- [][][]uint64
theorem ok44 : TIok Tryd.prog 44 ty44 := ⟨by kernel_rfl, by kernel_rfl, fun h => absurd rfl h⟩
def ty46 : TI := ⟨2,32, .agg #[.bool false, .slice none 0 0], .struct [(0,4), (1,44)], 0⟩   -- privitylaw14.RoundSpec
theorem ok46 : TIok Tryd.prog 46 ty46 := ⟨by kernel_rfl, by kernel_rfl, fun h => absurd rfl h⟩
def ty49 : TI := ⟨1,24, .slice none 0 0, .slice 90,0⟩   -- api.View
theorem ok49 : TIok Tryd.prog 49 ty49 := ⟨by kernel_rfl, by kernel_rfl, fun h => absurd rfl h⟩
def ty52 : TI := ⟨1,24, .slice none 0 0, .slice 22,0⟩   -- []uint64
theorem ok52 : TIok Tryd.prog 52 ty52 := ⟨by kernel_rfl, by kernel_rfl, fun h => absurd rfl h⟩
def ty54 : TI := ⟨7,120, .agg #[.int .u64 0, .int .i64 0, .int .i64 0, .slice none 0 0, .slice none 0 0, .slice none 0 0, .slice none 0 0], .struct [(0,29), (6,52)], 0⟩   -- privitylaw16.Ask
theorem ok54 : TIok Tryd.prog 54 ty54 := ⟨by kernel_rfl, by kernel_rfl, fun h => absurd rfl h⟩
def ty61 : TI := ⟨8,144, .agg #[.int .u64 0, .int .i64 0, .int .i64 0, .slice none 0 0, .slice none 0 0, .slice none 0 0, .slice none 0 0, .slice none 0 0], .struct [(0,29), (6,27), (7,25)], 0⟩   -- privitylaw17.Play
theorem ok61 : TIok Tryd.prog 61 ty61 := ⟨by kernel_rfl, by kernel_rfl, fun h => absurd rfl h⟩
def ty67 : TI := ⟨7,120, .agg #[.int .u64 0, .int .i64 0, .int .i64 0, .slice none 0 0, .slice none 0 0, .slice none 0 0, .slice none 0 0], .struct [(0,29), (6,44)], 0⟩   -- privitylaw18.Dealing
theorem ok67 : TIok Tryd.prog 67 ty67 := ⟨by kernel_rfl, by kernel_rfl, fun h => absurd rfl h⟩
def ty69 : TI := ⟨1,24, .slice none 0 0, .slice 44,0⟩   -- [][][][]uint64
theorem ok69 : TIok Tryd.prog 69 ty69 := ⟨by kernel_rfl, by kernel_rfl, fun h => absurd rfl h⟩
def ty71 : TI := ⟨3,72, .agg #[.slice none 0 0, .slice none 0 0, .slice none 0 0], .struct [(0,69), (1,69), (2,44)], 0⟩   -- api.VSSState
theorem ok71 : TIok Tryd.prog 71 ty71 := ⟨by kernel_rfl, by kernel_rfl, fun h => absurd rfl h⟩
def ty79 : TI := ⟨2,2, .agg #[.int .u8 0, .int .u8 0], .array 2 5,0⟩   -- [2]uint8
theorem ok79 : TIok Tryd.prog 79 ty79 := ⟨by kernel_rfl, by kernel_rfl, fun h => absurd rfl h⟩
def ty90 : TI := ⟨3,40, .agg #[.int .i64 0, .int .i64 0, .slice none 0 0], .struct [(0,3), (1,3), (2,52)], 0⟩   -- api.Event
theorem ok90 : TIok Tryd.prog 90 ty90 := ⟨by kernel_rfl, by kernel_rfl, fun h => absurd rfl h⟩
def ty95 : TI := ⟨1,24, .slice none 0 0, .slice 49,0⟩   -- []api.View
theorem ok95 : TIok Tryd.prog 95 ty95 := ⟨by kernel_rfl, by kernel_rfl, fun h => absurd rfl h⟩
def ty96 : TI := ⟨1,24, .slice none 0 0, .slice 99,0⟩   -- []*tape.Tape
theorem ok96 : TIok Tryd.prog 96 ty96 := ⟨by kernel_rfl, by kernel_rfl, fun h => absurd rfl h⟩
def ty98 : TI := ⟨9,152, .agg #[.int .u64 0, .int .i64 0, .int .i64 0, .slice none 0 0, .slice none 0 0, .slice none 0 0, .int .i64 0, .slice none 0 0, .slice none 0 0], .struct [(0,29), (6,3), (7,95), (8,96)], 0⟩   -- network.Net
theorem ok98 : TIok Tryd.prog 98 ty98 := ⟨by kernel_rfl, by kernel_rfl, fun h => absurd rfl h⟩
def ty99 : TI := ⟨1,8, .pointer none, .pointer 136,0⟩   -- *tape.Tape
theorem ok99 : TIok Tryd.prog 99 ty99 := ⟨by kernel_rfl, by kernel_rfl, fun h => absurd rfl h⟩
def ty101 : TI := ⟨1,24, .slice none 0 0, .slice 104,0⟩   -- []*privityref11.Tape
theorem ok101 : TIok Tryd.prog 101 ty101 := ⟨by kernel_rfl, by kernel_rfl, fun h => absurd rfl h⟩
def ty103 : TI := ⟨9,152, .agg #[.int .u64 0, .int .i64 0, .int .i64 0, .slice none 0 0, .slice none 0 0, .slice none 0 0, .int .i64 0, .slice none 0 0, .slice none 0 0], .struct [(0,29), (6,3), (7,95), (8,101)], 0⟩   -- privityref14.Net
theorem ok103 : TIok Tryd.prog 103 ty103 := ⟨by kernel_rfl, by kernel_rfl, fun h => absurd rfl h⟩
def ty104 : TI := ⟨1,8, .pointer none, .pointer 139,0⟩   -- *privityref11.Tape
theorem ok104 : TIok Tryd.prog 104 ty104 := ⟨by kernel_rfl, by kernel_rfl, fun h => absurd rfl h⟩
def ty109 : TI := ⟨8,64, .agg #[.int .i64 0, .int .i64 0, .int .i64 0, .int .i64 0, .int .i64 0, .int .u64 0, .int .i64 0, .int .i64 0], .struct [(0,3), (1,3), (2,3), (3,3), (4,3), (5,22), (6,3), (7,3)], 8⟩   -- api.Deviation
theorem ok109 : TIok Tryd.prog 109 ty109 := ⟨by kernel_rfl, by kernel_rfl, fun h => ⟨by kernel_rfl, by kernel_rfl, by kernel_rfl, by kernel_rfl, by kernel_rfl⟩⟩
def ty136 : TI := ⟨2,32, .agg #[.slice none 0 0, .int .i64 0], .struct [(0,52), (1,3)], 0⟩   -- tape.Tape
theorem ok136 : TIok Tryd.prog 136 ty136 := ⟨by kernel_rfl, by kernel_rfl, fun h => absurd rfl h⟩
def ty139 : TI := ⟨2,32, .agg #[.slice none 0 0, .int .i64 0], .struct [(0,52), (1,3)], 0⟩   -- privityref11.Tape
theorem ok139 : TIok Tryd.prog 139 ty139 := ⟨by kernel_rfl, by kernel_rfl, fun h => absurd rfl h⟩
def ty140 : TI := ⟨1,24, .slice none 0 0, .slice 4,0⟩   -- []bool
theorem ok140 : TIok Tryd.prog 140 ty140 := ⟨by kernel_rfl, by kernel_rfl, fun h => absurd rfl h⟩
def ty150 : TI := ⟨1,8, .pointer none, .pointer 152,0⟩   -- *vssdeal.phase
theorem ok150 : TIok Tryd.prog 150 ty150 := ⟨by kernel_rfl, by kernel_rfl, fun h => absurd rfl h⟩
def ty152 : TI := ⟨8,128, .agg #[.pointer none, .int .u64 0, .int .i64 0, .int .i64 0, .slice none 0 0, .slice none 0 0, .slice none 0 0, .slice none 0 0], .struct [(0,35), (1,24), (4,44), (5,71)], 0⟩   -- vssdeal.phase
theorem ok152 : TIok Tryd.prog 152 ty152 := ⟨by kernel_rfl, by kernel_rfl, fun h => absurd rfl h⟩
def ty154 : TI := ⟨1,8, .int .u64 0, .int .u64,0⟩   -- uint
theorem ok154 : TIok Tryd.prog 154 ty154 := ⟨by kernel_rfl, by kernel_rfl, fun h => absurd rfl h⟩
def ty182 : TI := ⟨7,56, .agg #[.int .i64 0, .int .i64 0, .int .i64 0, .int .i64 0, .int .i64 0, .int .i64 0, .int .i64 0], .array 7 3,0⟩   -- [7]int
theorem ok182 : TIok Tryd.prog 182 ty182 := ⟨by kernel_rfl, by kernel_rfl, fun h => absurd rfl h⟩
def T : Types := lookupT [(3, ty3), (4, ty4), (5, ty5), (9, ty9), (22, ty22), (24, ty24), (25, ty25), (26, ty26), (27, ty27), (29, ty29), (30, ty30), (32, ty32), (35, ty35), (36, ty36), (44, ty44), (46, ty46), (49, ty49), (52, ty52), (54, ty54), (61, ty61), (67, ty67), (69, ty69), (71, ty71), (79, ty79), (90, ty90), (95, ty95), (96, ty96), (98, ty98), (99, ty99), (101, ty101), (103, ty103), (104, ty104), (109, ty109), (136, ty136), (139, ty139), (140, ty140), (150, ty150), (152, ty152), (154, ty154), (182, ty182)]
abbrev rKZ (f : Func) (Q : QT) := retK T f.results.toList Q
theorem tok : TOk Tryd.prog T := tok_of (tcons ok3 (tcons ok4 (tcons ok5 (tcons ok9 (tcons ok22 (tcons ok24 (tcons ok25 (tcons ok26 (tcons ok27 (tcons ok29 (tcons ok30 (tcons ok32 (tcons ok35 (tcons ok36 (tcons ok44 (tcons ok46 (tcons ok49 (tcons ok52 (tcons ok54 (tcons ok61 (tcons ok67 (tcons ok69 (tcons ok71 (tcons ok79 (tcons ok90 (tcons ok95 (tcons ok96 (tcons ok98 (tcons ok99 (tcons ok101 (tcons ok103 (tcons ok104 (tcons ok109 (tcons ok136 (tcons ok139 (tcons ok140 (tcons ok150 (tcons ok152 (tcons ok154 (tcons ok182 tnil))))))))))))))))))))))))))))))))))))))))
theorem mixed : Tryd.prog.follows .mixedOrders = true := by kernel_rfl
def ext : Externs := extOf 151
theorem xok : XOk Tryd.prog ext := xok_of Tryd.func151 (by kernel_rfl) (by kernel_rfl) (by kernel_rfl) (by kernel_rfl)
end

section
set_option maxRecDepth 100000
open Go
def hint148 : Nat → List Nat := p5Z []
def m148_1 (H : Heap) (Q : QT) : Prop :=
Q (.returned (.int .i64 0)) H
theorem c148_1 (env : Env) (H : Heap) (Q : QT) (h : m148_1 H Q) :
    qUZ Tryd.prog 16 (qRZ [1,1] (qSZ Tryd.f148)) env H (mkK (rKZ Tryd.f148 Q) (fun _ _ _ => False) (rKZ Tryd.f148 Q) (pKZ Q)) :=
  qUZ.leaf_ (T := T) (X := ext) (hint := hint148) tok xok mixed (by kernel_rfl) h
def L148_3 (x0 x5 x6 : Value) (H : Heap) (kn : K0T) (Q : QT) : Prop :=
  ∀ env : Env, env 0 = x0 → env 5 = x5 → env 6 = x6 → RLoop Tryd.prog 16 (qRZ [1,0,1,0,0] (qSZ Tryd.f148)) env H (mkK (fun _ _ => False) (inK 0 (fun e H => kn H) (fun _ _ _ => False)) (rKZ Tryd.f148 Q) (pKZ Q))
theorem cL148_3 (env : Env) (H : Heap) (kn : K0T) (Q : QT) (h : L148_3 (env 0) (env 5) (env 6) H kn Q) :
    qUZ Tryd.prog 16 (qRZ [1,0,1] (qSZ Tryd.f148)) env H (mkK (fun e H => kn H) (fun _ _ _ => False) (rKZ Tryd.f148 Q) (pKZ Q)) :=
  qUZ.blk (by kernel_rfl : (qRZ [1,0,1] (qSZ Tryd.f148)) = .block 0 (qRZ [1,0,1,0] (qSZ Tryd.f148))) (qUZ.lp (by kernel_rfl : (qRZ [1,0,1,0] (qSZ Tryd.f148)) = .loop (qRZ [1,0,1,0,0] (qSZ Tryd.f148))) ((h env rfl rfl rfl).mono (qPZ (fun _ _ h => h.elim) (fun _ _ _ h => h) (fun _ _ h => h) (fun _ _ h => h))))
def m148_4 (x0 x5 x6 : Value) (H : Heap) (kn : K3T) (kx0 : K0T) (Q : QT) : Prop :=
oV (vInt .lss x6 (.int .i64 7)) fun u0 =>
p7Z u0 (
oV (vIndexA false 7 1 x5 x6) fun u1 =>
oV (vInt .shl (.int .u64 1) u1) fun u2 =>
oV (vInt .sub u2 (.int .u64 1)) fun u3 =>
oV (vInt .eql x0 u3) fun u4 =>
p7Z u4 (
Q (.returned u1) H) (
oV (vInt .add x6 (.int .i64 1)) fun u5 =>
kn x0 x5 u5 H)) (
kx0 H)
theorem c148_4 (env : Env) (H : Heap) (kn : K3T) (kx0 : K0T) (Q : QT) (h : m148_4 (env 0) (env 5) (env 6) H kn kx0 Q) :
    qUZ Tryd.prog 16 (qRZ [1,0,1,0,0] (qSZ Tryd.f148)) env H (mkK (fun e H => kn (e 0) (e 5) (e 6) H) (inK 0 (fun e H => kx0 H) (fun _ _ _ => False)) (rKZ Tryd.f148 Q) (pKZ Q)) :=
  qUZ.leaf_ (T := T) (X := ext) (hint := hint148) tok xok mixed (by kernel_rfl) h
theorem L148_3_round (x0 x5 x6 : Value) (H : Heap) (kn : K0T) (Q : QT) (h : m148_4 x0 x5 x6 H (fun y0 y5 y6 H => L148_3 y0 y5 y6 H kn Q) kn Q) : L148_3 x0 x5 x6 H kn Q := by
  intro env h0 h5 h6
  subst h0; subst h5; subst h6
  exact RLoop.round ((c148_4 env H (fun y0 y5 y6 H => L148_3 y0 y5 y6 H kn Q) kn Q h).mono (qPZ (fun e H h => h e rfl rfl rfl) (fun _ _ _ h => h) (fun _ _ h => h) (fun _ _ h => h)))
def m148_2 (x0 : Value) (H : Heap) (kn : K0T) (Q : QT) : Prop :=
oV (qWZ ty182 (.pointer (some ⟨0,0, none⟩)) H) fun u0 =>
L148_3 x0 u0 (.int .i64 0) H kn Q
theorem c148_2 (env : Env) (H : Heap) (kn : K0T) (Q : QT) (h : m148_2 (env 0) H kn Q) :
    qUZ Tryd.prog 16 (qRZ [1,0] (qSZ Tryd.f148)) env H (mkK (fun e H => kn H) (fun _ _ _ => False) (rKZ Tryd.f148 Q) (pKZ Q)) :=
  qUZ.prefix_ (T := T) (X := ext) (hint := hint148) (hole := (fun e H => L148_3 (e 0) (e 5) (e 6) H kn Q)) tok xok mixed 1 (by kernel_rfl) (by kernel_rfl : qRZ _ _ = (qRZ [1,0,1] (qSZ Tryd.f148))) h
    (fun e H h => (cL148_3 e H kn Q h))
def m148 (x0 : Value) (H : Heap) (Q : QT) : Prop :=
m148_2 x0 H (fun u0 => m148_1 u0 Q) Q
theorem c148_0 (env : Env) (H : Heap) (Q : QT) (h : m148 (env 0) H Q) :
    qUZ Tryd.prog 16 (qSZ Tryd.f148) env H (mkK (rKZ Tryd.f148 Q) (fun _ _ _ => False) (rKZ Tryd.f148 Q) (pKZ Q)) :=
  qUZ.prefix_ (T := T) (X := ext) (hint := hint148) (hole := (fun e H => m148_2 (e 0) H (fun H_9 => m148_1 H_9 Q) Q)) tok xok mixed 1 (by kernel_rfl) (by kernel_rfl : qRZ _ _ = (qRZ [1] (qSZ Tryd.f148))) h
    (fun e H h => qUZ.join (by kernel_rfl : (qRZ [1] (qSZ Tryd.f148)) = .seq (qRZ [1,0] (qSZ Tryd.f148)) (qRZ [1,1] (qSZ Tryd.f148))) ((c148_2 e H (fun H_10 => m148_1 H_10 Q) Q h).mono (qPZ (fun e H h => c148_1 e H Q h) (fun _ _ _ h => h) (fun _ _ h => h) (fun _ _ h => h))))
theorem call148 (a0 : Value) (H : Heap) (Q : QT) (h : m148 a0 H Q) : qVZ Tryd.prog 148 [a0] H Q :=
  qVZ.intro (nt := 16) tok Tryd.func148 (by kernel_rfl) (by kernel_rfl) (by kernel_rfl) (of_decide_eq_true (by kernel_rfl)) (c148_0 (envOf [a0]) H Q h)
def hint140 : Nat → List Nat := p5Z []
def m140 (x0 : Value) (H : Heap) (Q : QT) : Prop :=
oRC Tryd.prog 148 [x0] H (pKZ Q) fun u0 u1 =>
oV (vInt .neq u0 (.int .i64 0)) fun u2 =>
Q (.returned u2) u1
theorem c140_0 (env : Env) (H : Heap) (Q : QT) (h : m140 (env 0) H Q) :
    qUZ Tryd.prog 6 (qSZ Tryd.f140) env H (mkK (rKZ Tryd.f140 Q) (fun _ _ _ => False) (rKZ Tryd.f140 Q) (pKZ Q)) :=
  qUZ.leaf_ (T := T) (X := ext) (hint := hint140) tok xok mixed (by kernel_rfl) h
theorem call140 (a0 : Value) (H : Heap) (Q : QT) (h : m140 a0 H Q) : qVZ Tryd.prog 140 [a0] H Q :=
  qVZ.intro (nt := 6) tok Tryd.func140 (by kernel_rfl) (by kernel_rfl) (by kernel_rfl) (of_decide_eq_true (by kernel_rfl)) (c140_0 (envOf [a0]) H Q h)
def hint112 : Nat → List Nat := p5Z []
def m112 (x0 : Value) (H : Heap) (Q : QT) : Prop :=
oNew (Value.cells x0).toList (Value.cells x0).toList.length 24 H fun u0 u1 =>
oV (qYZ 0 (qTZ u0)) fun u2 =>
oV (qWZ ty22 u2 u1) fun u3 =>
oRC Tryd.prog 140 [u3] u1 (pKZ Q) fun u4 u5 =>
oV (gV u4 true (qYZ 1 (qTZ u0)) (some undef)) fun u6 =>
oV (gV u4 true (qWZ ty3 u6 u5) (some undef)) fun u7 =>
oV (gV u4 true (vInt .geq u7 (.int .i64 4)) (some undef)) fun u8 =>
oV (pAZ u4 u8 (.bool false)) fun u9 =>
oV (gV u9 true (qYZ 1 (qTZ u0)) (some undef)) fun u10 =>
oV (gV u9 true (qWZ ty3 u10 u5) (some undef)) fun u11 =>
oV (gV u9 true (vInt .leq u11 (.int .i64 13)) (some undef)) fun u12 =>
oV (pAZ u9 u12 (.bool false)) fun u13 =>
oV (gV u13 true (qYZ 1 (qTZ u0)) (some undef)) fun u14 =>
oV (gV u13 true (qWZ ty3 u14 u5) (some undef)) fun u15 =>
oV (gV u13 true (vConv (.int .u64) u15) (some undef)) fun u16 =>
oV (gV u13 true (qYZ 0 (qTZ u0)) (some undef)) fun u17 =>
oV (gV u13 true (qWZ ty22 u17 u5) (some undef)) fun u18 =>
oV (gV u13 true (vInt .lss u16 u18) (some undef)) fun u19 =>
oV (pAZ u13 u19 (.bool false)) fun u20 =>
oV (gV u20 true (qYZ 2 (qTZ u0)) (some undef)) fun u21 =>
oV (gV u20 true (qWZ ty3 u21 u5) (some undef)) fun u22 =>
oV (gV u20 true (vInt .geq u22 (.int .i64 1)) (some undef)) fun u23 =>
oV (pAZ u20 u23 (.bool false)) fun u24 =>
oV (gV u24 true (qYZ 2 (qTZ u0)) (some undef)) fun u25 =>
oV (gV u24 true (qWZ ty3 u25 u5) (some undef)) fun u26 =>
oV (gV u24 true (qYZ 1 (qTZ u0)) (some undef)) fun u27 =>
oV (gV u24 true (qWZ ty3 u27 u5) (some undef)) fun u28 =>
oV (gV u24 true (vInt .lss u26 u28) (some undef)) fun u29 =>
oV (pAZ u24 u29 (.bool false)) fun u30 =>
oV (gV u30 true (qYZ 2 (qTZ u0)) (some undef)) fun u31 =>
oV (gV u30 true (qWZ ty3 u31 u5) (some undef)) fun u32 =>
oV (gV u30 true (vInt .mul (.int .i64 3) u32) (some undef)) fun u33 =>
oV (gV u30 true (qYZ 1 (qTZ u0)) (some undef)) fun u34 =>
oV (gV u30 true (qWZ ty3 u34 u5) (some undef)) fun u35 =>
oV (gV u30 true (vInt .lss u33 u35) (some undef)) fun u36 =>
oV (pAZ u30 u36 (.bool false)) fun u37 =>
Q (.returned u37) u5
theorem c112_0 (env : Env) (H : Heap) (Q : QT) (h : m112 (env 0) H Q) :
    qUZ Tryd.prog 44 (qSZ Tryd.f112) env H (mkK (rKZ Tryd.f112 Q) (fun _ _ _ => False) (rKZ Tryd.f112 Q) (pKZ Q)) :=
  qUZ.leaf_ (T := T) (X := ext) (hint := hint112) tok xok mixed (by kernel_rfl) h
theorem call112 (a0 : Value) (H : Heap) (Q : QT) (h : m112 a0 H Q) : qVZ Tryd.prog 112 [a0] H Q :=
  qVZ.intro (nt := 44) tok Tryd.func112 (by kernel_rfl) (by kernel_rfl) (by kernel_rfl) (of_decide_eq_true (by kernel_rfl)) (c112_0 (envOf [a0]) H Q h)
def hint82 : Nat → List Nat := p5Z []
def m82_1 (H : Heap) (Q : QT) : Prop :=
Q (.returned (.bool true)) H
theorem c82_1 (env : Env) (H : Heap) (Q : QT) (h : m82_1 H Q) :
    qUZ Tryd.prog 46 (qRZ [1,1,1] (qSZ Tryd.f82)) env H (mkK (rKZ Tryd.f82 Q) (fun _ _ _ => False) (rKZ Tryd.f82 Q) (pKZ Q)) :=
  qUZ.leaf_ (T := T) (X := ext) (hint := hint82) tok xok mixed (by kernel_rfl) h
def L82_3 (x1 x2 x17 x18 x19 : Value) (H : Heap) (kn : K0T) (Q : QT) : Prop :=
  ∀ env : Env, env 1 = x1 → env 2 = x2 → env 17 = x17 → env 18 = x18 → env 19 = x19 → RLoop Tryd.prog 46 (qRZ [1,1,0,1,0,0] (qSZ Tryd.f82)) env H (mkK (fun _ _ => False) (inK 0 (fun e H => kn H) (fun _ _ _ => False)) (rKZ Tryd.f82 Q) (pKZ Q))
theorem cL82_3 (env : Env) (H : Heap) (kn : K0T) (Q : QT) (h : L82_3 (env 1) (env 2) (env 17) (env 18) (env 19) H kn Q) :
    qUZ Tryd.prog 46 (qRZ [1,1,0,1] (qSZ Tryd.f82)) env H (mkK (fun e H => kn H) (fun _ _ _ => False) (rKZ Tryd.f82 Q) (pKZ Q)) :=
  qUZ.blk (by kernel_rfl : (qRZ [1,1,0,1] (qSZ Tryd.f82)) = .block 0 (qRZ [1,1,0,1,0] (qSZ Tryd.f82))) (qUZ.lp (by kernel_rfl : (qRZ [1,1,0,1,0] (qSZ Tryd.f82)) = .loop (qRZ [1,1,0,1,0,0] (qSZ Tryd.f82))) ((h env rfl rfl rfl rfl rfl).mono (qPZ (fun _ _ h => h.elim) (fun _ _ _ h => h) (fun _ _ h => h) (fun _ _ h => h))))
def m82_4 (x1 x2 x17 x18 x19 : Value) (H : Heap) (kn : K5T) (kx0 : K0T) (Q : QT) : Prop :=
oV (vInt .lss x19 x18) fun u0 =>
p7Z u0 (
oV (p1Z 1 x17 x19) fun u1 =>
oV (qWZ ty3 u1 H) fun u2 =>
oV (vInt .lss u2 (.int .i64 1)) fun u3 =>
oV (gV u3 false (some u2) (some undef)) fun u4 =>
oV (gV u3 false (qYZ 1 x2) (some undef)) fun u5 =>
oV (gV u3 false (qWZ ty3 u5 H) (some undef)) fun u6 =>
oV (gV u3 false (vInt .gtr u4 u6) (some undef)) fun u7 =>
oV (pAZ u3 (.bool true) u7) fun u8 =>
oV (gV u8 false (some x19) (some undef)) fun u9 =>
oV (gV u8 false (vInt .gtr u9 (.int .i64 0)) (some undef)) fun u10 =>
oV (gV u8 false (some u10) (some undef)) fun u11 =>
oV (gV u11 true (some x1) (some undef)) fun u12 =>
oV (gV u11 true (some x19) (some undef)) fun u13 =>
oV (gV u11 true (vInt .sub u13 (.int .i64 1)) (some undef)) fun u14 =>
oV (gV u11 true (p1Z 1 u12 u14) (some undef)) fun u15 =>
oV (gV u11 true (qWZ ty3 u15 H) (some undef)) fun u16 =>
oV (gV u11 true (some u2) (some undef)) fun u17 =>
oV (gV u11 true (vInt .geq u16 u17) (some undef)) fun u18 =>
oV (gV u8 false (pAZ u11 u18 (.bool false)) (some undef)) fun u19 =>
oV (pAZ u8 (.bool true) u19) fun u20 =>
p7Z u20 (
Q (.returned (.bool false)) H) (
oV (vInt .add x19 (.int .i64 1)) fun u21 =>
kn x1 x2 x17 x18 u21 H)) (
kx0 H)
theorem c82_4 (env : Env) (H : Heap) (kn : K5T) (kx0 : K0T) (Q : QT) (h : m82_4 (env 1) (env 2) (env 17) (env 18) (env 19) H kn kx0 Q) :
    qUZ Tryd.prog 46 (qRZ [1,1,0,1,0,0] (qSZ Tryd.f82)) env H (mkK (fun e H => kn (e 1) (e 2) (e 17) (e 18) (e 19) H) (inK 0 (fun e H => kx0 H) (fun _ _ _ => False)) (rKZ Tryd.f82 Q) (pKZ Q)) :=
  qUZ.leaf_ (T := T) (X := ext) (hint := hint82) tok xok mixed (by kernel_rfl) h
theorem L82_3_round (x1 x2 x17 x18 x19 : Value) (H : Heap) (kn : K0T) (Q : QT) (h : m82_4 x1 x2 x17 x18 x19 H (fun y1 y2 y17 y18 y19 H => L82_3 y1 y2 y17 y18 y19 H kn Q) kn Q) : L82_3 x1 x2 x17 x18 x19 H kn Q := by
  intro env h1 h2 h17 h18 h19
  subst h1; subst h2; subst h17; subst h18; subst h19
  exact RLoop.round ((c82_4 env H (fun y1 y2 y17 y18 y19 H => L82_3 y1 y2 y17 y18 y19 H kn Q) kn Q h).mono (qPZ (fun e H h => h e rfl rfl rfl rfl rfl) (fun _ _ _ h => h) (fun _ _ h => h) (fun _ _ h => h)))
def m82_2 (x1 x2 : Value) (H : Heap) (kn : K0T) (Q : QT) : Prop :=
oV (vLen x1) fun u0 =>
L82_3 x1 x2 x1 u0 (.int .i64 0) H kn Q
theorem c82_2 (env : Env) (H : Heap) (kn : K0T) (Q : QT) (h : m82_2 (env 1) (env 2) H kn Q) :
    qUZ Tryd.prog 46 (qRZ [1,1,0] (qSZ Tryd.f82)) env H (mkK (fun e H => kn H) (fun _ _ _ => False) (rKZ Tryd.f82 Q) (pKZ Q)) :=
  qUZ.prefix_ (T := T) (X := ext) (hint := hint82) (hole := (fun e H => L82_3 (e 1) (e 2) (e 17) (e 18) (e 19) H kn Q)) tok xok mixed 1 (by kernel_rfl) (by kernel_rfl : qRZ _ _ = (qRZ [1,1,0,1] (qSZ Tryd.f82))) h
    (fun e H h => (cL82_3 e H kn Q h))
def m82 (x0 x1 : Value) (H : Heap) (Q : QT) : Prop :=
oNew (Value.cells x0).toList (Value.cells x0).toList.length 24 H fun u0 u1 =>
oV (qWZ ty24 (qTZ u0) u1) fun u2 =>
oRC Tryd.prog 112 [u2] u1 (pKZ Q) fun u3 u4 =>
oV (vUn .not u3) fun u5 =>
oV (gV u5 false (some x1) (some undef)) fun u6 =>
oV (gV u5 false (vLen u6) (some undef)) fun u7 =>
oV (gV u5 false (qYZ 2 (qTZ u0)) (some undef)) fun u8 =>
oV (gV u5 false (qWZ ty3 u8 u4) (some undef)) fun u9 =>
oV (gV u5 false (vInt .gtr u7 u9) (some undef)) fun u10 =>
oV (pAZ u5 (.bool true) u10) fun u11 =>
p7Z u11 (
Q (.returned (.bool false)) u4) (
m82_2 x1 (qTZ u0) u4 (fun u12 => m82_1 u12 Q) Q)
theorem c82_0 (env : Env) (H : Heap) (Q : QT) (h : m82 (env 0) (env 1) H Q) :
    qUZ Tryd.prog 46 (qSZ Tryd.f82) env H (mkK (rKZ Tryd.f82 Q) (fun _ _ _ => False) (rKZ Tryd.f82 Q) (pKZ Q)) :=
  qUZ.prefix_ (T := T) (X := ext) (hint := hint82) (hole := (fun e H => m82_2 (e 1) (e 2) H (fun H_37 => m82_1 H_37 Q) Q)) tok xok mixed 2 (by kernel_rfl) (by kernel_rfl : qRZ _ _ = (qRZ [1,1] (qSZ Tryd.f82))) h
    (fun e H h => qUZ.join (by kernel_rfl : (qRZ [1,1] (qSZ Tryd.f82)) = .seq (qRZ [1,1,0] (qSZ Tryd.f82)) (qRZ [1,1,1] (qSZ Tryd.f82))) ((c82_2 e H (fun H_38 => m82_1 H_38 Q) Q h).mono (qPZ (fun e H h => c82_1 e H Q h) (fun _ _ _ h => h) (fun _ _ h => h) (fun _ _ h => h))))
theorem call82 (a0 a1 : Value) (H : Heap) (Q : QT) (h : m82 a0 a1 H Q) : qVZ Tryd.prog 82 [a0, a1] H Q :=
  qVZ.intro (nt := 46) tok Tryd.func82 (by kernel_rfl) (by kernel_rfl) (by kernel_rfl) (of_decide_eq_true (by kernel_rfl)) (c82_0 (envOf [a0, a1]) H Q h)
def hint85 : Nat → List Nat := p5Z []
def m85 (x0 x1 : Value) (H : Heap) (Q : QT) : Prop :=
oNew (Value.cells x0).toList (Value.cells x0).toList.length 24 H fun u0 u1 =>
oNew (Value.cells x1).toList (Value.cells x1).toList.length 109 u1 fun u2 u3 =>
oV (qYZ 4 (qTZ u2)) fun u4 =>
oV (qWZ ty3 u4 u3) fun u5 =>
oV (vInt .eql u5 (.int .i64 3)) fun u6 =>
p7Z u6 (
oV (qYZ 0 (qTZ u2)) fun u7 =>
oV (qWZ ty3 u7 u3) fun u8 =>
oV (vInt .geq u8 (.int .i64 0)) fun u9 =>
oV (gV u9 true (qYZ 3 (qTZ u2)) (some undef)) fun u10 =>
oV (gV u9 true (qWZ ty3 u10 u3) (some undef)) fun u11 =>
oV (gV u9 true (vInt .geq u11 (.int .i64 0)) (some undef)) fun u12 =>
oV (pAZ u9 u12 (.bool false)) fun u13 =>
oV (gV u13 true (qYZ 7 (qTZ u2)) (some undef)) fun u14 =>
oV (gV u13 true (qWZ ty3 u14 u3) (some undef)) fun u15 =>
oV (gV u13 true (vInt .geq u15 (.int .i64 0)) (some undef)) fun u16 =>
oV (pAZ u13 u16 (.bool false)) fun u17 =>
oV (gV u17 true (qYZ 1 (qTZ u2)) (some undef)) fun u18 =>
oV (gV u17 true (qWZ ty3 u18 u3) (some undef)) fun u19 =>
oV (gV u17 true (vInt .geq u19 (.int .i64 1)) (some undef)) fun u20 =>
oV (pAZ u17 u20 (.bool false)) fun u21 =>
oV (gV u21 true (qYZ 1 (qTZ u2)) (some undef)) fun u22 =>
oV (gV u21 true (qWZ ty3 u22 u3) (some undef)) fun u23 =>
oV (gV u21 true (qYZ 1 (qTZ u0)) (some undef)) fun u24 =>
oV (gV u21 true (qWZ ty3 u24 u3) (some undef)) fun u25 =>
oV (gV u21 true (vInt .leq u23 u25) (some undef)) fun u26 =>
oV (pAZ u21 u26 (.bool false)) fun u27 =>
oV (gV u27 true (qYZ 2 (qTZ u2)) (some undef)) fun u28 =>
oV (gV u27 true (qWZ ty3 u28 u3) (some undef)) fun u29 =>
oV (gV u27 true (vInt .geq u29 (.int .i64 0)) (some undef)) fun u30 =>
oV (pAZ u27 u30 (.bool false)) fun u31 =>
oV (gV u31 true (qYZ 2 (qTZ u2)) (some undef)) fun u32 =>
oV (gV u31 true (qWZ ty3 u32 u3) (some undef)) fun u33 =>
oV (gV u31 true (qYZ 1 (qTZ u0)) (some undef)) fun u34 =>
oV (gV u31 true (qWZ ty3 u34 u3) (some undef)) fun u35 =>
oV (gV u31 true (vInt .leq u33 u35) (some undef)) fun u36 =>
oV (pAZ u31 u36 (.bool false)) fun u37 =>
oV (gV u37 true (qYZ 4 (qTZ u2)) (some undef)) fun u38 =>
oV (gV u37 true (qWZ ty3 u38 u3) (some undef)) fun u39 =>
oV (gV u37 true (vInt .geq u39 (.int .i64 1)) (some undef)) fun u40 =>
oV (pAZ u37 u40 (.bool false)) fun u41 =>
oV (gV u41 true (qYZ 4 (qTZ u2)) (some undef)) fun u42 =>
oV (gV u41 true (qWZ ty3 u42 u3) (some undef)) fun u43 =>
oV (gV u41 true (vInt .leq u43 (.int .i64 4)) (some undef)) fun u44 =>
oV (pAZ u41 u44 (.bool false)) fun u45 =>
oV (gV u45 true (qYZ 6 (qTZ u2)) (some undef)) fun u46 =>
oV (gV u45 true (qWZ ty3 u46 u3) (some undef)) fun u47 =>
oV (gV u45 true (some (.int .i64 1)) (some undef)) fun u48 =>
oV (gV u45 true (vInt .geq u47 u48) (some undef)) fun u49 =>
oV (pAZ u45 u49 (.bool false)) fun u50 =>
oV (gV u50 true (qYZ 6 (qTZ u2)) (some undef)) fun u51 =>
oV (gV u50 true (qWZ ty3 u51 u3) (some undef)) fun u52 =>
oV (gV u50 true (qYZ 1 (qTZ u0)) (some undef)) fun u53 =>
oV (gV u50 true (qWZ ty3 u53 u3) (some undef)) fun u54 =>
oV (gV u50 true (vInt .leq u52 u54) (some undef)) fun u55 =>
oV (pAZ u50 u55 (.bool false)) fun u56 =>
Q (.returned u56) u3) (
oV (qYZ 0 (qTZ u2)) fun u57 =>
oV (qWZ ty3 u57 u3) fun u58 =>
oV (vInt .geq u58 (.int .i64 0)) fun u59 =>
oV (gV u59 true (qYZ 3 (qTZ u2)) (some undef)) fun u60 =>
oV (gV u59 true (qWZ ty3 u60 u3) (some undef)) fun u61 =>
oV (gV u59 true (vInt .geq u61 (.int .i64 0)) (some undef)) fun u62 =>
oV (pAZ u59 u62 (.bool false)) fun u63 =>
oV (gV u63 true (qYZ 7 (qTZ u2)) (some undef)) fun u64 =>
oV (gV u63 true (qWZ ty3 u64 u3) (some undef)) fun u65 =>
oV (gV u63 true (vInt .geq u65 (.int .i64 0)) (some undef)) fun u66 =>
oV (pAZ u63 u66 (.bool false)) fun u67 =>
oV (gV u67 true (qYZ 1 (qTZ u2)) (some undef)) fun u68 =>
oV (gV u67 true (qWZ ty3 u68 u3) (some undef)) fun u69 =>
oV (gV u67 true (vInt .geq u69 (.int .i64 1)) (some undef)) fun u70 =>
oV (pAZ u67 u70 (.bool false)) fun u71 =>
oV (gV u71 true (qYZ 1 (qTZ u2)) (some undef)) fun u72 =>
oV (gV u71 true (qWZ ty3 u72 u3) (some undef)) fun u73 =>
oV (gV u71 true (qYZ 1 (qTZ u0)) (some undef)) fun u74 =>
oV (gV u71 true (qWZ ty3 u74 u3) (some undef)) fun u75 =>
oV (gV u71 true (vInt .leq u73 u75) (some undef)) fun u76 =>
oV (pAZ u71 u76 (.bool false)) fun u77 =>
oV (gV u77 true (qYZ 2 (qTZ u2)) (some undef)) fun u78 =>
oV (gV u77 true (qWZ ty3 u78 u3) (some undef)) fun u79 =>
oV (gV u77 true (vInt .geq u79 (.int .i64 0)) (some undef)) fun u80 =>
oV (pAZ u77 u80 (.bool false)) fun u81 =>
oV (gV u81 true (qYZ 2 (qTZ u2)) (some undef)) fun u82 =>
oV (gV u81 true (qWZ ty3 u82 u3) (some undef)) fun u83 =>
oV (gV u81 true (qYZ 1 (qTZ u0)) (some undef)) fun u84 =>
oV (gV u81 true (qWZ ty3 u84 u3) (some undef)) fun u85 =>
oV (gV u81 true (vInt .leq u83 u85) (some undef)) fun u86 =>
oV (pAZ u81 u86 (.bool false)) fun u87 =>
oV (gV u87 true (qYZ 4 (qTZ u2)) (some undef)) fun u88 =>
oV (gV u87 true (qWZ ty3 u88 u3) (some undef)) fun u89 =>
oV (gV u87 true (vInt .geq u89 (.int .i64 1)) (some undef)) fun u90 =>
oV (pAZ u87 u90 (.bool false)) fun u91 =>
oV (gV u91 true (qYZ 4 (qTZ u2)) (some undef)) fun u92 =>
oV (gV u91 true (qWZ ty3 u92 u3) (some undef)) fun u93 =>
oV (gV u91 true (vInt .leq u93 (.int .i64 4)) (some undef)) fun u94 =>
oV (pAZ u91 u94 (.bool false)) fun u95 =>
oV (gV u95 true (qYZ 6 (qTZ u2)) (some undef)) fun u96 =>
oV (gV u95 true (qWZ ty3 u96 u3) (some undef)) fun u97 =>
oV (gV u95 true (some (.int .i64 0)) (some undef)) fun u98 =>
oV (gV u95 true (vInt .geq u97 u98) (some undef)) fun u99 =>
oV (pAZ u95 u99 (.bool false)) fun u100 =>
oV (gV u100 true (qYZ 6 (qTZ u2)) (some undef)) fun u101 =>
oV (gV u100 true (qWZ ty3 u101 u3) (some undef)) fun u102 =>
oV (gV u100 true (qYZ 1 (qTZ u0)) (some undef)) fun u103 =>
oV (gV u100 true (qWZ ty3 u103 u3) (some undef)) fun u104 =>
oV (gV u100 true (vInt .leq u102 u104) (some undef)) fun u105 =>
oV (pAZ u100 u105 (.bool false)) fun u106 =>
Q (.returned u106) u3)
theorem c85_0 (env : Env) (H : Heap) (Q : QT) (h : m85 (env 0) (env 1) H Q) :
    qUZ Tryd.prog 69 (qSZ Tryd.f85) env H (mkK (rKZ Tryd.f85 Q) (fun _ _ _ => False) (rKZ Tryd.f85 Q) (pKZ Q)) :=
  qUZ.leaf_ (T := T) (X := ext) (hint := hint85) tok xok mixed (by kernel_rfl) h
theorem call85 (a0 a1 : Value) (H : Heap) (Q : QT) (h : m85 a0 a1 H Q) : qVZ Tryd.prog 85 [a0, a1] H Q :=
  qVZ.intro (nt := 69) tok Tryd.func85 (by kernel_rfl) (by kernel_rfl) (by kernel_rfl) (of_decide_eq_true (by kernel_rfl)) (c85_0 (envOf [a0, a1]) H Q h)
def hint84 : Nat → List Nat := p5Z []
def m84 (x0 x1 : Value) (H : Heap) (Q : QT) : Prop :=
oNew (Value.cells x0).toList (Value.cells x0).toList.length 109 H fun u0 u1 =>
oV (qYZ 0 x1) fun u2 =>
oV (qWZ ty24 u2 u1) fun u3 =>
oV (qWZ ty109 (qTZ u0) u1) fun u4 =>
oRC Tryd.prog 85 [u3, u4] u1 (pKZ Q) fun u5 u6 =>
oV (vUn .not u5) fun u7 =>
Q (.returned u7) u6
theorem c84_0 (env : Env) (H : Heap) (Q : QT) (h : m84 (env 0) (env 1) H Q) :
    qUZ Tryd.prog 9 (qSZ Tryd.f84) env H (mkK (rKZ Tryd.f84 Q) (fun _ _ _ => False) (rKZ Tryd.f84 Q) (pKZ Q)) :=
  qUZ.leaf_ (T := T) (X := ext) (hint := hint84) tok xok mixed (by kernel_rfl) h
theorem call84 (a0 a1 : Value) (H : Heap) (Q : QT) (h : m84 a0 a1 H Q) : qVZ Tryd.prog 84 [a0, a1] H Q :=
  qVZ.intro (nt := 9) tok Tryd.func84 (by kernel_rfl) (by kernel_rfl) (by kernel_rfl) (of_decide_eq_true (by kernel_rfl)) (c84_0 (envOf [a0, a1]) H Q h)
def hint113 : Nat → List Nat := p5Z []
def m113_1 (H : Heap) (Q : QT) : Prop :=
Q (.returned (.int .i64 (-1))) H
theorem c113_1 (env : Env) (H : Heap) (Q : QT) (h : m113_1 H Q) :
    qUZ Tryd.prog 19 (qRZ [1,1] (qSZ Tryd.f113)) env H (mkK (rKZ Tryd.f113 Q) (fun _ _ _ => False) (rKZ Tryd.f113 Q) (pKZ Q)) :=
  qUZ.leaf_ (T := T) (X := ext) (hint := hint113) tok xok mixed (by kernel_rfl) h
def L113_3 (x0 x1 x7 x8 : Value) (H : Heap) (kn : K0T) (Q : QT) : Prop :=
  ∀ env : Env, env 0 = x0 → env 1 = x1 → env 7 = x7 → env 8 = x8 → RLoop Tryd.prog 19 (qRZ [1,0,1,0,0] (qSZ Tryd.f113)) env H (mkK (fun _ _ => False) (inK 0 (fun e H => kn H) (fun _ _ _ => False)) (rKZ Tryd.f113 Q) (pKZ Q))
theorem cL113_3 (env : Env) (H : Heap) (kn : K0T) (Q : QT) (h : L113_3 (env 0) (env 1) (env 7) (env 8) H kn Q) :
    qUZ Tryd.prog 19 (qRZ [1,0,1] (qSZ Tryd.f113)) env H (mkK (fun e H => kn H) (fun _ _ _ => False) (rKZ Tryd.f113 Q) (pKZ Q)) :=
  qUZ.blk (by kernel_rfl : (qRZ [1,0,1] (qSZ Tryd.f113)) = .block 0 (qRZ [1,0,1,0] (qSZ Tryd.f113))) (qUZ.lp (by kernel_rfl : (qRZ [1,0,1,0] (qSZ Tryd.f113)) = .loop (qRZ [1,0,1,0,0] (qSZ Tryd.f113))) ((h env rfl rfl rfl rfl).mono (qPZ (fun _ _ h => h.elim) (fun _ _ _ h => h) (fun _ _ h => h) (fun _ _ h => h))))
def m113_4 (x0 x1 x7 x8 : Value) (H : Heap) (kn : K4T) (kx0 : K0T) (Q : QT) : Prop :=
oV (vInt .lss x8 x7) fun u0 =>
p7Z u0 (
oV (p1Z 8 x0 x8) fun u1 =>
oV (qWZ ty109 u1 H) fun u2 =>
oCl ext Tryd.prog x1 [u2] H (pKZ Q) fun u3 u4 =>
p7Z u3 (
Q (.returned x8) u4) (
oV (vInt .add x8 (.int .i64 1)) fun u5 =>
kn x0 x1 x7 u5 u4)) (
kx0 H)
theorem c113_4 (env : Env) (H : Heap) (kn : K4T) (kx0 : K0T) (Q : QT) (h : m113_4 (env 0) (env 1) (env 7) (env 8) H kn kx0 Q) :
    qUZ Tryd.prog 19 (qRZ [1,0,1,0,0] (qSZ Tryd.f113)) env H (mkK (fun e H => kn (e 0) (e 1) (e 7) (e 8) H) (inK 0 (fun e H => kx0 H) (fun _ _ _ => False)) (rKZ Tryd.f113 Q) (pKZ Q)) :=
  qUZ.leaf_ (T := T) (X := ext) (hint := hint113) tok xok mixed (by kernel_rfl) h
theorem L113_3_round (x0 x1 x7 x8 : Value) (H : Heap) (kn : K0T) (Q : QT) (h : m113_4 x0 x1 x7 x8 H (fun y0 y1 y7 y8 H => L113_3 y0 y1 y7 y8 H kn Q) kn Q) : L113_3 x0 x1 x7 x8 H kn Q := by
  intro env h0 h1 h7 h8
  subst h0; subst h1; subst h7; subst h8
  exact RLoop.round ((c113_4 env H (fun y0 y1 y7 y8 H => L113_3 y0 y1 y7 y8 H kn Q) kn Q h).mono (qPZ (fun e H h => h e rfl rfl rfl rfl) (fun _ _ _ h => h) (fun _ _ h => h) (fun _ _ h => h)))
def m113_2 (x0 x1 : Value) (H : Heap) (kn : K0T) (Q : QT) : Prop :=
oV (vLen x0) fun u0 =>
L113_3 x0 x1 u0 (.int .i64 0) H kn Q
theorem c113_2 (env : Env) (H : Heap) (kn : K0T) (Q : QT) (h : m113_2 (env 0) (env 1) H kn Q) :
    qUZ Tryd.prog 19 (qRZ [1,0] (qSZ Tryd.f113)) env H (mkK (fun e H => kn H) (fun _ _ _ => False) (rKZ Tryd.f113 Q) (pKZ Q)) :=
  qUZ.prefix_ (T := T) (X := ext) (hint := hint113) (hole := (fun e H => L113_3 (e 0) (e 1) (e 7) (e 8) H kn Q)) tok xok mixed 1 (by kernel_rfl) (by kernel_rfl : qRZ _ _ = (qRZ [1,0,1] (qSZ Tryd.f113))) h
    (fun e H h => (cL113_3 e H kn Q h))
def m113 (x0 x1 : Value) (H : Heap) (Q : QT) : Prop :=
m113_2 x0 x1 H (fun u0 => m113_1 u0 Q) Q
theorem c113_0 (env : Env) (H : Heap) (Q : QT) (h : m113 (env 0) (env 1) H Q) :
    qUZ Tryd.prog 19 (qSZ Tryd.f113) env H (mkK (rKZ Tryd.f113 Q) (fun _ _ _ => False) (rKZ Tryd.f113 Q) (pKZ Q)) :=
  qUZ.prefix_ (T := T) (X := ext) (hint := hint113) (hole := (fun e H => m113_2 (e 0) (e 1) H (fun H_9 => m113_1 H_9 Q) Q)) tok xok mixed 1 (by kernel_rfl) (by kernel_rfl : qRZ _ _ = (qRZ [1] (qSZ Tryd.f113))) h
    (fun e H h => qUZ.join (by kernel_rfl : (qRZ [1] (qSZ Tryd.f113)) = .seq (qRZ [1,0] (qSZ Tryd.f113)) (qRZ [1,1] (qSZ Tryd.f113))) ((c113_2 e H (fun H_10 => m113_1 H_10 Q) Q h).mono (qPZ (fun e H h => c113_1 e H Q h) (fun _ _ _ h => h) (fun _ _ h => h) (fun _ _ h => h))))
theorem call113 (a0 a1 : Value) (H : Heap) (Q : QT) (h : m113 a0 a1 H Q) : qVZ Tryd.prog 113 [a0, a1] H Q :=
  qVZ.intro (nt := 19) tok Tryd.func113 (by kernel_rfl) (by kernel_rfl) (by kernel_rfl) (of_decide_eq_true (by kernel_rfl)) (c113_0 (envOf [a0, a1]) H Q h)
def hint83 : Nat → List Nat := p5Z []
def m83 (x0 x1 : Value) (H : Heap) (Q : QT) : Prop :=
oRC Tryd.prog 113 [x0, x1] H (pKZ Q) fun u0 u1 =>
oV (vInt .geq u0 (.int .i64 0)) fun u2 =>
Q (.returned u2) u1
theorem c83_0 (env : Env) (H : Heap) (Q : QT) (h : m83 (env 0) (env 1) H Q) :
    qUZ Tryd.prog 9 (qSZ Tryd.f83) env H (mkK (rKZ Tryd.f83 Q) (fun _ _ _ => False) (rKZ Tryd.f83 Q) (pKZ Q)) :=
  qUZ.leaf_ (T := T) (X := ext) (hint := hint83) tok xok mixed (by kernel_rfl) h
theorem call83 (a0 a1 : Value) (H : Heap) (Q : QT) (h : m83 a0 a1 H Q) : qVZ Tryd.prog 83 [a0, a1] H Q :=
  qVZ.intro (nt := 9) tok Tryd.func83 (by kernel_rfl) (by kernel_rfl) (by kernel_rfl) (of_decide_eq_true (by kernel_rfl)) (c83_0 (envOf [a0, a1]) H Q h)
def hint89 : Nat → List Nat := p5Z []
def m89 (x0 x1 : Value) (H : Heap) (Q : QT) : Prop :=
oV (qYZ 0 x1) fun u0 =>
oV (qYZ 0 u0) fun u1 =>
oV (qWZ ty22 u1 H) fun u2 =>
oV (vInt .geq x0 u2) fun u3 =>
Q (.returned u3) H
theorem c89_0 (env : Env) (H : Heap) (Q : QT) (h : m89 (env 0) (env 1) H Q) :
    qUZ Tryd.prog 9 (qSZ Tryd.f89) env H (mkK (rKZ Tryd.f89 Q) (fun _ _ _ => False) (rKZ Tryd.f89 Q) (pKZ Q)) :=
  qUZ.leaf_ (T := T) (X := ext) (hint := hint89) tok xok mixed (by kernel_rfl) h
theorem call89 (a0 a1 : Value) (H : Heap) (Q : QT) (h : m89 a0 a1 H Q) : qVZ Tryd.prog 89 [a0, a1] H Q :=
  qVZ.intro (nt := 9) tok Tryd.func89 (by kernel_rfl) (by kernel_rfl) (by kernel_rfl) (of_decide_eq_true (by kernel_rfl)) (c89_0 (envOf [a0, a1]) H Q h)
def hint115 : Nat → List Nat := p5Z []
def m115_1 (H : Heap) (Q : QT) : Prop :=
Q (.returned (.int .i64 (-1))) H
theorem c115_1 (env : Env) (H : Heap) (Q : QT) (h : m115_1 H Q) :
    qUZ Tryd.prog 19 (qRZ [1,1] (qSZ Tryd.f115)) env H (mkK (rKZ Tryd.f115 Q) (fun _ _ _ => False) (rKZ Tryd.f115 Q) (pKZ Q)) :=
  qUZ.leaf_ (T := T) (X := ext) (hint := hint115) tok xok mixed (by kernel_rfl) h
def L115_3 (x0 x1 x7 x8 : Value) (H : Heap) (kn : K0T) (Q : QT) : Prop :=
  ∀ env : Env, env 0 = x0 → env 1 = x1 → env 7 = x7 → env 8 = x8 → RLoop Tryd.prog 19 (qRZ [1,0,1,0,0] (qSZ Tryd.f115)) env H (mkK (fun _ _ => False) (inK 0 (fun e H => kn H) (fun _ _ _ => False)) (rKZ Tryd.f115 Q) (pKZ Q))
theorem cL115_3 (env : Env) (H : Heap) (kn : K0T) (Q : QT) (h : L115_3 (env 0) (env 1) (env 7) (env 8) H kn Q) :
    qUZ Tryd.prog 19 (qRZ [1,0,1] (qSZ Tryd.f115)) env H (mkK (fun e H => kn H) (fun _ _ _ => False) (rKZ Tryd.f115 Q) (pKZ Q)) :=
  qUZ.blk (by kernel_rfl : (qRZ [1,0,1] (qSZ Tryd.f115)) = .block 0 (qRZ [1,0,1,0] (qSZ Tryd.f115))) (qUZ.lp (by kernel_rfl : (qRZ [1,0,1,0] (qSZ Tryd.f115)) = .loop (qRZ [1,0,1,0,0] (qSZ Tryd.f115))) ((h env rfl rfl rfl rfl).mono (qPZ (fun _ _ h => h.elim) (fun _ _ _ h => h) (fun _ _ h => h) (fun _ _ h => h))))
def m115_4 (x0 x1 x7 x8 : Value) (H : Heap) (kn : K4T) (kx0 : K0T) (Q : QT) : Prop :=
oV (vInt .lss x8 x7) fun u0 =>
p7Z u0 (
oV (p1Z 1 x0 x8) fun u1 =>
oV (qWZ ty22 u1 H) fun u2 =>
oCl ext Tryd.prog x1 [u2] H (pKZ Q) fun u3 u4 =>
p7Z u3 (
Q (.returned x8) u4) (
oV (vInt .add x8 (.int .i64 1)) fun u5 =>
kn x0 x1 x7 u5 u4)) (
kx0 H)
theorem c115_4 (env : Env) (H : Heap) (kn : K4T) (kx0 : K0T) (Q : QT) (h : m115_4 (env 0) (env 1) (env 7) (env 8) H kn kx0 Q) :
    qUZ Tryd.prog 19 (qRZ [1,0,1,0,0] (qSZ Tryd.f115)) env H (mkK (fun e H => kn (e 0) (e 1) (e 7) (e 8) H) (inK 0 (fun e H => kx0 H) (fun _ _ _ => False)) (rKZ Tryd.f115 Q) (pKZ Q)) :=
  qUZ.leaf_ (T := T) (X := ext) (hint := hint115) tok xok mixed (by kernel_rfl) h
theorem L115_3_round (x0 x1 x7 x8 : Value) (H : Heap) (kn : K0T) (Q : QT) (h : m115_4 x0 x1 x7 x8 H (fun y0 y1 y7 y8 H => L115_3 y0 y1 y7 y8 H kn Q) kn Q) : L115_3 x0 x1 x7 x8 H kn Q := by
  intro env h0 h1 h7 h8
  subst h0; subst h1; subst h7; subst h8
  exact RLoop.round ((c115_4 env H (fun y0 y1 y7 y8 H => L115_3 y0 y1 y7 y8 H kn Q) kn Q h).mono (qPZ (fun e H h => h e rfl rfl rfl rfl) (fun _ _ _ h => h) (fun _ _ h => h) (fun _ _ h => h)))
def m115_2 (x0 x1 : Value) (H : Heap) (kn : K0T) (Q : QT) : Prop :=
oV (vLen x0) fun u0 =>
L115_3 x0 x1 u0 (.int .i64 0) H kn Q
theorem c115_2 (env : Env) (H : Heap) (kn : K0T) (Q : QT) (h : m115_2 (env 0) (env 1) H kn Q) :
    qUZ Tryd.prog 19 (qRZ [1,0] (qSZ Tryd.f115)) env H (mkK (fun e H => kn H) (fun _ _ _ => False) (rKZ Tryd.f115 Q) (pKZ Q)) :=
  qUZ.prefix_ (T := T) (X := ext) (hint := hint115) (hole := (fun e H => L115_3 (e 0) (e 1) (e 7) (e 8) H kn Q)) tok xok mixed 1 (by kernel_rfl) (by kernel_rfl : qRZ _ _ = (qRZ [1,0,1] (qSZ Tryd.f115))) h
    (fun e H h => (cL115_3 e H kn Q h))
def m115 (x0 x1 : Value) (H : Heap) (Q : QT) : Prop :=
m115_2 x0 x1 H (fun u0 => m115_1 u0 Q) Q
theorem c115_0 (env : Env) (H : Heap) (Q : QT) (h : m115 (env 0) (env 1) H Q) :
    qUZ Tryd.prog 19 (qSZ Tryd.f115) env H (mkK (rKZ Tryd.f115 Q) (fun _ _ _ => False) (rKZ Tryd.f115 Q) (pKZ Q)) :=
  qUZ.prefix_ (T := T) (X := ext) (hint := hint115) (hole := (fun e H => m115_2 (e 0) (e 1) H (fun H_9 => m115_1 H_9 Q) Q)) tok xok mixed 1 (by kernel_rfl) (by kernel_rfl : qRZ _ _ = (qRZ [1] (qSZ Tryd.f115))) h
    (fun e H h => qUZ.join (by kernel_rfl : (qRZ [1] (qSZ Tryd.f115)) = .seq (qRZ [1,0] (qSZ Tryd.f115)) (qRZ [1,1] (qSZ Tryd.f115))) ((c115_2 e H (fun H_10 => m115_1 H_10 Q) Q h).mono (qPZ (fun e H h => c115_1 e H Q h) (fun _ _ _ h => h) (fun _ _ h => h) (fun _ _ h => h))))
theorem call115 (a0 a1 : Value) (H : Heap) (Q : QT) (h : m115 a0 a1 H Q) : qVZ Tryd.prog 115 [a0, a1] H Q :=
  qVZ.intro (nt := 19) tok Tryd.func115 (by kernel_rfl) (by kernel_rfl) (by kernel_rfl) (of_decide_eq_true (by kernel_rfl)) (c115_0 (envOf [a0, a1]) H Q h)
def hint88 : Nat → List Nat := p5Z []
def m88 (x0 x1 : Value) (H : Heap) (Q : QT) : Prop :=
oRC Tryd.prog 115 [x0, x1] H (pKZ Q) fun u0 u1 =>
oV (vInt .geq u0 (.int .i64 0)) fun u2 =>
Q (.returned u2) u1
theorem c88_0 (env : Env) (H : Heap) (Q : QT) (h : m88 (env 0) (env 1) H Q) :
    qUZ Tryd.prog 9 (qSZ Tryd.f88) env H (mkK (rKZ Tryd.f88 Q) (fun _ _ _ => False) (rKZ Tryd.f88 Q) (pKZ Q)) :=
  qUZ.leaf_ (T := T) (X := ext) (hint := hint88) tok xok mixed (by kernel_rfl) h
theorem call88 (a0 a1 : Value) (H : Heap) (Q : QT) (h : m88 a0 a1 H Q) : qVZ Tryd.prog 88 [a0, a1] H Q :=
  qVZ.intro (nt := 9) tok Tryd.func88 (by kernel_rfl) (by kernel_rfl) (by kernel_rfl) (of_decide_eq_true (by kernel_rfl)) (c88_0 (envOf [a0, a1]) H Q h)
def hint87 : Nat → List Nat := p5Z []
def m87 (x0 x1 : Value) (H : Heap) (Q : QT) : Prop :=
oRC Tryd.prog 88 [x0, (.func (.func 89) #[] #[x1])] H (pKZ Q) fun u0 u1 =>
Q (.returned u0) u1
theorem c87_0 (env : Env) (H : Heap) (Q : QT) (h : m87 (env 0) (env 1) H Q) :
    qUZ Tryd.prog 7 (qSZ Tryd.f87) env H (mkK (rKZ Tryd.f87 Q) (fun _ _ _ => False) (rKZ Tryd.f87 Q) (pKZ Q)) :=
  qUZ.leaf_ (T := T) (X := ext) (hint := hint87) tok xok mixed (by kernel_rfl) h
theorem call87 (a0 a1 : Value) (H : Heap) (Q : QT) (h : m87 a0 a1 H Q) : qVZ Tryd.prog 87 [a0, a1] H Q :=
  qVZ.intro (nt := 7) tok Tryd.func87 (by kernel_rfl) (by kernel_rfl) (by kernel_rfl) (of_decide_eq_true (by kernel_rfl)) (c87_0 (envOf [a0, a1]) H Q h)
def hint114 : Nat → List Nat := p5Z []
def m114_1 (H : Heap) (Q : QT) : Prop :=
Q (.returned (.int .i64 (-1))) H
theorem c114_1 (env : Env) (H : Heap) (Q : QT) (h : m114_1 H Q) :
    qUZ Tryd.prog 19 (qRZ [1,1] (qSZ Tryd.f114)) env H (mkK (rKZ Tryd.f114 Q) (fun _ _ _ => False) (rKZ Tryd.f114 Q) (pKZ Q)) :=
  qUZ.leaf_ (T := T) (X := ext) (hint := hint114) tok xok mixed (by kernel_rfl) h
def L114_3 (x0 x1 x7 x8 : Value) (H : Heap) (kn : K0T) (Q : QT) : Prop :=
  ∀ env : Env, env 0 = x0 → env 1 = x1 → env 7 = x7 → env 8 = x8 → RLoop Tryd.prog 19 (qRZ [1,0,1,0,0] (qSZ Tryd.f114)) env H (mkK (fun _ _ => False) (inK 0 (fun e H => kn H) (fun _ _ _ => False)) (rKZ Tryd.f114 Q) (pKZ Q))
theorem cL114_3 (env : Env) (H : Heap) (kn : K0T) (Q : QT) (h : L114_3 (env 0) (env 1) (env 7) (env 8) H kn Q) :
    qUZ Tryd.prog 19 (qRZ [1,0,1] (qSZ Tryd.f114)) env H (mkK (fun e H => kn H) (fun _ _ _ => False) (rKZ Tryd.f114 Q) (pKZ Q)) :=
  qUZ.blk (by kernel_rfl : (qRZ [1,0,1] (qSZ Tryd.f114)) = .block 0 (qRZ [1,0,1,0] (qSZ Tryd.f114))) (qUZ.lp (by kernel_rfl : (qRZ [1,0,1,0] (qSZ Tryd.f114)) = .loop (qRZ [1,0,1,0,0] (qSZ Tryd.f114))) ((h env rfl rfl rfl rfl).mono (qPZ (fun _ _ h => h.elim) (fun _ _ _ h => h) (fun _ _ h => h) (fun _ _ h => h))))
def m114_4 (x0 x1 x7 x8 : Value) (H : Heap) (kn : K4T) (kx0 : K0T) (Q : QT) : Prop :=
oV (vInt .lss x8 x7) fun u0 =>
p7Z u0 (
oV (p1Z 1 x0 x8) fun u1 =>
oV (qWZ ty52 u1 H) fun u2 =>
oCl ext Tryd.prog x1 [u2] H (pKZ Q) fun u3 u4 =>
p7Z u3 (
Q (.returned x8) u4) (
oV (vInt .add x8 (.int .i64 1)) fun u5 =>
kn x0 x1 x7 u5 u4)) (
kx0 H)
theorem c114_4 (env : Env) (H : Heap) (kn : K4T) (kx0 : K0T) (Q : QT) (h : m114_4 (env 0) (env 1) (env 7) (env 8) H kn kx0 Q) :
    qUZ Tryd.prog 19 (qRZ [1,0,1,0,0] (qSZ Tryd.f114)) env H (mkK (fun e H => kn (e 0) (e 1) (e 7) (e 8) H) (inK 0 (fun e H => kx0 H) (fun _ _ _ => False)) (rKZ Tryd.f114 Q) (pKZ Q)) :=
  qUZ.leaf_ (T := T) (X := ext) (hint := hint114) tok xok mixed (by kernel_rfl) h
theorem L114_3_round (x0 x1 x7 x8 : Value) (H : Heap) (kn : K0T) (Q : QT) (h : m114_4 x0 x1 x7 x8 H (fun y0 y1 y7 y8 H => L114_3 y0 y1 y7 y8 H kn Q) kn Q) : L114_3 x0 x1 x7 x8 H kn Q := by
  intro env h0 h1 h7 h8
  subst h0; subst h1; subst h7; subst h8
  exact RLoop.round ((c114_4 env H (fun y0 y1 y7 y8 H => L114_3 y0 y1 y7 y8 H kn Q) kn Q h).mono (qPZ (fun e H h => h e rfl rfl rfl rfl) (fun _ _ _ h => h) (fun _ _ h => h) (fun _ _ h => h)))
def m114_2 (x0 x1 : Value) (H : Heap) (kn : K0T) (Q : QT) : Prop :=
oV (vLen x0) fun u0 =>
L114_3 x0 x1 u0 (.int .i64 0) H kn Q
theorem c114_2 (env : Env) (H : Heap) (kn : K0T) (Q : QT) (h : m114_2 (env 0) (env 1) H kn Q) :
    qUZ Tryd.prog 19 (qRZ [1,0] (qSZ Tryd.f114)) env H (mkK (fun e H => kn H) (fun _ _ _ => False) (rKZ Tryd.f114 Q) (pKZ Q)) :=
  qUZ.prefix_ (T := T) (X := ext) (hint := hint114) (hole := (fun e H => L114_3 (e 0) (e 1) (e 7) (e 8) H kn Q)) tok xok mixed 1 (by kernel_rfl) (by kernel_rfl : qRZ _ _ = (qRZ [1,0,1] (qSZ Tryd.f114))) h
    (fun e H h => (cL114_3 e H kn Q h))
def m114 (x0 x1 : Value) (H : Heap) (Q : QT) : Prop :=
m114_2 x0 x1 H (fun u0 => m114_1 u0 Q) Q
theorem c114_0 (env : Env) (H : Heap) (Q : QT) (h : m114 (env 0) (env 1) H Q) :
    qUZ Tryd.prog 19 (qSZ Tryd.f114) env H (mkK (rKZ Tryd.f114 Q) (fun _ _ _ => False) (rKZ Tryd.f114 Q) (pKZ Q)) :=
  qUZ.prefix_ (T := T) (X := ext) (hint := hint114) (hole := (fun e H => m114_2 (e 0) (e 1) H (fun H_9 => m114_1 H_9 Q) Q)) tok xok mixed 1 (by kernel_rfl) (by kernel_rfl : qRZ _ _ = (qRZ [1] (qSZ Tryd.f114))) h
    (fun e H h => qUZ.join (by kernel_rfl : (qRZ [1] (qSZ Tryd.f114)) = .seq (qRZ [1,0] (qSZ Tryd.f114)) (qRZ [1,1] (qSZ Tryd.f114))) ((c114_2 e H (fun H_10 => m114_1 H_10 Q) Q h).mono (qPZ (fun e H h => c114_1 e H Q h) (fun _ _ _ h => h) (fun _ _ h => h) (fun _ _ h => h))))
theorem call114 (a0 a1 : Value) (H : Heap) (Q : QT) (h : m114 a0 a1 H Q) : qVZ Tryd.prog 114 [a0, a1] H Q :=
  qVZ.intro (nt := 19) tok Tryd.func114 (by kernel_rfl) (by kernel_rfl) (by kernel_rfl) (of_decide_eq_true (by kernel_rfl)) (c114_0 (envOf [a0, a1]) H Q h)
def hint86 : Nat → List Nat := p5Z []
def m86 (x0 x1 : Value) (H : Heap) (Q : QT) : Prop :=
oRC Tryd.prog 114 [x0, x1] H (pKZ Q) fun u0 u1 =>
oV (vInt .geq u0 (.int .i64 0)) fun u2 =>
Q (.returned u2) u1
theorem c86_0 (env : Env) (H : Heap) (Q : QT) (h : m86 (env 0) (env 1) H Q) :
    qUZ Tryd.prog 9 (qSZ Tryd.f86) env H (mkK (rKZ Tryd.f86 Q) (fun _ _ _ => False) (rKZ Tryd.f86 Q) (pKZ Q)) :=
  qUZ.leaf_ (T := T) (X := ext) (hint := hint86) tok xok mixed (by kernel_rfl) h
theorem call86 (a0 a1 : Value) (H : Heap) (Q : QT) (h : m86 a0 a1 H Q) : qVZ Tryd.prog 86 [a0, a1] H Q :=
  qVZ.intro (nt := 9) tok Tryd.func86 (by kernel_rfl) (by kernel_rfl) (by kernel_rfl) (of_decide_eq_true (by kernel_rfl)) (c86_0 (envOf [a0, a1]) H Q h)
def hint52 : Nat → List Nat := p5Z []
def m52 (x0 : Value) (H : Heap) (Q : QT) : Prop :=
oNew (Value.cells x0).toList (Value.cells x0).toList.length 29 H fun u0 u1 =>
oV (qYZ 0 (qTZ u0)) fun u2 =>
oV (qWZ ty24 u2 u1) fun u3 =>
oV (qYZ 3 (qTZ u0)) fun u4 =>
oV (qWZ ty25 u4 u1) fun u5 =>
oRC Tryd.prog 82 [u3, u5] u1 (pKZ Q) fun u6 u7 =>
oV (vUn .not u6) fun u8 =>
oV (gV u8 false (qYZ 5 (qTZ u0)) (some undef)) fun u9 =>
oV (gV u8 false (qWZ ty27 u9 u7) (some undef)) fun u10 =>
oV (gV u8 false (vLen u10) (some undef)) fun u11 =>
oV (gV u8 false (qYZ 0 (qTZ u0)) (some undef)) fun u12 =>
oV (gV u8 false (qYZ 1 u12) (some undef)) fun u13 =>
oV (gV u8 false (qWZ ty3 u13 u7) (some undef)) fun u14 =>
oV (gV u8 false (vInt .neq u11 u14) (some undef)) fun u15 =>
oV (pAZ u8 (.bool true) u15) fun u16 =>
oV (gV u16 false (qYZ 4 (qTZ u0)) (some undef)) fun u17 =>
oV (gV u16 false (qWZ ty26 u17 u7) (some undef)) fun u18 =>
oV (gV u16 false (some (.func (.func 84) #[] #[(qTZ u0)])) (some undef)) fun u19 =>
letK (fun u20 u21 =>
oV (pAZ u16 (.bool true) u20) fun u22 =>
p7Z u22 (
Q (.returned (.bool false)) u21) (
oV (qYZ 5 (qTZ u0)) fun u23 =>
oV (qWZ ty27 u23 u21) fun u24 =>
oRC Tryd.prog 86 [u24, (.func (.func 87) #[] #[(qTZ u0)])] u21 (pKZ Q) fun u25 u26 =>
oV (vUn .not u25) fun u27 =>
Q (.returned u27) u26)) fun u28 => gK u16 false (oRC Tryd.prog 83 [u18, u19] u7 (pKZ Q) fun u29 u30 =>
u28 u29 u30) (u28 undef u7)
theorem c52_0 (env : Env) (H : Heap) (Q : QT) (h : m52 (env 0) H Q) :
    qUZ Tryd.prog 29 (qSZ Tryd.f52) env H (mkK (rKZ Tryd.f52 Q) (fun _ _ _ => False) (rKZ Tryd.f52 Q) (pKZ Q)) :=
  qUZ.leaf_ (T := T) (X := ext) (hint := hint52) tok xok mixed (by kernel_rfl) h
theorem call52 (a0 : Value) (H : Heap) (Q : QT) (h : m52 a0 H Q) : qVZ Tryd.prog 52 [a0] H Q :=
  qVZ.intro (nt := 29) tok Tryd.func52 (by kernel_rfl) (by kernel_rfl) (by kernel_rfl) (of_decide_eq_true (by kernel_rfl)) (c52_0 (envOf [a0]) H Q h)
def hint53 : Nat → List Nat := p5Z []
def m53 (x0 : Value) (H : Heap) (Q : QT) : Prop :=
oV (vBuild ty136 [((0,1), x0)]) fun u0 =>
oNew (Value.cells u0).toList (Value.cells u0).toList.length 136 H fun u1 u2 =>
Q (.returned (qTZ u1)) u2
theorem c53_0 (env : Env) (H : Heap) (Q : QT) (h : m53 (env 0) H Q) :
    qUZ Tryd.prog 6 (qSZ Tryd.f53) env H (mkK (rKZ Tryd.f53 Q) (fun _ _ _ => False) (rKZ Tryd.f53 Q) (pKZ Q)) :=
  qUZ.leaf_ (T := T) (X := ext) (hint := hint53) tok xok mixed (by kernel_rfl) h
theorem call53 (a0 : Value) (H : Heap) (Q : QT) (h : m53 a0 H Q) : qVZ Tryd.prog 53 [a0] H Q :=
  qVZ.intro (nt := 6) tok Tryd.func53 (by kernel_rfl) (by kernel_rfl) (by kernel_rfl) (of_decide_eq_true (by kernel_rfl)) (c53_0 (envOf [a0]) H Q h)
def hint12 : Nat → List Nat := p5Z [(3, [0,1,2,3,4,5,6,7]), (7, [0,1,2,3,4,5,6,7,8,9,10,11])]
def m12_1 (x4 : Value) (H : Heap) (Q : QT) : Prop :=
Q (.returned (.tuple #[x4, (.int .i64 0)])) H
theorem c12_1 (env : Env) (H : Heap) (Q : QT) (h : m12_1 (env 4) H Q) :
    qUZ Tryd.prog 37 (qRZ [1,1,1,1] (qSZ Tryd.f12)) env H (mkK (rKZ Tryd.f12 Q) (fun _ _ _ => False) (rKZ Tryd.f12 Q) (pKZ Q)) :=
  qUZ.leaf_ (T := T) (X := ext) (hint := hint12) tok xok mixed (by kernel_rfl) h
def L12_3 (x4 x18 x19 x20 : Value) (H : Heap) (kn : K1T) (Q : QT) : Prop :=
  ∀ env : Env, env 4 = x4 → env 18 = x18 → env 19 = x19 → env 20 = x20 → RLoop Tryd.prog 37 (qRZ [1,1,1,0,1,0,0] (qSZ Tryd.f12)) env H (mkK (fun _ _ => False) (inK 0 (fun e H => kn (e 4) H) (fun _ _ _ => False)) (rKZ Tryd.f12 Q) (pKZ Q))
theorem cL12_3 (env : Env) (H : Heap) (kn : K1T) (Q : QT) (h : L12_3 (env 4) (env 18) (env 19) (env 20) H kn Q) :
    qUZ Tryd.prog 37 (qRZ [1,1,1,0,1] (qSZ Tryd.f12)) env H (mkK (fun e H => kn (e 4) H) (fun _ _ _ => False) (rKZ Tryd.f12 Q) (pKZ Q)) :=
  qUZ.blk (by kernel_rfl : (qRZ [1,1,1,0,1] (qSZ Tryd.f12)) = .block 0 (qRZ [1,1,1,0,1,0] (qSZ Tryd.f12))) (qUZ.lp (by kernel_rfl : (qRZ [1,1,1,0,1,0] (qSZ Tryd.f12)) = .loop (qRZ [1,1,1,0,1,0,0] (qSZ Tryd.f12))) ((h env rfl rfl rfl rfl).mono (qPZ (fun _ _ h => h.elim) (fun _ _ _ h => h) (fun _ _ h => h) (fun _ _ h => h))))
def m12_4 (x4 x18 x19 x20 : Value) (H : Heap) (kn : K4T) (kx0 : K1T) (Q : QT) : Prop :=
oV (vInt .lss x20 x19) fun u0 =>
p7Z u0 (
oV (p1Z 1 x18 x20) fun u1 =>
oV (qWZ ty52 u1 H) fun u2 =>
oV (vNil x4) fun u3 =>
oV (qYZ 8 u3) fun u4 =>
oV (qWZ ty96 u4 H) fun u5 =>
oRC Tryd.prog 53 [u2] H noP fun u6 u7 =>
(qWZ ty96 u4 u7 = some u5 ∧
p3Z ty99 99 1 [((0,1), u6)] u7 fun u8 u9 =>
p4Z ty99 99 u5 u8 u9 fun u10 u11 =>
oV (vNil x4) fun u12 =>
oV (qYZ 8 u12) fun u13 =>
oHeap (p2Z ty96 u13 u10 u11) fun u14 =>
oV (vInt .add x20 (.int .i64 1)) fun u15 =>
kn x4 x18 x19 u15 u14)) (
kx0 x4 H)
theorem c12_4 (env : Env) (H : Heap) (kn : K4T) (kx0 : K1T) (Q : QT) (h : m12_4 (env 4) (env 18) (env 19) (env 20) H kn kx0 Q) :
    qUZ Tryd.prog 37 (qRZ [1,1,1,0,1,0,0] (qSZ Tryd.f12)) env H (mkK (fun e H => kn (e 4) (e 18) (e 19) (e 20) H) (inK 0 (fun e H => kx0 (e 4) H) (fun _ _ _ => False)) (rKZ Tryd.f12 Q) (pKZ Q)) :=
  qUZ.leaf_ (T := T) (X := ext) (hint := hint12) tok xok mixed (by kernel_rfl) h
theorem L12_3_round (x4 x18 x19 x20 : Value) (H : Heap) (kn : K1T) (Q : QT) (h : m12_4 x4 x18 x19 x20 H (fun y4 y18 y19 y20 H => L12_3 y4 y18 y19 y20 H kn Q) kn Q) : L12_3 x4 x18 x19 x20 H kn Q := by
  intro env h4 h18 h19 h20
  subst h4; subst h18; subst h19; subst h20
  exact RLoop.round ((c12_4 env H (fun y4 y18 y19 y20 H => L12_3 y4 y18 y19 y20 H kn Q) kn Q h).mono (qPZ (fun e H h => h e rfl rfl rfl rfl) (fun _ _ _ h => h) (fun _ _ h => h) (fun _ _ h => h)))
def m12_2 (x1 x4 : Value) (H : Heap) (kn : K1T) (Q : QT) : Prop :=
oV (qYZ 5 x1) fun u0 =>
oV (qWZ ty27 u0 H) fun u1 =>
oV (vLen u1) fun u2 =>
L12_3 x4 u1 u2 (.int .i64 0) H kn Q
theorem c12_2 (env : Env) (H : Heap) (kn : K1T) (Q : QT) (h : m12_2 (env 1) (env 4) H kn Q) :
    qUZ Tryd.prog 37 (qRZ [1,1,1,0] (qSZ Tryd.f12)) env H (mkK (fun e H => kn (e 4) H) (fun _ _ _ => False) (rKZ Tryd.f12 Q) (pKZ Q)) :=
  qUZ.prefix_ (T := T) (X := ext) (hint := hint12) (hole := (fun e H => L12_3 (e 4) (e 18) (e 19) (e 20) H kn Q)) tok xok mixed 1 (by kernel_rfl) (by kernel_rfl : qRZ _ _ = (qRZ [1,1,1,0,1] (qSZ Tryd.f12))) h
    (fun e H h => (cL12_3 e H kn Q h))
def m12 (x0 : Value) (H : Heap) (Q : QT) : Prop :=
oNew (Value.cells x0).toList (Value.cells x0).toList.length 29 H fun u0 u1 =>
oV (qWZ ty29 (qTZ u0) u1) fun u2 =>
oRC Tryd.prog 52 [u2] u1 (pKZ Q) fun u3 u4 =>
oV (vUn .not u3) fun u5 =>
p7Z u5 (
Q (.returned (.tuple #[(.pointer none), (.int .i64 1)])) u4) (
oV (qWZ ty29 (qTZ u0) u4) fun u6 =>
oV (qYZ 0 (qTZ u0)) fun u7 =>
oV (qYZ 1 u7) fun u8 =>
oV (qWZ ty3 u8 u4) fun u9 =>
oMake ty49 49 u9 u9 u4 fun u10 u11 =>
oV (vBuild ty98 [((0,6), u6), ((7,1), u10)]) fun u12 =>
oNew (Value.cells u12).toList (Value.cells u12).toList.length 98 u11 fun u13 u14 =>
m12_2 (qTZ u0) (qTZ u13) u14 (fun u15 u16 => m12_1 u15 u16 Q) Q)
theorem c12_0 (env : Env) (H : Heap) (Q : QT) (h : m12 (env 0) H Q) :
    qUZ Tryd.prog 37 (qSZ Tryd.f12) env H (mkK (rKZ Tryd.f12 Q) (fun _ _ _ => False) (rKZ Tryd.f12 Q) (pKZ Q)) :=
  qUZ.prefix_ (T := T) (X := ext) (hint := hint12) (hole := (fun e H => m12_2 (e 1) (e 4) H (fun y4_37 H_38 => m12_1 y4_37 H_38 Q) Q)) tok xok mixed 3 (by kernel_rfl) (by kernel_rfl : qRZ _ _ = (qRZ [1,1,1] (qSZ Tryd.f12))) h
    (fun e H h => qUZ.join (by kernel_rfl : (qRZ [1,1,1] (qSZ Tryd.f12)) = .seq (qRZ [1,1,1,0] (qSZ Tryd.f12)) (qRZ [1,1,1,1] (qSZ Tryd.f12))) ((c12_2 e H (fun y4_39 H_40 => m12_1 y4_39 H_40 Q) Q h).mono (qPZ (fun e H h => c12_1 e H Q h) (fun _ _ _ h => h) (fun _ _ h => h) (fun _ _ h => h))))
theorem call12 (a0 : Value) (H : Heap) (Q : QT) (h : m12 a0 H Q) : qVZ Tryd.prog 12 [a0] H Q :=
  qVZ.intro (nt := 37) tok Tryd.func12 (by kernel_rfl) (by kernel_rfl) (by kernel_rfl) (of_decide_eq_true (by kernel_rfl)) (c12_0 (envOf [a0]) H Q h)
def hint79 : Nat → List Nat := p5Z [(1, [0,1,2,3,4,5,6,7,8,9,10,11,12,13,14,15,16,17,18,19,20,21,22,23,24])]
def m79 (x0 x1 x2 x3 : Value) (H : Heap) (Q : QT) : Prop :=
oV (vInt .neq x1 x2) fun u0 =>
oV (gV u0 true (some x3) (some undef)) fun u1 =>
oV (gV u0 true (vLen u1) (some undef)) fun u2 =>
oV (gV u0 true (vInt .gtr u2 (.int .i64 0)) (some undef)) fun u3 =>
oV (pAZ u0 u3 (.bool false)) fun u4 =>
p7Z u4 (
oV (vNil x0) fun u5 =>
oV (qYZ 7 u5) fun u6 =>
oV (qWZ ty95 u6 H) fun u7 =>
oV (vNil x0) fun u8 =>
oV (qYZ 7 u8) fun u9 =>
oV (qWZ ty95 u9 H) fun u10 =>
oV (p1Z 1 u10 x1) fun u11 =>
oV (qWZ ty49 u11 H) fun u12 =>
oV (vNil x0) fun u13 =>
oV (qYZ 6 u13) fun u14 =>
oV (qWZ ty3 u14 H) fun u15 =>
oV (vInt .add x2 (.int .i64 1)) fun u16 =>
p4Z ty22 22 (.slice none 0 0) x3 H fun u17 u18 =>
(qWZ ty3 u14 u18 = some u15 ∧
(qWZ ty49 u11 u18 = some u12 ∧
(qWZ ty95 u9 u18 = some u10 ∧
(qWZ ty95 u6 u18 = some u7 ∧
oV (vBuild ty90 [((0,1), u15), ((1,1), u16), ((2,1), u17)]) fun u19 =>
p3Z ty90 90 1 [((0,3), u19)] u18 fun u20 u21 =>
p4Z ty90 90 u12 u20 u21 fun u22 u23 =>
(qWZ ty95 u6 u23 = some u7 ∧
oV (p1Z 1 u7 x1) fun u24 =>
oHeap (p2Z ty49 u24 u22 u23) fun u25 =>
Q (.returned (.tuple #[])) u25)))))) (
Q (.returned (.tuple #[])) H)
theorem c79_0 (env : Env) (H : Heap) (Q : QT) (h : m79 (env 0) (env 1) (env 2) (env 3) H Q) :
    qUZ Tryd.prog 40 (qSZ Tryd.f79) env H (mkK (rKZ Tryd.f79 Q) (fun _ _ _ => False) (rKZ Tryd.f79 Q) (pKZ Q)) :=
  qUZ.leaf_ (T := T) (X := ext) (hint := hint79) tok xok mixed (by kernel_rfl) h
theorem call79 (a0 a1 a2 a3 : Value) (H : Heap) (Q : QT) (h : m79 a0 a1 a2 a3 H Q) : qVZ Tryd.prog 79 [a0, a1, a2, a3] H Q :=
  qVZ.intro (nt := 40) tok Tryd.func79 (by kernel_rfl) (by kernel_rfl) (by kernel_rfl) (of_decide_eq_true (by kernel_rfl)) (c79_0 (envOf [a0, a1, a2, a3]) H Q h)
def hint109 : Nat → List Nat := p5Z []
def m109 (x0 : Value) (H : Heap) (Q : QT) : Prop :=
oV (vNilOp .eql x0 (.slice none 0 0)) fun u0 =>
p7Z u0 (
Q (.returned (.slice none 0 0)) H) (
p3Z ty52 52 0 [] H fun u1 u2 =>
p4Z ty52 52 u1 x0 u2 fun u3 u4 =>
Q (.returned u3) u4)
theorem c109_0 (env : Env) (H : Heap) (Q : QT) (h : m109 (env 0) H Q) :
    qUZ Tryd.prog 8 (qSZ Tryd.f109) env H (mkK (rKZ Tryd.f109 Q) (fun _ _ _ => False) (rKZ Tryd.f109 Q) (pKZ Q)) :=
  qUZ.leaf_ (T := T) (X := ext) (hint := hint109) tok xok mixed (by kernel_rfl) h
theorem call109 (a0 : Value) (H : Heap) (Q : QT) (h : m109 a0 H Q) : qVZ Tryd.prog 109 [a0] H Q :=
  qVZ.intro (nt := 8) tok Tryd.func109 (by kernel_rfl) (by kernel_rfl) (by kernel_rfl) (of_decide_eq_true (by kernel_rfl)) (c109_0 (envOf [a0]) H Q h)
def hint145 : Nat → List Nat := p5Z []
def m145_1 (H : Heap) (Q : QT) : Prop :=
Q (.returned (.int .i64 (-1))) H
theorem c145_1 (env : Env) (H : Heap) (Q : QT) (h : m145_1 H Q) :
    qUZ Tryd.prog 19 (qRZ [1,1] (qSZ Tryd.f145)) env H (mkK (rKZ Tryd.f145 Q) (fun _ _ _ => False) (rKZ Tryd.f145 Q) (pKZ Q)) :=
  qUZ.leaf_ (T := T) (X := ext) (hint := hint145) tok xok mixed (by kernel_rfl) h
def L145_3 (x0 x1 x7 x8 : Value) (H : Heap) (kn : K0T) (Q : QT) : Prop :=
  ∀ env : Env, env 0 = x0 → env 1 = x1 → env 7 = x7 → env 8 = x8 → RLoop Tryd.prog 19 (qRZ [1,0,1,0,0] (qSZ Tryd.f145)) env H (mkK (fun _ _ => False) (inK 0 (fun e H => kn H) (fun _ _ _ => False)) (rKZ Tryd.f145 Q) (pKZ Q))
theorem cL145_3 (env : Env) (H : Heap) (kn : K0T) (Q : QT) (h : L145_3 (env 0) (env 1) (env 7) (env 8) H kn Q) :
    qUZ Tryd.prog 19 (qRZ [1,0,1] (qSZ Tryd.f145)) env H (mkK (fun e H => kn H) (fun _ _ _ => False) (rKZ Tryd.f145 Q) (pKZ Q)) :=
  qUZ.blk (by kernel_rfl : (qRZ [1,0,1] (qSZ Tryd.f145)) = .block 0 (qRZ [1,0,1,0] (qSZ Tryd.f145))) (qUZ.lp (by kernel_rfl : (qRZ [1,0,1,0] (qSZ Tryd.f145)) = .loop (qRZ [1,0,1,0,0] (qSZ Tryd.f145))) ((h env rfl rfl rfl rfl).mono (qPZ (fun _ _ h => h.elim) (fun _ _ _ h => h) (fun _ _ h => h) (fun _ _ h => h))))
def m145_4 (x0 x1 x7 x8 : Value) (H : Heap) (kn : K4T) (kx0 : K0T) (Q : QT) : Prop :=
oV (vInt .lss x8 x7) fun u0 =>
p7Z u0 (
oV (p1Z 1 x0 x8) fun u1 =>
oV (qWZ ty3 u1 H) fun u2 =>
oV (vInt .eql x1 u2) fun u3 =>
p7Z u3 (
Q (.returned x8) H) (
oV (vInt .add x8 (.int .i64 1)) fun u4 =>
kn x0 x1 x7 u4 H)) (
kx0 H)
theorem c145_4 (env : Env) (H : Heap) (kn : K4T) (kx0 : K0T) (Q : QT) (h : m145_4 (env 0) (env 1) (env 7) (env 8) H kn kx0 Q) :
    qUZ Tryd.prog 19 (qRZ [1,0,1,0,0] (qSZ Tryd.f145)) env H (mkK (fun e H => kn (e 0) (e 1) (e 7) (e 8) H) (inK 0 (fun e H => kx0 H) (fun _ _ _ => False)) (rKZ Tryd.f145 Q) (pKZ Q)) :=
  qUZ.leaf_ (T := T) (X := ext) (hint := hint145) tok xok mixed (by kernel_rfl) h
theorem L145_3_round (x0 x1 x7 x8 : Value) (H : Heap) (kn : K0T) (Q : QT) (h : m145_4 x0 x1 x7 x8 H (fun y0 y1 y7 y8 H => L145_3 y0 y1 y7 y8 H kn Q) kn Q) : L145_3 x0 x1 x7 x8 H kn Q := by
  intro env h0 h1 h7 h8
  subst h0; subst h1; subst h7; subst h8
  exact RLoop.round ((c145_4 env H (fun y0 y1 y7 y8 H => L145_3 y0 y1 y7 y8 H kn Q) kn Q h).mono (qPZ (fun e H h => h e rfl rfl rfl rfl) (fun _ _ _ h => h) (fun _ _ h => h) (fun _ _ h => h)))
def m145_2 (x0 x1 : Value) (H : Heap) (kn : K0T) (Q : QT) : Prop :=
oV (vLen x0) fun u0 =>
L145_3 x0 x1 u0 (.int .i64 0) H kn Q
theorem c145_2 (env : Env) (H : Heap) (kn : K0T) (Q : QT) (h : m145_2 (env 0) (env 1) H kn Q) :
    qUZ Tryd.prog 19 (qRZ [1,0] (qSZ Tryd.f145)) env H (mkK (fun e H => kn H) (fun _ _ _ => False) (rKZ Tryd.f145 Q) (pKZ Q)) :=
  qUZ.prefix_ (T := T) (X := ext) (hint := hint145) (hole := (fun e H => L145_3 (e 0) (e 1) (e 7) (e 8) H kn Q)) tok xok mixed 1 (by kernel_rfl) (by kernel_rfl : qRZ _ _ = (qRZ [1,0,1] (qSZ Tryd.f145))) h
    (fun e H h => (cL145_3 e H kn Q h))
def m145 (x0 x1 : Value) (H : Heap) (Q : QT) : Prop :=
m145_2 x0 x1 H (fun u0 => m145_1 u0 Q) Q
theorem c145_0 (env : Env) (H : Heap) (Q : QT) (h : m145 (env 0) (env 1) H Q) :
    qUZ Tryd.prog 19 (qSZ Tryd.f145) env H (mkK (rKZ Tryd.f145 Q) (fun _ _ _ => False) (rKZ Tryd.f145 Q) (pKZ Q)) :=
  qUZ.prefix_ (T := T) (X := ext) (hint := hint145) (hole := (fun e H => m145_2 (e 0) (e 1) H (fun H_8 => m145_1 H_8 Q) Q)) tok xok mixed 1 (by kernel_rfl) (by kernel_rfl : qRZ _ _ = (qRZ [1] (qSZ Tryd.f145))) h
    (fun e H h => qUZ.join (by kernel_rfl : (qRZ [1] (qSZ Tryd.f145)) = .seq (qRZ [1,0] (qSZ Tryd.f145)) (qRZ [1,1] (qSZ Tryd.f145))) ((c145_2 e H (fun H_9 => m145_1 H_9 Q) Q h).mono (qPZ (fun e H h => c145_1 e H Q h) (fun _ _ _ h => h) (fun _ _ h => h) (fun _ _ h => h))))
theorem call145 (a0 a1 : Value) (H : Heap) (Q : QT) (h : m145 a0 a1 H Q) : qVZ Tryd.prog 145 [a0, a1] H Q :=
  qVZ.intro (nt := 19) tok Tryd.func145 (by kernel_rfl) (by kernel_rfl) (by kernel_rfl) (of_decide_eq_true (by kernel_rfl)) (c145_0 (envOf [a0, a1]) H Q h)
def hint134 : Nat → List Nat := p5Z []
def m134 (x0 x1 : Value) (H : Heap) (Q : QT) : Prop :=
oRC Tryd.prog 145 [x0, x1] H (pKZ Q) fun u0 u1 =>
oV (vInt .geq u0 (.int .i64 0)) fun u2 =>
Q (.returned u2) u1
theorem c134_0 (env : Env) (H : Heap) (Q : QT) (h : m134 (env 0) (env 1) H Q) :
    qUZ Tryd.prog 9 (qSZ Tryd.f134) env H (mkK (rKZ Tryd.f134 Q) (fun _ _ _ => False) (rKZ Tryd.f134 Q) (pKZ Q)) :=
  qUZ.leaf_ (T := T) (X := ext) (hint := hint134) tok xok mixed (by kernel_rfl) h
theorem call134 (a0 a1 : Value) (H : Heap) (Q : QT) (h : m134 a0 a1 H Q) : qVZ Tryd.prog 134 [a0, a1] H Q :=
  qVZ.intro (nt := 9) tok Tryd.func134 (by kernel_rfl) (by kernel_rfl) (by kernel_rfl) (of_decide_eq_true (by kernel_rfl)) (c134_0 (envOf [a0, a1]) H Q h)
def hint110 : Nat → List Nat := p5Z []
def m110 (x0 x1 x2 : Value) (H : Heap) (Q : QT) : Prop :=
oNew (Value.cells x0).toList (Value.cells x0).toList.length 29 H fun u0 u1 =>
oNew (Value.cells x1).toList (Value.cells x1).toList.length 109 u1 fun u2 u3 =>
oV (qYZ 0 (qTZ u2)) fun u4 =>
oV (qWZ ty3 u4 u3) fun u5 =>
oV (vInt .eql u5 x2) fun u6 =>
oV (gV u6 true (qYZ 3 (qTZ u0)) (some undef)) fun u7 =>
oV (gV u6 true (qWZ ty25 u7 u3) (some undef)) fun u8 =>
oV (gV u6 true (qYZ 1 (qTZ u2)) (some undef)) fun u9 =>
oV (gV u6 true (qWZ ty3 u9 u3) (some undef)) fun u10 =>
letK (fun u11 u12 =>
oV (pAZ u6 u11 (.bool false)) fun u13 =>
Q (.returned u13) u12) fun u14 => gK u6 true (oRC Tryd.prog 134 [u8, u10] u3 (pKZ Q) fun u15 u16 =>
u14 u15 u16) (u14 undef u3)
theorem c110_0 (env : Env) (H : Heap) (Q : QT) (h : m110 (env 0) (env 1) (env 2) H Q) :
    qUZ Tryd.prog 18 (qSZ Tryd.f110) env H (mkK (rKZ Tryd.f110 Q) (fun _ _ _ => False) (rKZ Tryd.f110 Q) (pKZ Q)) :=
  qUZ.leaf_ (T := T) (X := ext) (hint := hint110) tok xok mixed (by kernel_rfl) h
theorem call110 (a0 a1 a2 : Value) (H : Heap) (Q : QT) (h : m110 a0 a1 a2 H Q) : qVZ Tryd.prog 110 [a0, a1, a2] H Q :=
  qVZ.intro (nt := 18) tok Tryd.func110 (by kernel_rfl) (by kernel_rfl) (by kernel_rfl) (of_decide_eq_true (by kernel_rfl)) (c110_0 (envOf [a0, a1, a2]) H Q h)
def hint152 : Nat → List Nat := p5Z []
def m152 (x0 : Value) (H : Heap) (Q : QT) : Prop :=
oV (vInt .geq x0 (.int .u64 4294967296)) fun u0 =>
p7Z u0 (
oV (vInt .shr x0 (.int .u64 32)) fun u1 =>
oV (vInt .geq u1 (.int .u64 65536)) fun u2 =>
p7Z u2 (
oV (vInt .shr u1 (.int .u64 16)) fun u3 =>
oV (vInt .add (.int .i64 32) (.int .i64 16)) fun u4 =>
oV (vInt .geq u3 (.int .u64 256)) fun u5 =>
p7Z u5 (
oV (vInt .shr u3 (.int .u64 8)) fun u6 =>
oV (vInt .add u4 (.int .i64 8)) fun u7 =>
oV (vConv (.int .u8) u6) fun u8 =>
oV (vIndexStr (.string { data := #[0,1,2,2,3,3,3,3,4,4,4,4,4,4,4,4,5,5,5,5,5,5,5,5,5,5,5,5,5,5,5,5,6,6,6,6,6,6,6,6,6,6,6,6,6,6,6,6,6,6,6,6,6,6,6,6,6,6,6,6,6,6,6,6,7,7,7,7,7,7,7,7,7,7,7,7,7,7,7,7,7,7,7,7,7,7,7,7,7,7,7,7,7,7,7,7,7,7,7,7,7,7,7,7,7,7,7,7,7,7,7,7,7,7,7,7,7,7,7,7,7,7,7,7,7,7,7,7,8,8,8,8,8,8,8,8,8,8,8,8,8,8,8,8,8,8,8,8,8,8,8,8,8,8,8,8,8,8,8,8,8,8,8,8,8,8,8,8,8,8,8,8,8,8,8,8,8,8,8,8,8,8,8,8,8,8,8,8,8,8,8,8,8,8,8,8,8,8,8,8,8,8,8,8,8,8,8,8,8,8,8,8,8,8,8,8,8,8,8,8,8,8,8,8,8,8,8,8,8,8,8,8,8,8,8,8,8,8,8,8,8,8,8,8,8,8,8,8,8,8,8,8,8,8,8,8] }) u8) fun u9 =>
oV (vConv (.int .i64) u9) fun u10 =>
oV (vInt .add u7 u10) fun u11 =>
Q (.returned u11) H) (
oV (vConv (.int .u8) u3) fun u12 =>
oV (vIndexStr (.string { data := #[0,1,2,2,3,3,3,3,4,4,4,4,4,4,4,4,5,5,5,5,5,5,5,5,5,5,5,5,5,5,5,5,6,6,6,6,6,6,6,6,6,6,6,6,6,6,6,6,6,6,6,6,6,6,6,6,6,6,6,6,6,6,6,6,7,7,7,7,7,7,7,7,7,7,7,7,7,7,7,7,7,7,7,7,7,7,7,7,7,7,7,7,7,7,7,7,7,7,7,7,7,7,7,7,7,7,7,7,7,7,7,7,7,7,7,7,7,7,7,7,7,7,7,7,7,7,7,7,8,8,8,8,8,8,8,8,8,8,8,8,8,8,8,8,8,8,8,8,8,8,8,8,8,8,8,8,8,8,8,8,8,8,8,8,8,8,8,8,8,8,8,8,8,8,8,8,8,8,8,8,8,8,8,8,8,8,8,8,8,8,8,8,8,8,8,8,8,8,8,8,8,8,8,8,8,8,8,8,8,8,8,8,8,8,8,8,8,8,8,8,8,8,8,8,8,8,8,8,8,8,8,8,8,8,8,8,8,8,8,8,8,8,8,8,8,8,8,8,8,8,8,8,8,8,8,8] }) u12) fun u13 =>
oV (vConv (.int .i64) u13) fun u14 =>
oV (vInt .add u4 u14) fun u15 =>
Q (.returned u15) H)) (
oV (vInt .geq u1 (.int .u64 256)) fun u16 =>
p7Z u16 (
oV (vInt .shr u1 (.int .u64 8)) fun u17 =>
oV (vInt .add (.int .i64 32) (.int .i64 8)) fun u18 =>
oV (vConv (.int .u8) u17) fun u19 =>
oV (vIndexStr (.string { data := #[0,1,2,2,3,3,3,3,4,4,4,4,4,4,4,4,5,5,5,5,5,5,5,5,5,5,5,5,5,5,5,5,6,6,6,6,6,6,6,6,6,6,6,6,6,6,6,6,6,6,6,6,6,6,6,6,6,6,6,6,6,6,6,6,7,7,7,7,7,7,7,7,7,7,7,7,7,7,7,7,7,7,7,7,7,7,7,7,7,7,7,7,7,7,7,7,7,7,7,7,7,7,7,7,7,7,7,7,7,7,7,7,7,7,7,7,7,7,7,7,7,7,7,7,7,7,7,7,8,8,8,8,8,8,8,8,8,8,8,8,8,8,8,8,8,8,8,8,8,8,8,8,8,8,8,8,8,8,8,8,8,8,8,8,8,8,8,8,8,8,8,8,8,8,8,8,8,8,8,8,8,8,8,8,8,8,8,8,8,8,8,8,8,8,8,8,8,8,8,8,8,8,8,8,8,8,8,8,8,8,8,8,8,8,8,8,8,8,8,8,8,8,8,8,8,8,8,8,8,8,8,8,8,8,8,8,8,8,8,8,8,8,8,8,8,8,8,8,8,8,8,8,8,8,8,8] }) u19) fun u20 =>
oV (vConv (.int .i64) u20) fun u21 =>
oV (vInt .add u18 u21) fun u22 =>
Q (.returned u22) H) (
oV (vConv (.int .u8) u1) fun u23 =>
oV (vIndexStr (.string { data := #[0,1,2,2,3,3,3,3,4,4,4,4,4,4,4,4,5,5,5,5,5,5,5,5,5,5,5,5,5,5,5,5,6,6,6,6,6,6,6,6,6,6,6,6,6,6,6,6,6,6,6,6,6,6,6,6,6,6,6,6,6,6,6,6,7,7,7,7,7,7,7,7,7,7,7,7,7,7,7,7,7,7,7,7,7,7,7,7,7,7,7,7,7,7,7,7,7,7,7,7,7,7,7,7,7,7,7,7,7,7,7,7,7,7,7,7,7,7,7,7,7,7,7,7,7,7,7,7,8,8,8,8,8,8,8,8,8,8,8,8,8,8,8,8,8,8,8,8,8,8,8,8,8,8,8,8,8,8,8,8,8,8,8,8,8,8,8,8,8,8,8,8,8,8,8,8,8,8,8,8,8,8,8,8,8,8,8,8,8,8,8,8,8,8,8,8,8,8,8,8,8,8,8,8,8,8,8,8,8,8,8,8,8,8,8,8,8,8,8,8,8,8,8,8,8,8,8,8,8,8,8,8,8,8,8,8,8,8,8,8,8,8,8,8,8,8,8,8,8,8,8,8,8,8,8,8] }) u23) fun u24 =>
oV (vConv (.int .i64) u24) fun u25 =>
oV (vInt .add (.int .i64 32) u25) fun u26 =>
Q (.returned u26) H))) (
oV (vInt .geq x0 (.int .u64 65536)) fun u27 =>
p7Z u27 (
oV (vInt .shr x0 (.int .u64 16)) fun u28 =>
oV (vInt .add (.int .i64 0) (.int .i64 16)) fun u29 =>
oV (vInt .geq u28 (.int .u64 256)) fun u30 =>
p7Z u30 (
oV (vInt .shr u28 (.int .u64 8)) fun u31 =>
oV (vInt .add u29 (.int .i64 8)) fun u32 =>
oV (vConv (.int .u8) u31) fun u33 =>
oV (vIndexStr (.string { data := #[0,1,2,2,3,3,3,3,4,4,4,4,4,4,4,4,5,5,5,5,5,5,5,5,5,5,5,5,5,5,5,5,6,6,6,6,6,6,6,6,6,6,6,6,6,6,6,6,6,6,6,6,6,6,6,6,6,6,6,6,6,6,6,6,7,7,7,7,7,7,7,7,7,7,7,7,7,7,7,7,7,7,7,7,7,7,7,7,7,7,7,7,7,7,7,7,7,7,7,7,7,7,7,7,7,7,7,7,7,7,7,7,7,7,7,7,7,7,7,7,7,7,7,7,7,7,7,7,8,8,8,8,8,8,8,8,8,8,8,8,8,8,8,8,8,8,8,8,8,8,8,8,8,8,8,8,8,8,8,8,8,8,8,8,8,8,8,8,8,8,8,8,8,8,8,8,8,8,8,8,8,8,8,8,8,8,8,8,8,8,8,8,8,8,8,8,8,8,8,8,8,8,8,8,8,8,8,8,8,8,8,8,8,8,8,8,8,8,8,8,8,8,8,8,8,8,8,8,8,8,8,8,8,8,8,8,8,8,8,8,8,8,8,8,8,8,8,8,8,8,8,8,8,8,8,8] }) u33) fun u34 =>
oV (vConv (.int .i64) u34) fun u35 =>
oV (vInt .add u32 u35) fun u36 =>
Q (.returned u36) H) (
oV (vConv (.int .u8) u28) fun u37 =>
oV (vIndexStr (.string { data := #[0,1,2,2,3,3,3,3,4,4,4,4,4,4,4,4,5,5,5,5,5,5,5,5,5,5,5,5,5,5,5,5,6,6,6,6,6,6,6,6,6,6,6,6,6,6,6,6,6,6,6,6,6,6,6,6,6,6,6,6,6,6,6,6,7,7,7,7,7,7,7,7,7,7,7,7,7,7,7,7,7,7,7,7,7,7,7,7,7,7,7,7,7,7,7,7,7,7,7,7,7,7,7,7,7,7,7,7,7,7,7,7,7,7,7,7,7,7,7,7,7,7,7,7,7,7,7,7,8,8,8,8,8,8,8,8,8,8,8,8,8,8,8,8,8,8,8,8,8,8,8,8,8,8,8,8,8,8,8,8,8,8,8,8,8,8,8,8,8,8,8,8,8,8,8,8,8,8,8,8,8,8,8,8,8,8,8,8,8,8,8,8,8,8,8,8,8,8,8,8,8,8,8,8,8,8,8,8,8,8,8,8,8,8,8,8,8,8,8,8,8,8,8,8,8,8,8,8,8,8,8,8,8,8,8,8,8,8,8,8,8,8,8,8,8,8,8,8,8,8,8,8,8,8,8,8] }) u37) fun u38 =>
oV (vConv (.int .i64) u38) fun u39 =>
oV (vInt .add u29 u39) fun u40 =>
Q (.returned u40) H)) (
oV (vInt .geq x0 (.int .u64 256)) fun u41 =>
p7Z u41 (
oV (vInt .shr x0 (.int .u64 8)) fun u42 =>
oV (vInt .add (.int .i64 0) (.int .i64 8)) fun u43 =>
oV (vConv (.int .u8) u42) fun u44 =>
oV (vIndexStr (.string { data := #[0,1,2,2,3,3,3,3,4,4,4,4,4,4,4,4,5,5,5,5,5,5,5,5,5,5,5,5,5,5,5,5,6,6,6,6,6,6,6,6,6,6,6,6,6,6,6,6,6,6,6,6,6,6,6,6,6,6,6,6,6,6,6,6,7,7,7,7,7,7,7,7,7,7,7,7,7,7,7,7,7,7,7,7,7,7,7,7,7,7,7,7,7,7,7,7,7,7,7,7,7,7,7,7,7,7,7,7,7,7,7,7,7,7,7,7,7,7,7,7,7,7,7,7,7,7,7,7,8,8,8,8,8,8,8,8,8,8,8,8,8,8,8,8,8,8,8,8,8,8,8,8,8,8,8,8,8,8,8,8,8,8,8,8,8,8,8,8,8,8,8,8,8,8,8,8,8,8,8,8,8,8,8,8,8,8,8,8,8,8,8,8,8,8,8,8,8,8,8,8,8,8,8,8,8,8,8,8,8,8,8,8,8,8,8,8,8,8,8,8,8,8,8,8,8,8,8,8,8,8,8,8,8,8,8,8,8,8,8,8,8,8,8,8,8,8,8,8,8,8,8,8,8,8,8,8] }) u44) fun u45 =>
oV (vConv (.int .i64) u45) fun u46 =>
oV (vInt .add u43 u46) fun u47 =>
Q (.returned u47) H) (
oV (vConv (.int .u8) x0) fun u48 =>
oV (vIndexStr (.string { data := #[0,1,2,2,3,3,3,3,4,4,4,4,4,4,4,4,5,5,5,5,5,5,5,5,5,5,5,5,5,5,5,5,6,6,6,6,6,6,6,6,6,6,6,6,6,6,6,6,6,6,6,6,6,6,6,6,6,6,6,6,6,6,6,6,7,7,7,7,7,7,7,7,7,7,7,7,7,7,7,7,7,7,7,7,7,7,7,7,7,7,7,7,7,7,7,7,7,7,7,7,7,7,7,7,7,7,7,7,7,7,7,7,7,7,7,7,7,7,7,7,7,7,7,7,7,7,7,7,8,8,8,8,8,8,8,8,8,8,8,8,8,8,8,8,8,8,8,8,8,8,8,8,8,8,8,8,8,8,8,8,8,8,8,8,8,8,8,8,8,8,8,8,8,8,8,8,8,8,8,8,8,8,8,8,8,8,8,8,8,8,8,8,8,8,8,8,8,8,8,8,8,8,8,8,8,8,8,8,8,8,8,8,8,8,8,8,8,8,8,8,8,8,8,8,8,8,8,8,8,8,8,8,8,8,8,8,8,8,8,8,8,8,8,8,8,8,8,8,8,8,8,8,8,8,8,8] }) u48) fun u49 =>
oV (vConv (.int .i64) u49) fun u50 =>
oV (vInt .add (.int .i64 0) u50) fun u51 =>
Q (.returned u51) H)))
theorem c152_0 (env : Env) (H : Heap) (Q : QT) (h : m152 (env 0) H Q) :
    qUZ Tryd.prog 25 (qSZ Tryd.f152) env H (mkK (rKZ Tryd.f152 Q) (fun _ _ _ => False) (rKZ Tryd.f152 Q) (pKZ Q)) :=
  qUZ.leaf_ (T := T) (X := ext) (hint := hint152) tok xok mixed (by kernel_rfl) h
theorem call152 (a0 : Value) (H : Heap) (Q : QT) (h : m152 a0 H Q) : qVZ Tryd.prog 152 [a0] H Q :=
  qVZ.intro (nt := 25) tok Tryd.func152 (by kernel_rfl) (by kernel_rfl) (by kernel_rfl) (of_decide_eq_true (by kernel_rfl)) (c152_0 (envOf [a0]) H Q h)
def hint150 : Nat → List Nat := p5Z []
def m150 (x0 : Value) (H : Heap) (Q : QT) : Prop :=
oRC Tryd.prog 152 [x0] H (pKZ Q) fun u0 u1 =>
oV (vConv (.int .u64) u0) fun u2 =>
Q (.returned u2) u1
theorem c150_0 (env : Env) (H : Heap) (Q : QT) (h : m150 (env 0) H Q) :
    qUZ Tryd.prog 6 (qSZ Tryd.f150) env H (mkK (rKZ Tryd.f150 Q) (fun _ _ _ => False) (rKZ Tryd.f150 Q) (pKZ Q)) :=
  qUZ.leaf_ (T := T) (X := ext) (hint := hint150) tok xok mixed (by kernel_rfl) h
theorem call150 (a0 : Value) (H : Heap) (Q : QT) (h : m150 a0 H Q) : qVZ Tryd.prog 150 [a0] H Q :=
  qVZ.intro (nt := 6) tok Tryd.func150 (by kernel_rfl) (by kernel_rfl) (by kernel_rfl) (of_decide_eq_true (by kernel_rfl)) (c150_0 (envOf [a0]) H Q h)
def hint146 : Nat → List Nat := p5Z []
def m146_1 (x0 x2 : Value) (H : Heap) (Q : QT) : Prop :=
oV (vInt .eql x2 x0) fun u0 =>
p7Z u0 (
Q (.returned (.int .u64 0)) H) (
Q (.returned x2) H)
theorem c146_1 (env : Env) (H : Heap) (Q : QT) (h : m146_1 (env 0) (env 2) H Q) :
    qUZ Tryd.prog 48 (qRZ [1,1,1] (qSZ Tryd.f146)) env H (mkK (rKZ Tryd.f146 Q) (fun _ _ _ => False) (rKZ Tryd.f146 Q) (pKZ Q)) :=
  qUZ.leaf_ (T := T) (X := ext) (hint := hint146) tok xok mixed (by kernel_rfl) h
def L146_2 (x0 x1 x2 x7 : Value) (H : Heap) (kn : K2T) (Q : QT) : Prop :=
  ∀ env : Env, env 0 = x0 → env 1 = x1 → env 2 = x2 → env 7 = x7 → RLoop Tryd.prog 48 (qRZ [1,1,0,0,0] (qSZ Tryd.f146)) env H (mkK (fun _ _ => False) (inK 0 (fun e H => kn (e 0) (e 2) H) (fun _ _ _ => False)) (rKZ Tryd.f146 Q) (pKZ Q))
theorem cL146_2 (env : Env) (H : Heap) (kn : K2T) (Q : QT) (h : L146_2 (env 0) (env 1) (env 2) (env 7) H kn Q) :
    qUZ Tryd.prog 48 (qRZ [1,1,0] (qSZ Tryd.f146)) env H (mkK (fun e H => kn (e 0) (e 2) H) (fun _ _ _ => False) (rKZ Tryd.f146 Q) (pKZ Q)) :=
  qUZ.blk (by kernel_rfl : (qRZ [1,1,0] (qSZ Tryd.f146)) = .block 0 (qRZ [1,1,0,0] (qSZ Tryd.f146))) (qUZ.lp (by kernel_rfl : (qRZ [1,1,0,0] (qSZ Tryd.f146)) = .loop (qRZ [1,1,0,0,0] (qSZ Tryd.f146))) ((h env rfl rfl rfl rfl).mono (qPZ (fun _ _ h => h.elim) (fun _ _ _ h => h) (fun _ _ h => h) (fun _ _ h => h))))
def m146_3 (x0 x1 x2 x7 : Value) (H : Heap) (kn : K4T) (kx0 : K2T) (Q : QT) : Prop :=
oV (vInt .neq x1 (.int .u64 0)) fun u0 =>
oV (gV u0 false (some x2) (some undef)) fun u1 =>
oV (gV u0 false (some x0) (some undef)) fun u2 =>
oV (gV u0 false (vInt .gtr u1 u2) (some undef)) fun u3 =>
oV (pAZ u0 (.bool true) u3) fun u4 =>
p7Z u4 (
oV (vInt .and x2 x0) fun u5 =>
oV (vInt .shr x2 x7) fun u6 =>
oV (vInt .sub (.int .u64 64) x7) fun u7 =>
oV (vInt .shl x1 u7) fun u8 =>
oV (vInt .or u6 u8) fun u9 =>
oV (vInt .shr x1 x7) fun u10 =>
oV (vAdd64 [u9, u5, (.int .u64 0)]) fun u11 =>
oV (p0Z u11 0) fun u12 =>
oV (p0Z u11 1) fun u13 =>
oV (vInt .add u10 u13) fun u14 =>
kn x0 u14 u12 x7 H) (
kx0 x0 x2 H)
theorem c146_3 (env : Env) (H : Heap) (kn : K4T) (kx0 : K2T) (Q : QT) (h : m146_3 (env 0) (env 1) (env 2) (env 7) H kn kx0 Q) :
    qUZ Tryd.prog 48 (qRZ [1,1,0,0,0] (qSZ Tryd.f146)) env H (mkK (fun e H => kn (e 0) (e 1) (e 2) (e 7) H) (inK 0 (fun e H => kx0 (e 0) (e 2) H) (fun _ _ _ => False)) (rKZ Tryd.f146 Q) (pKZ Q)) :=
  qUZ.leaf_ (T := T) (X := ext) (hint := hint146) tok xok mixed (by kernel_rfl) h
theorem L146_2_round (x0 x1 x2 x7 : Value) (H : Heap) (kn : K2T) (Q : QT) (h : m146_3 x0 x1 x2 x7 H (fun y0 y1 y2 y7 H => L146_2 y0 y1 y2 y7 H kn Q) kn Q) : L146_2 x0 x1 x2 x7 H kn Q := by
  intro env h0 h1 h2 h7
  subst h0; subst h1; subst h2; subst h7
  exact RLoop.round ((c146_3 env H (fun y0 y1 y2 y7 H => L146_2 y0 y1 y2 y7 H kn Q) kn Q h).mono (qPZ (fun e H h => h e rfl rfl rfl rfl) (fun _ _ _ h => h) (fun _ _ h => h) (fun _ _ h => h)))
def m146 (x0 x1 x2 : Value) (H : Heap) (Q : QT) : Prop :=
oRC Tryd.prog 150 [x0] H (pKZ Q) fun u0 u1 =>
L146_2 x0 x1 x2 u0 u1 (fun u2 u3 u4 => m146_1 u2 u3 u4 Q) Q
theorem c146_0 (env : Env) (H : Heap) (Q : QT) (h : m146 (env 0) (env 1) (env 2) H Q) :
    qUZ Tryd.prog 48 (qSZ Tryd.f146) env H (mkK (rKZ Tryd.f146 Q) (fun _ _ _ => False) (rKZ Tryd.f146 Q) (pKZ Q)) :=
  qUZ.prefix_ (T := T) (X := ext) (hint := hint146) (hole := (fun e H => L146_2 (e 0) (e 1) (e 2) (e 7) H (fun y0_23 y2_24 H_25 => m146_1 y0_23 y2_24 H_25 Q) Q)) tok xok mixed 2 (by kernel_rfl) (by kernel_rfl : qRZ _ _ = (qRZ [1,1] (qSZ Tryd.f146))) h
    (fun e H h => qUZ.join (by kernel_rfl : (qRZ [1,1] (qSZ Tryd.f146)) = .seq (qRZ [1,1,0] (qSZ Tryd.f146)) (qRZ [1,1,1] (qSZ Tryd.f146))) ((cL146_2 e H (fun y0_26 y2_27 H_28 => m146_1 y0_26 y2_27 H_28 Q) Q h).mono (qPZ (fun e H h => c146_1 e H Q h) (fun _ _ _ h => h) (fun _ _ h => h) (fun _ _ h => h))))
theorem call146 (a0 a1 a2 : Value) (H : Heap) (Q : QT) (h : m146 a0 a1 a2 H Q) : qVZ Tryd.prog 146 [a0, a1, a2] H Q :=
  qVZ.intro (nt := 48) tok Tryd.func146 (by kernel_rfl) (by kernel_rfl) (by kernel_rfl) (of_decide_eq_true (by kernel_rfl)) (c146_0 (envOf [a0, a1, a2]) H Q h)
def hint135 : Nat → List Nat := p5Z []
def m135 (x0 x1 : Value) (H : Heap) (Q : QT) : Prop :=
oRC Tryd.prog 146 [x0, (.int .u64 0), x1] H (pKZ Q) fun u0 u1 =>
Q (.returned u0) u1
theorem c135_0 (env : Env) (H : Heap) (Q : QT) (h : m135 (env 0) (env 1) H Q) :
    qUZ Tryd.prog 8 (qSZ Tryd.f135) env H (mkK (rKZ Tryd.f135 Q) (fun _ _ _ => False) (rKZ Tryd.f135 Q) (pKZ Q)) :=
  qUZ.leaf_ (T := T) (X := ext) (hint := hint135) tok xok mixed (by kernel_rfl) h
theorem call135 (a0 a1 : Value) (H : Heap) (Q : QT) (h : m135 a0 a1 H Q) : qVZ Tryd.prog 135 [a0, a1] H Q :=
  qVZ.intro (nt := 8) tok Tryd.func135 (by kernel_rfl) (by kernel_rfl) (by kernel_rfl) (of_decide_eq_true (by kernel_rfl)) (c135_0 (envOf [a0, a1]) H Q h)
def hint136 : Nat → List Nat := p5Z []
def m136 (x0 : Value) (H : Heap) (Q : QT) : Prop :=
oV (vNilOp .eql x0 (.slice none 0 0)) fun u0 =>
p7Z u0 (
Q (.returned (.slice none 0 0)) H) (
p3Z ty22 22 0 [] H fun u1 u2 =>
p4Z ty22 22 u1 x0 u2 fun u3 u4 =>
Q (.returned u3) u4)
theorem c136_0 (env : Env) (H : Heap) (Q : QT) (h : m136 (env 0) H Q) :
    qUZ Tryd.prog 8 (qSZ Tryd.f136) env H (mkK (rKZ Tryd.f136 Q) (fun _ _ _ => False) (rKZ Tryd.f136 Q) (pKZ Q)) :=
  qUZ.leaf_ (T := T) (X := ext) (hint := hint136) tok xok mixed (by kernel_rfl) h
theorem call136 (a0 : Value) (H : Heap) (Q : QT) (h : m136 a0 H Q) : qVZ Tryd.prog 136 [a0] H Q :=
  qVZ.intro (nt := 8) tok Tryd.func136 (by kernel_rfl) (by kernel_rfl) (by kernel_rfl) (of_decide_eq_true (by kernel_rfl)) (c136_0 (envOf [a0]) H Q h)
def hint137 : Nat → List Nat := p5Z []
def m137 (x0 x1 x2 : Value) (H : Heap) (Q : QT) : Prop :=
oV (vInt .add x1 x2) fun u0 =>
oRC Tryd.prog 146 [x0, (.int .u64 0), u0] H (pKZ Q) fun u1 u2 =>
Q (.returned u1) u2
theorem c137_0 (env : Env) (H : Heap) (Q : QT) (h : m137 (env 0) (env 1) (env 2) H Q) :
    qUZ Tryd.prog 12 (qSZ Tryd.f137) env H (mkK (rKZ Tryd.f137 Q) (fun _ _ _ => False) (rKZ Tryd.f137 Q) (pKZ Q)) :=
  qUZ.leaf_ (T := T) (X := ext) (hint := hint137) tok xok mixed (by kernel_rfl) h
theorem call137 (a0 a1 a2 : Value) (H : Heap) (Q : QT) (h : m137 a0 a1 a2 H Q) : qVZ Tryd.prog 137 [a0, a1, a2] H Q :=
  qVZ.intro (nt := 12) tok Tryd.func137 (by kernel_rfl) (by kernel_rfl) (by kernel_rfl) (of_decide_eq_true (by kernel_rfl)) (c137_0 (envOf [a0, a1, a2]) H Q h)
def hint138 : Nat → List Nat := p5Z []
def m138 (x0 x1 : Value) (H : Heap) (Q : QT) : Prop :=
oV (vInt .lss x1 (.int .i64 0)) fun u0 =>
oV (gV u0 false (some x1) (some undef)) fun u1 =>
oV (gV u0 false (some x0) (some undef)) fun u2 =>
oV (gV u0 false (vLen u2) (some undef)) fun u3 =>
oV (gV u0 false (vInt .geq u1 u3) (some undef)) fun u4 =>
oV (pAZ u0 (.bool true) u4) fun u5 =>
p7Z u5 (
Q (.returned (.int .u64 0)) H) (
oV (p1Z 1 x0 x1) fun u6 =>
oV (qWZ ty22 u6 H) fun u7 =>
Q (.returned u7) H)
theorem c138_0 (env : Env) (H : Heap) (Q : QT) (h : m138 (env 0) (env 1) H Q) :
    qUZ Tryd.prog 17 (qSZ Tryd.f138) env H (mkK (rKZ Tryd.f138 Q) (fun _ _ _ => False) (rKZ Tryd.f138 Q) (pKZ Q)) :=
  qUZ.leaf_ (T := T) (X := ext) (hint := hint138) tok xok mixed (by kernel_rfl) h
theorem call138 (a0 a1 : Value) (H : Heap) (Q : QT) (h : m138 a0 a1 H Q) : qVZ Tryd.prog 138 [a0, a1] H Q :=
  qVZ.intro (nt := 17) tok Tryd.func138 (by kernel_rfl) (by kernel_rfl) (by kernel_rfl) (of_decide_eq_true (by kernel_rfl)) (c138_0 (envOf [a0, a1]) H Q h)
def hint147 : Nat → List Nat := p5Z []
def m147 (x0 x1 : Value) (H : Heap) (Q : QT) : Prop :=
oV (vInt .and x0 (.int .u64 4294967295)) fun u0 =>
oV (vInt .shr x0 (.int .u64 32)) fun u1 =>
oV (vInt .and x1 (.int .u64 4294967295)) fun u2 =>
oV (vInt .shr x1 (.int .u64 32)) fun u3 =>
oV (vInt .mul u0 u2) fun u4 =>
oV (vInt .mul u1 u2) fun u5 =>
oV (vInt .shr u4 (.int .u64 32)) fun u6 =>
oV (vInt .add u5 u6) fun u7 =>
oV (vInt .and u7 (.int .u64 4294967295)) fun u8 =>
oV (vInt .shr u7 (.int .u64 32)) fun u9 =>
oV (vInt .mul u0 u3) fun u10 =>
oV (vInt .add u8 u10) fun u11 =>
oV (vInt .mul u1 u3) fun u12 =>
oV (vInt .add u12 u9) fun u13 =>
oV (vInt .shr u11 (.int .u64 32)) fun u14 =>
oV (vInt .add u13 u14) fun u15 =>
oV (vInt .mul x0 x1) fun u16 =>
Q (.returned (.tuple #[u15, u16])) H
theorem c147_0 (env : Env) (H : Heap) (Q : QT) (h : m147 (env 0) (env 1) H Q) :
    qUZ Tryd.prog 51 (qSZ Tryd.f147) env H (mkK (rKZ Tryd.f147 Q) (fun _ _ _ => False) (rKZ Tryd.f147 Q) (pKZ Q)) :=
  qUZ.leaf_ (T := T) (X := ext) (hint := hint147) tok xok mixed (by kernel_rfl) h
theorem call147 (a0 a1 : Value) (H : Heap) (Q : QT) (h : m147 a0 a1 H Q) : qVZ Tryd.prog 147 [a0, a1] H Q :=
  qVZ.intro (nt := 51) tok Tryd.func147 (by kernel_rfl) (by kernel_rfl) (by kernel_rfl) (of_decide_eq_true (by kernel_rfl)) (c147_0 (envOf [a0, a1]) H Q h)
def hint139 : Nat → List Nat := p5Z []
def m139 (x0 x1 x2 : Value) (H : Heap) (Q : QT) : Prop :=
oRC Tryd.prog 147 [x1, x2] H (pKZ Q) fun u0 u1 =>
oV (p0Z u0 0) fun u2 =>
oV (p0Z u0 1) fun u3 =>
oRC Tryd.prog 146 [x0, u2, u3] u1 (pKZ Q) fun u4 u5 =>
Q (.returned u4) u5
theorem c139_0 (env : Env) (H : Heap) (Q : QT) (h : m139 (env 0) (env 1) (env 2) H Q) :
    qUZ Tryd.prog 19 (qSZ Tryd.f139) env H (mkK (rKZ Tryd.f139 Q) (fun _ _ _ => False) (rKZ Tryd.f139 Q) (pKZ Q)) :=
  qUZ.leaf_ (T := T) (X := ext) (hint := hint139) tok xok mixed (by kernel_rfl) h
theorem call139 (a0 a1 a2 : Value) (H : Heap) (Q : QT) (h : m139 a0 a1 a2 H Q) : qVZ Tryd.prog 139 [a0, a1, a2] H Q :=
  qVZ.intro (nt := 19) tok Tryd.func139 (by kernel_rfl) (by kernel_rfl) (by kernel_rfl) (of_decide_eq_true (by kernel_rfl)) (c139_0 (envOf [a0, a1, a2]) H Q h)
def hint111 : Nat → List Nat := p5Z [(12, [0,1,2,3,4,5,6,7,8,9,10,11,12]), (17, [0,1,2,3,4,5,6,7,8,9,10,11,12,13,14,15])]
def m111 (x0 x1 x2 x3 : Value) (H : Heap) (Q : QT) : Prop :=
oNew (Value.cells x0).toList (Value.cells x0).toList.length 29 H fun u0 u1 =>
oNew (Value.cells x1).toList (Value.cells x1).toList.length 109 u1 fun u2 u3 =>
oV (qYZ 4 (qTZ u2)) fun u4 =>
oV (qWZ ty3 u4 u3) fun u5 =>
oV (vInt .eql u5 (.int .i64 4)) fun u6 =>
p7Z u6 (
Q (.returned (.slice none 0 0)) u3) (
oV (qYZ 3 (qTZ u2)) fun u7 =>
oV (qWZ ty3 u7 u3) fun u8 =>
oV (vLen x2) fun u9 =>
oV (vInt .geq u8 u9) fun u10 =>
p7Z u10 (
Q (.returned x2) u3) (
oV (qYZ 0 (qTZ u0)) fun u11 =>
oV (qYZ 0 u11) fun u12 =>
oV (qWZ ty22 u12 u3) fun u13 =>
oV (qYZ 5 (qTZ u2)) fun u14 =>
oV (qWZ ty22 u14 u3) fun u15 =>
oRC Tryd.prog 135 [u13, u15] u3 (pKZ Q) fun u16 u17 =>
oRC Tryd.prog 136 [x2] u17 (pKZ Q) fun u18 u19 =>
oV (qYZ 4 (qTZ u2)) fun u20 =>
oV (qWZ ty3 u20 u19) fun u21 =>
oV (vInt .eql u21 (.int .i64 1)) fun u22 =>
p7Z u22 (
oV (qYZ 3 (qTZ u2)) fun u23 =>
oV (qWZ ty3 u23 u19) fun u24 =>
oV (p1Z 1 u18 u24) fun u25 =>
oHeap (p2Z ty22 u25 u16 u19) fun u26 =>
Q (.returned u18) u26) (
oV (vInt .eql u21 (.int .i64 2)) fun u27 =>
p7Z u27 (
oV (qYZ 3 (qTZ u2)) fun u28 =>
oV (qWZ ty3 u28 u19) fun u29 =>
oV (qYZ 3 (qTZ u2)) fun u30 =>
oV (qWZ ty3 u30 u19) fun u31 =>
oV (p1Z 1 u18 u31) fun u32 =>
oV (qWZ ty22 u32 u19) fun u33 =>
oRC Tryd.prog 137 [u13, u33, u16] u19 noP fun u34 u35 =>
(qWZ ty3 u28 u35 = some u29 ∧
oV (p1Z 1 u18 u29) fun u36 =>
oHeap (p2Z ty22 u36 u34 u35) fun u37 =>
Q (.returned u18) u37)) (
oV (vInt .eql u21 (.int .i64 3)) fun u38 =>
p7Z u38 (
oV (qYZ 3 (qTZ u0)) fun u39 =>
oV (qWZ ty25 u39 u19) fun u40 =>
oV (qYZ 6 (qTZ u2)) fun u41 =>
oV (qWZ ty3 u41 u19) fun u42 =>
oRC Tryd.prog 134 [u40, u42] u19 (pKZ Q) fun u43 u44 =>
oV (vUn .not u43) fun u45 =>
p7Z u45 (
oV (qYZ 7 (qTZ u2)) fun u46 =>
oV (qWZ ty3 u46 u44) fun u47 =>
oRC Tryd.prog 138 [x3, u47] u44 (pKZ Q) fun u48 u49 =>
oV (qYZ 3 (qTZ u2)) fun u50 =>
oV (qWZ ty3 u50 u49) fun u51 =>
oV (qYZ 3 (qTZ u2)) fun u52 =>
oV (qWZ ty3 u52 u49) fun u53 =>
oV (p1Z 1 u18 u53) fun u54 =>
oV (qWZ ty22 u54 u49) fun u55 =>
oRC Tryd.prog 139 [u13, u16, u48] u49 noP fun u56 u57 =>
(qWZ ty22 u54 u57 = some u55 ∧
(qWZ ty3 u52 u57 = some u53 ∧
(qWZ ty3 u50 u57 = some u51 ∧
oRC Tryd.prog 137 [u13, u55, u56] u57 noP fun u58 u59 =>
(qWZ ty3 u50 u59 = some u51 ∧
oV (p1Z 1 u18 u51) fun u60 =>
oHeap (p2Z ty22 u60 u58 u59) fun u61 =>
Q (.returned u18) u61))))) (
oV (qYZ 3 (qTZ u2)) fun u62 =>
oV (qWZ ty3 u62 u44) fun u63 =>
oV (qYZ 3 (qTZ u2)) fun u64 =>
oV (qWZ ty3 u64 u44) fun u65 =>
oV (p1Z 1 u18 u65) fun u66 =>
oV (qWZ ty22 u66 u44) fun u67 =>
oRC Tryd.prog 139 [u13, u16, (.int .u64 0)] u44 noP fun u68 u69 =>
(qWZ ty22 u66 u69 = some u67 ∧
(qWZ ty3 u64 u69 = some u65 ∧
(qWZ ty3 u62 u69 = some u63 ∧
oRC Tryd.prog 137 [u13, u67, u68] u69 noP fun u70 u71 =>
(qWZ ty3 u62 u71 = some u63 ∧
oV (p1Z 1 u18 u63) fun u72 =>
oHeap (p2Z ty22 u72 u70 u71) fun u73 =>
Q (.returned u18) u73)))))) (
Q (.returned u18) u19)))))
theorem c111_0 (env : Env) (H : Heap) (Q : QT) (h : m111 (env 0) (env 1) (env 2) (env 3) H Q) :
    qUZ Tryd.prog 81 (qSZ Tryd.f111) env H (mkK (rKZ Tryd.f111 Q) (fun _ _ _ => False) (rKZ Tryd.f111 Q) (pKZ Q)) :=
  qUZ.leaf_ (T := T) (X := ext) (hint := hint111) tok xok mixed (by kernel_rfl) h
theorem call111 (a0 a1 a2 a3 : Value) (H : Heap) (Q : QT) (h : m111 a0 a1 a2 a3 H Q) : qVZ Tryd.prog 111 [a0, a1, a2, a3] H Q :=
  qVZ.intro (nt := 81) tok Tryd.func111 (by kernel_rfl) (by kernel_rfl) (by kernel_rfl) (of_decide_eq_true (by kernel_rfl)) (c111_0 (envOf [a0, a1, a2, a3]) H Q h)
def hint80 : Nat → List Nat := p5Z [(13, [0,1,2,3,4,5,6,7,8,9,10,11]), (18, [0,1,2,3,4,5,6,7,8,9,10,11,12,13,14,15,16,17,18,19,20,21])]
def m80_2 (x7 : Value) (H : Heap) (Q : QT) : Prop :=
Q (.returned x7) H
theorem c80_2 (env : Env) (H : Heap) (Q : QT) (h : m80_2 (env 7) H Q) :
    qUZ Tryd.prog 107 (qRZ [1,1,1,1] (qSZ Tryd.f80)) env H (mkK (rKZ Tryd.f80 Q) (fun _ _ _ => False) (rKZ Tryd.f80 Q) (pKZ Q)) :=
  qUZ.leaf_ (T := T) (X := ext) (hint := hint80) tok xok mixed (by kernel_rfl) h
def L80_4 (x1 x2 x3 x7 x31 x32 x33 : Value) (H : Heap) (kn : K1T) (Q : QT) : Prop :=
  ∀ env : Env, env 1 = x1 → env 2 = x2 → env 3 = x3 → env 7 = x7 → env 31 = x31 → env 32 = x32 → env 33 = x33 → RLoop Tryd.prog 107 (qRZ [1,1,1,0,1,0,0] (qSZ Tryd.f80)) env H (mkK (fun _ _ => False) (inK 2 (fun e H => kn (e 7) H) (fun _ _ _ => False)) (rKZ Tryd.f80 Q) (pKZ Q))
theorem cL80_4 (env : Env) (H : Heap) (kn : K1T) (Q : QT) (h : L80_4 (env 1) (env 2) (env 3) (env 7) (env 31) (env 32) (env 33) H kn Q) :
    qUZ Tryd.prog 107 (qRZ [1,1,1,0,1] (qSZ Tryd.f80)) env H (mkK (fun e H => kn (e 7) H) (fun _ _ _ => False) (rKZ Tryd.f80 Q) (pKZ Q)) :=
  qUZ.blk (by kernel_rfl : (qRZ [1,1,1,0,1] (qSZ Tryd.f80)) = .block 2 (qRZ [1,1,1,0,1,0] (qSZ Tryd.f80))) (qUZ.lp (by kernel_rfl : (qRZ [1,1,1,0,1,0] (qSZ Tryd.f80)) = .loop (qRZ [1,1,1,0,1,0,0] (qSZ Tryd.f80))) ((h env rfl rfl rfl rfl rfl rfl rfl).mono (qPZ (fun _ _ h => h.elim) (fun _ _ _ h => h) (fun _ _ h => h) (fun _ _ h => h))))
def m80_6 (x1 x2 x3 x7 x31 x32 x33 : Value) (H : Heap) (kn : K7T) (kx2 : K1T) (Q : QT) : Prop :=
oV (vInt .add x33 (.int .i64 1)) fun u0 =>
kn x1 x2 x3 x7 x31 x32 u0 H
theorem c80_6 (env : Env) (H : Heap) (kn : K7T) (kx2 : K1T) (Q : QT) (h : m80_6 (env 1) (env 2) (env 3) (env 7) (env 31) (env 32) (env 33) H kn kx2 Q) :
    qUZ Tryd.prog 107 (qRZ [1,1,1,0,1,0,0,1,1,1] (qSZ Tryd.f80)) env H (mkK (fun e H => kn (e 1) (e 2) (e 3) (e 7) (e 31) (e 32) (e 33) H) (inK 2 (fun e H => kx2 (e 7) H) (fun _ _ _ => False)) (rKZ Tryd.f80 Q) (pKZ Q)) :=
  qUZ.leaf_ (T := T) (X := ext) (hint := hint80) tok xok mixed (by kernel_rfl) h
def L80_10 (x1 x2 x3 x7 x11 x12 x31 x32 x33 x62 x63 : Value) (H : Heap) (kn : K7T) (kx3 : K7T) (kx2 : K1T) (Q : QT) : Prop :=
  ∀ env : Env, env 1 = x1 → env 2 = x2 → env 3 = x3 → env 7 = x7 → env 11 = x11 → env 12 = x12 → env 31 = x31 → env 32 = x32 → env 33 = x33 → env 62 = x62 → env 63 = x63 → RLoop Tryd.prog 107 (qRZ [1,1,1,0,1,0,0,1,1,0,0,1,1,1,1,1,0,0] (qSZ Tryd.f80)) env H (mkK (fun _ _ => False) (inK 4 (fun e H => kn (e 1) (e 2) (e 3) (e 7) (e 31) (e 32) (e 33) H) (inK 3 (fun e H => kx3 (e 1) (e 2) (e 3) (e 7) (e 31) (e 32) (e 33) H) (inK 2 (fun e H => kx2 (e 7) H) (fun _ _ _ => False)))) (rKZ Tryd.f80 Q) (pKZ Q))
theorem cL80_10 (env : Env) (H : Heap) (kn : K7T) (kx3 : K7T) (kx2 : K1T) (Q : QT) (h : L80_10 (env 1) (env 2) (env 3) (env 7) (env 11) (env 12) (env 31) (env 32) (env 33) (env 62) (env 63) H kn kx3 kx2 Q) :
    qUZ Tryd.prog 107 (qRZ [1,1,1,0,1,0,0,1,1,0,0,1,1,1,1,1] (qSZ Tryd.f80)) env H (mkK (fun e H => kn (e 1) (e 2) (e 3) (e 7) (e 31) (e 32) (e 33) H) (inK 3 (fun e H => kx3 (e 1) (e 2) (e 3) (e 7) (e 31) (e 32) (e 33) H) (inK 2 (fun e H => kx2 (e 7) H) (fun _ _ _ => False))) (rKZ Tryd.f80 Q) (pKZ Q)) :=
  qUZ.blk (by kernel_rfl : (qRZ [1,1,1,0,1,0,0,1,1,0,0,1,1,1,1,1] (qSZ Tryd.f80)) = .block 4 (qRZ [1,1,1,0,1,0,0,1,1,0,0,1,1,1,1,1,0] (qSZ Tryd.f80))) (qUZ.lp (by kernel_rfl : (qRZ [1,1,1,0,1,0,0,1,1,0,0,1,1,1,1,1,0] (qSZ Tryd.f80)) = .loop (qRZ [1,1,1,0,1,0,0,1,1,0,0,1,1,1,1,1,0,0] (qSZ Tryd.f80))) ((h env rfl rfl rfl rfl rfl rfl rfl rfl rfl rfl rfl).mono (qPZ (fun _ _ h => h.elim) (fun _ _ _ h => h) (fun _ _ h => h) (fun _ _ h => h))))
def m80_11 (x1 x2 x3 x7 x11 x12 x31 x32 x33 x62 x63 : Value) (H : Heap) (kn : K11T) (kx4 : K7T) (kx3 : K7T) (kx2 : K1T) (Q : QT) : Prop :=
oV (vInt .lss x63 x62) fun u0 =>
p7Z u0 (
oV (vInt .add x63 (.int .i64 1)) fun u1 =>
oV (qYZ 1 x11) fun u2 =>
oV (qWZ ty3 u2 H) fun u3 =>
oV (vInt .neq u1 u3) fun u4 =>
oV (gV u4 true (qYZ 2 x11) (some undef)) fun u5 =>
oV (gV u4 true (qWZ ty3 u5 H) (some undef)) fun u6 =>
oV (gV u4 true (vInt .eql u6 (.int .i64 0)) (some undef)) fun u7 =>
oV (gV u4 true (some u7) (some undef)) fun u8 =>
oV (gV u8 false (qYZ 2 x11) (some undef)) fun u9 =>
oV (gV u8 false (qWZ ty3 u9 H) (some undef)) fun u10 =>
oV (gV u8 false (some x63) (some undef)) fun u11 =>
oV (gV u8 false (vInt .add u11 (.int .i64 1)) (some undef)) fun u12 =>
oV (gV u8 false (vInt .eql u10 u12) (some undef)) fun u13 =>
oV (gV u4 true (pAZ u8 (.bool true) u13) (some undef)) fun u14 =>
oV (pAZ u4 u14 (.bool false)) fun u15 =>
p7Z u15 (
oV (qYZ 1 x11) fun u16 =>
oV (qWZ ty3 u16 H) fun u17 =>
oV (vInt .sub u17 (.int .i64 1)) fun u18 =>
oV (p1Z 1 x7 u18) fun u19 =>
oV (qWZ ty27 u19 H) fun u20 =>
oV (qWZ ty29 x3 H) fun u21 =>
oV (qWZ ty109 x11 H) fun u22 =>
oV (qYZ 1 x11) fun u23 =>
oV (qWZ ty3 u23 H) fun u24 =>
oV (vInt .sub u24 (.int .i64 1)) fun u25 =>
oV (p1Z 1 x7 u25) fun u26 =>
oV (qWZ ty27 u26 H) fun u27 =>
oV (p1Z 1 u27 x63) fun u28 =>
oV (qWZ ty52 u28 H) fun u29 =>
oRC Tryd.prog 111 [u21, u22, u29, x12] H noP fun u30 u31 =>
(qWZ ty27 u19 u31 = some u20 ∧
(qWZ ty3 u16 u31 = some u17 ∧
oV (p1Z 1 u20 x63) fun u32 =>
oHeap (p2Z ty52 u32 u30 u31) fun u33 =>
oV (vInt .add x63 (.int .i64 1)) fun u34 =>
kn x1 x2 x3 x7 x11 x12 x31 x32 x33 x62 u34 u33))) (
oV (vInt .add x63 (.int .i64 1)) fun u35 =>
kn x1 x2 x3 x7 x11 x12 x31 x32 x33 x62 u35 H)) (
kx4 x1 x2 x3 x7 x31 x32 x33 H)
theorem c80_11 (env : Env) (H : Heap) (kn : K11T) (kx4 : K7T) (kx3 : K7T) (kx2 : K1T) (Q : QT) (h : m80_11 (env 1) (env 2) (env 3) (env 7) (env 11) (env 12) (env 31) (env 32) (env 33) (env 62) (env 63) H kn kx4 kx3 kx2 Q) :
    qUZ Tryd.prog 107 (qRZ [1,1,1,0,1,0,0,1,1,0,0,1,1,1,1,1,0,0] (qSZ Tryd.f80)) env H (mkK (fun e H => kn (e 1) (e 2) (e 3) (e 7) (e 11) (e 12) (e 31) (e 32) (e 33) (e 62) (e 63) H) (inK 4 (fun e H => kx4 (e 1) (e 2) (e 3) (e 7) (e 31) (e 32) (e 33) H) (inK 3 (fun e H => kx3 (e 1) (e 2) (e 3) (e 7) (e 31) (e 32) (e 33) H) (inK 2 (fun e H => kx2 (e 7) H) (fun _ _ _ => False)))) (rKZ Tryd.f80 Q) (pKZ Q)) :=
  qUZ.leaf_ (T := T) (X := ext) (hint := hint80) tok xok mixed (by kernel_rfl) h
theorem L80_10_round (x1 x2 x3 x7 x11 x12 x31 x32 x33 x62 x63 : Value) (H : Heap) (kn : K7T) (kx3 : K7T) (kx2 : K1T) (Q : QT) (h : m80_11 x1 x2 x3 x7 x11 x12 x31 x32 x33 x62 x63 H (fun y1 y2 y3 y7 y11 y12 y31 y32 y33 y62 y63 H => L80_10 y1 y2 y3 y7 y11 y12 y31 y32 y33 y62 y63 H kn kx3 kx2 Q) kn kx3 kx2 Q) : L80_10 x1 x2 x3 x7 x11 x12 x31 x32 x33 x62 x63 H kn kx3 kx2 Q := by
  intro env h1 h2 h3 h7 h11 h12 h31 h32 h33 h62 h63
  subst h1; subst h2; subst h3; subst h7; subst h11; subst h12; subst h31; subst h32; subst h33; subst h62; subst h63
  exact RLoop.round ((c80_11 env H (fun y1 y2 y3 y7 y11 y12 y31 y32 y33 y62 y63 H => L80_10 y1 y2 y3 y7 y11 y12 y31 y32 y33 y62 y63 H kn kx3 kx2 Q) kn kx3 kx2 Q h).mono (qPZ (fun e H h => h e rfl rfl rfl rfl rfl rfl rfl rfl rfl rfl rfl) (fun _ _ _ h => h) (fun _ _ h => h) (fun _ _ h => h)))
def m80_9 (x1 x2 x3 x7 x11 x12 x31 x32 x33 : Value) (H : Heap) (kn : K7T) (kx3 : K7T) (kx2 : K1T) (Q : QT) : Prop :=
oV (qYZ 1 x11) fun u0 =>
oV (qWZ ty3 u0 H) fun u1 =>
oV (vInt .sub u1 (.int .i64 1)) fun u2 =>
oV (p1Z 1 x7 u2) fun u3 =>
oV (qWZ ty27 u3 H) fun u4 =>
oV (vLen u4) fun u5 =>
L80_10 x1 x2 x3 x7 x11 x12 x31 x32 x33 u5 (.int .i64 0) H kn kx3 kx2 Q
theorem c80_9 (env : Env) (H : Heap) (kn : K7T) (kx3 : K7T) (kx2 : K1T) (Q : QT) (h : m80_9 (env 1) (env 2) (env 3) (env 7) (env 11) (env 12) (env 31) (env 32) (env 33) H kn kx3 kx2 Q) :
    qUZ Tryd.prog 107 (qRZ [1,1,1,0,1,0,0,1,1,0,0,1,1,1,1] (qSZ Tryd.f80)) env H (mkK (fun e H => kn (e 1) (e 2) (e 3) (e 7) (e 31) (e 32) (e 33) H) (inK 3 (fun e H => kx3 (e 1) (e 2) (e 3) (e 7) (e 31) (e 32) (e 33) H) (inK 2 (fun e H => kx2 (e 7) H) (fun _ _ _ => False))) (rKZ Tryd.f80 Q) (pKZ Q)) :=
  qUZ.prefix_ (T := T) (X := ext) (hint := hint80) (hole := (fun e H => L80_10 (e 1) (e 2) (e 3) (e 7) (e 11) (e 12) (e 31) (e 32) (e 33) (e 62) (e 63) H kn kx3 kx2 Q)) tok xok mixed 1 (by kernel_rfl) (by kernel_rfl : qRZ _ _ = (qRZ [1,1,1,0,1,0,0,1,1,0,0,1,1,1,1,1] (qSZ Tryd.f80))) h
    (fun e H h => (cL80_10 e H kn kx3 kx2 Q h))
def m80_8 (x1 x2 x3 x7 x31 x32 x33 : Value) (H : Heap) (kn : K7T) (kx3 : K7T) (kx2 : K1T) (Q : QT) : Prop :=
oV (p1Z 8 x31 x33) fun u0 =>
oV (qWZ ty109 u0 H) fun u1 =>
oNew (Value.cells ty109.zero).toList (Value.cells ty109.zero).toList.length 109 H fun u2 u3 =>
oHeap (p2Z ty109 (qTZ u2) u1 u3) fun u4 =>
oV (qWZ ty29 x3 u4) fun u5 =>
oV (qWZ ty109 (qTZ u2) u4) fun u6 =>
oRC Tryd.prog 110 [u5, u6, x1] u4 (pKZ Q) fun u7 u8 =>
oV (vUn .not u7) fun u9 =>
p7Z u9 (
kx3 x1 x2 x3 x7 x31 x32 x33 u8) (
oV (qYZ 4 (qTZ u2)) fun u10 =>
oV (qWZ ty3 u10 u8) fun u11 =>
oV (vInt .eql u11 (.int .i64 3)) fun u12 =>
p7Z u12 (
oV (qYZ 6 (qTZ u2)) fun u13 =>
oV (qWZ ty3 u13 u8) fun u14 =>
oV (vInt .sub u14 (.int .i64 1)) fun u15 =>
oV (p1Z 1 x2 u15) fun u16 =>
oV (qWZ ty27 u16 u8) fun u17 =>
oV (qYZ 1 (qTZ u2)) fun u18 =>
oV (qWZ ty3 u18 u8) fun u19 =>
oV (vInt .sub u19 (.int .i64 1)) fun u20 =>
oV (p1Z 1 u17 u20) fun u21 =>
oV (qWZ ty52 u21 u8) fun u22 =>
m80_9 x1 x2 x3 x7 (qTZ u2) u22 x31 x32 x33 u8 kn kx3 kx2 Q) (
m80_9 x1 x2 x3 x7 (qTZ u2) (.slice none 0 0) x31 x32 x33 u8 kn kx3 kx2 Q))
theorem c80_8 (env : Env) (H : Heap) (kn : K7T) (kx3 : K7T) (kx2 : K1T) (Q : QT) (h : m80_8 (env 1) (env 2) (env 3) (env 7) (env 31) (env 32) (env 33) H kn kx3 kx2 Q) :
    qUZ Tryd.prog 107 (qRZ [1,1,1,0,1,0,0,1,1,0,0] (qSZ Tryd.f80)) env H (mkK (fun e H => kn (e 1) (e 2) (e 3) (e 7) (e 31) (e 32) (e 33) H) (inK 3 (fun e H => kx3 (e 1) (e 2) (e 3) (e 7) (e 31) (e 32) (e 33) H) (inK 2 (fun e H => kx2 (e 7) H) (fun _ _ _ => False))) (rKZ Tryd.f80 Q) (pKZ Q)) :=
  qUZ.prefix_ (T := T) (X := ext) (hint := hint80) (hole := (fun e H => m80_9 (e 1) (e 2) (e 3) (e 7) (e 11) (e 12) (e 31) (e 32) (e 33) H kn kx3 kx2 Q)) tok xok mixed 4 (by kernel_rfl) (by kernel_rfl : qRZ _ _ = (qRZ [1,1,1,0,1,0,0,1,1,0,0,1,1,1,1] (qSZ Tryd.f80))) h
    (fun e H h => c80_9 e H kn kx3 kx2 Q h)
def m80_7 (x1 x2 x3 x7 x31 x32 x33 : Value) (H : Heap) (kn : K7T) (kx2 : K1T) (Q : QT) : Prop :=
m80_8 x1 x2 x3 x7 x31 x32 x33 H kn kn kx2 Q
theorem c80_7 (env : Env) (H : Heap) (kn : K7T) (kx2 : K1T) (Q : QT) (h : m80_7 (env 1) (env 2) (env 3) (env 7) (env 31) (env 32) (env 33) H kn kx2 Q) :
    qUZ Tryd.prog 107 (qRZ [1,1,1,0,1,0,0,1,1,0] (qSZ Tryd.f80)) env H (mkK (fun e H => kn (e 1) (e 2) (e 3) (e 7) (e 31) (e 32) (e 33) H) (inK 2 (fun e H => kx2 (e 7) H) (fun _ _ _ => False)) (rKZ Tryd.f80 Q) (pKZ Q)) :=
  qUZ.blk (by kernel_rfl : (qRZ [1,1,1,0,1,0,0,1,1,0] (qSZ Tryd.f80)) = .block 3 (qRZ [1,1,1,0,1,0,0,1,1,0,0] (qSZ Tryd.f80))) (c80_8 env H kn kn kx2 Q h)
def m80_5 (x1 x2 x3 x7 x31 x32 x33 : Value) (H : Heap) (kn : K7T) (kx2 : K1T) (Q : QT) : Prop :=
oV (vInt .lss x33 x32) fun u0 =>
p7Z u0 (
m80_7 x1 x2 x3 x7 x31 x32 x33 H (fun u1 u2 u3 u4 u5 u6 u7 u8 => m80_6 u1 u2 u3 u4 u5 u6 u7 u8 kn kx2 Q) kx2 Q) (
kx2 x7 H)
theorem c80_5 (env : Env) (H : Heap) (kn : K7T) (kx2 : K1T) (Q : QT) (h : m80_5 (env 1) (env 2) (env 3) (env 7) (env 31) (env 32) (env 33) H kn kx2 Q) :
    qUZ Tryd.prog 107 (qRZ [1,1,1,0,1,0,0] (qSZ Tryd.f80)) env H (mkK (fun e H => kn (e 1) (e 2) (e 3) (e 7) (e 31) (e 32) (e 33) H) (inK 2 (fun e H => kx2 (e 7) H) (fun _ _ _ => False)) (rKZ Tryd.f80 Q) (pKZ Q)) :=
  qUZ.prefix_ (T := T) (X := ext) (hint := hint80) (hole := (fun e H => m80_7 (e 1) (e 2) (e 3) (e 7) (e 31) (e 32) (e 33) H (fun y1_76 y2_77 y3_78 y7_79 y31_80 y32_81 y33_82 H_83 => m80_6 y1_76 y2_77 y3_78 y7_79 y31_80 y32_81 y33_82 H_83 kn kx2 Q) kx2 Q)) tok xok mixed 2 (by kernel_rfl) (by kernel_rfl : qRZ _ _ = (qRZ [1,1,1,0,1,0,0,1,1] (qSZ Tryd.f80))) h
    (fun e H h => qUZ.join (by kernel_rfl : (qRZ [1,1,1,0,1,0,0,1,1] (qSZ Tryd.f80)) = .seq (qRZ [1,1,1,0,1,0,0,1,1,0] (qSZ Tryd.f80)) (qRZ [1,1,1,0,1,0,0,1,1,1] (qSZ Tryd.f80))) ((c80_7 e H (fun y1_84 y2_85 y3_86 y7_87 y31_88 y32_89 y33_90 H_91 => m80_6 y1_84 y2_85 y3_86 y7_87 y31_88 y32_89 y33_90 H_91 kn kx2 Q) kx2 Q h).mono (qPZ (fun e H h => c80_6 e H kn kx2 Q h) (fun _ _ _ h => h) (fun _ _ h => h) (fun _ _ h => h))))
theorem L80_4_round (x1 x2 x3 x7 x31 x32 x33 : Value) (H : Heap) (kn : K1T) (Q : QT) (h : m80_5 x1 x2 x3 x7 x31 x32 x33 H (fun y1 y2 y3 y7 y31 y32 y33 H => L80_4 y1 y2 y3 y7 y31 y32 y33 H kn Q) kn Q) : L80_4 x1 x2 x3 x7 x31 x32 x33 H kn Q := by
  intro env h1 h2 h3 h7 h31 h32 h33
  subst h1; subst h2; subst h3; subst h7; subst h31; subst h32; subst h33
  exact RLoop.round ((c80_5 env H (fun y1 y2 y3 y7 y31 y32 y33 H => L80_4 y1 y2 y3 y7 y31 y32 y33 H kn Q) kn Q h).mono (qPZ (fun e H h => h e rfl rfl rfl rfl rfl rfl rfl) (fun _ _ _ h => h) (fun _ _ h => h) (fun _ _ h => h)))
def m80_3 (x1 x2 x3 x7 : Value) (H : Heap) (kn : K1T) (Q : QT) : Prop :=
oV (qYZ 4 x3) fun u0 =>
oV (qWZ ty26 u0 H) fun u1 =>
oV (vLen u1) fun u2 =>
L80_4 x1 x2 x3 x7 u1 u2 (.int .i64 0) H kn Q
theorem c80_3 (env : Env) (H : Heap) (kn : K1T) (Q : QT) (h : m80_3 (env 1) (env 2) (env 3) (env 7) H kn Q) :
    qUZ Tryd.prog 107 (qRZ [1,1,1,0] (qSZ Tryd.f80)) env H (mkK (fun e H => kn (e 7) H) (fun _ _ _ => False) (rKZ Tryd.f80 Q) (pKZ Q)) :=
  qUZ.prefix_ (T := T) (X := ext) (hint := hint80) (hole := (fun e H => L80_4 (e 1) (e 2) (e 3) (e 7) (e 31) (e 32) (e 33) H kn Q)) tok xok mixed 1 (by kernel_rfl) (by kernel_rfl : qRZ _ _ = (qRZ [1,1,1,0,1] (qSZ Tryd.f80))) h
    (fun e H h => (cL80_4 e H kn Q h))
def m80_1 (x1 x2 x3 x7 : Value) (H : Heap) (Q : QT) : Prop :=
m80_3 x1 x2 x3 x7 H (fun u0 u1 => m80_2 u0 u1 Q) Q
theorem c80_1 (env : Env) (H : Heap) (Q : QT) (h : m80_1 (env 1) (env 2) (env 3) (env 7) H Q) :
    qUZ Tryd.prog 107 (qRZ [1,1,1] (qSZ Tryd.f80)) env H (mkK (rKZ Tryd.f80 Q) (fun _ _ _ => False) (rKZ Tryd.f80 Q) (pKZ Q)) :=
  qUZ.join (by kernel_rfl : (qRZ [1,1,1] (qSZ Tryd.f80)) = .seq (qRZ [1,1,1,0] (qSZ Tryd.f80)) (qRZ [1,1,1,1] (qSZ Tryd.f80))) ((c80_3 env H (fun y7_97 H_98 => m80_2 y7_97 H_98 Q) Q h).mono (qPZ (fun e H h => c80_2 e H Q h) (fun _ _ _ h => h) (fun _ _ h => h) (fun _ _ h => h)))
def L80_13 (x1 x2 x3 x7 x17 x18 x19 : Value) (H : Heap) (kn : K4T) (Q : QT) : Prop :=
  ∀ env : Env, env 1 = x1 → env 2 = x2 → env 3 = x3 → env 7 = x7 → env 17 = x17 → env 18 = x18 → env 19 = x19 → RLoop Tryd.prog 107 (qRZ [1,1,0,1,0,0] (qSZ Tryd.f80)) env H (mkK (fun _ _ => False) (inK 0 (fun e H => kn (e 1) (e 2) (e 3) (e 7) H) (fun _ _ _ => False)) (rKZ Tryd.f80 Q) (pKZ Q))
theorem cL80_13 (env : Env) (H : Heap) (kn : K4T) (Q : QT) (h : L80_13 (env 1) (env 2) (env 3) (env 7) (env 17) (env 18) (env 19) H kn Q) :
    qUZ Tryd.prog 107 (qRZ [1,1,0,1] (qSZ Tryd.f80)) env H (mkK (fun e H => kn (e 1) (e 2) (e 3) (e 7) H) (fun _ _ _ => False) (rKZ Tryd.f80 Q) (pKZ Q)) :=
  qUZ.blk (by kernel_rfl : (qRZ [1,1,0,1] (qSZ Tryd.f80)) = .block 0 (qRZ [1,1,0,1,0] (qSZ Tryd.f80))) (qUZ.lp (by kernel_rfl : (qRZ [1,1,0,1,0] (qSZ Tryd.f80)) = .loop (qRZ [1,1,0,1,0,0] (qSZ Tryd.f80))) ((h env rfl rfl rfl rfl rfl rfl rfl).mono (qPZ (fun _ _ h => h.elim) (fun _ _ _ h => h) (fun _ _ h => h) (fun _ _ h => h))))
def m80_14 (x1 x2 x3 x7 x17 x18 x19 : Value) (H : Heap) (kn : K7T) (kx0 : K4T) (Q : QT) : Prop :=
oV (vInt .lss x19 x18) fun u0 =>
p7Z u0 (
oV (p1Z 1 x17 x19) fun u1 =>
oV (qWZ ty27 u1 H) fun u2 =>
oRC Tryd.prog 109 [u2] H (pKZ Q) fun u3 u4 =>
oV (p1Z 1 x7 x19) fun u5 =>
oHeap (p2Z ty27 u5 u3 u4) fun u6 =>
oV (vInt .add x19 (.int .i64 1)) fun u7 =>
kn x1 x2 x3 x7 x17 x18 u7 u6) (
kx0 x1 x2 x3 x7 H)
theorem c80_14 (env : Env) (H : Heap) (kn : K7T) (kx0 : K4T) (Q : QT) (h : m80_14 (env 1) (env 2) (env 3) (env 7) (env 17) (env 18) (env 19) H kn kx0 Q) :
    qUZ Tryd.prog 107 (qRZ [1,1,0,1,0,0] (qSZ Tryd.f80)) env H (mkK (fun e H => kn (e 1) (e 2) (e 3) (e 7) (e 17) (e 18) (e 19) H) (inK 0 (fun e H => kx0 (e 1) (e 2) (e 3) (e 7) H) (fun _ _ _ => False)) (rKZ Tryd.f80 Q) (pKZ Q)) :=
  qUZ.leaf_ (T := T) (X := ext) (hint := hint80) tok xok mixed (by kernel_rfl) h
theorem L80_13_round (x1 x2 x3 x7 x17 x18 x19 : Value) (H : Heap) (kn : K4T) (Q : QT) (h : m80_14 x1 x2 x3 x7 x17 x18 x19 H (fun y1 y2 y3 y7 y17 y18 y19 H => L80_13 y1 y2 y3 y7 y17 y18 y19 H kn Q) kn Q) : L80_13 x1 x2 x3 x7 x17 x18 x19 H kn Q := by
  intro env h1 h2 h3 h7 h17 h18 h19
  subst h1; subst h2; subst h3; subst h7; subst h17; subst h18; subst h19
  exact RLoop.round ((c80_14 env H (fun y1 y2 y3 y7 y17 y18 y19 H => L80_13 y1 y2 y3 y7 y17 y18 y19 H kn Q) kn Q h).mono (qPZ (fun e H h => h e rfl rfl rfl rfl rfl rfl rfl) (fun _ _ _ h => h) (fun _ _ h => h) (fun _ _ h => h)))
def m80_12 (x1 x2 x3 x7 : Value) (H : Heap) (kn : K4T) (Q : QT) : Prop :=
oV (vLen x2) fun u0 =>
L80_13 x1 x2 x3 x7 x2 u0 (.int .i64 0) H kn Q
theorem c80_12 (env : Env) (H : Heap) (kn : K4T) (Q : QT) (h : m80_12 (env 1) (env 2) (env 3) (env 7) H kn Q) :
    qUZ Tryd.prog 107 (qRZ [1,1,0] (qSZ Tryd.f80)) env H (mkK (fun e H => kn (e 1) (e 2) (e 3) (e 7) H) (fun _ _ _ => False) (rKZ Tryd.f80 Q) (pKZ Q)) :=
  qUZ.prefix_ (T := T) (X := ext) (hint := hint80) (hole := (fun e H => L80_13 (e 1) (e 2) (e 3) (e 7) (e 17) (e 18) (e 19) H kn Q)) tok xok mixed 1 (by kernel_rfl) (by kernel_rfl : qRZ _ _ = (qRZ [1,1,0,1] (qSZ Tryd.f80))) h
    (fun e H h => (cL80_13 e H kn Q h))
def m80 (x0 x1 x2 : Value) (H : Heap) (Q : QT) : Prop :=
oNew (Value.cells x0).toList (Value.cells x0).toList.length 29 H fun u0 u1 =>
oV (vLen x2) fun u2 =>
oMake ty27 27 u2 u2 u1 fun u3 u4 =>
m80_12 x1 x2 (qTZ u0) u3 u4 (fun u5 u6 u7 u8 u9 => m80_1 u5 u6 u7 u8 u9 Q) Q
theorem c80_0 (env : Env) (H : Heap) (Q : QT) (h : m80 (env 0) (env 1) (env 2) H Q) :
    qUZ Tryd.prog 107 (qSZ Tryd.f80) env H (mkK (rKZ Tryd.f80 Q) (fun _ _ _ => False) (rKZ Tryd.f80 Q) (pKZ Q)) :=
  qUZ.prefix_ (T := T) (X := ext) (hint := hint80) (hole := (fun e H => m80_12 (e 1) (e 2) (e 3) (e 7) H (fun y1_118 y2_119 y3_120 y7_121 H_122 => m80_1 y1_118 y2_119 y3_120 y7_121 H_122 Q) Q)) tok xok mixed 2 (by kernel_rfl) (by kernel_rfl : qRZ _ _ = (qRZ [1,1] (qSZ Tryd.f80))) h
    (fun e H h => qUZ.join (by kernel_rfl : (qRZ [1,1] (qSZ Tryd.f80)) = .seq (qRZ [1,1,0] (qSZ Tryd.f80)) (qRZ [1,1,1] (qSZ Tryd.f80))) ((c80_12 e H (fun y1_123 y2_124 y3_125 y7_126 H_127 => m80_1 y1_123 y2_124 y3_125 y7_126 H_127 Q) Q h).mono (qPZ (fun e H h => c80_1 e H Q h) (fun _ _ _ h => h) (fun _ _ h => h) (fun _ _ h => h))))
theorem call80 (a0 a1 a2 : Value) (H : Heap) (Q : QT) (h : m80 a0 a1 a2 H Q) : qVZ Tryd.prog 80 [a0, a1, a2] H Q :=
  qVZ.intro (nt := 107) tok Tryd.func80 (by kernel_rfl) (by kernel_rfl) (by kernel_rfl) (of_decide_eq_true (by kernel_rfl)) (c80_0 (envOf [a0, a1, a2]) H Q h)
def hint47 : Nat → List Nat := p5Z [(2, [0,1,2,3,4,5,6,7,8,9,10])]
def m47_1 (x0 x7 : Value) (H : Heap) (Q : QT) : Prop :=
oV (vNil x0) fun u0 =>
oV (qYZ 6 u0) fun u1 =>
oV (qWZ ty3 u1 H) fun u2 =>
oV (vInt .add u2 (.int .i64 1)) fun u3 =>
oV (vNil x0) fun u4 =>
oV (qYZ 6 u4) fun u5 =>
oHeap (p2Z ty3 u5 u3 H) fun u6 =>
Q (.returned x7) u6
theorem c47_1 (env : Env) (H : Heap) (Q : QT) (h : m47_1 (env 0) (env 7) H Q) :
    qUZ Tryd.prog 77 (qRZ [1,1,1,1,1] (qSZ Tryd.f47)) env H (mkK (rKZ Tryd.f47 Q) (fun _ _ _ => False) (rKZ Tryd.f47 Q) (pKZ Q)) :=
  qUZ.leaf_ (T := T) (X := ext) (hint := hint47) tok xok mixed (by kernel_rfl) h
def L47_3 (x0 x5 x6 x7 x31 x32 : Value) (H : Heap) (kn : K2T) (Q : QT) : Prop :=
  ∀ env : Env, env 0 = x0 → env 5 = x5 → env 6 = x6 → env 7 = x7 → env 31 = x31 → env 32 = x32 → RLoop Tryd.prog 77 (qRZ [1,1,1,1,0,1,0,0] (qSZ Tryd.f47)) env H (mkK (fun _ _ => False) (inK 0 (fun e H => kn (e 0) (e 7) H) (fun _ _ _ => False)) (rKZ Tryd.f47 Q) (pKZ Q))
theorem cL47_3 (env : Env) (H : Heap) (kn : K2T) (Q : QT) (h : L47_3 (env 0) (env 5) (env 6) (env 7) (env 31) (env 32) H kn Q) :
    qUZ Tryd.prog 77 (qRZ [1,1,1,1,0,1] (qSZ Tryd.f47)) env H (mkK (fun e H => kn (e 0) (e 7) H) (fun _ _ _ => False) (rKZ Tryd.f47 Q) (pKZ Q)) :=
  qUZ.blk (by kernel_rfl : (qRZ [1,1,1,1,0,1] (qSZ Tryd.f47)) = .block 0 (qRZ [1,1,1,1,0,1,0] (qSZ Tryd.f47))) (qUZ.lp (by kernel_rfl : (qRZ [1,1,1,1,0,1,0] (qSZ Tryd.f47)) = .loop (qRZ [1,1,1,1,0,1,0,0] (qSZ Tryd.f47))) ((h env rfl rfl rfl rfl rfl rfl).mono (qPZ (fun _ _ h => h.elim) (fun _ _ _ h => h) (fun _ _ h => h) (fun _ _ h => h))))
def m47_5 (x0 x5 x6 x7 x31 x32 : Value) (H : Heap) (kn : K6T) (kx0 : K2T) (Q : QT) : Prop :=
oV (vInt .add x32 (.int .i64 1)) fun u0 =>
kn x0 x5 x6 x7 x31 u0 H
theorem c47_5 (env : Env) (H : Heap) (kn : K6T) (kx0 : K2T) (Q : QT) (h : m47_5 (env 0) (env 5) (env 6) (env 7) (env 31) (env 32) H kn kx0 Q) :
    qUZ Tryd.prog 77 (qRZ [1,1,1,1,0,1,0,0,1,1,1] (qSZ Tryd.f47)) env H (mkK (fun e H => kn (e 0) (e 5) (e 6) (e 7) (e 31) (e 32) H) (inK 0 (fun e H => kx0 (e 0) (e 7) H) (fun _ _ _ => False)) (rKZ Tryd.f47 Q) (pKZ Q)) :=
  qUZ.leaf_ (T := T) (X := ext) (hint := hint47) tok xok mixed (by kernel_rfl) h
def L47_8 (x0 x5 x6 x7 x8 x31 x32 x40 x41 : Value) (H : Heap) (kn : K6T) (kx1 : K6T) (kx0 : K2T) (Q : QT) : Prop :=
  ∀ env : Env, env 0 = x0 → env 5 = x5 → env 6 = x6 → env 7 = x7 → env 8 = x8 → env 31 = x31 → env 32 = x32 → env 40 = x40 → env 41 = x41 → RLoop Tryd.prog 77 (qRZ [1,1,1,1,0,1,0,0,1,1,0,0,1,1,0,0] (qSZ Tryd.f47)) env H (mkK (fun _ _ => False) (inK 2 (fun e H => kn (e 0) (e 5) (e 6) (e 7) (e 31) (e 32) H) (inK 1 (fun e H => kx1 (e 0) (e 5) (e 6) (e 7) (e 31) (e 32) H) (inK 0 (fun e H => kx0 (e 0) (e 7) H) (fun _ _ _ => False)))) (rKZ Tryd.f47 Q) (pKZ Q))
theorem cL47_8 (env : Env) (H : Heap) (kn : K6T) (kx1 : K6T) (kx0 : K2T) (Q : QT) (h : L47_8 (env 0) (env 5) (env 6) (env 7) (env 8) (env 31) (env 32) (env 40) (env 41) H kn kx1 kx0 Q) :
    qUZ Tryd.prog 77 (qRZ [1,1,1,1,0,1,0,0,1,1,0,0,1,1] (qSZ Tryd.f47)) env H (mkK (fun e H => kn (e 0) (e 5) (e 6) (e 7) (e 31) (e 32) H) (inK 1 (fun e H => kx1 (e 0) (e 5) (e 6) (e 7) (e 31) (e 32) H) (inK 0 (fun e H => kx0 (e 0) (e 7) H) (fun _ _ _ => False))) (rKZ Tryd.f47 Q) (pKZ Q)) :=
  qUZ.blk (by kernel_rfl : (qRZ [1,1,1,1,0,1,0,0,1,1,0,0,1,1] (qSZ Tryd.f47)) = .block 2 (qRZ [1,1,1,1,0,1,0,0,1,1,0,0,1,1,0] (qSZ Tryd.f47))) (qUZ.lp (by kernel_rfl : (qRZ [1,1,1,1,0,1,0,0,1,1,0,0,1,1,0] (qSZ Tryd.f47)) = .loop (qRZ [1,1,1,1,0,1,0,0,1,1,0,0,1,1,0,0] (qSZ Tryd.f47))) ((h env rfl rfl rfl rfl rfl rfl rfl rfl rfl).mono (qPZ (fun _ _ h => h.elim) (fun _ _ _ h => h) (fun _ _ h => h) (fun _ _ h => h))))
def m47_9 (x0 x5 x6 x7 x8 x31 x32 x40 x41 : Value) (H : Heap) (kn : K9T) (kx2 : K6T) (kx1 : K6T) (kx0 : K2T) (Q : QT) : Prop :=
oV (vInt .lss x41 x40) fun u0 =>
p7Z u0 (
oV (p1Z 1 x6 x41) fun u1 =>
oV (qWZ ty27 u1 H) fun u2 =>
oV (p1Z 1 u2 x8) fun u3 =>
oV (qWZ ty52 u3 H) fun u4 =>
p4Z ty22 22 (.slice none 0 0) u4 H fun u5 u6 =>
oV (p1Z 1 x7 x8) fun u7 =>
oV (qWZ ty27 u7 u6) fun u8 =>
p3Z ty52 52 1 [((0,1), u5)] u6 fun u9 u10 =>
p4Z ty52 52 u8 u9 u10 fun u11 u12 =>
oV (p1Z 1 x7 x8) fun u13 =>
oHeap (p2Z ty27 u13 u11 u12) fun u14 =>
oCl ext Tryd.prog x5 [x8, x41, u5] u14 (pKZ Q) fun u15 u16 =>
oV (vInt .add x41 (.int .i64 1)) fun u17 =>
kn x0 x5 x6 x7 x8 x31 x32 x40 u17 u16) (
kx2 x0 x5 x6 x7 x31 x32 H)
theorem c47_9 (env : Env) (H : Heap) (kn : K9T) (kx2 : K6T) (kx1 : K6T) (kx0 : K2T) (Q : QT) (h : m47_9 (env 0) (env 5) (env 6) (env 7) (env 8) (env 31) (env 32) (env 40) (env 41) H kn kx2 kx1 kx0 Q) :
    qUZ Tryd.prog 77 (qRZ [1,1,1,1,0,1,0,0,1,1,0,0,1,1,0,0] (qSZ Tryd.f47)) env H (mkK (fun e H => kn (e 0) (e 5) (e 6) (e 7) (e 8) (e 31) (e 32) (e 40) (e 41) H) (inK 2 (fun e H => kx2 (e 0) (e 5) (e 6) (e 7) (e 31) (e 32) H) (inK 1 (fun e H => kx1 (e 0) (e 5) (e 6) (e 7) (e 31) (e 32) H) (inK 0 (fun e H => kx0 (e 0) (e 7) H) (fun _ _ _ => False)))) (rKZ Tryd.f47 Q) (pKZ Q)) :=
  qUZ.leaf_ (T := T) (X := ext) (hint := hint47) tok xok mixed (by kernel_rfl) h
theorem L47_8_round (x0 x5 x6 x7 x8 x31 x32 x40 x41 : Value) (H : Heap) (kn : K6T) (kx1 : K6T) (kx0 : K2T) (Q : QT) (h : m47_9 x0 x5 x6 x7 x8 x31 x32 x40 x41 H (fun y0 y5 y6 y7 y8 y31 y32 y40 y41 H => L47_8 y0 y5 y6 y7 y8 y31 y32 y40 y41 H kn kx1 kx0 Q) kn kx1 kx0 Q) : L47_8 x0 x5 x6 x7 x8 x31 x32 x40 x41 H kn kx1 kx0 Q := by
  intro env h0 h5 h6 h7 h8 h31 h32 h40 h41
  subst h0; subst h5; subst h6; subst h7; subst h8; subst h31; subst h32; subst h40; subst h41
  exact RLoop.round ((c47_9 env H (fun y0 y5 y6 y7 y8 y31 y32 y40 y41 H => L47_8 y0 y5 y6 y7 y8 y31 y32 y40 y41 H kn kx1 kx0 Q) kn kx1 kx0 Q h).mono (qPZ (fun e H h => h e rfl rfl rfl rfl rfl rfl rfl rfl rfl) (fun _ _ _ h => h) (fun _ _ h => h) (fun _ _ h => h)))
def m47_7 (x0 x5 x6 x7 x31 x32 : Value) (H : Heap) (kn : K6T) (kx1 : K6T) (kx0 : K2T) (Q : QT) : Prop :=
oV (vNil x0) fun u0 =>
oV (qYZ 0 u0) fun u1 =>
oV (qYZ 0 u1) fun u2 =>
oV (qYZ 1 u2) fun u3 =>
oV (qWZ ty3 u3 H) fun u4 =>
L47_8 x0 x5 x6 x7 x32 x31 x32 u4 (.int .i64 0) H kn kx1 kx0 Q
theorem c47_7 (env : Env) (H : Heap) (kn : K6T) (kx1 : K6T) (kx0 : K2T) (Q : QT) (h : m47_7 (env 0) (env 5) (env 6) (env 7) (env 31) (env 32) H kn kx1 kx0 Q) :
    qUZ Tryd.prog 77 (qRZ [1,1,1,1,0,1,0,0,1,1,0,0] (qSZ Tryd.f47)) env H (mkK (fun e H => kn (e 0) (e 5) (e 6) (e 7) (e 31) (e 32) H) (inK 1 (fun e H => kx1 (e 0) (e 5) (e 6) (e 7) (e 31) (e 32) H) (inK 0 (fun e H => kx0 (e 0) (e 7) H) (fun _ _ _ => False))) (rKZ Tryd.f47 Q) (pKZ Q)) :=
  qUZ.prefix_ (T := T) (X := ext) (hint := hint47) (hole := (fun e H => L47_8 (e 0) (e 5) (e 6) (e 7) (e 8) (e 31) (e 32) (e 40) (e 41) H kn kx1 kx0 Q)) tok xok mixed 2 (by kernel_rfl) (by kernel_rfl : qRZ _ _ = (qRZ [1,1,1,1,0,1,0,0,1,1,0,0,1,1] (qSZ Tryd.f47))) h
    (fun e H h => (cL47_8 e H kn kx1 kx0 Q h))
def m47_6 (x0 x5 x6 x7 x31 x32 : Value) (H : Heap) (kn : K6T) (kx0 : K2T) (Q : QT) : Prop :=
m47_7 x0 x5 x6 x7 x31 x32 H kn kn kx0 Q
theorem c47_6 (env : Env) (H : Heap) (kn : K6T) (kx0 : K2T) (Q : QT) (h : m47_6 (env 0) (env 5) (env 6) (env 7) (env 31) (env 32) H kn kx0 Q) :
    qUZ Tryd.prog 77 (qRZ [1,1,1,1,0,1,0,0,1,1,0] (qSZ Tryd.f47)) env H (mkK (fun e H => kn (e 0) (e 5) (e 6) (e 7) (e 31) (e 32) H) (inK 0 (fun e H => kx0 (e 0) (e 7) H) (fun _ _ _ => False)) (rKZ Tryd.f47 Q) (pKZ Q)) :=
  qUZ.blk (by kernel_rfl : (qRZ [1,1,1,1,0,1,0,0,1,1,0] (qSZ Tryd.f47)) = .block 1 (qRZ [1,1,1,1,0,1,0,0,1,1,0,0] (qSZ Tryd.f47))) (c47_7 env H kn kn kx0 Q h)
def m47_4 (x0 x5 x6 x7 x31 x32 : Value) (H : Heap) (kn : K6T) (kx0 : K2T) (Q : QT) : Prop :=
oV (vInt .lss x32 x31) fun u0 =>
p7Z u0 (
m47_6 x0 x5 x6 x7 x31 x32 H (fun u1 u2 u3 u4 u5 u6 u7 => m47_5 u1 u2 u3 u4 u5 u6 u7 kn kx0 Q) kx0 Q) (
kx0 x0 x7 H)
theorem c47_4 (env : Env) (H : Heap) (kn : K6T) (kx0 : K2T) (Q : QT) (h : m47_4 (env 0) (env 5) (env 6) (env 7) (env 31) (env 32) H kn kx0 Q) :
    qUZ Tryd.prog 77 (qRZ [1,1,1,1,0,1,0,0] (qSZ Tryd.f47)) env H (mkK (fun e H => kn (e 0) (e 5) (e 6) (e 7) (e 31) (e 32) H) (inK 0 (fun e H => kx0 (e 0) (e 7) H) (fun _ _ _ => False)) (rKZ Tryd.f47 Q) (pKZ Q)) :=
  qUZ.prefix_ (T := T) (X := ext) (hint := hint47) (hole := (fun e H => m47_6 (e 0) (e 5) (e 6) (e 7) (e 31) (e 32) H (fun y0_40 y5_41 y6_42 y7_43 y31_44 y32_45 H_46 => m47_5 y0_40 y5_41 y6_42 y7_43 y31_44 y32_45 H_46 kn kx0 Q) kx0 Q)) tok xok mixed 2 (by kernel_rfl) (by kernel_rfl : qRZ _ _ = (qRZ [1,1,1,1,0,1,0,0,1,1] (qSZ Tryd.f47))) h
    (fun e H h => qUZ.join (by kernel_rfl : (qRZ [1,1,1,1,0,1,0,0,1,1] (qSZ Tryd.f47)) = .seq (qRZ [1,1,1,1,0,1,0,0,1,1,0] (qSZ Tryd.f47)) (qRZ [1,1,1,1,0,1,0,0,1,1,1] (qSZ Tryd.f47))) ((c47_6 e H (fun y0_47 y5_48 y6_49 y7_50 y31_51 y32_52 H_53 => m47_5 y0_47 y5_48 y6_49 y7_50 y31_51 y32_52 H_53 kn kx0 Q) kx0 Q h).mono (qPZ (fun e H h => c47_5 e H kn kx0 Q h) (fun _ _ _ h => h) (fun _ _ h => h) (fun _ _ h => h))))
theorem L47_3_round (x0 x5 x6 x7 x31 x32 : Value) (H : Heap) (kn : K2T) (Q : QT) (h : m47_4 x0 x5 x6 x7 x31 x32 H (fun y0 y5 y6 y7 y31 y32 H => L47_3 y0 y5 y6 y7 y31 y32 H kn Q) kn Q) : L47_3 x0 x5 x6 x7 x31 x32 H kn Q := by
  intro env h0 h5 h6 h7 h31 h32
  subst h0; subst h5; subst h6; subst h7; subst h31; subst h32
  exact RLoop.round ((c47_4 env H (fun y0 y5 y6 y7 y31 y32 H => L47_3 y0 y5 y6 y7 y31 y32 H kn Q) kn Q h).mono (qPZ (fun e H h => h e rfl rfl rfl rfl rfl rfl) (fun _ _ _ h => h) (fun _ _ h => h) (fun _ _ h => h)))
def m47_2 (x0 x5 x6 x7 : Value) (H : Heap) (kn : K2T) (Q : QT) : Prop :=
oV (vLen x7) fun u0 =>
L47_3 x0 x5 x6 x7 u0 (.int .i64 0) H kn Q
theorem c47_2 (env : Env) (H : Heap) (kn : K2T) (Q : QT) (h : m47_2 (env 0) (env 5) (env 6) (env 7) H kn Q) :
    qUZ Tryd.prog 77 (qRZ [1,1,1,1,0] (qSZ Tryd.f47)) env H (mkK (fun e H => kn (e 0) (e 7) H) (fun _ _ _ => False) (rKZ Tryd.f47 Q) (pKZ Q)) :=
  qUZ.prefix_ (T := T) (X := ext) (hint := hint47) (hole := (fun e H => L47_3 (e 0) (e 5) (e 6) (e 7) (e 31) (e 32) H kn Q)) tok xok mixed 1 (by kernel_rfl) (by kernel_rfl : qRZ _ _ = (qRZ [1,1,1,1,0,1] (qSZ Tryd.f47))) h
    (fun e H h => (cL47_3 e H kn Q h))
def m47 (x0 x1 : Value) (H : Heap) (Q : QT) : Prop :=
oV (vNil x0) fun u0 =>
oV (qYZ 0 u0) fun u1 =>
oV (qWZ ty29 u1 H) fun u2 =>
oV (vNil x0) fun u3 =>
oV (qYZ 6 u3) fun u4 =>
oV (qWZ ty3 u4 H) fun u5 =>
oRC Tryd.prog 80 [u2, u5, x1] H noP fun u6 u7 =>
oV (vNil x0) fun u8 =>
oV (qYZ 0 u8) fun u9 =>
oV (qYZ 0 u9) fun u10 =>
oV (qYZ 1 u10) fun u11 =>
oV (qWZ ty3 u11 u7) fun u12 =>
oMake ty27 27 u12 u12 u7 fun u13 u14 =>
m47_2 x0 (.func (.func 79) #[x0] #[]) u6 u13 u14 (fun u15 u16 u17 => m47_1 u15 u16 u17 Q) Q
theorem c47_0 (env : Env) (H : Heap) (Q : QT) (h : m47 (env 0) (env 1) H Q) :
    qUZ Tryd.prog 77 (qSZ Tryd.f47) env H (mkK (rKZ Tryd.f47 Q) (fun _ _ _ => False) (rKZ Tryd.f47 Q) (pKZ Q)) :=
  qUZ.prefix_ (T := T) (X := ext) (hint := hint47) (hole := (fun e H => m47_2 (e 0) (e 5) (e 6) (e 7) H (fun y0_73 y7_74 H_75 => m47_1 y0_73 y7_74 H_75 Q) Q)) tok xok mixed 4 (by kernel_rfl) (by kernel_rfl : qRZ _ _ = (qRZ [1,1,1,1] (qSZ Tryd.f47))) h
    (fun e H h => qUZ.join (by kernel_rfl : (qRZ [1,1,1,1] (qSZ Tryd.f47)) = .seq (qRZ [1,1,1,1,0] (qSZ Tryd.f47)) (qRZ [1,1,1,1,1] (qSZ Tryd.f47))) ((c47_2 e H (fun y0_76 y7_77 H_78 => m47_1 y0_76 y7_77 H_78 Q) Q h).mono (qPZ (fun e H h => c47_1 e H Q h) (fun _ _ _ h => h) (fun _ _ h => h) (fun _ _ h => h))))
theorem call47 (a0 a1 : Value) (H : Heap) (Q : QT) (h : m47 a0 a1 H Q) : qVZ Tryd.prog 47 [a0, a1] H Q :=
  qVZ.intro (nt := 77) tok Tryd.func47 (by kernel_rfl) (by kernel_rfl) (by kernel_rfl) (of_decide_eq_true (by kernel_rfl)) (c47_0 (envOf [a0, a1]) H Q h)
def hint81 : Nat → List Nat := p5Z [(9, [0,1,2,3,4,5,6,7,8,9,10,11,12,13,14,15])]
def m81_1 (x7 : Value) (H : Heap) (Q : QT) : Prop :=
Q (.returned x7) H
theorem c81_1 (env : Env) (H : Heap) (Q : QT) (h : m81_1 (env 7) H Q) :
    qUZ Tryd.prog 51 (qRZ [1,1,1] (qSZ Tryd.f81)) env H (mkK (rKZ Tryd.f81 Q) (fun _ _ _ => False) (rKZ Tryd.f81 Q) (pKZ Q)) :=
  qUZ.leaf_ (T := T) (X := ext) (hint := hint81) tok xok mixed (by kernel_rfl) h
def L81_3 (x1 x2 x3 x7 x14 x15 x16 : Value) (H : Heap) (kn : K1T) (Q : QT) : Prop :=
  ∀ env : Env, env 1 = x1 → env 2 = x2 → env 3 = x3 → env 7 = x7 → env 14 = x14 → env 15 = x15 → env 16 = x16 → RLoop Tryd.prog 51 (qRZ [1,1,0,1,0,0] (qSZ Tryd.f81)) env H (mkK (fun _ _ => False) (inK 0 (fun e H => kn (e 7) H) (fun _ _ _ => False)) (rKZ Tryd.f81 Q) (pKZ Q))
theorem cL81_3 (env : Env) (H : Heap) (kn : K1T) (Q : QT) (h : L81_3 (env 1) (env 2) (env 3) (env 7) (env 14) (env 15) (env 16) H kn Q) :
    qUZ Tryd.prog 51 (qRZ [1,1,0,1] (qSZ Tryd.f81)) env H (mkK (fun e H => kn (e 7) H) (fun _ _ _ => False) (rKZ Tryd.f81 Q) (pKZ Q)) :=
  qUZ.blk (by kernel_rfl : (qRZ [1,1,0,1] (qSZ Tryd.f81)) = .block 0 (qRZ [1,1,0,1,0] (qSZ Tryd.f81))) (qUZ.lp (by kernel_rfl : (qRZ [1,1,0,1,0] (qSZ Tryd.f81)) = .loop (qRZ [1,1,0,1,0,0] (qSZ Tryd.f81))) ((h env rfl rfl rfl rfl rfl rfl rfl).mono (qPZ (fun _ _ h => h.elim) (fun _ _ _ h => h) (fun _ _ h => h) (fun _ _ h => h))))
def m81_4 (x1 x2 x3 x7 x14 x15 x16 : Value) (H : Heap) (kn : K7T) (kx0 : K1T) (Q : QT) : Prop :=
oV (vInt .lss x16 x15) fun u0 =>
p7Z u0 (
oV (p1Z 8 x14 x16) fun u1 =>
oV (qWZ ty109 u1 H) fun u2 =>
oNew (Value.cells ty109.zero).toList (Value.cells ty109.zero).toList.length 109 H fun u3 u4 =>
oHeap (p2Z ty109 (qTZ u3) u2 u4) fun u5 =>
oV (qWZ ty29 x3 u5) fun u6 =>
oV (qWZ ty109 (qTZ u3) u5) fun u7 =>
oRC Tryd.prog 110 [u6, u7, x1] u5 (pKZ Q) fun u8 u9 =>
oV (vUn .not u8) fun u10 =>
p7Z u10 (
oV (vInt .add x16 (.int .i64 1)) fun u11 =>
kn x1 x2 x3 x7 x14 x15 u11 u9) (
oV (qYZ 4 (qTZ u3)) fun u12 =>
oV (qWZ ty3 u12 u9) fun u13 =>
oV (vInt .eql u13 (.int .i64 3)) fun u14 =>
p7Z u14 (
oV (qYZ 6 (qTZ u3)) fun u15 =>
oV (qWZ ty3 u15 u9) fun u16 =>
oV (vInt .sub u16 (.int .i64 1)) fun u17 =>
oV (p1Z 1 x2 u17) fun u18 =>
oV (qWZ ty52 u18 u9) fun u19 =>
oV (qYZ 1 (qTZ u3)) fun u20 =>
oV (qWZ ty3 u20 u9) fun u21 =>
oV (vInt .sub u21 (.int .i64 1)) fun u22 =>
oV (qWZ ty29 x3 u9) fun u23 =>
oV (qWZ ty109 (qTZ u3) u9) fun u24 =>
oV (qYZ 1 (qTZ u3)) fun u25 =>
oV (qWZ ty3 u25 u9) fun u26 =>
oV (vInt .sub u26 (.int .i64 1)) fun u27 =>
oV (p1Z 1 x7 u27) fun u28 =>
oV (qWZ ty52 u28 u9) fun u29 =>
oRC Tryd.prog 111 [u23, u24, u29, u19] u9 noP fun u30 u31 =>
(qWZ ty3 u20 u31 = some u21 ∧
oV (p1Z 1 x7 u22) fun u32 =>
oHeap (p2Z ty52 u32 u30 u31) fun u33 =>
oV (vInt .add x16 (.int .i64 1)) fun u34 =>
kn x1 x2 x3 x7 x14 x15 u34 u33)) (
oV (qYZ 1 (qTZ u3)) fun u35 =>
oV (qWZ ty3 u35 u9) fun u36 =>
oV (vInt .sub u36 (.int .i64 1)) fun u37 =>
oV (qWZ ty29 x3 u9) fun u38 =>
oV (qWZ ty109 (qTZ u3) u9) fun u39 =>
oV (qYZ 1 (qTZ u3)) fun u40 =>
oV (qWZ ty3 u40 u9) fun u41 =>
oV (vInt .sub u41 (.int .i64 1)) fun u42 =>
oV (p1Z 1 x7 u42) fun u43 =>
oV (qWZ ty52 u43 u9) fun u44 =>
oRC Tryd.prog 111 [u38, u39, u44, (.slice none 0 0)] u9 noP fun u45 u46 =>
(qWZ ty3 u35 u46 = some u36 ∧
oV (p1Z 1 x7 u37) fun u47 =>
oHeap (p2Z ty52 u47 u45 u46) fun u48 =>
oV (vInt .add x16 (.int .i64 1)) fun u49 =>
kn x1 x2 x3 x7 x14 x15 u49 u48)))) (
kx0 x7 H)
theorem c81_4 (env : Env) (H : Heap) (kn : K7T) (kx0 : K1T) (Q : QT) (h : m81_4 (env 1) (env 2) (env 3) (env 7) (env 14) (env 15) (env 16) H kn kx0 Q) :
    qUZ Tryd.prog 51 (qRZ [1,1,0,1,0,0] (qSZ Tryd.f81)) env H (mkK (fun e H => kn (e 1) (e 2) (e 3) (e 7) (e 14) (e 15) (e 16) H) (inK 0 (fun e H => kx0 (e 7) H) (fun _ _ _ => False)) (rKZ Tryd.f81 Q) (pKZ Q)) :=
  qUZ.leaf_ (T := T) (X := ext) (hint := hint81) tok xok mixed (by kernel_rfl) h
theorem L81_3_round (x1 x2 x3 x7 x14 x15 x16 : Value) (H : Heap) (kn : K1T) (Q : QT) (h : m81_4 x1 x2 x3 x7 x14 x15 x16 H (fun y1 y2 y3 y7 y14 y15 y16 H => L81_3 y1 y2 y3 y7 y14 y15 y16 H kn Q) kn Q) : L81_3 x1 x2 x3 x7 x14 x15 x16 H kn Q := by
  intro env h1 h2 h3 h7 h14 h15 h16
  subst h1; subst h2; subst h3; subst h7; subst h14; subst h15; subst h16
  exact RLoop.round ((c81_4 env H (fun y1 y2 y3 y7 y14 y15 y16 H => L81_3 y1 y2 y3 y7 y14 y15 y16 H kn Q) kn Q h).mono (qPZ (fun e H h => h e rfl rfl rfl rfl rfl rfl rfl) (fun _ _ _ h => h) (fun _ _ h => h) (fun _ _ h => h)))
def m81_2 (x1 x2 x3 x7 : Value) (H : Heap) (kn : K1T) (Q : QT) : Prop :=
oV (qYZ 4 x3) fun u0 =>
oV (qWZ ty26 u0 H) fun u1 =>
oV (vLen u1) fun u2 =>
L81_3 x1 x2 x3 x7 u1 u2 (.int .i64 0) H kn Q
theorem c81_2 (env : Env) (H : Heap) (kn : K1T) (Q : QT) (h : m81_2 (env 1) (env 2) (env 3) (env 7) H kn Q) :
    qUZ Tryd.prog 51 (qRZ [1,1,0] (qSZ Tryd.f81)) env H (mkK (fun e H => kn (e 7) H) (fun _ _ _ => False) (rKZ Tryd.f81 Q) (pKZ Q)) :=
  qUZ.prefix_ (T := T) (X := ext) (hint := hint81) (hole := (fun e H => L81_3 (e 1) (e 2) (e 3) (e 7) (e 14) (e 15) (e 16) H kn Q)) tok xok mixed 1 (by kernel_rfl) (by kernel_rfl : qRZ _ _ = (qRZ [1,1,0,1] (qSZ Tryd.f81))) h
    (fun e H h => (cL81_3 e H kn Q h))
def m81 (x0 x1 x2 : Value) (H : Heap) (Q : QT) : Prop :=
oNew (Value.cells x0).toList (Value.cells x0).toList.length 29 H fun u0 u1 =>
oRC Tryd.prog 109 [x2] u1 (pKZ Q) fun u2 u3 =>
m81_2 x1 x2 (qTZ u0) u2 u3 (fun u4 u5 => m81_1 u4 u5 Q) Q
theorem c81_0 (env : Env) (H : Heap) (Q : QT) (h : m81 (env 0) (env 1) (env 2) H Q) :
    qUZ Tryd.prog 51 (qSZ Tryd.f81) env H (mkK (rKZ Tryd.f81 Q) (fun _ _ _ => False) (rKZ Tryd.f81 Q) (pKZ Q)) :=
  qUZ.prefix_ (T := T) (X := ext) (hint := hint81) (hole := (fun e H => m81_2 (e 1) (e 2) (e 3) (e 7) H (fun y7_60 H_61 => m81_1 y7_60 H_61 Q) Q)) tok xok mixed 2 (by kernel_rfl) (by kernel_rfl : qRZ _ _ = (qRZ [1,1] (qSZ Tryd.f81))) h
    (fun e H h => qUZ.join (by kernel_rfl : (qRZ [1,1] (qSZ Tryd.f81)) = .seq (qRZ [1,1,0] (qSZ Tryd.f81)) (qRZ [1,1,1] (qSZ Tryd.f81))) ((c81_2 e H (fun y7_62 H_63 => m81_1 y7_62 H_63 Q) Q h).mono (qPZ (fun e H h => c81_1 e H Q h) (fun _ _ _ h => h) (fun _ _ h => h) (fun _ _ h => h))))
theorem call81 (a0 a1 a2 : Value) (H : Heap) (Q : QT) (h : m81 a0 a1 a2 H Q) : qVZ Tryd.prog 81 [a0, a1, a2] H Q :=
  qVZ.intro (nt := 51) tok Tryd.func81 (by kernel_rfl) (by kernel_rfl) (by kernel_rfl) (of_decide_eq_true (by kernel_rfl)) (c81_0 (envOf [a0, a1, a2]) H Q h)
end

section
set_option maxRecDepth 100000
open Go
def hint48 : Nat → List Nat := p5Z [(2, [0,1,2,3,4,5,6,7,8,9,10])]
def m48_1 (x0 x7 : Value) (H : Heap) (Q : QT) : Prop :=
oV (vNil x0) fun u0 =>
oV (qYZ 6 u0) fun u1 =>
oV (qWZ ty3 u1 H) fun u2 =>
oV (vInt .add u2 (.int .i64 1)) fun u3 =>
oV (vNil x0) fun u4 =>
oV (qYZ 6 u4) fun u5 =>
oHeap (p2Z ty3 u5 u3 H) fun u6 =>
Q (.returned x7) u6
theorem c48_1 (env : Env) (H : Heap) (Q : QT) (h : m48_1 (env 0) (env 7) H Q) :
    qUZ Tryd.prog 65 (qRZ [1,1,1,1,1] (qSZ Tryd.f48)) env H (mkK (rKZ Tryd.f48 Q) (fun _ _ _ => False) (rKZ Tryd.f48 Q) (pKZ Q)) :=
  qUZ.leaf_ (T := T) (X := ext) (hint := hint48) tok xok mixed (by kernel_rfl) h
def L48_3 (x0 x5 x6 x7 x30 x31 : Value) (H : Heap) (kn : K2T) (Q : QT) : Prop :=
  ∀ env : Env, env 0 = x0 → env 5 = x5 → env 6 = x6 → env 7 = x7 → env 30 = x30 → env 31 = x31 → RLoop Tryd.prog 65 (qRZ [1,1,1,1,0,1,0,0] (qSZ Tryd.f48)) env H (mkK (fun _ _ => False) (inK 0 (fun e H => kn (e 0) (e 7) H) (fun _ _ _ => False)) (rKZ Tryd.f48 Q) (pKZ Q))
theorem cL48_3 (env : Env) (H : Heap) (kn : K2T) (Q : QT) (h : L48_3 (env 0) (env 5) (env 6) (env 7) (env 30) (env 31) H kn Q) :
    qUZ Tryd.prog 65 (qRZ [1,1,1,1,0,1] (qSZ Tryd.f48)) env H (mkK (fun e H => kn (e 0) (e 7) H) (fun _ _ _ => False) (rKZ Tryd.f48 Q) (pKZ Q)) :=
  qUZ.blk (by kernel_rfl : (qRZ [1,1,1,1,0,1] (qSZ Tryd.f48)) = .block 0 (qRZ [1,1,1,1,0,1,0] (qSZ Tryd.f48))) (qUZ.lp (by kernel_rfl : (qRZ [1,1,1,1,0,1,0] (qSZ Tryd.f48)) = .loop (qRZ [1,1,1,1,0,1,0,0] (qSZ Tryd.f48))) ((h env rfl rfl rfl rfl rfl rfl).mono (qPZ (fun _ _ h => h.elim) (fun _ _ _ h => h) (fun _ _ h => h) (fun _ _ h => h))))
def m48_5 (x0 x5 x6 x7 x30 x31 : Value) (H : Heap) (kn : K6T) (kx0 : K2T) (Q : QT) : Prop :=
oV (vInt .add x31 (.int .i64 1)) fun u0 =>
kn x0 x5 x6 x7 x30 u0 H
theorem c48_5 (env : Env) (H : Heap) (kn : K6T) (kx0 : K2T) (Q : QT) (h : m48_5 (env 0) (env 5) (env 6) (env 7) (env 30) (env 31) H kn kx0 Q) :
    qUZ Tryd.prog 65 (qRZ [1,1,1,1,0,1,0,0,1,1,1] (qSZ Tryd.f48)) env H (mkK (fun e H => kn (e 0) (e 5) (e 6) (e 7) (e 30) (e 31) H) (inK 0 (fun e H => kx0 (e 0) (e 7) H) (fun _ _ _ => False)) (rKZ Tryd.f48 Q) (pKZ Q)) :=
  qUZ.leaf_ (T := T) (X := ext) (hint := hint48) tok xok mixed (by kernel_rfl) h
def L48_8 (x0 x5 x6 x7 x8 x30 x31 x43 x44 : Value) (H : Heap) (kn : K6T) (kx1 : K6T) (kx0 : K2T) (Q : QT) : Prop :=
  ∀ env : Env, env 0 = x0 → env 5 = x5 → env 6 = x6 → env 7 = x7 → env 8 = x8 → env 30 = x30 → env 31 = x31 → env 43 = x43 → env 44 = x44 → RLoop Tryd.prog 65 (qRZ [1,1,1,1,0,1,0,0,1,1,0,0,1,1,1,0,0] (qSZ Tryd.f48)) env H (mkK (fun _ _ => False) (inK 2 (fun e H => kn (e 0) (e 5) (e 6) (e 7) (e 30) (e 31) H) (inK 1 (fun e H => kx1 (e 0) (e 5) (e 6) (e 7) (e 30) (e 31) H) (inK 0 (fun e H => kx0 (e 0) (e 7) H) (fun _ _ _ => False)))) (rKZ Tryd.f48 Q) (pKZ Q))
theorem cL48_8 (env : Env) (H : Heap) (kn : K6T) (kx1 : K6T) (kx0 : K2T) (Q : QT) (h : L48_8 (env 0) (env 5) (env 6) (env 7) (env 8) (env 30) (env 31) (env 43) (env 44) H kn kx1 kx0 Q) :
    qUZ Tryd.prog 65 (qRZ [1,1,1,1,0,1,0,0,1,1,0,0,1,1,1] (qSZ Tryd.f48)) env H (mkK (fun e H => kn (e 0) (e 5) (e 6) (e 7) (e 30) (e 31) H) (inK 1 (fun e H => kx1 (e 0) (e 5) (e 6) (e 7) (e 30) (e 31) H) (inK 0 (fun e H => kx0 (e 0) (e 7) H) (fun _ _ _ => False))) (rKZ Tryd.f48 Q) (pKZ Q)) :=
  qUZ.blk (by kernel_rfl : (qRZ [1,1,1,1,0,1,0,0,1,1,0,0,1,1,1] (qSZ Tryd.f48)) = .block 2 (qRZ [1,1,1,1,0,1,0,0,1,1,0,0,1,1,1,0] (qSZ Tryd.f48))) (qUZ.lp (by kernel_rfl : (qRZ [1,1,1,1,0,1,0,0,1,1,0,0,1,1,1,0] (qSZ Tryd.f48)) = .loop (qRZ [1,1,1,1,0,1,0,0,1,1,0,0,1,1,1,0,0] (qSZ Tryd.f48))) ((h env rfl rfl rfl rfl rfl rfl rfl rfl rfl).mono (qPZ (fun _ _ h => h.elim) (fun _ _ _ h => h) (fun _ _ h => h) (fun _ _ h => h))))
def m48_9 (x0 x5 x6 x7 x8 x30 x31 x43 x44 : Value) (H : Heap) (kn : K9T) (kx2 : K6T) (kx1 : K6T) (kx0 : K2T) (Q : QT) : Prop :=
oV (vInt .lss x44 x43) fun u0 =>
p7Z u0 (
oV (p1Z 1 x7 x8) fun u1 =>
oV (qWZ ty52 u1 H) fun u2 =>
oCl ext Tryd.prog x5 [x44, x8, u2] H (pKZ Q) fun u3 u4 =>
oV (vInt .add x44 (.int .i64 1)) fun u5 =>
kn x0 x5 x6 x7 x8 x30 x31 x43 u5 u4) (
kx2 x0 x5 x6 x7 x30 x31 H)
theorem c48_9 (env : Env) (H : Heap) (kn : K9T) (kx2 : K6T) (kx1 : K6T) (kx0 : K2T) (Q : QT) (h : m48_9 (env 0) (env 5) (env 6) (env 7) (env 8) (env 30) (env 31) (env 43) (env 44) H kn kx2 kx1 kx0 Q) :
    qUZ Tryd.prog 65 (qRZ [1,1,1,1,0,1,0,0,1,1,0,0,1,1,1,0,0] (qSZ Tryd.f48)) env H (mkK (fun e H => kn (e 0) (e 5) (e 6) (e 7) (e 8) (e 30) (e 31) (e 43) (e 44) H) (inK 2 (fun e H => kx2 (e 0) (e 5) (e 6) (e 7) (e 30) (e 31) H) (inK 1 (fun e H => kx1 (e 0) (e 5) (e 6) (e 7) (e 30) (e 31) H) (inK 0 (fun e H => kx0 (e 0) (e 7) H) (fun _ _ _ => False)))) (rKZ Tryd.f48 Q) (pKZ Q)) :=
  qUZ.leaf_ (T := T) (X := ext) (hint := hint48) tok xok mixed (by kernel_rfl) h
theorem L48_8_round (x0 x5 x6 x7 x8 x30 x31 x43 x44 : Value) (H : Heap) (kn : K6T) (kx1 : K6T) (kx0 : K2T) (Q : QT) (h : m48_9 x0 x5 x6 x7 x8 x30 x31 x43 x44 H (fun y0 y5 y6 y7 y8 y30 y31 y43 y44 H => L48_8 y0 y5 y6 y7 y8 y30 y31 y43 y44 H kn kx1 kx0 Q) kn kx1 kx0 Q) : L48_8 x0 x5 x6 x7 x8 x30 x31 x43 x44 H kn kx1 kx0 Q := by
  intro env h0 h5 h6 h7 h8 h30 h31 h43 h44
  subst h0; subst h5; subst h6; subst h7; subst h8; subst h30; subst h31; subst h43; subst h44
  exact RLoop.round ((c48_9 env H (fun y0 y5 y6 y7 y8 y30 y31 y43 y44 H => L48_8 y0 y5 y6 y7 y8 y30 y31 y43 y44 H kn kx1 kx0 Q) kn kx1 kx0 Q h).mono (qPZ (fun e H h => h e rfl rfl rfl rfl rfl rfl rfl rfl rfl) (fun _ _ _ h => h) (fun _ _ h => h) (fun _ _ h => h)))
def m48_7 (x0 x5 x6 x7 x30 x31 : Value) (H : Heap) (kn : K6T) (kx1 : K6T) (kx0 : K2T) (Q : QT) : Prop :=
oV (p1Z 1 x6 x31) fun u0 =>
oV (qWZ ty52 u0 H) fun u1 =>
p4Z ty22 22 (.slice none 0 0) u1 H fun u2 u3 =>
oV (p1Z 1 x7 x31) fun u4 =>
oHeap (p2Z ty52 u4 u2 u3) fun u5 =>
oV (vLen x7) fun u6 =>
L48_8 x0 x5 x6 x7 x31 x30 x31 u6 (.int .i64 0) u5 kn kx1 kx0 Q
theorem c48_7 (env : Env) (H : Heap) (kn : K6T) (kx1 : K6T) (kx0 : K2T) (Q : QT) (h : m48_7 (env 0) (env 5) (env 6) (env 7) (env 30) (env 31) H kn kx1 kx0 Q) :
    qUZ Tryd.prog 65 (qRZ [1,1,1,1,0,1,0,0,1,1,0,0] (qSZ Tryd.f48)) env H (mkK (fun e H => kn (e 0) (e 5) (e 6) (e 7) (e 30) (e 31) H) (inK 1 (fun e H => kx1 (e 0) (e 5) (e 6) (e 7) (e 30) (e 31) H) (inK 0 (fun e H => kx0 (e 0) (e 7) H) (fun _ _ _ => False))) (rKZ Tryd.f48 Q) (pKZ Q)) :=
  qUZ.prefix_ (T := T) (X := ext) (hint := hint48) (hole := (fun e H => L48_8 (e 0) (e 5) (e 6) (e 7) (e 8) (e 30) (e 31) (e 43) (e 44) H kn kx1 kx0 Q)) tok xok mixed 3 (by kernel_rfl) (by kernel_rfl : qRZ _ _ = (qRZ [1,1,1,1,0,1,0,0,1,1,0,0,1,1,1] (qSZ Tryd.f48))) h
    (fun e H h => (cL48_8 e H kn kx1 kx0 Q h))
def m48_6 (x0 x5 x6 x7 x30 x31 : Value) (H : Heap) (kn : K6T) (kx0 : K2T) (Q : QT) : Prop :=
m48_7 x0 x5 x6 x7 x30 x31 H kn kn kx0 Q
theorem c48_6 (env : Env) (H : Heap) (kn : K6T) (kx0 : K2T) (Q : QT) (h : m48_6 (env 0) (env 5) (env 6) (env 7) (env 30) (env 31) H kn kx0 Q) :
    qUZ Tryd.prog 65 (qRZ [1,1,1,1,0,1,0,0,1,1,0] (qSZ Tryd.f48)) env H (mkK (fun e H => kn (e 0) (e 5) (e 6) (e 7) (e 30) (e 31) H) (inK 0 (fun e H => kx0 (e 0) (e 7) H) (fun _ _ _ => False)) (rKZ Tryd.f48 Q) (pKZ Q)) :=
  qUZ.blk (by kernel_rfl : (qRZ [1,1,1,1,0,1,0,0,1,1,0] (qSZ Tryd.f48)) = .block 1 (qRZ [1,1,1,1,0,1,0,0,1,1,0,0] (qSZ Tryd.f48))) (c48_7 env H kn kn kx0 Q h)
def m48_4 (x0 x5 x6 x7 x30 x31 : Value) (H : Heap) (kn : K6T) (kx0 : K2T) (Q : QT) : Prop :=
oV (vInt .lss x31 x30) fun u0 =>
p7Z u0 (
m48_6 x0 x5 x6 x7 x30 x31 H (fun u1 u2 u3 u4 u5 u6 u7 => m48_5 u1 u2 u3 u4 u5 u6 u7 kn kx0 Q) kx0 Q) (
kx0 x0 x7 H)
theorem c48_4 (env : Env) (H : Heap) (kn : K6T) (kx0 : K2T) (Q : QT) (h : m48_4 (env 0) (env 5) (env 6) (env 7) (env 30) (env 31) H kn kx0 Q) :
    qUZ Tryd.prog 65 (qRZ [1,1,1,1,0,1,0,0] (qSZ Tryd.f48)) env H (mkK (fun e H => kn (e 0) (e 5) (e 6) (e 7) (e 30) (e 31) H) (inK 0 (fun e H => kx0 (e 0) (e 7) H) (fun _ _ _ => False)) (rKZ Tryd.f48 Q) (pKZ Q)) :=
  qUZ.prefix_ (T := T) (X := ext) (hint := hint48) (hole := (fun e H => m48_6 (e 0) (e 5) (e 6) (e 7) (e 30) (e 31) H (fun y0_30 y5_31 y6_32 y7_33 y30_34 y31_35 H_36 => m48_5 y0_30 y5_31 y6_32 y7_33 y30_34 y31_35 H_36 kn kx0 Q) kx0 Q)) tok xok mixed 2 (by kernel_rfl) (by kernel_rfl : qRZ _ _ = (qRZ [1,1,1,1,0,1,0,0,1,1] (qSZ Tryd.f48))) h
    (fun e H h => qUZ.join (by kernel_rfl : (qRZ [1,1,1,1,0,1,0,0,1,1] (qSZ Tryd.f48)) = .seq (qRZ [1,1,1,1,0,1,0,0,1,1,0] (qSZ Tryd.f48)) (qRZ [1,1,1,1,0,1,0,0,1,1,1] (qSZ Tryd.f48))) ((c48_6 e H (fun y0_37 y5_38 y6_39 y7_40 y30_41 y31_42 H_43 => m48_5 y0_37 y5_38 y6_39 y7_40 y30_41 y31_42 H_43 kn kx0 Q) kx0 Q h).mono (qPZ (fun e H h => c48_5 e H kn kx0 Q h) (fun _ _ _ h => h) (fun _ _ h => h) (fun _ _ h => h))))
theorem L48_3_round (x0 x5 x6 x7 x30 x31 : Value) (H : Heap) (kn : K2T) (Q : QT) (h : m48_4 x0 x5 x6 x7 x30 x31 H (fun y0 y5 y6 y7 y30 y31 H => L48_3 y0 y5 y6 y7 y30 y31 H kn Q) kn Q) : L48_3 x0 x5 x6 x7 x30 x31 H kn Q := by
  intro env h0 h5 h6 h7 h30 h31
  subst h0; subst h5; subst h6; subst h7; subst h30; subst h31
  exact RLoop.round ((c48_4 env H (fun y0 y5 y6 y7 y30 y31 H => L48_3 y0 y5 y6 y7 y30 y31 H kn Q) kn Q h).mono (qPZ (fun e H h => h e rfl rfl rfl rfl rfl rfl) (fun _ _ _ h => h) (fun _ _ h => h) (fun _ _ h => h)))
def m48_2 (x0 x5 x6 x7 : Value) (H : Heap) (kn : K2T) (Q : QT) : Prop :=
oV (vLen x7) fun u0 =>
L48_3 x0 x5 x6 x7 u0 (.int .i64 0) H kn Q
theorem c48_2 (env : Env) (H : Heap) (kn : K2T) (Q : QT) (h : m48_2 (env 0) (env 5) (env 6) (env 7) H kn Q) :
    qUZ Tryd.prog 65 (qRZ [1,1,1,1,0] (qSZ Tryd.f48)) env H (mkK (fun e H => kn (e 0) (e 7) H) (fun _ _ _ => False) (rKZ Tryd.f48 Q) (pKZ Q)) :=
  qUZ.prefix_ (T := T) (X := ext) (hint := hint48) (hole := (fun e H => L48_3 (e 0) (e 5) (e 6) (e 7) (e 30) (e 31) H kn Q)) tok xok mixed 1 (by kernel_rfl) (by kernel_rfl : qRZ _ _ = (qRZ [1,1,1,1,0,1] (qSZ Tryd.f48))) h
    (fun e H h => (cL48_3 e H kn Q h))
def m48 (x0 x1 : Value) (H : Heap) (Q : QT) : Prop :=
oV (vNil x0) fun u0 =>
oV (qYZ 0 u0) fun u1 =>
oV (qWZ ty29 u1 H) fun u2 =>
oV (vNil x0) fun u3 =>
oV (qYZ 6 u3) fun u4 =>
oV (qWZ ty3 u4 H) fun u5 =>
oRC Tryd.prog 81 [u2, u5, x1] H noP fun u6 u7 =>
oV (vNil x0) fun u8 =>
oV (qYZ 0 u8) fun u9 =>
oV (qYZ 0 u9) fun u10 =>
oV (qYZ 1 u10) fun u11 =>
oV (qWZ ty3 u11 u7) fun u12 =>
oMake ty52 52 u12 u12 u7 fun u13 u14 =>
m48_2 x0 (.func (.func 79) #[x0] #[]) u6 u13 u14 (fun u15 u16 u17 => m48_1 u15 u16 u17 Q) Q
theorem c48_0 (env : Env) (H : Heap) (Q : QT) (h : m48 (env 0) (env 1) H Q) :
    qUZ Tryd.prog 65 (qSZ Tryd.f48) env H (mkK (rKZ Tryd.f48 Q) (fun _ _ _ => False) (rKZ Tryd.f48 Q) (pKZ Q)) :=
  qUZ.prefix_ (T := T) (X := ext) (hint := hint48) (hole := (fun e H => m48_2 (e 0) (e 5) (e 6) (e 7) H (fun y0_63 y7_64 H_65 => m48_1 y0_63 y7_64 H_65 Q) Q)) tok xok mixed 4 (by kernel_rfl) (by kernel_rfl : qRZ _ _ = (qRZ [1,1,1,1] (qSZ Tryd.f48))) h
    (fun e H h => qUZ.join (by kernel_rfl : (qRZ [1,1,1,1] (qSZ Tryd.f48)) = .seq (qRZ [1,1,1,1,0] (qSZ Tryd.f48)) (qRZ [1,1,1,1,1] (qSZ Tryd.f48))) ((c48_2 e H (fun y0_66 y7_67 H_68 => m48_1 y0_66 y7_67 H_68 Q) Q h).mono (qPZ (fun e H h => c48_1 e H Q h) (fun _ _ _ h => h) (fun _ _ h => h) (fun _ _ h => h))))
theorem call48 (a0 a1 : Value) (H : Heap) (Q : QT) (h : m48 a0 a1 H Q) : qVZ Tryd.prog 48 [a0, a1] H Q :=
  qVZ.intro (nt := 65) tok Tryd.func48 (by kernel_rfl) (by kernel_rfl) (by kernel_rfl) (of_decide_eq_true (by kernel_rfl)) (c48_0 (envOf [a0, a1]) H Q h)
def hint24 : Nat → List Nat := p5Z [(6, [0,1,2,3,4,5,6,7,8])]
def m24_1 (H : Heap) (Q : QT) : Prop :=
Q (.returned (.bool true)) H
theorem c24_1 (env : Env) (H : Heap) (Q : QT) (h : m24_1 H Q) :
    qUZ Tryd.prog 26 (qRZ [1,1,1] (qSZ Tryd.f24)) env H (mkK (rKZ Tryd.f24 Q) (fun _ _ _ => False) (rKZ Tryd.f24 Q) (pKZ Q)) :=
  qUZ.leaf_ (T := T) (X := ext) (hint := hint24) tok xok mixed (by kernel_rfl) h
def L24_3 (x0 x1 x5 : Value) (H : Heap) (kn : K0T) (Q : QT) : Prop :=
  ∀ env : Env, env 0 = x0 → env 1 = x1 → env 5 = x5 → RLoop Tryd.prog 26 (qRZ [1,1,0,1,0,0] (qSZ Tryd.f24)) env H (mkK (fun _ _ => False) (inK 0 (fun e H => kn H) (fun _ _ _ => False)) (rKZ Tryd.f24 Q) (pKZ Q))
theorem cL24_3 (env : Env) (H : Heap) (kn : K0T) (Q : QT) (h : L24_3 (env 0) (env 1) (env 5) H kn Q) :
    qUZ Tryd.prog 26 (qRZ [1,1,0,1] (qSZ Tryd.f24)) env H (mkK (fun e H => kn H) (fun _ _ _ => False) (rKZ Tryd.f24 Q) (pKZ Q)) :=
  qUZ.blk (by kernel_rfl : (qRZ [1,1,0,1] (qSZ Tryd.f24)) = .block 0 (qRZ [1,1,0,1,0] (qSZ Tryd.f24))) (qUZ.lp (by kernel_rfl : (qRZ [1,1,0,1,0] (qSZ Tryd.f24)) = .loop (qRZ [1,1,0,1,0,0] (qSZ Tryd.f24))) ((h env rfl rfl rfl).mono (qPZ (fun _ _ h => h.elim) (fun _ _ _ h => h) (fun _ _ h => h) (fun _ _ h => h))))
def m24_4 (x0 x1 x5 : Value) (H : Heap) (kn : K3T) (kx0 : K0T) (Q : QT) : Prop :=
oV (vLen x0) fun u0 =>
oV (vInt .lss x5 u0) fun u1 =>
p7Z u1 (
oV (p1Z 1 x0 x5) fun u2 =>
oV (qWZ ty22 u2 H) fun u3 =>
oV (p1Z 1 x1 x5) fun u4 =>
oV (qWZ ty22 u4 H) fun u5 =>
oV (vInt .neq u3 u5) fun u6 =>
p7Z u6 (
Q (.returned (.bool false)) H) (
oV (vInt .add x5 (.int .i64 1)) fun u7 =>
kn x0 x1 u7 H)) (
kx0 H)
theorem c24_4 (env : Env) (H : Heap) (kn : K3T) (kx0 : K0T) (Q : QT) (h : m24_4 (env 0) (env 1) (env 5) H kn kx0 Q) :
    qUZ Tryd.prog 26 (qRZ [1,1,0,1,0,0] (qSZ Tryd.f24)) env H (mkK (fun e H => kn (e 0) (e 1) (e 5) H) (inK 0 (fun e H => kx0 H) (fun _ _ _ => False)) (rKZ Tryd.f24 Q) (pKZ Q)) :=
  qUZ.leaf_ (T := T) (X := ext) (hint := hint24) tok xok mixed (by kernel_rfl) h
theorem L24_3_round (x0 x1 x5 : Value) (H : Heap) (kn : K0T) (Q : QT) (h : m24_4 x0 x1 x5 H (fun y0 y1 y5 H => L24_3 y0 y1 y5 H kn Q) kn Q) : L24_3 x0 x1 x5 H kn Q := by
  intro env h0 h1 h5
  subst h0; subst h1; subst h5
  exact RLoop.round ((c24_4 env H (fun y0 y1 y5 H => L24_3 y0 y1 y5 H kn Q) kn Q h).mono (qPZ (fun e H h => h e rfl rfl rfl) (fun _ _ _ h => h) (fun _ _ h => h) (fun _ _ h => h)))
def m24_2 (x0 x1 : Value) (H : Heap) (kn : K0T) (Q : QT) : Prop :=
L24_3 x0 x1 (.int .i64 0) H kn Q
theorem c24_2 (env : Env) (H : Heap) (kn : K0T) (Q : QT) (h : m24_2 (env 0) (env 1) H kn Q) :
    qUZ Tryd.prog 26 (qRZ [1,1,0] (qSZ Tryd.f24)) env H (mkK (fun e H => kn H) (fun _ _ _ => False) (rKZ Tryd.f24 Q) (pKZ Q)) :=
  qUZ.prefix_ (T := T) (X := ext) (hint := hint24) (hole := (fun e H => L24_3 (e 0) (e 1) (e 5) H kn Q)) tok xok mixed 1 (by kernel_rfl) (by kernel_rfl : qRZ _ _ = (qRZ [1,1,0,1] (qSZ Tryd.f24))) h
    (fun e H h => (cL24_3 e H kn Q h))
def m24 (x0 x1 : Value) (H : Heap) (Q : QT) : Prop :=
oV (vLen x0) fun u0 =>
oV (vLen x1) fun u1 =>
oV (vInt .neq u0 u1) fun u2 =>
p7Z u2 (
Q (.returned (.bool false)) H) (
m24_2 x0 x1 H (fun u3 => m24_1 u3 Q) Q)
theorem c24_0 (env : Env) (H : Heap) (Q : QT) (h : m24 (env 0) (env 1) H Q) :
    qUZ Tryd.prog 26 (qSZ Tryd.f24) env H (mkK (rKZ Tryd.f24 Q) (fun _ _ _ => False) (rKZ Tryd.f24 Q) (pKZ Q)) :=
  qUZ.prefix_ (T := T) (X := ext) (hint := hint24) (hole := (fun e H => m24_2 (e 0) (e 1) H (fun H_13 => m24_1 H_13 Q) Q)) tok xok mixed 2 (by kernel_rfl) (by kernel_rfl : qRZ _ _ = (qRZ [1,1] (qSZ Tryd.f24))) h
    (fun e H h => qUZ.join (by kernel_rfl : (qRZ [1,1] (qSZ Tryd.f24)) = .seq (qRZ [1,1,0] (qSZ Tryd.f24)) (qRZ [1,1,1] (qSZ Tryd.f24))) ((c24_2 e H (fun H_14 => m24_1 H_14 Q) Q h).mono (qPZ (fun e H h => c24_1 e H Q h) (fun _ _ _ h => h) (fun _ _ h => h) (fun _ _ h => h))))
theorem call24 (a0 a1 : Value) (H : Heap) (Q : QT) (h : m24 a0 a1 H Q) : qVZ Tryd.prog 24 [a0, a1] H Q :=
  qVZ.intro (nt := 26) tok Tryd.func24 (by kernel_rfl) (by kernel_rfl) (by kernel_rfl) (of_decide_eq_true (by kernel_rfl)) (c24_0 (envOf [a0, a1]) H Q h)
def hint14 : Nat → List Nat := p5Z []
def m14 (x0 : Value) (H : Heap) (Q : QT) : Prop :=
oV (vNil x0) fun u0 =>
oV (qYZ 6 u0) fun u1 =>
oV (qWZ ty3 u1 H) fun u2 =>
Q (.returned u2) H
theorem c14_0 (env : Env) (H : Heap) (Q : QT) (h : m14 (env 0) H Q) :
    qUZ Tryd.prog 7 (qSZ Tryd.f14) env H (mkK (rKZ Tryd.f14 Q) (fun _ _ _ => False) (rKZ Tryd.f14 Q) (pKZ Q)) :=
  qUZ.leaf_ (T := T) (X := ext) (hint := hint14) tok xok mixed (by kernel_rfl) h
theorem call14 (a0 : Value) (H : Heap) (Q : QT) (h : m14 a0 H Q) : qVZ Tryd.prog 14 [a0] H Q :=
  qVZ.intro (nt := 7) tok Tryd.func14 (by kernel_rfl) (by kernel_rfl) (by kernel_rfl) (of_decide_eq_true (by kernel_rfl)) (c14_0 (envOf [a0]) H Q h)
def hint17 : Nat → List Nat := p5Z []
def m17 (x0 x1 : Value) (H : Heap) (Q : QT) : Prop :=
oV (vNil x0) fun u0 =>
oV (qYZ 7 u0) fun u1 =>
oV (qWZ ty95 u1 H) fun u2 =>
oV (vInt .sub x1 (.int .i64 1)) fun u3 =>
oV (p1Z 1 u2 u3) fun u4 =>
oV (qWZ ty49 u4 H) fun u5 =>
p4Z ty90 90 (.slice none 0 0) u5 H fun u6 u7 =>
Q (.returned u6) u7
theorem c17_0 (env : Env) (H : Heap) (Q : QT) (h : m17 (env 0) (env 1) H Q) :
    qUZ Tryd.prog 14 (qSZ Tryd.f17) env H (mkK (rKZ Tryd.f17 Q) (fun _ _ _ => False) (rKZ Tryd.f17 Q) (pKZ Q)) :=
  qUZ.leaf_ (T := T) (X := ext) (hint := hint17) tok xok mixed (by kernel_rfl) h
theorem call17 (a0 a1 : Value) (H : Heap) (Q : QT) (h : m17 a0 a1 H Q) : qVZ Tryd.prog 17 [a0, a1] H Q :=
  qVZ.intro (nt := 14) tok Tryd.func17 (by kernel_rfl) (by kernel_rfl) (by kernel_rfl) (of_decide_eq_true (by kernel_rfl)) (c17_0 (envOf [a0, a1]) H Q h)
def hint16 : Nat → List Nat := p5Z [(6, [0,1,2,3,4,5,6,7,8,9,10,11,12,13,14,15,16,17,18,19,20,21,22,23,24,25,26,27,28,29,30,31,32,33,34,35,36,37])]
def m16_1 (H : Heap) (Q : QT) : Prop :=
Q (.returned (.bool true)) H
theorem c16_1 (env : Env) (H : Heap) (Q : QT) (h : m16_1 H Q) :
    qUZ Tryd.prog 55 (qRZ [1,1,1] (qSZ Tryd.f16)) env H (mkK (rKZ Tryd.f16 Q) (fun _ _ _ => False) (rKZ Tryd.f16 Q) (pKZ Q)) :=
  qUZ.leaf_ (T := T) (X := ext) (hint := hint16) tok xok mixed (by kernel_rfl) h
def L16_3 (x0 x1 x5 : Value) (H : Heap) (kn : K0T) (Q : QT) : Prop :=
  ∀ env : Env, env 0 = x0 → env 1 = x1 → env 5 = x5 → RLoop Tryd.prog 55 (qRZ [1,1,0,1,0,0] (qSZ Tryd.f16)) env H (mkK (fun _ _ => False) (inK 0 (fun e H => kn H) (fun _ _ _ => False)) (rKZ Tryd.f16 Q) (pKZ Q))
theorem cL16_3 (env : Env) (H : Heap) (kn : K0T) (Q : QT) (h : L16_3 (env 0) (env 1) (env 5) H kn Q) :
    qUZ Tryd.prog 55 (qRZ [1,1,0,1] (qSZ Tryd.f16)) env H (mkK (fun e H => kn H) (fun _ _ _ => False) (rKZ Tryd.f16 Q) (pKZ Q)) :=
  qUZ.blk (by kernel_rfl : (qRZ [1,1,0,1] (qSZ Tryd.f16)) = .block 0 (qRZ [1,1,0,1,0] (qSZ Tryd.f16))) (qUZ.lp (by kernel_rfl : (qRZ [1,1,0,1,0] (qSZ Tryd.f16)) = .loop (qRZ [1,1,0,1,0,0] (qSZ Tryd.f16))) ((h env rfl rfl rfl).mono (qPZ (fun _ _ h => h.elim) (fun _ _ _ h => h) (fun _ _ h => h) (fun _ _ h => h))))
def m16_4 (x0 x1 x5 : Value) (H : Heap) (kn : K3T) (kx0 : K0T) (Q : QT) : Prop :=
oV (vLen x0) fun u0 =>
oV (vInt .lss x5 u0) fun u1 =>
p7Z u1 (
oV (p1Z 3 x0 x5) fun u2 =>
oV (qYZ 0 u2) fun u3 =>
oV (qWZ ty3 u3 H) fun u4 =>
oV (p1Z 3 x1 x5) fun u5 =>
oV (qYZ 0 u5) fun u6 =>
oV (qWZ ty3 u6 H) fun u7 =>
oV (vInt .neq u4 u7) fun u8 =>
oV (gV u8 false (some x0) (some undef)) fun u9 =>
oV (gV u8 false (some x5) (some undef)) fun u10 =>
oV (gV u8 false (p1Z 3 u9 u10) (some undef)) fun u11 =>
oV (gV u8 false (qYZ 1 u11) (some undef)) fun u12 =>
oV (gV u8 false (qWZ ty3 u12 H) (some undef)) fun u13 =>
oV (gV u8 false (some x1) (some undef)) fun u14 =>
oV (gV u8 false (some x5) (some undef)) fun u15 =>
oV (gV u8 false (p1Z 3 u14 u15) (some undef)) fun u16 =>
oV (gV u8 false (qYZ 1 u16) (some undef)) fun u17 =>
oV (gV u8 false (qWZ ty3 u17 H) (some undef)) fun u18 =>
oV (gV u8 false (vInt .neq u13 u18) (some undef)) fun u19 =>
oV (pAZ u8 (.bool true) u19) fun u20 =>
oV (gV u20 false (some x0) (some undef)) fun u21 =>
oV (gV u20 false (some x5) (some undef)) fun u22 =>
oV (gV u20 false (p1Z 3 u21 u22) (some undef)) fun u23 =>
oV (gV u20 false (qYZ 2 u23) (some undef)) fun u24 =>
oV (gV u20 false (qWZ ty52 u24 H) (some undef)) fun u25 =>
oV (gV u20 false (some x1) (some undef)) fun u26 =>
oV (gV u20 false (some x5) (some undef)) fun u27 =>
oV (gV u20 false (p1Z 3 u26 u27) (some undef)) fun u28 =>
oV (gV u20 false (qYZ 2 u28) (some undef)) fun u29 =>
oV (gV u20 false (qWZ ty52 u29 H) (some undef)) fun u30 =>
letK (fun u31 u32 =>
oV (gV u20 false (vUn .not u31) (some undef)) fun u33 =>
oV (pAZ u20 (.bool true) u33) fun u34 =>
p7Z u34 (
Q (.returned (.bool false)) u32) (
oV (vInt .add x5 (.int .i64 1)) fun u35 =>
kn x0 x1 u35 u32)) fun u36 => gK u20 false (oRC Tryd.prog 24 [u25, u30] H noP fun u37 u38 =>
u36 u37 u38) (u36 undef H)) (
kx0 H)
theorem c16_4 (env : Env) (H : Heap) (kn : K3T) (kx0 : K0T) (Q : QT) (h : m16_4 (env 0) (env 1) (env 5) H kn kx0 Q) :
    qUZ Tryd.prog 55 (qRZ [1,1,0,1,0,0] (qSZ Tryd.f16)) env H (mkK (fun e H => kn (e 0) (e 1) (e 5) H) (inK 0 (fun e H => kx0 H) (fun _ _ _ => False)) (rKZ Tryd.f16 Q) (pKZ Q)) :=
  qUZ.leaf_ (T := T) (X := ext) (hint := hint16) tok xok mixed (by kernel_rfl) h
theorem L16_3_round (x0 x1 x5 : Value) (H : Heap) (kn : K0T) (Q : QT) (h : m16_4 x0 x1 x5 H (fun y0 y1 y5 H => L16_3 y0 y1 y5 H kn Q) kn Q) : L16_3 x0 x1 x5 H kn Q := by
  intro env h0 h1 h5
  subst h0; subst h1; subst h5
  exact RLoop.round ((c16_4 env H (fun y0 y1 y5 H => L16_3 y0 y1 y5 H kn Q) kn Q h).mono (qPZ (fun e H h => h e rfl rfl rfl) (fun _ _ _ h => h) (fun _ _ h => h) (fun _ _ h => h)))
def m16_2 (x0 x1 : Value) (H : Heap) (kn : K0T) (Q : QT) : Prop :=
L16_3 x0 x1 (.int .i64 0) H kn Q
theorem c16_2 (env : Env) (H : Heap) (kn : K0T) (Q : QT) (h : m16_2 (env 0) (env 1) H kn Q) :
    qUZ Tryd.prog 55 (qRZ [1,1,0] (qSZ Tryd.f16)) env H (mkK (fun e H => kn H) (fun _ _ _ => False) (rKZ Tryd.f16 Q) (pKZ Q)) :=
  qUZ.prefix_ (T := T) (X := ext) (hint := hint16) (hole := (fun e H => L16_3 (e 0) (e 1) (e 5) H kn Q)) tok xok mixed 1 (by kernel_rfl) (by kernel_rfl : qRZ _ _ = (qRZ [1,1,0,1] (qSZ Tryd.f16))) h
    (fun e H h => (cL16_3 e H kn Q h))
def m16 (x0 x1 : Value) (H : Heap) (Q : QT) : Prop :=
oV (vLen x0) fun u0 =>
oV (vLen x1) fun u1 =>
oV (vInt .neq u0 u1) fun u2 =>
p7Z u2 (
Q (.returned (.bool false)) H) (
m16_2 x0 x1 H (fun u3 => m16_1 u3 Q) Q)
theorem c16_0 (env : Env) (H : Heap) (Q : QT) (h : m16 (env 0) (env 1) H Q) :
    qUZ Tryd.prog 55 (qSZ Tryd.f16) env H (mkK (rKZ Tryd.f16 Q) (fun _ _ _ => False) (rKZ Tryd.f16 Q) (pKZ Q)) :=
  qUZ.prefix_ (T := T) (X := ext) (hint := hint16) (hole := (fun e H => m16_2 (e 0) (e 1) H (fun H_44 => m16_1 H_44 Q) Q)) tok xok mixed 2 (by kernel_rfl) (by kernel_rfl : qRZ _ _ = (qRZ [1,1] (qSZ Tryd.f16))) h
    (fun e H h => qUZ.join (by kernel_rfl : (qRZ [1,1] (qSZ Tryd.f16)) = .seq (qRZ [1,1,0] (qSZ Tryd.f16)) (qRZ [1,1,1] (qSZ Tryd.f16))) ((c16_2 e H (fun H_45 => m16_1 H_45 Q) Q h).mono (qPZ (fun e H h => c16_1 e H Q h) (fun _ _ _ h => h) (fun _ _ h => h) (fun _ _ h => h))))
theorem call16 (a0 a1 : Value) (H : Heap) (Q : QT) (h : m16 a0 a1 H Q) : qVZ Tryd.prog 16 [a0, a1] H Q :=
  qVZ.intro (nt := 55) tok Tryd.func16 (by kernel_rfl) (by kernel_rfl) (by kernel_rfl) (of_decide_eq_true (by kernel_rfl)) (c16_0 (envOf [a0, a1]) H Q h)
def hint49 : Nat → List Nat := p5Z []
def m49 (x0 x1 : Value) (H : Heap) (Q : QT) : Prop :=
oMake ty22 22 x1 x1 H fun u0 u1 =>
oCopy ty22 u0 x0 u1 fun u2 u3 =>
Q (.returned u0) u3
theorem c49_0 (env : Env) (H : Heap) (Q : QT) (h : m49 (env 0) (env 1) H Q) :
    qUZ Tryd.prog 12 (qSZ Tryd.f49) env H (mkK (rKZ Tryd.f49 Q) (fun _ _ _ => False) (rKZ Tryd.f49 Q) (pKZ Q)) :=
  qUZ.leaf_ (T := T) (X := ext) (hint := hint49) tok xok mixed (by kernel_rfl) h
theorem call49 (a0 a1 : Value) (H : Heap) (Q : QT) (h : m49 a0 a1 H Q) : qVZ Tryd.prog 49 [a0, a1] H Q :=
  qVZ.intro (nt := 12) tok Tryd.func49 (by kernel_rfl) (by kernel_rfl) (by kernel_rfl) (of_decide_eq_true (by kernel_rfl)) (c49_0 (envOf [a0, a1]) H Q h)
def hint149 : Nat → List Nat := p5Z []
def m149 (H : Heap) (Q : QT) : Prop :=
p3Z ty3 3 7 [((0,1), (.int .i64 5)), ((1,1), (.int .i64 7)), ((2,1), (.int .i64 13)), ((3,1), (.int .i64 17)), ((4,1), (.int .i64 19)), ((5,1), (.int .i64 31)), ((6,1), (.int .i64 61))] H fun u0 u1 =>
Q (.returned u0) u1
theorem c149_0 (env : Env) (H : Heap) (Q : QT) (h : m149 H Q) :
    qUZ Tryd.prog 2 (qSZ Tryd.f149) env H (mkK (rKZ Tryd.f149 Q) (fun _ _ _ => False) (rKZ Tryd.f149 Q) (pKZ Q)) :=
  qUZ.leaf_ (T := T) (X := ext) (hint := hint149) tok xok mixed (by kernel_rfl) h
theorem call149 (H : Heap) (Q : QT) (h : m149 H Q) : qVZ Tryd.prog 149 [] H Q :=
  qVZ.intro (nt := 2) tok Tryd.func149 (by kernel_rfl) (by kernel_rfl) (by kernel_rfl) (of_decide_eq_true (by kernel_rfl)) (c149_0 (envOf []) H Q h)
def hint141 : Nat → List Nat := p5Z []
def m141_1 (H : Heap) (Q : QT) : Prop :=
Q (.returned (.int .i64 0)) H
theorem c141_1 (env : Env) (H : Heap) (Q : QT) (h : m141_1 H Q) :
    qUZ Tryd.prog 25 (qRZ [1,1,1] (qSZ Tryd.f141)) env H (mkK (rKZ Tryd.f141 Q) (fun _ _ _ => False) (rKZ Tryd.f141 Q) (pKZ Q)) :=
  qUZ.leaf_ (T := T) (X := ext) (hint := hint141) tok xok mixed (by kernel_rfl) h
def L141_3 (x0 x3 x4 : Value) (H : Heap) (kn : K0T) (Q : QT) : Prop :=
  ∀ env : Env, env 0 = x0 → env 3 = x3 → env 4 = x4 → RLoop Tryd.prog 25 (qRZ [1,1,0,1,0,0] (qSZ Tryd.f141)) env H (mkK (fun _ _ => False) (inK 0 (fun e H => kn H) (fun _ _ _ => False)) (rKZ Tryd.f141 Q) (pKZ Q))
theorem cL141_3 (env : Env) (H : Heap) (kn : K0T) (Q : QT) (h : L141_3 (env 0) (env 3) (env 4) H kn Q) :
    qUZ Tryd.prog 25 (qRZ [1,1,0,1] (qSZ Tryd.f141)) env H (mkK (fun e H => kn H) (fun _ _ _ => False) (rKZ Tryd.f141 Q) (pKZ Q)) :=
  qUZ.blk (by kernel_rfl : (qRZ [1,1,0,1] (qSZ Tryd.f141)) = .block 0 (qRZ [1,1,0,1,0] (qSZ Tryd.f141))) (qUZ.lp (by kernel_rfl : (qRZ [1,1,0,1,0] (qSZ Tryd.f141)) = .loop (qRZ [1,1,0,1,0,0] (qSZ Tryd.f141))) ((h env rfl rfl rfl).mono (qPZ (fun _ _ h => h.elim) (fun _ _ _ h => h) (fun _ _ h => h) (fun _ _ h => h))))
def m141_4 (x0 x3 x4 : Value) (H : Heap) (kn : K3T) (kx0 : K0T) (Q : QT) : Prop :=
oV (vLen x3) fun u0 =>
oV (vInt .lss x4 u0) fun u1 =>
p7Z u1 (
oV (p1Z 1 x3 x4) fun u2 =>
oV (qWZ ty3 u2 H) fun u3 =>
oV (vConv (.int .u64) u3) fun u4 =>
oV (vInt .shl (.int .u64 1) u4) fun u5 =>
oV (vInt .sub u5 (.int .u64 1)) fun u6 =>
oV (vInt .eql x0 u6) fun u7 =>
p7Z u7 (
oV (p1Z 1 x3 x4) fun u8 =>
oV (qWZ ty3 u8 H) fun u9 =>
Q (.returned u9) H) (
oV (vInt .add x4 (.int .i64 1)) fun u10 =>
kn x0 x3 u10 H)) (
kx0 H)
theorem c141_4 (env : Env) (H : Heap) (kn : K3T) (kx0 : K0T) (Q : QT) (h : m141_4 (env 0) (env 3) (env 4) H kn kx0 Q) :
    qUZ Tryd.prog 25 (qRZ [1,1,0,1,0,0] (qSZ Tryd.f141)) env H (mkK (fun e H => kn (e 0) (e 3) (e 4) H) (inK 0 (fun e H => kx0 H) (fun _ _ _ => False)) (rKZ Tryd.f141 Q) (pKZ Q)) :=
  qUZ.leaf_ (T := T) (X := ext) (hint := hint141) tok xok mixed (by kernel_rfl) h
theorem L141_3_round (x0 x3 x4 : Value) (H : Heap) (kn : K0T) (Q : QT) (h : m141_4 x0 x3 x4 H (fun y0 y3 y4 H => L141_3 y0 y3 y4 H kn Q) kn Q) : L141_3 x0 x3 x4 H kn Q := by
  intro env h0 h3 h4
  subst h0; subst h3; subst h4
  exact RLoop.round ((c141_4 env H (fun y0 y3 y4 H => L141_3 y0 y3 y4 H kn Q) kn Q h).mono (qPZ (fun e H h => h e rfl rfl rfl) (fun _ _ _ h => h) (fun _ _ h => h) (fun _ _ h => h)))
def m141_2 (x0 x3 : Value) (H : Heap) (kn : K0T) (Q : QT) : Prop :=
L141_3 x0 x3 (.int .i64 0) H kn Q
theorem c141_2 (env : Env) (H : Heap) (kn : K0T) (Q : QT) (h : m141_2 (env 0) (env 3) H kn Q) :
    qUZ Tryd.prog 25 (qRZ [1,1,0] (qSZ Tryd.f141)) env H (mkK (fun e H => kn H) (fun _ _ _ => False) (rKZ Tryd.f141 Q) (pKZ Q)) :=
  qUZ.prefix_ (T := T) (X := ext) (hint := hint141) (hole := (fun e H => L141_3 (e 0) (e 3) (e 4) H kn Q)) tok xok mixed 1 (by kernel_rfl) (by kernel_rfl : qRZ _ _ = (qRZ [1,1,0,1] (qSZ Tryd.f141))) h
    (fun e H h => (cL141_3 e H kn Q h))
def m141 (x0 : Value) (H : Heap) (Q : QT) : Prop :=
oRC Tryd.prog 149 [] H (pKZ Q) fun u0 u1 =>
m141_2 x0 u0 u1 (fun u2 => m141_1 u2 Q) Q
theorem c141_0 (env : Env) (H : Heap) (Q : QT) (h : m141 (env 0) H Q) :
    qUZ Tryd.prog 25 (qSZ Tryd.f141) env H (mkK (rKZ Tryd.f141 Q) (fun _ _ _ => False) (rKZ Tryd.f141 Q) (pKZ Q)) :=
  qUZ.prefix_ (T := T) (X := ext) (hint := hint141) (hole := (fun e H => m141_2 (e 0) (e 3) H (fun H_15 => m141_1 H_15 Q) Q)) tok xok mixed 2 (by kernel_rfl) (by kernel_rfl : qRZ _ _ = (qRZ [1,1] (qSZ Tryd.f141))) h
    (fun e H h => qUZ.join (by kernel_rfl : (qRZ [1,1] (qSZ Tryd.f141)) = .seq (qRZ [1,1,0] (qSZ Tryd.f141)) (qRZ [1,1,1] (qSZ Tryd.f141))) ((c141_2 e H (fun H_16 => m141_1 H_16 Q) Q h).mono (qPZ (fun e H h => c141_1 e H Q h) (fun _ _ _ h => h) (fun _ _ h => h) (fun _ _ h => h))))
theorem call141 (a0 : Value) (H : Heap) (Q : QT) (h : m141 a0 H Q) : qVZ Tryd.prog 141 [a0] H Q :=
  qVZ.intro (nt := 25) tok Tryd.func141 (by kernel_rfl) (by kernel_rfl) (by kernel_rfl) (of_decide_eq_true (by kernel_rfl)) (c141_0 (envOf [a0]) H Q h)
def hint116 : Nat → List Nat := p5Z []
def m116 (x0 : Value) (H : Heap) (Q : QT) : Prop :=
oRC Tryd.prog 141 [x0] H (pKZ Q) fun u0 u1 =>
oV (vInt .gtr u0 (.int .i64 0)) fun u2 =>
Q (.returned u2) u1
theorem c116_0 (env : Env) (H : Heap) (Q : QT) (h : m116 (env 0) H Q) :
    qUZ Tryd.prog 6 (qSZ Tryd.f116) env H (mkK (rKZ Tryd.f116 Q) (fun _ _ _ => False) (rKZ Tryd.f116 Q) (pKZ Q)) :=
  qUZ.leaf_ (T := T) (X := ext) (hint := hint116) tok xok mixed (by kernel_rfl) h
theorem call116 (a0 : Value) (H : Heap) (Q : QT) (h : m116 a0 H Q) : qVZ Tryd.prog 116 [a0] H Q :=
  qVZ.intro (nt := 6) tok Tryd.func116 (by kernel_rfl) (by kernel_rfl) (by kernel_rfl) (of_decide_eq_true (by kernel_rfl)) (c116_0 (envOf [a0]) H Q h)
def hint90 : Nat → List Nat := p5Z []
def m90 (x0 : Value) (H : Heap) (Q : QT) : Prop :=
oNew (Value.cells x0).toList (Value.cells x0).toList.length 24 H fun u0 u1 =>
oV (qYZ 0 (qTZ u0)) fun u2 =>
oV (qWZ ty22 u2 u1) fun u3 =>
oRC Tryd.prog 116 [u3] u1 (pKZ Q) fun u4 u5 =>
oV (gV u4 true (qYZ 1 (qTZ u0)) (some undef)) fun u6 =>
oV (gV u4 true (qWZ ty3 u6 u5) (some undef)) fun u7 =>
oV (gV u4 true (vInt .geq u7 (.int .i64 4)) (some undef)) fun u8 =>
oV (pAZ u4 u8 (.bool false)) fun u9 =>
oV (gV u9 true (qYZ 1 (qTZ u0)) (some undef)) fun u10 =>
oV (gV u9 true (qWZ ty3 u10 u5) (some undef)) fun u11 =>
oV (gV u9 true (vInt .leq u11 (.int .i64 13)) (some undef)) fun u12 =>
oV (pAZ u9 u12 (.bool false)) fun u13 =>
oV (gV u13 true (qYZ 1 (qTZ u0)) (some undef)) fun u14 =>
oV (gV u13 true (qWZ ty3 u14 u5) (some undef)) fun u15 =>
oV (gV u13 true (vConv (.int .u64) u15) (some undef)) fun u16 =>
oV (gV u13 true (qYZ 0 (qTZ u0)) (some undef)) fun u17 =>
oV (gV u13 true (qWZ ty22 u17 u5) (some undef)) fun u18 =>
oV (gV u13 true (vInt .lss u16 u18) (some undef)) fun u19 =>
oV (pAZ u13 u19 (.bool false)) fun u20 =>
oV (gV u20 true (qYZ 2 (qTZ u0)) (some undef)) fun u21 =>
oV (gV u20 true (qWZ ty3 u21 u5) (some undef)) fun u22 =>
oV (gV u20 true (vInt .geq u22 (.int .i64 1)) (some undef)) fun u23 =>
oV (pAZ u20 u23 (.bool false)) fun u24 =>
oV (gV u24 true (qYZ 2 (qTZ u0)) (some undef)) fun u25 =>
oV (gV u24 true (qWZ ty3 u25 u5) (some undef)) fun u26 =>
oV (gV u24 true (qYZ 1 (qTZ u0)) (some undef)) fun u27 =>
oV (gV u24 true (qWZ ty3 u27 u5) (some undef)) fun u28 =>
oV (gV u24 true (vInt .lss u26 u28) (some undef)) fun u29 =>
oV (pAZ u24 u29 (.bool false)) fun u30 =>
oV (gV u30 true (qYZ 2 (qTZ u0)) (some undef)) fun u31 =>
oV (gV u30 true (qWZ ty3 u31 u5) (some undef)) fun u32 =>
oV (gV u30 true (vInt .mul (.int .i64 3) u32) (some undef)) fun u33 =>
oV (gV u30 true (qYZ 1 (qTZ u0)) (some undef)) fun u34 =>
oV (gV u30 true (qWZ ty3 u34 u5) (some undef)) fun u35 =>
oV (gV u30 true (vInt .lss u33 u35) (some undef)) fun u36 =>
oV (pAZ u30 u36 (.bool false)) fun u37 =>
Q (.returned u37) u5
theorem c90_0 (env : Env) (H : Heap) (Q : QT) (h : m90 (env 0) H Q) :
    qUZ Tryd.prog 44 (qSZ Tryd.f90) env H (mkK (rKZ Tryd.f90 Q) (fun _ _ _ => False) (rKZ Tryd.f90 Q) (pKZ Q)) :=
  qUZ.leaf_ (T := T) (X := ext) (hint := hint90) tok xok mixed (by kernel_rfl) h
theorem call90 (a0 : Value) (H : Heap) (Q : QT) (h : m90 a0 H Q) : qVZ Tryd.prog 90 [a0] H Q :=
  qVZ.intro (nt := 44) tok Tryd.func90 (by kernel_rfl) (by kernel_rfl) (by kernel_rfl) (of_decide_eq_true (by kernel_rfl)) (c90_0 (envOf [a0]) H Q h)
def hint91 : Nat → List Nat := p5Z [(6, [0,1,2,3,4,5,6,7,8,9,10,11,12,13,14,15,16,17,18,19,20,21,22,23,24,25,26,27,28,29])]
def m91_1 (H : Heap) (Q : QT) : Prop :=
Q (.returned (.bool true)) H
theorem c91_1 (env : Env) (H : Heap) (Q : QT) (h : m91_1 H Q) :
    qUZ Tryd.prog 52 (qRZ [1,1,1] (qSZ Tryd.f91)) env H (mkK (rKZ Tryd.f91 Q) (fun _ _ _ => False) (rKZ Tryd.f91 Q) (pKZ Q)) :=
  qUZ.leaf_ (T := T) (X := ext) (hint := hint91) tok xok mixed (by kernel_rfl) h
def L91_3 (x1 x2 x5 : Value) (H : Heap) (kn : K0T) (Q : QT) : Prop :=
  ∀ env : Env, env 1 = x1 → env 2 = x2 → env 5 = x5 → RLoop Tryd.prog 52 (qRZ [1,1,0,1,0,0] (qSZ Tryd.f91)) env H (mkK (fun _ _ => False) (inK 0 (fun e H => kn H) (fun _ _ _ => False)) (rKZ Tryd.f91 Q) (pKZ Q))
theorem cL91_3 (env : Env) (H : Heap) (kn : K0T) (Q : QT) (h : L91_3 (env 1) (env 2) (env 5) H kn Q) :
    qUZ Tryd.prog 52 (qRZ [1,1,0,1] (qSZ Tryd.f91)) env H (mkK (fun e H => kn H) (fun _ _ _ => False) (rKZ Tryd.f91 Q) (pKZ Q)) :=
  qUZ.blk (by kernel_rfl : (qRZ [1,1,0,1] (qSZ Tryd.f91)) = .block 0 (qRZ [1,1,0,1,0] (qSZ Tryd.f91))) (qUZ.lp (by kernel_rfl : (qRZ [1,1,0,1,0] (qSZ Tryd.f91)) = .loop (qRZ [1,1,0,1,0,0] (qSZ Tryd.f91))) ((h env rfl rfl rfl).mono (qPZ (fun _ _ h => h.elim) (fun _ _ _ h => h) (fun _ _ h => h) (fun _ _ h => h))))
def m91_4 (x1 x2 x5 : Value) (H : Heap) (kn : K3T) (kx0 : K0T) (Q : QT) : Prop :=
oV (vLen x1) fun u0 =>
oV (vInt .lss x5 u0) fun u1 =>
p7Z u1 (
oV (p1Z 1 x1 x5) fun u2 =>
oV (qWZ ty3 u2 H) fun u3 =>
oV (vInt .lss u3 (.int .i64 1)) fun u4 =>
oV (gV u4 false (some x1) (some undef)) fun u5 =>
oV (gV u4 false (some x5) (some undef)) fun u6 =>
oV (gV u4 false (p1Z 1 u5 u6) (some undef)) fun u7 =>
oV (gV u4 false (qWZ ty3 u7 H) (some undef)) fun u8 =>
oV (gV u4 false (qYZ 1 x2) (some undef)) fun u9 =>
oV (gV u4 false (qWZ ty3 u9 H) (some undef)) fun u10 =>
oV (gV u4 false (vInt .gtr u8 u10) (some undef)) fun u11 =>
oV (pAZ u4 (.bool true) u11) fun u12 =>
oV (gV u12 false (some x5) (some undef)) fun u13 =>
oV (gV u12 false (vInt .gtr u13 (.int .i64 0)) (some undef)) fun u14 =>
oV (gV u12 false (some u14) (some undef)) fun u15 =>
oV (gV u15 true (some x1) (some undef)) fun u16 =>
oV (gV u15 true (some x5) (some undef)) fun u17 =>
oV (gV u15 true (p1Z 1 u16 u17) (some undef)) fun u18 =>
oV (gV u15 true (qWZ ty3 u18 H) (some undef)) fun u19 =>
oV (gV u15 true (some x1) (some undef)) fun u20 =>
oV (gV u15 true (some x5) (some undef)) fun u21 =>
oV (gV u15 true (vInt .sub u21 (.int .i64 1)) (some undef)) fun u22 =>
oV (gV u15 true (p1Z 1 u20 u22) (some undef)) fun u23 =>
oV (gV u15 true (qWZ ty3 u23 H) (some undef)) fun u24 =>
oV (gV u15 true (vInt .leq u19 u24) (some undef)) fun u25 =>
oV (gV u12 false (pAZ u15 u25 (.bool false)) (some undef)) fun u26 =>
oV (pAZ u12 (.bool true) u26) fun u27 =>
p7Z u27 (
Q (.returned (.bool false)) H) (
oV (vInt .add x5 (.int .i64 1)) fun u28 =>
kn x1 x2 u28 H)) (
kx0 H)
theorem c91_4 (env : Env) (H : Heap) (kn : K3T) (kx0 : K0T) (Q : QT) (h : m91_4 (env 1) (env 2) (env 5) H kn kx0 Q) :
    qUZ Tryd.prog 52 (qRZ [1,1,0,1,0,0] (qSZ Tryd.f91)) env H (mkK (fun e H => kn (e 1) (e 2) (e 5) H) (inK 0 (fun e H => kx0 H) (fun _ _ _ => False)) (rKZ Tryd.f91 Q) (pKZ Q)) :=
  qUZ.leaf_ (T := T) (X := ext) (hint := hint91) tok xok mixed (by kernel_rfl) h
theorem L91_3_round (x1 x2 x5 : Value) (H : Heap) (kn : K0T) (Q : QT) (h : m91_4 x1 x2 x5 H (fun y1 y2 y5 H => L91_3 y1 y2 y5 H kn Q) kn Q) : L91_3 x1 x2 x5 H kn Q := by
  intro env h1 h2 h5
  subst h1; subst h2; subst h5
  exact RLoop.round ((c91_4 env H (fun y1 y2 y5 H => L91_3 y1 y2 y5 H kn Q) kn Q h).mono (qPZ (fun e H h => h e rfl rfl rfl) (fun _ _ _ h => h) (fun _ _ h => h) (fun _ _ h => h)))
def m91_2 (x1 x2 : Value) (H : Heap) (kn : K0T) (Q : QT) : Prop :=
L91_3 x1 x2 (.int .i64 0) H kn Q
theorem c91_2 (env : Env) (H : Heap) (kn : K0T) (Q : QT) (h : m91_2 (env 1) (env 2) H kn Q) :
    qUZ Tryd.prog 52 (qRZ [1,1,0] (qSZ Tryd.f91)) env H (mkK (fun e H => kn H) (fun _ _ _ => False) (rKZ Tryd.f91 Q) (pKZ Q)) :=
  qUZ.prefix_ (T := T) (X := ext) (hint := hint91) (hole := (fun e H => L91_3 (e 1) (e 2) (e 5) H kn Q)) tok xok mixed 1 (by kernel_rfl) (by kernel_rfl : qRZ _ _ = (qRZ [1,1,0,1] (qSZ Tryd.f91))) h
    (fun e H h => (cL91_3 e H kn Q h))
def m91 (x0 x1 : Value) (H : Heap) (Q : QT) : Prop :=
oNew (Value.cells x0).toList (Value.cells x0).toList.length 24 H fun u0 u1 =>
oV (qWZ ty24 (qTZ u0) u1) fun u2 =>
oRC Tryd.prog 90 [u2] u1 (pKZ Q) fun u3 u4 =>
oV (vUn .not u3) fun u5 =>
oV (gV u5 false (some x1) (some undef)) fun u6 =>
oV (gV u5 false (vLen u6) (some undef)) fun u7 =>
oV (gV u5 false (qYZ 2 (qTZ u0)) (some undef)) fun u8 =>
oV (gV u5 false (qWZ ty3 u8 u4) (some undef)) fun u9 =>
oV (gV u5 false (vInt .gtr u7 u9) (some undef)) fun u10 =>
oV (pAZ u5 (.bool true) u10) fun u11 =>
p7Z u11 (
Q (.returned (.bool false)) u4) (
m91_2 x1 (qTZ u0) u4 (fun u12 => m91_1 u12 Q) Q)
theorem c91_0 (env : Env) (H : Heap) (Q : QT) (h : m91 (env 0) (env 1) H Q) :
    qUZ Tryd.prog 52 (qSZ Tryd.f91) env H (mkK (rKZ Tryd.f91 Q) (fun _ _ _ => False) (rKZ Tryd.f91 Q) (pKZ Q)) :=
  qUZ.prefix_ (T := T) (X := ext) (hint := hint91) (hole := (fun e H => m91_2 (e 1) (e 2) H (fun H_43 => m91_1 H_43 Q) Q)) tok xok mixed 2 (by kernel_rfl) (by kernel_rfl : qRZ _ _ = (qRZ [1,1] (qSZ Tryd.f91))) h
    (fun e H h => qUZ.join (by kernel_rfl : (qRZ [1,1] (qSZ Tryd.f91)) = .seq (qRZ [1,1,0] (qSZ Tryd.f91)) (qRZ [1,1,1] (qSZ Tryd.f91))) ((c91_2 e H (fun H_44 => m91_1 H_44 Q) Q h).mono (qPZ (fun e H h => c91_1 e H Q h) (fun _ _ _ h => h) (fun _ _ h => h) (fun _ _ h => h))))
theorem call91 (a0 a1 : Value) (H : Heap) (Q : QT) (h : m91 a0 a1 H Q) : qVZ Tryd.prog 91 [a0, a1] H Q :=
  qVZ.intro (nt := 52) tok Tryd.func91 (by kernel_rfl) (by kernel_rfl) (by kernel_rfl) (of_decide_eq_true (by kernel_rfl)) (c91_0 (envOf [a0, a1]) H Q h)
def hint92 : Nat → List Nat := p5Z []
def m92 (x0 x1 : Value) (H : Heap) (Q : QT) : Prop :=
oNew (Value.cells x0).toList (Value.cells x0).toList.length 24 H fun u0 u1 =>
oNew (Value.cells x1).toList (Value.cells x1).toList.length 109 u1 fun u2 u3 =>
oV (qYZ 0 (qTZ u2)) fun u4 =>
oV (qWZ ty3 u4 u3) fun u5 =>
oV (vInt .geq u5 (.int .i64 0)) fun u6 =>
oV (gV u6 true (qYZ 3 (qTZ u2)) (some undef)) fun u7 =>
oV (gV u6 true (qWZ ty3 u7 u3) (some undef)) fun u8 =>
oV (gV u6 true (vInt .geq u8 (.int .i64 0)) (some undef)) fun u9 =>
oV (pAZ u6 u9 (.bool false)) fun u10 =>
oV (gV u10 true (qYZ 7 (qTZ u2)) (some undef)) fun u11 =>
oV (gV u10 true (qWZ ty3 u11 u3) (some undef)) fun u12 =>
oV (gV u10 true (vInt .geq u12 (.int .i64 0)) (some undef)) fun u13 =>
oV (pAZ u10 u13 (.bool false)) fun u14 =>
oV (gV u14 true (qYZ 1 (qTZ u2)) (some undef)) fun u15 =>
oV (gV u14 true (qWZ ty3 u15 u3) (some undef)) fun u16 =>
oV (gV u14 true (vInt .geq u16 (.int .i64 1)) (some undef)) fun u17 =>
oV (pAZ u14 u17 (.bool false)) fun u18 =>
oV (gV u18 true (qYZ 1 (qTZ u2)) (some undef)) fun u19 =>
oV (gV u18 true (qWZ ty3 u19 u3) (some undef)) fun u20 =>
oV (gV u18 true (qYZ 1 (qTZ u0)) (some undef)) fun u21 =>
oV (gV u18 true (qWZ ty3 u21 u3) (some undef)) fun u22 =>
oV (gV u18 true (vInt .leq u20 u22) (some undef)) fun u23 =>
oV (pAZ u18 u23 (.bool false)) fun u24 =>
oV (gV u24 true (qYZ 2 (qTZ u2)) (some undef)) fun u25 =>
oV (gV u24 true (qWZ ty3 u25 u3) (some undef)) fun u26 =>
oV (gV u24 true (vInt .geq u26 (.int .i64 0)) (some undef)) fun u27 =>
oV (pAZ u24 u27 (.bool false)) fun u28 =>
oV (gV u28 true (qYZ 2 (qTZ u2)) (some undef)) fun u29 =>
oV (gV u28 true (qWZ ty3 u29 u3) (some undef)) fun u30 =>
oV (gV u28 true (qYZ 1 (qTZ u0)) (some undef)) fun u31 =>
oV (gV u28 true (qWZ ty3 u31 u3) (some undef)) fun u32 =>
oV (gV u28 true (vInt .leq u30 u32) (some undef)) fun u33 =>
oV (pAZ u28 u33 (.bool false)) fun u34 =>
oV (gV u34 true (qYZ 4 (qTZ u2)) (some undef)) fun u35 =>
oV (gV u34 true (qWZ ty3 u35 u3) (some undef)) fun u36 =>
oV (gV u34 true (vInt .geq u36 (.int .i64 1)) (some undef)) fun u37 =>
oV (pAZ u34 u37 (.bool false)) fun u38 =>
oV (gV u38 true (qYZ 4 (qTZ u2)) (some undef)) fun u39 =>
oV (gV u38 true (qWZ ty3 u39 u3) (some undef)) fun u40 =>
oV (gV u38 true (vInt .leq u40 (.int .i64 4)) (some undef)) fun u41 =>
oV (pAZ u38 u41 (.bool false)) fun u42 =>
oV (gV u42 true (qYZ 6 (qTZ u2)) (some undef)) fun u43 =>
oV (gV u42 true (qWZ ty3 u43 u3) (some undef)) fun u44 =>
oV (gV u42 true (vInt .geq u44 (.int .i64 0)) (some undef)) fun u45 =>
oV (pAZ u42 u45 (.bool false)) fun u46 =>
oV (gV u46 true (qYZ 6 (qTZ u2)) (some undef)) fun u47 =>
oV (gV u46 true (qWZ ty3 u47 u3) (some undef)) fun u48 =>
oV (gV u46 true (qYZ 1 (qTZ u0)) (some undef)) fun u49 =>
oV (gV u46 true (qWZ ty3 u49 u3) (some undef)) fun u50 =>
oV (gV u46 true (vInt .leq u48 u50) (some undef)) fun u51 =>
oV (pAZ u46 u51 (.bool false)) fun u52 =>
oV (gV u52 true (qYZ 4 (qTZ u2)) (some undef)) fun u53 =>
oV (gV u52 true (qWZ ty3 u53 u3) (some undef)) fun u54 =>
oV (gV u52 true (vInt .neq u54 (.int .i64 3)) (some undef)) fun u55 =>
oV (gV u52 true (some u55) (some undef)) fun u56 =>
oV (gV u56 false (qYZ 6 (qTZ u2)) (some undef)) fun u57 =>
oV (gV u56 false (qWZ ty3 u57 u3) (some undef)) fun u58 =>
oV (gV u56 false (vInt .geq u58 (.int .i64 1)) (some undef)) fun u59 =>
oV (gV u52 true (pAZ u56 (.bool true) u59) (some undef)) fun u60 =>
oV (pAZ u52 u60 (.bool false)) fun u61 =>
Q (.returned u61) u3
theorem c92_0 (env : Env) (H : Heap) (Q : QT) (h : m92 (env 0) (env 1) H Q) :
    qUZ Tryd.prog 74 (qSZ Tryd.f92) env H (mkK (rKZ Tryd.f92 Q) (fun _ _ _ => False) (rKZ Tryd.f92 Q) (pKZ Q)) :=
  qUZ.leaf_ (T := T) (X := ext) (hint := hint92) tok xok mixed (by kernel_rfl) h
theorem call92 (a0 a1 : Value) (H : Heap) (Q : QT) (h : m92 a0 a1 H Q) : qVZ Tryd.prog 92 [a0, a1] H Q :=
  qVZ.intro (nt := 74) tok Tryd.func92 (by kernel_rfl) (by kernel_rfl) (by kernel_rfl) (of_decide_eq_true (by kernel_rfl)) (c92_0 (envOf [a0, a1]) H Q h)
def hint65 : Nat → List Nat := p5Z []
def m65_1 (H : Heap) (Q : QT) : Prop :=
Q (.returned (.bool true)) H
theorem c65_1 (env : Env) (H : Heap) (Q : QT) (h : m65_1 H Q) :
    qUZ Tryd.prog 18 (qRZ [1,1] (qSZ Tryd.f65)) env H (mkK (rKZ Tryd.f65 Q) (fun _ _ _ => False) (rKZ Tryd.f65 Q) (pKZ Q)) :=
  qUZ.leaf_ (T := T) (X := ext) (hint := hint65) tok xok mixed (by kernel_rfl) h
def L65_3 (x0 x1 x5 : Value) (H : Heap) (kn : K0T) (Q : QT) : Prop :=
  ∀ env : Env, env 0 = x0 → env 1 = x1 → env 5 = x5 → RLoop Tryd.prog 18 (qRZ [1,0,1,0,0] (qSZ Tryd.f65)) env H (mkK (fun _ _ => False) (inK 0 (fun e H => kn H) (fun _ _ _ => False)) (rKZ Tryd.f65 Q) (pKZ Q))
theorem cL65_3 (env : Env) (H : Heap) (kn : K0T) (Q : QT) (h : L65_3 (env 0) (env 1) (env 5) H kn Q) :
    qUZ Tryd.prog 18 (qRZ [1,0,1] (qSZ Tryd.f65)) env H (mkK (fun e H => kn H) (fun _ _ _ => False) (rKZ Tryd.f65 Q) (pKZ Q)) :=
  qUZ.blk (by kernel_rfl : (qRZ [1,0,1] (qSZ Tryd.f65)) = .block 0 (qRZ [1,0,1,0] (qSZ Tryd.f65))) (qUZ.lp (by kernel_rfl : (qRZ [1,0,1,0] (qSZ Tryd.f65)) = .loop (qRZ [1,0,1,0,0] (qSZ Tryd.f65))) ((h env rfl rfl rfl).mono (qPZ (fun _ _ h => h.elim) (fun _ _ _ h => h) (fun _ _ h => h) (fun _ _ h => h))))
def m65_4 (x0 x1 x5 : Value) (H : Heap) (kn : K3T) (kx0 : K0T) (Q : QT) : Prop :=
oV (vLen x1) fun u0 =>
oV (vInt .lss x5 u0) fun u1 =>
p7Z u1 (
oV (p1Z 1 x1 x5) fun u2 =>
oV (qWZ ty22 u2 H) fun u3 =>
oV (vInt .geq u3 x0) fun u4 =>
p7Z u4 (
Q (.returned (.bool false)) H) (
oV (vInt .add x5 (.int .i64 1)) fun u5 =>
kn x0 x1 u5 H)) (
kx0 H)
theorem c65_4 (env : Env) (H : Heap) (kn : K3T) (kx0 : K0T) (Q : QT) (h : m65_4 (env 0) (env 1) (env 5) H kn kx0 Q) :
    qUZ Tryd.prog 18 (qRZ [1,0,1,0,0] (qSZ Tryd.f65)) env H (mkK (fun e H => kn (e 0) (e 1) (e 5) H) (inK 0 (fun e H => kx0 H) (fun _ _ _ => False)) (rKZ Tryd.f65 Q) (pKZ Q)) :=
  qUZ.leaf_ (T := T) (X := ext) (hint := hint65) tok xok mixed (by kernel_rfl) h
theorem L65_3_round (x0 x1 x5 : Value) (H : Heap) (kn : K0T) (Q : QT) (h : m65_4 x0 x1 x5 H (fun y0 y1 y5 H => L65_3 y0 y1 y5 H kn Q) kn Q) : L65_3 x0 x1 x5 H kn Q := by
  intro env h0 h1 h5
  subst h0; subst h1; subst h5
  exact RLoop.round ((c65_4 env H (fun y0 y1 y5 H => L65_3 y0 y1 y5 H kn Q) kn Q h).mono (qPZ (fun e H h => h e rfl rfl rfl) (fun _ _ _ h => h) (fun _ _ h => h) (fun _ _ h => h)))
def m65_2 (x0 x1 : Value) (H : Heap) (kn : K0T) (Q : QT) : Prop :=
L65_3 x0 x1 (.int .i64 0) H kn Q
theorem c65_2 (env : Env) (H : Heap) (kn : K0T) (Q : QT) (h : m65_2 (env 0) (env 1) H kn Q) :
    qUZ Tryd.prog 18 (qRZ [1,0] (qSZ Tryd.f65)) env H (mkK (fun e H => kn H) (fun _ _ _ => False) (rKZ Tryd.f65 Q) (pKZ Q)) :=
  qUZ.prefix_ (T := T) (X := ext) (hint := hint65) (hole := (fun e H => L65_3 (e 0) (e 1) (e 5) H kn Q)) tok xok mixed 1 (by kernel_rfl) (by kernel_rfl : qRZ _ _ = (qRZ [1,0,1] (qSZ Tryd.f65))) h
    (fun e H h => (cL65_3 e H kn Q h))
def m65 (x0 x1 : Value) (H : Heap) (Q : QT) : Prop :=
m65_2 x0 x1 H (fun u0 => m65_1 u0 Q) Q
theorem c65_0 (env : Env) (H : Heap) (Q : QT) (h : m65 (env 0) (env 1) H Q) :
    qUZ Tryd.prog 18 (qSZ Tryd.f65) env H (mkK (rKZ Tryd.f65 Q) (fun _ _ _ => False) (rKZ Tryd.f65 Q) (pKZ Q)) :=
  qUZ.prefix_ (T := T) (X := ext) (hint := hint65) (hole := (fun e H => m65_2 (e 0) (e 1) H (fun H_8 => m65_1 H_8 Q) Q)) tok xok mixed 1 (by kernel_rfl) (by kernel_rfl : qRZ _ _ = (qRZ [1] (qSZ Tryd.f65))) h
    (fun e H h => qUZ.join (by kernel_rfl : (qRZ [1] (qSZ Tryd.f65)) = .seq (qRZ [1,0] (qSZ Tryd.f65)) (qRZ [1,1] (qSZ Tryd.f65))) ((c65_2 e H (fun H_9 => m65_1 H_9 Q) Q h).mono (qPZ (fun e H h => c65_1 e H Q h) (fun _ _ _ h => h) (fun _ _ h => h) (fun _ _ h => h))))
theorem call65 (a0 a1 : Value) (H : Heap) (Q : QT) (h : m65 a0 a1 H Q) : qVZ Tryd.prog 65 [a0, a1] H Q :=
  qVZ.intro (nt := 18) tok Tryd.func65 (by kernel_rfl) (by kernel_rfl) (by kernel_rfl) (of_decide_eq_true (by kernel_rfl)) (c65_0 (envOf [a0, a1]) H Q h)
def hint54 : Nat → List Nat := p5Z [(6, [0,1,2,3,4,5,6,7,8]), (11, [0,1,2,3,4,5,6,7,8,9])]
def m54_2 (H : Heap) (Q : QT) : Prop :=
Q (.returned (.bool true)) H
theorem c54_2 (env : Env) (H : Heap) (Q : QT) (h : m54_2 H Q) :
    qUZ Tryd.prog 59 (qRZ [1,1,1,1] (qSZ Tryd.f54)) env H (mkK (rKZ Tryd.f54 Q) (fun _ _ _ => False) (rKZ Tryd.f54 Q) (pKZ Q)) :=
  qUZ.leaf_ (T := T) (X := ext) (hint := hint54) tok xok mixed (by kernel_rfl) h
def L54_4 (x1 x4 : Value) (H : Heap) (kn : K0T) (Q : QT) : Prop :=
  ∀ env : Env, env 1 = x1 → env 4 = x4 → RLoop Tryd.prog 59 (qRZ [1,1,1,0,1,0,0] (qSZ Tryd.f54)) env H (mkK (fun _ _ => False) (inK 2 (fun e H => kn H) (fun _ _ _ => False)) (rKZ Tryd.f54 Q) (pKZ Q))
theorem cL54_4 (env : Env) (H : Heap) (kn : K0T) (Q : QT) (h : L54_4 (env 1) (env 4) H kn Q) :
    qUZ Tryd.prog 59 (qRZ [1,1,1,0,1] (qSZ Tryd.f54)) env H (mkK (fun e H => kn H) (fun _ _ _ => False) (rKZ Tryd.f54 Q) (pKZ Q)) :=
  qUZ.blk (by kernel_rfl : (qRZ [1,1,1,0,1] (qSZ Tryd.f54)) = .block 2 (qRZ [1,1,1,0,1,0] (qSZ Tryd.f54))) (qUZ.lp (by kernel_rfl : (qRZ [1,1,1,0,1,0] (qSZ Tryd.f54)) = .loop (qRZ [1,1,1,0,1,0,0] (qSZ Tryd.f54))) ((h env rfl rfl).mono (qPZ (fun _ _ h => h.elim) (fun _ _ _ h => h) (fun _ _ h => h) (fun _ _ h => h))))
def m54_5 (x1 x4 : Value) (H : Heap) (kn : K2T) (kx2 : K0T) (Q : QT) : Prop :=
oV (qYZ 5 x1) fun u0 =>
oV (qWZ ty27 u0 H) fun u1 =>
oV (vLen u1) fun u2 =>
oV (vInt .lss x4 u2) fun u3 =>
p7Z u3 (
oV (qYZ 0 x1) fun u4 =>
oV (qYZ 0 u4) fun u5 =>
oV (qWZ ty22 u5 H) fun u6 =>
oV (qYZ 5 x1) fun u7 =>
oV (qWZ ty27 u7 H) fun u8 =>
oV (p1Z 1 u8 x4) fun u9 =>
oV (qWZ ty52 u9 H) fun u10 =>
oRC Tryd.prog 65 [u6, u10] H noP fun u11 u12 =>
oV (vUn .not u11) fun u13 =>
p7Z u13 (
Q (.returned (.bool false)) u12) (
oV (vInt .add x4 (.int .i64 1)) fun u14 =>
kn x1 u14 u12)) (
kx2 H)
theorem c54_5 (env : Env) (H : Heap) (kn : K2T) (kx2 : K0T) (Q : QT) (h : m54_5 (env 1) (env 4) H kn kx2 Q) :
    qUZ Tryd.prog 59 (qRZ [1,1,1,0,1,0,0] (qSZ Tryd.f54)) env H (mkK (fun e H => kn (e 1) (e 4) H) (inK 2 (fun e H => kx2 H) (fun _ _ _ => False)) (rKZ Tryd.f54 Q) (pKZ Q)) :=
  qUZ.leaf_ (T := T) (X := ext) (hint := hint54) tok xok mixed (by kernel_rfl) h
theorem L54_4_round (x1 x4 : Value) (H : Heap) (kn : K0T) (Q : QT) (h : m54_5 x1 x4 H (fun y1 y4 H => L54_4 y1 y4 H kn Q) kn Q) : L54_4 x1 x4 H kn Q := by
  intro env h1 h4
  subst h1; subst h4
  exact RLoop.round ((c54_5 env H (fun y1 y4 H => L54_4 y1 y4 H kn Q) kn Q h).mono (qPZ (fun e H h => h e rfl rfl) (fun _ _ _ h => h) (fun _ _ h => h) (fun _ _ h => h)))
def m54_3 (x1 : Value) (H : Heap) (kn : K0T) (Q : QT) : Prop :=
L54_4 x1 (.int .i64 0) H kn Q
theorem c54_3 (env : Env) (H : Heap) (kn : K0T) (Q : QT) (h : m54_3 (env 1) H kn Q) :
    qUZ Tryd.prog 59 (qRZ [1,1,1,0] (qSZ Tryd.f54)) env H (mkK (fun e H => kn H) (fun _ _ _ => False) (rKZ Tryd.f54 Q) (pKZ Q)) :=
  qUZ.prefix_ (T := T) (X := ext) (hint := hint54) (hole := (fun e H => L54_4 (e 1) (e 4) H kn Q)) tok xok mixed 1 (by kernel_rfl) (by kernel_rfl : qRZ _ _ = (qRZ [1,1,1,0,1] (qSZ Tryd.f54))) h
    (fun e H h => (cL54_4 e H kn Q h))
def m54_1 (x1 : Value) (H : Heap) (Q : QT) : Prop :=
m54_3 x1 H (fun u0 => m54_2 u0 Q) Q
theorem c54_1 (env : Env) (H : Heap) (Q : QT) (h : m54_1 (env 1) H Q) :
    qUZ Tryd.prog 59 (qRZ [1,1,1] (qSZ Tryd.f54)) env H (mkK (rKZ Tryd.f54 Q) (fun _ _ _ => False) (rKZ Tryd.f54 Q) (pKZ Q)) :=
  qUZ.join (by kernel_rfl : (qRZ [1,1,1] (qSZ Tryd.f54)) = .seq (qRZ [1,1,1,0] (qSZ Tryd.f54)) (qRZ [1,1,1,1] (qSZ Tryd.f54))) ((c54_3 env H (fun H_17 => m54_2 H_17 Q) Q h).mono (qPZ (fun e H h => c54_2 e H Q h) (fun _ _ _ h => h) (fun _ _ h => h) (fun _ _ h => h)))
def L54_7 (x1 x3 : Value) (H : Heap) (kn : K1T) (Q : QT) : Prop :=
  ∀ env : Env, env 1 = x1 → env 3 = x3 → RLoop Tryd.prog 59 (qRZ [1,1,0,1,0,0] (qSZ Tryd.f54)) env H (mkK (fun _ _ => False) (inK 0 (fun e H => kn (e 1) H) (fun _ _ _ => False)) (rKZ Tryd.f54 Q) (pKZ Q))
theorem cL54_7 (env : Env) (H : Heap) (kn : K1T) (Q : QT) (h : L54_7 (env 1) (env 3) H kn Q) :
    qUZ Tryd.prog 59 (qRZ [1,1,0,1] (qSZ Tryd.f54)) env H (mkK (fun e H => kn (e 1) H) (fun _ _ _ => False) (rKZ Tryd.f54 Q) (pKZ Q)) :=
  qUZ.blk (by kernel_rfl : (qRZ [1,1,0,1] (qSZ Tryd.f54)) = .block 0 (qRZ [1,1,0,1,0] (qSZ Tryd.f54))) (qUZ.lp (by kernel_rfl : (qRZ [1,1,0,1,0] (qSZ Tryd.f54)) = .loop (qRZ [1,1,0,1,0,0] (qSZ Tryd.f54))) ((h env rfl rfl).mono (qPZ (fun _ _ h => h.elim) (fun _ _ _ h => h) (fun _ _ h => h) (fun _ _ h => h))))
def m54_8 (x1 x3 : Value) (H : Heap) (kn : K2T) (kx0 : K1T) (Q : QT) : Prop :=
oV (qYZ 4 x1) fun u0 =>
oV (qWZ ty26 u0 H) fun u1 =>
oV (vLen u1) fun u2 =>
oV (vInt .lss x3 u2) fun u3 =>
p7Z u3 (
oV (qYZ 0 x1) fun u4 =>
oV (qWZ ty24 u4 H) fun u5 =>
oV (qYZ 4 x1) fun u6 =>
oV (qWZ ty26 u6 H) fun u7 =>
oV (p1Z 8 u7 x3) fun u8 =>
oV (qWZ ty109 u8 H) fun u9 =>
oRC Tryd.prog 92 [u5, u9] H noP fun u10 u11 =>
oV (vUn .not u10) fun u12 =>
p7Z u12 (
Q (.returned (.bool false)) u11) (
oV (vInt .add x3 (.int .i64 1)) fun u13 =>
kn x1 u13 u11)) (
kx0 x1 H)
theorem c54_8 (env : Env) (H : Heap) (kn : K2T) (kx0 : K1T) (Q : QT) (h : m54_8 (env 1) (env 3) H kn kx0 Q) :
    qUZ Tryd.prog 59 (qRZ [1,1,0,1,0,0] (qSZ Tryd.f54)) env H (mkK (fun e H => kn (e 1) (e 3) H) (inK 0 (fun e H => kx0 (e 1) H) (fun _ _ _ => False)) (rKZ Tryd.f54 Q) (pKZ Q)) :=
  qUZ.leaf_ (T := T) (X := ext) (hint := hint54) tok xok mixed (by kernel_rfl) h
theorem L54_7_round (x1 x3 : Value) (H : Heap) (kn : K1T) (Q : QT) (h : m54_8 x1 x3 H (fun y1 y3 H => L54_7 y1 y3 H kn Q) kn Q) : L54_7 x1 x3 H kn Q := by
  intro env h1 h3
  subst h1; subst h3
  exact RLoop.round ((c54_8 env H (fun y1 y3 H => L54_7 y1 y3 H kn Q) kn Q h).mono (qPZ (fun e H h => h e rfl rfl) (fun _ _ _ h => h) (fun _ _ h => h) (fun _ _ h => h)))
def m54_6 (x1 : Value) (H : Heap) (kn : K1T) (Q : QT) : Prop :=
L54_7 x1 (.int .i64 0) H kn Q
theorem c54_6 (env : Env) (H : Heap) (kn : K1T) (Q : QT) (h : m54_6 (env 1) H kn Q) :
    qUZ Tryd.prog 59 (qRZ [1,1,0] (qSZ Tryd.f54)) env H (mkK (fun e H => kn (e 1) H) (fun _ _ _ => False) (rKZ Tryd.f54 Q) (pKZ Q)) :=
  qUZ.prefix_ (T := T) (X := ext) (hint := hint54) (hole := (fun e H => L54_7 (e 1) (e 3) H kn Q)) tok xok mixed 1 (by kernel_rfl) (by kernel_rfl : qRZ _ _ = (qRZ [1,1,0,1] (qSZ Tryd.f54))) h
    (fun e H h => (cL54_7 e H kn Q h))
def m54 (x0 : Value) (H : Heap) (Q : QT) : Prop :=
oNew (Value.cells x0).toList (Value.cells x0).toList.length 29 H fun u0 u1 =>
oV (qYZ 0 (qTZ u0)) fun u2 =>
oV (qWZ ty24 u2 u1) fun u3 =>
oRC Tryd.prog 90 [u3] u1 (pKZ Q) fun u4 u5 =>
oV (vUn .not u4) fun u6 =>
oV (gV u6 false (qYZ 0 (qTZ u0)) (some undef)) fun u7 =>
oV (gV u6 false (qWZ ty24 u7 u5) (some undef)) fun u8 =>
oV (gV u6 false (qYZ 3 (qTZ u0)) (some undef)) fun u9 =>
oV (gV u6 false (qWZ ty25 u9 u5) (some undef)) fun u10 =>
letK (fun u11 u12 =>
oV (gV u6 false (vUn .not u11) (some undef)) fun u13 =>
oV (pAZ u6 (.bool true) u13) fun u14 =>
oV (gV u14 false (qYZ 5 (qTZ u0)) (some undef)) fun u15 =>
oV (gV u14 false (qWZ ty27 u15 u12) (some undef)) fun u16 =>
oV (gV u14 false (vLen u16) (some undef)) fun u17 =>
oV (gV u14 false (qYZ 0 (qTZ u0)) (some undef)) fun u18 =>
oV (gV u14 false (qYZ 1 u18) (some undef)) fun u19 =>
oV (gV u14 false (qWZ ty3 u19 u12) (some undef)) fun u20 =>
oV (gV u14 false (vInt .neq u17 u20) (some undef)) fun u21 =>
oV (pAZ u14 (.bool true) u21) fun u22 =>
p7Z u22 (
Q (.returned (.bool false)) u12) (
m54_6 (qTZ u0) u12 (fun u23 u24 => m54_1 u23 u24 Q) Q)) fun u25 => gK u6 false (oRC Tryd.prog 91 [u8, u10] u5 (pKZ Q) fun u26 u27 =>
u25 u26 u27) (u25 undef u5)
theorem c54_0 (env : Env) (H : Heap) (Q : QT) (h : m54 (env 0) H Q) :
    qUZ Tryd.prog 59 (qSZ Tryd.f54) env H (mkK (rKZ Tryd.f54 Q) (fun _ _ _ => False) (rKZ Tryd.f54 Q) (pKZ Q)) :=
  qUZ.prefix_ (T := T) (X := ext) (hint := hint54) (hole := (fun e H => m54_6 (e 1) H (fun y1_60 H_61 => m54_1 y1_60 H_61 Q) Q)) tok xok mixed 2 (by kernel_rfl) (by kernel_rfl : qRZ _ _ = (qRZ [1,1] (qSZ Tryd.f54))) h
    (fun e H h => qUZ.join (by kernel_rfl : (qRZ [1,1] (qSZ Tryd.f54)) = .seq (qRZ [1,1,0] (qSZ Tryd.f54)) (qRZ [1,1,1] (qSZ Tryd.f54))) ((c54_6 e H (fun y1_62 H_63 => m54_1 y1_62 H_63 Q) Q h).mono (qPZ (fun e H h => c54_1 e H Q h) (fun _ _ _ h => h) (fun _ _ h => h) (fun _ _ h => h))))
theorem call54 (a0 : Value) (H : Heap) (Q : QT) (h : m54 a0 H Q) : qVZ Tryd.prog 54 [a0] H Q :=
  qVZ.intro (nt := 59) tok Tryd.func54 (by kernel_rfl) (by kernel_rfl) (by kernel_rfl) (of_decide_eq_true (by kernel_rfl)) (c54_0 (envOf [a0]) H Q h)
def hint50 : Nat → List Nat := p5Z []
def m50_1 (x3 : Value) (H : Heap) (Q : QT) : Prop :=
oV (qWZ ty29 x3 H) fun u0 =>
oRC Tryd.prog 54 [u0] H (pKZ Q) fun u1 u2 =>
Q (.returned u1) u2
theorem c50_1 (env : Env) (H : Heap) (Q : QT) (h : m50_1 (env 3) H Q) :
    qUZ Tryd.prog 42 (qRZ [1,1,1] (qSZ Tryd.f50)) env H (mkK (rKZ Tryd.f50 Q) (fun _ _ _ => False) (rKZ Tryd.f50 Q) (pKZ Q)) :=
  qUZ.leaf_ (T := T) (X := ext) (hint := hint50) tok xok mixed (by kernel_rfl) h
def L50_3 (x2 x3 x7 : Value) (H : Heap) (kn : K1T) (Q : QT) : Prop :=
  ∀ env : Env, env 2 = x2 → env 3 = x3 → env 7 = x7 → RLoop Tryd.prog 42 (qRZ [1,1,0,1,0,0] (qSZ Tryd.f50)) env H (mkK (fun _ _ => False) (inK 0 (fun e H => kn (e 3) H) (fun _ _ _ => False)) (rKZ Tryd.f50 Q) (pKZ Q))
theorem cL50_3 (env : Env) (H : Heap) (kn : K1T) (Q : QT) (h : L50_3 (env 2) (env 3) (env 7) H kn Q) :
    qUZ Tryd.prog 42 (qRZ [1,1,0,1] (qSZ Tryd.f50)) env H (mkK (fun e H => kn (e 3) H) (fun _ _ _ => False) (rKZ Tryd.f50 Q) (pKZ Q)) :=
  qUZ.blk (by kernel_rfl : (qRZ [1,1,0,1] (qSZ Tryd.f50)) = .block 0 (qRZ [1,1,0,1,0] (qSZ Tryd.f50))) (qUZ.lp (by kernel_rfl : (qRZ [1,1,0,1,0] (qSZ Tryd.f50)) = .loop (qRZ [1,1,0,1,0,0] (qSZ Tryd.f50))) ((h env rfl rfl rfl).mono (qPZ (fun _ _ h => h.elim) (fun _ _ _ h => h) (fun _ _ h => h) (fun _ _ h => h))))
def m50_4 (x2 x3 x7 : Value) (H : Heap) (kn : K3T) (kx0 : K1T) (Q : QT) : Prop :=
oV (qYZ 5 x3) fun u0 =>
oV (qWZ ty27 u0 H) fun u1 =>
oV (vLen u1) fun u2 =>
oV (vInt .lss x7 u2) fun u3 =>
p7Z u3 (
oV (qYZ 5 x3) fun u4 =>
oV (qWZ ty27 u4 H) fun u5 =>
oV (p1Z 1 u5 x7) fun u6 =>
oV (qWZ ty52 u6 H) fun u7 =>
oV (vLen u7) fun u8 =>
oV (vInt .gtr u8 x2) fun u9 =>
p7Z u9 (
Q (.returned (.bool false)) H) (
oV (vInt .add x7 (.int .i64 1)) fun u10 =>
kn x2 x3 u10 H)) (
kx0 x3 H)
theorem c50_4 (env : Env) (H : Heap) (kn : K3T) (kx0 : K1T) (Q : QT) (h : m50_4 (env 2) (env 3) (env 7) H kn kx0 Q) :
    qUZ Tryd.prog 42 (qRZ [1,1,0,1,0,0] (qSZ Tryd.f50)) env H (mkK (fun e H => kn (e 2) (e 3) (e 7) H) (inK 0 (fun e H => kx0 (e 3) H) (fun _ _ _ => False)) (rKZ Tryd.f50 Q) (pKZ Q)) :=
  qUZ.leaf_ (T := T) (X := ext) (hint := hint50) tok xok mixed (by kernel_rfl) h
theorem L50_3_round (x2 x3 x7 : Value) (H : Heap) (kn : K1T) (Q : QT) (h : m50_4 x2 x3 x7 H (fun y2 y3 y7 H => L50_3 y2 y3 y7 H kn Q) kn Q) : L50_3 x2 x3 x7 H kn Q := by
  intro env h2 h3 h7
  subst h2; subst h3; subst h7
  exact RLoop.round ((c50_4 env H (fun y2 y3 y7 H => L50_3 y2 y3 y7 H kn Q) kn Q h).mono (qPZ (fun e H h => h e rfl rfl rfl) (fun _ _ _ h => h) (fun _ _ h => h) (fun _ _ h => h)))
def m50_2 (x2 x3 : Value) (H : Heap) (kn : K1T) (Q : QT) : Prop :=
L50_3 x2 x3 (.int .i64 0) H kn Q
theorem c50_2 (env : Env) (H : Heap) (kn : K1T) (Q : QT) (h : m50_2 (env 2) (env 3) H kn Q) :
    qUZ Tryd.prog 42 (qRZ [1,1,0] (qSZ Tryd.f50)) env H (mkK (fun e H => kn (e 3) H) (fun _ _ _ => False) (rKZ Tryd.f50 Q) (pKZ Q)) :=
  qUZ.prefix_ (T := T) (X := ext) (hint := hint50) (hole := (fun e H => L50_3 (e 2) (e 3) (e 7) H kn Q)) tok xok mixed 1 (by kernel_rfl) (by kernel_rfl : qRZ _ _ = (qRZ [1,1,0,1] (qSZ Tryd.f50))) h
    (fun e H h => (cL50_3 e H kn Q h))
def m50 (x0 x1 x2 : Value) (H : Heap) (Q : QT) : Prop :=
oNew (Value.cells x0).toList (Value.cells x0).toList.length 29 H fun u0 u1 =>
oV (qYZ 4 (qTZ u0)) fun u2 =>
oV (qWZ ty26 u2 u1) fun u3 =>
oV (vLen u3) fun u4 =>
oV (vInt .gtr u4 x1) fun u5 =>
oV (gV u5 false (qYZ 5 (qTZ u0)) (some undef)) fun u6 =>
oV (gV u5 false (qWZ ty27 u6 u1) (some undef)) fun u7 =>
oV (gV u5 false (vLen u7) (some undef)) fun u8 =>
oV (gV u5 false (vInt .gtr u8 (.int .i64 13)) (some undef)) fun u9 =>
oV (pAZ u5 (.bool true) u9) fun u10 =>
oV (gV u10 false (qYZ 3 (qTZ u0)) (some undef)) fun u11 =>
oV (gV u10 false (qWZ ty25 u11 u1) (some undef)) fun u12 =>
oV (gV u10 false (vLen u12) (some undef)) fun u13 =>
oV (gV u10 false (vInt .gtr u13 (.int .i64 13)) (some undef)) fun u14 =>
oV (pAZ u10 (.bool true) u14) fun u15 =>
p7Z u15 (
Q (.returned (.bool false)) u1) (
m50_2 x2 (qTZ u0) u1 (fun u16 u17 => m50_1 u16 u17 Q) Q)
theorem c50_0 (env : Env) (H : Heap) (Q : QT) (h : m50 (env 0) (env 1) (env 2) H Q) :
    qUZ Tryd.prog 42 (qSZ Tryd.f50) env H (mkK (rKZ Tryd.f50 Q) (fun _ _ _ => False) (rKZ Tryd.f50 Q) (pKZ Q)) :=
  qUZ.prefix_ (T := T) (X := ext) (hint := hint50) (hole := (fun e H => m50_2 (e 2) (e 3) H (fun y3_33 H_34 => m50_1 y3_33 H_34 Q) Q)) tok xok mixed 2 (by kernel_rfl) (by kernel_rfl : qRZ _ _ = (qRZ [1,1] (qSZ Tryd.f50))) h
    (fun e H h => qUZ.join (by kernel_rfl : (qRZ [1,1] (qSZ Tryd.f50)) = .seq (qRZ [1,1,0] (qSZ Tryd.f50)) (qRZ [1,1,1] (qSZ Tryd.f50))) ((c50_2 e H (fun y3_35 H_36 => m50_1 y3_35 H_36 Q) Q h).mono (qPZ (fun e H h => c50_1 e H Q h) (fun _ _ _ h => h) (fun _ _ h => h) (fun _ _ h => h))))
theorem call50 (a0 a1 a2 : Value) (H : Heap) (Q : QT) (h : m50 a0 a1 a2 H Q) : qVZ Tryd.prog 50 [a0, a1, a2] H Q :=
  qVZ.intro (nt := 42) tok Tryd.func50 (by kernel_rfl) (by kernel_rfl) (by kernel_rfl) (of_decide_eq_true (by kernel_rfl)) (c50_0 (envOf [a0, a1, a2]) H Q h)
def hint75 : Nat → List Nat := p5Z []
def m75 (x0 x1 x2 : Value) (H : Heap) (Q : QT) : Prop :=
oV (vInt .add x1 x2) fun u0 =>
oV (vInt .rem u0 x0) fun u1 =>
Q (.returned u1) H
theorem c75_0 (env : Env) (H : Heap) (Q : QT) (h : m75 (env 0) (env 1) (env 2) H Q) :
    qUZ Tryd.prog 12 (qSZ Tryd.f75) env H (mkK (rKZ Tryd.f75 Q) (fun _ _ _ => False) (rKZ Tryd.f75 Q) (pKZ Q)) :=
  qUZ.leaf_ (T := T) (X := ext) (hint := hint75) tok xok mixed (by kernel_rfl) h
theorem call75 (a0 a1 a2 : Value) (H : Heap) (Q : QT) (h : m75 a0 a1 a2 H Q) : qVZ Tryd.prog 75 [a0, a1, a2] H Q :=
  qVZ.intro (nt := 12) tok Tryd.func75 (by kernel_rfl) (by kernel_rfl) (by kernel_rfl) (of_decide_eq_true (by kernel_rfl)) (c75_0 (envOf [a0, a1, a2]) H Q h)
def hint76 : Nat → List Nat := p5Z []
def m76_1 (x12 : Value) (H : Heap) (Q : QT) : Prop :=
Q (.returned x12) H
theorem c76_1 (env : Env) (H : Heap) (Q : QT) (h : m76_1 (env 12) H Q) :
    qUZ Tryd.prog 94 (qRZ [1,1,1,1,1] (qSZ Tryd.f76)) env H (mkK (rKZ Tryd.f76 Q) (fun _ _ _ => False) (rKZ Tryd.f76 Q) (pKZ Q)) :=
  qUZ.leaf_ (T := T) (X := ext) (hint := hint76) tok xok mixed (by kernel_rfl) h
def L76_2 (x0 x1 x2 x12 : Value) (H : Heap) (kn : K1T) (Q : QT) : Prop :=
  ∀ env : Env, env 0 = x0 → env 1 = x1 → env 2 = x2 → env 12 = x12 → RLoop Tryd.prog 94 (qRZ [1,1,1,1,0,0,0] (qSZ Tryd.f76)) env H (mkK (fun _ _ => False) (inK 0 (fun e H => kn (e 12) H) (fun _ _ _ => False)) (rKZ Tryd.f76 Q) (pKZ Q))
theorem cL76_2 (env : Env) (H : Heap) (kn : K1T) (Q : QT) (h : L76_2 (env 0) (env 1) (env 2) (env 12) H kn Q) :
    qUZ Tryd.prog 94 (qRZ [1,1,1,1,0] (qSZ Tryd.f76)) env H (mkK (fun e H => kn (e 12) H) (fun _ _ _ => False) (rKZ Tryd.f76 Q) (pKZ Q)) :=
  qUZ.blk (by kernel_rfl : (qRZ [1,1,1,1,0] (qSZ Tryd.f76)) = .block 0 (qRZ [1,1,1,1,0,0] (qSZ Tryd.f76))) (qUZ.lp (by kernel_rfl : (qRZ [1,1,1,1,0,0] (qSZ Tryd.f76)) = .loop (qRZ [1,1,1,1,0,0,0] (qSZ Tryd.f76))) ((h env rfl rfl rfl rfl).mono (qPZ (fun _ _ h => h.elim) (fun _ _ _ h => h) (fun _ _ h => h) (fun _ _ h => h))))
def m76 (x0 x1 x2 : Value) (H : Heap) (Q : QT) : Prop :=
oV (vInt .gtr x0 (.int .u64 0)) fun u0 =>
oV (gV u0 true (some x0) (some undef)) fun u1 =>
oV (gV u0 true (vInt .lss u1 (.int .u64 2147483648)) (some undef)) fun u2 =>
oV (pAZ u0 u2 (.bool false)) fun u3 =>
oV (gV u3 true (some x1) (some undef)) fun u4 =>
oV (gV u3 true (vInt .lss u4 (.int .u64 2147483648)) (some undef)) fun u5 =>
oV (pAZ u3 u5 (.bool false)) fun u6 =>
oV (gV u6 true (some x2) (some undef)) fun u7 =>
oV (gV u6 true (vInt .lss u7 (.int .u64 2147483648)) (some undef)) fun u8 =>
oV (pAZ u6 u8 (.bool false)) fun u9 =>
p7Z u9 (
oV (vInt .mul x1 x2) fun u10 =>
oV (vInt .rem u10 x0) fun u11 =>
Q (.returned u11) H) (
oV (vInt .eql x0 (.int .u64 2305843009213693951)) fun u12 =>
oV (gV u12 true (some x1) (some undef)) fun u13 =>
oV (gV u12 true (some x0) (some undef)) fun u14 =>
oV (gV u12 true (vInt .lss u13 u14) (some undef)) fun u15 =>
oV (pAZ u12 u15 (.bool false)) fun u16 =>
oV (gV u16 true (some x2) (some undef)) fun u17 =>
oV (gV u16 true (some x0) (some undef)) fun u18 =>
oV (gV u16 true (vInt .lss u17 u18) (some undef)) fun u19 =>
oV (pAZ u16 u19 (.bool false)) fun u20 =>
p7Z u20 (
oV (vInt .shr x1 (.int .u64 31)) fun u21 =>
oV (vInt .rem x1 (.int .u64 2147483648)) fun u22 =>
oV (vInt .shr x2 (.int .u64 31)) fun u23 =>
oV (vInt .rem x2 (.int .u64 2147483648)) fun u24 =>
oV (vInt .mul u21 u24) fun u25 =>
oV (vInt .mul u22 u23) fun u26 =>
oV (vInt .add u25 u26) fun u27 =>
oV (vInt .mul (.int .u64 2) u21) fun u28 =>
oV (vInt .mul u28 u23) fun u29 =>
oV (vInt .shr u27 (.int .u64 30)) fun u30 =>
oV (vInt .add u29 u30) fun u31 =>
oV (vInt .rem u27 (.int .u64 1073741824)) fun u32 =>
oV (vInt .shl u32 (.int .u64 31)) fun u33 =>
oV (vInt .add u31 u33) fun u34 =>
oV (vInt .mul u22 u24) fun u35 =>
oV (vInt .add u34 u35) fun u36 =>
oV (vInt .rem u36 x0) fun u37 =>
Q (.returned u37) H) (
L76_2 x0 x1 x2 (.int .u64 0) H (fun u38 u39 => m76_1 u38 u39 Q) Q))
theorem c76_0 (env : Env) (H : Heap) (Q : QT) (h : m76 (env 0) (env 1) (env 2) H Q) :
    qUZ Tryd.prog 94 (qSZ Tryd.f76) env H (mkK (rKZ Tryd.f76 Q) (fun _ _ _ => False) (rKZ Tryd.f76 Q) (pKZ Q)) :=
  qUZ.prefix_ (T := T) (X := ext) (hint := hint76) (hole := (fun e H => L76_2 (e 0) (e 1) (e 2) (e 12) H (fun y12_52 H_53 => m76_1 y12_52 H_53 Q) Q)) tok xok mixed 4 (by kernel_rfl) (by kernel_rfl : qRZ _ _ = (qRZ [1,1,1,1] (qSZ Tryd.f76))) h
    (fun e H h => qUZ.join (by kernel_rfl : (qRZ [1,1,1,1] (qSZ Tryd.f76)) = .seq (qRZ [1,1,1,1,0] (qSZ Tryd.f76)) (qRZ [1,1,1,1,1] (qSZ Tryd.f76))) ((cL76_2 e H (fun y12_54 H_55 => m76_1 y12_54 H_55 Q) Q h).mono (qPZ (fun e H h => c76_1 e H Q h) (fun _ _ _ h => h) (fun _ _ h => h) (fun _ _ h => h))))
theorem call76 (a0 a1 a2 : Value) (H : Heap) (Q : QT) (h : m76 a0 a1 a2 H Q) : qVZ Tryd.prog 76 [a0, a1, a2] H Q :=
  qVZ.intro (nt := 94) tok Tryd.func76 (by kernel_rfl) (by kernel_rfl) (by kernel_rfl) (of_decide_eq_true (by kernel_rfl)) (c76_0 (envOf [a0, a1, a2]) H Q h)
end

section
set_option maxRecDepth 100000
open Go
def hint19 : Nat → List Nat := p5Z []
def m19 (x0 : Value) (H : Heap) (Q : QT) : Prop :=
oNew (Value.cells ty29.zero).toList (Value.cells ty29.zero).toList.length 29 H fun u0 u1 =>
oV (vNil x0) fun u2 =>
oV (qYZ 0 u2) fun u3 =>
oV (qWZ ty29 u3 u1) fun u4 =>
oHeap (p2Z ty29 (qTZ u0) u4 u1) fun u5 =>
retM ((qWZ ty29 (qTZ u0) u5).bind fun v => (some []).map (v :: ·)) Q u5
theorem c19_0 (env : Env) (H : Heap) (Q : QT) (h : m19 (env 0) H Q) :
    qUZ Tryd.prog 7 (qSZ Tryd.f19) env H (mkK (rKZ Tryd.f19 Q) (fun _ _ _ => False) (rKZ Tryd.f19 Q) (pKZ Q)) :=
  qUZ.leaf_ (T := T) (X := ext) (hint := hint19) tok xok mixed (by kernel_rfl) h
theorem call19 (a0 : Value) (H : Heap) (Q : QT) (h : m19 a0 H Q) : qVZ Tryd.prog 19 [a0] H Q :=
  qVZ.intro (nt := 7) tok Tryd.func19 (by kernel_rfl) (by kernel_rfl) (by kernel_rfl) (of_decide_eq_true (by kernel_rfl)) (c19_0 (envOf [a0]) H Q h)
end

section
open Go

def expo (p : Int) : Int := if p = 31 then 5 else if p = 127 then 7 else if p = 8191 then 13 else if p = 131071 then 17 else if p = 524287 then 19 else if p = 2147483647 then 31 else if p = 2305843009213693951 then 61 else 0
def Supp (p : Int) : Prop := p = 31 ∨ p = 127 ∨ p = 8191 ∨ p = 131071 ∨ p = 524287 ∨ p = 2147483647 ∨ p = 2305843009213693951
instance (p : Int) : Decidable (Supp p) := by unfold Supp; infer_instance
theorem expo_pos (p : Int) : 0 < expo p ↔ Supp p := by
  unfold expo Supp
  repeat' split
  all_goals (first | omega | simp_all)
theorem Supp.pos {p : Int} (h : Supp p) : 31 ≤ p ∧ p ≤ 2305843009213693951 := by
  unfold Supp at h
  omega
def Grow (x : Value) (H : Heap) : Ending → Heap → Prop := Ret fun v H' => v = x ∧ Le H H'
theorem oRC_grow {P : Program} {f : FuncId} {args : List Value} {H : Heap} {p : List PanicEntry → Heap → Prop} {k : Value → Heap → Prop} {x : Value} (h : qVZ P f args H (Grow x H)) (hk : ∀ H', Le H H' → k x H') : oRC P f args H p k :=
  p9Z h fun v H' hv => by
    obtain ⟨rfl, hl⟩ := hv
    exact hk _ hl
theorem exponent_spec (H : Heap) (p : Int) : qVZ Tryd.prog 141 [.int .u64 p] H (Grow (.int .i64 (expo p)) H) := by
  apply call141
  unfold m141
  refine p9Z (R := fun v H' => ∃ i, H i = none ∧ v = .slice (some ⟨i, 0, none⟩) 7 7 ∧ H' = hins H i (.cells [.int .i64 5, .int .i64 7, .int .i64 13, .int .i64 17, .int .i64 19, .int .i64 31, .int .i64 61] 7 3 true)) (call149 _ _ ?_) ?_
  · show oNew [.int .i64 5, .int .i64 7, .int .i64 13, .int .i64 17, .int .i64 19, .int .i64 31, .int .i64 61] 7 3 H _
    intro i hi
    exact ⟨i, hi, rfl, rfl⟩
  rintro v H' ⟨i, hi, rfl, rfl⟩
  unfold m141_2
  have hle := Le.ins (H := H) (i := i) (.cells [.int .i64 5, .int .i64 7, .int .i64 13, .int .i64 17, .int .i64 19, .int .i64 31, .int .i64 61] 7 3 true) hi
  generalize hH : hins H i (.cells [.int .i64 5, .int .i64 7, .int .i64 13, .int .i64 17, .int .i64 19, .int .i64 31, .int .i64 61] 7 3 true) = H' at hle ⊢
  generalize hkn : (fun H_14 => m141_1 H_14 (Grow (.int .i64 (expo p)) H)) = kn
  have round : ∀ (j : Nat) (q m : Int), j < 7 → ([5, 7, 13, 17, 19, 31, 61] : List Int)[j]? = some q → 0 ≤ q → q ≤ 64 → IntKind.u64.wrap (IntKind.u64.wrap (1 * 2 ^ (min q.toNat 64)) - 1) = m → (p = m → expo p = q) →
      (p ≠ m → L141_3 (.int .u64 p) (.slice (some ⟨i, 0, none⟩) 7 7) (.int .i64 ((j : Int) + 1)) H' kn (Grow (.int .i64 (expo p)) H)) → L141_3 (.int .u64 p) (.slice (some ⟨i, 0, none⟩) 7 7) (.int .i64 j) H' kn (Grow (.int .i64 (expo p)) H) := by
    intro j q m hj hq hq0 hq1 hm he hn
    apply L141_3_round
    unfold m141_4
    simp only [qBZ, oV_some, q7Z]
    refine qJZ (fun _ => ?_) (fun h => absurd (by omega) h)
    have hx : p1Z 1 (.slice (some ⟨i, 0, none⟩) 7 7) (.int .i64 j) = some (.pointer (some ⟨i, j, none⟩)) := by
      simp only [p1Z]
      rw [if_pos (by omega)]
      simp
    have hl : qWZ ty3 (.pointer (some ⟨i, j, none⟩)) H' = some (.int .i64 q) := by
      subst hH
      simp only [qWZ, hins_self]
      show ([5, 7, 13, 17, 19, 31, 61].map (Value.int .i64))[j]? = _
      rw [List.getElem?_map, hq]
      rfl
    simp only [hx, hl, oV_some, qCZ, vInt_shl, wrap_u64 hq0 (by omega)]
    rw [if_neg (by omega)]
    simp only [oV_some, vInt_sub, q5Z, vInt_add, IntKind.bits]
    rw [hm]
    refine qJZ (fun h => ⟨by rw [he h], hle⟩) (fun h => ?_)
    rw [pBZ (by omega) (by omega)]
    exact hn h
  refine round 0 5 31 (by omega) rfl (by omega) (by omega) (by decide) (fun e => by subst e; rfl) fun h0 => ?_
  refine round 1 7 127 (by omega) rfl (by omega) (by omega) (by decide) (fun e => by subst e; rfl) fun h1 => ?_
  refine round 2 13 8191 (by omega) rfl (by omega) (by omega) (by decide) (fun e => by subst e; rfl) fun h2 => ?_
  refine round 3 17 131071 (by omega) rfl (by omega) (by omega) (by decide) (fun e => by subst e; rfl) fun h3 => ?_
  refine round 4 19 524287 (by omega) rfl (by omega) (by omega) (by decide) (fun e => by subst e; rfl) fun h4 => ?_
  refine round 5 31 2147483647 (by omega) rfl (by omega) (by omega) (by decide) (fun e => by subst e; rfl) fun h5 => ?_
  refine round 6 61 2305843009213693951 (by omega) rfl (by omega) (by omega) (by decide) (fun e => by subst e; rfl) fun h6 => ?_
  apply L141_3_round
  unfold m141_4
  simp only [qBZ, oV_some, q7Z]
  refine qJZ (fun h => absurd h (by decide)) (fun _ => ?_)
  subst hkn
  exact ⟨by simp [expo, h0, h1, h2, h3, h4, h5, h6], hle⟩
theorem supported_spec (H : Heap) (p : Int) : qVZ Tryd.prog 116 [.int .u64 p] H (Grow (.bool (decide (Supp p))) H) := by
  apply call116
  unfold m116
  refine oRC_grow (exponent_spec H p) fun H' hle => ?_
  simp only [q9Z, oV_some]
  refine ⟨?_, hle⟩
  congr 1
  exact decide_eq_decide.2 (expo_pos p)
theorem radd_spec (H : Heap) {p a b : Int} (hp : 0 < p) (ha : 0 ≤ a) (hb : 0 ≤ b) (h : a + b ≤ 18446744073709551615) : qVZ Tryd.prog 75 [.int .u64 p, .int .u64 a, .int .u64 b] H (Val (.int .u64 ((a + b) % p)) H) := by
  apply call75
  unfold m75
  simp only [vInt_add, oV_some, vInt_rem, wrap_u64 (by omega : 0 ≤ a + b) h]
  rw [if_neg (by omega), oV_some, Int.tmod_eq_emod_of_nonneg (by omega)]
  exact ⟨rfl, rfl⟩
theorem mul_bounds {a b m : Int} (ha : 0 ≤ a) (hb : 0 ≤ b) (ham : a ≤ m) (hbm : b ≤ m) : 0 ≤ a * b ∧ a * b ≤ m * m :=
  ⟨Int.mul_nonneg ha hb, Int.mul_le_mul ham hbm hb (by omega)⟩
theorem split_mul (a1 a0 b1 b0 : Int) : (a1 * 2147483648 + a0) * (b1 * 2147483648 + b0) = (a1 * b1) * 4611686018427387904 + (a1 * b0 + a0 * b1) * 2147483648 + a0 * b0 := by
  rw [Int.add_mul, Int.mul_add, Int.mul_add]
  have e1 : a1 * 2147483648 * (b1 * 2147483648) = (a1 * b1) * 4611686018427387904 := by
    rw [Int.mul_assoc, Int.mul_left_comm 2147483648, ← Int.mul_assoc]
    rfl
  have e2 : a1 * 2147483648 * b0 = (a1 * b0) * 2147483648 := by rw [Int.mul_right_comm]
  have e3 : a0 * (b1 * 2147483648) = (a0 * b1) * 2147483648 := by rw [Int.mul_assoc]
  rw [e1, e2, e3, Int.add_mul]
  omega
theorem rmul_spec (H : Heap) {p a b : Int} (hp : Supp p) (ha : 0 ≤ a) (hap : a < p) (hb : 0 ≤ b) (hbp : b < p) : qVZ Tryd.prog 76 [.int .u64 p, .int .u64 a, .int .u64 b] H (Val (.int .u64 (a * b % p)) H) := by
  apply call76
  unfold m76
  have hpos := hp.pos
  by_cases hs : p < 2147483648
  · have hab := mul_bounds (m := 2147483647) ha hb (by omega) (by omega)
    simp only [q9Z, oV_some, gV_bool, q7Z, vPick_bool, decide_eq_true (show 0 < p by omega), decide_eq_true hs, decide_eq_true (show a < 2147483648 by omega), decide_eq_true (show b < 2147483648 by omega), if_true]
    refine qMZ ?_
    simp only [vInt_mul, oV_some, vInt_rem, wrap_u64 hab.1 (by omega)]
    rw [if_neg (by omega), oV_some, Int.tmod_eq_emod_of_nonneg hab.1]
    exact ⟨rfl, rfl⟩
  · have he : p = 2305843009213693951 := by unfold Supp at hp; omega
    subst he
    simp only [q9Z, oV_some, gV_bool, q7Z, vPick_bool, q5Z, decide_eq_true (show (0 : Int) < 2305843009213693951 by omega), decide_eq_false hs, decide_eq_true hap, decide_eq_true hbp, decide_true, if_true, Bool.false_eq_true, if_false]
    refine qLZ ?_
    refine qMZ ?_
    have f31 : ∀ x : Int, x.fdiv (2 ^ (min (31 : Int).toNat IntKind.u64.bits)) = x / 2147483648 := fun x => by
      rw [show ((2 : Int) ^ (min (31 : Int).toNat IntKind.u64.bits)) = 2147483648 from by decide]
      exact Int.fdiv_eq_ediv_of_nonneg _ (by omega)
    have f30 : ∀ x : Int, x.fdiv (2 ^ (min (30 : Int).toNat IntKind.u64.bits)) = x / 1073741824 := fun x => by
      rw [show ((2 : Int) ^ (min (30 : Int).toNat IntKind.u64.bits)) = 1073741824 from by decide]
      exact Int.fdiv_eq_ediv_of_nonneg _ (by omega)
    have g31 : ∀ x : Int, x.fdiv 2147483648 = x / 2147483648 := fun x => Int.fdiv_eq_ediv_of_nonneg _ (by omega)
    have g30 : ∀ x : Int, x.fdiv 1073741824 = x / 1073741824 := fun x => Int.fdiv_eq_ediv_of_nonneg _ (by omega)
    have s31 : ((2 : Int) ^ (min (31 : Int).toNat IntKind.u64.bits)) = 2147483648 := by decide
    obtain ⟨a1, ha1⟩ : ∃ x, x = a / 2147483648 := ⟨_, rfl⟩
    obtain ⟨a0, ha0⟩ : ∃ x, x = a % 2147483648 := ⟨_, rfl⟩
    obtain ⟨b1, hb1⟩ : ∃ x, x = b / 2147483648 := ⟨_, rfl⟩
    obtain ⟨b0, hb0⟩ : ∃ x, x = b % 2147483648 := ⟨_, rfl⟩
    have ea : a = a1 * 2147483648 + a0 := by omega
    have eb : b = b1 * 2147483648 + b0 := by omega
    have m1 := mul_bounds (a := a1) (b := b1) (m := 1073741823) (by omega) (by omega) (by omega) (by omega)
    have m0 := mul_bounds (a := a0) (b := b0) (m := 2147483647) (by omega) (by omega) (by omega) (by omega)
    have mx : 0 ≤ a1 * b0 ∧ a1 * b0 ≤ 1073741823 * 2147483647 := ⟨Int.mul_nonneg (by omega) (by omega), Int.mul_le_mul (by omega) (by omega) (by omega) (by omega)⟩
    have my : 0 ≤ a0 * b1 ∧ a0 * b1 ≤ 2147483647 * 1073741823 := ⟨Int.mul_nonneg (by omega) (by omega), Int.mul_le_mul (by omega) (by omega) (by omega) (by omega)⟩
    have key : a * b % 2305843009213693951 = (2 * (a1 * b1) + (a1 * b0 + a0 * b1) / 1073741824 + (a1 * b0 + a0 * b1) % 1073741824 * 2147483648 + a0 * b0) % 2305843009213693951 := by
      rw [ea, eb, split_mul]
      generalize a1 * b1 = A at *
      generalize a1 * b0 + a0 * b1 = C at *
      generalize a0 * b0 = B at *
      omega
    have tm : ∀ x : Int, 0 ≤ x → ∀ y, x.tmod y = x % y := fun x hx y => Int.tmod_eq_emod_of_nonneg hx
    have e2 : 2 * a1 * b1 = 2 * (a1 * b1) := Int.mul_assoc _ _ _
    simp only [vInt_shr, vInt_rem, vInt_mul, vInt_add, vInt_shl, oV_some, show ¬ ((31 : Int) < 0) by omega, show ¬ ((30 : Int) < 0) by omega, show ¬ ((2147483648 : Int) = 0) by omega, show ¬ ((1073741824 : Int) = 0) by omega, show ¬ ((2305843009213693951 : Int) = 0) by omega, if_false, f31, g31, tm a ha, tm b hb, ← ha1, ← ha0, ← hb1, ← hb0,
      wrap_u64 mx.1 (by omega : a1 * b0 ≤ _), wrap_u64 my.1 (by omega : a0 * b1 ≤ _), wrap_u64 (show 0 ≤ a1 * b0 + a0 * b1 by omega) (by omega), wrap_u64 (show 0 ≤ 2 * a1 by omega) (by omega), e2, wrap_u64 (show 0 ≤ 2 * (a1 * b1) by omega) (by omega), f30, g30,
      wrap_u64 (show 0 ≤ 2 * (a1 * b1) + (a1 * b0 + a0 * b1) / 1073741824 by omega) (by omega), tm (a1 * b0 + a0 * b1) (by omega), s31, wrap_u64 (show 0 ≤ (a1 * b0 + a0 * b1) % 1073741824 * 2147483648 by omega) (by omega),
      wrap_u64 (show 0 ≤ 2 * (a1 * b1) + (a1 * b0 + a0 * b1) / 1073741824 + (a1 * b0 + a0 * b1) % 1073741824 * 2147483648 by omega) (by omega), wrap_u64 m0.1 (by omega), wrap_u64 (show 0 ≤ 2 * (a1 * b1) + (a1 * b0 + a0 * b1) / 1073741824 + (a1 * b0 + a0 * b1) % 1073741824 * 2147483648 + a0 * b0 by omega) (by omega),
      tm (2 * (a1 * b1) + (a1 * b0 + a0 * b1) / 1073741824 + (a1 * b0 + a0 * b1) % 1073741824 * 2147483648 + a0 * b0) (by omega)]
    exact ⟨by rw [key], rfl⟩
end

section
open Go

theorem and_low (x : Int) (q : Nat) (hq : q ≤ 64) (h0 : 0 ≤ x) (h1 : x ≤ 18446744073709551615) : ((BitVec.ofInt 64 x &&& BitVec.ofInt 64 (2 ^ q - 1)).toNat : Int) = x % 2 ^ q := by
  obtain ⟨n, rfl⟩ := Int.eq_ofNat_of_zero_le h0
  have e2 : ((2 : Int) ^ q - 1) = ((2 ^ q - 1 : Nat) : Int) := by
    have : 0 < 2 ^ q := Nat.pow_pos (by omega)
    rw [Int.ofNat_sub (by omega)]
    simp
  have hlt : 2 ^ q - 1 < 2 ^ 64 := by
    have := Nat.pow_le_pow_right (show 2 > 0 by omega) hq
    omega
  rw [e2, BitVec.ofInt_natCast, BitVec.ofInt_natCast, BitVec.toNat_and, BitVec.toNat_ofNat, BitVec.toNat_ofNat, Nat.mod_eq_of_lt (by omega : n < 2 ^ 64), Nat.mod_eq_of_lt hlt, Nat.and_two_pow_sub_one_eq_mod]
  simp
theorem or_add (a b : Nat) (i : Nat) (ha : a < 2 ^ i) (hb : 2 ^ i * b + a < 2 ^ 64) : ((BitVec.ofInt 64 (a : Int) ||| BitVec.ofInt 64 ((2 ^ i * b : Nat) : Int)).toNat) = 2 ^ i * b + a := by
  rw [BitVec.ofInt_natCast, BitVec.ofInt_natCast, BitVec.toNat_or, BitVec.toNat_ofNat, BitVec.toNat_ofNat, Nat.mod_eq_of_lt (by omega), Nat.mod_eq_of_lt (by omega), Nat.or_comm, ← Nat.two_pow_add_eq_or_of_lt ha]
structure FN (p q : Int) : Prop where
  dvd : (p + 1) ∣ 18446744073709551616
  rng : 5 ≤ q ∧ q ≤ 61
  and : ∀ x : Int, 0 ≤ x → x ≤ 18446744073709551615 → IntKind.u64.wrap ((BitVec.ofInt IntKind.u64.bits x &&& BitVec.ofInt IntKind.u64.bits p).toNat) = x % (p + 1)
  shr : ∀ x : Int, x.fdiv (2 ^ (min q.toNat IntKind.u64.bits)) = x / (p + 1)
  or : ∀ hi lo : Int, 0 ≤ hi → hi ≤ 18446744073709551615 → 0 ≤ lo → lo ≤ 18446744073709551615 → ∃ X : Int, IntKind.u64.wrap ((BitVec.ofInt IntKind.u64.bits (lo / (p + 1)) ||| BitVec.ofInt IntKind.u64.bits (IntKind.u64.wrap (hi * 2 ^ (min (64 - q).toNat IntKind.u64.bits)))).toNat) = X ∧ 0 ≤ X ∧ X ≤ 18446744073709551615 ∧ (hi * 18446744073709551616 + lo) / (p + 1) = hi / (p + 1) * 18446744073709551616 + X
theorem FN.of {p q : Int} (k : Nat) (hk : k ≤ 64) (P R : Nat) (hP : 2 ^ k = P) (hR : 2 ^ (64 - k) = R) (hp : p + 1 = P) (hq : q = k) (hr : 5 ≤ q ∧ q ≤ 61) (hd : ((P : Int) ∣ 18446744073709551616))
    (hX : ∀ hi lo : Int, 0 ≤ hi → hi ≤ 18446744073709551615 → 0 ≤ lo → lo ≤ 18446744073709551615 → hi * R % 18446744073709551616 = R * (hi % P) ∧ lo / P < R ∧ 0 ≤ lo / P ∧ R * (hi % P) + lo / P ≤ 18446744073709551615 ∧ (hi * 18446744073709551616 + lo) / P = hi / P * 18446744073709551616 + (R * (hi % P) + lo / P)) : FN p q := by
  have hPi : ((2 : Int) ^ k) = P := by rw [← hP]; simp
  have hPpos : 0 < P := by rw [← hP]; exact Nat.pow_pos (by omega)
  refine ⟨by rw [hp]; exact hd, hr, fun x h0 h1 => ?_, fun x => ?_, fun hi lo a0 a1 b0 b1 => ?_⟩
  · have : p = 2 ^ k - 1 := by omega
    show IntKind.u64.wrap ((BitVec.ofInt 64 x &&& BitVec.ofInt 64 p).toNat) = x % (p + 1)
    rw [this, and_low x k hk h0 h1, hPi, ← hp, wrap_u64]
    · congr 1; omega
    · exact Int.emod_nonneg _ (by omega)
    · have := Int.emod_lt_of_pos x (show 0 < (p + 1) by omega)
      have hm : x % (p + 1) ≤ x := by
        by_cases h : x < p + 1
        · rw [Int.emod_eq_of_lt h0 h]; omega
        · omega
      omega
  · show x.fdiv (2 ^ (min q.toNat 64)) = x / (p + 1)
    rw [hq, Int.toNat_natCast, Nat.min_eq_left hk, hPi, hp]
    exact Int.fdiv_eq_ediv_of_nonneg _ (by omega)
  · obtain ⟨c1, c2, c3, c4, c5⟩ := hX hi lo a0 a1 b0 b1
    have hRi : ((2 : Int) ^ (min (64 - q).toNat 64)) = R := by
      rw [hq, show ((64 : Int) - (k : Int)).toNat = 64 - k by omega, Nat.min_eq_left (by omega), ← hR]
      simp
    obtain ⟨a, ha⟩ := Int.eq_ofNat_of_zero_le c3
    have hm0 : 0 ≤ hi % (P : Int) := Int.emod_nonneg _ (by omega)
    obtain ⟨b, hb⟩ := Int.eq_ofNat_of_zero_le hm0
    have hor := or_add a b (64 - k) (by rw [hR]; omega) (by
      rw [hR]
      rw [hb, ha] at c4
      have : ((R * b + a : Nat) : Int) ≤ 18446744073709551615 := by
        rw [Int.natCast_add, Int.natCast_mul]
        exact c4
      omega)
    refine ⟨R * (hi % P) + lo / P, ?_, ?_, c4, by rw [hp]; exact c5⟩
    · show IntKind.u64.wrap ((BitVec.ofInt 64 (lo / (p + 1)) ||| BitVec.ofInt 64 (IntKind.u64.wrap (hi * 2 ^ (min (64 - q).toNat 64)))).toNat) = R * (hi % P) + lo / P
      have hin : IntKind.u64.wrap (hi * R) = R * (hi % P) := by rw [wrap_u64_mod, c1]
      rw [hRi, hin, hp, ha, hb]
      have e : ((R : Int) * (b : Int)) = ((2 ^ (64 - k) * b : Nat) : Int) := by rw [hR]; simp
      rw [e, hor]
      have e2 : ((2 ^ (64 - k) * b + a : Nat) : Int) = R * b + a := by rw [hR]; simp
      rw [hb, ha] at c4
      rw [e2, wrap_u64 (by omega) c4, ← e2]
      simp
    · have := Int.mul_nonneg (show 0 ≤ (R : Int) by omega) hm0
      omega
theorem fn_supp {p : Int} (hp : Supp p) : FN p (expo p) := by
  unfold Supp at hp
  rcases hp with rfl | rfl | rfl | rfl | rfl | rfl | rfl
  · exact FN.of 5 (by omega) 32 576460752303423488 (by simp) (by simp) (by simp) (by simp [expo]) (by simp [expo]) (by decide) (by intros; omega)
  · exact FN.of 7 (by omega) 128 144115188075855872 (by simp) (by simp) (by simp) (by simp [expo]) (by simp [expo]) (by decide) (by intros; omega)
  · exact FN.of 13 (by omega) 8192 2251799813685248 (by simp) (by simp) (by simp) (by simp [expo]) (by simp [expo]) (by decide) (by intros; omega)
  · exact FN.of 17 (by omega) 131072 140737488355328 (by simp) (by simp) (by simp) (by simp [expo]) (by simp [expo]) (by decide) (by intros; omega)
  · exact FN.of 19 (by omega) 524288 35184372088832 (by simp) (by simp) (by simp) (by simp [expo]) (by simp [expo]) (by decide) (by intros; omega)
  · exact FN.of 31 (by omega) 2147483648 8589934592 (by simp) (by simp) (by simp) (by simp [expo]) (by simp [expo]) (by decide) (by intros; omega)
  · exact FN.of 61 (by omega) 2305843009213693952 8 (by simp) (by simp) (by simp) (by simp [expo]) (by simp [expo]) (by decide) (by intros; omega)
set_option maxRecDepth 100000 in
theorem len64_spec (H : Heap) {p : Int} (hp : Supp p) : qVZ Tryd.prog 152 [.int .u64 p] H (Val (.int .i64 (expo p)) H) := by
  apply call152
  unfold m152
  unfold Supp at hp
  rcases hp with rfl | rfl | rfl | rfl | rfl | rfl | rfl
  · exact qLZ (qLZ (qLZ (Eq.mpr (by kernel_rfl : _ = (Value.int .i64 5 = Value.int .i64 5 ∧ H = H)) ⟨rfl, rfl⟩)))
  · exact qLZ (qLZ (qLZ (Eq.mpr (by kernel_rfl : _ = (Value.int .i64 7 = Value.int .i64 7 ∧ H = H)) ⟨rfl, rfl⟩)))
  · exact qLZ (qLZ (qMZ (Eq.mpr (by kernel_rfl : _ = (Value.int .i64 13 = Value.int .i64 13 ∧ H = H)) ⟨rfl, rfl⟩)))
  · exact qLZ (qMZ (qLZ (Eq.mpr (by kernel_rfl : _ = (Value.int .i64 17 = Value.int .i64 17 ∧ H = H)) ⟨rfl, rfl⟩)))
  · exact qLZ (qMZ (qLZ (Eq.mpr (by kernel_rfl : _ = (Value.int .i64 19 = Value.int .i64 19 ∧ H = H)) ⟨rfl, rfl⟩)))
  · exact qLZ (qMZ (qMZ (Eq.mpr (by kernel_rfl : _ = (Value.int .i64 31 = Value.int .i64 31 ∧ H = H)) ⟨rfl, rfl⟩)))
  · exact qMZ (qMZ (qMZ (Eq.mpr (by kernel_rfl : _ = (Value.int .i64 61 = Value.int .i64 61 ∧ H = H)) ⟨rfl, rfl⟩)))
theorem width_spec (H : Heap) {p : Int} (hp : Supp p) : qVZ Tryd.prog 150 [.int .u64 p] H (Val (.int .u64 (expo p)) H) := by
  apply call150
  unfold m150
  refine oRC_val (len64_spec H hp) ?_
  have := (fn_supp hp).rng
  simp only [qCZ, oV_some, wrap_u64 (by omega : 0 ≤ expo p) (by omega)]
  exact ⟨rfl, rfl⟩
theorem fold_loop {H : Heap} {p q : Int} (hq : FN p q) (hp : 31 ≤ p ∧ p ≤ 2305843009213693951) {kn : Value → Value → Heap → Prop} {Q : Ending → Heap → Prop} :
    ∀ (d : Nat) (hi lo : Int), (hi * 18446744073709551616 + lo).toNat ≤ d → 0 ≤ hi → hi ≤ 18446744073709551615 → 0 ≤ lo → lo ≤ 18446744073709551615 →
      (∀ x, 0 ≤ x → x ≤ p → x % p = (hi * 18446744073709551616 + lo) % p → kn (.int .u64 p) (.int .u64 x) H) → L146_2 (.int .u64 p) (.int .u64 hi) (.int .u64 lo) (.int .u64 q) H kn Q := by
  intro d
  induction d with
  | zero =>
    intro hi lo hd h0 h1 l0 l1 hk
    have : hi = 0 := by omega
    have : lo = 0 := by omega
    subst_vars
    apply L146_2_round
    unfold m146_3
    simp only [q6Z, oV_some, gV_bool, vPick_bool, q9Z, ne_eq, not_true_eq_false, decide_false, if_true, Bool.false_eq_true, if_false, show ¬ (p < 0) by omega]
    exact qLZ (hk 0 (by omega) (by omega) rfl)
  | succ d ih =>
    intro hi lo hd h0 h1 l0 l1 hk
    apply L146_2_round
    unfold m146_3
    simp only [q6Z, oV_some, gV_bool]
    by_cases hz : hi = 0 ∧ lo ≤ p
    · obtain ⟨rfl, hl⟩ := hz
      simp only [ne_eq, not_true_eq_false, decide_false, if_true, oV_some, q9Z, vPick_bool, Bool.false_eq_true, if_false, show ¬ (p < lo) by omega]
      exact qLZ (hk lo l0 hl (by simp))
    · have hc : ∀ A B : Prop, A → oV (if decide (hi ≠ 0) = false then some (Value.int .u64 lo) else some undef) (fun t16 => oV (if decide (hi ≠ 0) = false then some (Value.int .u64 p) else some undef) fun t17 =>
          oV (if decide (hi ≠ 0) = false then vInt .gtr t16 t17 else some undef) fun t18 => oV (pAZ (.bool (decide (hi ≠ 0))) (.bool true) t18) fun t19 => p7Z t19 A B) := by
        intro A B hA
        by_cases he : hi = 0
        · simp only [he, ne_eq, not_true_eq_false, decide_false, if_true, oV_some, q9Z, vPick_bool, Bool.false_eq_true, if_false, show p < lo by omega, decide_true]
          exact qMZ hA
        · simp only [he, ne_eq, not_false_eq_true, decide_true, if_true, oV_some, vPick_bool, Bool.true_eq_false, if_false]
          exact qMZ hA
      apply hc
      have hr := hq.rng
      obtain ⟨X, hX, x0, x1, hN⟩ := hq.or hi lo h0 h1 l0 l1
      have ew : IntKind.u64.wrap (64 - q) = 64 - q := wrap_u64 (by omega) (by omega)
      simp only [vInt_and, vInt_shr, vInt_sub, vInt_shl, vInt_or, vInt_add, oV_some, hq.and lo l0 l1, hq.shr, ew, if_neg (show ¬ (q < 0) by omega), if_neg (show ¬ (64 - q < 0) by omega), hX]
      have hP : 0 < p + 1 := by omega
      have hm0 := Int.emod_nonneg lo (show p + 1 ≠ 0 by omega)
      have hm1 := Int.emod_lt_of_pos lo hP
      have hNm : (hi * 18446744073709551616 + lo) % (p + 1) = lo % (p + 1) := by
        obtain ⟨c, hc⟩ := hq.dvd
        rw [hc, Int.mul_left_comm, Int.add_comm, Int.add_mul_emod_self_left]
      have hdiv := Int.mul_ediv_add_emod (hi * 18446744073709551616 + lo) (p + 1)
      rw [hN, hNm] at hdiv
      have hh0 : 0 ≤ hi / (p + 1) := Int.ediv_nonneg h0 (by omega)
      have hh1 : hi / (p + 1) ≤ hi := Int.ediv_le_self _ h0
      have hh2 : hi / (p + 1) ≤ 18446744073709551615 / 32 := by
        have h1 := Int.mul_ediv_add_emod hi (p + 1)
        have h2 := Int.emod_nonneg hi (show p + 1 ≠ 0 by omega)
        have h3 : 32 * (hi / (p + 1)) ≤ (p + 1) * (hi / (p + 1)) := Int.mul_le_mul_of_nonneg_right (by omega) hh0
        omega
      simp only [vAdd64, if_pos (show 0 ≤ X ∧ 0 ≤ lo % (p + 1) ∧ (0 : Int) ≤ 0 ∧ (0 : Int) ≤ 1 by omega), oV_some, vExtract_tuple]
      try simp only [List.getElem?_toArray, List.getElem?_cons_zero, List.getElem?_cons_succ, oV_some, vInt_add]
      have hlt64 : lo % (p + 1) ≤ lo := by
        have h1 := Int.mul_ediv_add_emod lo (p + 1)
        have h2 := Int.ediv_nonneg l0 (show 0 ≤ p + 1 by omega)
        have h3 := Int.mul_nonneg (show 0 ≤ p + 1 by omega) h2
        omega
      have hcar : (X + lo % (p + 1) + 0) / 18446744073709551616 ≤ 1 := by omega
      rw [wrap_u64 (by omega) (by omega)]
      have hsum : (hi / (p + 1) + (X + lo % (p + 1) + 0) / 18446744073709551616) * 18446744073709551616 + (X + lo % (p + 1) + 0) % 18446744073709551616 = hi / (p + 1) * 18446744073709551616 + X + lo % (p + 1) := by omega
      generalize hM : hi / (p + 1) * 18446744073709551616 + X = M at *
      have hM0 : 0 ≤ M := by omega
      have hlin : (p + 1) * M = p * M + M := by rw [Int.add_mul, Int.one_mul]
      have hbig : p < hi * 18446744073709551616 + lo := by omega
      have hM1 : 1 ≤ M := by
        by_cases hM2 : M = 0
        · subst hM2
          omega
        · omega
      have hpm : p ≤ p * M := by
        have := Int.mul_le_mul_of_nonneg_left hM1 (show 0 ≤ p by omega)
        omega
      refine ih _ _ (by rw [hsum]; omega) (by omega) (by omega) (by omega) (by omega) fun x a0 a1 hx => hk x a0 a1 ?_
      rw [hx, hsum, ← hdiv, hlin, Int.add_assoc, Int.add_comm (p * M), Int.add_mul_emod_self_left]
theorem fold_spec (H : Heap) {p hi lo : Int} (hp : Supp p) (h0 : 0 ≤ hi) (h1 : hi ≤ 18446744073709551615) (l0 : 0 ≤ lo) (l1 : lo ≤ 18446744073709551615) :
    qVZ Tryd.prog 146 [.int .u64 p, .int .u64 hi, .int .u64 lo] H (Val (.int .u64 ((hi * 18446744073709551616 + lo) % p)) H) := by
  apply call146
  unfold m146
  refine oRC_val (width_spec H hp) ?_
  refine fold_loop (fn_supp hp) hp.pos _ hi lo (Nat.le_refl _) h0 h1 l0 l1 fun x a0 a1 hx => ?_
  unfold m146_1
  simp only [q5Z, oV_some]
  have := hp.pos
  refine qJZ (fun h => ⟨?_, rfl⟩) (fun h => ⟨?_, rfl⟩)
  · subst h
    rw [← hx, Int.emod_self]
  · rw [← hx, Int.emod_eq_of_lt a0 (by omega)]
end

section
open Go

theorem reduce_spec (H : Heap) {p n : Int} (hp : Supp p) (l0 : 0 ≤ n) (l1 : n ≤ 18446744073709551615) : qVZ Tryd.prog 135 [.int .u64 p, .int .u64 n] H (Val (.int .u64 (n % p)) H) := by
  apply call135
  unfold m135
  refine oRC_val (fold_spec H hp (by omega) (by omega) l0 l1) ⟨?_, rfl⟩
  simp
end

section
open Go

theorem hins_hins (H : Heap) (i : Nat) (c c' : Blk) : hins (hins H i c) i c' = hins H i c' := by
  funext j
  by_cases e : j = i
  · subst e; simp
  · simp [qOZ _ _ e]
structure Dev where
  rd : Int
  fr : Int
  to_ : Int
  at_ : Int
  kd : Int
  k : Int
  of_ : Int
  src : Int
def Dev.cells (d : Dev) : List Value := [.int .i64 d.rd, .int .i64 d.fr, .int .i64 d.to_, .int .i64 d.at_, .int .i64 d.kd, .int .u64 d.k, .int .i64 d.of_, .int .i64 d.src]
def Dev.val (d : Dev) : Value := .agg #[.int .i64 d.rd, .int .i64 d.fr, .int .i64 d.to_, .int .i64 d.at_, .int .i64 d.kd, .int .u64 d.k, .int .i64 d.of_, .int .i64 d.src]
def eDev : El Dev where
  sz := 8
  rel _ d cs := cs = d.cells
  len := by rintro H x cs rfl; rfl
  mono := by rintro H G x cs _ h; exact h
structure Scn where
  P : Int
  N : Int
  T : Int
  bad : List Int
  devs : List Dev
  tapes : List (List Int)
def scnVal (s : Scn) (cv dv tv : Value) : Value := .agg #[.int .u64 s.P, .int .i64 s.N, .int .i64 s.T, cv, dv, tv]
def parVal (s : Scn) : Value := .agg #[.int .u64 s.P, .int .i64 s.N, .int .i64 s.T]
structure ScnOk (H : Heap) (s : Scn) (cv dv tv : Value) : Prop where
  bad : Sl (eInt .i64) H cv s.bad
  devs : Sl eDev H dv s.devs
  tapes : Sl (qXZ (eInt .u64)) H tv s.tapes
theorem ScnOk.mono {H G : Heap} {s : Scn} {cv dv tv : Value} (h : ScnOk H s cv dv tv) (hl : Le H G) : ScnOk G s cv dv tv := ⟨h.bad.mono hl, h.devs.mono hl, h.tapes.mono hl⟩
structure SAt (H : Heap) (i : Nat) (s : Scn) (cv dv tv : Value) : Prop where
  blk : H i = some (.cells [.int .u64 s.P, .int .i64 s.N, .int .i64 s.T, cv, dv, tv] 6 29 true)
section
variable {H G : Heap} {i : Nat} {s : Scn} {cv dv tv : Value}
theorem SAt.mono (h : SAt H i s cv dv tv) (hl : Le H G) : SAt G i s cv dv tv := ⟨hl _ _ h.blk⟩
theorem SAt.p (h : SAt H i s cv dv tv) : qWZ ty22 (.pointer (some ⟨i, 0, none⟩)) H = some (.int .u64 s.P) := by simp only [qWZ, h.blk]; rfl
theorem SAt.n (h : SAt H i s cv dv tv) : qWZ ty3 (.pointer (some ⟨i, 1, none⟩)) H = some (.int .i64 s.N) := by simp only [qWZ, h.blk]; rfl
theorem SAt.c (h : SAt H i s cv dv tv) : qWZ ty25 (.pointer (some ⟨i, 3, none⟩)) H = some cv := by simp only [qWZ, h.blk]; rfl
theorem SAt.ds (h : SAt H i s cv dv tv) : qWZ ty26 (.pointer (some ⟨i, 4, none⟩)) H = some dv := by simp only [qWZ, h.blk]; rfl
theorem SAt.t (h : SAt H i s cv dv tv) : qWZ ty27 (.pointer (some ⟨i, 5, none⟩)) H = some tv := by simp only [qWZ, h.blk]; rfl
theorem SAt.par (h : SAt H i s cv dv tv) : qWZ ty24 (.pointer (some ⟨i, 0, none⟩)) H = some (parVal s) := by simp only [qWZ, h.blk]; rfl
theorem SAt.all (h : SAt H i s cv dv tv) : qWZ ty29 (qTZ i) H = some (scnVal s cv dv tv) := by simp only [qWZ, qTZ, h.blk]; rfl
theorem scn_new {k : Nat → Heap → Prop} (s : Scn) (cv dv tv : Value) (hk : ∀ i H', Le H H' → SAt H' i s cv dv tv → k i H') : oNew (scnVal s cv dv tv).cells.toList (scnVal s cv dv tv).cells.toList.length 29 H k := by
  show oNew [.int .u64 s.P, .int .i64 s.N, .int .i64 s.T, cv, dv, tv] 6 29 H _
  intro i hi
  exact hk i _ (Le.ins _ hi) ⟨hins_self _ _ _⟩
structure DAt (H : Heap) (i : Nat) (d : Dev) : Prop where
  blk : H i = some (.cells d.cells 8 109 true)
variable {d : Dev}
theorem DAt.mono (h : DAt H i d) (hl : Le H G) : DAt G i d := ⟨hl _ _ h.blk⟩
theorem DAt.l0 (h : DAt H i d) : qWZ ty3 (.pointer (some ⟨i, 0, none⟩)) H = some (.int .i64 d.rd) := by simp only [qWZ, h.blk]; rfl
theorem DAt.l1 (h : DAt H i d) : qWZ ty3 (.pointer (some ⟨i, 1, none⟩)) H = some (.int .i64 d.fr) := by simp only [qWZ, h.blk]; rfl
theorem DAt.l2 (h : DAt H i d) : qWZ ty3 (.pointer (some ⟨i, 2, none⟩)) H = some (.int .i64 d.to_) := by simp only [qWZ, h.blk]; rfl
theorem DAt.l3 (h : DAt H i d) : qWZ ty3 (.pointer (some ⟨i, 3, none⟩)) H = some (.int .i64 d.at_) := by simp only [qWZ, h.blk]; rfl
theorem DAt.l4 (h : DAt H i d) : qWZ ty3 (.pointer (some ⟨i, 4, none⟩)) H = some (.int .i64 d.kd) := by simp only [qWZ, h.blk]; rfl
theorem DAt.l5 (h : DAt H i d) : qWZ ty22 (.pointer (some ⟨i, 5, none⟩)) H = some (.int .u64 d.k) := by simp only [qWZ, h.blk]; rfl
theorem DAt.l6 (h : DAt H i d) : qWZ ty3 (.pointer (some ⟨i, 6, none⟩)) H = some (.int .i64 d.of_) := by simp only [qWZ, h.blk]; rfl
theorem DAt.l7 (h : DAt H i d) : qWZ ty3 (.pointer (some ⟨i, 7, none⟩)) H = some (.int .i64 d.src) := by simp only [qWZ, h.blk]; rfl
theorem DAt.all (h : DAt H i d) : qWZ ty109 (qTZ i) H = some d.val := by simp only [qWZ, qTZ, h.blk]; rfl
theorem dev_new {k : Nat → Heap → Prop} (d : Dev) (hk : ∀ i H', Le H H' → DAt H' i d → k i H') : oNew d.val.cells.toList d.val.cells.toList.length 109 H k := by
  show oNew d.cells 8 109 H _
  intro i hi
  exact hk i _ (Le.ins _ hi) ⟨hins_self _ _ _⟩
theorem dev_local {k : Nat → Heap → Prop} (d : Dev) (hk : ∀ i H', Le H H' → DAt H' i d → k i H') : oNew ty109.zero.cells.toList ty109.zero.cells.toList.length 109 H fun i H1 => oHeap (p2Z ty109 (qTZ i) d.val H1) fun H2 => k i H2 := by
  show oNew [.int .i64 0, .int .i64 0, .int .i64 0, .int .i64 0, .int .i64 0, .int .u64 0, .int .i64 0, .int .i64 0] 8 109 H _
  intro i hi
  have e : p2Z ty109 (qTZ i) d.val (hins H i (.cells [.int .i64 0, .int .i64 0, .int .i64 0, .int .i64 0, .int .i64 0, .int .u64 0, .int .i64 0, .int .i64 0] 8 109 true)) = some (hins (hins H i (.cells [.int .i64 0, .int .i64 0, .int .i64 0, .int .i64 0, .int .i64 0, .int .u64 0, .int .i64 0, .int .i64 0] 8 109 true)) i (.cells d.cells 8 109 true)) := by
    simp only [p2Z, qTZ, hins_self]
    rfl
  rw [e, hins_hins]
  exact hk i _ (Le.ins _ hi) ⟨hins_self _ _ _⟩
theorem Sl.dev {v : Value} {ds : List Dev} (h : Sl eDev H v ds) {i : Nat} (hi : i < ds.length) : ∃ q, p1Z 8 v (.int .i64 i) = some q ∧ qWZ ty109 q H = some ds[i].val := by
  obtain ⟨p, cs, x, hp, hx, hr, ha⟩ := h.at_ .i64 (i := (i : Int)) (by omega) (by omega)
  cases hr
  rw [Int.toNat_natCast, List.getElem?_eq_getElem hi] at hx
  cases hx
  exact ⟨p, hp, ha.loadA rfl rfl⟩
theorem index_loop {v : Value} {xs : List Int} {x : Int} (h : Sl (eInt .i64) H v xs) {kn : Heap → Prop} {Q : Ending → Heap → Prop} (hk : x ∉ xs → kn H) (hq : ∀ j : Nat, x ∈ xs → Q (.returned (.int .i64 j)) H) :
    ∀ (d i : Nat), xs.length - i = d → i ≤ xs.length → x ∉ xs.take i → L145_3 v (.int .i64 x) (.int .i64 xs.length) (.int .i64 i) H kn Q := by
  have hm := h.max
  intro d
  induction d with
  | zero =>
    intro i hd hi hn
    apply L145_3_round
    unfold m145_4
    refine qQZ (q7Z _ _ _) (qJZ (fun hlt => absurd hlt (by omega)) (fun _ => hk ?_))
    rwa [List.take_of_length_le (by omega)] at hn
  | succ d ih =>
    intro i hd hi hn
    apply L145_3_round
    unfold m145_4
    refine qQZ (q7Z _ _ _) (qJZ (fun hlt => ?_) (fun hlt => absurd (by omega) hlt))
    have hil : i < xs.length := by omega
    obtain ⟨q, f1, f2⟩ := h.int .i64 (i := (i : Int)) (by omega) (by omega) (ti := ty3) rfl
    have e : xs.getD (i : Int).toNat 0 = xs[i] := by simp [hil]
    rw [e] at f2
    refine qQZ f1 (qQZ f2 (qQZ (q5Z _ _ _) (qJZ (fun he => hq i (he ▸ List.getElem_mem hil)) (fun he => qQZ (vInt_add _ _ _) ?_))))
    rw [pBZ (by omega) (by omega)]
    refine ih (i + 1) (by omega) (by omega) fun hmem => ?_
    rw [List.take_succ_eq_append_getElem hil] at hmem
    rcases List.mem_append.1 hmem with hmem | hmem
    · exact hn hmem
    · exact he (List.mem_singleton.1 hmem)
theorem contains_spec {v : Value} {xs : List Int} {x : Int} (h : Sl (eInt .i64) H v xs) : qVZ Tryd.prog 134 [v, .int .i64 x] H (Val (.bool (decide (x ∈ xs))) H) := by
  apply call134
  unfold m134
  refine p9Z (R := fun r H' => H' = H ∧ ∃ n : Int, r = .int .i64 n ∧ decide (0 ≤ n) = decide (x ∈ xs)) (call145 _ _ _ _ ?_) fun r H' hr => ?_
  · unfold m145 m145_2
    refine qQZ h.len (index_loop h (fun hn => ?_) (fun j hj => ⟨rfl, j, rfl, ?_⟩) _ 0 rfl (by omega) (by simp))
    · unfold m145_1
      exact ⟨rfl, -1, rfl, by rw [decide_eq_false hn]; rfl⟩
    · rw [decide_eq_true hj, decide_eq_true (by omega)]
  · obtain ⟨rfl, n, rfl, hn⟩ := hr
    refine qQZ (q0Z _ _ _) ?_
    rw [hn]
    exact ⟨rfl, rfl⟩
def word (l : List Int) (i : Int) : Int := if i < 0 ∨ (l.length : Int) ≤ i then 0 else l.getD i.toNat 0
theorem word_spec {v : Value} {l : List Int} (h : Sl (eInt .u64) H v l) (x : Int) : qVZ Tryd.prog 138 [v, .int .i64 x] H (Val (.int .u64 (word l x)) H) := by
  apply call138
  unfold m138
  refine qQZ (q7Z _ _ _) ?_
  by_cases c : x < 0
  · rw [decide_eq_true c]
    refine qMZ ⟨?_, rfl⟩
    rw [word, if_pos (.inl c)]
  · rw [decide_eq_false c]
    refine qQZ (v := .int .i64 x) rfl (qQZ (v := v) rfl (qQZ (v := .int .i64 l.length) h.len (qQZ (v := .bool (decide ((l.length : Int) ≤ x))) (q0Z .i64 x (l.length : Int)) (qQZ (v := .bool (decide ((l.length : Int) ≤ x))) rfl (qJZ (fun c2 => ⟨?_, rfl⟩) (fun c2 => ?_))))))
    · rw [word, if_pos (.inr c2)]
    · obtain ⟨q, f1, f2⟩ := h.int .i64 (i := x) (by omega) (by omega) (ti := ty22) rfl
      refine qQZ f1 (qQZ f2 ⟨?_, rfl⟩)
      rw [word, if_neg (by omega)]
end
theorem mul64_spec (H : Heap) {x y : Int} (hx0 : 0 ≤ x) (hx : x < 18446744073709551616) (hy0 : 0 ≤ y) (hy : y < 18446744073709551616) :
    qVZ Tryd.prog 147 [.int .u64 x, .int .u64 y] H (Val (.tuple #[.int .u64 (x * y / 18446744073709551616), .int .u64 (x * y % 18446744073709551616)]) H) := by
  apply call147
  unfold m147
  have a32 : ∀ z : Int, 0 ≤ z → z ≤ 18446744073709551615 → vInt .and (.int .u64 z) (.int .u64 4294967295) = some (.int .u64 (z % 4294967296)) := fun z h0 h1 => by
    rw [vInt_and]
    have := and_low z 32 (by decide) h0 h1
    have e : ((2 : Int) ^ 32 - 1) = 4294967295 := by decide
    rw [e] at this
    show some (Value.int .u64 (IntKind.u64.wrap ((BitVec.ofInt 64 z &&& BitVec.ofInt 64 4294967295).toNat : Int))) = _
    rw [this, show ((2 : Int) ^ 32) = 4294967296 by decide, wrap_u64 (by omega) (by omega)]
  have s32 : ∀ z : Int, vInt .shr (.int .u64 z) (.int .u64 32) = some (.int .u64 (z / 4294967296)) := fun z => by
    rw [vInt_shr, if_neg (by decide), show ((2 : Int) ^ (min (32 : Int).toNat IntKind.u64.bits)) = 4294967296 from by decide, Int.fdiv_eq_ediv_of_nonneg _ (by omega)]
  have key := mul64_arith x y hx0 hx hy0 hy
  simp only [↓oV_of (a32 x hx0 (by omega)), ↓oV_of (a32 y hy0 (by omega)), ↓oV_of (s32 x), ↓oV_of (s32 y), ↓hs_mul, ↓hs_add, wrap_u64_mod, ↓oV_of (s32 _), ↓oV_of (a32 ((x / 4294967296 * (y % 4294967296) % 18446744073709551616 + x % 4294967296 * (y % 4294967296) % 18446744073709551616 / 4294967296) % 18446744073709551616) (by omega) (by omega))]
  refine ⟨?_, rfl⟩
  rw [← key]
theorem fmul_spec (H : Heap) {p a b : Int} (hp : Supp p) (ha : 0 ≤ a) (ha1 : a < 18446744073709551616) (hb : 0 ≤ b) (hb1 : b < 18446744073709551616) : qVZ Tryd.prog 139 [.int .u64 p, .int .u64 a, .int .u64 b] H (Val (.int .u64 (a * b % p)) H) := by
  apply call139
  unfold m139
  refine oRC_val (mul64_spec H ha ha1 hb hb1) ?_
  have h0 : 0 ≤ a * b := Int.mul_nonneg ha hb
  have h1 : a * b ≤ 18446744073709551615 * 18446744073709551615 := Int.mul_le_mul (by omega) (by omega) hb (by omega)
  refine qQZ (v := .int .u64 (a * b / 18446744073709551616)) rfl (qQZ (v := .int .u64 (a * b % 18446744073709551616)) rfl (oRC_val (fold_spec H hp (by omega) (by omega) (by omega) (by omega)) ⟨?_, rfl⟩))
  congr 2
  omega
theorem fadd_spec (H : Heap) {p a b : Int} (hp : Supp p) (ha : 0 ≤ a) (hb : 0 ≤ b) (h : a + b ≤ 18446744073709551615) : qVZ Tryd.prog 137 [.int .u64 p, .int .u64 a, .int .u64 b] H (Val (.int .u64 ((a + b) % p)) H) := by
  apply call137
  unfold m137
  refine qQZ (vInt_add _ _ _) ?_
  rw [wrap_u64 (by omega) h]
  refine oRC_val (fold_spec H hp (by omega) (by omega) (by omega) h) ⟨?_, rfl⟩
  simp
end

section
open Go

theorem rdSlice_len {sz n : Nat} {H : Heap} {b : Option Addr} {cs : List Value} (h : rdSlice sz H b n = some cs) : cs.length = n * sz := by
  unfold rdSlice at h
  by_cases hn : n = 0
  · subst hn
    simp at h
    subst h
    simp
  · rw [if_neg hn] at h
    cases b with
    | none => cases h
    | some a =>
      obtain ⟨i, off, sp⟩ := a
      cases sp with
      | some _ => cases h
      | none =>
        simp only [rdCells] at h
        cases hc : H i with
        | none => rw [hc] at h; cases h
        | some c =>
          rw [hc] at h
          cases c with
          | cells ds a e w =>
            simp only at h
            by_cases hle : off + n * sz ≤ ds.length
            · rw [if_pos hle] at h
              cases h
              rw [List.length_take, List.length_drop]
              omega
            · rw [if_neg hle] at h
              cases h
          | _ => cases h
theorem Sl.ints {k : IntKind} {H : Heap} {v : Value} {xs : List Int} (h : Sl (eInt k) H v xs) : ∃ b cap, v = .slice b xs.length cap ∧ xs.length ≤ cap ∧ xs.length ≤ 9223372036854775807 ∧ rdSlice 1 H b xs.length = some (xs.map (.int k)) := by
  obtain ⟨b, cap, cs, h1, h2, h3, h4, h5⟩ := h
  refine ⟨b, cap, h1, h2, h3, ?_⟩
  have e : cs = xs.map (.int k) := by
    have hl := rdSlice_len h4
    apply List.ext_getElem?
    intro i
    by_cases hi : i < xs.length
    · have := h5 i xs[i] (List.getElem?_eq_getElem hi)
      have e1 : (cs.drop (i * 1)).take 1 = [.int k xs[i]] := this
      have e2 := congrArg (·[0]?) e1
      simp only [List.getElem?_take, List.getElem?_drop] at e2
      simpa [hi] using e2
    · rw [List.getElem?_eq_none (by rw [hl]; show xs.length * 1 ≤ i; omega), List.getElem?_eq_none (by simp; omega)]
  rw [← e]
  exact h4
theorem Sl.slices {α : Type} {e : El α} {H : Heap} {v : Value} {rows : List (List α)} (h : Sl (qXZ e) H v rows) : ∃ b cap us, v = .slice b rows.length cap ∧ rows.length ≤ cap ∧ rows.length ≤ 9223372036854775807 ∧ rdSlice 1 H b rows.length = some us ∧ us.length = rows.length ∧ ∀ (j : Nat) u r, us[j]? = some u → rows[j]? = some r → Sl e H u r := by
  obtain ⟨b, cap, cs, h1, h2, h3, h4, h5⟩ := h
  have hl : cs.length = rows.length := by
    have := rdSlice_len h4
    rw [this]
    exact Nat.mul_one _
  refine ⟨b, cap, cs, h1, h2, h3, h4, hl, fun j u r hu hr => ?_⟩
  obtain ⟨w, e1, e2⟩ := h5 j r hr
  have e3 := congrArg (·[0]?) e1
  have hj : (cs.drop (j * 1))[0]? = some u := by rw [List.getElem?_drop]; simpa using hu
  have e4 : ((cs.drop (j * 1)).take 1)[0]? = some u := by rw [List.getElem?_take, if_pos (by decide)]; exact hj
  have e5 : ((cs.drop (j * 1)).take 1)[0]? = some w := e3
  rw [e4] at e5
  cases e5
  exact e2
theorem Sl.one {α : Type} {e : El α} {H : Heap} {v : Value} {xs : List α} (h : Sl e H v xs) : v.oneCell' = true := by
  obtain ⟨b, cap, cs, rfl, _⟩ := h
  rfl
theorem rdSlice_none {sz n : Nat} {H : Heap} {cs : List Value} (h : rdSlice sz H none n = some cs) : n = 0 := by
  unfold rdSlice at h
  by_cases hn : n = 0
  · exact hn
  · rw [if_neg hn] at h
    cases h
theorem clone_words {H : Heap} {v : Value} {xs : List Int} (h : Sl (eInt .u64) H v xs) (hn : xs.length ≤ 1000000000) : qVZ Tryd.prog 136 [v] H (Ret fun v' H' => Grown H H' 1 22 v' xs.length (xs.map (.int .u64))) := by
  apply call136
  unfold m136
  obtain ⟨b, cap, rfl, h2, h3, h4⟩ := h.ints
  cases b with
  | none =>
    have : xs = [] := List.eq_nil_of_length_eq_zero (rdSlice_none h4)
    subst this
    exact qMZ (Grown.nil H 1 22)
  | some a =>
    refine qLZ (append_copy (te := ty22) h4 ?_ (by show 0 < 1; omega) (by show xs.length * 8 ≤ _; omega) (by omega) (by simp [ty22]) fun v' H' hg => hg)
    intro v hv
    obtain ⟨x, _, rfl⟩ := List.mem_map.1 hv
    rfl
theorem clone_rows {H : Heap} {v : Value} {rows : List (List Int)} (h : Sl (qXZ (eInt .u64)) H v rows) (hn : rows.length ≤ 1000000) :
    qVZ Tryd.prog 109 [v] H (Ret fun v' H' => ∃ us, us.length = rows.length ∧ Grown H H' 1 52 v' rows.length us ∧ ∀ (j : Nat) u r, us[j]? = some u → rows[j]? = some r → Sl (eInt .u64) H u r) := by
  apply call109
  unfold m109
  obtain ⟨b, cap, us, rfl, h2, h3, h4, h5, h6⟩ := h.slices
  cases b with
  | none =>
    have : rows = [] := List.eq_nil_of_length_eq_zero (rdSlice_none h4)
    subst this
    exact qMZ ⟨[], rfl, Grown.nil H 1 52, fun j u r hu => by simp at hu⟩
  | some a =>
    refine qLZ (append_copy (te := ty52) h4 ?_ (by show 0 < 1; omega) (by show rows.length * 24 ≤ _; omega) (by omega) (by rw [h5]; exact (Nat.mul_one _).symm) fun v' H' hg => ⟨us, h5, hg, h6⟩)
    intro v hv
    obtain ⟨j, hj, rfl⟩ := List.mem_iff_getElem.1 hv
    exact (h6 j us[j] (rows[j]'(by omega)) (List.getElem?_eq_getElem hj) (List.getElem?_eq_getElem _)).one
def told (p : Int) (bad : List Int) (d : Dev) (l said : List Int) : List Int :=
  if d.kd = 4 then [] else if (l.length : Int) ≤ d.at_ then l else
  if d.kd = 1 then l.set d.at_.toNat (d.k % p) else if d.kd = 2 then l.set d.at_.toNat ((l.getD d.at_.toNat 0 + d.k % p) % p) else
  if d.kd = 3 then (if d.of_ ∈ bad then l else l.set d.at_.toNat ((l.getD d.at_.toNat 0 + d.k % p * word said d.src % p) % p)) else l
def rng (p : Int) (l : List Int) : Prop := ∀ x ∈ l, 0 ≤ x ∧ x < p
theorem rng_getD {p : Int} {l : List Int} (h : rng p l) (hp : 0 < p) (i : Nat) : 0 ≤ l.getD i 0 ∧ l.getD i 0 < p := by
  rw [List.getD_eq_getElem?_getD]
  cases he : l[i]? with
  | none => exact ⟨Int.le_refl _, hp⟩
  | some y => exact h y (List.mem_of_getElem? he)
theorem rng_word {p : Int} {l : List Int} (h : rng p l) (hp : 0 < p) (i : Int) : 0 ≤ word l i ∧ word l i < p := by
  unfold word
  split
  · exact ⟨Int.le_refl _, hp⟩
  · exact rng_getD h hp _
theorem rng_set {p : Int} {l : List Int} (h : rng p l) (i : Nat) {x : Int} (h0 : 0 ≤ x) (h1 : x < p) : rng p (l.set i x) := by
  intro y hy
  rcases List.mem_or_eq_of_mem_set hy with hy | rfl
  · exact h y hy
  · exact ⟨h0, h1⟩
theorem told_rng {p : Int} {bad : List Int} {d : Dev} {l said : List Int} (hp : 0 < p) (h : rng p l) : rng p (told p bad d l said) := by
  have m := fun x : Int => And.intro (Int.emod_nonneg x (show p ≠ 0 by omega)) (Int.emod_lt_of_pos x hp)
  unfold told
  split
  · intro x hx; cases hx
  · split
    · exact h
    · split
      · exact rng_set h _ (m _).1 (m _).2
      · split
        · exact rng_set h _ (m _).1 (m _).2
        · split
          · split
            · exact h
            · exact rng_set h _ (m _).1 (m _).2
          · exact h
theorem told_len {p : Int} {bad : List Int} {d : Dev} {l said : List Int} : (told p bad d l said).length ≤ l.length := by
  unfold told
  repeat' split
  all_goals simp
structure DevOk (N : Int) (d : Dev) : Prop where
  at0 : 0 ≤ d.at_
  src0 : 0 ≤ d.src
  fr1 : 1 ≤ d.fr
  fr2 : d.fr ≤ N
  to0 : 0 ≤ d.to_
  to2 : d.to_ ≤ N
  kd1 : 1 ≤ d.kd
  kd2 : d.kd ≤ 4
  of0 : 0 ≤ d.of_
  of2 : d.of_ ≤ N
  of3 : d.kd = 3 → 1 ≤ d.of_
  k0 : 0 ≤ d.k
  k1 : d.k ≤ 18446744073709551615
def Upd (H : Heap) (lv : Value) (l out : List Int) : Ending → Heap → Prop := Ret fun v H' => ∃ N, New H H' N ∧ ∀ R, Le R H → Sl (eInt .u64) R lv l → Sl (eInt .u64) (hun R N) v out
theorem upd_nil {H H' : Heap} {lv : Value} {l : List Int} (hl : Le H H') : Upd H lv l [] (.returned (.slice none 0 0)) H' := ⟨fun _ => none, ⟨hl, fun i c hc => (by cases hc), fun i hi => absurd rfl hi⟩, fun R _ _ => Sl.nil _ _⟩
theorem upd_same {H H' : Heap} {lv : Value} {l : List Int} (hl : Le H H') : Upd H lv l l (.returned lv) H' := ⟨fun _ => none, ⟨hl, fun i c hc => (by cases hc), fun i hi => absurd rfl hi⟩, fun R _ h => h.mono (qNZ _ _)⟩
theorem upd_new {H H' : Heap} {lv v : Value} {l out : List Int} {n : Nat} (h : Grown H H' 1 22 v n (out.map (.int .u64))) (hn : out.length = n) : Upd H lv l out (.returned v) H' := by
  subst hn
  obtain ⟨N, hN, hs⟩ := Grown.made (e := eInt .u64) (xs := out) h (fun K i x hx => one_get _ i (.int .u64 x) (by rw [List.getElem?_map, hx]; rfl))
  exact ⟨N, hN, fun R hR _ => hs.mono (hun_right fun k hk => none_le hR (hN.2.2 k hk))⟩
theorem set_same {l : List Int} {i : Nat} (h : i < l.length) : l.set i (l.getD i 0) = l := by
  have : l.getD i 0 = l[i] := by simp [h]
  rw [this, List.set_getElem_self]
section
variable {H : Heap} {s : Scn} {cv dv tv lv sv : Value} {d : Dev} {l said : List Int}
theorem upon_spec (hp : Supp s.P) (hb : Sl (eInt .i64) H cv s.bad) (hl : Sl (eInt .u64) H lv l) (hs : Sl (eInt .u64) H sv said) (hlr : rng s.P l) (hsr : rng s.P said) (hll : l.length ≤ 1000) (hd : DevOk s.N d) :
    qVZ Tryd.prog 111 [scnVal s cv dv tv, d.val, lv, sv] H (Upd H lv l (told s.P s.bad d l said)) := by
  have hpp := hp.pos
  have m := fun x : Int => And.intro (Int.emod_nonneg x (show s.P ≠ 0 by omega)) (Int.emod_lt_of_pos x (show 0 < s.P by omega))
  apply call111
  unfold m111
  refine scn_new s cv dv tv fun i1 H1 l1 hs1 => ?_
  refine dev_new d fun i2 H2 l2 hd2 => ?_
  have l12 := l1.trans l2
  have hs2 := hs1.mono l2
  have h4 := hd.kd1
  have h5 := hd.kd2
  refine qQZ (q1Z _ _) (qQZ hd2.l4 (qQZ (q5Z _ _ _) (qJZ (fun k4 => ?_) (fun k4 => ?_))))
  · rw [told, if_pos k4]
    exact upd_nil l12
  refine qQZ (q1Z _ _) (qQZ hd2.l3 (qQZ hl.len (qQZ (q0Z _ _ _) (qJZ (fun c => ?_) (fun c => ?_)))))
  · rw [told, if_neg k4, if_pos c]
    exact upd_same l12
  refine qQZ (q1Z _ _) (qQZ (v := .pointer (some ⟨i1, 0, none⟩)) rfl (qQZ hs2.p (qQZ (q1Z _ _) (qQZ hd2.l5 (oRC_val (reduce_spec H2 hp hd.k0 hd.k1) ?_)))))
  refine p9Z (clone_words (hl.mono l12) (by omega)) fun v H3 hg => ?_
  have l3 := hg.1
  have hd3 := hd2.mono l3
  have hs3 := hs2.mono l3
  have a0 := hd.at0
  have hat : d.at_.toNat < l.length := by omega
  have eat : ((d.at_.toNat : Nat) : Int) = d.at_ := by omega
  obtain ⟨q, x, g1, g2, g3, g4⟩ := hg.ix .i64 (i := d.at_.toNat) hat
  rw [eat] at g1
  have ex : x = .int .u64 (l.getD d.at_.toNat 0) := by
    rw [List.getElem?_map, List.getElem?_eq_getElem hat] at g2
    have := (Option.some.inj g2).symm
    rw [this]
    simp [hat]
  subst ex
  have rl := rng_getD hlr (by omega) d.at_.toNat
  have fin : ∀ y : Int, ∃ H', p2Z ty22 q (.int .u64 y) H3 = some H' ∧ Upd H lv l (l.set d.at_.toNat y) (.returned v) H' := fun y => by
    obtain ⟨H', s1, s2, _⟩ := g4 ty22 (.int .u64 y) rfl rfl rfl
    refine ⟨H', s1, upd_new (n := l.length) ?_ (by simp)⟩
    rw [List.map_set]
    exact s2.less l12
  refine qQZ (q1Z _ _) (qQZ hd3.l4 (qQZ (q5Z _ _ _) (qJZ (fun k1 => ?_) (fun k1 => ?_))))
  · obtain ⟨H', s1, s2⟩ := fin (d.k % s.P)
    rw [told, if_neg k4, if_neg c, if_pos k1]
    exact qQZ (q1Z _ _) (qQZ hd3.l3 (qQZ g1 (p8Z s1 s2)))
  refine qQZ (q5Z _ _ _) (qJZ (fun k2 => ?_) (fun k2 => ?_))
  · obtain ⟨H', s1, s2⟩ := fin ((l.getD d.at_.toNat 0 + d.k % s.P) % s.P)
    rw [told, if_neg k4, if_neg c, if_neg k1, if_pos k2]
    exact qQZ (q1Z _ _) (qQZ hd3.l3 (qQZ (q1Z _ _) (qQZ hd3.l3 (qQZ g1 (qQZ (g3 ty22 rfl) (oRC_val (fadd_spec H3 hp rl.1 (m _).1 (by have := (m d.k).2; omega)) ⟨hd3.l3, qQZ g1 (p8Z s1 s2)⟩))))))
  have k3 : d.kd = 3 := by omega
  refine qQZ (q5Z _ _ _) ?_
  rw [decide_eq_true k3]
  refine qMZ ?_
  refine qQZ (q1Z _ _) (qQZ hs3.c (qQZ (q1Z _ _) (qQZ hd3.l6 (oRC_val (contains_spec ((hb.mono l12).mono l3)) ?_))))
  rw [told, if_neg k4, if_neg c, if_neg k1, if_neg k2, if_pos k3]
  by_cases hof : d.of_ ∈ s.bad
  · rw [decide_eq_true hof, if_pos hof]
    obtain ⟨H', s1, s2⟩ := fin ((l.getD d.at_.toNat 0 + d.k % s.P * 0 % s.P) % s.P)
    have e1 : (l.getD d.at_.toNat 0 + d.k % s.P * 0 % s.P) % s.P = l.getD d.at_.toNat 0 := by
      rw [Int.mul_zero, Int.zero_emod, Int.add_zero, Int.emod_eq_of_lt rl.1 rl.2]
    refine qQZ rfl (qLZ ?_)
    refine qQZ (q1Z _ _) (qQZ hd3.l3 (qQZ (q1Z _ _) (qQZ hd3.l3 (qQZ g1 (qQZ (g3 ty22 rfl) ?_)))))
    refine oRC_val (fmul_spec H3 hp (m _).1 (by have := (m d.k).2; omega) (by omega) (by omega)) ⟨g3 ty22 rfl, hd3.l3, hd3.l3, ?_⟩
    refine oRC_val (fadd_spec H3 hp rl.1 (m _).1 (by have := (m (d.k % s.P * 0)).2; omega)) ⟨hd3.l3, qQZ g1 (p8Z s1 ?_)⟩
    rw [e1, set_same hat] at s2
    exact s2
  · rw [decide_eq_false hof, if_neg hof]
    obtain ⟨H', s1, s2⟩ := fin ((l.getD d.at_.toNat 0 + d.k % s.P * word said d.src % s.P) % s.P)
    have rw_ := rng_word hsr (by omega) d.src
    refine qQZ rfl (qMZ ?_)
    refine qQZ (q1Z _ _) (qQZ hd3.l7 (oRC_val (word_spec ((hs.mono l12).mono l3) d.src) ?_))
    refine qQZ (q1Z _ _) (qQZ hd3.l3 (qQZ (q1Z _ _) (qQZ hd3.l3 (qQZ g1 (qQZ (g3 ty22 rfl) ?_)))))
    refine oRC_val (fmul_spec H3 hp (m _).1 (by have := (m d.k).2; omega) rw_.1 (by omega)) ⟨g3 ty22 rfl, hd3.l3, hd3.l3, ?_⟩
    exact oRC_val (fadd_spec H3 hp rl.1 (m _).1 (by have := (m (d.k % s.P * word said d.src)).2; omega)) ⟨hd3.l3, qQZ g1 (p8Z s1 s2)⟩
end
end

end Go.Proofs.YtchhpagkdaaglaaDoor.SL
