/- Part 23 of the proof of LawCp: Vd0 Vd1 Vd2, one behind the other. -/
import Derived.Test.YtchhpagkdaaglaaDoorCpb
import Derived.Test.YtchhpagkdaaglaaDoorCpa
section
set_option linter.unusedVariables false
set_option linter.unusedSimpArgs false
set_option maxRecDepth 100000
namespace Go.Proofs.YtchhpagkdaaglaaDoor.SL
open Go
def hint122 : Nat → List Nat := lookupL []
def m122 (x0 x1 : Value) (H : Heap) (Q : QT) : Prop :=
oV (vNil x0) fun t6_1 =>
oV (vField 8 t6_1) fun t7_2 =>
oV (vLoad ty96 t7_2 H) fun t8_3 =>
oV (vInt .sub x1 (.int .i64 1)) fun t10_4 =>
oV (vIdxS 1 t8_3 t10_4) fun t11_5 =>
oV (vLoad ty99 t11_5 H) fun t12_6 =>
Q (.returned t12_6) H
theorem c122_0 (env : Env) (H : Heap) (Q : QT) (h : m122 (env 0) (env 1) H Q) :
    RCode Tryd.prog 13 (bodyOf Tryd.f122) env H (mkK (retK T Tryd.f122.results.toList Q) (fun _ _ _ => False) (retK T Tryd.f122.results.toList Q) (fun c H => Q (.panicked c) H)) :=
  RCode.leaf_ (T := T) (X := ext) (hint := hint122) tok xok mixed (by kernel_rfl) h
theorem call122 (a0 a1 : Value) (H : Heap) (Q : QT) (h : m122 a0 a1 H Q) : RCalls Tryd.prog 122 [a0, a1] H Q :=
  RCalls.intro (nt := 13) tok Tryd.func122 (by kernel_rfl) (by kernel_rfl) (by kernel_rfl) (of_decide_eq_true (by kernel_rfl)) (c122_0 (envOf [a0, a1]) H Q h)
def hint143 : Nat → List Nat := lookupL [(1, [0, 1, 2, 3, 4, 5, 6, 7, 8, 9, 10])]
def m143 (x0 : Value) (H : Heap) (Q : QT) : Prop :=
oV (vNil x0) fun t4_1 =>
oV (vField 0 t4_1) fun t5_2 =>
oV (vLoad ty52 t5_2 H) fun t6_3 =>
oV (vLen t6_3) fun t7_4 =>
oV (vNil x0) fun t9_5 =>
oV (vField 1 t9_5) fun t10_6 =>
oV (vLoad ty3 t10_6 H) fun t11_7 =>
oV (vInt .sub t7_4 t11_7) fun t12_8 =>
Q (.returned t12_8) H
theorem c143_0 (env : Env) (H : Heap) (Q : QT) (h : m143 (env 0) H Q) :
    RCode Tryd.prog 13 (bodyOf Tryd.f143) env H (mkK (retK T Tryd.f143.results.toList Q) (fun _ _ _ => False) (retK T Tryd.f143.results.toList Q) (fun c H => Q (.panicked c) H)) :=
  RCode.leaf_ (T := T) (X := ext) (hint := hint143) tok xok mixed (by kernel_rfl) h
theorem call143 (a0 : Value) (H : Heap) (Q : QT) (h : m143 a0 H Q) : RCalls Tryd.prog 143 [a0] H Q :=
  RCalls.intro (nt := 13) tok Tryd.func143 (by kernel_rfl) (by kernel_rfl) (by kernel_rfl) (of_decide_eq_true (by kernel_rfl)) (c143_0 (envOf [a0]) H Q h)
def hint123 : Nat → List Nat := lookupL [(5, [0, 1, 2, 3, 4, 5, 6, 7, 8, 9, 10, 11, 12, 13, 14, 15])]
def m123 (x0 x1 : Value) (H : Heap) (Q : QT) : Prop :=
oV (vInt .lss x1 (.int .i64 0)) fun t8_1 =>
oV (gV t8_1 false (some x1) (some undef)) fun t10_2 =>
oV (gV t8_1 false (some x0) (some undef)) fun t11_3 =>
letK (fun t12_5 H_6 =>
oV (gV t8_1 false (vInt .gtr t10_2 t12_5) (some undef)) fun t13_7 =>
oV (vPick t8_1 (.bool true) t13_7) fun t14_8 =>
condK t14_8 (
Q (.returned (.tuple #[(.slice none 0 0), (.int .i64 10)])) H_6) (
oV (vNil x0) fun t16_9 =>
oV (vField 1 t16_9) fun t17_10 =>
oV (vLoad ty3 t17_10 H_6) fun t18_11 =>
oV (vNil x0) fun t20_12 =>
oV (vField 1 t20_12) fun t21_13 =>
oV (vLoad ty3 t21_13 H_6) fun t22_14 =>
oV (vInt .add t22_14 x1) fun t24_15 =>
oV (vNil x0) fun t25_16 =>
oV (vField 1 t25_16) fun t26_17 =>
oHeap (vStore ty3 t26_17 t24_15 H_6) fun H_18 =>
oV (vNil x0) fun t28_19 =>
oV (vField 0 t28_19) fun t29_20 =>
oV (vLoad ty52 t29_20 H_18) fun t30_21 =>
oV (vNil x0) fun t33_22 =>
oV (vField 1 t33_22) fun t34_23 =>
oV (vLoad ty3 t34_23 H_18) fun t35_24 =>
oV (vNil x0) fun t37_25 =>
oV (vField 1 t37_25) fun t38_26 =>
oV (vLoad ty3 t38_26 H_18) fun t39_27 =>
oV (vSlice 1 t30_21 (some t18_11) (some t35_24) (some t39_27)) fun t40_28 =>
Q (.returned (.tuple #[t40_28, (.int .i64 0)])) H_18)) fun k_4 => gK t8_1 false (oRC Tryd.prog 143 [t11_3] H (fun c H => Q (.panicked c) H) fun v_29 H_30 =>
k_4 v_29 H_30) (k_4 undef H)
theorem c123_0 (env : Env) (H : Heap) (Q : QT) (h : m123 (env 0) (env 1) H Q) :
    RCode Tryd.prog 41 (bodyOf Tryd.f123) env H (mkK (retK T Tryd.f123.results.toList Q) (fun _ _ _ => False) (retK T Tryd.f123.results.toList Q) (fun c H => Q (.panicked c) H)) :=
  RCode.leaf_ (T := T) (X := ext) (hint := hint123) tok xok mixed (by kernel_rfl) h
theorem call123 (a0 a1 : Value) (H : Heap) (Q : QT) (h : m123 a0 a1 H Q) : RCalls Tryd.prog 123 [a0, a1] H Q :=
  RCalls.intro (nt := 41) tok Tryd.func123 (by kernel_rfl) (by kernel_rfl) (by kernel_rfl) (of_decide_eq_true (by kernel_rfl)) (c123_0 (envOf [a0, a1]) H Q h)
def hint124 : Nat → List Nat := lookupL [(13, [0, 1, 2, 3, 4, 5, 6, 7, 8, 9, 10, 11, 12, 13]), (21, [0, 1, 2, 3, 4, 5, 6, 7, 8, 9, 10, 11, 12, 13, 14, 15, 16, 17, 18, 19])]
def m124_3 (x7 : Value) (H : Heap) (Q : QT) : Prop :=
Q (.returned (.tuple #[x7, (.int .i64 0)])) H
theorem c124_3 (env : Env) (H : Heap) (Q : QT) (h : m124_3 (env 7) H Q) :
    RCode Tryd.prog 92 (codeAt [1, 1, 1, 1, 1, 1, 1] (bodyOf Tryd.f124)) env H (mkK (retK T Tryd.f124.results.toList Q) (fun _ _ _ => False) (retK T Tryd.f124.results.toList Q) (fun c H => Q (.panicked c) H)) :=
  RCode.leaf_ (T := T) (X := ext) (hint := hint124) tok xok mixed (by kernel_rfl) h
def L124_5 (x1 x6 x7 x11 : Value) (H : Heap) (kn : K1T) (Q : QT) : Prop :=
  ∀ env : Env, env 1 = x1 → env 6 = x6 → env 7 = x7 → env 11 = x11 → RLoop Tryd.prog 92 (codeAt [1, 1, 1, 1, 1, 1, 0, 1, 0, 0] (bodyOf Tryd.f124)) env H (mkK (fun _ _ => False) (inK 4 (fun e H => kn (e 7) H) (fun _ _ _ => False)) (retK T Tryd.f124.results.toList Q) (fun c H => Q (.panicked c) H))
theorem cL124_5 (env : Env) (H : Heap) (kn : K1T) (Q : QT) (h : L124_5 (env 1) (env 6) (env 7) (env 11) H kn Q) :
    RCode Tryd.prog 92 (codeAt [1, 1, 1, 1, 1, 1, 0, 1] (bodyOf Tryd.f124)) env H (mkK (fun e H => kn (e 7) H) (fun _ _ _ => False) (retK T Tryd.f124.results.toList Q) (fun c H => Q (.panicked c) H)) :=
  RCode.blk (by kernel_rfl : (codeAt [1, 1, 1, 1, 1, 1, 0, 1] (bodyOf Tryd.f124)) = .block 4 (codeAt [1, 1, 1, 1, 1, 1, 0, 1, 0] (bodyOf Tryd.f124))) (RCode.lp (by kernel_rfl : (codeAt [1, 1, 1, 1, 1, 1, 0, 1, 0] (bodyOf Tryd.f124)) = .loop (codeAt [1, 1, 1, 1, 1, 1, 0, 1, 0, 0] (bodyOf Tryd.f124))) ((h env rfl rfl rfl rfl).mono (mkK_mono (fun _ _ h => h.elim) (fun _ _ _ h => h) (fun _ _ h => h) (fun _ _ h => h))))
def m124_7 (x1 x6 x7 x11 : Value) (H : Heap) (kn : K4T) (kx4 : K1T) (Q : QT) : Prop :=
oV (vInt .add x11 (.int .i64 1)) fun t64_1 =>
kn x1 x6 x7 t64_1 H
theorem c124_7 (env : Env) (H : Heap) (kn : K4T) (kx4 : K1T) (Q : QT) (h : m124_7 (env 1) (env 6) (env 7) (env 11) H kn kx4 Q) :
    RCode Tryd.prog 92 (codeAt [1, 1, 1, 1, 1, 1, 0, 1, 0, 0, 1, 1] (bodyOf Tryd.f124)) env H (mkK (fun e H => kn (e 1) (e 6) (e 7) (e 11) H) (inK 4 (fun e H => kx4 (e 7) H) (fun _ _ _ => False)) (retK T Tryd.f124.results.toList Q) (fun c H => Q (.panicked c) H)) :=
  RCode.leaf_ (T := T) (X := ext) (hint := hint124) tok xok mixed (by kernel_rfl) h
def L124_10 (x1 x6 x7 x11 x12 : Value) (H : Heap) (kn : K4T) (kx5 : K4T) (kx4 : K1T) (Q : QT) : Prop :=
  ∀ env : Env, env 1 = x1 → env 6 = x6 → env 7 = x7 → env 11 = x11 → env 12 = x12 → RLoop Tryd.prog 92 (codeAt [1, 1, 1, 1, 1, 1, 0, 1, 0, 0, 1, 0, 0, 1, 0, 0] (bodyOf Tryd.f124)) env H (mkK (fun _ _ => False) (inK 6 (fun e H => kn (e 1) (e 6) (e 7) (e 11) H) (inK 5 (fun e H => kx5 (e 1) (e 6) (e 7) (e 11) H) (inK 4 (fun e H => kx4 (e 7) H) (fun _ _ _ => False)))) (retK T Tryd.f124.results.toList Q) (fun c H => Q (.panicked c) H))
theorem cL124_10 (env : Env) (H : Heap) (kn : K4T) (kx5 : K4T) (kx4 : K1T) (Q : QT) (h : L124_10 (env 1) (env 6) (env 7) (env 11) (env 12) H kn kx5 kx4 Q) :
    RCode Tryd.prog 92 (codeAt [1, 1, 1, 1, 1, 1, 0, 1, 0, 0, 1, 0, 0, 1] (bodyOf Tryd.f124)) env H (mkK (fun e H => kn (e 1) (e 6) (e 7) (e 11) H) (inK 5 (fun e H => kx5 (e 1) (e 6) (e 7) (e 11) H) (inK 4 (fun e H => kx4 (e 7) H) (fun _ _ _ => False))) (retK T Tryd.f124.results.toList Q) (fun c H => Q (.panicked c) H)) :=
  RCode.blk (by kernel_rfl : (codeAt [1, 1, 1, 1, 1, 1, 0, 1, 0, 0, 1, 0, 0, 1] (bodyOf Tryd.f124)) = .block 6 (codeAt [1, 1, 1, 1, 1, 1, 0, 1, 0, 0, 1, 0, 0, 1, 0] (bodyOf Tryd.f124))) (RCode.lp (by kernel_rfl : (codeAt [1, 1, 1, 1, 1, 1, 0, 1, 0, 0, 1, 0, 0, 1, 0] (bodyOf Tryd.f124)) = .loop (codeAt [1, 1, 1, 1, 1, 1, 0, 1, 0, 0, 1, 0, 0, 1, 0, 0] (bodyOf Tryd.f124))) ((h env rfl rfl rfl rfl rfl).mono (mkK_mono (fun _ _ h => h.elim) (fun _ _ _ h => h) (fun _ _ h => h) (fun _ _ h => h))))
def m124_11 (x1 x6 x7 x11 x12 : Value) (H : Heap) (kn : K5T) (kx6 : K4T) (kx5 : K4T) (kx4 : K1T) (Q : QT) : Prop :=
oV (vInt .lss x12 x6) fun t68_2 =>
condK t68_2 (
oV (vIdxS 1 x7 x11) fun t73_3 =>
oV (vLoad ty52 t73_3 H) fun t74_4 =>
oV (vIdxS 1 x7 x12) fun t78_5 =>
oV (vLoad ty52 t78_5 H) fun t79_6 =>
oV (vIdxS 1 x1 (.int .i64 0)) fun t82_7 =>
oV (vLoad ty22 t82_7 H) fun t83_8 =>
oV (vIdxS 1 x1 (.int .i64 0)) fun t85_9 =>
oV (vLoad ty22 t85_9 H) fun t86_10 =>
oV (vIdxS 1 t74_4 x12) fun t87_11 =>
oHeap (vStore ty22 t87_11 t83_8 H) fun H_12 =>
oV (vIdxS 1 t79_6 x11) fun t88_13 =>
oHeap (vStore ty22 t88_13 t86_10 H_12) fun H_14 =>
oV (vSlice 1 x1 (some (.int .i64 1)) none none) fun t90_15 =>
oV (vInt .add x12 (.int .i64 1)) fun t70_16 =>
kn t90_15 x6 x7 x11 t70_16 H_14) (
kx6 x1 x6 x7 x11 H)
theorem c124_11 (env : Env) (H : Heap) (kn : K5T) (kx6 : K4T) (kx5 : K4T) (kx4 : K1T) (Q : QT) (h : m124_11 (env 1) (env 6) (env 7) (env 11) (env 12) H kn kx6 kx5 kx4 Q) :
    RCode Tryd.prog 92 (codeAt [1, 1, 1, 1, 1, 1, 0, 1, 0, 0, 1, 0, 0, 1, 0, 0] (bodyOf Tryd.f124)) env H (mkK (fun e H => kn (e 1) (e 6) (e 7) (e 11) (e 12) H) (inK 6 (fun e H => kx6 (e 1) (e 6) (e 7) (e 11) H) (inK 5 (fun e H => kx5 (e 1) (e 6) (e 7) (e 11) H) (inK 4 (fun e H => kx4 (e 7) H) (fun _ _ _ => False)))) (retK T Tryd.f124.results.toList Q) (fun c H => Q (.panicked c) H)) :=
  RCode.leaf_ (T := T) (X := ext) (hint := hint124) tok xok mixed (by kernel_rfl) h
theorem L124_10_round (x1 x6 x7 x11 x12 : Value) (H : Heap) (kn : K4T) (kx5 : K4T) (kx4 : K1T) (Q : QT) (h : m124_11 x1 x6 x7 x11 x12 H (fun y1 y6 y7 y11 y12 H => L124_10 y1 y6 y7 y11 y12 H kn kx5 kx4 Q) kn kx5 kx4 Q) : L124_10 x1 x6 x7 x11 x12 H kn kx5 kx4 Q := by
  intro env h1 h6 h7 h11 h12
  subst h1; subst h6; subst h7; subst h11; subst h12
  exact RLoop.round ((c124_11 env H (fun y1 y6 y7 y11 y12 H => L124_10 y1 y6 y7 y11 y12 H kn kx5 kx4 Q) kn kx5 kx4 Q h).mono (mkK_mono (fun e H h => h e rfl rfl rfl rfl rfl) (fun _ _ _ h => h) (fun _ _ h => h) (fun _ _ h => h)))
def m124_9 (x1 x6 x7 x11 : Value) (H : Heap) (kn : K4T) (kx5 : K4T) (kx4 : K1T) (Q : QT) : Prop :=
L124_10 x1 x6 x7 x11 x11 H kn kx5 kx4 Q
theorem c124_9 (env : Env) (H : Heap) (kn : K4T) (kx5 : K4T) (kx4 : K1T) (Q : QT) (h : m124_9 (env 1) (env 6) (env 7) (env 11) H kn kx5 kx4 Q) :
    RCode Tryd.prog 92 (codeAt [1, 1, 1, 1, 1, 1, 0, 1, 0, 0, 1, 0, 0] (bodyOf Tryd.f124)) env H (mkK (fun e H => kn (e 1) (e 6) (e 7) (e 11) H) (inK 5 (fun e H => kx5 (e 1) (e 6) (e 7) (e 11) H) (inK 4 (fun e H => kx4 (e 7) H) (fun _ _ _ => False))) (retK T Tryd.f124.results.toList Q) (fun c H => Q (.panicked c) H)) :=
  RCode.prefix_ (T := T) (X := ext) (hint := hint124) (hole := (fun e H => L124_10 (e 1) (e 6) (e 7) (e 11) (e 12) H kn kx5 kx4 Q)) tok xok mixed 1 (by kernel_rfl) (by kernel_rfl : codeAt _ _ = (codeAt [1, 1, 1, 1, 1, 1, 0, 1, 0, 0, 1, 0, 0, 1] (bodyOf Tryd.f124))) h
    (fun e H h => (cL124_10 e H kn kx5 kx4 Q h))
def m124_8 (x1 x6 x7 x11 : Value) (H : Heap) (kn : K4T) (kx4 : K1T) (Q : QT) : Prop :=
m124_9 x1 x6 x7 x11 H kn kn kx4 Q
theorem c124_8 (env : Env) (H : Heap) (kn : K4T) (kx4 : K1T) (Q : QT) (h : m124_8 (env 1) (env 6) (env 7) (env 11) H kn kx4 Q) :
    RCode Tryd.prog 92 (codeAt [1, 1, 1, 1, 1, 1, 0, 1, 0, 0, 1, 0] (bodyOf Tryd.f124)) env H (mkK (fun e H => kn (e 1) (e 6) (e 7) (e 11) H) (inK 4 (fun e H => kx4 (e 7) H) (fun _ _ _ => False)) (retK T Tryd.f124.results.toList Q) (fun c H => Q (.panicked c) H)) :=
  RCode.blk (by kernel_rfl : (codeAt [1, 1, 1, 1, 1, 1, 0, 1, 0, 0, 1, 0] (bodyOf Tryd.f124)) = .block 5 (codeAt [1, 1, 1, 1, 1, 1, 0, 1, 0, 0, 1, 0, 0] (bodyOf Tryd.f124))) (c124_9 env H kn kn kx4 Q h)
def m124_6 (x1 x6 x7 x11 : Value) (H : Heap) (kn : K4T) (kx4 : K1T) (Q : QT) : Prop :=
oV (vInt .lss x11 x6) fun t62_17 =>
condK t62_17 (
m124_8 x1 x6 x7 x11 H (fun y1_18 y6_19 y7_20 y11_21 H_22 => m124_7 y1_18 y6_19 y7_20 y11_21 H_22 kn kx4 Q) kx4 Q) (
kx4 x7 H)
theorem c124_6 (env : Env) (H : Heap) (kn : K4T) (kx4 : K1T) (Q : QT) (h : m124_6 (env 1) (env 6) (env 7) (env 11) H kn kx4 Q) :
    RCode Tryd.prog 92 (codeAt [1, 1, 1, 1, 1, 1, 0, 1, 0, 0] (bodyOf Tryd.f124)) env H (mkK (fun e H => kn (e 1) (e 6) (e 7) (e 11) H) (inK 4 (fun e H => kx4 (e 7) H) (fun _ _ _ => False)) (retK T Tryd.f124.results.toList Q) (fun c H => Q (.panicked c) H)) :=
  RCode.prefix_ (T := T) (X := ext) (hint := hint124) (hole := (fun e H => m124_8 (e 1) (e 6) (e 7) (e 11) H (fun y1_23 y6_24 y7_25 y11_26 H_27 => m124_7 y1_23 y6_24 y7_25 y11_26 H_27 kn kx4 Q) kx4 Q)) tok xok mixed 1 (by kernel_rfl) (by kernel_rfl : codeAt _ _ = (codeAt [1, 1, 1, 1, 1, 1, 0, 1, 0, 0, 1] (bodyOf Tryd.f124))) h
    (fun e H h => RCode.join (by kernel_rfl : (codeAt [1, 1, 1, 1, 1, 1, 0, 1, 0, 0, 1] (bodyOf Tryd.f124)) = .seq (codeAt [1, 1, 1, 1, 1, 1, 0, 1, 0, 0, 1, 0] (bodyOf Tryd.f124)) (codeAt [1, 1, 1, 1, 1, 1, 0, 1, 0, 0, 1, 1] (bodyOf Tryd.f124))) ((c124_8 e H (fun y1_28 y6_29 y7_30 y11_31 H_32 => m124_7 y1_28 y6_29 y7_30 y11_31 H_32 kn kx4 Q) kx4 Q h).mono (mkK_mono (fun e H h => c124_7 e H kn kx4 Q h) (fun _ _ _ h => h) (fun _ _ h => h) (fun _ _ h => h))))
theorem L124_5_round (x1 x6 x7 x11 : Value) (H : Heap) (kn : K1T) (Q : QT) (h : m124_6 x1 x6 x7 x11 H (fun y1 y6 y7 y11 H => L124_5 y1 y6 y7 y11 H kn Q) kn Q) : L124_5 x1 x6 x7 x11 H kn Q := by
  intro env h1 h6 h7 h11
  subst h1; subst h6; subst h7; subst h11
  exact RLoop.round ((c124_6 env H (fun y1 y6 y7 y11 H => L124_5 y1 y6 y7 y11 H kn Q) kn Q h).mono (mkK_mono (fun e H h => h e rfl rfl rfl rfl) (fun _ _ _ h => h) (fun _ _ h => h) (fun _ _ h => h)))
def m124_4 (x1 x6 x7 : Value) (H : Heap) (kn : K1T) (Q : QT) : Prop :=
L124_5 x1 x6 x7 (.int .i64 1) H kn Q
theorem c124_4 (env : Env) (H : Heap) (kn : K1T) (Q : QT) (h : m124_4 (env 1) (env 6) (env 7) H kn Q) :
    RCode Tryd.prog 92 (codeAt [1, 1, 1, 1, 1, 1, 0] (bodyOf Tryd.f124)) env H (mkK (fun e H => kn (e 7) H) (fun _ _ _ => False) (retK T Tryd.f124.results.toList Q) (fun c H => Q (.panicked c) H)) :=
  RCode.prefix_ (T := T) (X := ext) (hint := hint124) (hole := (fun e H => L124_5 (e 1) (e 6) (e 7) (e 11) H kn Q)) tok xok mixed 1 (by kernel_rfl) (by kernel_rfl : codeAt _ _ = (codeAt [1, 1, 1, 1, 1, 1, 0, 1] (bodyOf Tryd.f124))) h
    (fun e H h => (cL124_5 e H kn Q h))
def m124_2 (x1 x6 x7 : Value) (H : Heap) (Q : QT) : Prop :=
m124_4 x1 x6 x7 H (fun y7_33 H_34 => m124_3 y7_33 H_34 Q) Q
theorem c124_2 (env : Env) (H : Heap) (Q : QT) (h : m124_2 (env 1) (env 6) (env 7) H Q) :
    RCode Tryd.prog 92 (codeAt [1, 1, 1, 1, 1, 1] (bodyOf Tryd.f124)) env H (mkK (retK T Tryd.f124.results.toList Q) (fun _ _ _ => False) (retK T Tryd.f124.results.toList Q) (fun c H => Q (.panicked c) H)) :=
  RCode.join (by kernel_rfl : (codeAt [1, 1, 1, 1, 1, 1] (bodyOf Tryd.f124)) = .seq (codeAt [1, 1, 1, 1, 1, 1, 0] (bodyOf Tryd.f124)) (codeAt [1, 1, 1, 1, 1, 1, 1] (bodyOf Tryd.f124))) ((c124_4 env H (fun y7_35 H_36 => m124_3 y7_35 H_36 Q) Q h).mono (mkK_mono (fun e H h => c124_3 e H Q h) (fun _ _ _ h => h) (fun _ _ h => h) (fun _ _ h => h)))
def L124_13 (x1 x6 x7 x40 x41 x42 : Value) (H : Heap) (kn : K3T) (Q : QT) : Prop :=
  ∀ env : Env, env 1 = x1 → env 6 = x6 → env 7 = x7 → env 40 = x40 → env 41 = x41 → env 42 = x42 → RLoop Tryd.prog 92 (codeAt [1, 1, 1, 1, 1, 0, 1, 0, 0] (bodyOf Tryd.f124)) env H (mkK (fun _ _ => False) (inK 2 (fun e H => kn (e 1) (e 6) (e 7) H) (fun _ _ _ => False)) (retK T Tryd.f124.results.toList Q) (fun c H => Q (.panicked c) H))
theorem cL124_13 (env : Env) (H : Heap) (kn : K3T) (Q : QT) (h : L124_13 (env 1) (env 6) (env 7) (env 40) (env 41) (env 42) H kn Q) :
    RCode Tryd.prog 92 (codeAt [1, 1, 1, 1, 1, 0, 1] (bodyOf Tryd.f124)) env H (mkK (fun e H => kn (e 1) (e 6) (e 7) H) (fun _ _ _ => False) (retK T Tryd.f124.results.toList Q) (fun c H => Q (.panicked c) H)) :=
  RCode.blk (by kernel_rfl : (codeAt [1, 1, 1, 1, 1, 0, 1] (bodyOf Tryd.f124)) = .block 2 (codeAt [1, 1, 1, 1, 1, 0, 1, 0] (bodyOf Tryd.f124))) (RCode.lp (by kernel_rfl : (codeAt [1, 1, 1, 1, 1, 0, 1, 0] (bodyOf Tryd.f124)) = .loop (codeAt [1, 1, 1, 1, 1, 0, 1, 0, 0] (bodyOf Tryd.f124))) ((h env rfl rfl rfl rfl rfl rfl).mono (mkK_mono (fun _ _ h => h.elim) (fun _ _ _ h => h) (fun _ _ h => h) (fun _ _ h => h))))
def m124_14 (x1 x6 x7 x40 x41 x42 : Value) (H : Heap) (kn : K6T) (kx2 : K3T) (Q : QT) : Prop :=
oV (vInt .lss x42 x41) fun t43_37 =>
condK t43_37 (
oV (vIdxS 1 x40 x42) fun t45_38 =>
oV (vLoad ty22 t45_38 H) fun t46_39 =>
oV (vIdxS 1 x7 (.int .i64 0)) fun t48_40 =>
oV (vLoad ty52 t48_40 H) fun t49_41 =>
oV (vIdxS 1 x7 x42) fun t53_42 =>
oV (vLoad ty52 t53_42 H) fun t54_43 =>
oV (vIdxS 1 t49_41 x42) fun t57_44 =>
oHeap (vStore ty22 t57_44 t46_39 H) fun H_45 =>
oV (vIdxS 1 t54_43 (.int .i64 0)) fun t58_46 =>
oHeap (vStore ty22 t58_46 t46_39 H_45) fun H_47 =>
oV (vInt .add x42 (.int .i64 1)) fun t59_48 =>
kn x1 x6 x7 x40 x41 t59_48 H_47) (
kx2 x1 x6 x7 H)
theorem c124_14 (env : Env) (H : Heap) (kn : K6T) (kx2 : K3T) (Q : QT) (h : m124_14 (env 1) (env 6) (env 7) (env 40) (env 41) (env 42) H kn kx2 Q) :
    RCode Tryd.prog 92 (codeAt [1, 1, 1, 1, 1, 0, 1, 0, 0] (bodyOf Tryd.f124)) env H (mkK (fun e H => kn (e 1) (e 6) (e 7) (e 40) (e 41) (e 42) H) (inK 2 (fun e H => kx2 (e 1) (e 6) (e 7) H) (fun _ _ _ => False)) (retK T Tryd.f124.results.toList Q) (fun c H => Q (.panicked c) H)) :=
  RCode.leaf_ (T := T) (X := ext) (hint := hint124) tok xok mixed (by kernel_rfl) h
theorem L124_13_round (x1 x6 x7 x40 x41 x42 : Value) (H : Heap) (kn : K3T) (Q : QT) (h : m124_14 x1 x6 x7 x40 x41 x42 H (fun y1 y6 y7 y40 y41 y42 H => L124_13 y1 y6 y7 y40 y41 y42 H kn Q) kn Q) : L124_13 x1 x6 x7 x40 x41 x42 H kn Q := by
  intro env h1 h6 h7 h40 h41 h42
  subst h1; subst h6; subst h7; subst h40; subst h41; subst h42
  exact RLoop.round ((c124_14 env H (fun y1 y6 y7 y40 y41 y42 H => L124_13 y1 y6 y7 y40 y41 y42 H kn Q) kn Q h).mono (mkK_mono (fun e H h => h e rfl rfl rfl rfl rfl rfl) (fun _ _ _ h => h) (fun _ _ h => h) (fun _ _ h => h)))
def m124_12 (x0 x1 x6 x7 : Value) (H : Heap) (kn : K3T) (Q : QT) : Prop :=
oV (vLen x0) fun t41_49 =>
L124_13 x1 x6 x7 x0 t41_49 (.int .i64 0) H kn Q
theorem c124_12 (env : Env) (H : Heap) (kn : K3T) (Q : QT) (h : m124_12 (env 0) (env 1) (env 6) (env 7) H kn Q) :
    RCode Tryd.prog 92 (codeAt [1, 1, 1, 1, 1, 0] (bodyOf Tryd.f124)) env H (mkK (fun e H => kn (e 1) (e 6) (e 7) H) (fun _ _ _ => False) (retK T Tryd.f124.results.toList Q) (fun c H => Q (.panicked c) H)) :=
  RCode.prefix_ (T := T) (X := ext) (hint := hint124) (hole := (fun e H => L124_13 (e 1) (e 6) (e 7) (e 40) (e 41) (e 42) H kn Q)) tok xok mixed 1 (by kernel_rfl) (by kernel_rfl : codeAt _ _ = (codeAt [1, 1, 1, 1, 1, 0, 1] (bodyOf Tryd.f124))) h
    (fun e H h => (cL124_13 e H kn Q h))
def m124_1 (x0 x1 x6 x7 : Value) (H : Heap) (Q : QT) : Prop :=
m124_12 x0 x1 x6 x7 H (fun y1_50 y6_51 y7_52 H_53 => m124_2 y1_50 y6_51 y7_52 H_53 Q) Q
theorem c124_1 (env : Env) (H : Heap) (Q : QT) (h : m124_1 (env 0) (env 1) (env 6) (env 7) H Q) :
    RCode Tryd.prog 92 (codeAt [1, 1, 1, 1, 1] (bodyOf Tryd.f124)) env H (mkK (retK T Tryd.f124.results.toList Q) (fun _ _ _ => False) (retK T Tryd.f124.results.toList Q) (fun c H => Q (.panicked c) H)) :=
  RCode.join (by kernel_rfl : (codeAt [1, 1, 1, 1, 1] (bodyOf Tryd.f124)) = .seq (codeAt [1, 1, 1, 1, 1, 0] (bodyOf Tryd.f124)) (codeAt [1, 1, 1, 1, 1, 1] (bodyOf Tryd.f124))) ((c124_12 env H (fun y1_54 y6_55 y7_56 H_57 => m124_2 y1_54 y6_55 y7_56 H_57 Q) Q h).mono (mkK_mono (fun e H h => c124_2 e H Q h) (fun _ _ _ h => h) (fun _ _ h => h) (fun _ _ h => h)))
def L124_16 (x0 x1 x6 x7 x30 x31 : Value) (H : Heap) (kn : K4T) (Q : QT) : Prop :=
  ∀ env : Env, env 0 = x0 → env 1 = x1 → env 6 = x6 → env 7 = x7 → env 30 = x30 → env 31 = x31 → RLoop Tryd.prog 92 (codeAt [1, 1, 1, 1, 0, 1, 0, 0] (bodyOf Tryd.f124)) env H (mkK (fun _ _ => False) (inK 0 (fun e H => kn (e 0) (e 1) (e 6) (e 7) H) (fun _ _ _ => False)) (retK T Tryd.f124.results.toList Q) (fun c H => Q (.panicked c) H))
theorem cL124_16 (env : Env) (H : Heap) (kn : K4T) (Q : QT) (h : L124_16 (env 0) (env 1) (env 6) (env 7) (env 30) (env 31) H kn Q) :
    RCode Tryd.prog 92 (codeAt [1, 1, 1, 1, 0, 1] (bodyOf Tryd.f124)) env H (mkK (fun e H => kn (e 0) (e 1) (e 6) (e 7) H) (fun _ _ _ => False) (retK T Tryd.f124.results.toList Q) (fun c H => Q (.panicked c) H)) :=
  RCode.blk (by kernel_rfl : (codeAt [1, 1, 1, 1, 0, 1] (bodyOf Tryd.f124)) = .block 0 (codeAt [1, 1, 1, 1, 0, 1, 0] (bodyOf Tryd.f124))) (RCode.lp (by kernel_rfl : (codeAt [1, 1, 1, 1, 0, 1, 0] (bodyOf Tryd.f124)) = .loop (codeAt [1, 1, 1, 1, 0, 1, 0, 0] (bodyOf Tryd.f124))) ((h env rfl rfl rfl rfl rfl rfl).mono (mkK_mono (fun _ _ h => h.elim) (fun _ _ _ h => h) (fun _ _ h => h) (fun _ _ h => h))))
def m124_17 (x0 x1 x6 x7 x30 x31 : Value) (H : Heap) (kn : K6T) (kx0 : K4T) (Q : QT) : Prop :=
oV (vInt .lss x31 x30) fun t32_58 =>
condK t32_58 (
oMake ty22 22 x6 x6 H fun s_59 H_60 =>
oV (vIdxS 1 x7 x31) fun t38_61 =>
oHeap (vStore ty52 t38_61 s_59 H_60) fun H_62 =>
oV (vInt .add x31 (.int .i64 1)) fun t39_63 =>
kn x0 x1 x6 x7 x30 t39_63 H_62) (
kx0 x0 x1 x6 x7 H)
theorem c124_17 (env : Env) (H : Heap) (kn : K6T) (kx0 : K4T) (Q : QT) (h : m124_17 (env 0) (env 1) (env 6) (env 7) (env 30) (env 31) H kn kx0 Q) :
    RCode Tryd.prog 92 (codeAt [1, 1, 1, 1, 0, 1, 0, 0] (bodyOf Tryd.f124)) env H (mkK (fun e H => kn (e 0) (e 1) (e 6) (e 7) (e 30) (e 31) H) (inK 0 (fun e H => kx0 (e 0) (e 1) (e 6) (e 7) H) (fun _ _ _ => False)) (retK T Tryd.f124.results.toList Q) (fun c H => Q (.panicked c) H)) :=
  RCode.leaf_ (T := T) (X := ext) (hint := hint124) tok xok mixed (by kernel_rfl) h
theorem L124_16_round (x0 x1 x6 x7 x30 x31 : Value) (H : Heap) (kn : K4T) (Q : QT) (h : m124_17 x0 x1 x6 x7 x30 x31 H (fun y0 y1 y6 y7 y30 y31 H => L124_16 y0 y1 y6 y7 y30 y31 H kn Q) kn Q) : L124_16 x0 x1 x6 x7 x30 x31 H kn Q := by
  intro env h0 h1 h6 h7 h30 h31
  subst h0; subst h1; subst h6; subst h7; subst h30; subst h31
  exact RLoop.round ((c124_17 env H (fun y0 y1 y6 y7 y30 y31 H => L124_16 y0 y1 y6 y7 y30 y31 H kn Q) kn Q h).mono (mkK_mono (fun e H h => h e rfl rfl rfl rfl rfl rfl) (fun _ _ _ h => h) (fun _ _ h => h) (fun _ _ h => h)))
def m124_15 (x0 x1 x6 x7 : Value) (H : Heap) (kn : K4T) (Q : QT) : Prop :=
oV (vLen x7) fun t30_64 =>
L124_16 x0 x1 x6 x7 t30_64 (.int .i64 0) H kn Q
theorem c124_15 (env : Env) (H : Heap) (kn : K4T) (Q : QT) (h : m124_15 (env 0) (env 1) (env 6) (env 7) H kn Q) :
    RCode Tryd.prog 92 (codeAt [1, 1, 1, 1, 0] (bodyOf Tryd.f124)) env H (mkK (fun e H => kn (e 0) (e 1) (e 6) (e 7) H) (fun _ _ _ => False) (retK T Tryd.f124.results.toList Q) (fun c H => Q (.panicked c) H)) :=
  RCode.prefix_ (T := T) (X := ext) (hint := hint124) (hole := (fun e H => L124_16 (e 0) (e 1) (e 6) (e 7) (e 30) (e 31) H kn Q)) tok xok mixed 1 (by kernel_rfl) (by kernel_rfl : codeAt _ _ = (codeAt [1, 1, 1, 1, 0, 1] (bodyOf Tryd.f124))) h
    (fun e H h => (cL124_16 e H kn Q h))
def m124 (x0 x1 : Value) (H : Heap) (Q : QT) : Prop :=
oV (vLen x0) fun t14_65 =>
oV (vInt .eql t14_65 (.int .i64 0)) fun t16_66 =>
oV (gV t16_66 false (some x1) (some undef)) fun t18_67 =>
oV (gV t16_66 false (vLen t18_67) (some undef)) fun t19_68 =>
oV (gV t16_66 false (some t14_65) (some undef)) fun t20_69 =>
oV (gV t16_66 false (some t14_65) (some undef)) fun t21_70 =>
oV (gV t16_66 false (vInt .sub t21_70 (.int .i64 1)) (some undef)) fun t22_71 =>
oV (gV t16_66 false (vInt .mul t20_69 t22_71) (some undef)) fun t23_72 =>
oV (gV t16_66 false (vInt .quo t23_72 (.int .i64 2)) (some undef)) fun t24_73 =>
oV (gV t16_66 false (vInt .neq t19_68 t24_73) (some undef)) fun t25_74 =>
oV (vPick t16_66 (.bool true) t25_74) fun t26_75 =>
condK t26_75 (
Q (.returned (.tuple #[(.slice none 0 0), (.int .i64 1)])) H) (
oMake ty52 52 t14_65 t14_65 H fun s_76 H_77 =>
m124_15 x0 x1 t14_65 s_76 H_77 (fun y0_78 y1_79 y6_80 y7_81 H_82 => m124_1 y0_78 y1_79 y6_80 y7_81 H_82 Q) Q)
theorem c124_0 (env : Env) (H : Heap) (Q : QT) (h : m124 (env 0) (env 1) H Q) :
    RCode Tryd.prog 92 (bodyOf Tryd.f124) env H (mkK (retK T Tryd.f124.results.toList Q) (fun _ _ _ => False) (retK T Tryd.f124.results.toList Q) (fun c H => Q (.panicked c) H)) :=
  RCode.prefix_ (T := T) (X := ext) (hint := hint124) (hole := (fun e H => m124_15 (e 0) (e 1) (e 6) (e 7) H (fun y0_83 y1_84 y6_85 y7_86 H_87 => m124_1 y0_83 y1_84 y6_85 y7_86 H_87 Q) Q)) tok xok mixed 4 (by kernel_rfl) (by kernel_rfl : codeAt _ _ = (codeAt [1, 1, 1, 1] (bodyOf Tryd.f124))) h
    (fun e H h => RCode.join (by kernel_rfl : (codeAt [1, 1, 1, 1] (bodyOf Tryd.f124)) = .seq (codeAt [1, 1, 1, 1, 0] (bodyOf Tryd.f124)) (codeAt [1, 1, 1, 1, 1] (bodyOf Tryd.f124))) ((c124_15 e H (fun y0_88 y1_89 y6_90 y7_91 H_92 => m124_1 y0_88 y1_89 y6_90 y7_91 H_92 Q) Q h).mono (mkK_mono (fun e H h => c124_1 e H Q h) (fun _ _ _ h => h) (fun _ _ h => h) (fun _ _ h => h))))
theorem call124 (a0 a1 : Value) (H : Heap) (Q : QT) (h : m124 a0 a1 H Q) : RCalls Tryd.prog 124 [a0, a1] H Q :=
  RCalls.intro (nt := 92) tok Tryd.func124 (by kernel_rfl) (by kernel_rfl) (by kernel_rfl) (of_decide_eq_true (by kernel_rfl)) (c124_0 (envOf [a0, a1]) H Q h)
def hint121 : Nat → List Nat := lookupL [(3, [0, 1, 2, 3, 4, 5, 7, 8, 9, 10, 11, 12, 13, 14, 15, 16, 17, 18, 19, 6, 20, 21, 22, 23, 24, 25]), (5, [0, 1, 2, 3, 4, 5, 6, 7, 8, 9, 10, 11, 12, 13, 14, 15, 16, 17, 18])]
def L121_1 (x0 x1 x15 x16 x17 : Value) (H : Heap) (kn : K0T) (Q : QT) : Prop :=
  ∀ env : Env, env 0 = x0 → env 1 = x1 → env 15 = x15 → env 16 = x16 → env 17 = x17 → RLoop Tryd.prog 70 (codeAt [1, 0, 0] (bodyOf Tryd.f121)) env H (mkK (fun _ _ => False) (inK 0 (fun e H => kn H) (fun _ _ _ => False)) (retK T Tryd.f121.results.toList Q) (fun c H => Q (.panicked c) H))
theorem cL121_1 (env : Env) (H : Heap) (kn : K0T) (Q : QT) (h : L121_1 (env 0) (env 1) (env 15) (env 16) (env 17) H kn Q) :
    RCode Tryd.prog 70 (codeAt [1] (bodyOf Tryd.f121)) env H (mkK (fun e H => kn H) (fun _ _ _ => False) (retK T Tryd.f121.results.toList Q) (fun c H => Q (.panicked c) H)) :=
  RCode.blk (by kernel_rfl : (codeAt [1] (bodyOf Tryd.f121)) = .block 0 (codeAt [1, 0] (bodyOf Tryd.f121))) (RCode.lp (by kernel_rfl : (codeAt [1, 0] (bodyOf Tryd.f121)) = .loop (codeAt [1, 0, 0] (bodyOf Tryd.f121))) ((h env rfl rfl rfl rfl rfl).mono (mkK_mono (fun _ _ h => h.elim) (fun _ _ _ h => h) (fun _ _ h => h) (fun _ _ h => h))))
def m121_2 (x0 x1 x15 x16 x17 : Value) (H : Heap) (kn : K5T) (kx0 : K0T) (Q : QT) : Prop :=
oV (vInt .lss x17 x16) fun t18_1 =>
condK t18_1 (
oV (vIdxS 1 x15 x17) fun t19_2 =>
oV (vLoad ty52 t19_2 H) fun t20_3 =>
oV (vLoad ty150 x1 H) fun t22_4 =>
oV (vNil t22_4) fun t23_5 =>
oV (vField 0 t23_5) fun t24_6 =>
oV (vLoad ty35 t24_6 H) fun t25_7 =>
oV (vInt .add x0 (.int .i64 1)) fun t27_8 =>
oV (vLoad ty150 x1 H) fun t29_9 =>
oV (vNil t29_9) fun t30_10 =>
oV (vField 1 t30_10) fun t31_11 =>
oV (vField 2 t31_11) fun t32_12 =>
oV (vLoad ty3 t32_12 H) fun t33_13 =>
oV (vLoad ty150 x1 H) fun t34_14 =>
oV (vNil t34_14) fun t35_15 =>
oV (vField 1 t35_15) fun t36_16 =>
oV (vField 2 t36_16) fun t37_17 =>
oV (vLoad ty3 t37_17 H) fun t38_18 =>
oV (vInt .add t38_18 (.int .i64 1)) fun t39_19 =>
oV (vInt .mul t33_13 t39_19) fun t40_20 =>
oV (vInt .quo t40_20 (.int .i64 2)) fun t41_21 =>
oRC Tryd.prog 122 [t25_7, t27_8] H noP fun v_22 H_23 =>
(vLoad ty3 t37_17 H_23 = some t38_18 ∧
(vLoad ty150 x1 H_23 = some t34_14 ∧
(vLoad ty3 t32_12 H_23 = some t33_13 ∧
(vLoad ty150 x1 H_23 = some t29_9 ∧
oRC Tryd.prog 123 [v_22, t41_21] H_23 noP fun v_24 H_25 =>
oV (vExtract v_24 0) fun t43_26 =>
oV (vExtract v_24 1) fun t44_27 =>
oRC Tryd.prog 124 [t20_3, t43_26] H_25 (fun c H => Q (.panicked c) H) fun v_28 H_29 =>
oV (vExtract v_28 0) fun t49_30 =>
oV (vExtract v_28 1) fun t50_31 =>
oV (vLoad ty150 x1 H_29) fun t51_32 =>
oV (vNil t51_32) fun t52_33 =>
oV (vField 5 t52_33) fun t53_34 =>
oV (vField 0 t53_34) fun t54_35 =>
oV (vLoad ty69 t54_35 H_29) fun t55_36 =>
oV (vLoad ty150 x1 H_29) fun t57_37 =>
oV (vNil t57_37) fun t58_38 =>
oV (vField 5 t58_38) fun t59_39 =>
oV (vField 0 t59_39) fun t60_40 =>
oV (vLoad ty69 t60_40 H_29) fun t61_41 =>
oV (vIdxS 1 t61_41 x0) fun t63_42 =>
oV (vLoad ty44 t63_42 H_29) fun t64_43 =>
oBuildS ty27 27 1 [((0, 1), t49_30)] H_29 fun s_44 H_45 =>
oAppend ty27 27 t64_43 s_44 H_45 fun v_46 H_47 =>
(vLoad ty69 t54_35 H_47 = some t55_36 ∧
(vLoad ty150 x1 H_47 = some t51_32 ∧
oV (vIdxS 1 t55_36 x0) fun t68_48 =>
oHeap (vStore ty44 t68_48 v_46 H_47) fun H_49 =>
oV (vInt .add x17 (.int .i64 1)) fun t69_50 =>
kn x0 x1 x15 x16 t69_50 H_49))))))) (
kx0 H)
theorem c121_2 (env : Env) (H : Heap) (kn : K5T) (kx0 : K0T) (Q : QT) (h : m121_2 (env 0) (env 1) (env 15) (env 16) (env 17) H kn kx0 Q) :
    RCode Tryd.prog 70 (codeAt [1, 0, 0] (bodyOf Tryd.f121)) env H (mkK (fun e H => kn (e 0) (e 1) (e 15) (e 16) (e 17) H) (inK 0 (fun e H => kx0 H) (fun _ _ _ => False)) (retK T Tryd.f121.results.toList Q) (fun c H => Q (.panicked c) H)) :=
  RCode.leaf_ (T := T) (X := ext) (hint := hint121) tok xok mixed (by kernel_rfl) h
theorem L121_1_round (x0 x1 x15 x16 x17 : Value) (H : Heap) (kn : K0T) (Q : QT) (h : m121_2 x0 x1 x15 x16 x17 H (fun y0 y1 y15 y16 y17 H => L121_1 y0 y1 y15 y16 y17 H kn Q) kn Q) : L121_1 x0 x1 x15 x16 x17 H kn Q := by
  intro env h0 h1 h15 h16 h17
  subst h0; subst h1; subst h15; subst h16; subst h17
  exact RLoop.round ((c121_2 env H (fun y0 y1 y15 y16 y17 H => L121_1 y0 y1 y15 y16 y17 H kn Q) kn Q h).mono (mkK_mono (fun e H h => h e rfl rfl rfl rfl rfl) (fun _ _ _ h => h) (fun _ _ h => h) (fun _ _ h => h)))
def m121 (x0 x1 : Value) (H : Heap) (Q : QT) : Prop :=
oV (vLoad ty150 x1 H) fun t9_51 =>
oV (vNil t9_51) fun t10_52 =>
oV (vField 4 t10_52) fun t11_53 =>
oV (vLoad ty44 t11_53 H) fun t12_54 =>
oV (vIdxS 1 t12_54 x0) fun t14_55 =>
oV (vLoad ty27 t14_55 H) fun t15_56 =>
oV (vLen t15_56) fun t16_57 =>
L121_1 x0 x1 t15_56 t16_57 (.int .i64 0) H (fun H_58 => Q (.returned (.tuple #[])) H_58) Q
theorem c121_0 (env : Env) (H : Heap) (Q : QT) (h : m121 (env 0) (env 1) H Q) :
    RCode Tryd.prog 70 (bodyOf Tryd.f121) env H (mkK (retK T Tryd.f121.results.toList Q) (fun _ _ _ => False) (retK T Tryd.f121.results.toList Q) (fun c H => Q (.panicked c) H)) :=
  RCode.prefix_ (T := T) (X := ext) (hint := hint121) (hole := (fun e H => L121_1 (e 0) (e 1) (e 15) (e 16) (e 17) H (fun H_59 => Q (.returned (.tuple #[])) H_59) Q)) tok xok mixed 1 (by kernel_rfl) (by kernel_rfl : codeAt _ _ = (codeAt [1] (bodyOf Tryd.f121))) h
    (fun e H h => ((cL121_1 e H (fun H_60 => Q (.returned (.tuple #[])) H_60) Q h).mono (mkK_mono (fun e H h => h) (fun _ _ _ h => h) (fun _ _ h => h) (fun _ _ h => h))))
theorem call121 (a0 a1 : Value) (H : Heap) (Q : QT) (h : m121 a0 a1 H Q) : RCalls Tryd.prog 121 [a0, a1] H Q :=
  RCalls.intro (nt := 70) tok Tryd.func121 (by kernel_rfl) (by kernel_rfl) (by kernel_rfl) (of_decide_eq_true (by kernel_rfl)) (c121_0 (envOf [a0, a1]) H Q h)
def hint120 : Nat → List Nat := lookupL []
def L120_1 (x1 x9 x10 : Value) (H : Heap) (kn : K0T) (Q : QT) : Prop :=
  ∀ env : Env, env 1 = x1 → env 9 = x9 → env 10 = x10 → RLoop Tryd.prog 17 (codeAt [1, 0, 0] (bodyOf Tryd.f120)) env H (mkK (fun _ _ => False) (inK 0 (fun e H => kn H) (fun _ _ _ => False)) (retK T Tryd.f120.results.toList Q) (fun c H => Q (.panicked c) H))
theorem cL120_1 (env : Env) (H : Heap) (kn : K0T) (Q : QT) (h : L120_1 (env 1) (env 9) (env 10) H kn Q) :
    RCode Tryd.prog 17 (codeAt [1] (bodyOf Tryd.f120)) env H (mkK (fun e H => kn H) (fun _ _ _ => False) (retK T Tryd.f120.results.toList Q) (fun c H => Q (.panicked c) H)) :=
  RCode.blk (by kernel_rfl : (codeAt [1] (bodyOf Tryd.f120)) = .block 0 (codeAt [1, 0] (bodyOf Tryd.f120))) (RCode.lp (by kernel_rfl : (codeAt [1, 0] (bodyOf Tryd.f120)) = .loop (codeAt [1, 0, 0] (bodyOf Tryd.f120))) ((h env rfl rfl rfl).mono (mkK_mono (fun _ _ h => h.elim) (fun _ _ _ h => h) (fun _ _ h => h) (fun _ _ h => h))))
def m120_2 (x1 x9 x10 : Value) (H : Heap) (kn : K3T) (kx0 : K0T) (Q : QT) : Prop :=
oV (vInt .lss x10 x9) fun t11_1 =>
condK t11_1 (
oCl ext Tryd.prog x1 [x10] H (fun c H => Q (.panicked c) H) fun v_2 H_3 =>
oV (vInt .add x10 (.int .i64 1)) fun t16_4 =>
kn x1 x9 t16_4 H_3) (
kx0 H)
theorem c120_2 (env : Env) (H : Heap) (kn : K3T) (kx0 : K0T) (Q : QT) (h : m120_2 (env 1) (env 9) (env 10) H kn kx0 Q) :
    RCode Tryd.prog 17 (codeAt [1, 0, 0] (bodyOf Tryd.f120)) env H (mkK (fun e H => kn (e 1) (e 9) (e 10) H) (inK 0 (fun e H => kx0 H) (fun _ _ _ => False)) (retK T Tryd.f120.results.toList Q) (fun c H => Q (.panicked c) H)) :=
  RCode.leaf_ (T := T) (X := ext) (hint := hint120) tok xok mixed (by kernel_rfl) h
theorem L120_1_round (x1 x9 x10 : Value) (H : Heap) (kn : K0T) (Q : QT) (h : m120_2 x1 x9 x10 H (fun y1 y9 y10 H => L120_1 y1 y9 y10 H kn Q) kn Q) : L120_1 x1 x9 x10 H kn Q := by
  intro env h1 h9 h10
  subst h1; subst h9; subst h10
  exact RLoop.round ((c120_2 env H (fun y1 y9 y10 H => L120_1 y1 y9 y10 H kn Q) kn Q h).mono (mkK_mono (fun e H h => h e rfl rfl rfl) (fun _ _ _ h => h) (fun _ _ h => h) (fun _ _ h => h)))
def m120 (x0 x1 : Value) (H : Heap) (Q : QT) : Prop :=
oV (vNil x0) fun t6_5 =>
oV (vField 1 t6_5) fun t7_6 =>
oV (vField 1 t7_6) fun t8_7 =>
oV (vLoad ty3 t8_7 H) fun t9_8 =>
L120_1 x1 t9_8 (.int .i64 0) H (fun H_9 => Q (.returned (.tuple #[])) H_9) Q
theorem c120_0 (env : Env) (H : Heap) (Q : QT) (h : m120 (env 0) (env 1) H Q) :
    RCode Tryd.prog 17 (bodyOf Tryd.f120) env H (mkK (retK T Tryd.f120.results.toList Q) (fun _ _ _ => False) (retK T Tryd.f120.results.toList Q) (fun c H => Q (.panicked c) H)) :=
  RCode.prefix_ (T := T) (X := ext) (hint := hint120) (hole := (fun e H => L120_1 (e 1) (e 9) (e 10) H (fun H_10 => Q (.returned (.tuple #[])) H_10) Q)) tok xok mixed 1 (by kernel_rfl) (by kernel_rfl : codeAt _ _ = (codeAt [1] (bodyOf Tryd.f120))) h
    (fun e H h => ((cL120_1 e H (fun H_11 => Q (.returned (.tuple #[])) H_11) Q h).mono (mkK_mono (fun e H h => h) (fun _ _ _ h => h) (fun _ _ h => h) (fun _ _ h => h))))
theorem call120 (a0 a1 : Value) (H : Heap) (Q : QT) (h : m120 a0 a1 H Q) : RCalls Tryd.prog 120 [a0, a1] H Q :=
  RCalls.intro (nt := 17) tok Tryd.func120 (by kernel_rfl) (by kernel_rfl) (by kernel_rfl) (of_decide_eq_true (by kernel_rfl)) (c120_0 (envOf [a0, a1]) H Q h)
def hint103 : Nat → List Nat := lookupL []
def m103 (x0 : Value) (H : Heap) (Q : QT) : Prop :=
oNew (Value.cells x0).toList (Value.cells x0).toList.length 150 H fun i_1 H_2 =>
oV (vLoad ty150 (ptrTo i_1) H_2) fun t2_3 =>
oRC Tryd.prog 120 [t2_3, (.func (.func 121) #[] #[(ptrTo i_1)])] H_2 (fun c H => Q (.panicked c) H) fun v_4 H_5 =>
Q (.returned (.tuple #[])) H_5
theorem c103_0 (env : Env) (H : Heap) (Q : QT) (h : m103 (env 0) H Q) :
    RCode Tryd.prog 5 (bodyOf Tryd.f103) env H (mkK (retK T Tryd.f103.results.toList Q) (fun _ _ _ => False) (retK T Tryd.f103.results.toList Q) (fun c H => Q (.panicked c) H)) :=
  RCode.leaf_ (T := T) (X := ext) (hint := hint103) tok xok mixed (by kernel_rfl) h
theorem call103 (a0 : Value) (H : Heap) (Q : QT) (h : m103 a0 H Q) : RCalls Tryd.prog 103 [a0] H Q :=
  RCalls.intro (nt := 5) tok Tryd.func103 (by kernel_rfl) (by kernel_rfl) (by kernel_rfl) (of_decide_eq_true (by kernel_rfl)) (c103_0 (envOf [a0]) H Q h)
def hint126 : Nat → List Nat := lookupL [(9, [0, 1, 2, 3, 4, 5, 6, 7, 8, 9, 10, 11, 12, 13])]
def m126_1 (x7 : Value) (H : Heap) (Q : QT) : Prop :=
Q (.returned x7) H
theorem c126_1 (env : Env) (H : Heap) (Q : QT) (h : m126_1 (env 7) H Q) :
    RCode Tryd.prog 49 (codeAt [1, 1, 1, 1] (bodyOf Tryd.f126)) env H (mkK (retK T Tryd.f126.results.toList Q) (fun _ _ _ => False) (retK T Tryd.f126.results.toList Q) (fun c H => Q (.panicked c) H)) :=
  RCode.leaf_ (T := T) (X := ext) (hint := hint126) tok xok mixed (by kernel_rfl) h
def L126_3 (x0 x2 x7 x8 x16 x17 x18 : Value) (H : Heap) (kn : K1T) (Q : QT) : Prop :=
  ∀ env : Env, env 0 = x0 → env 2 = x2 → env 7 = x7 → env 8 = x8 → env 16 = x16 → env 17 = x17 → env 18 = x18 → RLoop Tryd.prog 49 (codeAt [1, 1, 1, 0, 1, 0, 0] (bodyOf Tryd.f126)) env H (mkK (fun _ _ => False) (inK 0 (fun e H => kn (e 7) H) (fun _ _ _ => False)) (retK T Tryd.f126.results.toList Q) (fun c H => Q (.panicked c) H))
theorem cL126_3 (env : Env) (H : Heap) (kn : K1T) (Q : QT) (h : L126_3 (env 0) (env 2) (env 7) (env 8) (env 16) (env 17) (env 18) H kn Q) :
    RCode Tryd.prog 49 (codeAt [1, 1, 1, 0, 1] (bodyOf Tryd.f126)) env H (mkK (fun e H => kn (e 7) H) (fun _ _ _ => False) (retK T Tryd.f126.results.toList Q) (fun c H => Q (.panicked c) H)) :=
  RCode.blk (by kernel_rfl : (codeAt [1, 1, 1, 0, 1] (bodyOf Tryd.f126)) = .block 0 (codeAt [1, 1, 1, 0, 1, 0] (bodyOf Tryd.f126))) (RCode.lp (by kernel_rfl : (codeAt [1, 1, 1, 0, 1, 0] (bodyOf Tryd.f126)) = .loop (codeAt [1, 1, 1, 0, 1, 0, 0] (bodyOf Tryd.f126))) ((h env rfl rfl rfl rfl rfl rfl rfl).mono (mkK_mono (fun _ _ h => h.elim) (fun _ _ _ h => h) (fun _ _ h => h) (fun _ _ h => h))))
def m126_5 (x0 x2 x7 x8 x16 x17 x18 : Value) (H : Heap) (kn : K7T) (kx0 : K1T) (Q : QT) : Prop :=
oV (vInt .add x18 (.int .i64 1)) fun t47_1 =>
kn x0 x2 x7 x8 x16 x17 t47_1 H
theorem c126_5 (env : Env) (H : Heap) (kn : K7T) (kx0 : K1T) (Q : QT) (h : m126_5 (env 0) (env 2) (env 7) (env 8) (env 16) (env 17) (env 18) H kn kx0 Q) :
    RCode Tryd.prog 49 (codeAt [1, 1, 1, 0, 1, 0, 0, 1, 1, 1] (bodyOf Tryd.f126)) env H (mkK (fun e H => kn (e 0) (e 2) (e 7) (e 8) (e 16) (e 17) (e 18) H) (inK 0 (fun e H => kx0 (e 7) H) (fun _ _ _ => False)) (retK T Tryd.f126.results.toList Q) (fun c H => Q (.panicked c) H)) :=
  RCode.leaf_ (T := T) (X := ext) (hint := hint126) tok xok mixed (by kernel_rfl) h
def m126_8 (x0 x2 x7 x8 x16 x17 x18 : Value) (H : Heap) (kn : K7T) (kx1 : K7T) (kx0 : K1T) (Q : QT) : Prop :=
oRC Tryd.prog 139 [x0, x8, x2] H (fun c H => Q (.panicked c) H) fun v_2 H_3 =>
kn x0 x2 x7 v_2 x16 x17 x18 H_3
theorem c126_8 (env : Env) (H : Heap) (kn : K7T) (kx1 : K7T) (kx0 : K1T) (Q : QT) (h : m126_8 (env 0) (env 2) (env 7) (env 8) (env 16) (env 17) (env 18) H kn kx1 kx0 Q) :
    RCode Tryd.prog 49 (codeAt [1, 1, 1, 0, 1, 0, 0, 1, 1, 0, 0, 1, 1] (bodyOf Tryd.f126)) env H (mkK (fun e H => kn (e 0) (e 2) (e 7) (e 8) (e 16) (e 17) (e 18) H) (inK 1 (fun e H => kx1 (e 0) (e 2) (e 7) (e 8) (e 16) (e 17) (e 18) H) (inK 0 (fun e H => kx0 (e 7) H) (fun _ _ _ => False))) (retK T Tryd.f126.results.toList Q) (fun c H => Q (.panicked c) H)) :=
  RCode.leaf_ (T := T) (X := ext) (hint := hint126) tok xok mixed (by kernel_rfl) h
def L126_10 (x0 x2 x7 x8 x16 x17 x18 x22 x23 x24 : Value) (H : Heap) (kn : K7T) (kx1 : K7T) (kx0 : K1T) (Q : QT) : Prop :=
  ∀ env : Env, env 0 = x0 → env 2 = x2 → env 7 = x7 → env 8 = x8 → env 16 = x16 → env 17 = x17 → env 18 = x18 → env 22 = x22 → env 23 = x23 → env 24 = x24 → RLoop Tryd.prog 49 (codeAt [1, 1, 1, 0, 1, 0, 0, 1, 1, 0, 0, 1, 0, 1, 0, 0] (bodyOf Tryd.f126)) env H (mkK (fun _ _ => False) (inK 2 (fun e H => kn (e 0) (e 2) (e 7) (e 8) (e 16) (e 17) (e 18) H) (inK 1 (fun e H => kx1 (e 0) (e 2) (e 7) (e 8) (e 16) (e 17) (e 18) H) (inK 0 (fun e H => kx0 (e 7) H) (fun _ _ _ => False)))) (retK T Tryd.f126.results.toList Q) (fun c H => Q (.panicked c) H))
theorem cL126_10 (env : Env) (H : Heap) (kn : K7T) (kx1 : K7T) (kx0 : K1T) (Q : QT) (h : L126_10 (env 0) (env 2) (env 7) (env 8) (env 16) (env 17) (env 18) (env 22) (env 23) (env 24) H kn kx1 kx0 Q) :
    RCode Tryd.prog 49 (codeAt [1, 1, 1, 0, 1, 0, 0, 1, 1, 0, 0, 1, 0, 1] (bodyOf Tryd.f126)) env H (mkK (fun e H => kn (e 0) (e 2) (e 7) (e 8) (e 16) (e 17) (e 18) H) (inK 1 (fun e H => kx1 (e 0) (e 2) (e 7) (e 8) (e 16) (e 17) (e 18) H) (inK 0 (fun e H => kx0 (e 7) H) (fun _ _ _ => False))) (retK T Tryd.f126.results.toList Q) (fun c H => Q (.panicked c) H)) :=
  RCode.blk (by kernel_rfl : (codeAt [1, 1, 1, 0, 1, 0, 0, 1, 1, 0, 0, 1, 0, 1] (bodyOf Tryd.f126)) = .block 2 (codeAt [1, 1, 1, 0, 1, 0, 0, 1, 1, 0, 0, 1, 0, 1, 0] (bodyOf Tryd.f126))) (RCode.lp (by kernel_rfl : (codeAt [1, 1, 1, 0, 1, 0, 0, 1, 1, 0, 0, 1, 0, 1, 0] (bodyOf Tryd.f126)) = .loop (codeAt [1, 1, 1, 0, 1, 0, 0, 1, 1, 0, 0, 1, 0, 1, 0, 0] (bodyOf Tryd.f126))) ((h env rfl rfl rfl rfl rfl rfl rfl rfl rfl rfl).mono (mkK_mono (fun _ _ h => h.elim) (fun _ _ _ h => h) (fun _ _ h => h) (fun _ _ h => h))))
def m126_11 (x0 x2 x7 x8 x16 x17 x18 x22 x23 x24 : Value) (H : Heap) (kn : K10T) (kx2 : K7T) (kx1 : K7T) (kx0 : K1T) (Q : QT) : Prop :=
oV (vInt .lss x24 x23) fun t25_4 =>
condK t25_4 (
oV (vIdxS 1 x22 x24) fun t27_5 =>
oV (vLoad ty22 t27_5 H) fun t28_6 =>
oV (vIdxS 1 x7 x24) fun t34_7 =>
oV (vLoad ty22 t34_7 H) fun t35_8 =>
oRC Tryd.prog 139 [x0, t28_6, x8] H noP fun v_9 H_10 =>
(vLoad ty22 t34_7 H_10 = some t35_8 ∧
oRC Tryd.prog 137 [x0, t35_8, v_9] H_10 noP fun v_11 H_12 =>
oV (vIdxS 1 x7 x24) fun t41_13 =>
oHeap (vStore ty22 t41_13 v_11 H_12) fun H_14 =>
oV (vInt .add x24 (.int .i64 1)) fun t42_15 =>
kn x0 x2 x7 x8 x16 x17 x18 x22 x23 t42_15 H_14)) (
kx2 x0 x2 x7 x8 x16 x17 x18 H)
theorem c126_11 (env : Env) (H : Heap) (kn : K10T) (kx2 : K7T) (kx1 : K7T) (kx0 : K1T) (Q : QT) (h : m126_11 (env 0) (env 2) (env 7) (env 8) (env 16) (env 17) (env 18) (env 22) (env 23) (env 24) H kn kx2 kx1 kx0 Q) :
    RCode Tryd.prog 49 (codeAt [1, 1, 1, 0, 1, 0, 0, 1, 1, 0, 0, 1, 0, 1, 0, 0] (bodyOf Tryd.f126)) env H (mkK (fun e H => kn (e 0) (e 2) (e 7) (e 8) (e 16) (e 17) (e 18) (e 22) (e 23) (e 24) H) (inK 2 (fun e H => kx2 (e 0) (e 2) (e 7) (e 8) (e 16) (e 17) (e 18) H) (inK 1 (fun e H => kx1 (e 0) (e 2) (e 7) (e 8) (e 16) (e 17) (e 18) H) (inK 0 (fun e H => kx0 (e 7) H) (fun _ _ _ => False)))) (retK T Tryd.f126.results.toList Q) (fun c H => Q (.panicked c) H)) :=
  RCode.leaf_ (T := T) (X := ext) (hint := hint126) tok xok mixed (by kernel_rfl) h
theorem L126_10_round (x0 x2 x7 x8 x16 x17 x18 x22 x23 x24 : Value) (H : Heap) (kn : K7T) (kx1 : K7T) (kx0 : K1T) (Q : QT) (h : m126_11 x0 x2 x7 x8 x16 x17 x18 x22 x23 x24 H (fun y0 y2 y7 y8 y16 y17 y18 y22 y23 y24 H => L126_10 y0 y2 y7 y8 y16 y17 y18 y22 y23 y24 H kn kx1 kx0 Q) kn kx1 kx0 Q) : L126_10 x0 x2 x7 x8 x16 x17 x18 x22 x23 x24 H kn kx1 kx0 Q := by
  intro env h0 h2 h7 h8 h16 h17 h18 h22 h23 h24
  subst h0; subst h2; subst h7; subst h8; subst h16; subst h17; subst h18; subst h22; subst h23; subst h24
  exact RLoop.round ((c126_11 env H (fun y0 y2 y7 y8 y16 y17 y18 y22 y23 y24 H => L126_10 y0 y2 y7 y8 y16 y17 y18 y22 y23 y24 H kn kx1 kx0 Q) kn kx1 kx0 Q h).mono (mkK_mono (fun e H h => h e rfl rfl rfl rfl rfl rfl rfl rfl rfl rfl) (fun _ _ _ h => h) (fun _ _ h => h) (fun _ _ h => h)))
def m126_9 (x0 x2 x7 x8 x10 x16 x17 x18 : Value) (H : Heap) (kn : K7T) (kx1 : K7T) (kx0 : K1T) (Q : QT) : Prop :=
oV (vLen x10) fun t23_16 =>
L126_10 x0 x2 x7 x8 x16 x17 x18 x10 t23_16 (.int .i64 0) H kn kx1 kx0 Q
theorem c126_9 (env : Env) (H : Heap) (kn : K7T) (kx1 : K7T) (kx0 : K1T) (Q : QT) (h : m126_9 (env 0) (env 2) (env 7) (env 8) (env 10) (env 16) (env 17) (env 18) H kn kx1 kx0 Q) :
    RCode Tryd.prog 49 (codeAt [1, 1, 1, 0, 1, 0, 0, 1, 1, 0, 0, 1, 0] (bodyOf Tryd.f126)) env H (mkK (fun e H => kn (e 0) (e 2) (e 7) (e 8) (e 16) (e 17) (e 18) H) (inK 1 (fun e H => kx1 (e 0) (e 2) (e 7) (e 8) (e 16) (e 17) (e 18) H) (inK 0 (fun e H => kx0 (e 7) H) (fun _ _ _ => False))) (retK T Tryd.f126.results.toList Q) (fun c H => Q (.panicked c) H)) :=
  RCode.prefix_ (T := T) (X := ext) (hint := hint126) (hole := (fun e H => L126_10 (e 0) (e 2) (e 7) (e 8) (e 16) (e 17) (e 18) (e 22) (e 23) (e 24) H kn kx1 kx0 Q)) tok xok mixed 1 (by kernel_rfl) (by kernel_rfl : codeAt _ _ = (codeAt [1, 1, 1, 0, 1, 0, 0, 1, 1, 0, 0, 1, 0, 1] (bodyOf Tryd.f126))) h
    (fun e H h => (cL126_10 e H kn kx1 kx0 Q h))
def m126_7 (x0 x2 x7 x8 x16 x17 x18 : Value) (H : Heap) (kn : K7T) (kx1 : K7T) (kx0 : K1T) (Q : QT) : Prop :=
oV (vIdxS 1 x16 x18) fun t20_17 =>
oV (vLoad ty52 t20_17 H) fun t21_18 =>
m126_9 x0 x2 x7 x8 t21_18 x16 x17 x18 H (fun y0_19 y2_20 y7_21 y8_22 y16_23 y17_24 y18_25 H_26 => m126_8 y0_19 y2_20 y7_21 y8_22 y16_23 y17_24 y18_25 H_26 kn kx1 kx0 Q) kx1 kx0 Q
theorem c126_7 (env : Env) (H : Heap) (kn : K7T) (kx1 : K7T) (kx0 : K1T) (Q : QT) (h : m126_7 (env 0) (env 2) (env 7) (env 8) (env 16) (env 17) (env 18) H kn kx1 kx0 Q) :
    RCode Tryd.prog 49 (codeAt [1, 1, 1, 0, 1, 0, 0, 1, 1, 0, 0] (bodyOf Tryd.f126)) env H (mkK (fun e H => kn (e 0) (e 2) (e 7) (e 8) (e 16) (e 17) (e 18) H) (inK 1 (fun e H => kx1 (e 0) (e 2) (e 7) (e 8) (e 16) (e 17) (e 18) H) (inK 0 (fun e H => kx0 (e 7) H) (fun _ _ _ => False))) (retK T Tryd.f126.results.toList Q) (fun c H => Q (.panicked c) H)) :=
  RCode.prefix_ (T := T) (X := ext) (hint := hint126) (hole := (fun e H => m126_9 (e 0) (e 2) (e 7) (e 8) (e 10) (e 16) (e 17) (e 18) H (fun y0_27 y2_28 y7_29 y8_30 y16_31 y17_32 y18_33 H_34 => m126_8 y0_27 y2_28 y7_29 y8_30 y16_31 y17_32 y18_33 H_34 kn kx1 kx0 Q) kx1 kx0 Q)) tok xok mixed 1 (by kernel_rfl) (by kernel_rfl : codeAt _ _ = (codeAt [1, 1, 1, 0, 1, 0, 0, 1, 1, 0, 0, 1] (bodyOf Tryd.f126))) h
    (fun e H h => RCode.join (by kernel_rfl : (codeAt [1, 1, 1, 0, 1, 0, 0, 1, 1, 0, 0, 1] (bodyOf Tryd.f126)) = .seq (codeAt [1, 1, 1, 0, 1, 0, 0, 1, 1, 0, 0, 1, 0] (bodyOf Tryd.f126)) (codeAt [1, 1, 1, 0, 1, 0, 0, 1, 1, 0, 0, 1, 1] (bodyOf Tryd.f126))) ((c126_9 e H (fun y0_35 y2_36 y7_37 y8_38 y16_39 y17_40 y18_41 H_42 => m126_8 y0_35 y2_36 y7_37 y8_38 y16_39 y17_40 y18_41 H_42 kn kx1 kx0 Q) kx1 kx0 Q h).mono (mkK_mono (fun e H h => c126_8 e H kn kx1 kx0 Q h) (fun _ _ _ h => h) (fun _ _ h => h) (fun _ _ h => h))))
def m126_6 (x0 x2 x7 x8 x16 x17 x18 : Value) (H : Heap) (kn : K7T) (kx0 : K1T) (Q : QT) : Prop :=
m126_7 x0 x2 x7 x8 x16 x17 x18 H kn kn kx0 Q
theorem c126_6 (env : Env) (H : Heap) (kn : K7T) (kx0 : K1T) (Q : QT) (h : m126_6 (env 0) (env 2) (env 7) (env 8) (env 16) (env 17) (env 18) H kn kx0 Q) :
    RCode Tryd.prog 49 (codeAt [1, 1, 1, 0, 1, 0, 0, 1, 1, 0] (bodyOf Tryd.f126)) env H (mkK (fun e H => kn (e 0) (e 2) (e 7) (e 8) (e 16) (e 17) (e 18) H) (inK 0 (fun e H => kx0 (e 7) H) (fun _ _ _ => False)) (retK T Tryd.f126.results.toList Q) (fun c H => Q (.panicked c) H)) :=
  RCode.blk (by kernel_rfl : (codeAt [1, 1, 1, 0, 1, 0, 0, 1, 1, 0] (bodyOf Tryd.f126)) = .block 1 (codeAt [1, 1, 1, 0, 1, 0, 0, 1, 1, 0, 0] (bodyOf Tryd.f126))) (c126_7 env H kn kn kx0 Q h)
def m126_4 (x0 x2 x7 x8 x16 x17 x18 : Value) (H : Heap) (kn : K7T) (kx0 : K1T) (Q : QT) : Prop :=
oV (vInt .lss x18 x17) fun t19_43 =>
condK t19_43 (
m126_6 x0 x2 x7 x8 x16 x17 x18 H (fun y0_44 y2_45 y7_46 y8_47 y16_48 y17_49 y18_50 H_51 => m126_5 y0_44 y2_45 y7_46 y8_47 y16_48 y17_49 y18_50 H_51 kn kx0 Q) kx0 Q) (
kx0 x7 H)
theorem c126_4 (env : Env) (H : Heap) (kn : K7T) (kx0 : K1T) (Q : QT) (h : m126_4 (env 0) (env 2) (env 7) (env 8) (env 16) (env 17) (env 18) H kn kx0 Q) :
    RCode Tryd.prog 49 (codeAt [1, 1, 1, 0, 1, 0, 0] (bodyOf Tryd.f126)) env H (mkK (fun e H => kn (e 0) (e 2) (e 7) (e 8) (e 16) (e 17) (e 18) H) (inK 0 (fun e H => kx0 (e 7) H) (fun _ _ _ => False)) (retK T Tryd.f126.results.toList Q) (fun c H => Q (.panicked c) H)) :=
  RCode.prefix_ (T := T) (X := ext) (hint := hint126) (hole := (fun e H => m126_6 (e 0) (e 2) (e 7) (e 8) (e 16) (e 17) (e 18) H (fun y0_52 y2_53 y7_54 y8_55 y16_56 y17_57 y18_58 H_59 => m126_5 y0_52 y2_53 y7_54 y8_55 y16_56 y17_57 y18_58 H_59 kn kx0 Q) kx0 Q)) tok xok mixed 2 (by kernel_rfl) (by kernel_rfl : codeAt _ _ = (codeAt [1, 1, 1, 0, 1, 0, 0, 1, 1] (bodyOf Tryd.f126))) h
    (fun e H h => RCode.join (by kernel_rfl : (codeAt [1, 1, 1, 0, 1, 0, 0, 1, 1] (bodyOf Tryd.f126)) = .seq (codeAt [1, 1, 1, 0, 1, 0, 0, 1, 1, 0] (bodyOf Tryd.f126)) (codeAt [1, 1, 1, 0, 1, 0, 0, 1, 1, 1] (bodyOf Tryd.f126))) ((c126_6 e H (fun y0_60 y2_61 y7_62 y8_63 y16_64 y17_65 y18_66 H_67 => m126_5 y0_60 y2_61 y7_62 y8_63 y16_64 y17_65 y18_66 H_67 kn kx0 Q) kx0 Q h).mono (mkK_mono (fun e H h => c126_5 e H kn kx0 Q h) (fun _ _ _ h => h) (fun _ _ h => h) (fun _ _ h => h))))
theorem L126_3_round (x0 x2 x7 x8 x16 x17 x18 : Value) (H : Heap) (kn : K1T) (Q : QT) (h : m126_4 x0 x2 x7 x8 x16 x17 x18 H (fun y0 y2 y7 y8 y16 y17 y18 H => L126_3 y0 y2 y7 y8 y16 y17 y18 H kn Q) kn Q) : L126_3 x0 x2 x7 x8 x16 x17 x18 H kn Q := by
  intro env h0 h2 h7 h8 h16 h17 h18
  subst h0; subst h2; subst h7; subst h8; subst h16; subst h17; subst h18
  exact RLoop.round ((c126_4 env H (fun y0 y2 y7 y8 y16 y17 y18 H => L126_3 y0 y2 y7 y8 y16 y17 y18 H kn Q) kn Q h).mono (mkK_mono (fun e H h => h e rfl rfl rfl rfl rfl rfl rfl) (fun _ _ _ h => h) (fun _ _ h => h) (fun _ _ h => h)))
def m126_2 (x0 x1 x2 x7 x8 : Value) (H : Heap) (kn : K1T) (Q : QT) : Prop :=
oV (vLen x1) fun t17_68 =>
L126_3 x0 x2 x7 x8 x1 t17_68 (.int .i64 0) H kn Q
theorem c126_2 (env : Env) (H : Heap) (kn : K1T) (Q : QT) (h : m126_2 (env 0) (env 1) (env 2) (env 7) (env 8) H kn Q) :
    RCode Tryd.prog 49 (codeAt [1, 1, 1, 0] (bodyOf Tryd.f126)) env H (mkK (fun e H => kn (e 7) H) (fun _ _ _ => False) (retK T Tryd.f126.results.toList Q) (fun c H => Q (.panicked c) H)) :=
  RCode.prefix_ (T := T) (X := ext) (hint := hint126) (hole := (fun e H => L126_3 (e 0) (e 2) (e 7) (e 8) (e 16) (e 17) (e 18) H kn Q)) tok xok mixed 1 (by kernel_rfl) (by kernel_rfl : codeAt _ _ = (codeAt [1, 1, 1, 0, 1] (bodyOf Tryd.f126))) h
    (fun e H h => (cL126_3 e H kn Q h))
def m126 (x0 x1 x2 : Value) (H : Heap) (Q : QT) : Prop :=
oV (vLen x1) fun t14_69 =>
oMake ty22 22 t14_69 t14_69 H fun s_70 H_71 =>
m126_2 x0 x1 x2 s_70 (.int .u64 1) H_71 (fun y7_72 H_73 => m126_1 y7_72 H_73 Q) Q
theorem c126_0 (env : Env) (H : Heap) (Q : QT) (h : m126 (env 0) (env 1) (env 2) H Q) :
    RCode Tryd.prog 49 (bodyOf Tryd.f126) env H (mkK (retK T Tryd.f126.results.toList Q) (fun _ _ _ => False) (retK T Tryd.f126.results.toList Q) (fun c H => Q (.panicked c) H)) :=
  RCode.prefix_ (T := T) (X := ext) (hint := hint126) (hole := (fun e H => m126_2 (e 0) (e 1) (e 2) (e 7) (e 8) H (fun y7_74 H_75 => m126_1 y7_74 H_75 Q) Q)) tok xok mixed 3 (by kernel_rfl) (by kernel_rfl : codeAt _ _ = (codeAt [1, 1, 1] (bodyOf Tryd.f126))) h
    (fun e H h => RCode.join (by kernel_rfl : (codeAt [1, 1, 1] (bodyOf Tryd.f126)) = .seq (codeAt [1, 1, 1, 0] (bodyOf Tryd.f126)) (codeAt [1, 1, 1, 1] (bodyOf Tryd.f126))) ((c126_2 e H (fun y7_76 H_77 => m126_1 y7_76 H_77 Q) Q h).mono (mkK_mono (fun e H h => c126_1 e H Q h) (fun _ _ _ h => h) (fun _ _ h => h) (fun _ _ h => h))))
theorem call126 (a0 a1 a2 : Value) (H : Heap) (Q : QT) (h : m126 a0 a1 a2 H Q) : RCalls Tryd.prog 126 [a0, a1, a2] H Q :=
  RCalls.intro (nt := 49) tok Tryd.func126 (by kernel_rfl) (by kernel_rfl) (by kernel_rfl) (of_decide_eq_true (by kernel_rfl)) (c126_0 (envOf [a0, a1, a2]) H Q h)
def hint125 : Nat → List Nat := lookupL [(9, [0, 1, 2, 3, 4, 5, 6, 7, 8, 9, 10])]
def L125_1 (x0 x1 x2 x4 : Value) (H : Heap) (kn : K0T) (Q : QT) : Prop :=
  ∀ env : Env, env 0 = x0 → env 1 = x1 → env 2 = x2 → env 4 = x4 → RLoop Tryd.prog 52 (codeAt [1, 0, 0] (bodyOf Tryd.f125)) env H (mkK (fun _ _ => False) (inK 0 (fun e H => kn H) (fun _ _ _ => False)) (retK T Tryd.f125.results.toList Q) (fun c H => Q (.panicked c) H))
theorem cL125_1 (env : Env) (H : Heap) (kn : K0T) (Q : QT) (h : L125_1 (env 0) (env 1) (env 2) (env 4) H kn Q) :
    RCode Tryd.prog 52 (codeAt [1] (bodyOf Tryd.f125)) env H (mkK (fun e H => kn H) (fun _ _ _ => False) (retK T Tryd.f125.results.toList Q) (fun c H => Q (.panicked c) H)) :=
  RCode.blk (by kernel_rfl : (codeAt [1] (bodyOf Tryd.f125)) = .block 0 (codeAt [1, 0] (bodyOf Tryd.f125))) (RCode.lp (by kernel_rfl : (codeAt [1, 0] (bodyOf Tryd.f125)) = .loop (codeAt [1, 0, 0] (bodyOf Tryd.f125))) ((h env rfl rfl rfl rfl).mono (mkK_mono (fun _ _ h => h.elim) (fun _ _ _ h => h) (fun _ _ h => h) (fun _ _ h => h))))
def m125_3 (x0 x1 x2 x4 : Value) (H : Heap) (kn : K4T) (kx0 : K0T) (Q : QT) : Prop :=
oV (vInt .add x4 (.int .i64 1)) fun t16_1 =>
kn x0 x1 x2 t16_1 H
theorem c125_3 (env : Env) (H : Heap) (kn : K4T) (kx0 : K0T) (Q : QT) (h : m125_3 (env 0) (env 1) (env 2) (env 4) H kn kx0 Q) :
    RCode Tryd.prog 52 (codeAt [1, 0, 0, 1, 1] (bodyOf Tryd.f125)) env H (mkK (fun e H => kn (e 0) (e 1) (e 2) (e 4) H) (inK 0 (fun e H => kx0 H) (fun _ _ _ => False)) (retK T Tryd.f125.results.toList Q) (fun c H => Q (.panicked c) H)) :=
  RCode.leaf_ (T := T) (X := ext) (hint := hint125) tok xok mixed (by kernel_rfl) h
def m125_6 (x0 x1 x2 x4 x5 : Value) (H : Heap) (kn : K4T) (kx1 : K4T) (kx0 : K0T) (Q : QT) : Prop :=
oV (vLoad ty44 x2 H) fun t42_2 =>
oV (vLoad ty44 x2 H) fun t44_3 =>
oV (vIdxS 1 t44_3 x0) fun t46_4 =>
oV (vLoad ty27 t46_4 H) fun t47_5 =>
oBuildS ty52 52 1 [((0, 1), x5)] H fun s_6 H_7 =>
oAppend ty52 52 t47_5 s_6 H_7 fun v_8 H_9 =>
(vLoad ty44 x2 H_9 = some t42_2 ∧
oV (vIdxS 1 t42_2 x0) fun t51_10 =>
oHeap (vStore ty27 t51_10 v_8 H_9) fun H_11 =>
kn x0 x1 x2 x4 H_11)
theorem c125_6 (env : Env) (H : Heap) (kn : K4T) (kx1 : K4T) (kx0 : K0T) (Q : QT) (h : m125_6 (env 0) (env 1) (env 2) (env 4) (env 5) H kn kx1 kx0 Q) :
    RCode Tryd.prog 52 (codeAt [1, 0, 0, 1, 0, 0, 1, 1] (bodyOf Tryd.f125)) env H (mkK (fun e H => kn (e 0) (e 1) (e 2) (e 4) H) (inK 1 (fun e H => kx1 (e 0) (e 1) (e 2) (e 4) H) (inK 0 (fun e H => kx0 H) (fun _ _ _ => False))) (retK T Tryd.f125.results.toList Q) (fun c H => Q (.panicked c) H)) :=
  RCode.leaf_ (T := T) (X := ext) (hint := hint125) tok xok mixed (by kernel_rfl) h
def L125_8 (x0 x1 x2 x4 x5 x24 x25 x26 : Value) (H : Heap) (kn : K5T) (kx1 : K4T) (kx0 : K0T) (Q : QT) : Prop :=
  ∀ env : Env, env 0 = x0 → env 1 = x1 → env 2 = x2 → env 4 = x4 → env 5 = x5 → env 24 = x24 → env 25 = x25 → env 26 = x26 → RLoop Tryd.prog 52 (codeAt [1, 0, 0, 1, 0, 0, 1, 0, 1, 0, 0] (bodyOf Tryd.f125)) env H (mkK (fun _ _ => False) (inK 2 (fun e H => kn (e 0) (e 1) (e 2) (e 4) (e 5) H) (inK 1 (fun e H => kx1 (e 0) (e 1) (e 2) (e 4) H) (inK 0 (fun e H => kx0 H) (fun _ _ _ => False)))) (retK T Tryd.f125.results.toList Q) (fun c H => Q (.panicked c) H))
theorem cL125_8 (env : Env) (H : Heap) (kn : K5T) (kx1 : K4T) (kx0 : K0T) (Q : QT) (h : L125_8 (env 0) (env 1) (env 2) (env 4) (env 5) (env 24) (env 25) (env 26) H kn kx1 kx0 Q) :
    RCode Tryd.prog 52 (codeAt [1, 0, 0, 1, 0, 0, 1, 0, 1] (bodyOf Tryd.f125)) env H (mkK (fun e H => kn (e 0) (e 1) (e 2) (e 4) (e 5) H) (inK 1 (fun e H => kx1 (e 0) (e 1) (e 2) (e 4) H) (inK 0 (fun e H => kx0 H) (fun _ _ _ => False))) (retK T Tryd.f125.results.toList Q) (fun c H => Q (.panicked c) H)) :=
  RCode.blk (by kernel_rfl : (codeAt [1, 0, 0, 1, 0, 0, 1, 0, 1] (bodyOf Tryd.f125)) = .block 2 (codeAt [1, 0, 0, 1, 0, 0, 1, 0, 1, 0] (bodyOf Tryd.f125))) (RCode.lp (by kernel_rfl : (codeAt [1, 0, 0, 1, 0, 0, 1, 0, 1, 0] (bodyOf Tryd.f125)) = .loop (codeAt [1, 0, 0, 1, 0, 0, 1, 0, 1, 0, 0] (bodyOf Tryd.f125))) ((h env rfl rfl rfl rfl rfl rfl rfl rfl).mono (mkK_mono (fun _ _ h => h.elim) (fun _ _ _ h => h) (fun _ _ h => h) (fun _ _ h => h))))
def m125_9 (x0 x1 x2 x4 x5 x24 x25 x26 : Value) (H : Heap) (kn : K8T) (kx2 : K5T) (kx1 : K4T) (kx0 : K0T) (Q : QT) : Prop :=
oV (vInt .lss x26 x25) fun t27_12 =>
condK t27_12 (
oV (vIdxS 1 x24 x26) fun t28_13 =>
oV (vLoad ty27 t28_13 H) fun t29_14 =>
oV (vLoad ty150 x1 H) fun t31_15 =>
oV (vNil t31_15) fun t32_16 =>
oV (vField 1 t32_16) fun t33_17 =>
oV (vField 0 t33_17) fun t34_18 =>
oV (vLoad ty22 t34_18 H) fun t35_19 =>
oV (vConv (.int .u64) x4) fun t38_20 =>
oRC Tryd.prog 126 [t35_19, t29_14, t38_20] H (fun c H => Q (.panicked c) H) fun v_21 H_22 =>
oAppend ty22 22 x5 v_21 H_22 fun v_23 H_24 =>
oV (vInt .add x26 (.int .i64 1)) fun t41_25 =>
kn x0 x1 x2 x4 v_23 x24 x25 t41_25 H_24) (
kx2 x0 x1 x2 x4 x5 H)
theorem c125_9 (env : Env) (H : Heap) (kn : K8T) (kx2 : K5T) (kx1 : K4T) (kx0 : K0T) (Q : QT) (h : m125_9 (env 0) (env 1) (env 2) (env 4) (env 5) (env 24) (env 25) (env 26) H kn kx2 kx1 kx0 Q) :
    RCode Tryd.prog 52 (codeAt [1, 0, 0, 1, 0, 0, 1, 0, 1, 0, 0] (bodyOf Tryd.f125)) env H (mkK (fun e H => kn (e 0) (e 1) (e 2) (e 4) (e 5) (e 24) (e 25) (e 26) H) (inK 2 (fun e H => kx2 (e 0) (e 1) (e 2) (e 4) (e 5) H) (inK 1 (fun e H => kx1 (e 0) (e 1) (e 2) (e 4) H) (inK 0 (fun e H => kx0 H) (fun _ _ _ => False)))) (retK T Tryd.f125.results.toList Q) (fun c H => Q (.panicked c) H)) :=
  RCode.leaf_ (T := T) (X := ext) (hint := hint125) tok xok mixed (by kernel_rfl) h
theorem L125_8_round (x0 x1 x2 x4 x5 x24 x25 x26 : Value) (H : Heap) (kn : K5T) (kx1 : K4T) (kx0 : K0T) (Q : QT) (h : m125_9 x0 x1 x2 x4 x5 x24 x25 x26 H (fun y0 y1 y2 y4 y5 y24 y25 y26 H => L125_8 y0 y1 y2 y4 y5 y24 y25 y26 H kn kx1 kx0 Q) kn kx1 kx0 Q) : L125_8 x0 x1 x2 x4 x5 x24 x25 x26 H kn kx1 kx0 Q := by
  intro env h0 h1 h2 h4 h5 h24 h25 h26
  subst h0; subst h1; subst h2; subst h4; subst h5; subst h24; subst h25; subst h26
  exact RLoop.round ((c125_9 env H (fun y0 y1 y2 y4 y5 y24 y25 y26 H => L125_8 y0 y1 y2 y4 y5 y24 y25 y26 H kn kx1 kx0 Q) kn kx1 kx0 Q h).mono (mkK_mono (fun e H h => h e rfl rfl rfl rfl rfl rfl rfl rfl) (fun _ _ _ h => h) (fun _ _ h => h) (fun _ _ h => h)))
def m125_7 (x0 x1 x2 x4 x5 : Value) (H : Heap) (kn : K5T) (kx1 : K4T) (kx0 : K0T) (Q : QT) : Prop :=
oV (vLoad ty150 x1 H) fun t17_26 =>
oV (vNil t17_26) fun t18_27 =>
oV (vField 5 t18_27) fun t19_28 =>
oV (vField 0 t19_28) fun t20_29 =>
oV (vLoad ty69 t20_29 H) fun t21_30 =>
oV (vIdxS 1 t21_30 x0) fun t23_31 =>
oV (vLoad ty44 t23_31 H) fun t24_32 =>
oV (vLen t24_32) fun t25_33 =>
L125_8 x0 x1 x2 x4 x5 t24_32 t25_33 (.int .i64 0) H kn kx1 kx0 Q
theorem c125_7 (env : Env) (H : Heap) (kn : K5T) (kx1 : K4T) (kx0 : K0T) (Q : QT) (h : m125_7 (env 0) (env 1) (env 2) (env 4) (env 5) H kn kx1 kx0 Q) :
    RCode Tryd.prog 52 (codeAt [1, 0, 0, 1, 0, 0, 1, 0] (bodyOf Tryd.f125)) env H (mkK (fun e H => kn (e 0) (e 1) (e 2) (e 4) (e 5) H) (inK 1 (fun e H => kx1 (e 0) (e 1) (e 2) (e 4) H) (inK 0 (fun e H => kx0 H) (fun _ _ _ => False))) (retK T Tryd.f125.results.toList Q) (fun c H => Q (.panicked c) H)) :=
  RCode.prefix_ (T := T) (X := ext) (hint := hint125) (hole := (fun e H => L125_8 (e 0) (e 1) (e 2) (e 4) (e 5) (e 24) (e 25) (e 26) H kn kx1 kx0 Q)) tok xok mixed 1 (by kernel_rfl) (by kernel_rfl : codeAt _ _ = (codeAt [1, 0, 0, 1, 0, 0, 1, 0, 1] (bodyOf Tryd.f125))) h
    (fun e H h => (cL125_8 e H kn kx1 kx0 Q h))
def m125_5 (x0 x1 x2 x4 : Value) (H : Heap) (kn : K4T) (kx1 : K4T) (kx0 : K0T) (Q : QT) : Prop :=
m125_7 x0 x1 x2 x4 (.slice none 0 0) H (fun y0_34 y1_35 y2_36 y4_37 y5_38 H_39 => m125_6 y0_34 y1_35 y2_36 y4_37 y5_38 H_39 kn kx1 kx0 Q) kx1 kx0 Q
theorem c125_5 (env : Env) (H : Heap) (kn : K4T) (kx1 : K4T) (kx0 : K0T) (Q : QT) (h : m125_5 (env 0) (env 1) (env 2) (env 4) H kn kx1 kx0 Q) :
    RCode Tryd.prog 52 (codeAt [1, 0, 0, 1, 0, 0] (bodyOf Tryd.f125)) env H (mkK (fun e H => kn (e 0) (e 1) (e 2) (e 4) H) (inK 1 (fun e H => kx1 (e 0) (e 1) (e 2) (e 4) H) (inK 0 (fun e H => kx0 H) (fun _ _ _ => False))) (retK T Tryd.f125.results.toList Q) (fun c H => Q (.panicked c) H)) :=
  RCode.prefix_ (T := T) (X := ext) (hint := hint125) (hole := (fun e H => m125_7 (e 0) (e 1) (e 2) (e 4) (e 5) H (fun y0_40 y1_41 y2_42 y4_43 y5_44 H_45 => m125_6 y0_40 y1_41 y2_42 y4_43 y5_44 H_45 kn kx1 kx0 Q) kx1 kx0 Q)) tok xok mixed 1 (by kernel_rfl) (by kernel_rfl : codeAt _ _ = (codeAt [1, 0, 0, 1, 0, 0, 1] (bodyOf Tryd.f125))) h
    (fun e H h => RCode.join (by kernel_rfl : (codeAt [1, 0, 0, 1, 0, 0, 1] (bodyOf Tryd.f125)) = .seq (codeAt [1, 0, 0, 1, 0, 0, 1, 0] (bodyOf Tryd.f125)) (codeAt [1, 0, 0, 1, 0, 0, 1, 1] (bodyOf Tryd.f125))) ((c125_7 e H (fun y0_46 y1_47 y2_48 y4_49 y5_50 H_51 => m125_6 y0_46 y1_47 y2_48 y4_49 y5_50 H_51 kn kx1 kx0 Q) kx1 kx0 Q h).mono (mkK_mono (fun e H h => c125_6 e H kn kx1 kx0 Q h) (fun _ _ _ h => h) (fun _ _ h => h) (fun _ _ h => h))))
def m125_4 (x0 x1 x2 x4 : Value) (H : Heap) (kn : K4T) (kx0 : K0T) (Q : QT) : Prop :=
m125_5 x0 x1 x2 x4 H kn kn kx0 Q
theorem c125_4 (env : Env) (H : Heap) (kn : K4T) (kx0 : K0T) (Q : QT) (h : m125_4 (env 0) (env 1) (env 2) (env 4) H kn kx0 Q) :
    RCode Tryd.prog 52 (codeAt [1, 0, 0, 1, 0] (bodyOf Tryd.f125)) env H (mkK (fun e H => kn (e 0) (e 1) (e 2) (e 4) H) (inK 0 (fun e H => kx0 H) (fun _ _ _ => False)) (retK T Tryd.f125.results.toList Q) (fun c H => Q (.panicked c) H)) :=
  RCode.blk (by kernel_rfl : (codeAt [1, 0, 0, 1, 0] (bodyOf Tryd.f125)) = .block 1 (codeAt [1, 0, 0, 1, 0, 0] (bodyOf Tryd.f125))) (c125_5 env H kn kn kx0 Q h)
def m125_2 (x0 x1 x2 x4 : Value) (H : Heap) (kn : K4T) (kx0 : K0T) (Q : QT) : Prop :=
oV (vLoad ty150 x1 H) fun t9_52 =>
oV (vNil t9_52) fun t10_53 =>
oV (vField 1 t10_53) fun t11_54 =>
oV (vField 1 t11_54) fun t12_55 =>
oV (vLoad ty3 t12_55 H) fun t13_56 =>
oV (vInt .leq x4 t13_56) fun t14_57 =>
condK t14_57 (
m125_4 x0 x1 x2 x4 H (fun y0_58 y1_59 y2_60 y4_61 H_62 => m125_3 y0_58 y1_59 y2_60 y4_61 H_62 kn kx0 Q) kx0 Q) (
kx0 H)
theorem c125_2 (env : Env) (H : Heap) (kn : K4T) (kx0 : K0T) (Q : QT) (h : m125_2 (env 0) (env 1) (env 2) (env 4) H kn kx0 Q) :
    RCode Tryd.prog 52 (codeAt [1, 0, 0] (bodyOf Tryd.f125)) env H (mkK (fun e H => kn (e 0) (e 1) (e 2) (e 4) H) (inK 0 (fun e H => kx0 H) (fun _ _ _ => False)) (retK T Tryd.f125.results.toList Q) (fun c H => Q (.panicked c) H)) :=
  RCode.prefix_ (T := T) (X := ext) (hint := hint125) (hole := (fun e H => m125_4 (e 0) (e 1) (e 2) (e 4) H (fun y0_63 y1_64 y2_65 y4_66 H_67 => m125_3 y0_63 y1_64 y2_65 y4_66 H_67 kn kx0 Q) kx0 Q)) tok xok mixed 1 (by kernel_rfl) (by kernel_rfl : codeAt _ _ = (codeAt [1, 0, 0, 1] (bodyOf Tryd.f125))) h
    (fun e H h => RCode.join (by kernel_rfl : (codeAt [1, 0, 0, 1] (bodyOf Tryd.f125)) = .seq (codeAt [1, 0, 0, 1, 0] (bodyOf Tryd.f125)) (codeAt [1, 0, 0, 1, 1] (bodyOf Tryd.f125))) ((c125_4 e H (fun y0_68 y1_69 y2_70 y4_71 H_72 => m125_3 y0_68 y1_69 y2_70 y4_71 H_72 kn kx0 Q) kx0 Q h).mono (mkK_mono (fun e H h => c125_3 e H kn kx0 Q h) (fun _ _ _ h => h) (fun _ _ h => h) (fun _ _ h => h))))
theorem L125_1_round (x0 x1 x2 x4 : Value) (H : Heap) (kn : K0T) (Q : QT) (h : m125_2 x0 x1 x2 x4 H (fun y0 y1 y2 y4 H => L125_1 y0 y1 y2 y4 H kn Q) kn Q) : L125_1 x0 x1 x2 x4 H kn Q := by
  intro env h0 h1 h2 h4
  subst h0; subst h1; subst h2; subst h4
  exact RLoop.round ((c125_2 env H (fun y0 y1 y2 y4 H => L125_1 y0 y1 y2 y4 H kn Q) kn Q h).mono (mkK_mono (fun e H h => h e rfl rfl rfl rfl) (fun _ _ _ h => h) (fun _ _ h => h) (fun _ _ h => h)))
def m125 (x0 x1 x2 : Value) (H : Heap) (Q : QT) : Prop :=
L125_1 x0 x1 x2 (.int .i64 1) H (fun H_73 => Q (.returned (.tuple #[])) H_73) Q
theorem c125_0 (env : Env) (H : Heap) (Q : QT) (h : m125 (env 0) (env 1) (env 2) H Q) :
    RCode Tryd.prog 52 (bodyOf Tryd.f125) env H (mkK (retK T Tryd.f125.results.toList Q) (fun _ _ _ => False) (retK T Tryd.f125.results.toList Q) (fun c H => Q (.panicked c) H)) :=
  RCode.prefix_ (T := T) (X := ext) (hint := hint125) (hole := (fun e H => L125_1 (e 0) (e 1) (e 2) (e 4) H (fun H_74 => Q (.returned (.tuple #[])) H_74) Q)) tok xok mixed 1 (by kernel_rfl) (by kernel_rfl : codeAt _ _ = (codeAt [1] (bodyOf Tryd.f125))) h
    (fun e H h => ((cL125_1 e H (fun H_75 => Q (.returned (.tuple #[])) H_75) Q h).mono (mkK_mono (fun e H h => h) (fun _ _ _ h => h) (fun _ _ h => h) (fun _ _ h => h))))
theorem call125 (a0 a1 a2 : Value) (H : Heap) (Q : QT) (h : m125 a0 a1 a2 H Q) : RCalls Tryd.prog 125 [a0, a1, a2] H Q :=
  RCalls.intro (nt := 52) tok Tryd.func125 (by kernel_rfl) (by kernel_rfl) (by kernel_rfl) (of_decide_eq_true (by kernel_rfl)) (c125_0 (envOf [a0, a1, a2]) H Q h)
def hint127 : Nat → List Nat := lookupL [(3, [0, 1, 2, 3, 4, 5, 6, 7, 8, 9, 10, 11, 12]), (10, [0, 1, 2, 3, 4, 5, 6, 7, 8, 9, 10, 11, 12, 13, 14, 15, 16, 17, 18])]
def L127_1 (x0 x1 x2 x3 x13 x14 x15 : Value) (H : Heap) (kn : K0T) (Q : QT) : Prop :=
  ∀ env : Env, env 0 = x0 → env 1 = x1 → env 2 = x2 → env 3 = x3 → env 13 = x13 → env 14 = x14 → env 15 = x15 → RLoop Tryd.prog 69 (codeAt [1, 0, 0] (bodyOf Tryd.f127)) env H (mkK (fun _ _ => False) (inK 0 (fun e H => kn H) (fun _ _ _ => False)) (retK T Tryd.f127.results.toList Q) (fun c H => Q (.panicked c) H))
theorem cL127_1 (env : Env) (H : Heap) (kn : K0T) (Q : QT) (h : L127_1 (env 0) (env 1) (env 2) (env 3) (env 13) (env 14) (env 15) H kn Q) :
    RCode Tryd.prog 69 (codeAt [1] (bodyOf Tryd.f127)) env H (mkK (fun e H => kn H) (fun _ _ _ => False) (retK T Tryd.f127.results.toList Q) (fun c H => Q (.panicked c) H)) :=
  RCode.blk (by kernel_rfl : (codeAt [1] (bodyOf Tryd.f127)) = .block 0 (codeAt [1, 0] (bodyOf Tryd.f127))) (RCode.lp (by kernel_rfl : (codeAt [1, 0] (bodyOf Tryd.f127)) = .loop (codeAt [1, 0, 0] (bodyOf Tryd.f127))) ((h env rfl rfl rfl rfl rfl rfl rfl).mono (mkK_mono (fun _ _ h => h.elim) (fun _ _ _ h => h) (fun _ _ h => h) (fun _ _ h => h))))
def m127_3 (x0 x1 x2 x3 x13 x14 x15 : Value) (H : Heap) (kn : K7T) (kx0 : K0T) (Q : QT) : Prop :=
oV (vInt .add x15 (.int .i64 1)) fun t68_1 =>
kn x0 x1 x2 x3 x13 x14 t68_1 H
theorem c127_3 (env : Env) (H : Heap) (kn : K7T) (kx0 : K0T) (Q : QT) (h : m127_3 (env 0) (env 1) (env 2) (env 3) (env 13) (env 14) (env 15) H kn kx0 Q) :
    RCode Tryd.prog 69 (codeAt [1, 0, 0, 1, 1, 1] (bodyOf Tryd.f127)) env H (mkK (fun e H => kn (e 0) (e 1) (e 2) (e 3) (e 13) (e 14) (e 15) H) (inK 0 (fun e H => kx0 H) (fun _ _ _ => False)) (retK T Tryd.f127.results.toList Q) (fun c H => Q (.panicked c) H)) :=
  RCode.leaf_ (T := T) (X := ext) (hint := hint127) tok xok mixed (by kernel_rfl) h
def m127_6 (x0 x1 x2 x3 x8 x13 x14 x15 : Value) (H : Heap) (kn : K7T) (kx1 : K7T) (kx0 : K0T) (Q : QT) : Prop :=
oV (vLoad ty150 x1 H) fun t50_2 =>
oV (vNil t50_2) fun t51_3 =>
oV (vField 5 t51_3) fun t52_4 =>
oV (vField 1 t52_4) fun t53_5 =>
oV (vLoad ty69 t53_5 H) fun t54_6 =>
oV (vLoad ty150 x1 H) fun t56_7 =>
oV (vNil t56_7) fun t57_8 =>
oV (vField 5 t57_8) fun t58_9 =>
oV (vField 1 t58_9) fun t59_10 =>
oV (vLoad ty69 t59_10 H) fun t60_11 =>
oV (vIdxS 1 t60_11 x0) fun t62_12 =>
oV (vLoad ty44 t62_12 H) fun t63_13 =>
oBuildS ty27 27 1 [((0, 1), x8)] H fun s_14 H_15 =>
oAppend ty27 27 t63_13 s_14 H_15 fun v_16 H_17 =>
(vLoad ty69 t53_5 H_17 = some t54_6 ∧
(vLoad ty150 x1 H_17 = some t50_2 ∧
oV (vIdxS 1 t54_6 x0) fun t67_18 =>
oHeap (vStore ty44 t67_18 v_16 H_17) fun H_19 =>
kn x0 x1 x2 x3 x13 x14 x15 H_19))
theorem c127_6 (env : Env) (H : Heap) (kn : K7T) (kx1 : K7T) (kx0 : K0T) (Q : QT) (h : m127_6 (env 0) (env 1) (env 2) (env 3) (env 8) (env 13) (env 14) (env 15) H kn kx1 kx0 Q) :
    RCode Tryd.prog 69 (codeAt [1, 0, 0, 1, 1, 0, 0, 1, 1, 1, 1] (bodyOf Tryd.f127)) env H (mkK (fun e H => kn (e 0) (e 1) (e 2) (e 3) (e 13) (e 14) (e 15) H) (inK 1 (fun e H => kx1 (e 0) (e 1) (e 2) (e 3) (e 13) (e 14) (e 15) H) (inK 0 (fun e H => kx0 H) (fun _ _ _ => False))) (retK T Tryd.f127.results.toList Q) (fun c H => Q (.panicked c) H)) :=
  RCode.leaf_ (T := T) (X := ext) (hint := hint127) tok xok mixed (by kernel_rfl) h
def L127_8 (x0 x1 x2 x3 x7 x8 x13 x14 x15 x33 x34 : Value) (H : Heap) (kn : K8T) (kx1 : K7T) (kx0 : K0T) (Q : QT) : Prop :=
  ∀ env : Env, env 0 = x0 → env 1 = x1 → env 2 = x2 → env 3 = x3 → env 7 = x7 → env 8 = x8 → env 13 = x13 → env 14 = x14 → env 15 = x15 → env 33 = x33 → env 34 = x34 → RLoop Tryd.prog 69 (codeAt [1, 0, 0, 1, 1, 0, 0, 1, 1, 1, 0, 1, 0, 0] (bodyOf Tryd.f127)) env H (mkK (fun _ _ => False) (inK 2 (fun e H => kn (e 0) (e 1) (e 2) (e 3) (e 8) (e 13) (e 14) (e 15) H) (inK 1 (fun e H => kx1 (e 0) (e 1) (e 2) (e 3) (e 13) (e 14) (e 15) H) (inK 0 (fun e H => kx0 H) (fun _ _ _ => False)))) (retK T Tryd.f127.results.toList Q) (fun c H => Q (.panicked c) H))
theorem cL127_8 (env : Env) (H : Heap) (kn : K8T) (kx1 : K7T) (kx0 : K0T) (Q : QT) (h : L127_8 (env 0) (env 1) (env 2) (env 3) (env 7) (env 8) (env 13) (env 14) (env 15) (env 33) (env 34) H kn kx1 kx0 Q) :
    RCode Tryd.prog 69 (codeAt [1, 0, 0, 1, 1, 0, 0, 1, 1, 1, 0, 1] (bodyOf Tryd.f127)) env H (mkK (fun e H => kn (e 0) (e 1) (e 2) (e 3) (e 8) (e 13) (e 14) (e 15) H) (inK 1 (fun e H => kx1 (e 0) (e 1) (e 2) (e 3) (e 13) (e 14) (e 15) H) (inK 0 (fun e H => kx0 H) (fun _ _ _ => False))) (retK T Tryd.f127.results.toList Q) (fun c H => Q (.panicked c) H)) :=
  RCode.blk (by kernel_rfl : (codeAt [1, 0, 0, 1, 1, 0, 0, 1, 1, 1, 0, 1] (bodyOf Tryd.f127)) = .block 2 (codeAt [1, 0, 0, 1, 1, 0, 0, 1, 1, 1, 0, 1, 0] (bodyOf Tryd.f127))) (RCode.lp (by kernel_rfl : (codeAt [1, 0, 0, 1, 1, 0, 0, 1, 1, 1, 0, 1, 0] (bodyOf Tryd.f127)) = .loop (codeAt [1, 0, 0, 1, 1, 0, 0, 1, 1, 1, 0, 1, 0, 0] (bodyOf Tryd.f127))) ((h env rfl rfl rfl rfl rfl rfl rfl rfl rfl rfl rfl).mono (mkK_mono (fun _ _ h => h.elim) (fun _ _ _ h => h) (fun _ _ h => h) (fun _ _ h => h))))
def m127_9 (x0 x1 x2 x3 x7 x8 x13 x14 x15 x33 x34 : Value) (H : Heap) (kn : K11T) (kx2 : K8T) (kx1 : K7T) (kx0 : K0T) (Q : QT) : Prop :=
oV (vInt .lss x34 x33) fun t35_20 =>
condK t35_20 (
oV (vLoad ty3 x3 H) fun t40_21 =>
oV (vInt .mul x34 t40_21) fun t41_22 =>
oV (vInt .add x34 (.int .i64 1)) fun t43_23 =>
oV (vLoad ty3 x3 H) fun t44_24 =>
oV (vInt .mul t43_23 t44_24) fun t45_25 =>
oV (vSlice 1 x7 (some t41_22) (some t45_25) none) fun t46_26 =>
oBuildS ty52 52 1 [((0, 1), t46_26)] H fun s_27 H_28 =>
oAppend ty52 52 x8 s_27 H_28 fun v_29 H_30 =>
oV (vInt .add x34 (.int .i64 1)) fun t49_31 =>
kn x0 x1 x2 x3 x7 v_29 x13 x14 x15 x33 t49_31 H_30) (
kx2 x0 x1 x2 x3 x8 x13 x14 x15 H)
theorem c127_9 (env : Env) (H : Heap) (kn : K11T) (kx2 : K8T) (kx1 : K7T) (kx0 : K0T) (Q : QT) (h : m127_9 (env 0) (env 1) (env 2) (env 3) (env 7) (env 8) (env 13) (env 14) (env 15) (env 33) (env 34) H kn kx2 kx1 kx0 Q) :
    RCode Tryd.prog 69 (codeAt [1, 0, 0, 1, 1, 0, 0, 1, 1, 1, 0, 1, 0, 0] (bodyOf Tryd.f127)) env H (mkK (fun e H => kn (e 0) (e 1) (e 2) (e 3) (e 7) (e 8) (e 13) (e 14) (e 15) (e 33) (e 34) H) (inK 2 (fun e H => kx2 (e 0) (e 1) (e 2) (e 3) (e 8) (e 13) (e 14) (e 15) H) (inK 1 (fun e H => kx1 (e 0) (e 1) (e 2) (e 3) (e 13) (e 14) (e 15) H) (inK 0 (fun e H => kx0 H) (fun _ _ _ => False)))) (retK T Tryd.f127.results.toList Q) (fun c H => Q (.panicked c) H)) :=
  RCode.leaf_ (T := T) (X := ext) (hint := hint127) tok xok mixed (by kernel_rfl) h
theorem L127_8_round (x0 x1 x2 x3 x7 x8 x13 x14 x15 x33 x34 : Value) (H : Heap) (kn : K8T) (kx1 : K7T) (kx0 : K0T) (Q : QT) (h : m127_9 x0 x1 x2 x3 x7 x8 x13 x14 x15 x33 x34 H (fun y0 y1 y2 y3 y7 y8 y13 y14 y15 y33 y34 H => L127_8 y0 y1 y2 y3 y7 y8 y13 y14 y15 y33 y34 H kn kx1 kx0 Q) kn kx1 kx0 Q) : L127_8 x0 x1 x2 x3 x7 x8 x13 x14 x15 x33 x34 H kn kx1 kx0 Q := by
  intro env h0 h1 h2 h3 h7 h8 h13 h14 h15 h33 h34
  subst h0; subst h1; subst h2; subst h3; subst h7; subst h8; subst h13; subst h14; subst h15; subst h33; subst h34
  exact RLoop.round ((c127_9 env H (fun y0 y1 y2 y3 y7 y8 y13 y14 y15 y33 y34 H => L127_8 y0 y1 y2 y3 y7 y8 y13 y14 y15 y33 y34 H kn kx1 kx0 Q) kn kx1 kx0 Q h).mono (mkK_mono (fun e H h => h e rfl rfl rfl rfl rfl rfl rfl rfl rfl rfl rfl) (fun _ _ _ h => h) (fun _ _ h => h) (fun _ _ h => h)))
def m127_7 (x0 x1 x2 x3 x6 x7 x8 x13 x14 x15 : Value) (H : Heap) (kn : K8T) (kx1 : K7T) (kx0 : K0T) (Q : QT) : Prop :=
oV (vLen x6) fun t33_32 =>
L127_8 x0 x1 x2 x3 x7 x8 x13 x14 x15 t33_32 (.int .i64 0) H kn kx1 kx0 Q
theorem c127_7 (env : Env) (H : Heap) (kn : K8T) (kx1 : K7T) (kx0 : K0T) (Q : QT) (h : m127_7 (env 0) (env 1) (env 2) (env 3) (env 6) (env 7) (env 8) (env 13) (env 14) (env 15) H kn kx1 kx0 Q) :
    RCode Tryd.prog 69 (codeAt [1, 0, 0, 1, 1, 0, 0, 1, 1, 1, 0] (bodyOf Tryd.f127)) env H (mkK (fun e H => kn (e 0) (e 1) (e 2) (e 3) (e 8) (e 13) (e 14) (e 15) H) (inK 1 (fun e H => kx1 (e 0) (e 1) (e 2) (e 3) (e 13) (e 14) (e 15) H) (inK 0 (fun e H => kx0 H) (fun _ _ _ => False))) (retK T Tryd.f127.results.toList Q) (fun c H => Q (.panicked c) H)) :=
  RCode.prefix_ (T := T) (X := ext) (hint := hint127) (hole := (fun e H => L127_8 (e 0) (e 1) (e 2) (e 3) (e 7) (e 8) (e 13) (e 14) (e 15) (e 33) (e 34) H kn kx1 kx0 Q)) tok xok mixed 1 (by kernel_rfl) (by kernel_rfl : codeAt _ _ = (codeAt [1, 0, 0, 1, 1, 0, 0, 1, 1, 1, 0, 1] (bodyOf Tryd.f127))) h
    (fun e H h => (cL127_8 e H kn kx1 kx0 Q h))
def m127_5 (x0 x1 x2 x3 x13 x14 x15 : Value) (H : Heap) (kn : K7T) (kx1 : K7T) (kx0 : K0T) (Q : QT) : Prop :=
oV (vIdxS 1 x13 x15) fun t18_33 =>
oV (vLoad ty27 t18_33 H) fun t19_34 =>
oV (vLoad ty44 x2 H) fun t20_35 =>
oV (vIdxS 1 t20_35 x0) fun t22_36 =>
oV (vLoad ty27 t22_36 H) fun t23_37 =>
oV (vIdxS 1 t23_37 x15) fun t25_38 =>
oV (vLoad ty52 t25_38 H) fun t26_39 =>
oV (vLen t19_34) fun t28_40 =>
oV (vLoad ty3 x3 H) fun t29_41 =>
oV (vInt .mul t28_40 t29_41) fun t30_42 =>
oRC Tryd.prog 49 [t26_39, t30_42] H noP fun v_43 H_44 =>
m127_7 x0 x1 x2 x3 t19_34 v_43 (.slice none 0 0) x13 x14 x15 H_44 (fun y0_45 y1_46 y2_47 y3_48 y8_49 y13_50 y14_51 y15_52 H_53 => m127_6 y0_45 y1_46 y2_47 y3_48 y8_49 y13_50 y14_51 y15_52 H_53 kn kx1 kx0 Q) kx1 kx0 Q
theorem c127_5 (env : Env) (H : Heap) (kn : K7T) (kx1 : K7T) (kx0 : K0T) (Q : QT) (h : m127_5 (env 0) (env 1) (env 2) (env 3) (env 13) (env 14) (env 15) H kn kx1 kx0 Q) :
    RCode Tryd.prog 69 (codeAt [1, 0, 0, 1, 1, 0, 0] (bodyOf Tryd.f127)) env H (mkK (fun e H => kn (e 0) (e 1) (e 2) (e 3) (e 13) (e 14) (e 15) H) (inK 1 (fun e H => kx1 (e 0) (e 1) (e 2) (e 3) (e 13) (e 14) (e 15) H) (inK 0 (fun e H => kx0 H) (fun _ _ _ => False))) (retK T Tryd.f127.results.toList Q) (fun c H => Q (.panicked c) H)) :=
  RCode.prefix_ (T := T) (X := ext) (hint := hint127) (hole := (fun e H => m127_7 (e 0) (e 1) (e 2) (e 3) (e 6) (e 7) (e 8) (e 13) (e 14) (e 15) H (fun y0_54 y1_55 y2_56 y3_57 y8_58 y13_59 y14_60 y15_61 H_62 => m127_6 y0_54 y1_55 y2_56 y3_57 y8_58 y13_59 y14_60 y15_61 H_62 kn kx1 kx0 Q) kx1 kx0 Q)) tok xok mixed 3 (by kernel_rfl) (by kernel_rfl : codeAt _ _ = (codeAt [1, 0, 0, 1, 1, 0, 0, 1, 1, 1] (bodyOf Tryd.f127))) h
    (fun e H h => RCode.join (by kernel_rfl : (codeAt [1, 0, 0, 1, 1, 0, 0, 1, 1, 1] (bodyOf Tryd.f127)) = .seq (codeAt [1, 0, 0, 1, 1, 0, 0, 1, 1, 1, 0] (bodyOf Tryd.f127)) (codeAt [1, 0, 0, 1, 1, 0, 0, 1, 1, 1, 1] (bodyOf Tryd.f127))) ((c127_7 e H (fun y0_63 y1_64 y2_65 y3_66 y8_67 y13_68 y14_69 y15_70 H_71 => m127_6 y0_63 y1_64 y2_65 y3_66 y8_67 y13_68 y14_69 y15_70 H_71 kn kx1 kx0 Q) kx1 kx0 Q h).mono (mkK_mono (fun e H h => c127_6 e H kn kx1 kx0 Q h) (fun _ _ _ h => h) (fun _ _ h => h) (fun _ _ h => h))))
def m127_4 (x0 x1 x2 x3 x13 x14 x15 : Value) (H : Heap) (kn : K7T) (kx0 : K0T) (Q : QT) : Prop :=
m127_5 x0 x1 x2 x3 x13 x14 x15 H kn kn kx0 Q
theorem c127_4 (env : Env) (H : Heap) (kn : K7T) (kx0 : K0T) (Q : QT) (h : m127_4 (env 0) (env 1) (env 2) (env 3) (env 13) (env 14) (env 15) H kn kx0 Q) :
    RCode Tryd.prog 69 (codeAt [1, 0, 0, 1, 1, 0] (bodyOf Tryd.f127)) env H (mkK (fun e H => kn (e 0) (e 1) (e 2) (e 3) (e 13) (e 14) (e 15) H) (inK 0 (fun e H => kx0 H) (fun _ _ _ => False)) (retK T Tryd.f127.results.toList Q) (fun c H => Q (.panicked c) H)) :=
  RCode.blk (by kernel_rfl : (codeAt [1, 0, 0, 1, 1, 0] (bodyOf Tryd.f127)) = .block 1 (codeAt [1, 0, 0, 1, 1, 0, 0] (bodyOf Tryd.f127))) (c127_5 env H kn kn kx0 Q h)
def m127_2 (x0 x1 x2 x3 x13 x14 x15 : Value) (H : Heap) (kn : K7T) (kx0 : K0T) (Q : QT) : Prop :=
oV (vInt .lss x15 x14) fun t16_72 =>
condK t16_72 (
m127_4 x0 x1 x2 x3 x13 x14 x15 H (fun y0_73 y1_74 y2_75 y3_76 y13_77 y14_78 y15_79 H_80 => m127_3 y0_73 y1_74 y2_75 y3_76 y13_77 y14_78 y15_79 H_80 kn kx0 Q) kx0 Q) (
kx0 H)
theorem c127_2 (env : Env) (H : Heap) (kn : K7T) (kx0 : K0T) (Q : QT) (h : m127_2 (env 0) (env 1) (env 2) (env 3) (env 13) (env 14) (env 15) H kn kx0 Q) :
    RCode Tryd.prog 69 (codeAt [1, 0, 0] (bodyOf Tryd.f127)) env H (mkK (fun e H => kn (e 0) (e 1) (e 2) (e 3) (e 13) (e 14) (e 15) H) (inK 0 (fun e H => kx0 H) (fun _ _ _ => False)) (retK T Tryd.f127.results.toList Q) (fun c H => Q (.panicked c) H)) :=
  RCode.prefix_ (T := T) (X := ext) (hint := hint127) (hole := (fun e H => m127_4 (e 0) (e 1) (e 2) (e 3) (e 13) (e 14) (e 15) H (fun y0_81 y1_82 y2_83 y3_84 y13_85 y14_86 y15_87 H_88 => m127_3 y0_81 y1_82 y2_83 y3_84 y13_85 y14_86 y15_87 H_88 kn kx0 Q) kx0 Q)) tok xok mixed 2 (by kernel_rfl) (by kernel_rfl : codeAt _ _ = (codeAt [1, 0, 0, 1, 1] (bodyOf Tryd.f127))) h
    (fun e H h => RCode.join (by kernel_rfl : (codeAt [1, 0, 0, 1, 1] (bodyOf Tryd.f127)) = .seq (codeAt [1, 0, 0, 1, 1, 0] (bodyOf Tryd.f127)) (codeAt [1, 0, 0, 1, 1, 1] (bodyOf Tryd.f127))) ((c127_4 e H (fun y0_89 y1_90 y2_91 y3_92 y13_93 y14_94 y15_95 H_96 => m127_3 y0_89 y1_90 y2_91 y3_92 y13_93 y14_94 y15_95 H_96 kn kx0 Q) kx0 Q h).mono (mkK_mono (fun e H h => c127_3 e H kn kx0 Q h) (fun _ _ _ h => h) (fun _ _ h => h) (fun _ _ h => h))))
theorem L127_1_round (x0 x1 x2 x3 x13 x14 x15 : Value) (H : Heap) (kn : K0T) (Q : QT) (h : m127_2 x0 x1 x2 x3 x13 x14 x15 H (fun y0 y1 y2 y3 y13 y14 y15 H => L127_1 y0 y1 y2 y3 y13 y14 y15 H kn Q) kn Q) : L127_1 x0 x1 x2 x3 x13 x14 x15 H kn Q := by
  intro env h0 h1 h2 h3 h13 h14 h15
  subst h0; subst h1; subst h2; subst h3; subst h13; subst h14; subst h15
  exact RLoop.round ((c127_2 env H (fun y0 y1 y2 y3 y13 y14 y15 H => L127_1 y0 y1 y2 y3 y13 y14 y15 H kn Q) kn Q h).mono (mkK_mono (fun e H h => h e rfl rfl rfl rfl rfl rfl rfl) (fun _ _ _ h => h) (fun _ _ h => h) (fun _ _ h => h)))
def m127 (x0 x1 x2 x3 : Value) (H : Heap) (Q : QT) : Prop :=
oV (vLoad ty150 x1 H) fun t10_97 =>
oV (vNil t10_97) fun t11_98 =>
oV (vField 4 t11_98) fun t12_99 =>
oV (vLoad ty44 t12_99 H) fun t13_100 =>
oV (vLen t13_100) fun t14_101 =>
L127_1 x0 x1 x2 x3 t13_100 t14_101 (.int .i64 0) H (fun H_102 => Q (.returned (.tuple #[])) H_102) Q
theorem c127_0 (env : Env) (H : Heap) (Q : QT) (h : m127 (env 0) (env 1) (env 2) (env 3) H Q) :
    RCode Tryd.prog 69 (bodyOf Tryd.f127) env H (mkK (retK T Tryd.f127.results.toList Q) (fun _ _ _ => False) (retK T Tryd.f127.results.toList Q) (fun c H => Q (.panicked c) H)) :=
  RCode.prefix_ (T := T) (X := ext) (hint := hint127) (hole := (fun e H => L127_1 (e 0) (e 1) (e 2) (e 3) (e 13) (e 14) (e 15) H (fun H_103 => Q (.returned (.tuple #[])) H_103) Q)) tok xok mixed 1 (by kernel_rfl) (by kernel_rfl : codeAt _ _ = (codeAt [1] (bodyOf Tryd.f127))) h
    (fun e H h => ((cL127_1 e H (fun H_104 => Q (.returned (.tuple #[])) H_104) Q h).mono (mkK_mono (fun e H h => h) (fun _ _ _ h => h) (fun _ _ h => h) (fun _ _ h => h))))
theorem call127 (a0 a1 a2 a3 : Value) (H : Heap) (Q : QT) (h : m127 a0 a1 a2 a3 H Q) : RCalls Tryd.prog 127 [a0, a1, a2, a3] H Q :=
  RCalls.intro (nt := 69) tok Tryd.func127 (by kernel_rfl) (by kernel_rfl) (by kernel_rfl) (of_decide_eq_true (by kernel_rfl)) (c127_0 (envOf [a0, a1, a2, a3]) H Q h)
def hint104 : Nat → List Nat := lookupL [(4, [0, 1, 2, 3, 4, 5, 6, 7])]
def m104 (x0 : Value) (H : Heap) (Q : QT) : Prop :=
oNew (Value.cells x0).toList (Value.cells x0).toList.length 150 H fun i_1 H_2 =>
oV (vLoad ty150 (ptrTo i_1) H_2) fun t5_3 =>
oV (vNil t5_3) fun t6_4 =>
oV (vField 1 t6_4) fun t7_5 =>
oV (vField 2 t7_5) fun t8_6 =>
oV (vLoad ty3 t8_6 H_2) fun t9_7 =>
oV (vInt .add t9_7 (.int .i64 1)) fun t10_8 =>
oNew (Value.cells ty3.zero).toList (Value.cells ty3.zero).toList.length 3 H_2 fun i_9 H_10 =>
oHeap (vStore ty3 (ptrTo i_9) t10_8 H_10) fun H_11 =>
oV (vLoad ty150 (ptrTo i_1) H_11) fun t11_12 =>
oV (vNil t11_12) fun t12_13 =>
oV (vField 1 t12_13) fun t13_14 =>
oV (vField 1 t13_14) fun t14_15 =>
oV (vLoad ty3 t14_15 H_11) fun t15_16 =>
oMake ty27 27 t15_16 t15_16 H_11 fun s_17 H_18 =>
oNew (Value.cells ty44.zero).toList (Value.cells ty44.zero).toList.length 44 H_18 fun i_19 H_20 =>
oHeap (vStore ty44 (ptrTo i_19) s_17 H_20) fun H_21 =>
oV (vLoad ty150 (ptrTo i_1) H_21) fun t17_22 =>
oRC Tryd.prog 120 [t17_22, (.func (.func 125) #[] #[(ptrTo i_1), (ptrTo i_19)])] H_21 (fun c H => Q (.panicked c) H) fun v_23 H_24 =>
oV (vLoad ty150 (ptrTo i_1) H_24) fun t20_25 =>
oV (vNil t20_25) fun t21_26 =>
oV (vField 0 t21_26) fun t22_27 =>
oV (vLoad ty35 t22_27 H_24) fun t23_28 =>
oV (vLoad ty44 (ptrTo i_19) H_24) fun t24_29 =>
oRC Tryd.prog 47 [t23_28, t24_29] H_24 noP fun v_30 H_31 =>
oNew (Value.cells ty44.zero).toList (Value.cells ty44.zero).toList.length 44 H_31 fun i_32 H_33 =>
oHeap (vStore ty44 (ptrTo i_32) v_30 H_33) fun H_34 =>
oV (vLoad ty150 (ptrTo i_1) H_34) fun t26_35 =>
oRC Tryd.prog 120 [t26_35, (.func (.func 127) #[] #[(ptrTo i_1), (ptrTo i_32), (ptrTo i_9)])] H_34 (fun c H => Q (.panicked c) H) fun v_36 H_37 =>
Q (.returned (.tuple #[])) H_37
theorem c104_0 (env : Env) (H : Heap) (Q : QT) (h : m104 (env 0) H Q) :
    RCode Tryd.prog 29 (bodyOf Tryd.f104) env H (mkK (retK T Tryd.f104.results.toList Q) (fun _ _ _ => False) (retK T Tryd.f104.results.toList Q) (fun c H => Q (.panicked c) H)) :=
  RCode.leaf_ (T := T) (X := ext) (hint := hint104) tok xok mixed (by kernel_rfl) h
theorem call104 (a0 : Value) (H : Heap) (Q : QT) (h : m104 a0 H Q) : RCalls Tryd.prog 104 [a0] H Q :=
  RCalls.intro (nt := 29) tok Tryd.func104 (by kernel_rfl) (by kernel_rfl) (by kernel_rfl) (of_decide_eq_true (by kernel_rfl)) (c104_0 (envOf [a0]) H Q h)
def hint144 : Nat → List Nat := lookupL [(5, [0, 1, 2, 3, 5, 6, 7, 8, 4, 9, 10])]
def m144_1 (x7 : Value) (H : Heap) (Q : QT) : Prop :=
Q (.returned x7) H
theorem c144_1 (env : Env) (H : Heap) (Q : QT) (h : m144_1 (env 7) H Q) :
    RCode Tryd.prog 27 (codeAt [1, 1, 1] (bodyOf Tryd.f144)) env H (mkK (retK T Tryd.f144.results.toList Q) (fun _ _ _ => False) (retK T Tryd.f144.results.toList Q) (fun c H => Q (.panicked c) H)) :=
  RCode.leaf_ (T := T) (X := ext) (hint := hint144) tok xok mixed (by kernel_rfl) h
def L144_3 (x0 x1 x2 x7 x8 : Value) (H : Heap) (kn : K1T) (Q : QT) : Prop :=
  ∀ env : Env, env 0 = x0 → env 1 = x1 → env 2 = x2 → env 7 = x7 → env 8 = x8 → RLoop Tryd.prog 27 (codeAt [1, 1, 0, 1, 0, 0] (bodyOf Tryd.f144)) env H (mkK (fun _ _ => False) (inK 0 (fun e H => kn (e 7) H) (fun _ _ _ => False)) (retK T Tryd.f144.results.toList Q) (fun c H => Q (.panicked c) H))
theorem cL144_3 (env : Env) (H : Heap) (kn : K1T) (Q : QT) (h : L144_3 (env 0) (env 1) (env 2) (env 7) (env 8) H kn Q) :
    RCode Tryd.prog 27 (codeAt [1, 1, 0, 1] (bodyOf Tryd.f144)) env H (mkK (fun e H => kn (e 7) H) (fun _ _ _ => False) (retK T Tryd.f144.results.toList Q) (fun c H => Q (.panicked c) H)) :=
  RCode.blk (by kernel_rfl : (codeAt [1, 1, 0, 1] (bodyOf Tryd.f144)) = .block 0 (codeAt [1, 1, 0, 1, 0] (bodyOf Tryd.f144))) (RCode.lp (by kernel_rfl : (codeAt [1, 1, 0, 1, 0] (bodyOf Tryd.f144)) = .loop (codeAt [1, 1, 0, 1, 0, 0] (bodyOf Tryd.f144))) ((h env rfl rfl rfl rfl rfl).mono (mkK_mono (fun _ _ h => h.elim) (fun _ _ _ h => h) (fun _ _ h => h) (fun _ _ h => h))))
def m144_4 (x0 x1 x2 x7 x8 : Value) (H : Heap) (kn : K5T) (kx0 : K1T) (Q : QT) : Prop :=
oV (vInt .geq x8 (.int .i64 0)) fun t13_1 =>
condK t13_1 (
oV (vIdxS 1 x1 x8) fun t23_2 =>
oV (vLoad ty22 t23_2 H) fun t24_3 =>
oRC Tryd.prog 139 [x0, x7, x2] H noP fun v_4 H_5 =>
(vLoad ty22 t23_2 H_5 = some t24_3 ∧
oRC Tryd.prog 137 [x0, v_4, t24_3] H_5 noP fun v_6 H_7 =>
oV (vInt .sub x8 (.int .i64 1)) fun t15_8 =>
kn x0 x1 x2 v_6 t15_8 H_7)) (
kx0 x7 H)
theorem c144_4 (env : Env) (H : Heap) (kn : K5T) (kx0 : K1T) (Q : QT) (h : m144_4 (env 0) (env 1) (env 2) (env 7) (env 8) H kn kx0 Q) :
    RCode Tryd.prog 27 (codeAt [1, 1, 0, 1, 0, 0] (bodyOf Tryd.f144)) env H (mkK (fun e H => kn (e 0) (e 1) (e 2) (e 7) (e 8) H) (inK 0 (fun e H => kx0 (e 7) H) (fun _ _ _ => False)) (retK T Tryd.f144.results.toList Q) (fun c H => Q (.panicked c) H)) :=
  RCode.leaf_ (T := T) (X := ext) (hint := hint144) tok xok mixed (by kernel_rfl) h
theorem L144_3_round (x0 x1 x2 x7 x8 : Value) (H : Heap) (kn : K1T) (Q : QT) (h : m144_4 x0 x1 x2 x7 x8 H (fun y0 y1 y2 y7 y8 H => L144_3 y0 y1 y2 y7 y8 H kn Q) kn Q) : L144_3 x0 x1 x2 x7 x8 H kn Q := by
  intro env h0 h1 h2 h7 h8
  subst h0; subst h1; subst h2; subst h7; subst h8
  exact RLoop.round ((c144_4 env H (fun y0 y1 y2 y7 y8 H => L144_3 y0 y1 y2 y7 y8 H kn Q) kn Q h).mono (mkK_mono (fun e H h => h e rfl rfl rfl rfl rfl) (fun _ _ _ h => h) (fun _ _ h => h) (fun _ _ h => h)))
def m144_2 (x0 x1 x2 x7 : Value) (H : Heap) (kn : K1T) (Q : QT) : Prop :=
oV (vLen x1) fun t10_9 =>
oV (vInt .sub t10_9 (.int .i64 1)) fun t11_10 =>
L144_3 x0 x1 x2 x7 t11_10 H kn Q
theorem c144_2 (env : Env) (H : Heap) (kn : K1T) (Q : QT) (h : m144_2 (env 0) (env 1) (env 2) (env 7) H kn Q) :
    RCode Tryd.prog 27 (codeAt [1, 1, 0] (bodyOf Tryd.f144)) env H (mkK (fun e H => kn (e 7) H) (fun _ _ _ => False) (retK T Tryd.f144.results.toList Q) (fun c H => Q (.panicked c) H)) :=
  RCode.prefix_ (T := T) (X := ext) (hint := hint144) (hole := (fun e H => L144_3 (e 0) (e 1) (e 2) (e 7) (e 8) H kn Q)) tok xok mixed 1 (by kernel_rfl) (by kernel_rfl : codeAt _ _ = (codeAt [1, 1, 0, 1] (bodyOf Tryd.f144))) h
    (fun e H h => (cL144_3 e H kn Q h))
def m144 (x0 x1 x2 : Value) (H : Heap) (Q : QT) : Prop :=
m144_2 x0 x1 x2 (.int .u64 0) H (fun y7_11 H_12 => m144_1 y7_11 H_12 Q) Q
theorem c144_0 (env : Env) (H : Heap) (Q : QT) (h : m144 (env 0) (env 1) (env 2) H Q) :
    RCode Tryd.prog 27 (bodyOf Tryd.f144) env H (mkK (retK T Tryd.f144.results.toList Q) (fun _ _ _ => False) (retK T Tryd.f144.results.toList Q) (fun c H => Q (.panicked c) H)) :=
  RCode.prefix_ (T := T) (X := ext) (hint := hint144) (hole := (fun e H => m144_2 (e 0) (e 1) (e 2) (e 7) H (fun y7_13 H_14 => m144_1 y7_13 H_14 Q) Q)) tok xok mixed 2 (by kernel_rfl) (by kernel_rfl : codeAt _ _ = (codeAt [1, 1] (bodyOf Tryd.f144))) h
    (fun e H h => RCode.join (by kernel_rfl : (codeAt [1, 1] (bodyOf Tryd.f144)) = .seq (codeAt [1, 1, 0] (bodyOf Tryd.f144)) (codeAt [1, 1, 1] (bodyOf Tryd.f144))) ((c144_2 e H (fun y7_15 H_16 => m144_1 y7_15 H_16 Q) Q h).mono (mkK_mono (fun e H h => c144_1 e H Q h) (fun _ _ _ h => h) (fun _ _ h => h) (fun _ _ h => h))))
theorem call144 (a0 a1 a2 : Value) (H : Heap) (Q : QT) (h : m144 a0 a1 a2 H Q) : RCalls Tryd.prog 144 [a0, a1, a2] H Q :=
  RCalls.intro (nt := 27) tok Tryd.func144 (by kernel_rfl) (by kernel_rfl) (by kernel_rfl) (of_decide_eq_true (by kernel_rfl)) (c144_0 (envOf [a0, a1, a2]) H Q h)
def hint132 : Nat → List Nat := lookupL []
def m132_1 (x7 : Value) (H : Heap) (Q : QT) : Prop :=
Q (.returned x7) H
theorem c132_1 (env : Env) (H : Heap) (Q : QT) (h : m132_1 (env 7) H Q) :
    RCode Tryd.prog 46 (codeAt [1, 1, 1] (bodyOf Tryd.f132)) env H (mkK (retK T Tryd.f132.results.toList Q) (fun _ _ _ => False) (retK T Tryd.f132.results.toList Q) (fun c H => Q (.panicked c) H)) :=
  RCode.leaf_ (T := T) (X := ext) (hint := hint132) tok xok mixed (by kernel_rfl) h
def L132_3 (x0 x2 x7 x19 x20 x21 : Value) (H : Heap) (kn : K1T) (Q : QT) : Prop :=
  ∀ env : Env, env 0 = x0 → env 2 = x2 → env 7 = x7 → env 19 = x19 → env 20 = x20 → env 21 = x21 → RLoop Tryd.prog 46 (codeAt [1, 1, 0, 1, 0, 0] (bodyOf Tryd.f132)) env H (mkK (fun _ _ => False) (inK 0 (fun e H => kn (e 7) H) (fun _ _ _ => False)) (retK T Tryd.f132.results.toList Q) (fun c H => Q (.panicked c) H))
theorem cL132_3 (env : Env) (H : Heap) (kn : K1T) (Q : QT) (h : L132_3 (env 0) (env 2) (env 7) (env 19) (env 20) (env 21) H kn Q) :
    RCode Tryd.prog 46 (codeAt [1, 1, 0, 1] (bodyOf Tryd.f132)) env H (mkK (fun e H => kn (e 7) H) (fun _ _ _ => False) (retK T Tryd.f132.results.toList Q) (fun c H => Q (.panicked c) H)) :=
  RCode.blk (by kernel_rfl : (codeAt [1, 1, 0, 1] (bodyOf Tryd.f132)) = .block 0 (codeAt [1, 1, 0, 1, 0] (bodyOf Tryd.f132))) (RCode.lp (by kernel_rfl : (codeAt [1, 1, 0, 1, 0] (bodyOf Tryd.f132)) = .loop (codeAt [1, 1, 0, 1, 0, 0] (bodyOf Tryd.f132))) ((h env rfl rfl rfl rfl rfl rfl).mono (mkK_mono (fun _ _ h => h.elim) (fun _ _ _ h => h) (fun _ _ h => h) (fun _ _ h => h))))
def m132_5 (x0 x2 x7 x19 x20 x21 : Value) (H : Heap) (kn : K6T) (kx0 : K1T) (Q : QT) : Prop :=
oV (vInt .add x21 (.int .i64 1)) fun t44_1 =>
kn x0 x2 x7 x19 x20 t44_1 H
theorem c132_5 (env : Env) (H : Heap) (kn : K6T) (kx0 : K1T) (Q : QT) (h : m132_5 (env 0) (env 2) (env 7) (env 19) (env 20) (env 21) H kn kx0 Q) :
    RCode Tryd.prog 46 (codeAt [1, 1, 0, 1, 0, 0, 1, 1, 1] (bodyOf Tryd.f132)) env H (mkK (fun e H => kn (e 0) (e 2) (e 7) (e 19) (e 20) (e 21) H) (inK 0 (fun e H => kx0 (e 7) H) (fun _ _ _ => False)) (retK T Tryd.f132.results.toList Q) (fun c H => Q (.panicked c) H)) :=
  RCode.leaf_ (T := T) (X := ext) (hint := hint132) tok xok mixed (by kernel_rfl) h
def L132_8 (x0 x2 x7 x19 x20 x21 x25 x26 x27 : Value) (H : Heap) (kn : K6T) (kx1 : K6T) (kx0 : K1T) (Q : QT) : Prop :=
  ∀ env : Env, env 0 = x0 → env 2 = x2 → env 7 = x7 → env 19 = x19 → env 20 = x20 → env 21 = x21 → env 25 = x25 → env 26 = x26 → env 27 = x27 → RLoop Tryd.prog 46 (codeAt [1, 1, 0, 1, 0, 0, 1, 1, 0, 0, 1, 1, 0, 0] (bodyOf Tryd.f132)) env H (mkK (fun _ _ => False) (inK 2 (fun e H => kn (e 0) (e 2) (e 7) (e 19) (e 20) (e 21) H) (inK 1 (fun e H => kx1 (e 0) (e 2) (e 7) (e 19) (e 20) (e 21) H) (inK 0 (fun e H => kx0 (e 7) H) (fun _ _ _ => False)))) (retK T Tryd.f132.results.toList Q) (fun c H => Q (.panicked c) H))
theorem cL132_8 (env : Env) (H : Heap) (kn : K6T) (kx1 : K6T) (kx0 : K1T) (Q : QT) (h : L132_8 (env 0) (env 2) (env 7) (env 19) (env 20) (env 21) (env 25) (env 26) (env 27) H kn kx1 kx0 Q) :
    RCode Tryd.prog 46 (codeAt [1, 1, 0, 1, 0, 0, 1, 1, 0, 0, 1, 1] (bodyOf Tryd.f132)) env H (mkK (fun e H => kn (e 0) (e 2) (e 7) (e 19) (e 20) (e 21) H) (inK 1 (fun e H => kx1 (e 0) (e 2) (e 7) (e 19) (e 20) (e 21) H) (inK 0 (fun e H => kx0 (e 7) H) (fun _ _ _ => False))) (retK T Tryd.f132.results.toList Q) (fun c H => Q (.panicked c) H)) :=
  RCode.blk (by kernel_rfl : (codeAt [1, 1, 0, 1, 0, 0, 1, 1, 0, 0, 1, 1] (bodyOf Tryd.f132)) = .block 2 (codeAt [1, 1, 0, 1, 0, 0, 1, 1, 0, 0, 1, 1, 0] (bodyOf Tryd.f132))) (RCode.lp (by kernel_rfl : (codeAt [1, 1, 0, 1, 0, 0, 1, 1, 0, 0, 1, 1, 0] (bodyOf Tryd.f132)) = .loop (codeAt [1, 1, 0, 1, 0, 0, 1, 1, 0, 0, 1, 1, 0, 0] (bodyOf Tryd.f132))) ((h env rfl rfl rfl rfl rfl rfl rfl rfl rfl).mono (mkK_mono (fun _ _ h => h.elim) (fun _ _ _ h => h) (fun _ _ h => h) (fun _ _ h => h))))
def m132_9 (x0 x2 x7 x19 x20 x21 x25 x26 x27 : Value) (H : Heap) (kn : K9T) (kx2 : K6T) (kx1 : K6T) (kx0 : K1T) (Q : QT) : Prop :=
oV (vInt .lss x27 x26) fun t28_2 =>
condK t28_2 (
oV (vIdxS 1 x25 x27) fun t29_3 =>
oV (vLoad ty52 t29_3 H) fun t30_4 =>
oV (vNil x0) fun t33_5 =>
oV (vField 1 t33_5) fun t34_6 =>
oV (vField 0 t34_6) fun t35_7 =>
oV (vLoad ty22 t35_7 H) fun t36_8 =>
oV (vConv (.int .u64) x2) fun t39_9 =>
oRC Tryd.prog 144 [t36_8, t30_4, t39_9] H (fun c H => Q (.panicked c) H) fun v_10 H_11 =>
oBuildS ty22 22 1 [((0, 1), v_10)] H_11 fun s_12 H_13 =>
oAppend ty22 22 x7 s_12 H_13 fun v_14 H_15 =>
oV (vInt .add x27 (.int .i64 1)) fun t43_16 =>
kn x0 x2 v_14 x19 x20 x21 x25 x26 t43_16 H_15) (
kx2 x0 x2 x7 x19 x20 x21 H)
theorem c132_9 (env : Env) (H : Heap) (kn : K9T) (kx2 : K6T) (kx1 : K6T) (kx0 : K1T) (Q : QT) (h : m132_9 (env 0) (env 2) (env 7) (env 19) (env 20) (env 21) (env 25) (env 26) (env 27) H kn kx2 kx1 kx0 Q) :
    RCode Tryd.prog 46 (codeAt [1, 1, 0, 1, 0, 0, 1, 1, 0, 0, 1, 1, 0, 0] (bodyOf Tryd.f132)) env H (mkK (fun e H => kn (e 0) (e 2) (e 7) (e 19) (e 20) (e 21) (e 25) (e 26) (e 27) H) (inK 2 (fun e H => kx2 (e 0) (e 2) (e 7) (e 19) (e 20) (e 21) H) (inK 1 (fun e H => kx1 (e 0) (e 2) (e 7) (e 19) (e 20) (e 21) H) (inK 0 (fun e H => kx0 (e 7) H) (fun _ _ _ => False)))) (retK T Tryd.f132.results.toList Q) (fun c H => Q (.panicked c) H)) :=
  RCode.leaf_ (T := T) (X := ext) (hint := hint132) tok xok mixed (by kernel_rfl) h
theorem L132_8_round (x0 x2 x7 x19 x20 x21 x25 x26 x27 : Value) (H : Heap) (kn : K6T) (kx1 : K6T) (kx0 : K1T) (Q : QT) (h : m132_9 x0 x2 x7 x19 x20 x21 x25 x26 x27 H (fun y0 y2 y7 y19 y20 y21 y25 y26 y27 H => L132_8 y0 y2 y7 y19 y20 y21 y25 y26 y27 H kn kx1 kx0 Q) kn kx1 kx0 Q) : L132_8 x0 x2 x7 x19 x20 x21 x25 x26 x27 H kn kx1 kx0 Q := by
  intro env h0 h2 h7 h19 h20 h21 h25 h26 h27
  subst h0; subst h2; subst h7; subst h19; subst h20; subst h21; subst h25; subst h26; subst h27
  exact RLoop.round ((c132_9 env H (fun y0 y2 y7 y19 y20 y21 y25 y26 y27 H => L132_8 y0 y2 y7 y19 y20 y21 y25 y26 y27 H kn kx1 kx0 Q) kn kx1 kx0 Q h).mono (mkK_mono (fun e H h => h e rfl rfl rfl rfl rfl rfl rfl rfl rfl) (fun _ _ _ h => h) (fun _ _ h => h) (fun _ _ h => h)))
def m132_7 (x0 x2 x7 x19 x20 x21 : Value) (H : Heap) (kn : K6T) (kx1 : K6T) (kx0 : K1T) (Q : QT) : Prop :=
oV (vIdxS 1 x19 x21) fun t23_17 =>
oV (vLoad ty27 t23_17 H) fun t24_18 =>
oV (vLen t24_18) fun t26_19 =>
L132_8 x0 x2 x7 x19 x20 x21 t24_18 t26_19 (.int .i64 0) H kn kx1 kx0 Q
theorem c132_7 (env : Env) (H : Heap) (kn : K6T) (kx1 : K6T) (kx0 : K1T) (Q : QT) (h : m132_7 (env 0) (env 2) (env 7) (env 19) (env 20) (env 21) H kn kx1 kx0 Q) :
    RCode Tryd.prog 46 (codeAt [1, 1, 0, 1, 0, 0, 1, 1, 0, 0] (bodyOf Tryd.f132)) env H (mkK (fun e H => kn (e 0) (e 2) (e 7) (e 19) (e 20) (e 21) H) (inK 1 (fun e H => kx1 (e 0) (e 2) (e 7) (e 19) (e 20) (e 21) H) (inK 0 (fun e H => kx0 (e 7) H) (fun _ _ _ => False))) (retK T Tryd.f132.results.toList Q) (fun c H => Q (.panicked c) H)) :=
  RCode.prefix_ (T := T) (X := ext) (hint := hint132) (hole := (fun e H => L132_8 (e 0) (e 2) (e 7) (e 19) (e 20) (e 21) (e 25) (e 26) (e 27) H kn kx1 kx0 Q)) tok xok mixed 2 (by kernel_rfl) (by kernel_rfl : codeAt _ _ = (codeAt [1, 1, 0, 1, 0, 0, 1, 1, 0, 0, 1, 1] (bodyOf Tryd.f132))) h
    (fun e H h => (cL132_8 e H kn kx1 kx0 Q h))
def m132_6 (x0 x2 x7 x19 x20 x21 : Value) (H : Heap) (kn : K6T) (kx0 : K1T) (Q : QT) : Prop :=
m132_7 x0 x2 x7 x19 x20 x21 H kn kn kx0 Q
theorem c132_6 (env : Env) (H : Heap) (kn : K6T) (kx0 : K1T) (Q : QT) (h : m132_6 (env 0) (env 2) (env 7) (env 19) (env 20) (env 21) H kn kx0 Q) :
    RCode Tryd.prog 46 (codeAt [1, 1, 0, 1, 0, 0, 1, 1, 0] (bodyOf Tryd.f132)) env H (mkK (fun e H => kn (e 0) (e 2) (e 7) (e 19) (e 20) (e 21) H) (inK 0 (fun e H => kx0 (e 7) H) (fun _ _ _ => False)) (retK T Tryd.f132.results.toList Q) (fun c H => Q (.panicked c) H)) :=
  RCode.blk (by kernel_rfl : (codeAt [1, 1, 0, 1, 0, 0, 1, 1, 0] (bodyOf Tryd.f132)) = .block 1 (codeAt [1, 1, 0, 1, 0, 0, 1, 1, 0, 0] (bodyOf Tryd.f132))) (c132_7 env H kn kn kx0 Q h)
def m132_4 (x0 x2 x7 x19 x20 x21 : Value) (H : Heap) (kn : K6T) (kx0 : K1T) (Q : QT) : Prop :=
oV (vInt .lss x21 x20) fun t22_20 =>
condK t22_20 (
m132_6 x0 x2 x7 x19 x20 x21 H (fun y0_21 y2_22 y7_23 y19_24 y20_25 y21_26 H_27 => m132_5 y0_21 y2_22 y7_23 y19_24 y20_25 y21_26 H_27 kn kx0 Q) kx0 Q) (
kx0 x7 H)
theorem c132_4 (env : Env) (H : Heap) (kn : K6T) (kx0 : K1T) (Q : QT) (h : m132_4 (env 0) (env 2) (env 7) (env 19) (env 20) (env 21) H kn kx0 Q) :
    RCode Tryd.prog 46 (codeAt [1, 1, 0, 1, 0, 0] (bodyOf Tryd.f132)) env H (mkK (fun e H => kn (e 0) (e 2) (e 7) (e 19) (e 20) (e 21) H) (inK 0 (fun e H => kx0 (e 7) H) (fun _ _ _ => False)) (retK T Tryd.f132.results.toList Q) (fun c H => Q (.panicked c) H)) :=
  RCode.prefix_ (T := T) (X := ext) (hint := hint132) (hole := (fun e H => m132_6 (e 0) (e 2) (e 7) (e 19) (e 20) (e 21) H (fun y0_28 y2_29 y7_30 y19_31 y20_32 y21_33 H_34 => m132_5 y0_28 y2_29 y7_30 y19_31 y20_32 y21_33 H_34 kn kx0 Q) kx0 Q)) tok xok mixed 2 (by kernel_rfl) (by kernel_rfl : codeAt _ _ = (codeAt [1, 1, 0, 1, 0, 0, 1, 1] (bodyOf Tryd.f132))) h
    (fun e H h => RCode.join (by kernel_rfl : (codeAt [1, 1, 0, 1, 0, 0, 1, 1] (bodyOf Tryd.f132)) = .seq (codeAt [1, 1, 0, 1, 0, 0, 1, 1, 0] (bodyOf Tryd.f132)) (codeAt [1, 1, 0, 1, 0, 0, 1, 1, 1] (bodyOf Tryd.f132))) ((c132_6 e H (fun y0_35 y2_36 y7_37 y19_38 y20_39 y21_40 H_41 => m132_5 y0_35 y2_36 y7_37 y19_38 y20_39 y21_40 H_41 kn kx0 Q) kx0 Q h).mono (mkK_mono (fun e H h => c132_5 e H kn kx0 Q h) (fun _ _ _ h => h) (fun _ _ h => h) (fun _ _ h => h))))
theorem L132_3_round (x0 x2 x7 x19 x20 x21 : Value) (H : Heap) (kn : K1T) (Q : QT) (h : m132_4 x0 x2 x7 x19 x20 x21 H (fun y0 y2 y7 y19 y20 y21 H => L132_3 y0 y2 y7 y19 y20 y21 H kn Q) kn Q) : L132_3 x0 x2 x7 x19 x20 x21 H kn Q := by
  intro env h0 h2 h7 h19 h20 h21
  subst h0; subst h2; subst h7; subst h19; subst h20; subst h21
  exact RLoop.round ((c132_4 env H (fun y0 y2 y7 y19 y20 y21 H => L132_3 y0 y2 y7 y19 y20 y21 H kn Q) kn Q h).mono (mkK_mono (fun e H h => h e rfl rfl rfl rfl rfl rfl) (fun _ _ _ h => h) (fun _ _ h => h) (fun _ _ h => h)))
def m132_2 (x0 x1 x2 x7 : Value) (H : Heap) (kn : K1T) (Q : QT) : Prop :=
oV (vNil x0) fun t13_42 =>
oV (vField 5 t13_42) fun t14_43 =>
oV (vField 1 t14_43) fun t15_44 =>
oV (vLoad ty69 t15_44 H) fun t16_45 =>
oV (vIdxS 1 t16_45 x1) fun t18_46 =>
oV (vLoad ty44 t18_46 H) fun t19_47 =>
oV (vLen t19_47) fun t20_48 =>
L132_3 x0 x2 x7 t19_47 t20_48 (.int .i64 0) H kn Q
theorem c132_2 (env : Env) (H : Heap) (kn : K1T) (Q : QT) (h : m132_2 (env 0) (env 1) (env 2) (env 7) H kn Q) :
    RCode Tryd.prog 46 (codeAt [1, 1, 0] (bodyOf Tryd.f132)) env H (mkK (fun e H => kn (e 7) H) (fun _ _ _ => False) (retK T Tryd.f132.results.toList Q) (fun c H => Q (.panicked c) H)) :=
  RCode.prefix_ (T := T) (X := ext) (hint := hint132) (hole := (fun e H => L132_3 (e 0) (e 2) (e 7) (e 19) (e 20) (e 21) H kn Q)) tok xok mixed 1 (by kernel_rfl) (by kernel_rfl : codeAt _ _ = (codeAt [1, 1, 0, 1] (bodyOf Tryd.f132))) h
    (fun e H h => (cL132_3 e H kn Q h))
def m132 (x0 x1 x2 : Value) (H : Heap) (Q : QT) : Prop :=
m132_2 x0 x1 x2 (.slice none 0 0) H (fun y7_49 H_50 => m132_1 y7_49 H_50 Q) Q
theorem c132_0 (env : Env) (H : Heap) (Q : QT) (h : m132 (env 0) (env 1) (env 2) H Q) :
    RCode Tryd.prog 46 (bodyOf Tryd.f132) env H (mkK (retK T Tryd.f132.results.toList Q) (fun _ _ _ => False) (retK T Tryd.f132.results.toList Q) (fun c H => Q (.panicked c) H)) :=
  RCode.prefix_ (T := T) (X := ext) (hint := hint132) (hole := (fun e H => m132_2 (e 0) (e 1) (e 2) (e 7) H (fun y7_51 H_52 => m132_1 y7_51 H_52 Q) Q)) tok xok mixed 2 (by kernel_rfl) (by kernel_rfl : codeAt _ _ = (codeAt [1, 1] (bodyOf Tryd.f132))) h
    (fun e H h => RCode.join (by kernel_rfl : (codeAt [1, 1] (bodyOf Tryd.f132)) = .seq (codeAt [1, 1, 0] (bodyOf Tryd.f132)) (codeAt [1, 1, 1] (bodyOf Tryd.f132))) ((c132_2 e H (fun y7_53 H_54 => m132_1 y7_53 H_54 Q) Q h).mono (mkK_mono (fun e H h => c132_1 e H Q h) (fun _ _ _ h => h) (fun _ _ h => h) (fun _ _ h => h))))
theorem call132 (a0 a1 a2 : Value) (H : Heap) (Q : QT) (h : m132 a0 a1 a2 H Q) : RCalls Tryd.prog 132 [a0, a1, a2] H Q :=
  RCalls.intro (nt := 46) tok Tryd.func132 (by kernel_rfl) (by kernel_rfl) (by kernel_rfl) (of_decide_eq_true (by kernel_rfl)) (c132_0 (envOf [a0, a1, a2]) H Q h)
def hint131 : Nat → List Nat := lookupL [(3, [0, 1, 2, 3, 4, 5, 6, 7, 8, 9, 10, 11, 12, 13])]
def L131_1 (x0 x1 x2 x4 : Value) (H : Heap) (kn : K0T) (Q : QT) : Prop :=
  ∀ env : Env, env 0 = x0 → env 1 = x1 → env 2 = x2 → env 4 = x4 → RLoop Tryd.prog 27 (codeAt [1, 0, 0] (bodyOf Tryd.f131)) env H (mkK (fun _ _ => False) (inK 0 (fun e H => kn H) (fun _ _ _ => False)) (retK T Tryd.f131.results.toList Q) (fun c H => Q (.panicked c) H))
theorem cL131_1 (env : Env) (H : Heap) (kn : K0T) (Q : QT) (h : L131_1 (env 0) (env 1) (env 2) (env 4) H kn Q) :
    RCode Tryd.prog 27 (codeAt [1] (bodyOf Tryd.f131)) env H (mkK (fun e H => kn H) (fun _ _ _ => False) (retK T Tryd.f131.results.toList Q) (fun c H => Q (.panicked c) H)) :=
  RCode.blk (by kernel_rfl : (codeAt [1] (bodyOf Tryd.f131)) = .block 0 (codeAt [1, 0] (bodyOf Tryd.f131))) (RCode.lp (by kernel_rfl : (codeAt [1, 0] (bodyOf Tryd.f131)) = .loop (codeAt [1, 0, 0] (bodyOf Tryd.f131))) ((h env rfl rfl rfl rfl).mono (mkK_mono (fun _ _ h => h.elim) (fun _ _ _ h => h) (fun _ _ h => h) (fun _ _ h => h))))
def m131_2 (x0 x1 x2 x4 : Value) (H : Heap) (kn : K4T) (kx0 : K0T) (Q : QT) : Prop :=
oV (vLoad ty150 x1 H) fun t6_1 =>
oV (vNil t6_1) fun t7_2 =>
oV (vField 1 t7_2) fun t8_3 =>
oV (vField 1 t8_3) fun t9_4 =>
oV (vLoad ty3 t9_4 H) fun t10_5 =>
oV (vInt .leq x4 t10_5) fun t11_6 =>
condK t11_6 (
oV (vLoad ty44 x2 H) fun t14_7 =>
oV (vLoad ty44 x2 H) fun t16_8 =>
oV (vIdxS 1 t16_8 x0) fun t18_9 =>
oV (vLoad ty27 t18_9 H) fun t19_10 =>
oV (vLoad ty150 x1 H) fun t20_11 =>
oRC Tryd.prog 132 [t20_11, x0, x4] H noP fun v_12 H_13 =>
(vLoad ty27 t18_9 H_13 = some t19_10 ∧
(vLoad ty44 x2 H_13 = some t16_8 ∧
(vLoad ty44 x2 H_13 = some t14_7 ∧
oBuildS ty52 52 1 [((0, 1), v_12)] H_13 fun s_14 H_15 =>
oAppend ty52 52 t19_10 s_14 H_15 fun v_16 H_17 =>
(vLoad ty44 x2 H_17 = some t14_7 ∧
oV (vIdxS 1 t14_7 x0) fun t26_18 =>
oHeap (vStore ty27 t26_18 v_16 H_17) fun H_19 =>
oV (vInt .add x4 (.int .i64 1)) fun t13_20 =>
kn x0 x1 x2 t13_20 H_19))))) (
kx0 H)
theorem c131_2 (env : Env) (H : Heap) (kn : K4T) (kx0 : K0T) (Q : QT) (h : m131_2 (env 0) (env 1) (env 2) (env 4) H kn kx0 Q) :
    RCode Tryd.prog 27 (codeAt [1, 0, 0] (bodyOf Tryd.f131)) env H (mkK (fun e H => kn (e 0) (e 1) (e 2) (e 4) H) (inK 0 (fun e H => kx0 H) (fun _ _ _ => False)) (retK T Tryd.f131.results.toList Q) (fun c H => Q (.panicked c) H)) :=
  RCode.leaf_ (T := T) (X := ext) (hint := hint131) tok xok mixed (by kernel_rfl) h
theorem L131_1_round (x0 x1 x2 x4 : Value) (H : Heap) (kn : K0T) (Q : QT) (h : m131_2 x0 x1 x2 x4 H (fun y0 y1 y2 y4 H => L131_1 y0 y1 y2 y4 H kn Q) kn Q) : L131_1 x0 x1 x2 x4 H kn Q := by
  intro env h0 h1 h2 h4
  subst h0; subst h1; subst h2; subst h4
  exact RLoop.round ((c131_2 env H (fun y0 y1 y2 y4 H => L131_1 y0 y1 y2 y4 H kn Q) kn Q h).mono (mkK_mono (fun e H h => h e rfl rfl rfl rfl) (fun _ _ _ h => h) (fun _ _ h => h) (fun _ _ h => h)))
def m131 (x0 x1 x2 : Value) (H : Heap) (Q : QT) : Prop :=
L131_1 x0 x1 x2 (.int .i64 1) H (fun H_21 => Q (.returned (.tuple #[])) H_21) Q
theorem c131_0 (env : Env) (H : Heap) (Q : QT) (h : m131 (env 0) (env 1) (env 2) H Q) :
    RCode Tryd.prog 27 (bodyOf Tryd.f131) env H (mkK (retK T Tryd.f131.results.toList Q) (fun _ _ _ => False) (retK T Tryd.f131.results.toList Q) (fun c H => Q (.panicked c) H)) :=
  RCode.prefix_ (T := T) (X := ext) (hint := hint131) (hole := (fun e H => L131_1 (e 0) (e 1) (e 2) (e 4) H (fun H_22 => Q (.returned (.tuple #[])) H_22) Q)) tok xok mixed 1 (by kernel_rfl) (by kernel_rfl : codeAt _ _ = (codeAt [1] (bodyOf Tryd.f131))) h
    (fun e H h => ((cL131_1 e H (fun H_23 => Q (.returned (.tuple #[])) H_23) Q h).mono (mkK_mono (fun e H h => h) (fun _ _ _ h => h) (fun _ _ h => h) (fun _ _ h => h))))
theorem call131 (a0 a1 a2 : Value) (H : Heap) (Q : QT) (h : m131 a0 a1 a2 H Q) : RCalls Tryd.prog 131 [a0, a1, a2] H Q :=
  RCalls.intro (nt := 27) tok Tryd.func131 (by kernel_rfl) (by kernel_rfl) (by kernel_rfl) (of_decide_eq_true (by kernel_rfl)) (c131_0 (envOf [a0, a1, a2]) H Q h)
def hint106 : Nat → List Nat := lookupL [(3, [0, 1, 2, 3, 4, 5, 6])]
def m106 (x0 : Value) (H : Heap) (Q : QT) : Prop :=
oNew (Value.cells x0).toList (Value.cells x0).toList.length 150 H fun i_1 H_2 =>
oV (vLoad ty150 (ptrTo i_1) H_2) fun t4_3 =>
oV (vNil t4_3) fun t5_4 =>
oV (vField 1 t5_4) fun t6_5 =>
oV (vField 1 t6_5) fun t7_6 =>
oV (vLoad ty3 t7_6 H_2) fun t8_7 =>
oMake ty27 27 t8_7 t8_7 H_2 fun s_8 H_9 =>
oNew (Value.cells ty44.zero).toList (Value.cells ty44.zero).toList.length 44 H_9 fun i_10 H_11 =>
oHeap (vStore ty44 (ptrTo i_10) s_8 H_11) fun H_12 =>
oV (vLoad ty150 (ptrTo i_1) H_12) fun t10_13 =>
oRC Tryd.prog 120 [t10_13, (.func (.func 131) #[] #[(ptrTo i_1), (ptrTo i_10)])] H_12 (fun c H => Q (.panicked c) H) fun v_14 H_15 =>
oV (vLoad ty150 (ptrTo i_1) H_15) fun t13_16 =>
oV (vNil t13_16) fun t14_17 =>
oV (vField 0 t14_17) fun t15_18 =>
oV (vLoad ty35 t15_18 H_15) fun t16_19 =>
oV (vLoad ty44 (ptrTo i_10) H_15) fun t17_20 =>
oRC Tryd.prog 47 [t16_19, t17_20] H_15 noP fun v_21 H_22 =>
Q (.returned v_21) H_22
theorem c106_0 (env : Env) (H : Heap) (Q : QT) (h : m106 (env 0) H Q) :
    RCode Tryd.prog 19 (bodyOf Tryd.f106) env H (mkK (retK T Tryd.f106.results.toList Q) (fun _ _ _ => False) (retK T Tryd.f106.results.toList Q) (fun c H => Q (.panicked c) H)) :=
  RCode.leaf_ (T := T) (X := ext) (hint := hint106) tok xok mixed (by kernel_rfl) h
theorem call106 (a0 : Value) (H : Heap) (Q : QT) (h : m106 a0 H Q) : RCalls Tryd.prog 106 [a0] H Q :=
  RCalls.intro (nt := 19) tok Tryd.func106 (by kernel_rfl) (by kernel_rfl) (by kernel_rfl) (of_decide_eq_true (by kernel_rfl)) (c106_0 (envOf [a0]) H Q h)
def hint129 : Nat → List Nat := lookupL [(1, [0, 1, 2, 3, 4, 5, 6, 7, 8, 9, 10, 11, 12]), (14, [0, 1, 2, 3, 4, 5, 6, 7, 8])]
def m129_1 (x7 : Value) (H : Heap) (Q : QT) : Prop :=
Q (.returned x7) H
theorem c129_1 (env : Env) (H : Heap) (Q : QT) (h : m129_1 (env 7) H Q) :
    RCode Tryd.prog 89 (codeAt [1, 1, 1] (bodyOf Tryd.f129)) env H (mkK (retK T Tryd.f129.results.toList Q) (fun _ _ _ => False) (retK T Tryd.f129.results.toList Q) (fun c H => Q (.panicked c) H)) :=
  RCode.leaf_ (T := T) (X := ext) (hint := hint129) tok xok mixed (by kernel_rfl) h
def L129_3 (x0 x1 x2 x7 x30 x31 : Value) (H : Heap) (kn : K1T) (Q : QT) : Prop :=
  ∀ env : Env, env 0 = x0 → env 1 = x1 → env 2 = x2 → env 7 = x7 → env 30 = x30 → env 31 = x31 → RLoop Tryd.prog 89 (codeAt [1, 1, 0, 1, 0, 0] (bodyOf Tryd.f129)) env H (mkK (fun _ _ => False) (inK 0 (fun e H => kn (e 7) H) (fun _ _ _ => False)) (retK T Tryd.f129.results.toList Q) (fun c H => Q (.panicked c) H))
theorem cL129_3 (env : Env) (H : Heap) (kn : K1T) (Q : QT) (h : L129_3 (env 0) (env 1) (env 2) (env 7) (env 30) (env 31) H kn Q) :
    RCode Tryd.prog 89 (codeAt [1, 1, 0, 1] (bodyOf Tryd.f129)) env H (mkK (fun e H => kn (e 7) H) (fun _ _ _ => False) (retK T Tryd.f129.results.toList Q) (fun c H => Q (.panicked c) H)) :=
  RCode.blk (by kernel_rfl : (codeAt [1, 1, 0, 1] (bodyOf Tryd.f129)) = .block 0 (codeAt [1, 1, 0, 1, 0] (bodyOf Tryd.f129))) (RCode.lp (by kernel_rfl : (codeAt [1, 1, 0, 1, 0] (bodyOf Tryd.f129)) = .loop (codeAt [1, 1, 0, 1, 0, 0] (bodyOf Tryd.f129))) ((h env rfl rfl rfl rfl rfl rfl).mono (mkK_mono (fun _ _ h => h.elim) (fun _ _ _ h => h) (fun _ _ h => h) (fun _ _ h => h))))
def m129_5 (x0 x1 x2 x7 x30 x31 : Value) (H : Heap) (kn : K6T) (kx0 : K1T) (Q : QT) : Prop :=
oV (vInt .add x31 (.int .i64 1)) fun t87_1 =>
kn x0 x1 x2 x7 x30 t87_1 H
theorem c129_5 (env : Env) (H : Heap) (kn : K6T) (kx0 : K1T) (Q : QT) (h : m129_5 (env 0) (env 1) (env 2) (env 7) (env 30) (env 31) H kn kx0 Q) :
    RCode Tryd.prog 89 (codeAt [1, 1, 0, 1, 0, 0, 1, 1, 1] (bodyOf Tryd.f129)) env H (mkK (fun e H => kn (e 0) (e 1) (e 2) (e 7) (e 30) (e 31) H) (inK 0 (fun e H => kx0 (e 7) H) (fun _ _ _ => False)) (retK T Tryd.f129.results.toList Q) (fun c H => Q (.panicked c) H)) :=
  RCode.leaf_ (T := T) (X := ext) (hint := hint129) tok xok mixed (by kernel_rfl) h
def L129_8 (x0 x1 x2 x7 x8 x9 x10 x11 x30 x31 x52 x53 x54 : Value) (H : Heap) (kn : K6T) (kx1 : K6T) (kx0 : K1T) (Q : QT) : Prop :=
  ∀ env : Env, env 0 = x0 → env 1 = x1 → env 2 = x2 → env 7 = x7 → env 8 = x8 → env 9 = x9 → env 10 = x10 → env 11 = x11 → env 30 = x30 → env 31 = x31 → env 52 = x52 → env 53 = x53 → env 54 = x54 → RLoop Tryd.prog 89 (codeAt [1, 1, 0, 1, 0, 0, 1, 1, 0, 0, 1, 1, 1, 1, 1, 1, 0, 0] (bodyOf Tryd.f129)) env H (mkK (fun _ _ => False) (inK 2 (fun e H => kn (e 0) (e 1) (e 2) (e 7) (e 30) (e 31) H) (inK 1 (fun e H => kx1 (e 0) (e 1) (e 2) (e 7) (e 30) (e 31) H) (inK 0 (fun e H => kx0 (e 7) H) (fun _ _ _ => False)))) (retK T Tryd.f129.results.toList Q) (fun c H => Q (.panicked c) H))
theorem cL129_8 (env : Env) (H : Heap) (kn : K6T) (kx1 : K6T) (kx0 : K1T) (Q : QT) (h : L129_8 (env 0) (env 1) (env 2) (env 7) (env 8) (env 9) (env 10) (env 11) (env 30) (env 31) (env 52) (env 53) (env 54) H kn kx1 kx0 Q) :
    RCode Tryd.prog 89 (codeAt [1, 1, 0, 1, 0, 0, 1, 1, 0, 0, 1, 1, 1, 1, 1, 1] (bodyOf Tryd.f129)) env H (mkK (fun e H => kn (e 0) (e 1) (e 2) (e 7) (e 30) (e 31) H) (inK 1 (fun e H => kx1 (e 0) (e 1) (e 2) (e 7) (e 30) (e 31) H) (inK 0 (fun e H => kx0 (e 7) H) (fun _ _ _ => False))) (retK T Tryd.f129.results.toList Q) (fun c H => Q (.panicked c) H)) :=
  RCode.blk (by kernel_rfl : (codeAt [1, 1, 0, 1, 0, 0, 1, 1, 0, 0, 1, 1, 1, 1, 1, 1] (bodyOf Tryd.f129)) = .block 2 (codeAt [1, 1, 0, 1, 0, 0, 1, 1, 0, 0, 1, 1, 1, 1, 1, 1, 0] (bodyOf Tryd.f129))) (RCode.lp (by kernel_rfl : (codeAt [1, 1, 0, 1, 0, 0, 1, 1, 0, 0, 1, 1, 1, 1, 1, 1, 0] (bodyOf Tryd.f129)) = .loop (codeAt [1, 1, 0, 1, 0, 0, 1, 1, 0, 0, 1, 1, 1, 1, 1, 1, 0, 0] (bodyOf Tryd.f129))) ((h env rfl rfl rfl rfl rfl rfl rfl rfl rfl rfl rfl rfl rfl).mono (mkK_mono (fun _ _ h => h.elim) (fun _ _ _ h => h) (fun _ _ h => h) (fun _ _ h => h))))
def m129_10 (x0 x1 x2 x7 x8 x9 x10 x11 x30 x31 x52 x53 x54 : Value) (H : Heap) (kn : K13T) (kx2 : K6T) (kx1 : K6T) (kx0 : K1T) (Q : QT) : Prop :=
oV (vInt .add x54 (.int .i64 1)) fun t86_2 =>
kn x0 x1 x2 x7 x8 x9 x10 x11 x30 x31 x52 x53 t86_2 H
theorem c129_10 (env : Env) (H : Heap) (kn : K13T) (kx2 : K6T) (kx1 : K6T) (kx0 : K1T) (Q : QT) (h : m129_10 (env 0) (env 1) (env 2) (env 7) (env 8) (env 9) (env 10) (env 11) (env 30) (env 31) (env 52) (env 53) (env 54) H kn kx2 kx1 kx0 Q) :
    RCode Tryd.prog 89 (codeAt [1, 1, 0, 1, 0, 0, 1, 1, 0, 0, 1, 1, 1, 1, 1, 1, 0, 0, 1, 1, 1] (bodyOf Tryd.f129)) env H (mkK (fun e H => kn (e 0) (e 1) (e 2) (e 7) (e 8) (e 9) (e 10) (e 11) (e 30) (e 31) (e 52) (e 53) (e 54) H) (inK 2 (fun e H => kx2 (e 0) (e 1) (e 2) (e 7) (e 30) (e 31) H) (inK 1 (fun e H => kx1 (e 0) (e 1) (e 2) (e 7) (e 30) (e 31) H) (inK 0 (fun e H => kx0 (e 7) H) (fun _ _ _ => False)))) (retK T Tryd.f129.results.toList Q) (fun c H => Q (.panicked c) H)) :=
  RCode.leaf_ (T := T) (X := ext) (hint := hint129) tok xok mixed (by kernel_rfl) h
def L129_13 (x0 x1 x2 x7 x8 x9 x10 x11 x12 x30 x31 x52 x53 x54 x60 x61 : Value) (H : Heap) (kn : K13T) (kx3 : K13T) (kx2 : K6T) (kx1 : K6T) (kx0 : K1T) (Q : QT) : Prop :=
  ∀ env : Env, env 0 = x0 → env 1 = x1 → env 2 = x2 → env 7 = x7 → env 8 = x8 → env 9 = x9 → env 10 = x10 → env 11 = x11 → env 12 = x12 → env 30 = x30 → env 31 = x31 → env 52 = x52 → env 53 = x53 → env 54 = x54 → env 60 = x60 → env 61 = x61 → RLoop Tryd.prog 89 (codeAt [1, 1, 0, 1, 0, 0, 1, 1, 0, 0, 1, 1, 1, 1, 1, 1, 0, 0, 1, 1, 0, 0, 1, 1, 0, 0] (bodyOf Tryd.f129)) env H (mkK (fun _ _ => False) (inK 4 (fun e H => kn (e 0) (e 1) (e 2) (e 7) (e 8) (e 9) (e 10) (e 11) (e 30) (e 31) (e 52) (e 53) (e 54) H) (inK 3 (fun e H => kx3 (e 0) (e 1) (e 2) (e 7) (e 8) (e 9) (e 10) (e 11) (e 30) (e 31) (e 52) (e 53) (e 54) H) (inK 2 (fun e H => kx2 (e 0) (e 1) (e 2) (e 7) (e 30) (e 31) H) (inK 1 (fun e H => kx1 (e 0) (e 1) (e 2) (e 7) (e 30) (e 31) H) (inK 0 (fun e H => kx0 (e 7) H) (fun _ _ _ => False)))))) (retK T Tryd.f129.results.toList Q) (fun c H => Q (.panicked c) H))
theorem cL129_13 (env : Env) (H : Heap) (kn : K13T) (kx3 : K13T) (kx2 : K6T) (kx1 : K6T) (kx0 : K1T) (Q : QT) (h : L129_13 (env 0) (env 1) (env 2) (env 7) (env 8) (env 9) (env 10) (env 11) (env 12) (env 30) (env 31) (env 52) (env 53) (env 54) (env 60) (env 61) H kn kx3 kx2 kx1 kx0 Q) :
    RCode Tryd.prog 89 (codeAt [1, 1, 0, 1, 0, 0, 1, 1, 0, 0, 1, 1, 1, 1, 1, 1, 0, 0, 1, 1, 0, 0, 1, 1] (bodyOf Tryd.f129)) env H (mkK (fun e H => kn (e 0) (e 1) (e 2) (e 7) (e 8) (e 9) (e 10) (e 11) (e 30) (e 31) (e 52) (e 53) (e 54) H) (inK 3 (fun e H => kx3 (e 0) (e 1) (e 2) (e 7) (e 8) (e 9) (e 10) (e 11) (e 30) (e 31) (e 52) (e 53) (e 54) H) (inK 2 (fun e H => kx2 (e 0) (e 1) (e 2) (e 7) (e 30) (e 31) H) (inK 1 (fun e H => kx1 (e 0) (e 1) (e 2) (e 7) (e 30) (e 31) H) (inK 0 (fun e H => kx0 (e 7) H) (fun _ _ _ => False))))) (retK T Tryd.f129.results.toList Q) (fun c H => Q (.panicked c) H)) :=
  RCode.blk (by kernel_rfl : (codeAt [1, 1, 0, 1, 0, 0, 1, 1, 0, 0, 1, 1, 1, 1, 1, 1, 0, 0, 1, 1, 0, 0, 1, 1] (bodyOf Tryd.f129)) = .block 4 (codeAt [1, 1, 0, 1, 0, 0, 1, 1, 0, 0, 1, 1, 1, 1, 1, 1, 0, 0, 1, 1, 0, 0, 1, 1, 0] (bodyOf Tryd.f129))) (RCode.lp (by kernel_rfl : (codeAt [1, 1, 0, 1, 0, 0, 1, 1, 0, 0, 1, 1, 1, 1, 1, 1, 0, 0, 1, 1, 0, 0, 1, 1, 0] (bodyOf Tryd.f129)) = .loop (codeAt [1, 1, 0, 1, 0, 0, 1, 1, 0, 0, 1, 1, 1, 1, 1, 1, 0, 0, 1, 1, 0, 0, 1, 1, 0, 0] (bodyOf Tryd.f129))) ((h env rfl rfl rfl rfl rfl rfl rfl rfl rfl rfl rfl rfl rfl rfl rfl rfl).mono (mkK_mono (fun _ _ h => h.elim) (fun _ _ _ h => h) (fun _ _ h => h) (fun _ _ h => h))))
def m129_14 (x0 x1 x2 x7 x8 x9 x10 x11 x12 x30 x31 x52 x53 x54 x60 x61 : Value) (H : Heap) (kn : K16T) (kx4 : K13T) (kx3 : K13T) (kx2 : K6T) (kx1 : K6T) (kx0 : K1T) (Q : QT) : Prop :=
oV (vInt .lss x61 x60) fun t62_3 =>
condK t62_3 (
oV (vIdxS 1 x10 x11) fun t65_4 =>
oV (vLoad ty22 t65_4 H) fun t66_5 =>
oV (vIdxS 1 x9 x11) fun t69_6 =>
oV (vLoad ty22 t69_6 H) fun t70_7 =>
oV (vInt .neq t66_5 t70_7) fun t71_8 =>
condK t71_8 (
oV (vNil x0) fun t75_9 =>
oV (vField 1 t75_9) fun t76_10 =>
oV (vField 1 t76_10) fun t77_11 =>
oV (vLoad ty3 t77_11 H) fun t78_12 =>
oV (vInt .mul x12 t78_12) fun t79_13 =>
oV (vInt .add t79_13 x8) fun t81_14 =>
oV (vIdxS 1 x7 t81_14) fun t82_15 =>
oHeap (vStore ty22 t82_15 (.int .u64 1) H) fun H_16 =>
oV (vInt .add x11 (.int .i64 1)) fun t84_17 =>
oV (vInt .add x61 (.int .i64 1)) fun t85_18 =>
kn x0 x1 x2 x7 x8 x9 x10 t84_17 x12 x30 x31 x52 x53 x54 x60 t85_18 H_16) (
oV (vInt .add x11 (.int .i64 1)) fun t84_19 =>
oV (vInt .add x61 (.int .i64 1)) fun t85_20 =>
kn x0 x1 x2 x7 x8 x9 x10 t84_19 x12 x30 x31 x52 x53 x54 x60 t85_20 H)) (
kx4 x0 x1 x2 x7 x8 x9 x10 x11 x30 x31 x52 x53 x54 H)
theorem c129_14 (env : Env) (H : Heap) (kn : K16T) (kx4 : K13T) (kx3 : K13T) (kx2 : K6T) (kx1 : K6T) (kx0 : K1T) (Q : QT) (h : m129_14 (env 0) (env 1) (env 2) (env 7) (env 8) (env 9) (env 10) (env 11) (env 12) (env 30) (env 31) (env 52) (env 53) (env 54) (env 60) (env 61) H kn kx4 kx3 kx2 kx1 kx0 Q) :
    RCode Tryd.prog 89 (codeAt [1, 1, 0, 1, 0, 0, 1, 1, 0, 0, 1, 1, 1, 1, 1, 1, 0, 0, 1, 1, 0, 0, 1, 1, 0, 0] (bodyOf Tryd.f129)) env H (mkK (fun e H => kn (e 0) (e 1) (e 2) (e 7) (e 8) (e 9) (e 10) (e 11) (e 12) (e 30) (e 31) (e 52) (e 53) (e 54) (e 60) (e 61) H) (inK 4 (fun e H => kx4 (e 0) (e 1) (e 2) (e 7) (e 8) (e 9) (e 10) (e 11) (e 30) (e 31) (e 52) (e 53) (e 54) H) (inK 3 (fun e H => kx3 (e 0) (e 1) (e 2) (e 7) (e 8) (e 9) (e 10) (e 11) (e 30) (e 31) (e 52) (e 53) (e 54) H) (inK 2 (fun e H => kx2 (e 0) (e 1) (e 2) (e 7) (e 30) (e 31) H) (inK 1 (fun e H => kx1 (e 0) (e 1) (e 2) (e 7) (e 30) (e 31) H) (inK 0 (fun e H => kx0 (e 7) H) (fun _ _ _ => False)))))) (retK T Tryd.f129.results.toList Q) (fun c H => Q (.panicked c) H)) :=
  RCode.leaf_ (T := T) (X := ext) (hint := hint129) tok xok mixed (by kernel_rfl) h
theorem L129_13_round (x0 x1 x2 x7 x8 x9 x10 x11 x12 x30 x31 x52 x53 x54 x60 x61 : Value) (H : Heap) (kn : K13T) (kx3 : K13T) (kx2 : K6T) (kx1 : K6T) (kx0 : K1T) (Q : QT) (h : m129_14 x0 x1 x2 x7 x8 x9 x10 x11 x12 x30 x31 x52 x53 x54 x60 x61 H (fun y0 y1 y2 y7 y8 y9 y10 y11 y12 y30 y31 y52 y53 y54 y60 y61 H => L129_13 y0 y1 y2 y7 y8 y9 y10 y11 y12 y30 y31 y52 y53 y54 y60 y61 H kn kx3 kx2 kx1 kx0 Q) kn kx3 kx2 kx1 kx0 Q) : L129_13 x0 x1 x2 x7 x8 x9 x10 x11 x12 x30 x31 x52 x53 x54 x60 x61 H kn kx3 kx2 kx1 kx0 Q := by
  intro env h0 h1 h2 h7 h8 h9 h10 h11 h12 h30 h31 h52 h53 h54 h60 h61
  subst h0; subst h1; subst h2; subst h7; subst h8; subst h9; subst h10; subst h11; subst h12; subst h30; subst h31; subst h52; subst h53; subst h54; subst h60; subst h61
  exact RLoop.round ((c129_14 env H (fun y0 y1 y2 y7 y8 y9 y10 y11 y12 y30 y31 y52 y53 y54 y60 y61 H => L129_13 y0 y1 y2 y7 y8 y9 y10 y11 y12 y30 y31 y52 y53 y54 y60 y61 H kn kx3 kx2 kx1 kx0 Q) kn kx3 kx2 kx1 kx0 Q h).mono (mkK_mono (fun e H h => h e rfl rfl rfl rfl rfl rfl rfl rfl rfl rfl rfl rfl rfl rfl rfl rfl) (fun _ _ _ h => h) (fun _ _ h => h) (fun _ _ h => h)))
def m129_12 (x0 x1 x2 x7 x8 x9 x10 x11 x30 x31 x52 x53 x54 : Value) (H : Heap) (kn : K13T) (kx3 : K13T) (kx2 : K6T) (kx1 : K6T) (kx0 : K1T) (Q : QT) : Prop :=
oV (vIdxS 1 x52 x54) fun t57_21 =>
oV (vLoad ty27 t57_21 H) fun t58_22 =>
oV (vLen t58_22) fun t60_23 =>
L129_13 x0 x1 x2 x7 x8 x9 x10 x11 x54 x30 x31 x52 x53 x54 t60_23 (.int .i64 0) H kn kx3 kx2 kx1 kx0 Q
theorem c129_12 (env : Env) (H : Heap) (kn : K13T) (kx3 : K13T) (kx2 : K6T) (kx1 : K6T) (kx0 : K1T) (Q : QT) (h : m129_12 (env 0) (env 1) (env 2) (env 7) (env 8) (env 9) (env 10) (env 11) (env 30) (env 31) (env 52) (env 53) (env 54) H kn kx3 kx2 kx1 kx0 Q) :
    RCode Tryd.prog 89 (codeAt [1, 1, 0, 1, 0, 0, 1, 1, 0, 0, 1, 1, 1, 1, 1, 1, 0, 0, 1, 1, 0, 0] (bodyOf Tryd.f129)) env H (mkK (fun e H => kn (e 0) (e 1) (e 2) (e 7) (e 8) (e 9) (e 10) (e 11) (e 30) (e 31) (e 52) (e 53) (e 54) H) (inK 3 (fun e H => kx3 (e 0) (e 1) (e 2) (e 7) (e 8) (e 9) (e 10) (e 11) (e 30) (e 31) (e 52) (e 53) (e 54) H) (inK 2 (fun e H => kx2 (e 0) (e 1) (e 2) (e 7) (e 30) (e 31) H) (inK 1 (fun e H => kx1 (e 0) (e 1) (e 2) (e 7) (e 30) (e 31) H) (inK 0 (fun e H => kx0 (e 7) H) (fun _ _ _ => False))))) (retK T Tryd.f129.results.toList Q) (fun c H => Q (.panicked c) H)) :=
  RCode.prefix_ (T := T) (X := ext) (hint := hint129) (hole := (fun e H => L129_13 (e 0) (e 1) (e 2) (e 7) (e 8) (e 9) (e 10) (e 11) (e 12) (e 30) (e 31) (e 52) (e 53) (e 54) (e 60) (e 61) H kn kx3 kx2 kx1 kx0 Q)) tok xok mixed 2 (by kernel_rfl) (by kernel_rfl : codeAt _ _ = (codeAt [1, 1, 0, 1, 0, 0, 1, 1, 0, 0, 1, 1, 1, 1, 1, 1, 0, 0, 1, 1, 0, 0, 1, 1] (bodyOf Tryd.f129))) h
    (fun e H h => (cL129_13 e H kn kx3 kx2 kx1 kx0 Q h))
def m129_11 (x0 x1 x2 x7 x8 x9 x10 x11 x30 x31 x52 x53 x54 : Value) (H : Heap) (kn : K13T) (kx2 : K6T) (kx1 : K6T) (kx0 : K1T) (Q : QT) : Prop :=
m129_12 x0 x1 x2 x7 x8 x9 x10 x11 x30 x31 x52 x53 x54 H kn kn kx2 kx1 kx0 Q
theorem c129_11 (env : Env) (H : Heap) (kn : K13T) (kx2 : K6T) (kx1 : K6T) (kx0 : K1T) (Q : QT) (h : m129_11 (env 0) (env 1) (env 2) (env 7) (env 8) (env 9) (env 10) (env 11) (env 30) (env 31) (env 52) (env 53) (env 54) H kn kx2 kx1 kx0 Q) :
    RCode Tryd.prog 89 (codeAt [1, 1, 0, 1, 0, 0, 1, 1, 0, 0, 1, 1, 1, 1, 1, 1, 0, 0, 1, 1, 0] (bodyOf Tryd.f129)) env H (mkK (fun e H => kn (e 0) (e 1) (e 2) (e 7) (e 8) (e 9) (e 10) (e 11) (e 30) (e 31) (e 52) (e 53) (e 54) H) (inK 2 (fun e H => kx2 (e 0) (e 1) (e 2) (e 7) (e 30) (e 31) H) (inK 1 (fun e H => kx1 (e 0) (e 1) (e 2) (e 7) (e 30) (e 31) H) (inK 0 (fun e H => kx0 (e 7) H) (fun _ _ _ => False)))) (retK T Tryd.f129.results.toList Q) (fun c H => Q (.panicked c) H)) :=
  RCode.blk (by kernel_rfl : (codeAt [1, 1, 0, 1, 0, 0, 1, 1, 0, 0, 1, 1, 1, 1, 1, 1, 0, 0, 1, 1, 0] (bodyOf Tryd.f129)) = .block 3 (codeAt [1, 1, 0, 1, 0, 0, 1, 1, 0, 0, 1, 1, 1, 1, 1, 1, 0, 0, 1, 1, 0, 0] (bodyOf Tryd.f129))) (c129_12 env H kn kn kx2 kx1 kx0 Q h)
def m129_9 (x0 x1 x2 x7 x8 x9 x10 x11 x30 x31 x52 x53 x54 : Value) (H : Heap) (kn : K13T) (kx2 : K6T) (kx1 : K6T) (kx0 : K1T) (Q : QT) : Prop :=
oV (vInt .lss x54 x53) fun t55_24 =>
condK t55_24 (
m129_11 x0 x1 x2 x7 x8 x9 x10 x11 x30 x31 x52 x53 x54 H (fun y0_25 y1_26 y2_27 y7_28 y8_29 y9_30 y10_31 y11_32 y30_33 y31_34 y52_35 y53_36 y54_37 H_38 => m129_10 y0_25 y1_26 y2_27 y7_28 y8_29 y9_30 y10_31 y11_32 y30_33 y31_34 y52_35 y53_36 y54_37 H_38 kn kx2 kx1 kx0 Q) kx2 kx1 kx0 Q) (
kx2 x0 x1 x2 x7 x30 x31 H)
theorem c129_9 (env : Env) (H : Heap) (kn : K13T) (kx2 : K6T) (kx1 : K6T) (kx0 : K1T) (Q : QT) (h : m129_9 (env 0) (env 1) (env 2) (env 7) (env 8) (env 9) (env 10) (env 11) (env 30) (env 31) (env 52) (env 53) (env 54) H kn kx2 kx1 kx0 Q) :
    RCode Tryd.prog 89 (codeAt [1, 1, 0, 1, 0, 0, 1, 1, 0, 0, 1, 1, 1, 1, 1, 1, 0, 0] (bodyOf Tryd.f129)) env H (mkK (fun e H => kn (e 0) (e 1) (e 2) (e 7) (e 8) (e 9) (e 10) (e 11) (e 30) (e 31) (e 52) (e 53) (e 54) H) (inK 2 (fun e H => kx2 (e 0) (e 1) (e 2) (e 7) (e 30) (e 31) H) (inK 1 (fun e H => kx1 (e 0) (e 1) (e 2) (e 7) (e 30) (e 31) H) (inK 0 (fun e H => kx0 (e 7) H) (fun _ _ _ => False)))) (retK T Tryd.f129.results.toList Q) (fun c H => Q (.panicked c) H)) :=
  RCode.prefix_ (T := T) (X := ext) (hint := hint129) (hole := (fun e H => m129_11 (e 0) (e 1) (e 2) (e 7) (e 8) (e 9) (e 10) (e 11) (e 30) (e 31) (e 52) (e 53) (e 54) H (fun y0_39 y1_40 y2_41 y7_42 y8_43 y9_44 y10_45 y11_46 y30_47 y31_48 y52_49 y53_50 y54_51 H_52 => m129_10 y0_39 y1_40 y2_41 y7_42 y8_43 y9_44 y10_45 y11_46 y30_47 y31_48 y52_49 y53_50 y54_51 H_52 kn kx2 kx1 kx0 Q) kx2 kx1 kx0 Q)) tok xok mixed 2 (by kernel_rfl) (by kernel_rfl : codeAt _ _ = (codeAt [1, 1, 0, 1, 0, 0, 1, 1, 0, 0, 1, 1, 1, 1, 1, 1, 0, 0, 1, 1] (bodyOf Tryd.f129))) h
    (fun e H h => RCode.join (by kernel_rfl : (codeAt [1, 1, 0, 1, 0, 0, 1, 1, 0, 0, 1, 1, 1, 1, 1, 1, 0, 0, 1, 1] (bodyOf Tryd.f129)) = .seq (codeAt [1, 1, 0, 1, 0, 0, 1, 1, 0, 0, 1, 1, 1, 1, 1, 1, 0, 0, 1, 1, 0] (bodyOf Tryd.f129)) (codeAt [1, 1, 0, 1, 0, 0, 1, 1, 0, 0, 1, 1, 1, 1, 1, 1, 0, 0, 1, 1, 1] (bodyOf Tryd.f129))) ((c129_11 e H (fun y0_53 y1_54 y2_55 y7_56 y8_57 y9_58 y10_59 y11_60 y30_61 y31_62 y52_63 y53_64 y54_65 H_66 => m129_10 y0_53 y1_54 y2_55 y7_56 y8_57 y9_58 y10_59 y11_60 y30_61 y31_62 y52_63 y53_64 y54_65 H_66 kn kx2 kx1 kx0 Q) kx2 kx1 kx0 Q h).mono (mkK_mono (fun e H h => c129_10 e H kn kx2 kx1 kx0 Q h) (fun _ _ _ h => h) (fun _ _ h => h) (fun _ _ h => h))))
theorem L129_8_round (x0 x1 x2 x7 x8 x9 x10 x11 x30 x31 x52 x53 x54 : Value) (H : Heap) (kn : K6T) (kx1 : K6T) (kx0 : K1T) (Q : QT) (h : m129_9 x0 x1 x2 x7 x8 x9 x10 x11 x30 x31 x52 x53 x54 H (fun y0 y1 y2 y7 y8 y9 y10 y11 y30 y31 y52 y53 y54 H => L129_8 y0 y1 y2 y7 y8 y9 y10 y11 y30 y31 y52 y53 y54 H kn kx1 kx0 Q) kn kx1 kx0 Q) : L129_8 x0 x1 x2 x7 x8 x9 x10 x11 x30 x31 x52 x53 x54 H kn kx1 kx0 Q := by
  intro env h0 h1 h2 h7 h8 h9 h10 h11 h30 h31 h52 h53 h54
  subst h0; subst h1; subst h2; subst h7; subst h8; subst h9; subst h10; subst h11; subst h30; subst h31; subst h52; subst h53; subst h54
  exact RLoop.round ((c129_9 env H (fun y0 y1 y2 y7 y8 y9 y10 y11 y30 y31 y52 y53 y54 H => L129_8 y0 y1 y2 y7 y8 y9 y10 y11 y30 y31 y52 y53 y54 H kn kx1 kx0 Q) kn kx1 kx0 Q h).mono (mkK_mono (fun e H h => h e rfl rfl rfl rfl rfl rfl rfl rfl rfl rfl rfl rfl rfl) (fun _ _ _ h => h) (fun _ _ h => h) (fun _ _ h => h)))
def m129_7 (x0 x1 x2 x7 x30 x31 : Value) (H : Heap) (kn : K6T) (kx1 : K6T) (kx0 : K1T) (Q : QT) : Prop :=
oV (vInt .eql x31 x1) fun t36_67 =>
condK t36_67 (
kx1 x0 x1 x2 x7 x30 x31 H) (
oV (vInt .add x31 (.int .i64 1)) fun t40_68 =>
oRC Tryd.prog 132 [x0, x1, t40_68] H (fun c H => Q (.panicked c) H) fun v_69 H_70 =>
oV (vIdxS 1 x2 x31) fun t44_71 =>
oV (vLoad ty52 t44_71 H_70) fun t45_72 =>
oV (vLen v_69) fun t47_73 =>
oRC Tryd.prog 49 [t45_72, t47_73] H_70 (fun c H => Q (.panicked c) H) fun v_74 H_75 =>
oV (vNil x0) fun t50_76 =>
oV (vField 4 t50_76) fun t51_77 =>
oV (vLoad ty44 t51_77 H_75) fun t52_78 =>
oV (vLen t52_78) fun t53_79 =>
L129_8 x0 x1 x2 x7 x31 v_69 v_74 (.int .i64 0) x30 x31 t52_78 t53_79 (.int .i64 0) H_75 kn kx1 kx0 Q)
theorem c129_7 (env : Env) (H : Heap) (kn : K6T) (kx1 : K6T) (kx0 : K1T) (Q : QT) (h : m129_7 (env 0) (env 1) (env 2) (env 7) (env 30) (env 31) H kn kx1 kx0 Q) :
    RCode Tryd.prog 89 (codeAt [1, 1, 0, 1, 0, 0, 1, 1, 0, 0] (bodyOf Tryd.f129)) env H (mkK (fun e H => kn (e 0) (e 1) (e 2) (e 7) (e 30) (e 31) H) (inK 1 (fun e H => kx1 (e 0) (e 1) (e 2) (e 7) (e 30) (e 31) H) (inK 0 (fun e H => kx0 (e 7) H) (fun _ _ _ => False))) (retK T Tryd.f129.results.toList Q) (fun c H => Q (.panicked c) H)) :=
  RCode.prefix_ (T := T) (X := ext) (hint := hint129) (hole := (fun e H => L129_8 (e 0) (e 1) (e 2) (e 7) (e 8) (e 9) (e 10) (e 11) (e 30) (e 31) (e 52) (e 53) (e 54) H kn kx1 kx0 Q)) tok xok mixed 6 (by kernel_rfl) (by kernel_rfl : codeAt _ _ = (codeAt [1, 1, 0, 1, 0, 0, 1, 1, 0, 0, 1, 1, 1, 1, 1, 1] (bodyOf Tryd.f129))) h
    (fun e H h => (cL129_8 e H kn kx1 kx0 Q h))
def m129_6 (x0 x1 x2 x7 x30 x31 : Value) (H : Heap) (kn : K6T) (kx0 : K1T) (Q : QT) : Prop :=
m129_7 x0 x1 x2 x7 x30 x31 H kn kn kx0 Q
theorem c129_6 (env : Env) (H : Heap) (kn : K6T) (kx0 : K1T) (Q : QT) (h : m129_6 (env 0) (env 1) (env 2) (env 7) (env 30) (env 31) H kn kx0 Q) :
    RCode Tryd.prog 89 (codeAt [1, 1, 0, 1, 0, 0, 1, 1, 0] (bodyOf Tryd.f129)) env H (mkK (fun e H => kn (e 0) (e 1) (e 2) (e 7) (e 30) (e 31) H) (inK 0 (fun e H => kx0 (e 7) H) (fun _ _ _ => False)) (retK T Tryd.f129.results.toList Q) (fun c H => Q (.panicked c) H)) :=
  RCode.blk (by kernel_rfl : (codeAt [1, 1, 0, 1, 0, 0, 1, 1, 0] (bodyOf Tryd.f129)) = .block 1 (codeAt [1, 1, 0, 1, 0, 0, 1, 1, 0, 0] (bodyOf Tryd.f129))) (c129_7 env H kn kn kx0 Q h)
def m129_4 (x0 x1 x2 x7 x30 x31 : Value) (H : Heap) (kn : K6T) (kx0 : K1T) (Q : QT) : Prop :=
oV (vInt .lss x31 x30) fun t32_80 =>
condK t32_80 (
m129_6 x0 x1 x2 x7 x30 x31 H (fun y0_81 y1_82 y2_83 y7_84 y30_85 y31_86 H_87 => m129_5 y0_81 y1_82 y2_83 y7_84 y30_85 y31_86 H_87 kn kx0 Q) kx0 Q) (
kx0 x7 H)
theorem c129_4 (env : Env) (H : Heap) (kn : K6T) (kx0 : K1T) (Q : QT) (h : m129_4 (env 0) (env 1) (env 2) (env 7) (env 30) (env 31) H kn kx0 Q) :
    RCode Tryd.prog 89 (codeAt [1, 1, 0, 1, 0, 0] (bodyOf Tryd.f129)) env H (mkK (fun e H => kn (e 0) (e 1) (e 2) (e 7) (e 30) (e 31) H) (inK 0 (fun e H => kx0 (e 7) H) (fun _ _ _ => False)) (retK T Tryd.f129.results.toList Q) (fun c H => Q (.panicked c) H)) :=
  RCode.prefix_ (T := T) (X := ext) (hint := hint129) (hole := (fun e H => m129_6 (e 0) (e 1) (e 2) (e 7) (e 30) (e 31) H (fun y0_88 y1_89 y2_90 y7_91 y30_92 y31_93 H_94 => m129_5 y0_88 y1_89 y2_90 y7_91 y30_92 y31_93 H_94 kn kx0 Q) kx0 Q)) tok xok mixed 2 (by kernel_rfl) (by kernel_rfl : codeAt _ _ = (codeAt [1, 1, 0, 1, 0, 0, 1, 1] (bodyOf Tryd.f129))) h
    (fun e H h => RCode.join (by kernel_rfl : (codeAt [1, 1, 0, 1, 0, 0, 1, 1] (bodyOf Tryd.f129)) = .seq (codeAt [1, 1, 0, 1, 0, 0, 1, 1, 0] (bodyOf Tryd.f129)) (codeAt [1, 1, 0, 1, 0, 0, 1, 1, 1] (bodyOf Tryd.f129))) ((c129_6 e H (fun y0_95 y1_96 y2_97 y7_98 y30_99 y31_100 H_101 => m129_5 y0_95 y1_96 y2_97 y7_98 y30_99 y31_100 H_101 kn kx0 Q) kx0 Q h).mono (mkK_mono (fun e H h => c129_5 e H kn kx0 Q h) (fun _ _ _ h => h) (fun _ _ h => h) (fun _ _ h => h))))
theorem L129_3_round (x0 x1 x2 x7 x30 x31 : Value) (H : Heap) (kn : K1T) (Q : QT) (h : m129_4 x0 x1 x2 x7 x30 x31 H (fun y0 y1 y2 y7 y30 y31 H => L129_3 y0 y1 y2 y7 y30 y31 H kn Q) kn Q) : L129_3 x0 x1 x2 x7 x30 x31 H kn Q := by
  intro env h0 h1 h2 h7 h30 h31
  subst h0; subst h1; subst h2; subst h7; subst h30; subst h31
  exact RLoop.round ((c129_4 env H (fun y0 y1 y2 y7 y30 y31 H => L129_3 y0 y1 y2 y7 y30 y31 H kn Q) kn Q h).mono (mkK_mono (fun e H h => h e rfl rfl rfl rfl rfl rfl) (fun _ _ _ h => h) (fun _ _ h => h) (fun _ _ h => h)))
def m129_2 (x0 x1 x2 x7 : Value) (H : Heap) (kn : K1T) (Q : QT) : Prop :=
oV (vNil x0) fun t27_102 =>
oV (vField 1 t27_102) fun t28_103 =>
oV (vField 1 t28_103) fun t29_104 =>
oV (vLoad ty3 t29_104 H) fun t30_105 =>
L129_3 x0 x1 x2 x7 t30_105 (.int .i64 0) H kn Q
theorem c129_2 (env : Env) (H : Heap) (kn : K1T) (Q : QT) (h : m129_2 (env 0) (env 1) (env 2) (env 7) H kn Q) :
    RCode Tryd.prog 89 (codeAt [1, 1, 0] (bodyOf Tryd.f129)) env H (mkK (fun e H => kn (e 7) H) (fun _ _ _ => False) (retK T Tryd.f129.results.toList Q) (fun c H => Q (.panicked c) H)) :=
  RCode.prefix_ (T := T) (X := ext) (hint := hint129) (hole := (fun e H => L129_3 (e 0) (e 1) (e 2) (e 7) (e 30) (e 31) H kn Q)) tok xok mixed 1 (by kernel_rfl) (by kernel_rfl : codeAt _ _ = (codeAt [1, 1, 0, 1] (bodyOf Tryd.f129))) h
    (fun e H h => (cL129_3 e H kn Q h))
def m129 (x0 x1 x2 : Value) (H : Heap) (Q : QT) : Prop :=
oV (vNil x0) fun t15_106 =>
oV (vField 1 t15_106) fun t16_107 =>
oV (vField 1 t16_107) fun t17_108 =>
oV (vLoad ty3 t17_108 H) fun t18_109 =>
oV (vNil x0) fun t20_110 =>
oV (vField 1 t20_110) fun t21_111 =>
oV (vField 1 t21_111) fun t22_112 =>
oV (vLoad ty3 t22_112 H) fun t23_113 =>
oV (vInt .mul t18_109 t23_113) fun t24_114 =>
oMake ty22 22 t24_114 t24_114 H fun s_115 H_116 =>
m129_2 x0 x1 x2 s_115 H_116 (fun y7_117 H_118 => m129_1 y7_117 H_118 Q) Q
theorem c129_0 (env : Env) (H : Heap) (Q : QT) (h : m129 (env 0) (env 1) (env 2) H Q) :
    RCode Tryd.prog 89 (bodyOf Tryd.f129) env H (mkK (retK T Tryd.f129.results.toList Q) (fun _ _ _ => False) (retK T Tryd.f129.results.toList Q) (fun c H => Q (.panicked c) H)) :=
  RCode.prefix_ (T := T) (X := ext) (hint := hint129) (hole := (fun e H => m129_2 (e 0) (e 1) (e 2) (e 7) H (fun y7_119 H_120 => m129_1 y7_119 H_120 Q) Q)) tok xok mixed 2 (by kernel_rfl) (by kernel_rfl : codeAt _ _ = (codeAt [1, 1] (bodyOf Tryd.f129))) h
    (fun e H h => RCode.join (by kernel_rfl : (codeAt [1, 1] (bodyOf Tryd.f129)) = .seq (codeAt [1, 1, 0] (bodyOf Tryd.f129)) (codeAt [1, 1, 1] (bodyOf Tryd.f129))) ((c129_2 e H (fun y7_121 H_122 => m129_1 y7_121 H_122 Q) Q h).mono (mkK_mono (fun e H h => c129_1 e H Q h) (fun _ _ _ h => h) (fun _ _ h => h) (fun _ _ h => h))))
theorem call129 (a0 a1 a2 : Value) (H : Heap) (Q : QT) (h : m129 a0 a1 a2 H Q) : RCalls Tryd.prog 129 [a0, a1, a2] H Q :=
  RCalls.intro (nt := 89) tok Tryd.func129 (by kernel_rfl) (by kernel_rfl) (by kernel_rfl) (of_decide_eq_true (by kernel_rfl)) (c129_0 (envOf [a0, a1, a2]) H Q h)
def hint128 : Nat → List Nat := lookupL [(0, [0, 1, 2, 3, 4, 5, 6, 7, 8, 9, 10])]
def m128 (x0 x1 x2 x3 : Value) (H : Heap) (Q : QT) : Prop :=
oV (vLoad ty27 x3 H) fun t5_1 =>
oV (vLoad ty150 x1 H) fun t7_2 =>
oV (vLoad ty44 x2 H) fun t9_3 =>
oV (vIdxS 1 t9_3 x0) fun t11_4 =>
oV (vLoad ty27 t11_4 H) fun t12_5 =>
oRC Tryd.prog 129 [t7_2, x0, t12_5] H noP fun v_6 H_7 =>
(vLoad ty27 x3 H_7 = some t5_1 ∧
oV (vIdxS 1 t5_1 x0) fun t14_8 =>
oHeap (vStore ty52 t14_8 v_6 H_7) fun H_9 =>
Q (.returned (.tuple #[])) H_9)
theorem c128_0 (env : Env) (H : Heap) (Q : QT) (h : m128 (env 0) (env 1) (env 2) (env 3) H Q) :
    RCode Tryd.prog 15 (bodyOf Tryd.f128) env H (mkK (retK T Tryd.f128.results.toList Q) (fun _ _ _ => False) (retK T Tryd.f128.results.toList Q) (fun c H => Q (.panicked c) H)) :=
  RCode.leaf_ (T := T) (X := ext) (hint := hint128) tok xok mixed (by kernel_rfl) h
theorem call128 (a0 a1 a2 a3 : Value) (H : Heap) (Q : QT) (h : m128 a0 a1 a2 a3 H Q) : RCalls Tryd.prog 128 [a0, a1, a2, a3] H Q :=
  RCalls.intro (nt := 15) tok Tryd.func128 (by kernel_rfl) (by kernel_rfl) (by kernel_rfl) (of_decide_eq_true (by kernel_rfl)) (c128_0 (envOf [a0, a1, a2, a3]) H Q h)
end Go.Proofs.YtchhpagkdaaglaaDoor.SL
end

section
set_option linter.unusedVariables false
set_option linter.unusedSimpArgs false
set_option maxRecDepth 100000
namespace Go.Proofs.YtchhpagkdaaglaaDoor.SL
open Go
def hint130 : Nat → List Nat := lookupL [(0, [0, 1, 2, 3, 4, 5, 6, 7, 8, 9, 10, 11, 12, 13, 14, 15, 16]), (4, [0, 1, 2, 3, 4, 5, 6, 7, 8, 9, 10, 11, 12, 13, 14, 15, 16, 17, 18, 19, 20, 21, 22, 23, 24, 25, 26, 27, 28, 29, 30, 31, 32, 33, 34])]
def L130_1 (x0 x2 x4 x26 x27 : Value) (H : Heap) (kn : K0T) (Q : QT) : Prop :=
  ∀ env : Env, env 0 = x0 → env 2 = x2 → env 4 = x4 → env 26 = x26 → env 27 = x27 → RLoop Tryd.prog 65 (codeAt [1, 1, 0, 0] (bodyOf Tryd.f130)) env H (mkK (fun _ _ => False) (inK 0 (fun e H => kn H) (fun _ _ _ => False)) (retK T Tryd.f130.results.toList Q) (fun c H => Q (.panicked c) H))
theorem cL130_1 (env : Env) (H : Heap) (kn : K0T) (Q : QT) (h : L130_1 (env 0) (env 2) (env 4) (env 26) (env 27) H kn Q) :
    RCode Tryd.prog 65 (codeAt [1, 1] (bodyOf Tryd.f130)) env H (mkK (fun e H => kn H) (fun _ _ _ => False) (retK T Tryd.f130.results.toList Q) (fun c H => Q (.panicked c) H)) :=
  RCode.blk (by kernel_rfl : (codeAt [1, 1] (bodyOf Tryd.f130)) = .block 0 (codeAt [1, 1, 0] (bodyOf Tryd.f130))) (RCode.lp (by kernel_rfl : (codeAt [1, 1, 0] (bodyOf Tryd.f130)) = .loop (codeAt [1, 1, 0, 0] (bodyOf Tryd.f130))) ((h env rfl rfl rfl rfl rfl).mono (mkK_mono (fun _ _ h => h.elim) (fun _ _ _ h => h) (fun _ _ h => h) (fun _ _ h => h))))
def m130_2 (x0 x2 x4 x26 x27 : Value) (H : Heap) (kn : K5T) (kx0 : K0T) (Q : QT) : Prop :=
oV (vInt .lss x27 x26) fun t28_1 =>
condK t28_1 (
oV (vLoad ty150 x2 H) fun t30_2 =>
oV (vNil t30_2) fun t31_3 =>
oV (vField 5 t31_3) fun t32_4 =>
oV (vField 2 t32_4) fun t33_5 =>
oV (vLoad ty44 t33_5 H) fun t34_6 =>
oV (vLoad ty150 x2 H) fun t36_7 =>
oV (vNil t36_7) fun t37_8 =>
oV (vField 5 t37_8) fun t38_9 =>
oV (vField 2 t38_9) fun t39_10 =>
oV (vLoad ty44 t39_10 H) fun t40_11 =>
oV (vIdxS 1 t40_11 x0) fun t42_12 =>
oV (vLoad ty27 t42_12 H) fun t43_13 =>
oV (vLoad ty150 x2 H) fun t46_14 =>
oV (vNil t46_14) fun t47_15 =>
oV (vField 1 t47_15) fun t48_16 =>
oV (vField 1 t48_16) fun t49_17 =>
oV (vLoad ty3 t49_17 H) fun t50_18 =>
oV (vInt .mul x27 t50_18) fun t51_19 =>
oV (vInt .add x27 (.int .i64 1)) fun t53_20 =>
oV (vLoad ty150 x2 H) fun t54_21 =>
oV (vNil t54_21) fun t55_22 =>
oV (vField 1 t55_22) fun t56_23 =>
oV (vField 1 t56_23) fun t57_24 =>
oV (vLoad ty3 t57_24 H) fun t58_25 =>
oV (vInt .mul t53_20 t58_25) fun t59_26 =>
oV (vSlice 1 x4 (some t51_19) (some t59_26) none) fun t60_27 =>
oBuildS ty52 52 1 [((0, 1), t60_27)] H fun s_28 H_29 =>
oAppend ty52 52 t43_13 s_28 H_29 fun v_30 H_31 =>
(vLoad ty44 t33_5 H_31 = some t34_6 ∧
(vLoad ty150 x2 H_31 = some t30_2 ∧
oV (vIdxS 1 t34_6 x0) fun t63_32 =>
oHeap (vStore ty27 t63_32 v_30 H_31) fun H_33 =>
oV (vInt .add x27 (.int .i64 1)) fun t64_34 =>
kn x0 x2 x4 x26 t64_34 H_33))) (
kx0 H)
theorem c130_2 (env : Env) (H : Heap) (kn : K5T) (kx0 : K0T) (Q : QT) (h : m130_2 (env 0) (env 2) (env 4) (env 26) (env 27) H kn kx0 Q) :
    RCode Tryd.prog 65 (codeAt [1, 1, 0, 0] (bodyOf Tryd.f130)) env H (mkK (fun e H => kn (e 0) (e 2) (e 4) (e 26) (e 27) H) (inK 0 (fun e H => kx0 H) (fun _ _ _ => False)) (retK T Tryd.f130.results.toList Q) (fun c H => Q (.panicked c) H)) :=
  RCode.leaf_ (T := T) (X := ext) (hint := hint130) tok xok mixed (by kernel_rfl) h
theorem L130_1_round (x0 x2 x4 x26 x27 : Value) (H : Heap) (kn : K0T) (Q : QT) (h : m130_2 x0 x2 x4 x26 x27 H (fun y0 y2 y4 y26 y27 H => L130_1 y0 y2 y4 y26 y27 H kn Q) kn Q) : L130_1 x0 x2 x4 x26 x27 H kn Q := by
  intro env h0 h2 h4 h26 h27
  subst h0; subst h2; subst h4; subst h26; subst h27
  exact RLoop.round ((c130_2 env H (fun y0 y2 y4 y26 y27 H => L130_1 y0 y2 y4 y26 y27 H kn Q) kn Q h).mono (mkK_mono (fun e H h => h e rfl rfl rfl rfl rfl) (fun _ _ _ h => h) (fun _ _ h => h) (fun _ _ h => h)))
def m130 (x0 x1 x2 : Value) (H : Heap) (Q : QT) : Prop :=
oV (vLoad ty27 x1 H) fun t6_35 =>
oV (vIdxS 1 t6_35 x0) fun t8_36 =>
oV (vLoad ty52 t8_36 H) fun t9_37 =>
oV (vLoad ty150 x2 H) fun t10_38 =>
oV (vNil t10_38) fun t11_39 =>
oV (vField 1 t11_39) fun t12_40 =>
oV (vField 1 t12_40) fun t13_41 =>
oV (vLoad ty3 t13_41 H) fun t14_42 =>
oV (vLoad ty150 x2 H) fun t15_43 =>
oV (vNil t15_43) fun t16_44 =>
oV (vField 1 t16_44) fun t17_45 =>
oV (vField 1 t17_45) fun t18_46 =>
oV (vLoad ty3 t18_46 H) fun t19_47 =>
oV (vInt .mul t14_42 t19_47) fun t20_48 =>
oRC Tryd.prog 49 [t9_37, t20_48] H noP fun v_49 H_50 =>
oV (vLoad ty150 x2 H_50) fun t22_51 =>
oV (vNil t22_51) fun t23_52 =>
oV (vField 1 t23_52) fun t24_53 =>
oV (vField 1 t24_53) fun t25_54 =>
oV (vLoad ty3 t25_54 H_50) fun t26_55 =>
L130_1 x0 x2 v_49 t26_55 (.int .i64 0) H_50 (fun H_56 => Q (.returned (.tuple #[])) H_56) Q
theorem c130_0 (env : Env) (H : Heap) (Q : QT) (h : m130 (env 0) (env 1) (env 2) H Q) :
    RCode Tryd.prog 65 (bodyOf Tryd.f130) env H (mkK (retK T Tryd.f130.results.toList Q) (fun _ _ _ => False) (retK T Tryd.f130.results.toList Q) (fun c H => Q (.panicked c) H)) :=
  RCode.prefix_ (T := T) (X := ext) (hint := hint130) (hole := (fun e H => L130_1 (e 0) (e 2) (e 4) (e 26) (e 27) H (fun H_57 => Q (.returned (.tuple #[])) H_57) Q)) tok xok mixed 2 (by kernel_rfl) (by kernel_rfl : codeAt _ _ = (codeAt [1, 1] (bodyOf Tryd.f130))) h
    (fun e H h => ((cL130_1 e H (fun H_58 => Q (.returned (.tuple #[])) H_58) Q h).mono (mkK_mono (fun e H h => h) (fun _ _ _ h => h) (fun _ _ h => h) (fun _ _ h => h))))
theorem call130 (a0 a1 a2 : Value) (H : Heap) (Q : QT) (h : m130 a0 a1 a2 H Q) : RCalls Tryd.prog 130 [a0, a1, a2] H Q :=
  RCalls.intro (nt := 65) tok Tryd.func130 (by kernel_rfl) (by kernel_rfl) (by kernel_rfl) (of_decide_eq_true (by kernel_rfl)) (c130_0 (envOf [a0, a1, a2]) H Q h)
def hint105 : Nat → List Nat := lookupL [(3, [0, 1, 2, 3, 4, 5, 6, 7])]
def m105 (x0 x1 : Value) (H : Heap) (Q : QT) : Prop :=
oNew (Value.cells x0).toList (Value.cells x0).toList.length 150 H fun i_1 H_2 =>
oNew (Value.cells x1).toList (Value.cells x1).toList.length 44 H_2 fun i_3 H_4 =>
oV (vLoad ty150 (ptrTo i_1) H_4) fun t6_5 =>
oV (vNil t6_5) fun t7_6 =>
oV (vField 1 t7_6) fun t8_7 =>
oV (vField 1 t8_7) fun t9_8 =>
oV (vLoad ty3 t9_8 H_4) fun t10_9 =>
oMake ty52 52 t10_9 t10_9 H_4 fun s_10 H_11 =>
oNew (Value.cells ty27.zero).toList (Value.cells ty27.zero).toList.length 27 H_11 fun i_12 H_13 =>
oHeap (vStore ty27 (ptrTo i_12) s_10 H_13) fun H_14 =>
oV (vLoad ty150 (ptrTo i_1) H_14) fun t12_15 =>
oRC Tryd.prog 120 [t12_15, (.func (.func 128) #[] #[(ptrTo i_1), (ptrTo i_3), (ptrTo i_12)])] H_14 (fun c H => Q (.panicked c) H) fun v_16 H_17 =>
oV (vLoad ty150 (ptrTo i_1) H_17) fun t15_18 =>
oV (vNil t15_18) fun t16_19 =>
oV (vField 0 t16_19) fun t17_20 =>
oV (vLoad ty35 t17_20 H_17) fun t18_21 =>
oV (vLoad ty27 (ptrTo i_12) H_17) fun t19_22 =>
oRC Tryd.prog 48 [t18_21, t19_22] H_17 noP fun v_23 H_24 =>
oNew (Value.cells ty27.zero).toList (Value.cells ty27.zero).toList.length 27 H_24 fun i_25 H_26 =>
oHeap (vStore ty27 (ptrTo i_25) v_23 H_26) fun H_27 =>
oV (vLoad ty150 (ptrTo i_1) H_27) fun t21_28 =>
oRC Tryd.prog 120 [t21_28, (.func (.func 130) #[] #[(ptrTo i_25), (ptrTo i_1)])] H_27 (fun c H => Q (.panicked c) H) fun v_29 H_30 =>
Q (.returned (.tuple #[])) H_30
theorem c105_0 (env : Env) (H : Heap) (Q : QT) (h : m105 (env 0) (env 1) H Q) :
    RCode Tryd.prog 24 (bodyOf Tryd.f105) env H (mkK (retK T Tryd.f105.results.toList Q) (fun _ _ _ => False) (retK T Tryd.f105.results.toList Q) (fun c H => Q (.panicked c) H)) :=
  RCode.leaf_ (T := T) (X := ext) (hint := hint105) tok xok mixed (by kernel_rfl) h
theorem call105 (a0 a1 : Value) (H : Heap) (Q : QT) (h : m105 a0 a1 H Q) : RCalls Tryd.prog 105 [a0, a1] H Q :=
  RCalls.intro (nt := 24) tok Tryd.func105 (by kernel_rfl) (by kernel_rfl) (by kernel_rfl) (of_decide_eq_true (by kernel_rfl)) (c105_0 (envOf [a0, a1]) H Q h)
def hint72 : Nat → List Nat := lookupL [(2, [0, 1, 2, 3, 4, 6, 7, 9, 10, 5, 8, 11, 12, 13, 14, 15])]
def m72 (x0 x1 : Value) (H : Heap) (Q : QT) : Prop :=
oNew (Value.cells ty71.zero).toList (Value.cells ty71.zero).toList.length 71 H fun i_1 H_2 =>
oRC Tryd.prog 19 [x0] H_2 (fun c H => Q (.panicked c) H) fun v_3 H_4 =>
oV (vPart true 0 3 v_3) fun t9_5 =>
oNew (Value.cells ty24.zero).toList (Value.cells ty24.zero).toList.length 24 H_4 fun i_6 H_7 =>
oHeap (vStore ty24 (ptrTo i_6) t9_5 H_7) fun H_8 =>
oV (vLoad ty24 (ptrTo i_6) H_8) fun t11_9 =>
oV (vField 1 (ptrTo i_6)) fun t13_10 =>
oV (vLoad ty3 t13_10 H_8) fun t14_11 =>
oV (vField 1 (ptrTo i_6)) fun t16_12 =>
oV (vLoad ty3 t16_12 H_8) fun t17_13 =>
oV (vField 1 (ptrTo i_6)) fun t19_14 =>
oV (vLoad ty3 t19_14 H_8) fun t20_15 =>
oMake ty44 44 t14_11 t14_11 H_8 fun s_16 H_17 =>
oMake ty44 44 t17_13 t17_13 H_17 fun s_18 H_19 =>
oMake ty27 27 t20_15 t20_15 H_19 fun s_20 H_21 =>
oV (vBuild ty71 [((0, 1), s_16), ((1, 1), s_18), ((2, 1), s_20)]) fun t22_22 =>
oV (vBuild ty152 [((0, 1), x0), ((1, 3), t11_9), ((4, 1), x1), ((5, 3), t22_22)]) fun t23_23 =>
oNew (Value.cells t23_23).toList (Value.cells t23_23).toList.length 152 H_21 fun i_24 H_25 =>
oRC Tryd.prog 103 [(ptrTo i_24)] H_25 (fun c H => Q (.panicked c) H) fun v_26 H_27 =>
oRC Tryd.prog 104 [(ptrTo i_24)] H_27 (fun c H => Q (.panicked c) H) fun v_28 H_29 =>
oRC Tryd.prog 106 [(ptrTo i_24)] H_29 (fun c H => Q (.panicked c) H) fun v_30 H_31 =>
oRC Tryd.prog 105 [(ptrTo i_24), v_30] H_31 (fun c H => Q (.panicked c) H) fun v_32 H_33 =>
oV (vNil (ptrTo i_24)) fun t34_34 =>
oV (vField 5 t34_34) fun t35_35 =>
oV (vLoad ty71 t35_35 H_33) fun t36_36 =>
oHeap (vStore ty71 (ptrTo i_1) t36_36 H_33) fun H_37 =>
retM ((vLoad ty71 (ptrTo i_1) H_37).bind fun v => (some []).map (v :: ·)) Q H_37
theorem c72_0 (env : Env) (H : Heap) (Q : QT) (h : m72 (env 0) (env 1) H Q) :
    RCode Tryd.prog 37 (bodyOf Tryd.f72) env H (mkK (retK T Tryd.f72.results.toList Q) (fun _ _ _ => False) (retK T Tryd.f72.results.toList Q) (fun c H => Q (.panicked c) H)) :=
  RCode.leaf_ (T := T) (X := ext) (hint := hint72) tok xok mixed (by kernel_rfl) h
theorem call72 (a0 a1 : Value) (H : Heap) (Q : QT) (h : m72 a0 a1 H Q) : RCalls Tryd.prog 72 [a0, a1] H Q :=
  RCalls.intro (nt := 37) tok Tryd.func72 (by kernel_rfl) (by kernel_rfl) (by kernel_rfl) (of_decide_eq_true (by kernel_rfl)) (c72_0 (envOf [a0, a1]) H Q h)
def hint37 : Nat → List Nat := lookupL [(6, [0, 1, 2, 3, 4, 5, 6, 7, 8])]
def m37_1 (H : Heap) (Q : QT) : Prop :=
Q (.returned (.bool true)) H
theorem c37_1 (env : Env) (H : Heap) (Q : QT) (h : m37_1 H Q) :
    RCode Tryd.prog 26 (codeAt [1, 1, 1] (bodyOf Tryd.f37)) env H (mkK (retK T Tryd.f37.results.toList Q) (fun _ _ _ => False) (retK T Tryd.f37.results.toList Q) (fun c H => Q (.panicked c) H)) :=
  RCode.leaf_ (T := T) (X := ext) (hint := hint37) tok xok mixed (by kernel_rfl) h
def L37_3 (x0 x1 x5 : Value) (H : Heap) (kn : K0T) (Q : QT) : Prop :=
  ∀ env : Env, env 0 = x0 → env 1 = x1 → env 5 = x5 → RLoop Tryd.prog 26 (codeAt [1, 1, 0, 1, 0, 0] (bodyOf Tryd.f37)) env H (mkK (fun _ _ => False) (inK 0 (fun e H => kn H) (fun _ _ _ => False)) (retK T Tryd.f37.results.toList Q) (fun c H => Q (.panicked c) H))
theorem cL37_3 (env : Env) (H : Heap) (kn : K0T) (Q : QT) (h : L37_3 (env 0) (env 1) (env 5) H kn Q) :
    RCode Tryd.prog 26 (codeAt [1, 1, 0, 1] (bodyOf Tryd.f37)) env H (mkK (fun e H => kn H) (fun _ _ _ => False) (retK T Tryd.f37.results.toList Q) (fun c H => Q (.panicked c) H)) :=
  RCode.blk (by kernel_rfl : (codeAt [1, 1, 0, 1] (bodyOf Tryd.f37)) = .block 0 (codeAt [1, 1, 0, 1, 0] (bodyOf Tryd.f37))) (RCode.lp (by kernel_rfl : (codeAt [1, 1, 0, 1, 0] (bodyOf Tryd.f37)) = .loop (codeAt [1, 1, 0, 1, 0, 0] (bodyOf Tryd.f37))) ((h env rfl rfl rfl).mono (mkK_mono (fun _ _ h => h.elim) (fun _ _ _ h => h) (fun _ _ h => h) (fun _ _ h => h))))
def m37_4 (x0 x1 x5 : Value) (H : Heap) (kn : K3T) (kx0 : K0T) (Q : QT) : Prop :=
oV (vLen x0) fun t13_1 =>
oV (vInt .lss x5 t13_1) fun t14_2 =>
condK t14_2 (
oV (vIdxS 1 x0 x5) fun t19_3 =>
oV (vLoad ty22 t19_3 H) fun t20_4 =>
oV (vIdxS 1 x1 x5) fun t23_5 =>
oV (vLoad ty22 t23_5 H) fun t24_6 =>
oV (vInt .neq t20_4 t24_6) fun t25_7 =>
condK t25_7 (
Q (.returned (.bool false)) H) (
oV (vInt .add x5 (.int .i64 1)) fun t16_8 =>
kn x0 x1 t16_8 H)) (
kx0 H)
theorem c37_4 (env : Env) (H : Heap) (kn : K3T) (kx0 : K0T) (Q : QT) (h : m37_4 (env 0) (env 1) (env 5) H kn kx0 Q) :
    RCode Tryd.prog 26 (codeAt [1, 1, 0, 1, 0, 0] (bodyOf Tryd.f37)) env H (mkK (fun e H => kn (e 0) (e 1) (e 5) H) (inK 0 (fun e H => kx0 H) (fun _ _ _ => False)) (retK T Tryd.f37.results.toList Q) (fun c H => Q (.panicked c) H)) :=
  RCode.leaf_ (T := T) (X := ext) (hint := hint37) tok xok mixed (by kernel_rfl) h
theorem L37_3_round (x0 x1 x5 : Value) (H : Heap) (kn : K0T) (Q : QT) (h : m37_4 x0 x1 x5 H (fun y0 y1 y5 H => L37_3 y0 y1 y5 H kn Q) kn Q) : L37_3 x0 x1 x5 H kn Q := by
  intro env h0 h1 h5
  subst h0; subst h1; subst h5
  exact RLoop.round ((c37_4 env H (fun y0 y1 y5 H => L37_3 y0 y1 y5 H kn Q) kn Q h).mono (mkK_mono (fun e H h => h e rfl rfl rfl) (fun _ _ _ h => h) (fun _ _ h => h) (fun _ _ h => h)))
def m37_2 (x0 x1 : Value) (H : Heap) (kn : K0T) (Q : QT) : Prop :=
L37_3 x0 x1 (.int .i64 0) H kn Q
theorem c37_2 (env : Env) (H : Heap) (kn : K0T) (Q : QT) (h : m37_2 (env 0) (env 1) H kn Q) :
    RCode Tryd.prog 26 (codeAt [1, 1, 0] (bodyOf Tryd.f37)) env H (mkK (fun e H => kn H) (fun _ _ _ => False) (retK T Tryd.f37.results.toList Q) (fun c H => Q (.panicked c) H)) :=
  RCode.prefix_ (T := T) (X := ext) (hint := hint37) (hole := (fun e H => L37_3 (e 0) (e 1) (e 5) H kn Q)) tok xok mixed 1 (by kernel_rfl) (by kernel_rfl : codeAt _ _ = (codeAt [1, 1, 0, 1] (bodyOf Tryd.f37))) h
    (fun e H h => (cL37_3 e H kn Q h))
def m37 (x0 x1 : Value) (H : Heap) (Q : QT) : Prop :=
oV (vLen x0) fun t7_9 =>
oV (vLen x1) fun t9_10 =>
oV (vInt .neq t7_9 t9_10) fun t10_11 =>
condK t10_11 (
Q (.returned (.bool false)) H) (
m37_2 x0 x1 H (fun H_12 => m37_1 H_12 Q) Q)
theorem c37_0 (env : Env) (H : Heap) (Q : QT) (h : m37 (env 0) (env 1) H Q) :
    RCode Tryd.prog 26 (bodyOf Tryd.f37) env H (mkK (retK T Tryd.f37.results.toList Q) (fun _ _ _ => False) (retK T Tryd.f37.results.toList Q) (fun c H => Q (.panicked c) H)) :=
  RCode.prefix_ (T := T) (X := ext) (hint := hint37) (hole := (fun e H => m37_2 (e 0) (e 1) H (fun H_13 => m37_1 H_13 Q) Q)) tok xok mixed 2 (by kernel_rfl) (by kernel_rfl : codeAt _ _ = (codeAt [1, 1] (bodyOf Tryd.f37))) h
    (fun e H h => RCode.join (by kernel_rfl : (codeAt [1, 1] (bodyOf Tryd.f37)) = .seq (codeAt [1, 1, 0] (bodyOf Tryd.f37)) (codeAt [1, 1, 1] (bodyOf Tryd.f37))) ((c37_2 e H (fun H_14 => m37_1 H_14 Q) Q h).mono (mkK_mono (fun e H h => c37_1 e H Q h) (fun _ _ _ h => h) (fun _ _ h => h) (fun _ _ h => h))))
theorem call37 (a0 a1 : Value) (H : Heap) (Q : QT) (h : m37 a0 a1 H Q) : RCalls Tryd.prog 37 [a0, a1] H Q :=
  RCalls.intro (nt := 26) tok Tryd.func37 (by kernel_rfl) (by kernel_rfl) (by kernel_rfl) (of_decide_eq_true (by kernel_rfl)) (c37_0 (envOf [a0, a1]) H Q h)
def hint44 : Nat → List Nat := lookupL [(6, [0, 1, 2, 3, 4, 5, 6, 7, 8, 9])]
def m44_1 (H : Heap) (Q : QT) : Prop :=
Q (.returned (.bool true)) H
theorem c44_1 (env : Env) (H : Heap) (Q : QT) (h : m44_1 H Q) :
    RCode Tryd.prog 27 (codeAt [1, 1, 1] (bodyOf Tryd.f44)) env H (mkK (retK T Tryd.f44.results.toList Q) (fun _ _ _ => False) (retK T Tryd.f44.results.toList Q) (fun c H => Q (.panicked c) H)) :=
  RCode.leaf_ (T := T) (X := ext) (hint := hint44) tok xok mixed (by kernel_rfl) h
def L44_3 (x0 x1 x5 : Value) (H : Heap) (kn : K0T) (Q : QT) : Prop :=
  ∀ env : Env, env 0 = x0 → env 1 = x1 → env 5 = x5 → RLoop Tryd.prog 27 (codeAt [1, 1, 0, 1, 0, 0] (bodyOf Tryd.f44)) env H (mkK (fun _ _ => False) (inK 0 (fun e H => kn H) (fun _ _ _ => False)) (retK T Tryd.f44.results.toList Q) (fun c H => Q (.panicked c) H))
theorem cL44_3 (env : Env) (H : Heap) (kn : K0T) (Q : QT) (h : L44_3 (env 0) (env 1) (env 5) H kn Q) :
    RCode Tryd.prog 27 (codeAt [1, 1, 0, 1] (bodyOf Tryd.f44)) env H (mkK (fun e H => kn H) (fun _ _ _ => False) (retK T Tryd.f44.results.toList Q) (fun c H => Q (.panicked c) H)) :=
  RCode.blk (by kernel_rfl : (codeAt [1, 1, 0, 1] (bodyOf Tryd.f44)) = .block 0 (codeAt [1, 1, 0, 1, 0] (bodyOf Tryd.f44))) (RCode.lp (by kernel_rfl : (codeAt [1, 1, 0, 1, 0] (bodyOf Tryd.f44)) = .loop (codeAt [1, 1, 0, 1, 0, 0] (bodyOf Tryd.f44))) ((h env rfl rfl rfl).mono (mkK_mono (fun _ _ h => h.elim) (fun _ _ _ h => h) (fun _ _ h => h) (fun _ _ h => h))))
def m44_4 (x0 x1 x5 : Value) (H : Heap) (kn : K3T) (kx0 : K0T) (Q : QT) : Prop :=
oV (vLen x0) fun t13_1 =>
oV (vInt .lss x5 t13_1) fun t14_2 =>
condK t14_2 (
oV (vIdxS 1 x0 x5) fun t19_3 =>
oV (vLoad ty52 t19_3 H) fun t20_4 =>
oV (vIdxS 1 x1 x5) fun t23_5 =>
oV (vLoad ty52 t23_5 H) fun t24_6 =>
oRC Tryd.prog 37 [t20_4, t24_6] H noP fun v_7 H_8 =>
oV (vUn .not v_7) fun t26_9 =>
condK t26_9 (
Q (.returned (.bool false)) H_8) (
oV (vInt .add x5 (.int .i64 1)) fun t16_10 =>
kn x0 x1 t16_10 H_8)) (
kx0 H)
theorem c44_4 (env : Env) (H : Heap) (kn : K3T) (kx0 : K0T) (Q : QT) (h : m44_4 (env 0) (env 1) (env 5) H kn kx0 Q) :
    RCode Tryd.prog 27 (codeAt [1, 1, 0, 1, 0, 0] (bodyOf Tryd.f44)) env H (mkK (fun e H => kn (e 0) (e 1) (e 5) H) (inK 0 (fun e H => kx0 H) (fun _ _ _ => False)) (retK T Tryd.f44.results.toList Q) (fun c H => Q (.panicked c) H)) :=
  RCode.leaf_ (T := T) (X := ext) (hint := hint44) tok xok mixed (by kernel_rfl) h
theorem L44_3_round (x0 x1 x5 : Value) (H : Heap) (kn : K0T) (Q : QT) (h : m44_4 x0 x1 x5 H (fun y0 y1 y5 H => L44_3 y0 y1 y5 H kn Q) kn Q) : L44_3 x0 x1 x5 H kn Q := by
  intro env h0 h1 h5
  subst h0; subst h1; subst h5
  exact RLoop.round ((c44_4 env H (fun y0 y1 y5 H => L44_3 y0 y1 y5 H kn Q) kn Q h).mono (mkK_mono (fun e H h => h e rfl rfl rfl) (fun _ _ _ h => h) (fun _ _ h => h) (fun _ _ h => h)))
def m44_2 (x0 x1 : Value) (H : Heap) (kn : K0T) (Q : QT) : Prop :=
L44_3 x0 x1 (.int .i64 0) H kn Q
theorem c44_2 (env : Env) (H : Heap) (kn : K0T) (Q : QT) (h : m44_2 (env 0) (env 1) H kn Q) :
    RCode Tryd.prog 27 (codeAt [1, 1, 0] (bodyOf Tryd.f44)) env H (mkK (fun e H => kn H) (fun _ _ _ => False) (retK T Tryd.f44.results.toList Q) (fun c H => Q (.panicked c) H)) :=
  RCode.prefix_ (T := T) (X := ext) (hint := hint44) (hole := (fun e H => L44_3 (e 0) (e 1) (e 5) H kn Q)) tok xok mixed 1 (by kernel_rfl) (by kernel_rfl : codeAt _ _ = (codeAt [1, 1, 0, 1] (bodyOf Tryd.f44))) h
    (fun e H h => (cL44_3 e H kn Q h))
def m44 (x0 x1 : Value) (H : Heap) (Q : QT) : Prop :=
oV (vLen x0) fun t7_11 =>
oV (vLen x1) fun t9_12 =>
oV (vInt .neq t7_11 t9_12) fun t10_13 =>
condK t10_13 (
Q (.returned (.bool false)) H) (
m44_2 x0 x1 H (fun H_14 => m44_1 H_14 Q) Q)
theorem c44_0 (env : Env) (H : Heap) (Q : QT) (h : m44 (env 0) (env 1) H Q) :
    RCode Tryd.prog 27 (bodyOf Tryd.f44) env H (mkK (retK T Tryd.f44.results.toList Q) (fun _ _ _ => False) (retK T Tryd.f44.results.toList Q) (fun c H => Q (.panicked c) H)) :=
  RCode.prefix_ (T := T) (X := ext) (hint := hint44) (hole := (fun e H => m44_2 (e 0) (e 1) H (fun H_15 => m44_1 H_15 Q) Q)) tok xok mixed 2 (by kernel_rfl) (by kernel_rfl : codeAt _ _ = (codeAt [1, 1] (bodyOf Tryd.f44))) h
    (fun e H h => RCode.join (by kernel_rfl : (codeAt [1, 1] (bodyOf Tryd.f44)) = .seq (codeAt [1, 1, 0] (bodyOf Tryd.f44)) (codeAt [1, 1, 1] (bodyOf Tryd.f44))) ((c44_2 e H (fun H_16 => m44_1 H_16 Q) Q h).mono (mkK_mono (fun e H h => c44_1 e H Q h) (fun _ _ _ h => h) (fun _ _ h => h) (fun _ _ h => h))))
theorem call44 (a0 a1 : Value) (H : Heap) (Q : QT) (h : m44 a0 a1 H Q) : RCalls Tryd.prog 44 [a0, a1] H Q :=
  RCalls.intro (nt := 27) tok Tryd.func44 (by kernel_rfl) (by kernel_rfl) (by kernel_rfl) (of_decide_eq_true (by kernel_rfl)) (c44_0 (envOf [a0, a1]) H Q h)
def hint32 : Nat → List Nat := lookupL [(12, [0, 1, 2, 3, 4, 5, 6, 7, 8, 9, 10, 11, 12, 13, 14, 15, 16, 17, 18, 19, 20, 21, 22, 23, 24, 25, 26, 27, 28, 29, 30, 31, 32, 33, 34, 35, 36, 37, 38, 39, 40, 41, 42, 43])]
def m32_1 (H : Heap) (Q : QT) : Prop :=
Q (.returned (.bool true)) H
theorem c32_1 (env : Env) (H : Heap) (Q : QT) (h : m32_1 H Q) :
    RCode Tryd.prog 97 (codeAt [1, 1, 1, 1, 1, 1, 1, 1] (bodyOf Tryd.f32)) env H (mkK (retK T Tryd.f32.results.toList Q) (fun _ _ _ => False) (retK T Tryd.f32.results.toList Q) (fun c H => Q (.panicked c) H)) :=
  RCode.leaf_ (T := T) (X := ext) (hint := hint32) tok xok mixed (by kernel_rfl) h
def L32_3 (x4 x5 x6 : Value) (H : Heap) (kn : K0T) (Q : QT) : Prop :=
  ∀ env : Env, env 4 = x4 → env 5 = x5 → env 6 = x6 → RLoop Tryd.prog 97 (codeAt [1, 1, 1, 1, 1, 1, 1, 0, 1, 0, 0] (bodyOf Tryd.f32)) env H (mkK (fun _ _ => False) (inK 0 (fun e H => kn H) (fun _ _ _ => False)) (retK T Tryd.f32.results.toList Q) (fun c H => Q (.panicked c) H))
theorem cL32_3 (env : Env) (H : Heap) (kn : K0T) (Q : QT) (h : L32_3 (env 4) (env 5) (env 6) H kn Q) :
    RCode Tryd.prog 97 (codeAt [1, 1, 1, 1, 1, 1, 1, 0, 1] (bodyOf Tryd.f32)) env H (mkK (fun e H => kn H) (fun _ _ _ => False) (retK T Tryd.f32.results.toList Q) (fun c H => Q (.panicked c) H)) :=
  RCode.blk (by kernel_rfl : (codeAt [1, 1, 1, 1, 1, 1, 1, 0, 1] (bodyOf Tryd.f32)) = .block 0 (codeAt [1, 1, 1, 1, 1, 1, 1, 0, 1, 0] (bodyOf Tryd.f32))) (RCode.lp (by kernel_rfl : (codeAt [1, 1, 1, 1, 1, 1, 1, 0, 1, 0] (bodyOf Tryd.f32)) = .loop (codeAt [1, 1, 1, 1, 1, 1, 1, 0, 1, 0, 0] (bodyOf Tryd.f32))) ((h env rfl rfl rfl).mono (mkK_mono (fun _ _ h => h.elim) (fun _ _ _ h => h) (fun _ _ h => h) (fun _ _ h => h))))
def m32_4 (x4 x5 x6 : Value) (H : Heap) (kn : K3T) (kx0 : K0T) (Q : QT) : Prop :=
oV (vInt .lss x6 (.int .i64 4)) fun t50_1 =>
condK t50_1 (
oV (vField 1 x4) fun t53_2 =>
oV (vLoad ty69 t53_2 H) fun t54_3 =>
oV (vIdxS 1 t54_3 x6) fun t56_4 =>
oV (vLoad ty44 t56_4 H) fun t57_5 =>
oV (vLen t57_5) fun t58_6 =>
oV (vInt .neq t58_6 (.int .i64 4)) fun t59_7 =>
oV (gV t59_7 false (vField 1 x4) (some undef)) fun t61_8 =>
oV (gV t59_7 false (vLoad ty69 t61_8 H) (some undef)) fun t62_9 =>
oV (gV t59_7 false (some x6) (some undef)) fun t63_10 =>
oV (gV t59_7 false (vIdxS 1 t62_9 t63_10) (some undef)) fun t64_11 =>
oV (gV t59_7 false (vLoad ty44 t64_11 H) (some undef)) fun t65_12 =>
oV (gV t59_7 false (vIdxS 1 t65_12 (.int .i64 0)) (some undef)) fun t66_13 =>
oV (gV t59_7 false (vLoad ty27 t66_13 H) (some undef)) fun t67_14 =>
oV (gV t59_7 false (some x5) (some undef)) fun t68_15 =>
oV (gV t59_7 false (some x6) (some undef)) fun t69_16 =>
oV (gV t59_7 false (some x6) (some undef)) fun t70_17 =>
oV (gV t59_7 false (vInt .add t70_17 (.int .i64 1)) (some undef)) fun t71_18 =>
oV (gV t59_7 false (vSlice 1 t68_15 (some t69_16) (some t71_18) none) (some undef)) fun t72_19 =>
letK (fun t73_21 H_22 =>
oV (gV t59_7 false (vUn .not t73_21) (some undef)) fun t74_23 =>
oV (vPick t59_7 (.bool true) t74_23) fun t75_24 =>
oV (gV t75_24 false (vField 2 x4) (some undef)) fun t77_25 =>
oV (gV t75_24 false (vLoad ty44 t77_25 H_22) (some undef)) fun t78_26 =>
oV (gV t75_24 false (some x6) (some undef)) fun t79_27 =>
oV (gV t75_24 false (vIdxS 1 t78_26 t79_27) (some undef)) fun t80_28 =>
oV (gV t75_24 false (vLoad ty27 t80_28 H_22) (some undef)) fun t81_29 =>
oV (gV t75_24 false (vLen t81_29) (some undef)) fun t82_30 =>
oV (gV t75_24 false (vInt .neq t82_30 (.int .i64 4)) (some undef)) fun t83_31 =>
oV (vPick t75_24 (.bool true) t83_31) fun t84_32 =>
oV (gV t84_32 false (vField 2 x4) (some undef)) fun t86_33 =>
oV (gV t84_32 false (vLoad ty44 t86_33 H_22) (some undef)) fun t87_34 =>
oV (gV t84_32 false (some x6) (some undef)) fun t88_35 =>
oV (gV t84_32 false (vIdxS 1 t87_34 t88_35) (some undef)) fun t89_36 =>
oV (gV t84_32 false (vLoad ty27 t89_36 H_22) (some undef)) fun t90_37 =>
oV (gV t84_32 false (vIdxS 1 t90_37 (.int .i64 0)) (some undef)) fun t91_38 =>
oV (gV t84_32 false (vLoad ty52 t91_38 H_22) (some undef)) fun t92_39 =>
letK (fun t93_41 H_42 =>
letK (fun t94_44 H_45 =>
oV (gV t84_32 false (vUn .not t94_44) (some undef)) fun t95_46 =>
oV (vPick t84_32 (.bool true) t95_46) fun t96_47 =>
condK t96_47 (
Q (.returned (.bool false)) H_45) (
oV (vInt .add x6 (.int .i64 1)) fun t52_48 =>
kn x4 x5 t52_48 H_45)) fun k_43 => gK t84_32 false (oRC Tryd.prog 37 [t92_39, t93_41] H_42 noP fun v_49 H_50 =>
k_43 v_49 H_50) (k_43 undef H_42)) fun k_40 => gK t84_32 false (oBuildS ty22 22 4 [((0, 1), (.int .u64 0)), ((1, 1), (.int .u64 0)), ((2, 1), (.int .u64 0)), ((3, 1), (.int .u64 0))] H_22 fun s_51 H_52 =>
k_40 s_51 H_52) (k_40 undef H_22)) fun k_20 => gK t59_7 false (oRC Tryd.prog 44 [t67_14, t72_19] H noP fun v_53 H_54 =>
k_20 v_53 H_54) (k_20 undef H)) (
kx0 H)
theorem c32_4 (env : Env) (H : Heap) (kn : K3T) (kx0 : K0T) (Q : QT) (h : m32_4 (env 4) (env 5) (env 6) H kn kx0 Q) :
    RCode Tryd.prog 97 (codeAt [1, 1, 1, 1, 1, 1, 1, 0, 1, 0, 0] (bodyOf Tryd.f32)) env H (mkK (fun e H => kn (e 4) (e 5) (e 6) H) (inK 0 (fun e H => kx0 H) (fun _ _ _ => False)) (retK T Tryd.f32.results.toList Q) (fun c H => Q (.panicked c) H)) :=
  RCode.leaf_ (T := T) (X := ext) (hint := hint32) tok xok mixed (by kernel_rfl) h
theorem L32_3_round (x4 x5 x6 : Value) (H : Heap) (kn : K0T) (Q : QT) (h : m32_4 x4 x5 x6 H (fun y4 y5 y6 H => L32_3 y4 y5 y6 H kn Q) kn Q) : L32_3 x4 x5 x6 H kn Q := by
  intro env h4 h5 h6
  subst h4; subst h5; subst h6
  exact RLoop.round ((c32_4 env H (fun y4 y5 y6 H => L32_3 y4 y5 y6 H kn Q) kn Q h).mono (mkK_mono (fun e H h => h e rfl rfl rfl) (fun _ _ _ h => h) (fun _ _ h => h) (fun _ _ h => h)))
def m32_2 (x4 x5 : Value) (H : Heap) (kn : K0T) (Q : QT) : Prop :=
L32_3 x4 x5 (.int .i64 0) H kn Q
theorem c32_2 (env : Env) (H : Heap) (kn : K0T) (Q : QT) (h : m32_2 (env 4) (env 5) H kn Q) :
    RCode Tryd.prog 97 (codeAt [1, 1, 1, 1, 1, 1, 1, 0] (bodyOf Tryd.f32)) env H (mkK (fun e H => kn H) (fun _ _ _ => False) (retK T Tryd.f32.results.toList Q) (fun c H => Q (.panicked c) H)) :=
  RCode.prefix_ (T := T) (X := ext) (hint := hint32) (hole := (fun e H => L32_3 (e 4) (e 5) (e 6) H kn Q)) tok xok mixed 1 (by kernel_rfl) (by kernel_rfl : codeAt _ _ = (codeAt [1, 1, 1, 1, 1, 1, 1, 0, 1] (bodyOf Tryd.f32))) h
    (fun e H h => (cL32_3 e H kn Q h))
def m32 (H : Heap) (Q : QT) : Prop :=
oV (vBuild ty24 [((0, 1), (.int .u64 31)), ((1, 1), (.int .i64 4)), ((2, 1), (.int .i64 1))]) fun t7_55 =>
oBuildS ty22 22 1 [((0, 1), (.int .u64 3))] H fun s_56 H_57 =>
oBuildS ty52 52 4 [((0, 1), s_56), ((1, 1), (.slice none 0 0)), ((2, 1), (.slice none 0 0)), ((3, 1), (.slice none 0 0))] H_57 fun s_58 H_59 =>
oV (vBuild ty29 [((0, 3), t7_55), ((5, 1), s_58)]) fun t10_60 =>
oNew (Value.cells ty29.zero).toList (Value.cells ty29.zero).toList.length 29 H_59 fun i_61 H_62 =>
oHeap (vStore ty29 (ptrTo i_61) t10_60 H_62) fun H_63 =>
oV (vLoad ty29 (ptrTo i_61) H_63) fun t12_64 =>
oRC Tryd.prog 12 [t12_64] H_63 (fun c H => Q (.panicked c) H) fun v_65 H_66 =>
oV (vExtract v_65 0) fun t14_67 =>
oV (vExtract v_65 1) fun t15_68 =>
oV (vInt .neq t15_68 (.int .i64 0)) fun t17_69 =>
condK t17_69 (
Q (.returned (.bool false)) H_66) (
oBuildS ty22 22 2 [((0, 1), (.int .u64 5)), ((1, 1), (.int .u64 2))] H_66 fun s_70 H_71 =>
oBuildS ty52 52 1 [((0, 1), s_70)] H_71 fun s_72 H_73 =>
oBuildS ty27 27 4 [((0, 1), s_72), ((1, 1), (.slice none 0 0)), ((2, 1), (.slice none 0 0)), ((3, 1), (.slice none 0 0))] H_73 fun s_74 H_75 =>
oRC Tryd.prog 72 [t14_67, s_74] H_75 (fun c H => Q (.panicked c) H) fun v_76 H_77 =>
oNew (Value.cells ty71.zero).toList (Value.cells ty71.zero).toList.length 71 H_77 fun i_78 H_79 =>
oHeap (vStore ty71 (ptrTo i_78) v_76 H_79) fun H_80 =>
oRC Tryd.prog 14 [t14_67] H_80 (fun c H => Q (.panicked c) H) fun v_81 H_82 =>
oV (vInt .neq v_81 (.int .i64 3)) fun t25_83 =>
oV (gV t25_83 false (vField 1 (ptrTo i_78)) (some undef)) fun t27_84 =>
oV (gV t25_83 false (vLoad ty69 t27_84 H_82) (some undef)) fun t28_85 =>
oV (gV t25_83 false (vLen t28_85) (some undef)) fun t29_86 =>
oV (gV t25_83 false (vInt .neq t29_86 (.int .i64 4)) (some undef)) fun t30_87 =>
oV (vPick t25_83 (.bool true) t30_87) fun t31_88 =>
oV (gV t31_88 false (vField 2 (ptrTo i_78)) (some undef)) fun t33_89 =>
oV (gV t31_88 false (vLoad ty44 t33_89 H_82) (some undef)) fun t34_90 =>
oV (gV t31_88 false (vLen t34_90) (some undef)) fun t35_91 =>
oV (gV t31_88 false (vInt .neq t35_91 (.int .i64 4)) (some undef)) fun t36_92 =>
oV (vPick t31_88 (.bool true) t36_92) fun t37_93 =>
oV (gV t37_93 false (vField 0 (ptrTo i_78)) (some undef)) fun t39_94 =>
oV (gV t37_93 false (vLoad ty69 t39_94 H_82) (some undef)) fun t40_95 =>
oV (gV t37_93 false (vLen t40_95) (some undef)) fun t41_96 =>
oV (gV t37_93 false (vInt .neq t41_96 (.int .i64 4)) (some undef)) fun t42_97 =>
oV (vPick t37_93 (.bool true) t42_97) fun t43_98 =>
condK t43_98 (
Q (.returned (.bool false)) H_82) (
oBuildS ty22 22 2 [((0, 1), (.int .u64 7)), ((1, 1), (.int .u64 5))] H_82 fun s_99 H_100 =>
oBuildS ty22 22 2 [((0, 1), (.int .u64 9)), ((1, 1), (.int .u64 8))] H_100 fun s_101 H_102 =>
oBuildS ty22 22 2 [((0, 1), (.int .u64 11)), ((1, 1), (.int .u64 11))] H_102 fun s_103 H_104 =>
oBuildS ty22 22 2 [((0, 1), (.int .u64 13)), ((1, 1), (.int .u64 14))] H_104 fun s_105 H_106 =>
oBuildS ty52 52 4 [((0, 1), s_99), ((1, 1), s_101), ((2, 1), s_103), ((3, 1), s_105)] H_106 fun s_107 H_108 =>
m32_2 (ptrTo i_78) s_107 H_108 (fun H_109 => m32_1 H_109 Q) Q))
theorem c32_0 (env : Env) (H : Heap) (Q : QT) (h : m32 H Q) :
    RCode Tryd.prog 97 (bodyOf Tryd.f32) env H (mkK (retK T Tryd.f32.results.toList Q) (fun _ _ _ => False) (retK T Tryd.f32.results.toList Q) (fun c H => Q (.panicked c) H)) :=
  RCode.prefix_ (T := T) (X := ext) (hint := hint32) (hole := (fun e H => m32_2 (e 4) (e 5) H (fun H_110 => m32_1 H_110 Q) Q)) tok xok mixed 7 (by kernel_rfl) (by kernel_rfl : codeAt _ _ = (codeAt [1, 1, 1, 1, 1, 1, 1] (bodyOf Tryd.f32))) h
    (fun e H h => RCode.join (by kernel_rfl : (codeAt [1, 1, 1, 1, 1, 1, 1] (bodyOf Tryd.f32)) = .seq (codeAt [1, 1, 1, 1, 1, 1, 1, 0] (bodyOf Tryd.f32)) (codeAt [1, 1, 1, 1, 1, 1, 1, 1] (bodyOf Tryd.f32))) ((c32_2 e H (fun H_111 => m32_1 H_111 Q) Q h).mono (mkK_mono (fun e H h => c32_1 e H Q h) (fun _ _ _ h => h) (fun _ _ h => h) (fun _ _ h => h))))
theorem call32 (H : Heap) (Q : QT) (h : m32 H Q) : RCalls Tryd.prog 32 [] H Q :=
  RCalls.intro (nt := 97) tok Tryd.func32 (by kernel_rfl) (by kernel_rfl) (by kernel_rfl) (of_decide_eq_true (by kernel_rfl)) (c32_0 (envOf []) H Q h)
def hint73 : Nat → List Nat := lookupL []
def m73 (x0 : Value) (H : Heap) (Q : QT) : Prop :=
oV (vInt .add x0 (.int .i64 1)) fun t5_1 =>
oV (vInt .mul x0 t5_1) fun t6_2 =>
oV (vInt .quo t6_2 (.int .i64 2)) fun t7_3 =>
Q (.returned t7_3) H
theorem c73_0 (env : Env) (H : Heap) (Q : QT) (h : m73 (env 0) H Q) :
    RCode Tryd.prog 8 (bodyOf Tryd.f73) env H (mkK (retK T Tryd.f73.results.toList Q) (fun _ _ _ => False) (retK T Tryd.f73.results.toList Q) (fun c H => Q (.panicked c) H)) :=
  RCode.leaf_ (T := T) (X := ext) (hint := hint73) tok xok mixed (by kernel_rfl) h
theorem call73 (a0 : Value) (H : Heap) (Q : QT) (h : m73 a0 H Q) : RCalls Tryd.prog 73 [a0] H Q :=
  RCalls.intro (nt := 8) tok Tryd.func73 (by kernel_rfl) (by kernel_rfl) (by kernel_rfl) (of_decide_eq_true (by kernel_rfl)) (c73_0 (envOf [a0]) H Q h)
def hint74 : Nat → List Nat := lookupL []
def m74_1 (x1 x2 : Value) (H : Heap) (Q : QT) : Prop :=
oV (vLen x1) fun t26_1 =>
oV (vInt .leq t26_1 x2) fun t28_2 =>
Q (.returned t28_2) H
theorem c74_1 (env : Env) (H : Heap) (Q : QT) (h : m74_1 (env 1) (env 2) H Q) :
    RCode Tryd.prog 29 (codeAt [1, 1] (bodyOf Tryd.f74)) env H (mkK (retK T Tryd.f74.results.toList Q) (fun _ _ _ => False) (retK T Tryd.f74.results.toList Q) (fun c H => Q (.panicked c) H)) :=
  RCode.leaf_ (T := T) (X := ext) (hint := hint74) tok xok mixed (by kernel_rfl) h
def L74_3 (x0 x1 x2 x7 : Value) (H : Heap) (kn : K2T) (Q : QT) : Prop :=
  ∀ env : Env, env 0 = x0 → env 1 = x1 → env 2 = x2 → env 7 = x7 → RLoop Tryd.prog 29 (codeAt [1, 0, 1, 0, 0] (bodyOf Tryd.f74)) env H (mkK (fun _ _ => False) (inK 0 (fun e H => kn (e 1) (e 2) H) (fun _ _ _ => False)) (retK T Tryd.f74.results.toList Q) (fun c H => Q (.panicked c) H))
theorem cL74_3 (env : Env) (H : Heap) (kn : K2T) (Q : QT) (h : L74_3 (env 0) (env 1) (env 2) (env 7) H kn Q) :
    RCode Tryd.prog 29 (codeAt [1, 0, 1] (bodyOf Tryd.f74)) env H (mkK (fun e H => kn (e 1) (e 2) H) (fun _ _ _ => False) (retK T Tryd.f74.results.toList Q) (fun c H => Q (.panicked c) H)) :=
  RCode.blk (by kernel_rfl : (codeAt [1, 0, 1] (bodyOf Tryd.f74)) = .block 0 (codeAt [1, 0, 1, 0] (bodyOf Tryd.f74))) (RCode.lp (by kernel_rfl : (codeAt [1, 0, 1, 0] (bodyOf Tryd.f74)) = .loop (codeAt [1, 0, 1, 0, 0] (bodyOf Tryd.f74))) ((h env rfl rfl rfl rfl).mono (mkK_mono (fun _ _ h => h.elim) (fun _ _ _ h => h) (fun _ _ h => h) (fun _ _ h => h))))
def m74_4 (x0 x1 x2 x7 : Value) (H : Heap) (kn : K4T) (kx0 : K2T) (Q : QT) : Prop :=
oV (vLen x1) fun t10_3 =>
oV (vInt .lss x7 t10_3) fun t11_4 =>
oV (gV t11_4 true (some x7) (some undef)) fun t13_5 =>
oV (gV t11_4 true (some x2) (some undef)) fun t14_6 =>
oV (gV t11_4 true (vInt .leq t13_5 t14_6) (some undef)) fun t15_7 =>
oV (vPick t11_4 t15_7 (.bool false)) fun t16_8 =>
condK t16_8 (
oV (vIdxS 1 x1 x7) fun t21_9 =>
oV (vLoad ty22 t21_9 H) fun t22_10 =>
oV (vInt .geq t22_10 x0) fun t24_11 =>
condK t24_11 (
Q (.returned (.bool false)) H) (
oV (vInt .add x7 (.int .i64 1)) fun t18_12 =>
kn x0 x1 x2 t18_12 H)) (
kx0 x1 x2 H)
theorem c74_4 (env : Env) (H : Heap) (kn : K4T) (kx0 : K2T) (Q : QT) (h : m74_4 (env 0) (env 1) (env 2) (env 7) H kn kx0 Q) :
    RCode Tryd.prog 29 (codeAt [1, 0, 1, 0, 0] (bodyOf Tryd.f74)) env H (mkK (fun e H => kn (e 0) (e 1) (e 2) (e 7) H) (inK 0 (fun e H => kx0 (e 1) (e 2) H) (fun _ _ _ => False)) (retK T Tryd.f74.results.toList Q) (fun c H => Q (.panicked c) H)) :=
  RCode.leaf_ (T := T) (X := ext) (hint := hint74) tok xok mixed (by kernel_rfl) h
theorem L74_3_round (x0 x1 x2 x7 : Value) (H : Heap) (kn : K2T) (Q : QT) (h : m74_4 x0 x1 x2 x7 H (fun y0 y1 y2 y7 H => L74_3 y0 y1 y2 y7 H kn Q) kn Q) : L74_3 x0 x1 x2 x7 H kn Q := by
  intro env h0 h1 h2 h7
  subst h0; subst h1; subst h2; subst h7
  exact RLoop.round ((c74_4 env H (fun y0 y1 y2 y7 H => L74_3 y0 y1 y2 y7 H kn Q) kn Q h).mono (mkK_mono (fun e H h => h e rfl rfl rfl rfl) (fun _ _ _ h => h) (fun _ _ h => h) (fun _ _ h => h)))
def m74_2 (x0 x1 x2 : Value) (H : Heap) (kn : K2T) (Q : QT) : Prop :=
L74_3 x0 x1 x2 (.int .i64 0) H kn Q
theorem c74_2 (env : Env) (H : Heap) (kn : K2T) (Q : QT) (h : m74_2 (env 0) (env 1) (env 2) H kn Q) :
    RCode Tryd.prog 29 (codeAt [1, 0] (bodyOf Tryd.f74)) env H (mkK (fun e H => kn (e 1) (e 2) H) (fun _ _ _ => False) (retK T Tryd.f74.results.toList Q) (fun c H => Q (.panicked c) H)) :=
  RCode.prefix_ (T := T) (X := ext) (hint := hint74) (hole := (fun e H => L74_3 (e 0) (e 1) (e 2) (e 7) H kn Q)) tok xok mixed 1 (by kernel_rfl) (by kernel_rfl : codeAt _ _ = (codeAt [1, 0, 1] (bodyOf Tryd.f74))) h
    (fun e H h => (cL74_3 e H kn Q h))
def m74 (x0 x1 x2 : Value) (H : Heap) (Q : QT) : Prop :=
m74_2 x0 x1 x2 H (fun y1_13 y2_14 H_15 => m74_1 y1_13 y2_14 H_15 Q) Q
theorem c74_0 (env : Env) (H : Heap) (Q : QT) (h : m74 (env 0) (env 1) (env 2) H Q) :
    RCode Tryd.prog 29 (bodyOf Tryd.f74) env H (mkK (retK T Tryd.f74.results.toList Q) (fun _ _ _ => False) (retK T Tryd.f74.results.toList Q) (fun c H => Q (.panicked c) H)) :=
  RCode.prefix_ (T := T) (X := ext) (hint := hint74) (hole := (fun e H => m74_2 (e 0) (e 1) (e 2) H (fun y1_16 y2_17 H_18 => m74_1 y1_16 y2_17 H_18 Q) Q)) tok xok mixed 1 (by kernel_rfl) (by kernel_rfl : codeAt _ _ = (codeAt [1] (bodyOf Tryd.f74))) h
    (fun e H h => RCode.join (by kernel_rfl : (codeAt [1] (bodyOf Tryd.f74)) = .seq (codeAt [1, 0] (bodyOf Tryd.f74)) (codeAt [1, 1] (bodyOf Tryd.f74))) ((c74_2 e H (fun y1_19 y2_20 H_21 => m74_1 y1_19 y2_20 H_21 Q) Q h).mono (mkK_mono (fun e H h => c74_1 e H Q h) (fun _ _ _ h => h) (fun _ _ h => h) (fun _ _ h => h))))
theorem call74 (a0 a1 a2 : Value) (H : Heap) (Q : QT) (h : m74 a0 a1 a2 H Q) : RCalls Tryd.prog 74 [a0, a1, a2] H Q :=
  RCalls.intro (nt := 29) tok Tryd.func74 (by kernel_rfl) (by kernel_rfl) (by kernel_rfl) (of_decide_eq_true (by kernel_rfl)) (c74_0 (envOf [a0, a1, a2]) H Q h)
def hint33 : Nat → List Nat := lookupL [(6, [0, 1, 2, 3, 4, 5, 6, 7, 8, 9, 10, 11, 12, 13, 14, 15, 16, 17, 18, 19, 20, 21, 22, 23, 24, 25]), (11, [0, 1, 2, 3, 4, 5, 6, 7, 8, 9, 10, 11, 12, 13, 14, 15, 16, 17, 18, 19, 20, 21, 22, 23, 24, 25, 26])]
def m33_1 (H : Heap) (Q : QT) : Prop :=
Q (.returned (.bool true)) H
theorem c33_1 (env : Env) (H : Heap) (Q : QT) (h : m33_1 H Q) :
    RCode Tryd.prog 94 (codeAt [1, 1, 1] (bodyOf Tryd.f33)) env H (mkK (retK T Tryd.f33.results.toList Q) (fun _ _ _ => False) (retK T Tryd.f33.results.toList Q) (fun c H => Q (.panicked c) H)) :=
  RCode.leaf_ (T := T) (X := ext) (hint := hint33) tok xok mixed (by kernel_rfl) h
def L33_3 (x1 x2 x3 x7 : Value) (H : Heap) (kn : K0T) (Q : QT) : Prop :=
  ∀ env : Env, env 1 = x1 → env 2 = x2 → env 3 = x3 → env 7 = x7 → RLoop Tryd.prog 94 (codeAt [1, 1, 0, 1, 0, 0] (bodyOf Tryd.f33)) env H (mkK (fun _ _ => False) (inK 0 (fun e H => kn H) (fun _ _ _ => False)) (retK T Tryd.f33.results.toList Q) (fun c H => Q (.panicked c) H))
theorem cL33_3 (env : Env) (H : Heap) (kn : K0T) (Q : QT) (h : L33_3 (env 1) (env 2) (env 3) (env 7) H kn Q) :
    RCode Tryd.prog 94 (codeAt [1, 1, 0, 1] (bodyOf Tryd.f33)) env H (mkK (fun e H => kn H) (fun _ _ _ => False) (retK T Tryd.f33.results.toList Q) (fun c H => Q (.panicked c) H)) :=
  RCode.blk (by kernel_rfl : (codeAt [1, 1, 0, 1] (bodyOf Tryd.f33)) = .block 0 (codeAt [1, 1, 0, 1, 0] (bodyOf Tryd.f33))) (RCode.lp (by kernel_rfl : (codeAt [1, 1, 0, 1, 0] (bodyOf Tryd.f33)) = .loop (codeAt [1, 1, 0, 1, 0, 0] (bodyOf Tryd.f33))) ((h env rfl rfl rfl rfl).mono (mkK_mono (fun _ _ h => h.elim) (fun _ _ _ h => h) (fun _ _ h => h) (fun _ _ h => h))))
def m33_5 (x1 x2 x3 x7 : Value) (H : Heap) (kn : K4T) (kx0 : K0T) (Q : QT) : Prop :=
oV (vInt .add x7 (.int .i64 1)) fun t31_1 =>
kn x1 x2 x3 t31_1 H
theorem c33_5 (env : Env) (H : Heap) (kn : K4T) (kx0 : K0T) (Q : QT) (h : m33_5 (env 1) (env 2) (env 3) (env 7) H kn kx0 Q) :
    RCode Tryd.prog 94 (codeAt [1, 1, 0, 1, 0, 0, 1, 1] (bodyOf Tryd.f33)) env H (mkK (fun e H => kn (e 1) (e 2) (e 3) (e 7) H) (inK 0 (fun e H => kx0 H) (fun _ _ _ => False)) (retK T Tryd.f33.results.toList Q) (fun c H => Q (.panicked c) H)) :=
  RCode.leaf_ (T := T) (X := ext) (hint := hint33) tok xok mixed (by kernel_rfl) h
def L33_8 (x1 x2 x3 x7 x8 : Value) (H : Heap) (kn : K4T) (kx1 : K4T) (kx0 : K0T) (Q : QT) : Prop :=
  ∀ env : Env, env 1 = x1 → env 2 = x2 → env 3 = x3 → env 7 = x7 → env 8 = x8 → RLoop Tryd.prog 94 (codeAt [1, 1, 0, 1, 0, 0, 1, 0, 0, 1, 1, 0, 0] (bodyOf Tryd.f33)) env H (mkK (fun _ _ => False) (inK 2 (fun e H => kn (e 1) (e 2) (e 3) (e 7) H) (inK 1 (fun e H => kx1 (e 1) (e 2) (e 3) (e 7) H) (inK 0 (fun e H => kx0 H) (fun _ _ _ => False)))) (retK T Tryd.f33.results.toList Q) (fun c H => Q (.panicked c) H))
theorem cL33_8 (env : Env) (H : Heap) (kn : K4T) (kx1 : K4T) (kx0 : K0T) (Q : QT) (h : L33_8 (env 1) (env 2) (env 3) (env 7) (env 8) H kn kx1 kx0 Q) :
    RCode Tryd.prog 94 (codeAt [1, 1, 0, 1, 0, 0, 1, 0, 0, 1, 1] (bodyOf Tryd.f33)) env H (mkK (fun e H => kn (e 1) (e 2) (e 3) (e 7) H) (inK 1 (fun e H => kx1 (e 1) (e 2) (e 3) (e 7) H) (inK 0 (fun e H => kx0 H) (fun _ _ _ => False))) (retK T Tryd.f33.results.toList Q) (fun c H => Q (.panicked c) H)) :=
  RCode.blk (by kernel_rfl : (codeAt [1, 1, 0, 1, 0, 0, 1, 0, 0, 1, 1] (bodyOf Tryd.f33)) = .block 2 (codeAt [1, 1, 0, 1, 0, 0, 1, 0, 0, 1, 1, 0] (bodyOf Tryd.f33))) (RCode.lp (by kernel_rfl : (codeAt [1, 1, 0, 1, 0, 0, 1, 0, 0, 1, 1, 0] (bodyOf Tryd.f33)) = .loop (codeAt [1, 1, 0, 1, 0, 0, 1, 0, 0, 1, 1, 0, 0] (bodyOf Tryd.f33))) ((h env rfl rfl rfl rfl rfl).mono (mkK_mono (fun _ _ h => h.elim) (fun _ _ _ h => h) (fun _ _ h => h) (fun _ _ h => h))))
def m33_9 (x1 x2 x3 x7 x8 : Value) (H : Heap) (kn : K5T) (kx2 : K4T) (kx1 : K4T) (kx0 : K0T) (Q : QT) : Prop :=
oV (vIdxS 1 x1 x7) fun t61_2 =>
oV (vLoad ty27 t61_2 H) fun t62_3 =>
oV (vLen t62_3) fun t63_4 =>
oV (vInt .lss x8 t63_4) fun t64_5 =>
condK t64_5 (
oV (vIdxS 1 x1 x7) fun t69_6 =>
oV (vLoad ty27 t69_6 H) fun t70_7 =>
oV (vIdxS 1 t70_7 x8) fun t72_8 =>
oV (vLoad ty52 t72_8 H) fun t73_9 =>
oV (vLen t73_9) fun t74_10 =>
oV (vField 0 x3) fun t75_11 =>
oV (vField 2 t75_11) fun t76_12 =>
oV (vLoad ty3 t76_12 H) fun t77_13 =>
oV (vInt .add t77_13 (.int .i64 1)) fun t78_14 =>
oV (vInt .neq t74_10 t78_14) fun t79_15 =>
oV (gV t79_15 false (vField 0 x3) (some undef)) fun t81_16 =>
oV (gV t79_15 false (vField 0 t81_16) (some undef)) fun t82_17 =>
oV (gV t79_15 false (vLoad ty22 t82_17 H) (some undef)) fun t83_18 =>
oV (gV t79_15 false (some x1) (some undef)) fun t84_19 =>
oV (gV t79_15 false (some x7) (some undef)) fun t85_20 =>
oV (gV t79_15 false (vIdxS 1 t84_19 t85_20) (some undef)) fun t86_21 =>
oV (gV t79_15 false (vLoad ty27 t86_21 H) (some undef)) fun t87_22 =>
oV (gV t79_15 false (some x8) (some undef)) fun t88_23 =>
oV (gV t79_15 false (vIdxS 1 t87_22 t88_23) (some undef)) fun t89_24 =>
oV (gV t79_15 false (vLoad ty52 t89_24 H) (some undef)) fun t90_25 =>
letK (fun t91_27 H_28 =>
oV (gV t79_15 false (vUn .not t91_27) (some undef)) fun t92_29 =>
oV (vPick t79_15 (.bool true) t92_29) fun t93_30 =>
condK t93_30 (
Q (.returned (.bool false)) H_28) (
oV (vInt .add x8 (.int .i64 1)) fun t66_31 =>
kn x1 x2 x3 x7 t66_31 H_28)) fun k_26 => gK t79_15 false (oRC Tryd.prog 74 [t83_18, t90_25, (.int .i64 6)] H noP fun v_32 H_33 =>
k_26 v_32 H_33) (k_26 undef H)) (
kx2 x1 x2 x3 x7 H)
theorem c33_9 (env : Env) (H : Heap) (kn : K5T) (kx2 : K4T) (kx1 : K4T) (kx0 : K0T) (Q : QT) (h : m33_9 (env 1) (env 2) (env 3) (env 7) (env 8) H kn kx2 kx1 kx0 Q) :
    RCode Tryd.prog 94 (codeAt [1, 1, 0, 1, 0, 0, 1, 0, 0, 1, 1, 0, 0] (bodyOf Tryd.f33)) env H (mkK (fun e H => kn (e 1) (e 2) (e 3) (e 7) (e 8) H) (inK 2 (fun e H => kx2 (e 1) (e 2) (e 3) (e 7) H) (inK 1 (fun e H => kx1 (e 1) (e 2) (e 3) (e 7) H) (inK 0 (fun e H => kx0 H) (fun _ _ _ => False)))) (retK T Tryd.f33.results.toList Q) (fun c H => Q (.panicked c) H)) :=
  RCode.leaf_ (T := T) (X := ext) (hint := hint33) tok xok mixed (by kernel_rfl) h
theorem L33_8_round (x1 x2 x3 x7 x8 : Value) (H : Heap) (kn : K4T) (kx1 : K4T) (kx0 : K0T) (Q : QT) (h : m33_9 x1 x2 x3 x7 x8 H (fun y1 y2 y3 y7 y8 H => L33_8 y1 y2 y3 y7 y8 H kn kx1 kx0 Q) kn kx1 kx0 Q) : L33_8 x1 x2 x3 x7 x8 H kn kx1 kx0 Q := by
  intro env h1 h2 h3 h7 h8
  subst h1; subst h2; subst h3; subst h7; subst h8
  exact RLoop.round ((c33_9 env H (fun y1 y2 y3 y7 y8 H => L33_8 y1 y2 y3 y7 y8 H kn kx1 kx0 Q) kn kx1 kx0 Q h).mono (mkK_mono (fun e H h => h e rfl rfl rfl rfl rfl) (fun _ _ _ h => h) (fun _ _ h => h) (fun _ _ h => h)))
def m33_7 (x1 x2 x3 x7 : Value) (H : Heap) (kn : K4T) (kx1 : K4T) (kx0 : K0T) (Q : QT) : Prop :=
oV (vIdxS 1 x1 x7) fun t34_34 =>
oV (vLoad ty27 t34_34 H) fun t35_35 =>
oV (vLen t35_35) fun t36_36 =>
oV (vInt .gtr t36_36 x2) fun t38_37 =>
oV (gV t38_37 false (vField 5 x3) (some undef)) fun t40_38 =>
oV (gV t38_37 false (vLoad ty27 t40_38 H) (some undef)) fun t41_39 =>
oV (gV t38_37 false (some x7) (some undef)) fun t42_40 =>
oV (gV t38_37 false (vIdxS 1 t41_39 t42_40) (some undef)) fun t43_41 =>
oV (gV t38_37 false (vLoad ty52 t43_41 H) (some undef)) fun t44_42 =>
oV (gV t38_37 false (vLen t44_42) (some undef)) fun t45_43 =>
oV (gV t38_37 false (some x1) (some undef)) fun t46_44 =>
oV (gV t38_37 false (some x7) (some undef)) fun t47_45 =>
oV (gV t38_37 false (vIdxS 1 t46_44 t47_45) (some undef)) fun t48_46 =>
oV (gV t38_37 false (vLoad ty27 t48_46 H) (some undef)) fun t49_47 =>
oV (gV t38_37 false (vLen t49_47) (some undef)) fun t50_48 =>
oV (gV t38_37 false (vField 0 x3) (some undef)) fun t51_49 =>
oV (gV t38_37 false (vField 2 t51_49) (some undef)) fun t52_50 =>
oV (gV t38_37 false (vLoad ty3 t52_50 H) (some undef)) fun t53_51 =>
letK (fun t54_53 H_54 =>
(gV t38_37 false (vLoad ty27 t48_46 H_54) (some undef) = some t49_47 ∧
(gV t38_37 false (vLoad ty52 t43_41 H_54) (some undef) = some t44_42 ∧
(gV t38_37 false (vLoad ty27 t40_38 H_54) (some undef) = some t41_39 ∧
oV (gV t38_37 false (vInt .mul t50_48 t54_53) (some undef)) fun t55_55 =>
oV (gV t38_37 false (vInt .lss t45_43 t55_55) (some undef)) fun t56_56 =>
oV (vPick t38_37 (.bool true) t56_56) fun t57_57 =>
condK t57_57 (
Q (.returned (.bool false)) H_54) (
L33_8 x1 x2 x3 x7 (.int .i64 0) H_54 kn kx1 kx0 Q))))) fun k_52 => gK t38_37 false (oRC Tryd.prog 73 [t53_51] H noP fun v_58 H_59 =>
k_52 v_58 H_59) (k_52 undef H)
theorem c33_7 (env : Env) (H : Heap) (kn : K4T) (kx1 : K4T) (kx0 : K0T) (Q : QT) (h : m33_7 (env 1) (env 2) (env 3) (env 7) H kn kx1 kx0 Q) :
    RCode Tryd.prog 94 (codeAt [1, 1, 0, 1, 0, 0, 1, 0, 0] (bodyOf Tryd.f33)) env H (mkK (fun e H => kn (e 1) (e 2) (e 3) (e 7) H) (inK 1 (fun e H => kx1 (e 1) (e 2) (e 3) (e 7) H) (inK 0 (fun e H => kx0 H) (fun _ _ _ => False))) (retK T Tryd.f33.results.toList Q) (fun c H => Q (.panicked c) H)) :=
  RCode.prefix_ (T := T) (X := ext) (hint := hint33) (hole := (fun e H => L33_8 (e 1) (e 2) (e 3) (e 7) (e 8) H kn kx1 kx0 Q)) tok xok mixed 2 (by kernel_rfl) (by kernel_rfl : codeAt _ _ = (codeAt [1, 1, 0, 1, 0, 0, 1, 0, 0, 1, 1] (bodyOf Tryd.f33))) h
    (fun e H h => (cL33_8 e H kn kx1 kx0 Q h))
def m33_6 (x1 x2 x3 x7 : Value) (H : Heap) (kn : K4T) (kx0 : K0T) (Q : QT) : Prop :=
m33_7 x1 x2 x3 x7 H kn kn kx0 Q
theorem c33_6 (env : Env) (H : Heap) (kn : K4T) (kx0 : K0T) (Q : QT) (h : m33_6 (env 1) (env 2) (env 3) (env 7) H kn kx0 Q) :
    RCode Tryd.prog 94 (codeAt [1, 1, 0, 1, 0, 0, 1, 0] (bodyOf Tryd.f33)) env H (mkK (fun e H => kn (e 1) (e 2) (e 3) (e 7) H) (inK 0 (fun e H => kx0 H) (fun _ _ _ => False)) (retK T Tryd.f33.results.toList Q) (fun c H => Q (.panicked c) H)) :=
  RCode.blk (by kernel_rfl : (codeAt [1, 1, 0, 1, 0, 0, 1, 0] (bodyOf Tryd.f33)) = .block 1 (codeAt [1, 1, 0, 1, 0, 0, 1, 0, 0] (bodyOf Tryd.f33))) (c33_7 env H kn kn kx0 Q h)
def m33_4 (x1 x2 x3 x7 : Value) (H : Heap) (kn : K4T) (kx0 : K0T) (Q : QT) : Prop :=
oV (vLen x1) fun t28_60 =>
oV (vInt .lss x7 t28_60) fun t29_61 =>
condK t29_61 (
m33_6 x1 x2 x3 x7 H (fun y1_62 y2_63 y3_64 y7_65 H_66 => m33_5 y1_62 y2_63 y3_64 y7_65 H_66 kn kx0 Q) kx0 Q) (
kx0 H)
theorem c33_4 (env : Env) (H : Heap) (kn : K4T) (kx0 : K0T) (Q : QT) (h : m33_4 (env 1) (env 2) (env 3) (env 7) H kn kx0 Q) :
    RCode Tryd.prog 94 (codeAt [1, 1, 0, 1, 0, 0] (bodyOf Tryd.f33)) env H (mkK (fun e H => kn (e 1) (e 2) (e 3) (e 7) H) (inK 0 (fun e H => kx0 H) (fun _ _ _ => False)) (retK T Tryd.f33.results.toList Q) (fun c H => Q (.panicked c) H)) :=
  RCode.prefix_ (T := T) (X := ext) (hint := hint33) (hole := (fun e H => m33_6 (e 1) (e 2) (e 3) (e 7) H (fun y1_67 y2_68 y3_69 y7_70 H_71 => m33_5 y1_67 y2_68 y3_69 y7_70 H_71 kn kx0 Q) kx0 Q)) tok xok mixed 1 (by kernel_rfl) (by kernel_rfl : codeAt _ _ = (codeAt [1, 1, 0, 1, 0, 0, 1] (bodyOf Tryd.f33))) h
    (fun e H h => RCode.join (by kernel_rfl : (codeAt [1, 1, 0, 1, 0, 0, 1] (bodyOf Tryd.f33)) = .seq (codeAt [1, 1, 0, 1, 0, 0, 1, 0] (bodyOf Tryd.f33)) (codeAt [1, 1, 0, 1, 0, 0, 1, 1] (bodyOf Tryd.f33))) ((c33_6 e H (fun y1_72 y2_73 y3_74 y7_75 H_76 => m33_5 y1_72 y2_73 y3_74 y7_75 H_76 kn kx0 Q) kx0 Q h).mono (mkK_mono (fun e H h => c33_5 e H kn kx0 Q h) (fun _ _ _ h => h) (fun _ _ h => h) (fun _ _ h => h))))
theorem L33_3_round (x1 x2 x3 x7 : Value) (H : Heap) (kn : K0T) (Q : QT) (h : m33_4 x1 x2 x3 x7 H (fun y1 y2 y3 y7 H => L33_3 y1 y2 y3 y7 H kn Q) kn Q) : L33_3 x1 x2 x3 x7 H kn Q := by
  intro env h1 h2 h3 h7
  subst h1; subst h2; subst h3; subst h7
  exact RLoop.round ((c33_4 env H (fun y1 y2 y3 y7 H => L33_3 y1 y2 y3 y7 H kn Q) kn Q h).mono (mkK_mono (fun e H h => h e rfl rfl rfl rfl) (fun _ _ _ h => h) (fun _ _ h => h) (fun _ _ h => h)))
def m33_2 (x1 x2 x3 : Value) (H : Heap) (kn : K0T) (Q : QT) : Prop :=
L33_3 x1 x2 x3 (.int .i64 0) H kn Q
theorem c33_2 (env : Env) (H : Heap) (kn : K0T) (Q : QT) (h : m33_2 (env 1) (env 2) (env 3) H kn Q) :
    RCode Tryd.prog 94 (codeAt [1, 1, 0] (bodyOf Tryd.f33)) env H (mkK (fun e H => kn H) (fun _ _ _ => False) (retK T Tryd.f33.results.toList Q) (fun c H => Q (.panicked c) H)) :=
  RCode.prefix_ (T := T) (X := ext) (hint := hint33) (hole := (fun e H => L33_3 (e 1) (e 2) (e 3) (e 7) H kn Q)) tok xok mixed 1 (by kernel_rfl) (by kernel_rfl : codeAt _ _ = (codeAt [1, 1, 0, 1] (bodyOf Tryd.f33))) h
    (fun e H h => (cL33_3 e H kn Q h))
def m33 (x0 x1 x2 : Value) (H : Heap) (Q : QT) : Prop :=
oNew (Value.cells x0).toList (Value.cells x0).toList.length 29 H fun i_77 H_78 =>
oV (vLoad ty29 (ptrTo i_77) H_78) fun t9_79 =>
oRC Tryd.prog 50 [t9_79, (.int .i64 8), (.int .i64 200)] H_78 (fun c H => Q (.panicked c) H) fun v_80 H_81 =>
oV (vUn .not v_80) fun t11_82 =>
oV (gV t11_82 false (some x1) (some undef)) fun t13_83 =>
oV (gV t11_82 false (vLen t13_83) (some undef)) fun t14_84 =>
oV (gV t11_82 false (vField 0 (ptrTo i_77)) (some undef)) fun t15_85 =>
oV (gV t11_82 false (vField 1 t15_85) (some undef)) fun t16_86 =>
oV (gV t11_82 false (vLoad ty3 t16_86 H_81) (some undef)) fun t17_87 =>
oV (gV t11_82 false (vInt .neq t14_84 t17_87) (some undef)) fun t18_88 =>
oV (vPick t11_82 (.bool true) t18_88) fun t19_89 =>
oV (gV t19_89 false (vField 0 (ptrTo i_77)) (some undef)) fun t21_90 =>
oV (gV t19_89 false (vField 1 t21_90) (some undef)) fun t22_91 =>
oV (gV t19_89 false (vLoad ty3 t22_91 H_81) (some undef)) fun t23_92 =>
oV (gV t19_89 false (vInt .gtr t23_92 (.int .i64 7)) (some undef)) fun t24_93 =>
oV (vPick t19_89 (.bool true) t24_93) fun t25_94 =>
condK t25_94 (
Q (.returned (.bool false)) H_81) (
m33_2 x1 x2 (ptrTo i_77) H_81 (fun H_95 => m33_1 H_95 Q) Q)
theorem c33_0 (env : Env) (H : Heap) (Q : QT) (h : m33 (env 0) (env 1) (env 2) H Q) :
    RCode Tryd.prog 94 (bodyOf Tryd.f33) env H (mkK (retK T Tryd.f33.results.toList Q) (fun _ _ _ => False) (retK T Tryd.f33.results.toList Q) (fun c H => Q (.panicked c) H)) :=
  RCode.prefix_ (T := T) (X := ext) (hint := hint33) (hole := (fun e H => m33_2 (e 1) (e 2) (e 3) H (fun H_96 => m33_1 H_96 Q) Q)) tok xok mixed 2 (by kernel_rfl) (by kernel_rfl : codeAt _ _ = (codeAt [1, 1] (bodyOf Tryd.f33))) h
    (fun e H h => RCode.join (by kernel_rfl : (codeAt [1, 1] (bodyOf Tryd.f33)) = .seq (codeAt [1, 1, 0] (bodyOf Tryd.f33)) (codeAt [1, 1, 1] (bodyOf Tryd.f33))) ((c33_2 e H (fun H_97 => m33_1 H_97 Q) Q h).mono (mkK_mono (fun e H h => c33_1 e H Q h) (fun _ _ _ h => h) (fun _ _ h => h) (fun _ _ h => h))))
theorem call33 (a0 a1 a2 : Value) (H : Heap) (Q : QT) (h : m33 a0 a1 a2 H Q) : RCalls Tryd.prog 33 [a0, a1, a2] H Q :=
  RCalls.intro (nt := 94) tok Tryd.func33 (by kernel_rfl) (by kernel_rfl) (by kernel_rfl) (of_decide_eq_true (by kernel_rfl)) (c33_0 (envOf [a0, a1, a2]) H Q h)
def hint34 : Nat → List Nat := lookupL []
def m34 (x0 : Value) (H : Heap) (Q : QT) : Prop :=
oNew (Value.cells x0).toList (Value.cells x0).toList.length 67 H fun i_1 H_2 =>
oNew (Value.cells ty71.zero).toList (Value.cells ty71.zero).toList.length 71 H_2 fun i_3 H_4 =>
oV (vField 0 (ptrTo i_1)) fun t8_5 =>
oV (vLoad ty29 t8_5 H_4) fun t9_6 =>
oRC Tryd.prog 12 [t9_6] H_4 (fun c H => Q (.panicked c) H) fun v_7 H_8 =>
oV (vExtract v_7 0) fun t11_9 =>
oV (vExtract v_7 1) fun t12_10 =>
oV (vInt .neq t12_10 (.int .i64 0)) fun t14_11 =>
condK t14_11 (
oV (vBuild ty71 []) fun t15_12 =>
oHeap (vStore ty71 (ptrTo i_3) t15_12 H_8) fun H_13 =>
retM ((vLoad ty71 (ptrTo i_3) H_13).bind fun v => (((some []).map ((.bool false) :: ·)).map ((.pointer none) :: ·)).map (v :: ·)) Q H_13) (
oV (vField 6 (ptrTo i_1)) fun t17_14 =>
oV (vLoad ty44 t17_14 H_8) fun t18_15 =>
oRC Tryd.prog 72 [t11_9, t18_15] H_8 (fun c H => Q (.panicked c) H) fun v_16 H_17 =>
oHeap (vStore ty71 (ptrTo i_3) v_16 H_17) fun H_18 =>
retM ((vLoad ty71 (ptrTo i_3) H_18).bind fun v => (((some []).map ((.bool true) :: ·)).map (t11_9 :: ·)).map (v :: ·)) Q H_18)
theorem c34_0 (env : Env) (H : Heap) (Q : QT) (h : m34 (env 0) H Q) :
    RCode Tryd.prog 21 (bodyOf Tryd.f34) env H (mkK (retK T Tryd.f34.results.toList Q) (fun _ _ _ => False) (retK T Tryd.f34.results.toList Q) (fun c H => Q (.panicked c) H)) :=
  RCode.leaf_ (T := T) (X := ext) (hint := hint34) tok xok mixed (by kernel_rfl) h
theorem call34 (a0 : Value) (H : Heap) (Q : QT) (h : m34 a0 H Q) : RCalls Tryd.prog 34 [a0] H Q :=
  RCalls.intro (nt := 21) tok Tryd.func34 (by kernel_rfl) (by kernel_rfl) (by kernel_rfl) (of_decide_eq_true (by kernel_rfl)) (c34_0 (envOf [a0]) H Q h)
def hint35 : Nat → List Nat := lookupL [(7, [0, 1, 2, 3, 4, 5, 6, 7, 8, 9, 10, 11, 12, 13, 14, 15, 16, 17, 18, 19, 20, 21, 22, 23, 24, 25, 26, 27, 28, 29, 30, 31, 32]), (12, [0, 1, 2, 3, 4, 5, 6, 7, 8, 9, 10, 11, 12, 13, 14, 15, 16, 17, 18, 19, 20, 21, 22, 23, 24, 25, 26, 27, 28])]
def m35_1 (H : Heap) (Q : QT) : Prop :=
Q (.returned (.bool true)) H
theorem c35_1 (env : Env) (H : Heap) (Q : QT) (h : m35_1 H Q) :
    RCode Tryd.prog 103 (codeAt [1, 1, 1, 1] (bodyOf Tryd.f35)) env H (mkK (retK T Tryd.f35.results.toList Q) (fun _ _ _ => False) (retK T Tryd.f35.results.toList Q) (fun c H => Q (.panicked c) H)) :=
  RCode.leaf_ (T := T) (X := ext) (hint := hint35) tok xok mixed (by kernel_rfl) h
def L35_3 (x2 x3 x5 x6 : Value) (H : Heap) (kn : K0T) (Q : QT) : Prop :=
  ∀ env : Env, env 2 = x2 → env 3 = x3 → env 5 = x5 → env 6 = x6 → RLoop Tryd.prog 103 (codeAt [1, 1, 1, 0, 1, 0, 0] (bodyOf Tryd.f35)) env H (mkK (fun _ _ => False) (inK 0 (fun e H => kn H) (fun _ _ _ => False)) (retK T Tryd.f35.results.toList Q) (fun c H => Q (.panicked c) H))
theorem cL35_3 (env : Env) (H : Heap) (kn : K0T) (Q : QT) (h : L35_3 (env 2) (env 3) (env 5) (env 6) H kn Q) :
    RCode Tryd.prog 103 (codeAt [1, 1, 1, 0, 1] (bodyOf Tryd.f35)) env H (mkK (fun e H => kn H) (fun _ _ _ => False) (retK T Tryd.f35.results.toList Q) (fun c H => Q (.panicked c) H)) :=
  RCode.blk (by kernel_rfl : (codeAt [1, 1, 1, 0, 1] (bodyOf Tryd.f35)) = .block 0 (codeAt [1, 1, 1, 0, 1, 0] (bodyOf Tryd.f35))) (RCode.lp (by kernel_rfl : (codeAt [1, 1, 1, 0, 1, 0] (bodyOf Tryd.f35)) = .loop (codeAt [1, 1, 1, 0, 1, 0, 0] (bodyOf Tryd.f35))) ((h env rfl rfl rfl rfl).mono (mkK_mono (fun _ _ h => h.elim) (fun _ _ _ h => h) (fun _ _ h => h) (fun _ _ h => h))))
def m35_5 (x2 x3 x5 x6 : Value) (H : Heap) (kn : K4T) (kx0 : K0T) (Q : QT) : Prop :=
oV (vInt .add x6 (.int .i64 1)) fun t35_1 =>
kn x2 x3 x5 t35_1 H
theorem c35_5 (env : Env) (H : Heap) (kn : K4T) (kx0 : K0T) (Q : QT) (h : m35_5 (env 2) (env 3) (env 5) (env 6) H kn kx0 Q) :
    RCode Tryd.prog 103 (codeAt [1, 1, 1, 0, 1, 0, 0, 1, 1] (bodyOf Tryd.f35)) env H (mkK (fun e H => kn (e 2) (e 3) (e 5) (e 6) H) (inK 0 (fun e H => kx0 H) (fun _ _ _ => False)) (retK T Tryd.f35.results.toList Q) (fun c H => Q (.panicked c) H)) :=
  RCode.leaf_ (T := T) (X := ext) (hint := hint35) tok xok mixed (by kernel_rfl) h
def L35_8 (x2 x3 x5 x6 x7 : Value) (H : Heap) (kn : K4T) (kx1 : K4T) (kx0 : K0T) (Q : QT) : Prop :=
  ∀ env : Env, env 2 = x2 → env 3 = x3 → env 5 = x5 → env 6 = x6 → env 7 = x7 → RLoop Tryd.prog 103 (codeAt [1, 1, 1, 0, 1, 0, 0, 1, 0, 0, 1, 1, 0, 0] (bodyOf Tryd.f35)) env H (mkK (fun _ _ => False) (inK 2 (fun e H => kn (e 2) (e 3) (e 5) (e 6) H) (inK 1 (fun e H => kx1 (e 2) (e 3) (e 5) (e 6) H) (inK 0 (fun e H => kx0 H) (fun _ _ _ => False)))) (retK T Tryd.f35.results.toList Q) (fun c H => Q (.panicked c) H))
theorem cL35_8 (env : Env) (H : Heap) (kn : K4T) (kx1 : K4T) (kx0 : K0T) (Q : QT) (h : L35_8 (env 2) (env 3) (env 5) (env 6) (env 7) H kn kx1 kx0 Q) :
    RCode Tryd.prog 103 (codeAt [1, 1, 1, 0, 1, 0, 0, 1, 0, 0, 1, 1] (bodyOf Tryd.f35)) env H (mkK (fun e H => kn (e 2) (e 3) (e 5) (e 6) H) (inK 1 (fun e H => kx1 (e 2) (e 3) (e 5) (e 6) H) (inK 0 (fun e H => kx0 H) (fun _ _ _ => False))) (retK T Tryd.f35.results.toList Q) (fun c H => Q (.panicked c) H)) :=
  RCode.blk (by kernel_rfl : (codeAt [1, 1, 1, 0, 1, 0, 0, 1, 0, 0, 1, 1] (bodyOf Tryd.f35)) = .block 2 (codeAt [1, 1, 1, 0, 1, 0, 0, 1, 0, 0, 1, 1, 0] (bodyOf Tryd.f35))) (RCode.lp (by kernel_rfl : (codeAt [1, 1, 1, 0, 1, 0, 0, 1, 0, 0, 1, 1, 0] (bodyOf Tryd.f35)) = .loop (codeAt [1, 1, 1, 0, 1, 0, 0, 1, 0, 0, 1, 1, 0, 0] (bodyOf Tryd.f35))) ((h env rfl rfl rfl rfl rfl).mono (mkK_mono (fun _ _ h => h.elim) (fun _ _ _ h => h) (fun _ _ h => h) (fun _ _ h => h))))
def m35_9 (x2 x3 x5 x6 x7 : Value) (H : Heap) (kn : K5T) (kx2 : K4T) (kx1 : K4T) (kx0 : K0T) (Q : QT) : Prop :=
oV (vInt .lss x7 x5) fun t71_2 =>
condK t71_2 (
oV (vField 1 x3) fun t74_3 =>
oV (vLoad ty69 t74_3 H) fun t75_4 =>
oV (vIdxS 1 t75_4 x6) fun t77_5 =>
oV (vLoad ty44 t77_5 H) fun t78_6 =>
oV (vIdxS 1 t78_6 x7) fun t80_7 =>
oV (vLoad ty27 t80_7 H) fun t81_8 =>
oV (vLen t81_8) fun t82_9 =>
oV (vField 6 x2) fun t83_10 =>
oV (vLoad ty44 t83_10 H) fun t84_11 =>
oV (vIdxS 1 t84_11 x7) fun t86_12 =>
oV (vLoad ty27 t86_12 H) fun t87_13 =>
oV (vLen t87_13) fun t88_14 =>
oV (vInt .neq t82_9 t88_14) fun t89_15 =>
oV (gV t89_15 false (vField 2 x3) (some undef)) fun t91_16 =>
oV (gV t89_15 false (vLoad ty44 t91_16 H) (some undef)) fun t92_17 =>
oV (gV t89_15 false (some x6) (some undef)) fun t93_18 =>
oV (gV t89_15 false (vIdxS 1 t92_17 t93_18) (some undef)) fun t94_19 =>
oV (gV t89_15 false (vLoad ty27 t94_19 H) (some undef)) fun t95_20 =>
oV (gV t89_15 false (some x7) (some undef)) fun t96_21 =>
oV (gV t89_15 false (vIdxS 1 t95_20 t96_21) (some undef)) fun t97_22 =>
oV (gV t89_15 false (vLoad ty52 t97_22 H) (some undef)) fun t98_23 =>
oV (gV t89_15 false (vLen t98_23) (some undef)) fun t99_24 =>
oV (gV t89_15 false (some x5) (some undef)) fun t100_25 =>
oV (gV t89_15 false (vInt .neq t99_24 t100_25) (some undef)) fun t101_26 =>
oV (vPick t89_15 (.bool true) t101_26) fun t102_27 =>
condK t102_27 (
Q (.returned (.bool false)) H) (
oV (vInt .add x7 (.int .i64 1)) fun t73_28 =>
kn x2 x3 x5 x6 t73_28 H)) (
kx2 x2 x3 x5 x6 H)
theorem c35_9 (env : Env) (H : Heap) (kn : K5T) (kx2 : K4T) (kx1 : K4T) (kx0 : K0T) (Q : QT) (h : m35_9 (env 2) (env 3) (env 5) (env 6) (env 7) H kn kx2 kx1 kx0 Q) :
    RCode Tryd.prog 103 (codeAt [1, 1, 1, 0, 1, 0, 0, 1, 0, 0, 1, 1, 0, 0] (bodyOf Tryd.f35)) env H (mkK (fun e H => kn (e 2) (e 3) (e 5) (e 6) (e 7) H) (inK 2 (fun e H => kx2 (e 2) (e 3) (e 5) (e 6) H) (inK 1 (fun e H => kx1 (e 2) (e 3) (e 5) (e 6) H) (inK 0 (fun e H => kx0 H) (fun _ _ _ => False)))) (retK T Tryd.f35.results.toList Q) (fun c H => Q (.panicked c) H)) :=
  RCode.leaf_ (T := T) (X := ext) (hint := hint35) tok xok mixed (by kernel_rfl) h
theorem L35_8_round (x2 x3 x5 x6 x7 : Value) (H : Heap) (kn : K4T) (kx1 : K4T) (kx0 : K0T) (Q : QT) (h : m35_9 x2 x3 x5 x6 x7 H (fun y2 y3 y5 y6 y7 H => L35_8 y2 y3 y5 y6 y7 H kn kx1 kx0 Q) kn kx1 kx0 Q) : L35_8 x2 x3 x5 x6 x7 H kn kx1 kx0 Q := by
  intro env h2 h3 h5 h6 h7
  subst h2; subst h3; subst h5; subst h6; subst h7
  exact RLoop.round ((c35_9 env H (fun y2 y3 y5 y6 y7 H => L35_8 y2 y3 y5 y6 y7 H kn kx1 kx0 Q) kn kx1 kx0 Q h).mono (mkK_mono (fun e H h => h e rfl rfl rfl rfl rfl) (fun _ _ _ h => h) (fun _ _ h => h) (fun _ _ h => h)))
def m35_7 (x2 x3 x5 x6 : Value) (H : Heap) (kn : K4T) (kx1 : K4T) (kx0 : K0T) (Q : QT) : Prop :=
oV (vField 0 x3) fun t36_29 =>
oV (vLoad ty69 t36_29 H) fun t37_30 =>
oV (vIdxS 1 t37_30 x6) fun t39_31 =>
oV (vLoad ty44 t39_31 H) fun t40_32 =>
oV (vLen t40_32) fun t41_33 =>
oV (vField 6 x2) fun t42_34 =>
oV (vLoad ty44 t42_34 H) fun t43_35 =>
oV (vIdxS 1 t43_35 x6) fun t45_36 =>
oV (vLoad ty27 t45_36 H) fun t46_37 =>
oV (vLen t46_37) fun t47_38 =>
oV (vInt .neq t41_33 t47_38) fun t48_39 =>
oV (gV t48_39 false (vField 1 x3) (some undef)) fun t50_40 =>
oV (gV t48_39 false (vLoad ty69 t50_40 H) (some undef)) fun t51_41 =>
oV (gV t48_39 false (some x6) (some undef)) fun t52_42 =>
oV (gV t48_39 false (vIdxS 1 t51_41 t52_42) (some undef)) fun t53_43 =>
oV (gV t48_39 false (vLoad ty44 t53_43 H) (some undef)) fun t54_44 =>
oV (gV t48_39 false (vLen t54_44) (some undef)) fun t55_45 =>
oV (gV t48_39 false (some x5) (some undef)) fun t56_46 =>
oV (gV t48_39 false (vInt .neq t55_45 t56_46) (some undef)) fun t57_47 =>
oV (vPick t48_39 (.bool true) t57_47) fun t58_48 =>
oV (gV t58_48 false (vField 2 x3) (some undef)) fun t60_49 =>
oV (gV t58_48 false (vLoad ty44 t60_49 H) (some undef)) fun t61_50 =>
oV (gV t58_48 false (some x6) (some undef)) fun t62_51 =>
oV (gV t58_48 false (vIdxS 1 t61_50 t62_51) (some undef)) fun t63_52 =>
oV (gV t58_48 false (vLoad ty27 t63_52 H) (some undef)) fun t64_53 =>
oV (gV t58_48 false (vLen t64_53) (some undef)) fun t65_54 =>
oV (gV t58_48 false (some x5) (some undef)) fun t66_55 =>
oV (gV t58_48 false (vInt .neq t65_54 t66_55) (some undef)) fun t67_56 =>
oV (vPick t58_48 (.bool true) t67_56) fun t68_57 =>
condK t68_57 (
Q (.returned (.bool false)) H) (
L35_8 x2 x3 x5 x6 (.int .i64 0) H kn kx1 kx0 Q)
theorem c35_7 (env : Env) (H : Heap) (kn : K4T) (kx1 : K4T) (kx0 : K0T) (Q : QT) (h : m35_7 (env 2) (env 3) (env 5) (env 6) H kn kx1 kx0 Q) :
    RCode Tryd.prog 103 (codeAt [1, 1, 1, 0, 1, 0, 0, 1, 0, 0] (bodyOf Tryd.f35)) env H (mkK (fun e H => kn (e 2) (e 3) (e 5) (e 6) H) (inK 1 (fun e H => kx1 (e 2) (e 3) (e 5) (e 6) H) (inK 0 (fun e H => kx0 H) (fun _ _ _ => False))) (retK T Tryd.f35.results.toList Q) (fun c H => Q (.panicked c) H)) :=
  RCode.prefix_ (T := T) (X := ext) (hint := hint35) (hole := (fun e H => L35_8 (e 2) (e 3) (e 5) (e 6) (e 7) H kn kx1 kx0 Q)) tok xok mixed 2 (by kernel_rfl) (by kernel_rfl : codeAt _ _ = (codeAt [1, 1, 1, 0, 1, 0, 0, 1, 0, 0, 1, 1] (bodyOf Tryd.f35))) h
    (fun e H h => (cL35_8 e H kn kx1 kx0 Q h))
def m35_6 (x2 x3 x5 x6 : Value) (H : Heap) (kn : K4T) (kx0 : K0T) (Q : QT) : Prop :=
m35_7 x2 x3 x5 x6 H kn kn kx0 Q
theorem c35_6 (env : Env) (H : Heap) (kn : K4T) (kx0 : K0T) (Q : QT) (h : m35_6 (env 2) (env 3) (env 5) (env 6) H kn kx0 Q) :
    RCode Tryd.prog 103 (codeAt [1, 1, 1, 0, 1, 0, 0, 1, 0] (bodyOf Tryd.f35)) env H (mkK (fun e H => kn (e 2) (e 3) (e 5) (e 6) H) (inK 0 (fun e H => kx0 H) (fun _ _ _ => False)) (retK T Tryd.f35.results.toList Q) (fun c H => Q (.panicked c) H)) :=
  RCode.blk (by kernel_rfl : (codeAt [1, 1, 1, 0, 1, 0, 0, 1, 0] (bodyOf Tryd.f35)) = .block 1 (codeAt [1, 1, 1, 0, 1, 0, 0, 1, 0, 0] (bodyOf Tryd.f35))) (c35_7 env H kn kn kx0 Q h)
def m35_4 (x2 x3 x5 x6 : Value) (H : Heap) (kn : K4T) (kx0 : K0T) (Q : QT) : Prop :=
oV (vInt .lss x6 x5) fun t33_58 =>
condK t33_58 (
m35_6 x2 x3 x5 x6 H (fun y2_59 y3_60 y5_61 y6_62 H_63 => m35_5 y2_59 y3_60 y5_61 y6_62 H_63 kn kx0 Q) kx0 Q) (
kx0 H)
theorem c35_4 (env : Env) (H : Heap) (kn : K4T) (kx0 : K0T) (Q : QT) (h : m35_4 (env 2) (env 3) (env 5) (env 6) H kn kx0 Q) :
    RCode Tryd.prog 103 (codeAt [1, 1, 1, 0, 1, 0, 0] (bodyOf Tryd.f35)) env H (mkK (fun e H => kn (e 2) (e 3) (e 5) (e 6) H) (inK 0 (fun e H => kx0 H) (fun _ _ _ => False)) (retK T Tryd.f35.results.toList Q) (fun c H => Q (.panicked c) H)) :=
  RCode.prefix_ (T := T) (X := ext) (hint := hint35) (hole := (fun e H => m35_6 (e 2) (e 3) (e 5) (e 6) H (fun y2_64 y3_65 y5_66 y6_67 H_68 => m35_5 y2_64 y3_65 y5_66 y6_67 H_68 kn kx0 Q) kx0 Q)) tok xok mixed 1 (by kernel_rfl) (by kernel_rfl : codeAt _ _ = (codeAt [1, 1, 1, 0, 1, 0, 0, 1] (bodyOf Tryd.f35))) h
    (fun e H h => RCode.join (by kernel_rfl : (codeAt [1, 1, 1, 0, 1, 0, 0, 1] (bodyOf Tryd.f35)) = .seq (codeAt [1, 1, 1, 0, 1, 0, 0, 1, 0] (bodyOf Tryd.f35)) (codeAt [1, 1, 1, 0, 1, 0, 0, 1, 1] (bodyOf Tryd.f35))) ((c35_6 e H (fun y2_69 y3_70 y5_71 y6_72 H_73 => m35_5 y2_69 y3_70 y5_71 y6_72 H_73 kn kx0 Q) kx0 Q h).mono (mkK_mono (fun e H h => c35_5 e H kn kx0 Q h) (fun _ _ _ h => h) (fun _ _ h => h) (fun _ _ h => h))))
theorem L35_3_round (x2 x3 x5 x6 : Value) (H : Heap) (kn : K0T) (Q : QT) (h : m35_4 x2 x3 x5 x6 H (fun y2 y3 y5 y6 H => L35_3 y2 y3 y5 y6 H kn Q) kn Q) : L35_3 x2 x3 x5 x6 H kn Q := by
  intro env h2 h3 h5 h6
  subst h2; subst h3; subst h5; subst h6
  exact RLoop.round ((c35_4 env H (fun y2 y3 y5 y6 H => L35_3 y2 y3 y5 y6 H kn Q) kn Q h).mono (mkK_mono (fun e H h => h e rfl rfl rfl rfl) (fun _ _ _ h => h) (fun _ _ h => h) (fun _ _ h => h)))
def m35_2 (x2 x3 x5 : Value) (H : Heap) (kn : K0T) (Q : QT) : Prop :=
L35_3 x2 x3 x5 (.int .i64 0) H kn Q
theorem c35_2 (env : Env) (H : Heap) (kn : K0T) (Q : QT) (h : m35_2 (env 2) (env 3) (env 5) H kn Q) :
    RCode Tryd.prog 103 (codeAt [1, 1, 1, 0] (bodyOf Tryd.f35)) env H (mkK (fun e H => kn H) (fun _ _ _ => False) (retK T Tryd.f35.results.toList Q) (fun c H => Q (.panicked c) H)) :=
  RCode.prefix_ (T := T) (X := ext) (hint := hint35) (hole := (fun e H => L35_3 (e 2) (e 3) (e 5) (e 6) H kn Q)) tok xok mixed 1 (by kernel_rfl) (by kernel_rfl : codeAt _ _ = (codeAt [1, 1, 1, 0, 1] (bodyOf Tryd.f35))) h
    (fun e H h => (cL35_3 e H kn Q h))
def m35 (x0 x1 : Value) (H : Heap) (Q : QT) : Prop :=
oNew (Value.cells x0).toList (Value.cells x0).toList.length 67 H fun i_74 H_75 =>
oNew (Value.cells x1).toList (Value.cells x1).toList.length 71 H_75 fun i_76 H_77 =>
oV (vField 0 (ptrTo i_74)) fun t8_78 =>
oV (vField 0 t8_78) fun t9_79 =>
oV (vField 1 t9_79) fun t10_80 =>
oV (vLoad ty3 t10_80 H_77) fun t11_81 =>
oV (vField 0 (ptrTo i_76)) fun t12_82 =>
oV (vLoad ty69 t12_82 H_77) fun t13_83 =>
oV (vLen t13_83) fun t14_84 =>
oV (vInt .neq t14_84 t11_81) fun t16_85 =>
oV (gV t16_85 false (vField 1 (ptrTo i_76)) (some undef)) fun t18_86 =>
oV (gV t16_85 false (vLoad ty69 t18_86 H_77) (some undef)) fun t19_87 =>
oV (gV t16_85 false (vLen t19_87) (some undef)) fun t20_88 =>
oV (gV t16_85 false (some t11_81) (some undef)) fun t21_89 =>
oV (gV t16_85 false (vInt .neq t20_88 t21_89) (some undef)) fun t22_90 =>
oV (vPick t16_85 (.bool true) t22_90) fun t23_91 =>
oV (gV t23_91 false (vField 2 (ptrTo i_76)) (some undef)) fun t25_92 =>
oV (gV t23_91 false (vLoad ty44 t25_92 H_77) (some undef)) fun t26_93 =>
oV (gV t23_91 false (vLen t26_93) (some undef)) fun t27_94 =>
oV (gV t23_91 false (some t11_81) (some undef)) fun t28_95 =>
oV (gV t23_91 false (vInt .neq t27_94 t28_95) (some undef)) fun t29_96 =>
oV (vPick t23_91 (.bool true) t29_96) fun t30_97 =>
condK t30_97 (
Q (.returned (.bool false)) H_77) (
m35_2 (ptrTo i_74) (ptrTo i_76) t11_81 H_77 (fun H_98 => m35_1 H_98 Q) Q)
theorem c35_0 (env : Env) (H : Heap) (Q : QT) (h : m35 (env 0) (env 1) H Q) :
    RCode Tryd.prog 103 (bodyOf Tryd.f35) env H (mkK (retK T Tryd.f35.results.toList Q) (fun _ _ _ => False) (retK T Tryd.f35.results.toList Q) (fun c H => Q (.panicked c) H)) :=
  RCode.prefix_ (T := T) (X := ext) (hint := hint35) (hole := (fun e H => m35_2 (e 2) (e 3) (e 5) H (fun H_99 => m35_1 H_99 Q) Q)) tok xok mixed 3 (by kernel_rfl) (by kernel_rfl : codeAt _ _ = (codeAt [1, 1, 1] (bodyOf Tryd.f35))) h
    (fun e H h => RCode.join (by kernel_rfl : (codeAt [1, 1, 1] (bodyOf Tryd.f35)) = .seq (codeAt [1, 1, 1, 0] (bodyOf Tryd.f35)) (codeAt [1, 1, 1, 1] (bodyOf Tryd.f35))) ((c35_2 e H (fun H_100 => m35_1 H_100 Q) Q h).mono (mkK_mono (fun e H h => c35_1 e H Q h) (fun _ _ _ h => h) (fun _ _ h => h) (fun _ _ h => h))))
theorem call35 (a0 a1 : Value) (H : Heap) (Q : QT) (h : m35 a0 a1 H Q) : RCalls Tryd.prog 35 [a0, a1] H Q :=
  RCalls.intro (nt := 103) tok Tryd.func35 (by kernel_rfl) (by kernel_rfl) (by kernel_rfl) (of_decide_eq_true (by kernel_rfl)) (c35_0 (envOf [a0, a1]) H Q h)
def hint36 : Nat → List Nat := lookupL []
def m36_1 (H : Heap) (Q : QT) : Prop :=
Q (.returned (.bool true)) H
theorem c36_1 (env : Env) (H : Heap) (Q : QT) (h : m36_1 H Q) :
    RCode Tryd.prog 20 (codeAt [1, 1] (bodyOf Tryd.f36)) env H (mkK (retK T Tryd.f36.results.toList Q) (fun _ _ _ => False) (retK T Tryd.f36.results.toList Q) (fun c H => Q (.panicked c) H)) :=
  RCode.leaf_ (T := T) (X := ext) (hint := hint36) tok xok mixed (by kernel_rfl) h
def L36_3 (x1 x2 x5 : Value) (H : Heap) (kn : K0T) (Q : QT) : Prop :=
  ∀ env : Env, env 1 = x1 → env 2 = x2 → env 5 = x5 → RLoop Tryd.prog 20 (codeAt [1, 0, 1, 0, 0] (bodyOf Tryd.f36)) env H (mkK (fun _ _ => False) (inK 0 (fun e H => kn H) (fun _ _ _ => False)) (retK T Tryd.f36.results.toList Q) (fun c H => Q (.panicked c) H))
theorem cL36_3 (env : Env) (H : Heap) (kn : K0T) (Q : QT) (h : L36_3 (env 1) (env 2) (env 5) H kn Q) :
    RCode Tryd.prog 20 (codeAt [1, 0, 1] (bodyOf Tryd.f36)) env H (mkK (fun e H => kn H) (fun _ _ _ => False) (retK T Tryd.f36.results.toList Q) (fun c H => Q (.panicked c) H)) :=
  RCode.blk (by kernel_rfl : (codeAt [1, 0, 1] (bodyOf Tryd.f36)) = .block 0 (codeAt [1, 0, 1, 0] (bodyOf Tryd.f36))) (RCode.lp (by kernel_rfl : (codeAt [1, 0, 1, 0] (bodyOf Tryd.f36)) = .loop (codeAt [1, 0, 1, 0, 0] (bodyOf Tryd.f36))) ((h env rfl rfl rfl).mono (mkK_mono (fun _ _ h => h.elim) (fun _ _ _ h => h) (fun _ _ h => h) (fun _ _ h => h))))
def m36_4 (x1 x2 x5 : Value) (H : Heap) (kn : K3T) (kx0 : K0T) (Q : QT) : Prop :=
oV (vField 3 x2) fun t7_1 =>
oV (vLoad ty25 t7_1 H) fun t8_2 =>
oV (vLen t8_2) fun t9_3 =>
oV (vInt .lss x5 t9_3) fun t10_4 =>
condK t10_4 (
oV (vField 3 x2) fun t13_5 =>
oV (vLoad ty25 t13_5 H) fun t14_6 =>
oV (vIdxS 1 t14_6 x5) fun t16_7 =>
oV (vLoad ty3 t16_7 H) fun t17_8 =>
oV (vInt .eql t17_8 x1) fun t19_9 =>
condK t19_9 (
Q (.returned (.bool false)) H) (
oV (vInt .add x5 (.int .i64 1)) fun t12_10 =>
kn x1 x2 t12_10 H)) (
kx0 H)
theorem c36_4 (env : Env) (H : Heap) (kn : K3T) (kx0 : K0T) (Q : QT) (h : m36_4 (env 1) (env 2) (env 5) H kn kx0 Q) :
    RCode Tryd.prog 20 (codeAt [1, 0, 1, 0, 0] (bodyOf Tryd.f36)) env H (mkK (fun e H => kn (e 1) (e 2) (e 5) H) (inK 0 (fun e H => kx0 H) (fun _ _ _ => False)) (retK T Tryd.f36.results.toList Q) (fun c H => Q (.panicked c) H)) :=
  RCode.leaf_ (T := T) (X := ext) (hint := hint36) tok xok mixed (by kernel_rfl) h
theorem L36_3_round (x1 x2 x5 : Value) (H : Heap) (kn : K0T) (Q : QT) (h : m36_4 x1 x2 x5 H (fun y1 y2 y5 H => L36_3 y1 y2 y5 H kn Q) kn Q) : L36_3 x1 x2 x5 H kn Q := by
  intro env h1 h2 h5
  subst h1; subst h2; subst h5
  exact RLoop.round ((c36_4 env H (fun y1 y2 y5 H => L36_3 y1 y2 y5 H kn Q) kn Q h).mono (mkK_mono (fun e H h => h e rfl rfl rfl) (fun _ _ _ h => h) (fun _ _ h => h) (fun _ _ h => h)))
def m36_2 (x1 x2 : Value) (H : Heap) (kn : K0T) (Q : QT) : Prop :=
L36_3 x1 x2 (.int .i64 0) H kn Q
theorem c36_2 (env : Env) (H : Heap) (kn : K0T) (Q : QT) (h : m36_2 (env 1) (env 2) H kn Q) :
    RCode Tryd.prog 20 (codeAt [1, 0] (bodyOf Tryd.f36)) env H (mkK (fun e H => kn H) (fun _ _ _ => False) (retK T Tryd.f36.results.toList Q) (fun c H => Q (.panicked c) H)) :=
  RCode.prefix_ (T := T) (X := ext) (hint := hint36) (hole := (fun e H => L36_3 (e 1) (e 2) (e 5) H kn Q)) tok xok mixed 1 (by kernel_rfl) (by kernel_rfl : codeAt _ _ = (codeAt [1, 0, 1] (bodyOf Tryd.f36))) h
    (fun e H h => (cL36_3 e H kn Q h))
def m36 (x0 x1 : Value) (H : Heap) (Q : QT) : Prop :=
oNew (Value.cells x0).toList (Value.cells x0).toList.length 29 H fun i_11 H_12 =>
m36_2 x1 (ptrTo i_11) H_12 (fun H_13 => m36_1 H_13 Q) Q
theorem c36_0 (env : Env) (H : Heap) (Q : QT) (h : m36 (env 0) (env 1) H Q) :
    RCode Tryd.prog 20 (bodyOf Tryd.f36) env H (mkK (retK T Tryd.f36.results.toList Q) (fun _ _ _ => False) (retK T Tryd.f36.results.toList Q) (fun c H => Q (.panicked c) H)) :=
  RCode.prefix_ (T := T) (X := ext) (hint := hint36) (hole := (fun e H => m36_2 (e 1) (e 2) H (fun H_14 => m36_1 H_14 Q) Q)) tok xok mixed 1 (by kernel_rfl) (by kernel_rfl : codeAt _ _ = (codeAt [1] (bodyOf Tryd.f36))) h
    (fun e H h => RCode.join (by kernel_rfl : (codeAt [1] (bodyOf Tryd.f36)) = .seq (codeAt [1, 0] (bodyOf Tryd.f36)) (codeAt [1, 1] (bodyOf Tryd.f36))) ((c36_2 e H (fun H_15 => m36_1 H_15 Q) Q h).mono (mkK_mono (fun e H h => c36_1 e H Q h) (fun _ _ _ h => h) (fun _ _ h => h) (fun _ _ h => h))))
theorem call36 (a0 a1 : Value) (H : Heap) (Q : QT) (h : m36 a0 a1 H Q) : RCalls Tryd.prog 36 [a0, a1] H Q :=
  RCalls.intro (nt := 20) tok Tryd.func36 (by kernel_rfl) (by kernel_rfl) (by kernel_rfl) (of_decide_eq_true (by kernel_rfl)) (c36_0 (envOf [a0, a1]) H Q h)
def hint39 : Nat → List Nat := lookupL [(5, [0, 1, 2, 3, 5, 6, 7, 8, 4, 9, 10])]
def m39_1 (x7 : Value) (H : Heap) (Q : QT) : Prop :=
Q (.returned x7) H
theorem c39_1 (env : Env) (H : Heap) (Q : QT) (h : m39_1 (env 7) H Q) :
    RCode Tryd.prog 27 (codeAt [1, 1, 1] (bodyOf Tryd.f39)) env H (mkK (retK T Tryd.f39.results.toList Q) (fun _ _ _ => False) (retK T Tryd.f39.results.toList Q) (fun c H => Q (.panicked c) H)) :=
  RCode.leaf_ (T := T) (X := ext) (hint := hint39) tok xok mixed (by kernel_rfl) h
def L39_3 (x0 x1 x2 x7 x8 : Value) (H : Heap) (kn : K1T) (Q : QT) : Prop :=
  ∀ env : Env, env 0 = x0 → env 1 = x1 → env 2 = x2 → env 7 = x7 → env 8 = x8 → RLoop Tryd.prog 27 (codeAt [1, 1, 0, 1, 0, 0] (bodyOf Tryd.f39)) env H (mkK (fun _ _ => False) (inK 0 (fun e H => kn (e 7) H) (fun _ _ _ => False)) (retK T Tryd.f39.results.toList Q) (fun c H => Q (.panicked c) H))
theorem cL39_3 (env : Env) (H : Heap) (kn : K1T) (Q : QT) (h : L39_3 (env 0) (env 1) (env 2) (env 7) (env 8) H kn Q) :
    RCode Tryd.prog 27 (codeAt [1, 1, 0, 1] (bodyOf Tryd.f39)) env H (mkK (fun e H => kn (e 7) H) (fun _ _ _ => False) (retK T Tryd.f39.results.toList Q) (fun c H => Q (.panicked c) H)) :=
  RCode.blk (by kernel_rfl : (codeAt [1, 1, 0, 1] (bodyOf Tryd.f39)) = .block 0 (codeAt [1, 1, 0, 1, 0] (bodyOf Tryd.f39))) (RCode.lp (by kernel_rfl : (codeAt [1, 1, 0, 1, 0] (bodyOf Tryd.f39)) = .loop (codeAt [1, 1, 0, 1, 0, 0] (bodyOf Tryd.f39))) ((h env rfl rfl rfl rfl rfl).mono (mkK_mono (fun _ _ h => h.elim) (fun _ _ _ h => h) (fun _ _ h => h) (fun _ _ h => h))))
def m39_4 (x0 x1 x2 x7 x8 : Value) (H : Heap) (kn : K5T) (kx0 : K1T) (Q : QT) : Prop :=
oV (vInt .geq x8 (.int .i64 0)) fun t13_1 =>
condK t13_1 (
oV (vIdxS 1 x1 x8) fun t23_2 =>
oV (vLoad ty22 t23_2 H) fun t24_3 =>
oRC Tryd.prog 76 [x0, x7, x2] H noP fun v_4 H_5 =>
(vLoad ty22 t23_2 H_5 = some t24_3 ∧
oRC Tryd.prog 75 [x0, v_4, t24_3] H_5 noP fun v_6 H_7 =>
oV (vInt .sub x8 (.int .i64 1)) fun t15_8 =>
kn x0 x1 x2 v_6 t15_8 H_7)) (
kx0 x7 H)
theorem c39_4 (env : Env) (H : Heap) (kn : K5T) (kx0 : K1T) (Q : QT) (h : m39_4 (env 0) (env 1) (env 2) (env 7) (env 8) H kn kx0 Q) :
    RCode Tryd.prog 27 (codeAt [1, 1, 0, 1, 0, 0] (bodyOf Tryd.f39)) env H (mkK (fun e H => kn (e 0) (e 1) (e 2) (e 7) (e 8) H) (inK 0 (fun e H => kx0 (e 7) H) (fun _ _ _ => False)) (retK T Tryd.f39.results.toList Q) (fun c H => Q (.panicked c) H)) :=
  RCode.leaf_ (T := T) (X := ext) (hint := hint39) tok xok mixed (by kernel_rfl) h
theorem L39_3_round (x0 x1 x2 x7 x8 : Value) (H : Heap) (kn : K1T) (Q : QT) (h : m39_4 x0 x1 x2 x7 x8 H (fun y0 y1 y2 y7 y8 H => L39_3 y0 y1 y2 y7 y8 H kn Q) kn Q) : L39_3 x0 x1 x2 x7 x8 H kn Q := by
  intro env h0 h1 h2 h7 h8
  subst h0; subst h1; subst h2; subst h7; subst h8
  exact RLoop.round ((c39_4 env H (fun y0 y1 y2 y7 y8 H => L39_3 y0 y1 y2 y7 y8 H kn Q) kn Q h).mono (mkK_mono (fun e H h => h e rfl rfl rfl rfl rfl) (fun _ _ _ h => h) (fun _ _ h => h) (fun _ _ h => h)))
def m39_2 (x0 x1 x2 x7 : Value) (H : Heap) (kn : K1T) (Q : QT) : Prop :=
oV (vLen x1) fun t10_9 =>
oV (vInt .sub t10_9 (.int .i64 1)) fun t11_10 =>
L39_3 x0 x1 x2 x7 t11_10 H kn Q
theorem c39_2 (env : Env) (H : Heap) (kn : K1T) (Q : QT) (h : m39_2 (env 0) (env 1) (env 2) (env 7) H kn Q) :
    RCode Tryd.prog 27 (codeAt [1, 1, 0] (bodyOf Tryd.f39)) env H (mkK (fun e H => kn (e 7) H) (fun _ _ _ => False) (retK T Tryd.f39.results.toList Q) (fun c H => Q (.panicked c) H)) :=
  RCode.prefix_ (T := T) (X := ext) (hint := hint39) (hole := (fun e H => L39_3 (e 0) (e 1) (e 2) (e 7) (e 8) H kn Q)) tok xok mixed 1 (by kernel_rfl) (by kernel_rfl : codeAt _ _ = (codeAt [1, 1, 0, 1] (bodyOf Tryd.f39))) h
    (fun e H h => (cL39_3 e H kn Q h))
def m39 (x0 x1 x2 : Value) (H : Heap) (Q : QT) : Prop :=
m39_2 x0 x1 x2 (.int .u64 0) H (fun y7_11 H_12 => m39_1 y7_11 H_12 Q) Q
theorem c39_0 (env : Env) (H : Heap) (Q : QT) (h : m39 (env 0) (env 1) (env 2) H Q) :
    RCode Tryd.prog 27 (bodyOf Tryd.f39) env H (mkK (retK T Tryd.f39.results.toList Q) (fun _ _ _ => False) (retK T Tryd.f39.results.toList Q) (fun c H => Q (.panicked c) H)) :=
  RCode.prefix_ (T := T) (X := ext) (hint := hint39) (hole := (fun e H => m39_2 (e 0) (e 1) (e 2) (e 7) H (fun y7_13 H_14 => m39_1 y7_13 H_14 Q) Q)) tok xok mixed 2 (by kernel_rfl) (by kernel_rfl : codeAt _ _ = (codeAt [1, 1] (bodyOf Tryd.f39))) h
    (fun e H h => RCode.join (by kernel_rfl : (codeAt [1, 1] (bodyOf Tryd.f39)) = .seq (codeAt [1, 1, 0] (bodyOf Tryd.f39)) (codeAt [1, 1, 1] (bodyOf Tryd.f39))) ((c39_2 e H (fun y7_15 H_16 => m39_1 y7_15 H_16 Q) Q h).mono (mkK_mono (fun e H h => c39_1 e H Q h) (fun _ _ _ h => h) (fun _ _ h => h) (fun _ _ h => h))))
theorem call39 (a0 a1 a2 : Value) (H : Heap) (Q : QT) (h : m39 a0 a1 a2 H Q) : RCalls Tryd.prog 39 [a0, a1, a2] H Q :=
  RCalls.intro (nt := 27) tok Tryd.func39 (by kernel_rfl) (by kernel_rfl) (by kernel_rfl) (of_decide_eq_true (by kernel_rfl)) (c39_0 (envOf [a0, a1, a2]) H Q h)
end Go.Proofs.YtchhpagkdaaglaaDoor.SL
end

section
set_option linter.unusedVariables false
set_option linter.unusedSimpArgs false
set_option maxRecDepth 100000
namespace Go.Proofs.YtchhpagkdaaglaaDoor.SL
open Go
def hint7 : Nat → List Nat := lookupL [(23, [0, 1, 2, 3, 4, 5, 6, 7, 8, 9, 10, 11, 12, 13, 14, 15, 16, 17, 18, 20, 21, 22, 23, 24, 25, 26, 27, 28, 29, 30, 31, 32, 33, 34, 35, 36, 19, 37, 38, 39, 40])]
def m7_1 (H : Heap) (Q : QT) : Prop :=
Q (.returned (.bool true)) H
theorem c7_1 (env : Env) (H : Heap) (Q : QT) (h : m7_1 H Q) :
    RCode Tryd.prog 154 (codeAt [1, 1, 1, 1, 1, 1, 1] (bodyOf Tryd.f7)) env H (mkK (retK T Tryd.f7.results.toList Q) (fun _ _ _ => False) (retK T Tryd.f7.results.toList Q) (fun c H => Q (.panicked c) H)) :=
  RCode.leaf_ (T := T) (X := ext) (hint := hint7) tok xok mixed (by kernel_rfl) h
def L7_3 (x1 x3 x6 x7 : Value) (H : Heap) (kn : K0T) (Q : QT) : Prop :=
  ∀ env : Env, env 1 = x1 → env 3 = x3 → env 6 = x6 → env 7 = x7 → RLoop Tryd.prog 154 (codeAt [1, 1, 1, 1, 1, 1, 0, 1, 0, 0] (bodyOf Tryd.f7)) env H (mkK (fun _ _ => False) (inK 0 (fun e H => kn H) (fun _ _ _ => False)) (retK T Tryd.f7.results.toList Q) (fun c H => Q (.panicked c) H))
theorem cL7_3 (env : Env) (H : Heap) (kn : K0T) (Q : QT) (h : L7_3 (env 1) (env 3) (env 6) (env 7) H kn Q) :
    RCode Tryd.prog 154 (codeAt [1, 1, 1, 1, 1, 1, 0, 1] (bodyOf Tryd.f7)) env H (mkK (fun e H => kn H) (fun _ _ _ => False) (retK T Tryd.f7.results.toList Q) (fun c H => Q (.panicked c) H)) :=
  RCode.blk (by kernel_rfl : (codeAt [1, 1, 1, 1, 1, 1, 0, 1] (bodyOf Tryd.f7)) = .block 0 (codeAt [1, 1, 1, 1, 1, 1, 0, 1, 0] (bodyOf Tryd.f7))) (RCode.lp (by kernel_rfl : (codeAt [1, 1, 1, 1, 1, 1, 0, 1, 0] (bodyOf Tryd.f7)) = .loop (codeAt [1, 1, 1, 1, 1, 1, 0, 1, 0, 0] (bodyOf Tryd.f7))) ((h env rfl rfl rfl rfl).mono (mkK_mono (fun _ _ h => h.elim) (fun _ _ _ h => h) (fun _ _ h => h) (fun _ _ h => h))))
def m7_5 (x1 x3 x6 x7 : Value) (H : Heap) (kn : K4T) (kx0 : K0T) (Q : QT) : Prop :=
oV (vInt .add x7 (.int .i64 1)) fun t42_1 =>
kn x1 x3 x6 t42_1 H
theorem c7_5 (env : Env) (H : Heap) (kn : K4T) (kx0 : K0T) (Q : QT) (h : m7_5 (env 1) (env 3) (env 6) (env 7) H kn kx0 Q) :
    RCode Tryd.prog 154 (codeAt [1, 1, 1, 1, 1, 1, 0, 1, 0, 0, 1, 1] (bodyOf Tryd.f7)) env H (mkK (fun e H => kn (e 1) (e 3) (e 6) (e 7) H) (inK 0 (fun e H => kx0 H) (fun _ _ _ => False)) (retK T Tryd.f7.results.toList Q) (fun c H => Q (.panicked c) H)) :=
  RCode.leaf_ (T := T) (X := ext) (hint := hint7) tok xok mixed (by kernel_rfl) h
def L7_8 (x1 x3 x6 x7 x8 : Value) (H : Heap) (kn : K4T) (kx1 : K4T) (kx0 : K0T) (Q : QT) : Prop :=
  ∀ env : Env, env 1 = x1 → env 3 = x3 → env 6 = x6 → env 7 = x7 → env 8 = x8 → RLoop Tryd.prog 154 (codeAt [1, 1, 1, 1, 1, 1, 0, 1, 0, 0, 1, 0, 0, 1, 0, 0] (bodyOf Tryd.f7)) env H (mkK (fun _ _ => False) (inK 2 (fun e H => kn (e 1) (e 3) (e 6) (e 7) H) (inK 1 (fun e H => kx1 (e 1) (e 3) (e 6) (e 7) H) (inK 0 (fun e H => kx0 H) (fun _ _ _ => False)))) (retK T Tryd.f7.results.toList Q) (fun c H => Q (.panicked c) H))
theorem cL7_8 (env : Env) (H : Heap) (kn : K4T) (kx1 : K4T) (kx0 : K0T) (Q : QT) (h : L7_8 (env 1) (env 3) (env 6) (env 7) (env 8) H kn kx1 kx0 Q) :
    RCode Tryd.prog 154 (codeAt [1, 1, 1, 1, 1, 1, 0, 1, 0, 0, 1, 0, 0, 1] (bodyOf Tryd.f7)) env H (mkK (fun e H => kn (e 1) (e 3) (e 6) (e 7) H) (inK 1 (fun e H => kx1 (e 1) (e 3) (e 6) (e 7) H) (inK 0 (fun e H => kx0 H) (fun _ _ _ => False))) (retK T Tryd.f7.results.toList Q) (fun c H => Q (.panicked c) H)) :=
  RCode.blk (by kernel_rfl : (codeAt [1, 1, 1, 1, 1, 1, 0, 1, 0, 0, 1, 0, 0, 1] (bodyOf Tryd.f7)) = .block 2 (codeAt [1, 1, 1, 1, 1, 1, 0, 1, 0, 0, 1, 0, 0, 1, 0] (bodyOf Tryd.f7))) (RCode.lp (by kernel_rfl : (codeAt [1, 1, 1, 1, 1, 1, 0, 1, 0, 0, 1, 0, 0, 1, 0] (bodyOf Tryd.f7)) = .loop (codeAt [1, 1, 1, 1, 1, 1, 0, 1, 0, 0, 1, 0, 0, 1, 0, 0] (bodyOf Tryd.f7))) ((h env rfl rfl rfl rfl rfl).mono (mkK_mono (fun _ _ h => h.elim) (fun _ _ _ h => h) (fun _ _ h => h) (fun _ _ h => h))))
def m7_10 (x1 x3 x6 x7 x8 : Value) (H : Heap) (kn : K5T) (kx2 : K4T) (kx1 : K4T) (kx0 : K0T) (Q : QT) : Prop :=
oV (vInt .add x8 (.int .i64 1)) fun t49_2 =>
kn x1 x3 x6 x7 t49_2 H
theorem c7_10 (env : Env) (H : Heap) (kn : K5T) (kx2 : K4T) (kx1 : K4T) (kx0 : K0T) (Q : QT) (h : m7_10 (env 1) (env 3) (env 6) (env 7) (env 8) H kn kx2 kx1 kx0 Q) :
    RCode Tryd.prog 154 (codeAt [1, 1, 1, 1, 1, 1, 0, 1, 0, 0, 1, 0, 0, 1, 0, 0, 1, 1] (bodyOf Tryd.f7)) env H (mkK (fun e H => kn (e 1) (e 3) (e 6) (e 7) (e 8) H) (inK 2 (fun e H => kx2 (e 1) (e 3) (e 6) (e 7) H) (inK 1 (fun e H => kx1 (e 1) (e 3) (e 6) (e 7) H) (inK 0 (fun e H => kx0 H) (fun _ _ _ => False)))) (retK T Tryd.f7.results.toList Q) (fun c H => Q (.panicked c) H)) :=
  RCode.leaf_ (T := T) (X := ext) (hint := hint7) tok xok mixed (by kernel_rfl) h
def L7_13 (x1 x3 x6 x7 x8 x9 : Value) (H : Heap) (kn : K5T) (kx3 : K5T) (kx2 : K4T) (kx1 : K4T) (kx0 : K0T) (Q : QT) : Prop :=
  ∀ env : Env, env 1 = x1 → env 3 = x3 → env 6 = x6 → env 7 = x7 → env 8 = x8 → env 9 = x9 → RLoop Tryd.prog 154 (codeAt [1, 1, 1, 1, 1, 1, 0, 1, 0, 0, 1, 0, 0, 1, 0, 0, 1, 0, 0, 1, 0, 0] (bodyOf Tryd.f7)) env H (mkK (fun _ _ => False) (inK 4 (fun e H => kn (e 1) (e 3) (e 6) (e 7) (e 8) H) (inK 3 (fun e H => kx3 (e 1) (e 3) (e 6) (e 7) (e 8) H) (inK 2 (fun e H => kx2 (e 1) (e 3) (e 6) (e 7) H) (inK 1 (fun e H => kx1 (e 1) (e 3) (e 6) (e 7) H) (inK 0 (fun e H => kx0 H) (fun _ _ _ => False)))))) (retK T Tryd.f7.results.toList Q) (fun c H => Q (.panicked c) H))
theorem cL7_13 (env : Env) (H : Heap) (kn : K5T) (kx3 : K5T) (kx2 : K4T) (kx1 : K4T) (kx0 : K0T) (Q : QT) (h : L7_13 (env 1) (env 3) (env 6) (env 7) (env 8) (env 9) H kn kx3 kx2 kx1 kx0 Q) :
    RCode Tryd.prog 154 (codeAt [1, 1, 1, 1, 1, 1, 0, 1, 0, 0, 1, 0, 0, 1, 0, 0, 1, 0, 0, 1] (bodyOf Tryd.f7)) env H (mkK (fun e H => kn (e 1) (e 3) (e 6) (e 7) (e 8) H) (inK 3 (fun e H => kx3 (e 1) (e 3) (e 6) (e 7) (e 8) H) (inK 2 (fun e H => kx2 (e 1) (e 3) (e 6) (e 7) H) (inK 1 (fun e H => kx1 (e 1) (e 3) (e 6) (e 7) H) (inK 0 (fun e H => kx0 H) (fun _ _ _ => False))))) (retK T Tryd.f7.results.toList Q) (fun c H => Q (.panicked c) H)) :=
  RCode.blk (by kernel_rfl : (codeAt [1, 1, 1, 1, 1, 1, 0, 1, 0, 0, 1, 0, 0, 1, 0, 0, 1, 0, 0, 1] (bodyOf Tryd.f7)) = .block 4 (codeAt [1, 1, 1, 1, 1, 1, 0, 1, 0, 0, 1, 0, 0, 1, 0, 0, 1, 0, 0, 1, 0] (bodyOf Tryd.f7))) (RCode.lp (by kernel_rfl : (codeAt [1, 1, 1, 1, 1, 1, 0, 1, 0, 0, 1, 0, 0, 1, 0, 0, 1, 0, 0, 1, 0] (bodyOf Tryd.f7)) = .loop (codeAt [1, 1, 1, 1, 1, 1, 0, 1, 0, 0, 1, 0, 0, 1, 0, 0, 1, 0, 0, 1, 0, 0] (bodyOf Tryd.f7))) ((h env rfl rfl rfl rfl rfl rfl).mono (mkK_mono (fun _ _ h => h.elim) (fun _ _ _ h => h) (fun _ _ h => h) (fun _ _ h => h))))
def m7_15 (x1 x3 x6 x7 x8 x9 : Value) (H : Heap) (kn : K6T) (kx4 : K5T) (kx3 : K5T) (kx2 : K4T) (kx1 : K4T) (kx0 : K0T) (Q : QT) : Prop :=
oV (vInt .add x9 (.int .i64 1)) fun t56_3 =>
kn x1 x3 x6 x7 x8 t56_3 H
theorem c7_15 (env : Env) (H : Heap) (kn : K6T) (kx4 : K5T) (kx3 : K5T) (kx2 : K4T) (kx1 : K4T) (kx0 : K0T) (Q : QT) (h : m7_15 (env 1) (env 3) (env 6) (env 7) (env 8) (env 9) H kn kx4 kx3 kx2 kx1 kx0 Q) :
    RCode Tryd.prog 154 (codeAt [1, 1, 1, 1, 1, 1, 0, 1, 0, 0, 1, 0, 0, 1, 0, 0, 1, 0, 0, 1, 0, 0, 1, 1] (bodyOf Tryd.f7)) env H (mkK (fun e H => kn (e 1) (e 3) (e 6) (e 7) (e 8) (e 9) H) (inK 4 (fun e H => kx4 (e 1) (e 3) (e 6) (e 7) (e 8) H) (inK 3 (fun e H => kx3 (e 1) (e 3) (e 6) (e 7) (e 8) H) (inK 2 (fun e H => kx2 (e 1) (e 3) (e 6) (e 7) H) (inK 1 (fun e H => kx1 (e 1) (e 3) (e 6) (e 7) H) (inK 0 (fun e H => kx0 H) (fun _ _ _ => False)))))) (retK T Tryd.f7.results.toList Q) (fun c H => Q (.panicked c) H)) :=
  RCode.leaf_ (T := T) (X := ext) (hint := hint7) tok xok mixed (by kernel_rfl) h
def m7_18 (x1 x3 x6 x7 x8 x9 x10 : Value) (H : Heap) (kn : K6T) (kx5 : K6T) (kx4 : K5T) (kx3 : K5T) (kx2 : K4T) (kx1 : K4T) (kx0 : K0T) (Q : QT) : Prop :=
oV (vField 2 x3) fun t124_4 =>
oV (vLoad ty44 t124_4 H) fun t125_5 =>
oV (vIdxS 1 t125_5 x8) fun t127_6 =>
oV (vLoad ty27 t127_6 H) fun t128_7 =>
oV (vIdxS 1 t128_7 x7) fun t130_8 =>
oV (vLoad ty52 t130_8 H) fun t131_9 =>
oV (vIdxS 1 t131_9 x9) fun t133_10 =>
oV (vLoad ty22 t133_10 H) fun t134_11 =>
oV (vInt .eql t134_11 (.int .u64 0)) fun t135_12 =>
oV (vBoolOp .neq t135_12 x10) fun t137_13 =>
oV (gV t137_13 false (vField 2 x3) (some undef)) fun t139_14 =>
oV (gV t137_13 false (vLoad ty44 t139_14 H) (some undef)) fun t140_15 =>
oV (gV t137_13 false (some x9) (some undef)) fun t141_16 =>
oV (gV t137_13 false (vIdxS 1 t140_15 t141_16) (some undef)) fun t142_17 =>
oV (gV t137_13 false (vLoad ty27 t142_17 H) (some undef)) fun t143_18 =>
oV (gV t137_13 false (some x7) (some undef)) fun t144_19 =>
oV (gV t137_13 false (vIdxS 1 t143_18 t144_19) (some undef)) fun t145_20 =>
oV (gV t137_13 false (vLoad ty52 t145_20 H) (some undef)) fun t146_21 =>
oV (gV t137_13 false (some x8) (some undef)) fun t147_22 =>
oV (gV t137_13 false (vIdxS 1 t146_21 t147_22) (some undef)) fun t148_23 =>
oV (gV t137_13 false (vLoad ty22 t148_23 H) (some undef)) fun t149_24 =>
oV (gV t137_13 false (vInt .eql t149_24 (.int .u64 0)) (some undef)) fun t150_25 =>
oV (gV t137_13 false (some x10) (some undef)) fun t151_26 =>
oV (gV t137_13 false (vBoolOp .neq t150_25 t151_26) (some undef)) fun t152_27 =>
oV (vPick t137_13 (.bool true) t152_27) fun t153_28 =>
condK t153_28 (
Q (.returned (.bool false)) H) (
kn x1 x3 x6 x7 x8 x9 H)
theorem c7_18 (env : Env) (H : Heap) (kn : K6T) (kx5 : K6T) (kx4 : K5T) (kx3 : K5T) (kx2 : K4T) (kx1 : K4T) (kx0 : K0T) (Q : QT) (h : m7_18 (env 1) (env 3) (env 6) (env 7) (env 8) (env 9) (env 10) H kn kx5 kx4 kx3 kx2 kx1 kx0 Q) :
    RCode Tryd.prog 154 (codeAt [1, 1, 1, 1, 1, 1, 0, 1, 0, 0, 1, 0, 0, 1, 0, 0, 1, 0, 0, 1, 0, 0, 1, 0, 0, 1, 1, 1] (bodyOf Tryd.f7)) env H (mkK (fun e H => kn (e 1) (e 3) (e 6) (e 7) (e 8) (e 9) H) (inK 5 (fun e H => kx5 (e 1) (e 3) (e 6) (e 7) (e 8) (e 9) H) (inK 4 (fun e H => kx4 (e 1) (e 3) (e 6) (e 7) (e 8) H) (inK 3 (fun e H => kx3 (e 1) (e 3) (e 6) (e 7) (e 8) H) (inK 2 (fun e H => kx2 (e 1) (e 3) (e 6) (e 7) H) (inK 1 (fun e H => kx1 (e 1) (e 3) (e 6) (e 7) H) (inK 0 (fun e H => kx0 H) (fun _ _ _ => False))))))) (retK T Tryd.f7.results.toList Q) (fun c H => Q (.panicked c) H)) :=
  RCode.leaf_ (T := T) (X := ext) (hint := hint7) tok xok mixed (by kernel_rfl) h
def L7_20 (x1 x3 x6 x7 x8 x9 x10 x11 : Value) (H : Heap) (kn : K7T) (kx5 : K6T) (kx4 : K5T) (kx3 : K5T) (kx2 : K4T) (kx1 : K4T) (kx0 : K0T) (Q : QT) : Prop :=
  ∀ env : Env, env 1 = x1 → env 3 = x3 → env 6 = x6 → env 7 = x7 → env 8 = x8 → env 9 = x9 → env 10 = x10 → env 11 = x11 → RLoop Tryd.prog 154 (codeAt [1, 1, 1, 1, 1, 1, 0, 1, 0, 0, 1, 0, 0, 1, 0, 0, 1, 0, 0, 1, 0, 0, 1, 0, 0, 1, 1, 0, 1, 0, 0] (bodyOf Tryd.f7)) env H (mkK (fun _ _ => False) (inK 6 (fun e H => kn (e 1) (e 3) (e 6) (e 7) (e 8) (e 9) (e 10) H) (inK 5 (fun e H => kx5 (e 1) (e 3) (e 6) (e 7) (e 8) (e 9) H) (inK 4 (fun e H => kx4 (e 1) (e 3) (e 6) (e 7) (e 8) H) (inK 3 (fun e H => kx3 (e 1) (e 3) (e 6) (e 7) (e 8) H) (inK 2 (fun e H => kx2 (e 1) (e 3) (e 6) (e 7) H) (inK 1 (fun e H => kx1 (e 1) (e 3) (e 6) (e 7) H) (inK 0 (fun e H => kx0 H) (fun _ _ _ => False)))))))) (retK T Tryd.f7.results.toList Q) (fun c H => Q (.panicked c) H))
theorem cL7_20 (env : Env) (H : Heap) (kn : K7T) (kx5 : K6T) (kx4 : K5T) (kx3 : K5T) (kx2 : K4T) (kx1 : K4T) (kx0 : K0T) (Q : QT) (h : L7_20 (env 1) (env 3) (env 6) (env 7) (env 8) (env 9) (env 10) (env 11) H kn kx5 kx4 kx3 kx2 kx1 kx0 Q) :
    RCode Tryd.prog 154 (codeAt [1, 1, 1, 1, 1, 1, 0, 1, 0, 0, 1, 0, 0, 1, 0, 0, 1, 0, 0, 1, 0, 0, 1, 0, 0, 1, 1, 0, 1] (bodyOf Tryd.f7)) env H (mkK (fun e H => kn (e 1) (e 3) (e 6) (e 7) (e 8) (e 9) (e 10) H) (inK 5 (fun e H => kx5 (e 1) (e 3) (e 6) (e 7) (e 8) (e 9) H) (inK 4 (fun e H => kx4 (e 1) (e 3) (e 6) (e 7) (e 8) H) (inK 3 (fun e H => kx3 (e 1) (e 3) (e 6) (e 7) (e 8) H) (inK 2 (fun e H => kx2 (e 1) (e 3) (e 6) (e 7) H) (inK 1 (fun e H => kx1 (e 1) (e 3) (e 6) (e 7) H) (inK 0 (fun e H => kx0 H) (fun _ _ _ => False))))))) (retK T Tryd.f7.results.toList Q) (fun c H => Q (.panicked c) H)) :=
  RCode.blk (by kernel_rfl : (codeAt [1, 1, 1, 1, 1, 1, 0, 1, 0, 0, 1, 0, 0, 1, 0, 0, 1, 0, 0, 1, 0, 0, 1, 0, 0, 1, 1, 0, 1] (bodyOf Tryd.f7)) = .block 6 (codeAt [1, 1, 1, 1, 1, 1, 0, 1, 0, 0, 1, 0, 0, 1, 0, 0, 1, 0, 0, 1, 0, 0, 1, 0, 0, 1, 1, 0, 1, 0] (bodyOf Tryd.f7))) (RCode.lp (by kernel_rfl : (codeAt [1, 1, 1, 1, 1, 1, 0, 1, 0, 0, 1, 0, 0, 1, 0, 0, 1, 0, 0, 1, 0, 0, 1, 0, 0, 1, 1, 0, 1, 0] (bodyOf Tryd.f7)) = .loop (codeAt [1, 1, 1, 1, 1, 1, 0, 1, 0, 0, 1, 0, 0, 1, 0, 0, 1, 0, 0, 1, 0, 0, 1, 0, 0, 1, 1, 0, 1, 0, 0] (bodyOf Tryd.f7))) ((h env rfl rfl rfl rfl rfl rfl rfl rfl).mono (mkK_mono (fun _ _ h => h.elim) (fun _ _ _ h => h) (fun _ _ h => h) (fun _ _ h => h))))
def m7_21 (x1 x3 x6 x7 x8 x9 x10 x11 : Value) (H : Heap) (kn : K8T) (kx6 : K7T) (kx5 : K6T) (kx4 : K5T) (kx3 : K5T) (kx2 : K4T) (kx1 : K4T) (kx0 : K0T) (Q : QT) : Prop :=
oV (vField 6 x1) fun t75_29 =>
oV (vLoad ty44 t75_29 H) fun t76_30 =>
oV (vIdxS 1 t76_30 x7) fun t78_31 =>
oV (vLoad ty27 t78_31 H) fun t79_32 =>
oV (vLen t79_32) fun t80_33 =>
oV (vInt .lss x11 t80_33) fun t81_34 =>
condK t81_34 (
oV (gV x10 true (vField 0 x6) (some undef)) fun t86_35 =>
oV (gV x10 true (vField 0 t86_35) (some undef)) fun t87_36 =>
oV (gV x10 true (vLoad ty22 t87_36 H) (some undef)) fun t88_37 =>
oV (gV x10 true (vField 1 x3) (some undef)) fun t89_38 =>
oV (gV x10 true (vLoad ty69 t89_38 H) (some undef)) fun t90_39 =>
oV (gV x10 true (some x8) (some undef)) fun t91_40 =>
oV (gV x10 true (vIdxS 1 t90_39 t91_40) (some undef)) fun t92_41 =>
oV (gV x10 true (vLoad ty44 t92_41 H) (some undef)) fun t93_42 =>
oV (gV x10 true (some x7) (some undef)) fun t94_43 =>
oV (gV x10 true (vIdxS 1 t93_42 t94_43) (some undef)) fun t95_44 =>
oV (gV x10 true (vLoad ty27 t95_44 H) (some undef)) fun t96_45 =>
oV (gV x10 true (some x11) (some undef)) fun t97_46 =>
oV (gV x10 true (vIdxS 1 t96_45 t97_46) (some undef)) fun t98_47 =>
oV (gV x10 true (vLoad ty52 t98_47 H) (some undef)) fun t99_48 =>
oV (gV x10 true (some x9) (some undef)) fun t100_49 =>
oV (gV x10 true (vInt .add t100_49 (.int .i64 1)) (some undef)) fun t101_50 =>
oV (gV x10 true (vConv (.int .u64) t101_50) (some undef)) fun t102_51 =>
oV (gV x10 true (vField 0 x6) (some undef)) fun t104_52 =>
oV (gV x10 true (vField 0 t104_52) (some undef)) fun t105_53 =>
oV (gV x10 true (vLoad ty22 t105_53 H) (some undef)) fun t106_54 =>
oV (gV x10 true (vField 1 x3) (some undef)) fun t107_55 =>
oV (gV x10 true (vLoad ty69 t107_55 H) (some undef)) fun t108_56 =>
oV (gV x10 true (some x9) (some undef)) fun t109_57 =>
oV (gV x10 true (vIdxS 1 t108_56 t109_57) (some undef)) fun t110_58 =>
oV (gV x10 true (vLoad ty44 t110_58 H) (some undef)) fun t111_59 =>
oV (gV x10 true (some x7) (some undef)) fun t112_60 =>
oV (gV x10 true (vIdxS 1 t111_59 t112_60) (some undef)) fun t113_61 =>
oV (gV x10 true (vLoad ty27 t113_61 H) (some undef)) fun t114_62 =>
oV (gV x10 true (some x11) (some undef)) fun t115_63 =>
oV (gV x10 true (vIdxS 1 t114_62 t115_63) (some undef)) fun t116_64 =>
oV (gV x10 true (vLoad ty52 t116_64 H) (some undef)) fun t117_65 =>
oV (gV x10 true (some x8) (some undef)) fun t118_66 =>
oV (gV x10 true (vInt .add t118_66 (.int .i64 1)) (some undef)) fun t119_67 =>
oV (gV x10 true (vConv (.int .u64) t119_67) (some undef)) fun t120_68 =>
letK (fun t103_70 H_71 =>
(gV x10 true (vLoad ty52 t116_64 H_71) (some undef) = some t117_65 ∧
(gV x10 true (vLoad ty27 t113_61 H_71) (some undef) = some t114_62 ∧
(gV x10 true (vLoad ty44 t110_58 H_71) (some undef) = some t111_59 ∧
(gV x10 true (vLoad ty69 t107_55 H_71) (some undef) = some t108_56 ∧
(gV x10 true (vLoad ty22 t105_53 H_71) (some undef) = some t106_54 ∧
letK (fun t121_73 H_74 =>
oV (gV x10 true (vInt .eql t103_70 t121_73) (some undef)) fun t122_75 =>
oV (vPick x10 t122_75 (.bool false)) fun t123_76 =>
oV (vInt .add x11 (.int .i64 1)) fun t83_77 =>
kn x1 x3 x6 x7 x8 x9 t123_76 t83_77 H_74) fun k_72 => gK x10 true (oRC Tryd.prog 39 [t106_54, t117_65, t120_68] H_71 noP fun v_78 H_79 =>
k_72 v_78 H_79) (k_72 undef H_71))))))) fun k_69 => gK x10 true (oRC Tryd.prog 39 [t88_37, t99_48, t102_51] H noP fun v_80 H_81 =>
k_69 v_80 H_81) (k_69 undef H)) (
kx6 x1 x3 x6 x7 x8 x9 x10 H)
theorem c7_21 (env : Env) (H : Heap) (kn : K8T) (kx6 : K7T) (kx5 : K6T) (kx4 : K5T) (kx3 : K5T) (kx2 : K4T) (kx1 : K4T) (kx0 : K0T) (Q : QT) (h : m7_21 (env 1) (env 3) (env 6) (env 7) (env 8) (env 9) (env 10) (env 11) H kn kx6 kx5 kx4 kx3 kx2 kx1 kx0 Q) :
    RCode Tryd.prog 154 (codeAt [1, 1, 1, 1, 1, 1, 0, 1, 0, 0, 1, 0, 0, 1, 0, 0, 1, 0, 0, 1, 0, 0, 1, 0, 0, 1, 1, 0, 1, 0, 0] (bodyOf Tryd.f7)) env H (mkK (fun e H => kn (e 1) (e 3) (e 6) (e 7) (e 8) (e 9) (e 10) (e 11) H) (inK 6 (fun e H => kx6 (e 1) (e 3) (e 6) (e 7) (e 8) (e 9) (e 10) H) (inK 5 (fun e H => kx5 (e 1) (e 3) (e 6) (e 7) (e 8) (e 9) H) (inK 4 (fun e H => kx4 (e 1) (e 3) (e 6) (e 7) (e 8) H) (inK 3 (fun e H => kx3 (e 1) (e 3) (e 6) (e 7) (e 8) H) (inK 2 (fun e H => kx2 (e 1) (e 3) (e 6) (e 7) H) (inK 1 (fun e H => kx1 (e 1) (e 3) (e 6) (e 7) H) (inK 0 (fun e H => kx0 H) (fun _ _ _ => False)))))))) (retK T Tryd.f7.results.toList Q) (fun c H => Q (.panicked c) H)) :=
  RCode.leaf_ (T := T) (X := ext) (hint := hint7) tok xok mixed (by kernel_rfl) h
theorem L7_20_round (x1 x3 x6 x7 x8 x9 x10 x11 : Value) (H : Heap) (kn : K7T) (kx5 : K6T) (kx4 : K5T) (kx3 : K5T) (kx2 : K4T) (kx1 : K4T) (kx0 : K0T) (Q : QT) (h : m7_21 x1 x3 x6 x7 x8 x9 x10 x11 H (fun y1 y3 y6 y7 y8 y9 y10 y11 H => L7_20 y1 y3 y6 y7 y8 y9 y10 y11 H kn kx5 kx4 kx3 kx2 kx1 kx0 Q) kn kx5 kx4 kx3 kx2 kx1 kx0 Q) : L7_20 x1 x3 x6 x7 x8 x9 x10 x11 H kn kx5 kx4 kx3 kx2 kx1 kx0 Q := by
  intro env h1 h3 h6 h7 h8 h9 h10 h11
  subst h1; subst h3; subst h6; subst h7; subst h8; subst h9; subst h10; subst h11
  exact RLoop.round ((c7_21 env H (fun y1 y3 y6 y7 y8 y9 y10 y11 H => L7_20 y1 y3 y6 y7 y8 y9 y10 y11 H kn kx5 kx4 kx3 kx2 kx1 kx0 Q) kn kx5 kx4 kx3 kx2 kx1 kx0 Q h).mono (mkK_mono (fun e H h => h e rfl rfl rfl rfl rfl rfl rfl rfl) (fun _ _ _ h => h) (fun _ _ h => h) (fun _ _ h => h)))
def m7_19 (x1 x3 x6 x7 x8 x9 x10 : Value) (H : Heap) (kn : K7T) (kx5 : K6T) (kx4 : K5T) (kx3 : K5T) (kx2 : K4T) (kx1 : K4T) (kx0 : K0T) (Q : QT) : Prop :=
L7_20 x1 x3 x6 x7 x8 x9 x10 (.int .i64 0) H kn kx5 kx4 kx3 kx2 kx1 kx0 Q
theorem c7_19 (env : Env) (H : Heap) (kn : K7T) (kx5 : K6T) (kx4 : K5T) (kx3 : K5T) (kx2 : K4T) (kx1 : K4T) (kx0 : K0T) (Q : QT) (h : m7_19 (env 1) (env 3) (env 6) (env 7) (env 8) (env 9) (env 10) H kn kx5 kx4 kx3 kx2 kx1 kx0 Q) :
    RCode Tryd.prog 154 (codeAt [1, 1, 1, 1, 1, 1, 0, 1, 0, 0, 1, 0, 0, 1, 0, 0, 1, 0, 0, 1, 0, 0, 1, 0, 0, 1, 1, 0] (bodyOf Tryd.f7)) env H (mkK (fun e H => kn (e 1) (e 3) (e 6) (e 7) (e 8) (e 9) (e 10) H) (inK 5 (fun e H => kx5 (e 1) (e 3) (e 6) (e 7) (e 8) (e 9) H) (inK 4 (fun e H => kx4 (e 1) (e 3) (e 6) (e 7) (e 8) H) (inK 3 (fun e H => kx3 (e 1) (e 3) (e 6) (e 7) (e 8) H) (inK 2 (fun e H => kx2 (e 1) (e 3) (e 6) (e 7) H) (inK 1 (fun e H => kx1 (e 1) (e 3) (e 6) (e 7) H) (inK 0 (fun e H => kx0 H) (fun _ _ _ => False))))))) (retK T Tryd.f7.results.toList Q) (fun c H => Q (.panicked c) H)) :=
  RCode.prefix_ (T := T) (X := ext) (hint := hint7) (hole := (fun e H => L7_20 (e 1) (e 3) (e 6) (e 7) (e 8) (e 9) (e 10) (e 11) H kn kx5 kx4 kx3 kx2 kx1 kx0 Q)) tok xok mixed 1 (by kernel_rfl) (by kernel_rfl : codeAt _ _ = (codeAt [1, 1, 1, 1, 1, 1, 0, 1, 0, 0, 1, 0, 0, 1, 0, 0, 1, 0, 0, 1, 0, 0, 1, 0, 0, 1, 1, 0, 1] (bodyOf Tryd.f7))) h
    (fun e H h => (cL7_20 e H kn kx5 kx4 kx3 kx2 kx1 kx0 Q h))
def m7_17 (x1 x3 x6 x7 x8 x9 : Value) (H : Heap) (kn : K6T) (kx5 : K6T) (kx4 : K5T) (kx3 : K5T) (kx2 : K4T) (kx1 : K4T) (kx0 : K0T) (Q : QT) : Prop :=
oV (vInt .eql x8 x9) fun t59_82 =>
oV (gV t59_82 false (vLoad ty29 x6 H) (some undef)) fun t61_83 =>
oV (gV t59_82 false (some x8) (some undef)) fun t62_84 =>
oV (gV t59_82 false (vInt .add t62_84 (.int .i64 1)) (some undef)) fun t63_85 =>
letK (fun t64_87 H_88 =>
oV (gV t59_82 false (vUn .not t64_87) (some undef)) fun t65_89 =>
oV (vPick t59_82 (.bool true) t65_89) fun t66_90 =>
oV (gV t66_90 false (vLoad ty29 x6 H_88) (some undef)) fun t68_91 =>
oV (gV t66_90 false (some x9) (some undef)) fun t69_92 =>
oV (gV t66_90 false (vInt .add t69_92 (.int .i64 1)) (some undef)) fun t70_93 =>
letK (fun t71_95 H_96 =>
oV (gV t66_90 false (vUn .not t71_95) (some undef)) fun t72_97 =>
oV (vPick t66_90 (.bool true) t72_97) fun t73_98 =>
condK t73_98 (
kx5 x1 x3 x6 x7 x8 x9 H_96) (
m7_19 x1 x3 x6 x7 x8 x9 (.bool true) H_96 (fun y1_99 y3_100 y6_101 y7_102 y8_103 y9_104 y10_105 H_106 => m7_18 y1_99 y3_100 y6_101 y7_102 y8_103 y9_104 y10_105 H_106 kn kx5 kx4 kx3 kx2 kx1 kx0 Q) kx5 kx4 kx3 kx2 kx1 kx0 Q)) fun k_94 => gK t66_90 false (oRC Tryd.prog 36 [t68_91, t70_93] H_88 (fun c H => Q (.panicked c) H) fun v_107 H_108 =>
k_94 v_107 H_108) (k_94 undef H_88)) fun k_86 => gK t59_82 false (oRC Tryd.prog 36 [t61_83, t63_85] H (fun c H => Q (.panicked c) H) fun v_109 H_110 =>
k_86 v_109 H_110) (k_86 undef H)
theorem c7_17 (env : Env) (H : Heap) (kn : K6T) (kx5 : K6T) (kx4 : K5T) (kx3 : K5T) (kx2 : K4T) (kx1 : K4T) (kx0 : K0T) (Q : QT) (h : m7_17 (env 1) (env 3) (env 6) (env 7) (env 8) (env 9) H kn kx5 kx4 kx3 kx2 kx1 kx0 Q) :
    RCode Tryd.prog 154 (codeAt [1, 1, 1, 1, 1, 1, 0, 1, 0, 0, 1, 0, 0, 1, 0, 0, 1, 0, 0, 1, 0, 0, 1, 0, 0] (bodyOf Tryd.f7)) env H (mkK (fun e H => kn (e 1) (e 3) (e 6) (e 7) (e 8) (e 9) H) (inK 5 (fun e H => kx5 (e 1) (e 3) (e 6) (e 7) (e 8) (e 9) H) (inK 4 (fun e H => kx4 (e 1) (e 3) (e 6) (e 7) (e 8) H) (inK 3 (fun e H => kx3 (e 1) (e 3) (e 6) (e 7) (e 8) H) (inK 2 (fun e H => kx2 (e 1) (e 3) (e 6) (e 7) H) (inK 1 (fun e H => kx1 (e 1) (e 3) (e 6) (e 7) H) (inK 0 (fun e H => kx0 H) (fun _ _ _ => False))))))) (retK T Tryd.f7.results.toList Q) (fun c H => Q (.panicked c) H)) :=
  RCode.prefix_ (T := T) (X := ext) (hint := hint7) (hole := (fun e H => m7_19 (e 1) (e 3) (e 6) (e 7) (e 8) (e 9) (e 10) H (fun y1_111 y3_112 y6_113 y7_114 y8_115 y9_116 y10_117 H_118 => m7_18 y1_111 y3_112 y6_113 y7_114 y8_115 y9_116 y10_117 H_118 kn kx5 kx4 kx3 kx2 kx1 kx0 Q) kx5 kx4 kx3 kx2 kx1 kx0 Q)) tok xok mixed 2 (by kernel_rfl) (by kernel_rfl : codeAt _ _ = (codeAt [1, 1, 1, 1, 1, 1, 0, 1, 0, 0, 1, 0, 0, 1, 0, 0, 1, 0, 0, 1, 0, 0, 1, 0, 0, 1, 1] (bodyOf Tryd.f7))) h
    (fun e H h => RCode.join (by kernel_rfl : (codeAt [1, 1, 1, 1, 1, 1, 0, 1, 0, 0, 1, 0, 0, 1, 0, 0, 1, 0, 0, 1, 0, 0, 1, 0, 0, 1, 1] (bodyOf Tryd.f7)) = .seq (codeAt [1, 1, 1, 1, 1, 1, 0, 1, 0, 0, 1, 0, 0, 1, 0, 0, 1, 0, 0, 1, 0, 0, 1, 0, 0, 1, 1, 0] (bodyOf Tryd.f7)) (codeAt [1, 1, 1, 1, 1, 1, 0, 1, 0, 0, 1, 0, 0, 1, 0, 0, 1, 0, 0, 1, 0, 0, 1, 0, 0, 1, 1, 1] (bodyOf Tryd.f7))) ((c7_19 e H (fun y1_119 y3_120 y6_121 y7_122 y8_123 y9_124 y10_125 H_126 => m7_18 y1_119 y3_120 y6_121 y7_122 y8_123 y9_124 y10_125 H_126 kn kx5 kx4 kx3 kx2 kx1 kx0 Q) kx5 kx4 kx3 kx2 kx1 kx0 Q h).mono (mkK_mono (fun e H h => c7_18 e H kn kx5 kx4 kx3 kx2 kx1 kx0 Q h) (fun _ _ _ h => h) (fun _ _ h => h) (fun _ _ h => h))))
def m7_16 (x1 x3 x6 x7 x8 x9 : Value) (H : Heap) (kn : K6T) (kx4 : K5T) (kx3 : K5T) (kx2 : K4T) (kx1 : K4T) (kx0 : K0T) (Q : QT) : Prop :=
m7_17 x1 x3 x6 x7 x8 x9 H kn kn kx4 kx3 kx2 kx1 kx0 Q
theorem c7_16 (env : Env) (H : Heap) (kn : K6T) (kx4 : K5T) (kx3 : K5T) (kx2 : K4T) (kx1 : K4T) (kx0 : K0T) (Q : QT) (h : m7_16 (env 1) (env 3) (env 6) (env 7) (env 8) (env 9) H kn kx4 kx3 kx2 kx1 kx0 Q) :
    RCode Tryd.prog 154 (codeAt [1, 1, 1, 1, 1, 1, 0, 1, 0, 0, 1, 0, 0, 1, 0, 0, 1, 0, 0, 1, 0, 0, 1, 0] (bodyOf Tryd.f7)) env H (mkK (fun e H => kn (e 1) (e 3) (e 6) (e 7) (e 8) (e 9) H) (inK 4 (fun e H => kx4 (e 1) (e 3) (e 6) (e 7) (e 8) H) (inK 3 (fun e H => kx3 (e 1) (e 3) (e 6) (e 7) (e 8) H) (inK 2 (fun e H => kx2 (e 1) (e 3) (e 6) (e 7) H) (inK 1 (fun e H => kx1 (e 1) (e 3) (e 6) (e 7) H) (inK 0 (fun e H => kx0 H) (fun _ _ _ => False)))))) (retK T Tryd.f7.results.toList Q) (fun c H => Q (.panicked c) H)) :=
  RCode.blk (by kernel_rfl : (codeAt [1, 1, 1, 1, 1, 1, 0, 1, 0, 0, 1, 0, 0, 1, 0, 0, 1, 0, 0, 1, 0, 0, 1, 0] (bodyOf Tryd.f7)) = .block 5 (codeAt [1, 1, 1, 1, 1, 1, 0, 1, 0, 0, 1, 0, 0, 1, 0, 0, 1, 0, 0, 1, 0, 0, 1, 0, 0] (bodyOf Tryd.f7))) (c7_17 env H kn kn kx4 kx3 kx2 kx1 kx0 Q h)
def m7_14 (x1 x3 x6 x7 x8 x9 : Value) (H : Heap) (kn : K6T) (kx4 : K5T) (kx3 : K5T) (kx2 : K4T) (kx1 : K4T) (kx0 : K0T) (Q : QT) : Prop :=
oV (vField 0 x6) fun t51_127 =>
oV (vField 1 t51_127) fun t52_128 =>
oV (vLoad ty3 t52_128 H) fun t53_129 =>
oV (vInt .lss x9 t53_129) fun t54_130 =>
condK t54_130 (
m7_16 x1 x3 x6 x7 x8 x9 H (fun y1_131 y3_132 y6_133 y7_134 y8_135 y9_136 H_137 => m7_15 y1_131 y3_132 y6_133 y7_134 y8_135 y9_136 H_137 kn kx4 kx3 kx2 kx1 kx0 Q) kx4 kx3 kx2 kx1 kx0 Q) (
kx4 x1 x3 x6 x7 x8 H)
theorem c7_14 (env : Env) (H : Heap) (kn : K6T) (kx4 : K5T) (kx3 : K5T) (kx2 : K4T) (kx1 : K4T) (kx0 : K0T) (Q : QT) (h : m7_14 (env 1) (env 3) (env 6) (env 7) (env 8) (env 9) H kn kx4 kx3 kx2 kx1 kx0 Q) :
    RCode Tryd.prog 154 (codeAt [1, 1, 1, 1, 1, 1, 0, 1, 0, 0, 1, 0, 0, 1, 0, 0, 1, 0, 0, 1, 0, 0] (bodyOf Tryd.f7)) env H (mkK (fun e H => kn (e 1) (e 3) (e 6) (e 7) (e 8) (e 9) H) (inK 4 (fun e H => kx4 (e 1) (e 3) (e 6) (e 7) (e 8) H) (inK 3 (fun e H => kx3 (e 1) (e 3) (e 6) (e 7) (e 8) H) (inK 2 (fun e H => kx2 (e 1) (e 3) (e 6) (e 7) H) (inK 1 (fun e H => kx1 (e 1) (e 3) (e 6) (e 7) H) (inK 0 (fun e H => kx0 H) (fun _ _ _ => False)))))) (retK T Tryd.f7.results.toList Q) (fun c H => Q (.panicked c) H)) :=
  RCode.prefix_ (T := T) (X := ext) (hint := hint7) (hole := (fun e H => m7_16 (e 1) (e 3) (e 6) (e 7) (e 8) (e 9) H (fun y1_138 y3_139 y6_140 y7_141 y8_142 y9_143 H_144 => m7_15 y1_138 y3_139 y6_140 y7_141 y8_142 y9_143 H_144 kn kx4 kx3 kx2 kx1 kx0 Q) kx4 kx3 kx2 kx1 kx0 Q)) tok xok mixed 1 (by kernel_rfl) (by kernel_rfl : codeAt _ _ = (codeAt [1, 1, 1, 1, 1, 1, 0, 1, 0, 0, 1, 0, 0, 1, 0, 0, 1, 0, 0, 1, 0, 0, 1] (bodyOf Tryd.f7))) h
    (fun e H h => RCode.join (by kernel_rfl : (codeAt [1, 1, 1, 1, 1, 1, 0, 1, 0, 0, 1, 0, 0, 1, 0, 0, 1, 0, 0, 1, 0, 0, 1] (bodyOf Tryd.f7)) = .seq (codeAt [1, 1, 1, 1, 1, 1, 0, 1, 0, 0, 1, 0, 0, 1, 0, 0, 1, 0, 0, 1, 0, 0, 1, 0] (bodyOf Tryd.f7)) (codeAt [1, 1, 1, 1, 1, 1, 0, 1, 0, 0, 1, 0, 0, 1, 0, 0, 1, 0, 0, 1, 0, 0, 1, 1] (bodyOf Tryd.f7))) ((c7_16 e H (fun y1_145 y3_146 y6_147 y7_148 y8_149 y9_150 H_151 => m7_15 y1_145 y3_146 y6_147 y7_148 y8_149 y9_150 H_151 kn kx4 kx3 kx2 kx1 kx0 Q) kx4 kx3 kx2 kx1 kx0 Q h).mono (mkK_mono (fun e H h => c7_15 e H kn kx4 kx3 kx2 kx1 kx0 Q h) (fun _ _ _ h => h) (fun _ _ h => h) (fun _ _ h => h))))
theorem L7_13_round (x1 x3 x6 x7 x8 x9 : Value) (H : Heap) (kn : K5T) (kx3 : K5T) (kx2 : K4T) (kx1 : K4T) (kx0 : K0T) (Q : QT) (h : m7_14 x1 x3 x6 x7 x8 x9 H (fun y1 y3 y6 y7 y8 y9 H => L7_13 y1 y3 y6 y7 y8 y9 H kn kx3 kx2 kx1 kx0 Q) kn kx3 kx2 kx1 kx0 Q) : L7_13 x1 x3 x6 x7 x8 x9 H kn kx3 kx2 kx1 kx0 Q := by
  intro env h1 h3 h6 h7 h8 h9
  subst h1; subst h3; subst h6; subst h7; subst h8; subst h9
  exact RLoop.round ((c7_14 env H (fun y1 y3 y6 y7 y8 y9 H => L7_13 y1 y3 y6 y7 y8 y9 H kn kx3 kx2 kx1 kx0 Q) kn kx3 kx2 kx1 kx0 Q h).mono (mkK_mono (fun e H h => h e rfl rfl rfl rfl rfl rfl) (fun _ _ _ h => h) (fun _ _ h => h) (fun _ _ h => h)))
def m7_12 (x1 x3 x6 x7 x8 : Value) (H : Heap) (kn : K5T) (kx3 : K5T) (kx2 : K4T) (kx1 : K4T) (kx0 : K0T) (Q : QT) : Prop :=
L7_13 x1 x3 x6 x7 x8 (.int .i64 0) H kn kx3 kx2 kx1 kx0 Q
theorem c7_12 (env : Env) (H : Heap) (kn : K5T) (kx3 : K5T) (kx2 : K4T) (kx1 : K4T) (kx0 : K0T) (Q : QT) (h : m7_12 (env 1) (env 3) (env 6) (env 7) (env 8) H kn kx3 kx2 kx1 kx0 Q) :
    RCode Tryd.prog 154 (codeAt [1, 1, 1, 1, 1, 1, 0, 1, 0, 0, 1, 0, 0, 1, 0, 0, 1, 0, 0] (bodyOf Tryd.f7)) env H (mkK (fun e H => kn (e 1) (e 3) (e 6) (e 7) (e 8) H) (inK 3 (fun e H => kx3 (e 1) (e 3) (e 6) (e 7) (e 8) H) (inK 2 (fun e H => kx2 (e 1) (e 3) (e 6) (e 7) H) (inK 1 (fun e H => kx1 (e 1) (e 3) (e 6) (e 7) H) (inK 0 (fun e H => kx0 H) (fun _ _ _ => False))))) (retK T Tryd.f7.results.toList Q) (fun c H => Q (.panicked c) H)) :=
  RCode.prefix_ (T := T) (X := ext) (hint := hint7) (hole := (fun e H => L7_13 (e 1) (e 3) (e 6) (e 7) (e 8) (e 9) H kn kx3 kx2 kx1 kx0 Q)) tok xok mixed 1 (by kernel_rfl) (by kernel_rfl : codeAt _ _ = (codeAt [1, 1, 1, 1, 1, 1, 0, 1, 0, 0, 1, 0, 0, 1, 0, 0, 1, 0, 0, 1] (bodyOf Tryd.f7))) h
    (fun e H h => (cL7_13 e H kn kx3 kx2 kx1 kx0 Q h))
def m7_11 (x1 x3 x6 x7 x8 : Value) (H : Heap) (kn : K5T) (kx2 : K4T) (kx1 : K4T) (kx0 : K0T) (Q : QT) : Prop :=
m7_12 x1 x3 x6 x7 x8 H kn kn kx2 kx1 kx0 Q
theorem c7_11 (env : Env) (H : Heap) (kn : K5T) (kx2 : K4T) (kx1 : K4T) (kx0 : K0T) (Q : QT) (h : m7_11 (env 1) (env 3) (env 6) (env 7) (env 8) H kn kx2 kx1 kx0 Q) :
    RCode Tryd.prog 154 (codeAt [1, 1, 1, 1, 1, 1, 0, 1, 0, 0, 1, 0, 0, 1, 0, 0, 1, 0] (bodyOf Tryd.f7)) env H (mkK (fun e H => kn (e 1) (e 3) (e 6) (e 7) (e 8) H) (inK 2 (fun e H => kx2 (e 1) (e 3) (e 6) (e 7) H) (inK 1 (fun e H => kx1 (e 1) (e 3) (e 6) (e 7) H) (inK 0 (fun e H => kx0 H) (fun _ _ _ => False)))) (retK T Tryd.f7.results.toList Q) (fun c H => Q (.panicked c) H)) :=
  RCode.blk (by kernel_rfl : (codeAt [1, 1, 1, 1, 1, 1, 0, 1, 0, 0, 1, 0, 0, 1, 0, 0, 1, 0] (bodyOf Tryd.f7)) = .block 3 (codeAt [1, 1, 1, 1, 1, 1, 0, 1, 0, 0, 1, 0, 0, 1, 0, 0, 1, 0, 0] (bodyOf Tryd.f7))) (c7_12 env H kn kn kx2 kx1 kx0 Q h)
def m7_9 (x1 x3 x6 x7 x8 : Value) (H : Heap) (kn : K5T) (kx2 : K4T) (kx1 : K4T) (kx0 : K0T) (Q : QT) : Prop :=
oV (vField 0 x6) fun t44_152 =>
oV (vField 1 t44_152) fun t45_153 =>
oV (vLoad ty3 t45_153 H) fun t46_154 =>
oV (vInt .lss x8 t46_154) fun t47_155 =>
condK t47_155 (
m7_11 x1 x3 x6 x7 x8 H (fun y1_156 y3_157 y6_158 y7_159 y8_160 H_161 => m7_10 y1_156 y3_157 y6_158 y7_159 y8_160 H_161 kn kx2 kx1 kx0 Q) kx2 kx1 kx0 Q) (
kx2 x1 x3 x6 x7 H)
theorem c7_9 (env : Env) (H : Heap) (kn : K5T) (kx2 : K4T) (kx1 : K4T) (kx0 : K0T) (Q : QT) (h : m7_9 (env 1) (env 3) (env 6) (env 7) (env 8) H kn kx2 kx1 kx0 Q) :
    RCode Tryd.prog 154 (codeAt [1, 1, 1, 1, 1, 1, 0, 1, 0, 0, 1, 0, 0, 1, 0, 0] (bodyOf Tryd.f7)) env H (mkK (fun e H => kn (e 1) (e 3) (e 6) (e 7) (e 8) H) (inK 2 (fun e H => kx2 (e 1) (e 3) (e 6) (e 7) H) (inK 1 (fun e H => kx1 (e 1) (e 3) (e 6) (e 7) H) (inK 0 (fun e H => kx0 H) (fun _ _ _ => False)))) (retK T Tryd.f7.results.toList Q) (fun c H => Q (.panicked c) H)) :=
  RCode.prefix_ (T := T) (X := ext) (hint := hint7) (hole := (fun e H => m7_11 (e 1) (e 3) (e 6) (e 7) (e 8) H (fun y1_162 y3_163 y6_164 y7_165 y8_166 H_167 => m7_10 y1_162 y3_163 y6_164 y7_165 y8_166 H_167 kn kx2 kx1 kx0 Q) kx2 kx1 kx0 Q)) tok xok mixed 1 (by kernel_rfl) (by kernel_rfl : codeAt _ _ = (codeAt [1, 1, 1, 1, 1, 1, 0, 1, 0, 0, 1, 0, 0, 1, 0, 0, 1] (bodyOf Tryd.f7))) h
    (fun e H h => RCode.join (by kernel_rfl : (codeAt [1, 1, 1, 1, 1, 1, 0, 1, 0, 0, 1, 0, 0, 1, 0, 0, 1] (bodyOf Tryd.f7)) = .seq (codeAt [1, 1, 1, 1, 1, 1, 0, 1, 0, 0, 1, 0, 0, 1, 0, 0, 1, 0] (bodyOf Tryd.f7)) (codeAt [1, 1, 1, 1, 1, 1, 0, 1, 0, 0, 1, 0, 0, 1, 0, 0, 1, 1] (bodyOf Tryd.f7))) ((c7_11 e H (fun y1_168 y3_169 y6_170 y7_171 y8_172 H_173 => m7_10 y1_168 y3_169 y6_170 y7_171 y8_172 H_173 kn kx2 kx1 kx0 Q) kx2 kx1 kx0 Q h).mono (mkK_mono (fun e H h => c7_10 e H kn kx2 kx1 kx0 Q h) (fun _ _ _ h => h) (fun _ _ h => h) (fun _ _ h => h))))
theorem L7_8_round (x1 x3 x6 x7 x8 : Value) (H : Heap) (kn : K4T) (kx1 : K4T) (kx0 : K0T) (Q : QT) (h : m7_9 x1 x3 x6 x7 x8 H (fun y1 y3 y6 y7 y8 H => L7_8 y1 y3 y6 y7 y8 H kn kx1 kx0 Q) kn kx1 kx0 Q) : L7_8 x1 x3 x6 x7 x8 H kn kx1 kx0 Q := by
  intro env h1 h3 h6 h7 h8
  subst h1; subst h3; subst h6; subst h7; subst h8
  exact RLoop.round ((c7_9 env H (fun y1 y3 y6 y7 y8 H => L7_8 y1 y3 y6 y7 y8 H kn kx1 kx0 Q) kn kx1 kx0 Q h).mono (mkK_mono (fun e H h => h e rfl rfl rfl rfl rfl) (fun _ _ _ h => h) (fun _ _ h => h) (fun _ _ h => h)))
def m7_7 (x1 x3 x6 x7 : Value) (H : Heap) (kn : K4T) (kx1 : K4T) (kx0 : K0T) (Q : QT) : Prop :=
L7_8 x1 x3 x6 x7 (.int .i64 0) H kn kx1 kx0 Q
theorem c7_7 (env : Env) (H : Heap) (kn : K4T) (kx1 : K4T) (kx0 : K0T) (Q : QT) (h : m7_7 (env 1) (env 3) (env 6) (env 7) H kn kx1 kx0 Q) :
    RCode Tryd.prog 154 (codeAt [1, 1, 1, 1, 1, 1, 0, 1, 0, 0, 1, 0, 0] (bodyOf Tryd.f7)) env H (mkK (fun e H => kn (e 1) (e 3) (e 6) (e 7) H) (inK 1 (fun e H => kx1 (e 1) (e 3) (e 6) (e 7) H) (inK 0 (fun e H => kx0 H) (fun _ _ _ => False))) (retK T Tryd.f7.results.toList Q) (fun c H => Q (.panicked c) H)) :=
  RCode.prefix_ (T := T) (X := ext) (hint := hint7) (hole := (fun e H => L7_8 (e 1) (e 3) (e 6) (e 7) (e 8) H kn kx1 kx0 Q)) tok xok mixed 1 (by kernel_rfl) (by kernel_rfl : codeAt _ _ = (codeAt [1, 1, 1, 1, 1, 1, 0, 1, 0, 0, 1, 0, 0, 1] (bodyOf Tryd.f7))) h
    (fun e H h => (cL7_8 e H kn kx1 kx0 Q h))
def m7_6 (x1 x3 x6 x7 : Value) (H : Heap) (kn : K4T) (kx0 : K0T) (Q : QT) : Prop :=
m7_7 x1 x3 x6 x7 H kn kn kx0 Q
theorem c7_6 (env : Env) (H : Heap) (kn : K4T) (kx0 : K0T) (Q : QT) (h : m7_6 (env 1) (env 3) (env 6) (env 7) H kn kx0 Q) :
    RCode Tryd.prog 154 (codeAt [1, 1, 1, 1, 1, 1, 0, 1, 0, 0, 1, 0] (bodyOf Tryd.f7)) env H (mkK (fun e H => kn (e 1) (e 3) (e 6) (e 7) H) (inK 0 (fun e H => kx0 H) (fun _ _ _ => False)) (retK T Tryd.f7.results.toList Q) (fun c H => Q (.panicked c) H)) :=
  RCode.blk (by kernel_rfl : (codeAt [1, 1, 1, 1, 1, 1, 0, 1, 0, 0, 1, 0] (bodyOf Tryd.f7)) = .block 1 (codeAt [1, 1, 1, 1, 1, 1, 0, 1, 0, 0, 1, 0, 0] (bodyOf Tryd.f7))) (c7_7 env H kn kn kx0 Q h)
def m7_4 (x1 x3 x6 x7 : Value) (H : Heap) (kn : K4T) (kx0 : K0T) (Q : QT) : Prop :=
oV (vField 0 x6) fun t37_174 =>
oV (vField 1 t37_174) fun t38_175 =>
oV (vLoad ty3 t38_175 H) fun t39_176 =>
oV (vInt .lss x7 t39_176) fun t40_177 =>
condK t40_177 (
m7_6 x1 x3 x6 x7 H (fun y1_178 y3_179 y6_180 y7_181 H_182 => m7_5 y1_178 y3_179 y6_180 y7_181 H_182 kn kx0 Q) kx0 Q) (
kx0 H)
theorem c7_4 (env : Env) (H : Heap) (kn : K4T) (kx0 : K0T) (Q : QT) (h : m7_4 (env 1) (env 3) (env 6) (env 7) H kn kx0 Q) :
    RCode Tryd.prog 154 (codeAt [1, 1, 1, 1, 1, 1, 0, 1, 0, 0] (bodyOf Tryd.f7)) env H (mkK (fun e H => kn (e 1) (e 3) (e 6) (e 7) H) (inK 0 (fun e H => kx0 H) (fun _ _ _ => False)) (retK T Tryd.f7.results.toList Q) (fun c H => Q (.panicked c) H)) :=
  RCode.prefix_ (T := T) (X := ext) (hint := hint7) (hole := (fun e H => m7_6 (e 1) (e 3) (e 6) (e 7) H (fun y1_183 y3_184 y6_185 y7_186 H_187 => m7_5 y1_183 y3_184 y6_185 y7_186 H_187 kn kx0 Q) kx0 Q)) tok xok mixed 1 (by kernel_rfl) (by kernel_rfl : codeAt _ _ = (codeAt [1, 1, 1, 1, 1, 1, 0, 1, 0, 0, 1] (bodyOf Tryd.f7))) h
    (fun e H h => RCode.join (by kernel_rfl : (codeAt [1, 1, 1, 1, 1, 1, 0, 1, 0, 0, 1] (bodyOf Tryd.f7)) = .seq (codeAt [1, 1, 1, 1, 1, 1, 0, 1, 0, 0, 1, 0] (bodyOf Tryd.f7)) (codeAt [1, 1, 1, 1, 1, 1, 0, 1, 0, 0, 1, 1] (bodyOf Tryd.f7))) ((c7_6 e H (fun y1_188 y3_189 y6_190 y7_191 H_192 => m7_5 y1_188 y3_189 y6_190 y7_191 H_192 kn kx0 Q) kx0 Q h).mono (mkK_mono (fun e H h => c7_5 e H kn kx0 Q h) (fun _ _ _ h => h) (fun _ _ h => h) (fun _ _ h => h))))
theorem L7_3_round (x1 x3 x6 x7 : Value) (H : Heap) (kn : K0T) (Q : QT) (h : m7_4 x1 x3 x6 x7 H (fun y1 y3 y6 y7 H => L7_3 y1 y3 y6 y7 H kn Q) kn Q) : L7_3 x1 x3 x6 x7 H kn Q := by
  intro env h1 h3 h6 h7
  subst h1; subst h3; subst h6; subst h7
  exact RLoop.round ((c7_4 env H (fun y1 y3 y6 y7 H => L7_3 y1 y3 y6 y7 H kn Q) kn Q h).mono (mkK_mono (fun e H h => h e rfl rfl rfl rfl) (fun _ _ _ h => h) (fun _ _ h => h) (fun _ _ h => h)))
def m7_2 (x1 x3 x6 : Value) (H : Heap) (kn : K0T) (Q : QT) : Prop :=
L7_3 x1 x3 x6 (.int .i64 0) H kn Q
theorem c7_2 (env : Env) (H : Heap) (kn : K0T) (Q : QT) (h : m7_2 (env 1) (env 3) (env 6) H kn Q) :
    RCode Tryd.prog 154 (codeAt [1, 1, 1, 1, 1, 1, 0] (bodyOf Tryd.f7)) env H (mkK (fun e H => kn H) (fun _ _ _ => False) (retK T Tryd.f7.results.toList Q) (fun c H => Q (.panicked c) H)) :=
  RCode.prefix_ (T := T) (X := ext) (hint := hint7) (hole := (fun e H => L7_3 (e 1) (e 3) (e 6) (e 7) H kn Q)) tok xok mixed 1 (by kernel_rfl) (by kernel_rfl : codeAt _ _ = (codeAt [1, 1, 1, 1, 1, 1, 0, 1] (bodyOf Tryd.f7))) h
    (fun e H h => (cL7_3 e H kn Q h))
def m7 (x0 : Value) (H : Heap) (Q : QT) : Prop :=
oNew (Value.cells x0).toList (Value.cells x0).toList.length 67 H fun i_193 H_194 =>
oRC Tryd.prog 32 [] H_194 (fun c H => Q (.panicked c) H) fun v_195 H_196 =>
oV (vUn .not v_195) fun t13_197 =>
condK t13_197 (
Q (.returned (.bool false)) H_196) (
oV (vField 0 (ptrTo i_193)) fun t14_198 =>
oV (vLoad ty29 t14_198 H_196) fun t15_199 =>
oV (vField 6 (ptrTo i_193)) fun t16_200 =>
oV (vLoad ty44 t16_200 H_196) fun t17_201 =>
oRC Tryd.prog 33 [t15_199, t17_201, (.int .i64 3)] H_196 (fun c H => Q (.panicked c) H) fun v_202 H_203 =>
oV (vUn .not v_202) fun t19_204 =>
condK t19_204 (
Q (.returned (.bool true)) H_203) (
oV (vLoad ty67 (ptrTo i_193) H_203) fun t21_205 =>
oRC Tryd.prog 34 [t21_205] H_203 (fun c H => Q (.panicked c) H) fun v_206 H_207 =>
oV (vExtract v_206 0) fun t23_208 =>
oV (vExtract v_206 1) fun t24_209 =>
oV (vExtract v_206 2) fun t25_210 =>
oNew (Value.cells ty71.zero).toList (Value.cells ty71.zero).toList.length 71 H_207 fun i_211 H_212 =>
oHeap (vStore ty71 (ptrTo i_211) t23_208 H_212) fun H_213 =>
oV (vUn .not t25_210) fun t27_214 =>
oV (gV t27_214 false (vLoad ty67 (ptrTo i_193) H_213) (some undef)) fun t29_215 =>
oV (gV t27_214 false (vLoad ty71 (ptrTo i_211) H_213) (some undef)) fun t30_216 =>
letK (fun t31_218 H_219 =>
oV (gV t27_214 false (vUn .not t31_218) (some undef)) fun t32_220 =>
oV (vPick t27_214 (.bool true) t32_220) fun t33_221 =>
condK t33_221 (
Q (.returned (.bool false)) H_219) (
oV (vField 0 (ptrTo i_193)) fun t34_222 =>
oV (vLoad ty29 t34_222 H_219) fun t35_223 =>
oNew (Value.cells ty29.zero).toList (Value.cells ty29.zero).toList.length 29 H_219 fun i_224 H_225 =>
oHeap (vStore ty29 (ptrTo i_224) t35_223 H_225) fun H_226 =>
m7_2 (ptrTo i_193) (ptrTo i_211) (ptrTo i_224) H_226 (fun H_227 => m7_1 H_227 Q) Q)) fun k_217 => gK t27_214 false (oRC Tryd.prog 35 [t29_215, t30_216] H_213 (fun c H => Q (.panicked c) H) fun v_228 H_229 =>
k_217 v_228 H_229) (k_217 undef H_213)))
theorem c7_0 (env : Env) (H : Heap) (Q : QT) (h : m7 (env 0) H Q) :
    RCode Tryd.prog 154 (bodyOf Tryd.f7) env H (mkK (retK T Tryd.f7.results.toList Q) (fun _ _ _ => False) (retK T Tryd.f7.results.toList Q) (fun c H => Q (.panicked c) H)) :=
  RCode.prefix_ (T := T) (X := ext) (hint := hint7) (hole := (fun e H => m7_2 (e 1) (e 3) (e 6) H (fun H_230 => m7_1 H_230 Q) Q)) tok xok mixed 6 (by kernel_rfl) (by kernel_rfl : codeAt _ _ = (codeAt [1, 1, 1, 1, 1, 1] (bodyOf Tryd.f7))) h
    (fun e H h => RCode.join (by kernel_rfl : (codeAt [1, 1, 1, 1, 1, 1] (bodyOf Tryd.f7)) = .seq (codeAt [1, 1, 1, 1, 1, 1, 0] (bodyOf Tryd.f7)) (codeAt [1, 1, 1, 1, 1, 1, 1] (bodyOf Tryd.f7))) ((c7_2 e H (fun H_231 => m7_1 H_231 Q) Q h).mono (mkK_mono (fun e H h => c7_1 e H Q h) (fun _ _ _ h => h) (fun _ _ h => h) (fun _ _ h => h))))
theorem call7 (a0 : Value) (H : Heap) (Q : QT) (h : m7 a0 H Q) : RCalls Tryd.prog 7 [a0] H Q :=
  RCalls.intro (nt := 154) tok Tryd.func7 (by kernel_rfl) (by kernel_rfl) (by kernel_rfl) (of_decide_eq_true (by kernel_rfl)) (c7_0 (envOf [a0]) H Q h)
end Go.Proofs.YtchhpagkdaaglaaDoor.SL
end
