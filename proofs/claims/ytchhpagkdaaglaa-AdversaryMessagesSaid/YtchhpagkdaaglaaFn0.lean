/- PRINTED by program: for each function what its code asks of what is known, and that it suffices. Not trusted: Lean checks it. -/
import Derived.Test.YtchhpagkdaaglaaTab
set_option linter.unusedVariables false
set_option linter.unusedSimpArgs false
set_option maxRecDepth 100000
namespace Go.Proofs.Ytchhpagkdaaglaa.SL
open Go
/-! ### 42: privity/privityref01.exps -/
def hint42 : Nat → List Nat := lookupL []
def m42 (H : Heap) (Q : Ending → Heap → Prop) : Prop :=
oBuildS ty3 3 7 [((0, 1), (.int .i64 5)), ((1, 1), (.int .i64 7)), ((2, 1), (.int .i64 13)), ((3, 1), (.int .i64 17)), ((4, 1), (.int .i64 19)), ((5, 1), (.int .i64 31)), ((6, 1), (.int .i64 61))] H fun s_1 H_2 =>
Q (.returned s_1) H_2
theorem c42_0 (env : Env) (H : Heap) (Q : Ending → Heap → Prop) (h : m42 H Q) :
    RCode Try.prog 2 (bodyOf Try.f42) env H (mkK (retK T Try.f42.results.toList Q) (fun _ _ _ => False) (retK T Try.f42.results.toList Q) (fun c H => Q (.panicked c) H)) :=
  RCode.leaf_ (T := T) (X := ext) (hint := hint42) tok xok mixed (by kernel_rfl) h
theorem call42 (H : Heap) (Q : Ending → Heap → Prop) (h : m42 H Q) : RCalls Try.prog 42 [] H Q :=
  RCalls.intro (nt := 2) tok Try.func42 (by kernel_rfl) (by kernel_rfl) (by kernel_rfl) (of_decide_eq_true (by kernel_rfl)) (c42_0 (envOf []) H Q h)
/-! ### 39: privity/privityref01.Exponent -/
def hint39 : Nat → List Nat := lookupL []
def m39_1 (H : Heap) (Q : Ending → Heap → Prop) : Prop :=
Q (.returned (.int .i64 0)) H
theorem c39_1 (env : Env) (H : Heap) (Q : Ending → Heap → Prop) (h : m39_1 H Q) :
    RCode Try.prog 25 (codeAt [1, 1, 1] (bodyOf Try.f39)) env H (mkK (retK T Try.f39.results.toList Q) (fun _ _ _ => False) (retK T Try.f39.results.toList Q) (fun c H => Q (.panicked c) H)) :=
  RCode.leaf_ (T := T) (X := ext) (hint := hint39) tok xok mixed (by kernel_rfl) h
def L39_3 (x0 x3 x4 : Value) (H : Heap) (kn : Heap → Prop) (Q : Ending → Heap → Prop) : Prop :=
  ∀ env : Env, env 0 = x0 → env 3 = x3 → env 4 = x4 → RLoop Try.prog 25 (codeAt [1, 1, 0, 1, 0, 0] (bodyOf Try.f39)) env H (mkK (fun _ _ => False) (inK 0 (fun e H => kn H) (fun _ _ _ => False)) (retK T Try.f39.results.toList Q) (fun c H => Q (.panicked c) H))
theorem cL39_3 (env : Env) (H : Heap) (kn : Heap → Prop) (Q : Ending → Heap → Prop) (h : L39_3 (env 0) (env 3) (env 4) H kn Q) :
    RCode Try.prog 25 (codeAt [1, 1, 0, 1] (bodyOf Try.f39)) env H (mkK (fun e H => kn H) (fun _ _ _ => False) (retK T Try.f39.results.toList Q) (fun c H => Q (.panicked c) H)) :=
  RCode.blk (by kernel_rfl : (codeAt [1, 1, 0, 1] (bodyOf Try.f39)) = .block 0 (codeAt [1, 1, 0, 1, 0] (bodyOf Try.f39))) (RCode.lp (by kernel_rfl : (codeAt [1, 1, 0, 1, 0] (bodyOf Try.f39)) = .loop (codeAt [1, 1, 0, 1, 0, 0] (bodyOf Try.f39))) ((h env rfl rfl rfl).mono (mkK_mono (fun _ _ h => h.elim) (fun _ _ _ h => h) (fun _ _ h => h) (fun _ _ h => h))))
def m39_4 (x0 x3 x4 : Value) (H : Heap) (kn : Value → Value → Value → Heap → Prop) (kx0 : Heap → Prop) (Q : Ending → Heap → Prop) : Prop :=
oV (vLen x3) fun t8_1 =>
oV (vInt .lss x4 t8_1) fun t9_2 =>
condK t9_2 (
oV (vIdxS 1 x3 x4) fun t15_3 =>
oV (vLoad ty3 t15_3 H) fun t16_4 =>
oV (vConv (.int .u64) t16_4) fun t17_5 =>
oV (vInt .shl (.int .u64 1) t17_5) fun t18_6 =>
oV (vInt .sub t18_6 (.int .u64 1)) fun t19_7 =>
oV (vInt .eql x0 t19_7) fun t20_8 =>
condK t20_8 (
oV (vIdxS 1 x3 x4) fun t23_9 =>
oV (vLoad ty3 t23_9 H) fun t24_10 =>
Q (.returned t24_10) H) (
oV (vInt .add x4 (.int .i64 1)) fun t11_11 =>
kn x0 x3 t11_11 H)) (
kx0 H)
theorem c39_4 (env : Env) (H : Heap) (kn : Value → Value → Value → Heap → Prop) (kx0 : Heap → Prop) (Q : Ending → Heap → Prop) (h : m39_4 (env 0) (env 3) (env 4) H kn kx0 Q) :
    RCode Try.prog 25 (codeAt [1, 1, 0, 1, 0, 0] (bodyOf Try.f39)) env H (mkK (fun e H => kn (e 0) (e 3) (e 4) H) (inK 0 (fun e H => kx0 H) (fun _ _ _ => False)) (retK T Try.f39.results.toList Q) (fun c H => Q (.panicked c) H)) :=
  RCode.leaf_ (T := T) (X := ext) (hint := hint39) tok xok mixed (by kernel_rfl) h
theorem L39_3_round (x0 x3 x4 : Value) (H : Heap) (kn : Heap → Prop) (Q : Ending → Heap → Prop) (h : m39_4 x0 x3 x4 H (fun y0 y3 y4 H => L39_3 y0 y3 y4 H kn Q) kn Q) : L39_3 x0 x3 x4 H kn Q := by
  intro env h0 h3 h4
  subst h0; subst h3; subst h4
  exact RLoop.round ((c39_4 env H (fun y0 y3 y4 H => L39_3 y0 y3 y4 H kn Q) kn Q h).mono (mkK_mono (fun e H h => h e rfl rfl rfl) (fun _ _ _ h => h) (fun _ _ h => h) (fun _ _ h => h)))
def m39_2 (x0 x3 : Value) (H : Heap) (kn : Heap → Prop) (Q : Ending → Heap → Prop) : Prop :=
L39_3 x0 x3 (.int .i64 0) H kn Q
theorem c39_2 (env : Env) (H : Heap) (kn : Heap → Prop) (Q : Ending → Heap → Prop) (h : m39_2 (env 0) (env 3) H kn Q) :
    RCode Try.prog 25 (codeAt [1, 1, 0] (bodyOf Try.f39)) env H (mkK (fun e H => kn H) (fun _ _ _ => False) (retK T Try.f39.results.toList Q) (fun c H => Q (.panicked c) H)) :=
  RCode.prefix_ (T := T) (X := ext) (hint := hint39) (hole := (fun e H => L39_3 (e 0) (e 3) (e 4) H kn Q)) tok xok mixed 1 (by kernel_rfl) (by kernel_rfl : codeAt _ _ = (codeAt [1, 1, 0, 1] (bodyOf Try.f39))) h
    (fun e H h => (cL39_3 e H kn Q h))
def m39 (x0 : Value) (H : Heap) (Q : Ending → Heap → Prop) : Prop :=
oRC Try.prog 42 [] H (fun c H => Q (.panicked c) H) fun v_12 H_13 =>
m39_2 x0 v_12 H_13 (fun H_14 => m39_1 H_14 Q) Q
theorem c39_0 (env : Env) (H : Heap) (Q : Ending → Heap → Prop) (h : m39 (env 0) H Q) :
    RCode Try.prog 25 (bodyOf Try.f39) env H (mkK (retK T Try.f39.results.toList Q) (fun _ _ _ => False) (retK T Try.f39.results.toList Q) (fun c H => Q (.panicked c) H)) :=
  RCode.prefix_ (T := T) (X := ext) (hint := hint39) (hole := (fun e H => m39_2 (e 0) (e 3) H (fun H_15 => m39_1 H_15 Q) Q)) tok xok mixed 2 (by kernel_rfl) (by kernel_rfl : codeAt _ _ = (codeAt [1, 1] (bodyOf Try.f39))) h
    (fun e H h => RCode.join (by kernel_rfl : (codeAt [1, 1] (bodyOf Try.f39)) = .seq (codeAt [1, 1, 0] (bodyOf Try.f39)) (codeAt [1, 1, 1] (bodyOf Try.f39))) ((c39_2 e H (fun H_16 => m39_1 H_16 Q) Q h).mono (mkK_mono (fun e H h => c39_1 e H Q h) (fun _ _ _ h => h) (fun _ _ h => h) (fun _ _ h => h))))
theorem call39 (a0 : Value) (H : Heap) (Q : Ending → Heap → Prop) (h : m39 a0 H Q) : RCalls Try.prog 39 [a0] H Q :=
  RCalls.intro (nt := 25) tok Try.func39 (by kernel_rfl) (by kernel_rfl) (by kernel_rfl) (of_decide_eq_true (by kernel_rfl)) (c39_0 (envOf [a0]) H Q h)
/-! ### 35: privity/privityref01.Supported -/
def hint35 : Nat → List Nat := lookupL []
def m35 (x0 : Value) (H : Heap) (Q : Ending → Heap → Prop) : Prop :=
oRC Try.prog 39 [x0] H (fun c H => Q (.panicked c) H) fun v_1 H_2 =>
oV (vInt .gtr v_1 (.int .i64 0)) fun t5_3 =>
Q (.returned t5_3) H_2
theorem c35_0 (env : Env) (H : Heap) (Q : Ending → Heap → Prop) (h : m35 (env 0) H Q) :
    RCode Try.prog 6 (bodyOf Try.f35) env H (mkK (retK T Try.f35.results.toList Q) (fun _ _ _ => False) (retK T Try.f35.results.toList Q) (fun c H => Q (.panicked c) H)) :=
  RCode.leaf_ (T := T) (X := ext) (hint := hint35) tok xok mixed (by kernel_rfl) h
theorem call35 (a0 : Value) (H : Heap) (Q : Ending → Heap → Prop) (h : m35 a0 H Q) : RCalls Try.prog 35 [a0] H Q :=
  RCalls.intro (nt := 6) tok Try.func35 (by kernel_rfl) (by kernel_rfl) (by kernel_rfl) (of_decide_eq_true (by kernel_rfl)) (c35_0 (envOf [a0]) H Q h)
/-! ### 22: privity/privityref12.Valid -/
def hint22 : Nat → List Nat := lookupL []
def m22 (x0 : Value) (H : Heap) (Q : Ending → Heap → Prop) : Prop :=
oNew (Value.cells x0).toList (Value.cells x0).toList.length 24 H fun i_1 H_2 =>
oV (vField 0 (ptrTo i_1)) fun t3_3 =>
oV (vLoad ty22 t3_3 H_2) fun t4_4 =>
oRC Try.prog 35 [t4_4] H_2 (fun c H => Q (.panicked c) H) fun v_5 H_6 =>
oV (gV v_5 true (vField 1 (ptrTo i_1)) (some undef)) fun t7_7 =>
oV (gV v_5 true (vLoad ty3 t7_7 H_6) (some undef)) fun t8_8 =>
oV (gV v_5 true (vInt .geq t8_8 (.int .i64 4)) (some undef)) fun t9_9 =>
oV (vPick v_5 t9_9 (.bool false)) fun t10_10 =>
oV (gV t10_10 true (vField 1 (ptrTo i_1)) (some undef)) fun t12_11 =>
oV (gV t10_10 true (vLoad ty3 t12_11 H_6) (some undef)) fun t13_12 =>
oV (gV t10_10 true (vInt .leq t13_12 (.int .i64 13)) (some undef)) fun t14_13 =>
oV (vPick t10_10 t14_13 (.bool false)) fun t15_14 =>
oV (gV t15_14 true (vField 1 (ptrTo i_1)) (some undef)) fun t17_15 =>
oV (gV t15_14 true (vLoad ty3 t17_15 H_6) (some undef)) fun t18_16 =>
oV (gV t15_14 true (vConv (.int .u64) t18_16) (some undef)) fun t19_17 =>
oV (gV t15_14 true (vField 0 (ptrTo i_1)) (some undef)) fun t20_18 =>
oV (gV t15_14 true (vLoad ty22 t20_18 H_6) (some undef)) fun t21_19 =>
oV (gV t15_14 true (vInt .lss t19_17 t21_19) (some undef)) fun t22_20 =>
oV (vPick t15_14 t22_20 (.bool false)) fun t23_21 =>
oV (gV t23_21 true (vField 2 (ptrTo i_1)) (some undef)) fun t25_22 =>
oV (gV t23_21 true (vLoad ty3 t25_22 H_6) (some undef)) fun t26_23 =>
oV (gV t23_21 true (vInt .geq t26_23 (.int .i64 1)) (some undef)) fun t27_24 =>
oV (vPick t23_21 t27_24 (.bool false)) fun t28_25 =>
oV (gV t28_25 true (vField 2 (ptrTo i_1)) (some undef)) fun t30_26 =>
oV (gV t28_25 true (vLoad ty3 t30_26 H_6) (some undef)) fun t31_27 =>
oV (gV t28_25 true (vField 1 (ptrTo i_1)) (some undef)) fun t32_28 =>
oV (gV t28_25 true (vLoad ty3 t32_28 H_6) (some undef)) fun t33_29 =>
oV (gV t28_25 true (vInt .lss t31_27 t33_29) (some undef)) fun t34_30 =>
oV (vPick t28_25 t34_30 (.bool false)) fun t35_31 =>
oV (gV t35_31 true (vField 2 (ptrTo i_1)) (some undef)) fun t37_32 =>
oV (gV t35_31 true (vLoad ty3 t37_32 H_6) (some undef)) fun t38_33 =>
oV (gV t35_31 true (vInt .mul (.int .i64 3) t38_33) (some undef)) fun t39_34 =>
oV (gV t35_31 true (vField 1 (ptrTo i_1)) (some undef)) fun t40_35 =>
oV (gV t35_31 true (vLoad ty3 t40_35 H_6) (some undef)) fun t41_36 =>
oV (gV t35_31 true (vInt .lss t39_34 t41_36) (some undef)) fun t42_37 =>
oV (vPick t35_31 t42_37 (.bool false)) fun t43_38 =>
Q (.returned t43_38) H_6
theorem c22_0 (env : Env) (H : Heap) (Q : Ending → Heap → Prop) (h : m22 (env 0) H Q) :
    RCode Try.prog 44 (bodyOf Try.f22) env H (mkK (retK T Try.f22.results.toList Q) (fun _ _ _ => False) (retK T Try.f22.results.toList Q) (fun c H => Q (.panicked c) H)) :=
  RCode.leaf_ (T := T) (X := ext) (hint := hint22) tok xok mixed (by kernel_rfl) h
theorem call22 (a0 : Value) (H : Heap) (Q : Ending → Heap → Prop) (h : m22 a0 H Q) : RCalls Try.prog 22 [a0] H Q :=
  RCalls.intro (nt := 44) tok Try.func22 (by kernel_rfl) (by kernel_rfl) (by kernel_rfl) (of_decide_eq_true (by kernel_rfl)) (c22_0 (envOf [a0]) H Q h)
/-! ### 23: privity/privityref12.ValidCoalition -/
def hint23 : Nat → List Nat := lookupL [(6, [0, 1, 2, 3, 4, 5, 6, 7, 8, 9, 10, 11, 12, 13, 14, 15, 16, 17, 18, 19, 20, 21, 22, 23, 24, 25, 26, 27, 28, 29])]
def m23_1 (H : Heap) (Q : Ending → Heap → Prop) : Prop :=
Q (.returned (.bool true)) H
theorem c23_1 (env : Env) (H : Heap) (Q : Ending → Heap → Prop) (h : m23_1 H Q) :
    RCode Try.prog 52 (codeAt [1, 1, 1] (bodyOf Try.f23)) env H (mkK (retK T Try.f23.results.toList Q) (fun _ _ _ => False) (retK T Try.f23.results.toList Q) (fun c H => Q (.panicked c) H)) :=
  RCode.leaf_ (T := T) (X := ext) (hint := hint23) tok xok mixed (by kernel_rfl) h
def L23_3 (x1 x2 x5 : Value) (H : Heap) (kn : Heap → Prop) (Q : Ending → Heap → Prop) : Prop :=
  ∀ env : Env, env 1 = x1 → env 2 = x2 → env 5 = x5 → RLoop Try.prog 52 (codeAt [1, 1, 0, 1, 0, 0] (bodyOf Try.f23)) env H (mkK (fun _ _ => False) (inK 0 (fun e H => kn H) (fun _ _ _ => False)) (retK T Try.f23.results.toList Q) (fun c H => Q (.panicked c) H))
theorem cL23_3 (env : Env) (H : Heap) (kn : Heap → Prop) (Q : Ending → Heap → Prop) (h : L23_3 (env 1) (env 2) (env 5) H kn Q) :
    RCode Try.prog 52 (codeAt [1, 1, 0, 1] (bodyOf Try.f23)) env H (mkK (fun e H => kn H) (fun _ _ _ => False) (retK T Try.f23.results.toList Q) (fun c H => Q (.panicked c) H)) :=
  RCode.blk (by kernel_rfl : (codeAt [1, 1, 0, 1] (bodyOf Try.f23)) = .block 0 (codeAt [1, 1, 0, 1, 0] (bodyOf Try.f23))) (RCode.lp (by kernel_rfl : (codeAt [1, 1, 0, 1, 0] (bodyOf Try.f23)) = .loop (codeAt [1, 1, 0, 1, 0, 0] (bodyOf Try.f23))) ((h env rfl rfl rfl).mono (mkK_mono (fun _ _ h => h.elim) (fun _ _ _ h => h) (fun _ _ h => h) (fun _ _ h => h))))
def m23_4 (x1 x2 x5 : Value) (H : Heap) (kn : Value → Value → Value → Heap → Prop) (kx0 : Heap → Prop) (Q : Ending → Heap → Prop) : Prop :=
oV (vLen x1) fun t18_1 =>
oV (vInt .lss x5 t18_1) fun t19_2 =>
condK t19_2 (
oV (vIdxS 1 x1 x5) fun t24_3 =>
oV (vLoad ty3 t24_3 H) fun t25_4 =>
oV (vInt .lss t25_4 (.int .i64 1)) fun t26_5 =>
oV (gV t26_5 false (some x1) (some undef)) fun t28_6 =>
oV (gV t26_5 false (some x5) (some undef)) fun t29_7 =>
oV (gV t26_5 false (vIdxS 1 t28_6 t29_7) (some undef)) fun t30_8 =>
oV (gV t26_5 false (vLoad ty3 t30_8 H) (some undef)) fun t31_9 =>
oV (gV t26_5 false (vField 1 x2) (some undef)) fun t32_10 =>
oV (gV t26_5 false (vLoad ty3 t32_10 H) (some undef)) fun t33_11 =>
oV (gV t26_5 false (vInt .gtr t31_9 t33_11) (some undef)) fun t34_12 =>
oV (vPick t26_5 (.bool true) t34_12) fun t35_13 =>
oV (gV t35_13 false (some x5) (some undef)) fun t37_14 =>
oV (gV t35_13 false (vInt .gtr t37_14 (.int .i64 0)) (some undef)) fun t38_15 =>
oV (gV t35_13 false (some t38_15) (some undef)) fun t39_16 =>
oV (gV t39_16 true (some x1) (some undef)) fun t40_17 =>
oV (gV t39_16 true (some x5) (some undef)) fun t41_18 =>
oV (gV t39_16 true (vIdxS 1 t40_17 t41_18) (some undef)) fun t42_19 =>
oV (gV t39_16 true (vLoad ty3 t42_19 H) (some undef)) fun t43_20 =>
oV (gV t39_16 true (some x1) (some undef)) fun t44_21 =>
oV (gV t39_16 true (some x5) (some undef)) fun t45_22 =>
oV (gV t39_16 true (vInt .sub t45_22 (.int .i64 1)) (some undef)) fun t46_23 =>
oV (gV t39_16 true (vIdxS 1 t44_21 t46_23) (some undef)) fun t47_24 =>
oV (gV t39_16 true (vLoad ty3 t47_24 H) (some undef)) fun t48_25 =>
oV (gV t39_16 true (vInt .leq t43_20 t48_25) (some undef)) fun t49_26 =>
oV (gV t35_13 false (vPick t39_16 t49_26 (.bool false)) (some undef)) fun t50_27 =>
oV (vPick t35_13 (.bool true) t50_27) fun t51_28 =>
condK t51_28 (
Q (.returned (.bool false)) H) (
oV (vInt .add x5 (.int .i64 1)) fun t21_29 =>
kn x1 x2 t21_29 H)) (
kx0 H)
theorem c23_4 (env : Env) (H : Heap) (kn : Value → Value → Value → Heap → Prop) (kx0 : Heap → Prop) (Q : Ending → Heap → Prop) (h : m23_4 (env 1) (env 2) (env 5) H kn kx0 Q) :
    RCode Try.prog 52 (codeAt [1, 1, 0, 1, 0, 0] (bodyOf Try.f23)) env H (mkK (fun e H => kn (e 1) (e 2) (e 5) H) (inK 0 (fun e H => kx0 H) (fun _ _ _ => False)) (retK T Try.f23.results.toList Q) (fun c H => Q (.panicked c) H)) :=
  RCode.leaf_ (T := T) (X := ext) (hint := hint23) tok xok mixed (by kernel_rfl) h
theorem L23_3_round (x1 x2 x5 : Value) (H : Heap) (kn : Heap → Prop) (Q : Ending → Heap → Prop) (h : m23_4 x1 x2 x5 H (fun y1 y2 y5 H => L23_3 y1 y2 y5 H kn Q) kn Q) : L23_3 x1 x2 x5 H kn Q := by
  intro env h1 h2 h5
  subst h1; subst h2; subst h5
  exact RLoop.round ((c23_4 env H (fun y1 y2 y5 H => L23_3 y1 y2 y5 H kn Q) kn Q h).mono (mkK_mono (fun e H h => h e rfl rfl rfl) (fun _ _ _ h => h) (fun _ _ h => h) (fun _ _ h => h)))
def m23_2 (x1 x2 : Value) (H : Heap) (kn : Heap → Prop) (Q : Ending → Heap → Prop) : Prop :=
L23_3 x1 x2 (.int .i64 0) H kn Q
theorem c23_2 (env : Env) (H : Heap) (kn : Heap → Prop) (Q : Ending → Heap → Prop) (h : m23_2 (env 1) (env 2) H kn Q) :
    RCode Try.prog 52 (codeAt [1, 1, 0] (bodyOf Try.f23)) env H (mkK (fun e H => kn H) (fun _ _ _ => False) (retK T Try.f23.results.toList Q) (fun c H => Q (.panicked c) H)) :=
  RCode.prefix_ (T := T) (X := ext) (hint := hint23) (hole := (fun e H => L23_3 (e 1) (e 2) (e 5) H kn Q)) tok xok mixed 1 (by kernel_rfl) (by kernel_rfl : codeAt _ _ = (codeAt [1, 1, 0, 1] (bodyOf Try.f23))) h
    (fun e H h => (cL23_3 e H kn Q h))
def m23 (x0 x1 : Value) (H : Heap) (Q : Ending → Heap → Prop) : Prop :=
oNew (Value.cells x0).toList (Value.cells x0).toList.length 24 H fun i_30 H_31 =>
oV (vLoad ty24 (ptrTo i_30) H_31) fun t6_32 =>
oRC Try.prog 22 [t6_32] H_31 (fun c H => Q (.panicked c) H) fun v_33 H_34 =>
oV (vUn .not v_33) fun t8_35 =>
oV (gV t8_35 false (some x1) (some undef)) fun t10_36 =>
oV (gV t8_35 false (vLen t10_36) (some undef)) fun t11_37 =>
oV (gV t8_35 false (vField 2 (ptrTo i_30)) (some undef)) fun t12_38 =>
oV (gV t8_35 false (vLoad ty3 t12_38 H_34) (some undef)) fun t13_39 =>
oV (gV t8_35 false (vInt .gtr t11_37 t13_39) (some undef)) fun t14_40 =>
oV (vPick t8_35 (.bool true) t14_40) fun t15_41 =>
condK t15_41 (
Q (.returned (.bool false)) H_34) (
m23_2 x1 (ptrTo i_30) H_34 (fun H_42 => m23_1 H_42 Q) Q)
theorem c23_0 (env : Env) (H : Heap) (Q : Ending → Heap → Prop) (h : m23 (env 0) (env 1) H Q) :
    RCode Try.prog 52 (bodyOf Try.f23) env H (mkK (retK T Try.f23.results.toList Q) (fun _ _ _ => False) (retK T Try.f23.results.toList Q) (fun c H => Q (.panicked c) H)) :=
  RCode.prefix_ (T := T) (X := ext) (hint := hint23) (hole := (fun e H => m23_2 (e 1) (e 2) H (fun H_43 => m23_1 H_43 Q) Q)) tok xok mixed 2 (by kernel_rfl) (by kernel_rfl : codeAt _ _ = (codeAt [1, 1] (bodyOf Try.f23))) h
    (fun e H h => RCode.join (by kernel_rfl : (codeAt [1, 1] (bodyOf Try.f23)) = .seq (codeAt [1, 1, 0] (bodyOf Try.f23)) (codeAt [1, 1, 1] (bodyOf Try.f23))) ((c23_2 e H (fun H_44 => m23_1 H_44 Q) Q h).mono (mkK_mono (fun e H h => c23_1 e H Q h) (fun _ _ _ h => h) (fun _ _ h => h) (fun _ _ h => h))))
theorem call23 (a0 a1 : Value) (H : Heap) (Q : Ending → Heap → Prop) (h : m23 a0 a1 H Q) : RCalls Try.prog 23 [a0, a1] H Q :=
  RCalls.intro (nt := 52) tok Try.func23 (by kernel_rfl) (by kernel_rfl) (by kernel_rfl) (of_decide_eq_true (by kernel_rfl)) (c23_0 (envOf [a0, a1]) H Q h)
/-! ### 24: privity/privityref12.Deviation -/
def hint24 : Nat → List Nat := lookupL []
def m24 (x0 x1 : Value) (H : Heap) (Q : Ending → Heap → Prop) : Prop :=
oNew (Value.cells x0).toList (Value.cells x0).toList.length 24 H fun i_1 H_2 =>
oNew (Value.cells x1).toList (Value.cells x1).toList.length 44 H_2 fun i_3 H_4 =>
oV (vField 0 (ptrTo i_3)) fun t5_5 =>
oV (vLoad ty3 t5_5 H_4) fun t6_6 =>
oV (vInt .geq t6_6 (.int .i64 0)) fun t7_7 =>
oV (gV t7_7 true (vField 3 (ptrTo i_3)) (some undef)) fun t9_8 =>
oV (gV t7_7 true (vLoad ty3 t9_8 H_4) (some undef)) fun t10_9 =>
oV (gV t7_7 true (vInt .geq t10_9 (.int .i64 0)) (some undef)) fun t11_10 =>
oV (vPick t7_7 t11_10 (.bool false)) fun t12_11 =>
oV (gV t12_11 true (vField 7 (ptrTo i_3)) (some undef)) fun t14_12 =>
oV (gV t12_11 true (vLoad ty3 t14_12 H_4) (some undef)) fun t15_13 =>
oV (gV t12_11 true (vInt .geq t15_13 (.int .i64 0)) (some undef)) fun t16_14 =>
oV (vPick t12_11 t16_14 (.bool false)) fun t17_15 =>
oV (gV t17_15 true (vField 1 (ptrTo i_3)) (some undef)) fun t19_16 =>
oV (gV t17_15 true (vLoad ty3 t19_16 H_4) (some undef)) fun t20_17 =>
oV (gV t17_15 true (vInt .geq t20_17 (.int .i64 1)) (some undef)) fun t21_18 =>
oV (vPick t17_15 t21_18 (.bool false)) fun t22_19 =>
oV (gV t22_19 true (vField 1 (ptrTo i_3)) (some undef)) fun t24_20 =>
oV (gV t22_19 true (vLoad ty3 t24_20 H_4) (some undef)) fun t25_21 =>
oV (gV t22_19 true (vField 1 (ptrTo i_1)) (some undef)) fun t26_22 =>
oV (gV t22_19 true (vLoad ty3 t26_22 H_4) (some undef)) fun t27_23 =>
oV (gV t22_19 true (vInt .leq t25_21 t27_23) (some undef)) fun t28_24 =>
oV (vPick t22_19 t28_24 (.bool false)) fun t29_25 =>
oV (gV t29_25 true (vField 2 (ptrTo i_3)) (some undef)) fun t31_26 =>
oV (gV t29_25 true (vLoad ty3 t31_26 H_4) (some undef)) fun t32_27 =>
oV (gV t29_25 true (vInt .geq t32_27 (.int .i64 0)) (some undef)) fun t33_28 =>
oV (vPick t29_25 t33_28 (.bool false)) fun t34_29 =>
oV (gV t34_29 true (vField 2 (ptrTo i_3)) (some undef)) fun t36_30 =>
oV (gV t34_29 true (vLoad ty3 t36_30 H_4) (some undef)) fun t37_31 =>
oV (gV t34_29 true (vField 1 (ptrTo i_1)) (some undef)) fun t38_32 =>
oV (gV t34_29 true (vLoad ty3 t38_32 H_4) (some undef)) fun t39_33 =>
oV (gV t34_29 true (vInt .leq t37_31 t39_33) (some undef)) fun t40_34 =>
oV (vPick t34_29 t40_34 (.bool false)) fun t41_35 =>
oV (gV t41_35 true (vField 4 (ptrTo i_3)) (some undef)) fun t43_36 =>
oV (gV t41_35 true (vLoad ty3 t43_36 H_4) (some undef)) fun t44_37 =>
oV (gV t41_35 true (vInt .geq t44_37 (.int .i64 1)) (some undef)) fun t45_38 =>
oV (vPick t41_35 t45_38 (.bool false)) fun t46_39 =>
oV (gV t46_39 true (vField 4 (ptrTo i_3)) (some undef)) fun t48_40 =>
oV (gV t46_39 true (vLoad ty3 t48_40 H_4) (some undef)) fun t49_41 =>
oV (gV t46_39 true (vInt .leq t49_41 (.int .i64 4)) (some undef)) fun t50_42 =>
oV (vPick t46_39 t50_42 (.bool false)) fun t51_43 =>
oV (gV t51_43 true (vField 6 (ptrTo i_3)) (some undef)) fun t53_44 =>
oV (gV t51_43 true (vLoad ty3 t53_44 H_4) (some undef)) fun t54_45 =>
oV (gV t51_43 true (vInt .geq t54_45 (.int .i64 0)) (some undef)) fun t55_46 =>
oV (vPick t51_43 t55_46 (.bool false)) fun t56_47 =>
oV (gV t56_47 true (vField 6 (ptrTo i_3)) (some undef)) fun t58_48 =>
oV (gV t56_47 true (vLoad ty3 t58_48 H_4) (some undef)) fun t59_49 =>
oV (gV t56_47 true (vField 1 (ptrTo i_1)) (some undef)) fun t60_50 =>
oV (gV t56_47 true (vLoad ty3 t60_50 H_4) (some undef)) fun t61_51 =>
oV (gV t56_47 true (vInt .leq t59_49 t61_51) (some undef)) fun t62_52 =>
oV (vPick t56_47 t62_52 (.bool false)) fun t63_53 =>
oV (gV t63_53 true (vField 4 (ptrTo i_3)) (some undef)) fun t65_54 =>
oV (gV t63_53 true (vLoad ty3 t65_54 H_4) (some undef)) fun t66_55 =>
oV (gV t63_53 true (vInt .neq t66_55 (.int .i64 3)) (some undef)) fun t67_56 =>
oV (gV t63_53 true (some t67_56) (some undef)) fun t68_57 =>
oV (gV t68_57 false (vField 6 (ptrTo i_3)) (some undef)) fun t69_58 =>
oV (gV t68_57 false (vLoad ty3 t69_58 H_4) (some undef)) fun t70_59 =>
oV (gV t68_57 false (vInt .geq t70_59 (.int .i64 1)) (some undef)) fun t71_60 =>
oV (gV t63_53 true (vPick t68_57 (.bool true) t71_60) (some undef)) fun t72_61 =>
oV (vPick t63_53 t72_61 (.bool false)) fun t73_62 =>
Q (.returned t73_62) H_4
theorem c24_0 (env : Env) (H : Heap) (Q : Ending → Heap → Prop) (h : m24 (env 0) (env 1) H Q) :
    RCode Try.prog 74 (bodyOf Try.f24) env H (mkK (retK T Try.f24.results.toList Q) (fun _ _ _ => False) (retK T Try.f24.results.toList Q) (fun c H => Q (.panicked c) H)) :=
  RCode.leaf_ (T := T) (X := ext) (hint := hint24) tok xok mixed (by kernel_rfl) h
theorem call24 (a0 a1 : Value) (H : Heap) (Q : Ending → Heap → Prop) (h : m24 a0 a1 H Q) : RCalls Try.prog 24 [a0, a1] H Q :=
  RCalls.intro (nt := 74) tok Try.func24 (by kernel_rfl) (by kernel_rfl) (by kernel_rfl) (of_decide_eq_true (by kernel_rfl)) (c24_0 (envOf [a0, a1]) H Q h)
/-! ### 25: privity/privityref05.Below -/
def hint25 : Nat → List Nat := lookupL []
def m25_1 (H : Heap) (Q : Ending → Heap → Prop) : Prop :=
Q (.returned (.bool true)) H
theorem c25_1 (env : Env) (H : Heap) (Q : Ending → Heap → Prop) (h : m25_1 H Q) :
    RCode Try.prog 18 (codeAt [1, 1] (bodyOf Try.f25)) env H (mkK (retK T Try.f25.results.toList Q) (fun _ _ _ => False) (retK T Try.f25.results.toList Q) (fun c H => Q (.panicked c) H)) :=
  RCode.leaf_ (T := T) (X := ext) (hint := hint25) tok xok mixed (by kernel_rfl) h
def L25_3 (x0 x1 x5 : Value) (H : Heap) (kn : Heap → Prop) (Q : Ending → Heap → Prop) : Prop :=
  ∀ env : Env, env 0 = x0 → env 1 = x1 → env 5 = x5 → RLoop Try.prog 18 (codeAt [1, 0, 1, 0, 0] (bodyOf Try.f25)) env H (mkK (fun _ _ => False) (inK 0 (fun e H => kn H) (fun _ _ _ => False)) (retK T Try.f25.results.toList Q) (fun c H => Q (.panicked c) H))
theorem cL25_3 (env : Env) (H : Heap) (kn : Heap → Prop) (Q : Ending → Heap → Prop) (h : L25_3 (env 0) (env 1) (env 5) H kn Q) :
    RCode Try.prog 18 (codeAt [1, 0, 1] (bodyOf Try.f25)) env H (mkK (fun e H => kn H) (fun _ _ _ => False) (retK T Try.f25.results.toList Q) (fun c H => Q (.panicked c) H)) :=
  RCode.blk (by kernel_rfl : (codeAt [1, 0, 1] (bodyOf Try.f25)) = .block 0 (codeAt [1, 0, 1, 0] (bodyOf Try.f25))) (RCode.lp (by kernel_rfl : (codeAt [1, 0, 1, 0] (bodyOf Try.f25)) = .loop (codeAt [1, 0, 1, 0, 0] (bodyOf Try.f25))) ((h env rfl rfl rfl).mono (mkK_mono (fun _ _ h => h.elim) (fun _ _ _ h => h) (fun _ _ h => h) (fun _ _ h => h))))
def m25_4 (x0 x1 x5 : Value) (H : Heap) (kn : Value → Value → Value → Heap → Prop) (kx0 : Heap → Prop) (Q : Ending → Heap → Prop) : Prop :=
oV (vLen x1) fun t8_1 =>
oV (vInt .lss x5 t8_1) fun t9_2 =>
condK t9_2 (
oV (vIdxS 1 x1 x5) fun t14_3 =>
oV (vLoad ty22 t14_3 H) fun t15_4 =>
oV (vInt .geq t15_4 x0) fun t17_5 =>
condK t17_5 (
Q (.returned (.bool false)) H) (
oV (vInt .add x5 (.int .i64 1)) fun t11_6 =>
kn x0 x1 t11_6 H)) (
kx0 H)
theorem c25_4 (env : Env) (H : Heap) (kn : Value → Value → Value → Heap → Prop) (kx0 : Heap → Prop) (Q : Ending → Heap → Prop) (h : m25_4 (env 0) (env 1) (env 5) H kn kx0 Q) :
    RCode Try.prog 18 (codeAt [1, 0, 1, 0, 0] (bodyOf Try.f25)) env H (mkK (fun e H => kn (e 0) (e 1) (e 5) H) (inK 0 (fun e H => kx0 H) (fun _ _ _ => False)) (retK T Try.f25.results.toList Q) (fun c H => Q (.panicked c) H)) :=
  RCode.leaf_ (T := T) (X := ext) (hint := hint25) tok xok mixed (by kernel_rfl) h
theorem L25_3_round (x0 x1 x5 : Value) (H : Heap) (kn : Heap → Prop) (Q : Ending → Heap → Prop) (h : m25_4 x0 x1 x5 H (fun y0 y1 y5 H => L25_3 y0 y1 y5 H kn Q) kn Q) : L25_3 x0 x1 x5 H kn Q := by
  intro env h0 h1 h5
  subst h0; subst h1; subst h5
  exact RLoop.round ((c25_4 env H (fun y0 y1 y5 H => L25_3 y0 y1 y5 H kn Q) kn Q h).mono (mkK_mono (fun e H h => h e rfl rfl rfl) (fun _ _ _ h => h) (fun _ _ h => h) (fun _ _ h => h)))
def m25_2 (x0 x1 : Value) (H : Heap) (kn : Heap → Prop) (Q : Ending → Heap → Prop) : Prop :=
L25_3 x0 x1 (.int .i64 0) H kn Q
theorem c25_2 (env : Env) (H : Heap) (kn : Heap → Prop) (Q : Ending → Heap → Prop) (h : m25_2 (env 0) (env 1) H kn Q) :
    RCode Try.prog 18 (codeAt [1, 0] (bodyOf Try.f25)) env H (mkK (fun e H => kn H) (fun _ _ _ => False) (retK T Try.f25.results.toList Q) (fun c H => Q (.panicked c) H)) :=
  RCode.prefix_ (T := T) (X := ext) (hint := hint25) (hole := (fun e H => L25_3 (e 0) (e 1) (e 5) H kn Q)) tok xok mixed 1 (by kernel_rfl) (by kernel_rfl : codeAt _ _ = (codeAt [1, 0, 1] (bodyOf Try.f25))) h
    (fun e H h => (cL25_3 e H kn Q h))
def m25 (x0 x1 : Value) (H : Heap) (Q : Ending → Heap → Prop) : Prop :=
m25_2 x0 x1 H (fun H_7 => m25_1 H_7 Q) Q
theorem c25_0 (env : Env) (H : Heap) (Q : Ending → Heap → Prop) (h : m25 (env 0) (env 1) H Q) :
    RCode Try.prog 18 (bodyOf Try.f25) env H (mkK (retK T Try.f25.results.toList Q) (fun _ _ _ => False) (retK T Try.f25.results.toList Q) (fun c H => Q (.panicked c) H)) :=
  RCode.prefix_ (T := T) (X := ext) (hint := hint25) (hole := (fun e H => m25_2 (e 0) (e 1) H (fun H_8 => m25_1 H_8 Q) Q)) tok xok mixed 1 (by kernel_rfl) (by kernel_rfl : codeAt _ _ = (codeAt [1] (bodyOf Try.f25))) h
    (fun e H h => RCode.join (by kernel_rfl : (codeAt [1] (bodyOf Try.f25)) = .seq (codeAt [1, 0] (bodyOf Try.f25)) (codeAt [1, 1] (bodyOf Try.f25))) ((c25_2 e H (fun H_9 => m25_1 H_9 Q) Q h).mono (mkK_mono (fun e H h => c25_1 e H Q h) (fun _ _ _ h => h) (fun _ _ h => h) (fun _ _ h => h))))
theorem call25 (a0 a1 : Value) (H : Heap) (Q : Ending → Heap → Prop) (h : m25 a0 a1 H Q) : RCalls Try.prog 25 [a0, a1] H Q :=
  RCalls.intro (nt := 18) tok Try.func25 (by kernel_rfl) (by kernel_rfl) (by kernel_rfl) (of_decide_eq_true (by kernel_rfl)) (c25_0 (envOf [a0, a1]) H Q h)
/-! ### 13: privity/privityref12.ValidScenario -/
def hint13 : Nat → List Nat := lookupL [(6, [0, 1, 2, 3, 4, 5, 6, 7, 8]), (11, [0, 1, 2, 3, 4, 5, 6, 7, 8, 9])]
def m13_2 (H : Heap) (Q : Ending → Heap → Prop) : Prop :=
Q (.returned (.bool true)) H
theorem c13_2 (env : Env) (H : Heap) (Q : Ending → Heap → Prop) (h : m13_2 H Q) :
    RCode Try.prog 59 (codeAt [1, 1, 1, 1] (bodyOf Try.f13)) env H (mkK (retK T Try.f13.results.toList Q) (fun _ _ _ => False) (retK T Try.f13.results.toList Q) (fun c H => Q (.panicked c) H)) :=
  RCode.leaf_ (T := T) (X := ext) (hint := hint13) tok xok mixed (by kernel_rfl) h
def L13_4 (x1 x4 : Value) (H : Heap) (kn : Heap → Prop) (Q : Ending → Heap → Prop) : Prop :=
  ∀ env : Env, env 1 = x1 → env 4 = x4 → RLoop Try.prog 59 (codeAt [1, 1, 1, 0, 1, 0, 0] (bodyOf Try.f13)) env H (mkK (fun _ _ => False) (inK 2 (fun e H => kn H) (fun _ _ _ => False)) (retK T Try.f13.results.toList Q) (fun c H => Q (.panicked c) H))
theorem cL13_4 (env : Env) (H : Heap) (kn : Heap → Prop) (Q : Ending → Heap → Prop) (h : L13_4 (env 1) (env 4) H kn Q) :
    RCode Try.prog 59 (codeAt [1, 1, 1, 0, 1] (bodyOf Try.f13)) env H (mkK (fun e H => kn H) (fun _ _ _ => False) (retK T Try.f13.results.toList Q) (fun c H => Q (.panicked c) H)) :=
  RCode.blk (by kernel_rfl : (codeAt [1, 1, 1, 0, 1] (bodyOf Try.f13)) = .block 2 (codeAt [1, 1, 1, 0, 1, 0] (bodyOf Try.f13))) (RCode.lp (by kernel_rfl : (codeAt [1, 1, 1, 0, 1, 0] (bodyOf Try.f13)) = .loop (codeAt [1, 1, 1, 0, 1, 0, 0] (bodyOf Try.f13))) ((h env rfl rfl).mono (mkK_mono (fun _ _ h => h.elim) (fun _ _ _ h => h) (fun _ _ h => h) (fun _ _ h => h))))
def m13_5 (x1 x4 : Value) (H : Heap) (kn : Value → Value → Heap → Prop) (kx2 : Heap → Prop) (Q : Ending → Heap → Prop) : Prop :=
oV (vField 5 x1) fun t43_1 =>
oV (vLoad ty27 t43_1 H) fun t44_2 =>
oV (vLen t44_2) fun t45_3 =>
oV (vInt .lss x4 t45_3) fun t46_4 =>
condK t46_4 (
oV (vField 0 x1) fun t49_5 =>
oV (vField 0 t49_5) fun t50_6 =>
oV (vLoad ty22 t50_6 H) fun t51_7 =>
oV (vField 5 x1) fun t52_8 =>
oV (vLoad ty27 t52_8 H) fun t53_9 =>
oV (vIdxS 1 t53_9 x4) fun t55_10 =>
oV (vLoad ty41 t55_10 H) fun t56_11 =>
oRC Try.prog 25 [t51_7, t56_11] H noP fun v_12 H_13 =>
oV (vUn .not v_12) fun t58_14 =>
condK t58_14 (
Q (.returned (.bool false)) H_13) (
oV (vInt .add x4 (.int .i64 1)) fun t48_15 =>
kn x1 t48_15 H_13)) (
kx2 H)
theorem c13_5 (env : Env) (H : Heap) (kn : Value → Value → Heap → Prop) (kx2 : Heap → Prop) (Q : Ending → Heap → Prop) (h : m13_5 (env 1) (env 4) H kn kx2 Q) :
    RCode Try.prog 59 (codeAt [1, 1, 1, 0, 1, 0, 0] (bodyOf Try.f13)) env H (mkK (fun e H => kn (e 1) (e 4) H) (inK 2 (fun e H => kx2 H) (fun _ _ _ => False)) (retK T Try.f13.results.toList Q) (fun c H => Q (.panicked c) H)) :=
  RCode.leaf_ (T := T) (X := ext) (hint := hint13) tok xok mixed (by kernel_rfl) h
theorem L13_4_round (x1 x4 : Value) (H : Heap) (kn : Heap → Prop) (Q : Ending → Heap → Prop) (h : m13_5 x1 x4 H (fun y1 y4 H => L13_4 y1 y4 H kn Q) kn Q) : L13_4 x1 x4 H kn Q := by
  intro env h1 h4
  subst h1; subst h4
  exact RLoop.round ((c13_5 env H (fun y1 y4 H => L13_4 y1 y4 H kn Q) kn Q h).mono (mkK_mono (fun e H h => h e rfl rfl) (fun _ _ _ h => h) (fun _ _ h => h) (fun _ _ h => h)))
def m13_3 (x1 : Value) (H : Heap) (kn : Heap → Prop) (Q : Ending → Heap → Prop) : Prop :=
L13_4 x1 (.int .i64 0) H kn Q
theorem c13_3 (env : Env) (H : Heap) (kn : Heap → Prop) (Q : Ending → Heap → Prop) (h : m13_3 (env 1) H kn Q) :
    RCode Try.prog 59 (codeAt [1, 1, 1, 0] (bodyOf Try.f13)) env H (mkK (fun e H => kn H) (fun _ _ _ => False) (retK T Try.f13.results.toList Q) (fun c H => Q (.panicked c) H)) :=
  RCode.prefix_ (T := T) (X := ext) (hint := hint13) (hole := (fun e H => L13_4 (e 1) (e 4) H kn Q)) tok xok mixed 1 (by kernel_rfl) (by kernel_rfl : codeAt _ _ = (codeAt [1, 1, 1, 0, 1] (bodyOf Try.f13))) h
    (fun e H h => (cL13_4 e H kn Q h))
def m13_1 (x1 : Value) (H : Heap) (Q : Ending → Heap → Prop) : Prop :=
m13_3 x1 H (fun H_16 => m13_2 H_16 Q) Q
theorem c13_1 (env : Env) (H : Heap) (Q : Ending → Heap → Prop) (h : m13_1 (env 1) H Q) :
    RCode Try.prog 59 (codeAt [1, 1, 1] (bodyOf Try.f13)) env H (mkK (retK T Try.f13.results.toList Q) (fun _ _ _ => False) (retK T Try.f13.results.toList Q) (fun c H => Q (.panicked c) H)) :=
  RCode.join (by kernel_rfl : (codeAt [1, 1, 1] (bodyOf Try.f13)) = .seq (codeAt [1, 1, 1, 0] (bodyOf Try.f13)) (codeAt [1, 1, 1, 1] (bodyOf Try.f13))) ((c13_3 env H (fun H_17 => m13_2 H_17 Q) Q h).mono (mkK_mono (fun e H h => c13_2 e H Q h) (fun _ _ _ h => h) (fun _ _ h => h) (fun _ _ h => h)))
def L13_7 (x1 x3 : Value) (H : Heap) (kn : Value → Heap → Prop) (Q : Ending → Heap → Prop) : Prop :=
  ∀ env : Env, env 1 = x1 → env 3 = x3 → RLoop Try.prog 59 (codeAt [1, 1, 0, 1, 0, 0] (bodyOf Try.f13)) env H (mkK (fun _ _ => False) (inK 0 (fun e H => kn (e 1) H) (fun _ _ _ => False)) (retK T Try.f13.results.toList Q) (fun c H => Q (.panicked c) H))
theorem cL13_7 (env : Env) (H : Heap) (kn : Value → Heap → Prop) (Q : Ending → Heap → Prop) (h : L13_7 (env 1) (env 3) H kn Q) :
    RCode Try.prog 59 (codeAt [1, 1, 0, 1] (bodyOf Try.f13)) env H (mkK (fun e H => kn (e 1) H) (fun _ _ _ => False) (retK T Try.f13.results.toList Q) (fun c H => Q (.panicked c) H)) :=
  RCode.blk (by kernel_rfl : (codeAt [1, 1, 0, 1] (bodyOf Try.f13)) = .block 0 (codeAt [1, 1, 0, 1, 0] (bodyOf Try.f13))) (RCode.lp (by kernel_rfl : (codeAt [1, 1, 0, 1, 0] (bodyOf Try.f13)) = .loop (codeAt [1, 1, 0, 1, 0, 0] (bodyOf Try.f13))) ((h env rfl rfl).mono (mkK_mono (fun _ _ h => h.elim) (fun _ _ _ h => h) (fun _ _ h => h) (fun _ _ h => h))))
def m13_8 (x1 x3 : Value) (H : Heap) (kn : Value → Value → Heap → Prop) (kx0 : Value → Heap → Prop) (Q : Ending → Heap → Prop) : Prop :=
oV (vField 4 x1) fun t27_18 =>
oV (vLoad ty26 t27_18 H) fun t28_19 =>
oV (vLen t28_19) fun t29_20 =>
oV (vInt .lss x3 t29_20) fun t30_21 =>
condK t30_21 (
oV (vField 0 x1) fun t33_22 =>
oV (vLoad ty24 t33_22 H) fun t34_23 =>
oV (vField 4 x1) fun t35_24 =>
oV (vLoad ty26 t35_24 H) fun t36_25 =>
oV (vIdxS 8 t36_25 x3) fun t38_26 =>
oV (vLoad ty44 t38_26 H) fun t39_27 =>
oRC Try.prog 24 [t34_23, t39_27] H noP fun v_28 H_29 =>
oV (vUn .not v_28) fun t41_30 =>
condK t41_30 (
Q (.returned (.bool false)) H_29) (
oV (vInt .add x3 (.int .i64 1)) fun t32_31 =>
kn x1 t32_31 H_29)) (
kx0 x1 H)
theorem c13_8 (env : Env) (H : Heap) (kn : Value → Value → Heap → Prop) (kx0 : Value → Heap → Prop) (Q : Ending → Heap → Prop) (h : m13_8 (env 1) (env 3) H kn kx0 Q) :
    RCode Try.prog 59 (codeAt [1, 1, 0, 1, 0, 0] (bodyOf Try.f13)) env H (mkK (fun e H => kn (e 1) (e 3) H) (inK 0 (fun e H => kx0 (e 1) H) (fun _ _ _ => False)) (retK T Try.f13.results.toList Q) (fun c H => Q (.panicked c) H)) :=
  RCode.leaf_ (T := T) (X := ext) (hint := hint13) tok xok mixed (by kernel_rfl) h
theorem L13_7_round (x1 x3 : Value) (H : Heap) (kn : Value → Heap → Prop) (Q : Ending → Heap → Prop) (h : m13_8 x1 x3 H (fun y1 y3 H => L13_7 y1 y3 H kn Q) kn Q) : L13_7 x1 x3 H kn Q := by
  intro env h1 h3
  subst h1; subst h3
  exact RLoop.round ((c13_8 env H (fun y1 y3 H => L13_7 y1 y3 H kn Q) kn Q h).mono (mkK_mono (fun e H h => h e rfl rfl) (fun _ _ _ h => h) (fun _ _ h => h) (fun _ _ h => h)))
def m13_6 (x1 : Value) (H : Heap) (kn : Value → Heap → Prop) (Q : Ending → Heap → Prop) : Prop :=
L13_7 x1 (.int .i64 0) H kn Q
theorem c13_6 (env : Env) (H : Heap) (kn : Value → Heap → Prop) (Q : Ending → Heap → Prop) (h : m13_6 (env 1) H kn Q) :
    RCode Try.prog 59 (codeAt [1, 1, 0] (bodyOf Try.f13)) env H (mkK (fun e H => kn (e 1) H) (fun _ _ _ => False) (retK T Try.f13.results.toList Q) (fun c H => Q (.panicked c) H)) :=
  RCode.prefix_ (T := T) (X := ext) (hint := hint13) (hole := (fun e H => L13_7 (e 1) (e 3) H kn Q)) tok xok mixed 1 (by kernel_rfl) (by kernel_rfl : codeAt _ _ = (codeAt [1, 1, 0, 1] (bodyOf Try.f13))) h
    (fun e H h => (cL13_7 e H kn Q h))
def m13 (x0 : Value) (H : Heap) (Q : Ending → Heap → Prop) : Prop :=
oNew (Value.cells x0).toList (Value.cells x0).toList.length 29 H fun i_32 H_33 =>
oV (vField 0 (ptrTo i_32)) fun t5_34 =>
oV (vLoad ty24 t5_34 H_33) fun t6_35 =>
oRC Try.prog 22 [t6_35] H_33 (fun c H => Q (.panicked c) H) fun v_36 H_37 =>
oV (vUn .not v_36) fun t8_38 =>
oV (gV t8_38 false (vField 0 (ptrTo i_32)) (some undef)) fun t10_39 =>
oV (gV t8_38 false (vLoad ty24 t10_39 H_37) (some undef)) fun t11_40 =>
oV (gV t8_38 false (vField 3 (ptrTo i_32)) (some undef)) fun t12_41 =>
oV (gV t8_38 false (vLoad ty25 t12_41 H_37) (some undef)) fun t13_42 =>
letK (fun t14_44 H_45 =>
oV (gV t8_38 false (vUn .not t14_44) (some undef)) fun t15_46 =>
oV (vPick t8_38 (.bool true) t15_46) fun t16_47 =>
oV (gV t16_47 false (vField 5 (ptrTo i_32)) (some undef)) fun t18_48 =>
oV (gV t16_47 false (vLoad ty27 t18_48 H_45) (some undef)) fun t19_49 =>
oV (gV t16_47 false (vLen t19_49) (some undef)) fun t20_50 =>
oV (gV t16_47 false (vField 0 (ptrTo i_32)) (some undef)) fun t21_51 =>
oV (gV t16_47 false (vField 1 t21_51) (some undef)) fun t22_52 =>
oV (gV t16_47 false (vLoad ty3 t22_52 H_45) (some undef)) fun t23_53 =>
oV (gV t16_47 false (vInt .neq t20_50 t23_53) (some undef)) fun t24_54 =>
oV (vPick t16_47 (.bool true) t24_54) fun t25_55 =>
condK t25_55 (
Q (.returned (.bool false)) H_45) (
m13_6 (ptrTo i_32) H_45 (fun y1_56 H_57 => m13_1 y1_56 H_57 Q) Q)) fun k_43 => gK t8_38 false (oRC Try.prog 23 [t11_40, t13_42] H_37 (fun c H => Q (.panicked c) H) fun v_58 H_59 =>
k_43 v_58 H_59) (k_43 undef H_37)
theorem c13_0 (env : Env) (H : Heap) (Q : Ending → Heap → Prop) (h : m13 (env 0) H Q) :
    RCode Try.prog 59 (bodyOf Try.f13) env H (mkK (retK T Try.f13.results.toList Q) (fun _ _ _ => False) (retK T Try.f13.results.toList Q) (fun c H => Q (.panicked c) H)) :=
  RCode.prefix_ (T := T) (X := ext) (hint := hint13) (hole := (fun e H => m13_6 (e 1) H (fun y1_60 H_61 => m13_1 y1_60 H_61 Q) Q)) tok xok mixed 2 (by kernel_rfl) (by kernel_rfl : codeAt _ _ = (codeAt [1, 1] (bodyOf Try.f13))) h
    (fun e H h => RCode.join (by kernel_rfl : (codeAt [1, 1] (bodyOf Try.f13)) = .seq (codeAt [1, 1, 0] (bodyOf Try.f13)) (codeAt [1, 1, 1] (bodyOf Try.f13))) ((c13_6 e H (fun y1_62 H_63 => m13_1 y1_62 H_63 Q) Q h).mono (mkK_mono (fun e H h => c13_1 e H Q h) (fun _ _ _ h => h) (fun _ _ h => h) (fun _ _ h => h))))
theorem call13 (a0 : Value) (H : Heap) (Q : Ending → Heap → Prop) (h : m13 a0 H Q) : RCalls Try.prog 13 [a0] H Q :=
  RCalls.intro (nt := 59) tok Try.func13 (by kernel_rfl) (by kernel_rfl) (by kernel_rfl) (of_decide_eq_true (by kernel_rfl)) (c13_0 (envOf [a0]) H Q h)
/-! ### 14: privity/privitylaw13.words -/
def hint14 : Nat → List Nat := lookupL [(11, [0, 1, 2, 3, 4, 5, 6, 7, 8, 9])]
def m14_1 (H : Heap) (Q : Ending → Heap → Prop) : Prop :=
Q (.returned (.bool true)) H
theorem c14_1 (env : Env) (H : Heap) (Q : Ending → Heap → Prop) (h : m14_1 H Q) :
    RCode Try.prog 43 (codeAt [1, 1, 1] (bodyOf Try.f14)) env H (mkK (retK T Try.f14.results.toList Q) (fun _ _ _ => False) (retK T Try.f14.results.toList Q) (fun c H => Q (.panicked c) H)) :=
  RCode.leaf_ (T := T) (X := ext) (hint := hint14) tok xok mixed (by kernel_rfl) h
def L14_3 (x0 x3 x5 : Value) (H : Heap) (kn : Heap → Prop) (Q : Ending → Heap → Prop) : Prop :=
  ∀ env : Env, env 0 = x0 → env 3 = x3 → env 5 = x5 → RLoop Try.prog 43 (codeAt [1, 1, 0, 1, 0, 0] (bodyOf Try.f14)) env H (mkK (fun _ _ => False) (inK 0 (fun e H => kn H) (fun _ _ _ => False)) (retK T Try.f14.results.toList Q) (fun c H => Q (.panicked c) H))
theorem cL14_3 (env : Env) (H : Heap) (kn : Heap → Prop) (Q : Ending → Heap → Prop) (h : L14_3 (env 0) (env 3) (env 5) H kn Q) :
    RCode Try.prog 43 (codeAt [1, 1, 0, 1] (bodyOf Try.f14)) env H (mkK (fun e H => kn H) (fun _ _ _ => False) (retK T Try.f14.results.toList Q) (fun c H => Q (.panicked c) H)) :=
  RCode.blk (by kernel_rfl : (codeAt [1, 1, 0, 1] (bodyOf Try.f14)) = .block 0 (codeAt [1, 1, 0, 1, 0] (bodyOf Try.f14))) (RCode.lp (by kernel_rfl : (codeAt [1, 1, 0, 1, 0] (bodyOf Try.f14)) = .loop (codeAt [1, 1, 0, 1, 0, 0] (bodyOf Try.f14))) ((h env rfl rfl rfl).mono (mkK_mono (fun _ _ h => h.elim) (fun _ _ _ h => h) (fun _ _ h => h) (fun _ _ h => h))))
def m14_5 (x0 x3 x5 : Value) (H : Heap) (kn : Value → Value → Value → Heap → Prop) (kx0 : Heap → Prop) (Q : Ending → Heap → Prop) : Prop :=
oV (vInt .add x5 (.int .i64 1)) fun t17_1 =>
kn x0 x3 t17_1 H
theorem c14_5 (env : Env) (H : Heap) (kn : Value → Value → Value → Heap → Prop) (kx0 : Heap → Prop) (Q : Ending → Heap → Prop) (h : m14_5 (env 0) (env 3) (env 5) H kn kx0 Q) :
    RCode Try.prog 43 (codeAt [1, 1, 0, 1, 0, 0, 1, 1] (bodyOf Try.f14)) env H (mkK (fun e H => kn (e 0) (e 3) (e 5) H) (inK 0 (fun e H => kx0 H) (fun _ _ _ => False)) (retK T Try.f14.results.toList Q) (fun c H => Q (.panicked c) H)) :=
  RCode.leaf_ (T := T) (X := ext) (hint := hint14) tok xok mixed (by kernel_rfl) h
def L14_8 (x0 x3 x5 x6 : Value) (H : Heap) (kn : Value → Value → Value → Heap → Prop) (kx1 : Value → Value → Value → Heap → Prop) (kx0 : Heap → Prop) (Q : Ending → Heap → Prop) : Prop :=
  ∀ env : Env, env 0 = x0 → env 3 = x3 → env 5 = x5 → env 6 = x6 → RLoop Try.prog 43 (codeAt [1, 1, 0, 1, 0, 0, 1, 0, 0, 1, 1, 0, 0] (bodyOf Try.f14)) env H (mkK (fun _ _ => False) (inK 2 (fun e H => kn (e 0) (e 3) (e 5) H) (inK 1 (fun e H => kx1 (e 0) (e 3) (e 5) H) (inK 0 (fun e H => kx0 H) (fun _ _ _ => False)))) (retK T Try.f14.results.toList Q) (fun c H => Q (.panicked c) H))
theorem cL14_8 (env : Env) (H : Heap) (kn : Value → Value → Value → Heap → Prop) (kx1 : Value → Value → Value → Heap → Prop) (kx0 : Heap → Prop) (Q : Ending → Heap → Prop) (h : L14_8 (env 0) (env 3) (env 5) (env 6) H kn kx1 kx0 Q) :
    RCode Try.prog 43 (codeAt [1, 1, 0, 1, 0, 0, 1, 0, 0, 1, 1] (bodyOf Try.f14)) env H (mkK (fun e H => kn (e 0) (e 3) (e 5) H) (inK 1 (fun e H => kx1 (e 0) (e 3) (e 5) H) (inK 0 (fun e H => kx0 H) (fun _ _ _ => False))) (retK T Try.f14.results.toList Q) (fun c H => Q (.panicked c) H)) :=
  RCode.blk (by kernel_rfl : (codeAt [1, 1, 0, 1, 0, 0, 1, 0, 0, 1, 1] (bodyOf Try.f14)) = .block 2 (codeAt [1, 1, 0, 1, 0, 0, 1, 0, 0, 1, 1, 0] (bodyOf Try.f14))) (RCode.lp (by kernel_rfl : (codeAt [1, 1, 0, 1, 0, 0, 1, 0, 0, 1, 1, 0] (bodyOf Try.f14)) = .loop (codeAt [1, 1, 0, 1, 0, 0, 1, 0, 0, 1, 1, 0, 0] (bodyOf Try.f14))) ((h env rfl rfl rfl rfl).mono (mkK_mono (fun _ _ h => h.elim) (fun _ _ _ h => h) (fun _ _ h => h) (fun _ _ h => h))))
def m14_9 (x0 x3 x5 x6 : Value) (H : Heap) (kn : Value → Value → Value → Value → Heap → Prop) (kx2 : Value → Value → Value → Heap → Prop) (kx1 : Value → Value → Value → Heap → Prop) (kx0 : Heap → Prop) (Q : Ending → Heap → Prop) : Prop :=
oV (vIdxS 1 x0 x5) fun t27_2 =>
oV (vLoad ty41 t27_2 H) fun t28_3 =>
oV (vLen t28_3) fun t29_4 =>
oV (vInt .lss x6 t29_4) fun t30_5 =>
condK t30_5 (
oV (vIdxS 1 x0 x5) fun t35_6 =>
oV (vLoad ty41 t35_6 H) fun t36_7 =>
oV (vIdxS 1 t36_7 x6) fun t38_8 =>
oV (vLoad ty22 t38_8 H) fun t39_9 =>
oV (vField 0 x3) fun t40_10 =>
oV (vLoad ty22 t40_10 H) fun t41_11 =>
oV (vInt .geq t39_9 t41_11) fun t42_12 =>
condK t42_12 (
Q (.returned (.bool false)) H) (
oV (vInt .add x6 (.int .i64 1)) fun t32_13 =>
kn x0 x3 x5 t32_13 H)) (
kx2 x0 x3 x5 H)
theorem c14_9 (env : Env) (H : Heap) (kn : Value → Value → Value → Value → Heap → Prop) (kx2 : Value → Value → Value → Heap → Prop) (kx1 : Value → Value → Value → Heap → Prop) (kx0 : Heap → Prop) (Q : Ending → Heap → Prop) (h : m14_9 (env 0) (env 3) (env 5) (env 6) H kn kx2 kx1 kx0 Q) :
    RCode Try.prog 43 (codeAt [1, 1, 0, 1, 0, 0, 1, 0, 0, 1, 1, 0, 0] (bodyOf Try.f14)) env H (mkK (fun e H => kn (e 0) (e 3) (e 5) (e 6) H) (inK 2 (fun e H => kx2 (e 0) (e 3) (e 5) H) (inK 1 (fun e H => kx1 (e 0) (e 3) (e 5) H) (inK 0 (fun e H => kx0 H) (fun _ _ _ => False)))) (retK T Try.f14.results.toList Q) (fun c H => Q (.panicked c) H)) :=
  RCode.leaf_ (T := T) (X := ext) (hint := hint14) tok xok mixed (by kernel_rfl) h
theorem L14_8_round (x0 x3 x5 x6 : Value) (H : Heap) (kn : Value → Value → Value → Heap → Prop) (kx1 : Value → Value → Value → Heap → Prop) (kx0 : Heap → Prop) (Q : Ending → Heap → Prop) (h : m14_9 x0 x3 x5 x6 H (fun y0 y3 y5 y6 H => L14_8 y0 y3 y5 y6 H kn kx1 kx0 Q) kn kx1 kx0 Q) : L14_8 x0 x3 x5 x6 H kn kx1 kx0 Q := by
  intro env h0 h3 h5 h6
  subst h0; subst h3; subst h5; subst h6
  exact RLoop.round ((c14_9 env H (fun y0 y3 y5 y6 H => L14_8 y0 y3 y5 y6 H kn kx1 kx0 Q) kn kx1 kx0 Q h).mono (mkK_mono (fun e H h => h e rfl rfl rfl rfl) (fun _ _ _ h => h) (fun _ _ h => h) (fun _ _ h => h)))
def m14_7 (x0 x3 x5 : Value) (H : Heap) (kn : Value → Value → Value → Heap → Prop) (kx1 : Value → Value → Value → Heap → Prop) (kx0 : Heap → Prop) (Q : Ending → Heap → Prop) : Prop :=
oV (vIdxS 1 x0 x5) fun t20_14 =>
oV (vLoad ty41 t20_14 H) fun t21_15 =>
oV (vLen t21_15) fun t22_16 =>
oV (vInt .gtr t22_16 (.int .i64 20)) fun t23_17 =>
condK t23_17 (
Q (.returned (.bool false)) H) (
L14_8 x0 x3 x5 (.int .i64 0) H kn kx1 kx0 Q)
theorem c14_7 (env : Env) (H : Heap) (kn : Value → Value → Value → Heap → Prop) (kx1 : Value → Value → Value → Heap → Prop) (kx0 : Heap → Prop) (Q : Ending → Heap → Prop) (h : m14_7 (env 0) (env 3) (env 5) H kn kx1 kx0 Q) :
    RCode Try.prog 43 (codeAt [1, 1, 0, 1, 0, 0, 1, 0, 0] (bodyOf Try.f14)) env H (mkK (fun e H => kn (e 0) (e 3) (e 5) H) (inK 1 (fun e H => kx1 (e 0) (e 3) (e 5) H) (inK 0 (fun e H => kx0 H) (fun _ _ _ => False))) (retK T Try.f14.results.toList Q) (fun c H => Q (.panicked c) H)) :=
  RCode.prefix_ (T := T) (X := ext) (hint := hint14) (hole := (fun e H => L14_8 (e 0) (e 3) (e 5) (e 6) H kn kx1 kx0 Q)) tok xok mixed 2 (by kernel_rfl) (by kernel_rfl : codeAt _ _ = (codeAt [1, 1, 0, 1, 0, 0, 1, 0, 0, 1, 1] (bodyOf Try.f14))) h
    (fun e H h => (cL14_8 e H kn kx1 kx0 Q h))
def m14_6 (x0 x3 x5 : Value) (H : Heap) (kn : Value → Value → Value → Heap → Prop) (kx0 : Heap → Prop) (Q : Ending → Heap → Prop) : Prop :=
m14_7 x0 x3 x5 H kn kn kx0 Q
theorem c14_6 (env : Env) (H : Heap) (kn : Value → Value → Value → Heap → Prop) (kx0 : Heap → Prop) (Q : Ending → Heap → Prop) (h : m14_6 (env 0) (env 3) (env 5) H kn kx0 Q) :
    RCode Try.prog 43 (codeAt [1, 1, 0, 1, 0, 0, 1, 0] (bodyOf Try.f14)) env H (mkK (fun e H => kn (e 0) (e 3) (e 5) H) (inK 0 (fun e H => kx0 H) (fun _ _ _ => False)) (retK T Try.f14.results.toList Q) (fun c H => Q (.panicked c) H)) :=
  RCode.blk (by kernel_rfl : (codeAt [1, 1, 0, 1, 0, 0, 1, 0] (bodyOf Try.f14)) = .block 1 (codeAt [1, 1, 0, 1, 0, 0, 1, 0, 0] (bodyOf Try.f14))) (c14_7 env H kn kn kx0 Q h)
def m14_4 (x0 x3 x5 : Value) (H : Heap) (kn : Value → Value → Value → Heap → Prop) (kx0 : Heap → Prop) (Q : Ending → Heap → Prop) : Prop :=
oV (vLen x0) fun t14_18 =>
oV (vInt .lss x5 t14_18) fun t15_19 =>
condK t15_19 (
m14_6 x0 x3 x5 H (fun y0_20 y3_21 y5_22 H_23 => m14_5 y0_20 y3_21 y5_22 H_23 kn kx0 Q) kx0 Q) (
kx0 H)
theorem c14_4 (env : Env) (H : Heap) (kn : Value → Value → Value → Heap → Prop) (kx0 : Heap → Prop) (Q : Ending → Heap → Prop) (h : m14_4 (env 0) (env 3) (env 5) H kn kx0 Q) :
    RCode Try.prog 43 (codeAt [1, 1, 0, 1, 0, 0] (bodyOf Try.f14)) env H (mkK (fun e H => kn (e 0) (e 3) (e 5) H) (inK 0 (fun e H => kx0 H) (fun _ _ _ => False)) (retK T Try.f14.results.toList Q) (fun c H => Q (.panicked c) H)) :=
  RCode.prefix_ (T := T) (X := ext) (hint := hint14) (hole := (fun e H => m14_6 (e 0) (e 3) (e 5) H (fun y0_24 y3_25 y5_26 H_27 => m14_5 y0_24 y3_25 y5_26 H_27 kn kx0 Q) kx0 Q)) tok xok mixed 1 (by kernel_rfl) (by kernel_rfl : codeAt _ _ = (codeAt [1, 1, 0, 1, 0, 0, 1] (bodyOf Try.f14))) h
    (fun e H h => RCode.join (by kernel_rfl : (codeAt [1, 1, 0, 1, 0, 0, 1] (bodyOf Try.f14)) = .seq (codeAt [1, 1, 0, 1, 0, 0, 1, 0] (bodyOf Try.f14)) (codeAt [1, 1, 0, 1, 0, 0, 1, 1] (bodyOf Try.f14))) ((c14_6 e H (fun y0_28 y3_29 y5_30 H_31 => m14_5 y0_28 y3_29 y5_30 H_31 kn kx0 Q) kx0 Q h).mono (mkK_mono (fun e H h => c14_5 e H kn kx0 Q h) (fun _ _ _ h => h) (fun _ _ h => h) (fun _ _ h => h))))
theorem L14_3_round (x0 x3 x5 : Value) (H : Heap) (kn : Heap → Prop) (Q : Ending → Heap → Prop) (h : m14_4 x0 x3 x5 H (fun y0 y3 y5 H => L14_3 y0 y3 y5 H kn Q) kn Q) : L14_3 x0 x3 x5 H kn Q := by
  intro env h0 h3 h5
  subst h0; subst h3; subst h5
  exact RLoop.round ((c14_4 env H (fun y0 y3 y5 H => L14_3 y0 y3 y5 H kn Q) kn Q h).mono (mkK_mono (fun e H h => h e rfl rfl rfl) (fun _ _ _ h => h) (fun _ _ h => h) (fun _ _ h => h)))
def m14_2 (x0 x3 : Value) (H : Heap) (kn : Heap → Prop) (Q : Ending → Heap → Prop) : Prop :=
L14_3 x0 x3 (.int .i64 0) H kn Q
theorem c14_2 (env : Env) (H : Heap) (kn : Heap → Prop) (Q : Ending → Heap → Prop) (h : m14_2 (env 0) (env 3) H kn Q) :
    RCode Try.prog 43 (codeAt [1, 1, 0] (bodyOf Try.f14)) env H (mkK (fun e H => kn H) (fun _ _ _ => False) (retK T Try.f14.results.toList Q) (fun c H => Q (.panicked c) H)) :=
  RCode.prefix_ (T := T) (X := ext) (hint := hint14) (hole := (fun e H => L14_3 (e 0) (e 3) (e 5) H kn Q)) tok xok mixed 1 (by kernel_rfl) (by kernel_rfl : codeAt _ _ = (codeAt [1, 1, 0, 1] (bodyOf Try.f14))) h
    (fun e H h => (cL14_3 e H kn Q h))
def m14 (x0 x1 : Value) (H : Heap) (Q : Ending → Heap → Prop) : Prop :=
oNew (Value.cells x1).toList (Value.cells x1).toList.length 24 H fun i_32 H_33 =>
oV (vLen x0) fun t8_34 =>
oV (vField 1 (ptrTo i_32)) fun t9_35 =>
oV (vLoad ty3 t9_35 H_33) fun t10_36 =>
oV (vInt .neq t8_34 t10_36) fun t11_37 =>
condK t11_37 (
Q (.returned (.bool false)) H_33) (
m14_2 x0 (ptrTo i_32) H_33 (fun H_38 => m14_1 H_38 Q) Q)
theorem c14_0 (env : Env) (H : Heap) (Q : Ending → Heap → Prop) (h : m14 (env 0) (env 1) H Q) :
    RCode Try.prog 43 (bodyOf Try.f14) env H (mkK (retK T Try.f14.results.toList Q) (fun _ _ _ => False) (retK T Try.f14.results.toList Q) (fun c H => Q (.panicked c) H)) :=
  RCode.prefix_ (T := T) (X := ext) (hint := hint14) (hole := (fun e H => m14_2 (e 0) (e 3) H (fun H_39 => m14_1 H_39 Q) Q)) tok xok mixed 2 (by kernel_rfl) (by kernel_rfl : codeAt _ _ = (codeAt [1, 1] (bodyOf Try.f14))) h
    (fun e H h => RCode.join (by kernel_rfl : (codeAt [1, 1] (bodyOf Try.f14)) = .seq (codeAt [1, 1, 0] (bodyOf Try.f14)) (codeAt [1, 1, 1] (bodyOf Try.f14))) ((c14_2 e H (fun H_40 => m14_1 H_40 Q) Q h).mono (mkK_mono (fun e H h => c14_1 e H Q h) (fun _ _ _ h => h) (fun _ _ h => h) (fun _ _ h => h))))
theorem call14 (a0 a1 : Value) (H : Heap) (Q : Ending → Heap → Prop) (h : m14 a0 a1 H Q) : RCalls Try.prog 14 [a0, a1] H Q :=
  RCalls.intro (nt := 43) tok Try.func14 (by kernel_rfl) (by kernel_rfl) (by kernel_rfl) (of_decide_eq_true (by kernel_rfl)) (c14_0 (envOf [a0, a1]) H Q h)
/-! ### 5: privity/privitylaw13.may -/
def hint5 : Nat → List Nat := lookupL [(6, [0, 1, 2, 3, 4, 5, 6, 7, 8, 9])]
def m5_1 (H : Heap) (Q : Ending → Heap → Prop) : Prop :=
Q (.returned (.bool true)) H
theorem c5_1 (env : Env) (H : Heap) (Q : Ending → Heap → Prop) (h : m5_1 H Q) :
    RCode Try.prog 51 (codeAt [1, 1, 1] (bodyOf Try.f5)) env H (mkK (retK T Try.f5.results.toList Q) (fun _ _ _ => False) (retK T Try.f5.results.toList Q) (fun c H => Q (.panicked c) H)) :=
  RCode.leaf_ (T := T) (X := ext) (hint := hint5) tok xok mixed (by kernel_rfl) h
def L5_3 (x1 x3 : Value) (H : Heap) (kn : Heap → Prop) (Q : Ending → Heap → Prop) : Prop :=
  ∀ env : Env, env 1 = x1 → env 3 = x3 → RLoop Try.prog 51 (codeAt [1, 1, 0, 1, 0, 0] (bodyOf Try.f5)) env H (mkK (fun _ _ => False) (inK 0 (fun e H => kn H) (fun _ _ _ => False)) (retK T Try.f5.results.toList Q) (fun c H => Q (.panicked c) H))
theorem cL5_3 (env : Env) (H : Heap) (kn : Heap → Prop) (Q : Ending → Heap → Prop) (h : L5_3 (env 1) (env 3) H kn Q) :
    RCode Try.prog 51 (codeAt [1, 1, 0, 1] (bodyOf Try.f5)) env H (mkK (fun e H => kn H) (fun _ _ _ => False) (retK T Try.f5.results.toList Q) (fun c H => Q (.panicked c) H)) :=
  RCode.blk (by kernel_rfl : (codeAt [1, 1, 0, 1] (bodyOf Try.f5)) = .block 0 (codeAt [1, 1, 0, 1, 0] (bodyOf Try.f5))) (RCode.lp (by kernel_rfl : (codeAt [1, 1, 0, 1, 0] (bodyOf Try.f5)) = .loop (codeAt [1, 1, 0, 1, 0, 0] (bodyOf Try.f5))) ((h env rfl rfl).mono (mkK_mono (fun _ _ h => h.elim) (fun _ _ _ h => h) (fun _ _ h => h) (fun _ _ h => h))))
def m5_4 (x1 x3 : Value) (H : Heap) (kn : Value → Value → Heap → Prop) (kx0 : Heap → Prop) (Q : Ending → Heap → Prop) : Prop :=
oV (vField 7 x1) fun t35_1 =>
oV (vLoad ty30 t35_1 H) fun t36_2 =>
oV (vLen t36_2) fun t37_3 =>
oV (vInt .lss x3 t37_3) fun t38_4 =>
condK t38_4 (
oV (vField 7 x1) fun t41_5 =>
oV (vLoad ty30 t41_5 H) fun t42_6 =>
oV (vIdxS 1 t42_6 x3) fun t44_7 =>
oV (vLoad ty27 t44_7 H) fun t45_8 =>
oV (vField 0 x1) fun t46_9 =>
oV (vField 0 t46_9) fun t47_10 =>
oV (vLoad ty24 t47_10 H) fun t48_11 =>
oRC Try.prog 14 [t45_8, t48_11] H noP fun v_12 H_13 =>
oV (vUn .not v_12) fun t50_14 =>
condK t50_14 (
Q (.returned (.bool false)) H_13) (
oV (vInt .add x3 (.int .i64 1)) fun t40_15 =>
kn x1 t40_15 H_13)) (
kx0 H)
theorem c5_4 (env : Env) (H : Heap) (kn : Value → Value → Heap → Prop) (kx0 : Heap → Prop) (Q : Ending → Heap → Prop) (h : m5_4 (env 1) (env 3) H kn kx0 Q) :
    RCode Try.prog 51 (codeAt [1, 1, 0, 1, 0, 0] (bodyOf Try.f5)) env H (mkK (fun e H => kn (e 1) (e 3) H) (inK 0 (fun e H => kx0 H) (fun _ _ _ => False)) (retK T Try.f5.results.toList Q) (fun c H => Q (.panicked c) H)) :=
  RCode.leaf_ (T := T) (X := ext) (hint := hint5) tok xok mixed (by kernel_rfl) h
theorem L5_3_round (x1 x3 : Value) (H : Heap) (kn : Heap → Prop) (Q : Ending → Heap → Prop) (h : m5_4 x1 x3 H (fun y1 y3 H => L5_3 y1 y3 H kn Q) kn Q) : L5_3 x1 x3 H kn Q := by
  intro env h1 h3
  subst h1; subst h3
  exact RLoop.round ((c5_4 env H (fun y1 y3 H => L5_3 y1 y3 H kn Q) kn Q h).mono (mkK_mono (fun e H h => h e rfl rfl) (fun _ _ _ h => h) (fun _ _ h => h) (fun _ _ h => h)))
def m5_2 (x1 : Value) (H : Heap) (kn : Heap → Prop) (Q : Ending → Heap → Prop) : Prop :=
L5_3 x1 (.int .i64 0) H kn Q
theorem c5_2 (env : Env) (H : Heap) (kn : Heap → Prop) (Q : Ending → Heap → Prop) (h : m5_2 (env 1) H kn Q) :
    RCode Try.prog 51 (codeAt [1, 1, 0] (bodyOf Try.f5)) env H (mkK (fun e H => kn H) (fun _ _ _ => False) (retK T Try.f5.results.toList Q) (fun c H => Q (.panicked c) H)) :=
  RCode.prefix_ (T := T) (X := ext) (hint := hint5) (hole := (fun e H => L5_3 (e 1) (e 3) H kn Q)) tok xok mixed 1 (by kernel_rfl) (by kernel_rfl : codeAt _ _ = (codeAt [1, 1, 0, 1] (bodyOf Try.f5))) h
    (fun e H h => (cL5_3 e H kn Q h))
def m5 (x0 : Value) (H : Heap) (Q : Ending → Heap → Prop) : Prop :=
oNew (Value.cells x0).toList (Value.cells x0).toList.length 32 H fun i_16 H_17 =>
oV (vField 0 (ptrTo i_16)) fun t4_18 =>
oV (vLoad ty29 t4_18 H_17) fun t5_19 =>
oRC Try.prog 13 [t5_19] H_17 (fun c H => Q (.panicked c) H) fun v_20 H_21 =>
oV (vUn .not v_20) fun t7_22 =>
oV (gV t7_22 false (vField 0 (ptrTo i_16)) (some undef)) fun t9_23 =>
oV (gV t7_22 false (vField 4 t9_23) (some undef)) fun t10_24 =>
oV (gV t7_22 false (vLoad ty26 t10_24 H_21) (some undef)) fun t11_25 =>
oV (gV t7_22 false (vLen t11_25) (some undef)) fun t12_26 =>
oV (gV t7_22 false (vInt .gtr t12_26 (.int .i64 30)) (some undef)) fun t13_27 =>
oV (vPick t7_22 (.bool true) t13_27) fun t14_28 =>
oV (gV t14_28 false (vField 7 (ptrTo i_16)) (some undef)) fun t16_29 =>
oV (gV t14_28 false (vLoad ty30 t16_29 H_21) (some undef)) fun t17_30 =>
oV (gV t14_28 false (vLen t17_30) (some undef)) fun t18_31 =>
oV (gV t14_28 false (vField 0 (ptrTo i_16)) (some undef)) fun t19_32 =>
oV (gV t14_28 false (vField 0 t19_32) (some undef)) fun t20_33 =>
oV (gV t14_28 false (vField 1 t20_33) (some undef)) fun t21_34 =>
oV (gV t14_28 false (vLoad ty3 t21_34 H_21) (some undef)) fun t22_35 =>
oV (gV t14_28 false (vInt .neq t18_31 t22_35) (some undef)) fun t23_36 =>
oV (vPick t14_28 (.bool true) t23_36) fun t24_37 =>
oV (gV t24_37 false (vField 8 (ptrTo i_16)) (some undef)) fun t26_38 =>
oV (gV t24_37 false (vLoad ty27 t26_38 H_21) (some undef)) fun t27_39 =>
oV (gV t24_37 false (vField 0 (ptrTo i_16)) (some undef)) fun t28_40 =>
oV (gV t24_37 false (vField 0 t28_40) (some undef)) fun t29_41 =>
oV (gV t24_37 false (vLoad ty24 t29_41 H_21) (some undef)) fun t30_42 =>
letK (fun t31_44 H_45 =>
oV (gV t24_37 false (vUn .not t31_44) (some undef)) fun t32_46 =>
oV (vPick t24_37 (.bool true) t32_46) fun t33_47 =>
condK t33_47 (
Q (.returned (.bool false)) H_45) (
m5_2 (ptrTo i_16) H_45 (fun H_48 => m5_1 H_48 Q) Q)) fun k_43 => gK t24_37 false (oRC Try.prog 14 [t27_39, t30_42] H_21 (fun c H => Q (.panicked c) H) fun v_49 H_50 =>
k_43 v_49 H_50) (k_43 undef H_21)
theorem c5_0 (env : Env) (H : Heap) (Q : Ending → Heap → Prop) (h : m5 (env 0) H Q) :
    RCode Try.prog 51 (bodyOf Try.f5) env H (mkK (retK T Try.f5.results.toList Q) (fun _ _ _ => False) (retK T Try.f5.results.toList Q) (fun c H => Q (.panicked c) H)) :=
  RCode.prefix_ (T := T) (X := ext) (hint := hint5) (hole := (fun e H => m5_2 (e 1) H (fun H_51 => m5_1 H_51 Q) Q)) tok xok mixed 2 (by kernel_rfl) (by kernel_rfl : codeAt _ _ = (codeAt [1, 1] (bodyOf Try.f5))) h
    (fun e H h => RCode.join (by kernel_rfl : (codeAt [1, 1] (bodyOf Try.f5)) = .seq (codeAt [1, 1, 0] (bodyOf Try.f5)) (codeAt [1, 1, 1] (bodyOf Try.f5))) ((c5_2 e H (fun H_52 => m5_1 H_52 Q) Q h).mono (mkK_mono (fun e H h => c5_1 e H Q h) (fun _ _ _ h => h) (fun _ _ h => h) (fun _ _ h => h))))
theorem call5 (a0 : Value) (H : Heap) (Q : Ending → Heap → Prop) (h : m5 a0 H Q) : RCalls Try.prog 5 [a0] H Q :=
  RCalls.intro (nt := 51) tok Try.func5 (by kernel_rfl) (by kernel_rfl) (by kernel_rfl) (of_decide_eq_true (by kernel_rfl)) (c5_0 (envOf [a0]) H Q h)
/-! ### 15: privity/privitylaw13.four -/
def hint15 : Nat → List Nat := lookupL []
def m15 (x0 : Value) (H : Heap) (Q : Ending → Heap → Prop) : Prop :=
oNew (Value.cells ty29.zero).toList (Value.cells ty29.zero).toList.length 29 H fun i_1 H_2 =>
oV (vBuild ty24 [((0, 1), (.int .u64 31)), ((1, 1), (.int .i64 4)), ((2, 1), (.int .i64 1))]) fun t3_3 =>
oBuildS ty3 3 1 [((0, 1), (.int .i64 2))] H_2 fun s_4 H_5 =>
oBuildS ty41 41 4 [((0, 1), (.slice none 0 0)), ((1, 1), (.slice none 0 0)), ((2, 1), (.slice none 0 0)), ((3, 1), (.slice none 0 0))] H_5 fun s_6 H_7 =>
oV (vBuild ty29 [((0, 3), t3_3), ((3, 1), s_4), ((4, 1), x0), ((5, 1), s_6)]) fun t7_8 =>
oHeap (vStore ty29 (ptrTo i_1) t7_8 H_7) fun H_9 =>
retM ((vLoad ty29 (ptrTo i_1) H_9).bind fun v => (some []).map (v :: ·)) Q H_9
theorem c15_0 (env : Env) (H : Heap) (Q : Ending → Heap → Prop) (h : m15 (env 0) H Q) :
    RCode Try.prog 8 (bodyOf Try.f15) env H (mkK (retK T Try.f15.results.toList Q) (fun _ _ _ => False) (retK T Try.f15.results.toList Q) (fun c H => Q (.panicked c) H)) :=
  RCode.leaf_ (T := T) (X := ext) (hint := hint15) tok xok mixed (by kernel_rfl) h
theorem call15 (a0 : Value) (H : Heap) (Q : Ending → Heap → Prop) (h : m15 a0 H Q) : RCalls Try.prog 15 [a0] H Q :=
  RCalls.intro (nt := 8) tok Try.func15 (by kernel_rfl) (by kernel_rfl) (by kernel_rfl) (of_decide_eq_true (by kernel_rfl)) (c15_0 (envOf [a0]) H Q h)
/-! ### 16: slices.Clone[[][]uint64,[]uint64] -/
def hint16 : Nat → List Nat := lookupL []
def m16 (x0 : Value) (H : Heap) (Q : Ending → Heap → Prop) : Prop :=
oV (vNilOp .eql x0 (.slice none 0 0)) fun t4_1 =>
condK t4_1 (
Q (.returned (.slice none 0 0)) H) (
oBuildS ty41 41 0 [] H fun s_2 H_3 =>
oAppend ty41 41 s_2 x0 H_3 fun v_4 H_5 =>
Q (.returned v_4) H_5)
theorem c16_0 (env : Env) (H : Heap) (Q : Ending → Heap → Prop) (h : m16 (env 0) H Q) :
    RCode Try.prog 8 (bodyOf Try.f16) env H (mkK (retK T Try.f16.results.toList Q) (fun _ _ _ => False) (retK T Try.f16.results.toList Q) (fun c H => Q (.panicked c) H)) :=
  RCode.leaf_ (T := T) (X := ext) (hint := hint16) tok xok mixed (by kernel_rfl) h
theorem call16 (a0 : Value) (H : Heap) (Q : Ending → Heap → Prop) (h : m16 a0 H Q) : RCalls Try.prog 16 [a0] H Q :=
  RCalls.intro (nt := 8) tok Try.func16 (by kernel_rfl) (by kernel_rfl) (by kernel_rfl) (of_decide_eq_true (by kernel_rfl)) (c16_0 (envOf [a0]) H Q h)
/-! ### 36: slices.Index[[]int,int] -/
def hint36 : Nat → List Nat := lookupL []
def m36_1 (H : Heap) (Q : Ending → Heap → Prop) : Prop :=
Q (.returned (.int .i64 (-1))) H
theorem c36_1 (env : Env) (H : Heap) (Q : Ending → Heap → Prop) (h : m36_1 H Q) :
    RCode Try.prog 19 (codeAt [1, 1] (bodyOf Try.f36)) env H (mkK (retK T Try.f36.results.toList Q) (fun _ _ _ => False) (retK T Try.f36.results.toList Q) (fun c H => Q (.panicked c) H)) :=
  RCode.leaf_ (T := T) (X := ext) (hint := hint36) tok xok mixed (by kernel_rfl) h
def L36_3 (x0 x1 x7 x8 : Value) (H : Heap) (kn : Heap → Prop) (Q : Ending → Heap → Prop) : Prop :=
  ∀ env : Env, env 0 = x0 → env 1 = x1 → env 7 = x7 → env 8 = x8 → RLoop Try.prog 19 (codeAt [1, 0, 1, 0, 0] (bodyOf Try.f36)) env H (mkK (fun _ _ => False) (inK 0 (fun e H => kn H) (fun _ _ _ => False)) (retK T Try.f36.results.toList Q) (fun c H => Q (.panicked c) H))
theorem cL36_3 (env : Env) (H : Heap) (kn : Heap → Prop) (Q : Ending → Heap → Prop) (h : L36_3 (env 0) (env 1) (env 7) (env 8) H kn Q) :
    RCode Try.prog 19 (codeAt [1, 0, 1] (bodyOf Try.f36)) env H (mkK (fun e H => kn H) (fun _ _ _ => False) (retK T Try.f36.results.toList Q) (fun c H => Q (.panicked c) H)) :=
  RCode.blk (by kernel_rfl : (codeAt [1, 0, 1] (bodyOf Try.f36)) = .block 0 (codeAt [1, 0, 1, 0] (bodyOf Try.f36))) (RCode.lp (by kernel_rfl : (codeAt [1, 0, 1, 0] (bodyOf Try.f36)) = .loop (codeAt [1, 0, 1, 0, 0] (bodyOf Try.f36))) ((h env rfl rfl rfl rfl).mono (mkK_mono (fun _ _ h => h.elim) (fun _ _ _ h => h) (fun _ _ h => h) (fun _ _ h => h))))
def m36_4 (x0 x1 x7 x8 : Value) (H : Heap) (kn : Value → Value → Value → Value → Heap → Prop) (kx0 : Heap → Prop) (Q : Ending → Heap → Prop) : Prop :=
oV (vInt .lss x8 x7) fun t9_1 =>
condK t9_1 (
oV (vIdxS 1 x0 x8) fun t14_2 =>
oV (vLoad ty3 t14_2 H) fun t15_3 =>
oV (vInt .eql x1 t15_3) fun t16_4 =>
condK t16_4 (
Q (.returned x8) H) (
oV (vInt .add x8 (.int .i64 1)) fun t18_5 =>
kn x0 x1 x7 t18_5 H)) (
kx0 H)
theorem c36_4 (env : Env) (H : Heap) (kn : Value → Value → Value → Value → Heap → Prop) (kx0 : Heap → Prop) (Q : Ending → Heap → Prop) (h : m36_4 (env 0) (env 1) (env 7) (env 8) H kn kx0 Q) :
    RCode Try.prog 19 (codeAt [1, 0, 1, 0, 0] (bodyOf Try.f36)) env H (mkK (fun e H => kn (e 0) (e 1) (e 7) (e 8) H) (inK 0 (fun e H => kx0 H) (fun _ _ _ => False)) (retK T Try.f36.results.toList Q) (fun c H => Q (.panicked c) H)) :=
  RCode.leaf_ (T := T) (X := ext) (hint := hint36) tok xok mixed (by kernel_rfl) h
theorem L36_3_round (x0 x1 x7 x8 : Value) (H : Heap) (kn : Heap → Prop) (Q : Ending → Heap → Prop) (h : m36_4 x0 x1 x7 x8 H (fun y0 y1 y7 y8 H => L36_3 y0 y1 y7 y8 H kn Q) kn Q) : L36_3 x0 x1 x7 x8 H kn Q := by
  intro env h0 h1 h7 h8
  subst h0; subst h1; subst h7; subst h8
  exact RLoop.round ((c36_4 env H (fun y0 y1 y7 y8 H => L36_3 y0 y1 y7 y8 H kn Q) kn Q h).mono (mkK_mono (fun e H h => h e rfl rfl rfl rfl) (fun _ _ _ h => h) (fun _ _ h => h) (fun _ _ h => h)))
def m36_2 (x0 x1 : Value) (H : Heap) (kn : Heap → Prop) (Q : Ending → Heap → Prop) : Prop :=
oV (vLen x0) fun t7_6 =>
L36_3 x0 x1 t7_6 (.int .i64 0) H kn Q
theorem c36_2 (env : Env) (H : Heap) (kn : Heap → Prop) (Q : Ending → Heap → Prop) (h : m36_2 (env 0) (env 1) H kn Q) :
    RCode Try.prog 19 (codeAt [1, 0] (bodyOf Try.f36)) env H (mkK (fun e H => kn H) (fun _ _ _ => False) (retK T Try.f36.results.toList Q) (fun c H => Q (.panicked c) H)) :=
  RCode.prefix_ (T := T) (X := ext) (hint := hint36) (hole := (fun e H => L36_3 (e 0) (e 1) (e 7) (e 8) H kn Q)) tok xok mixed 1 (by kernel_rfl) (by kernel_rfl : codeAt _ _ = (codeAt [1, 0, 1] (bodyOf Try.f36))) h
    (fun e H h => (cL36_3 e H kn Q h))
def m36 (x0 x1 : Value) (H : Heap) (Q : Ending → Heap → Prop) : Prop :=
m36_2 x0 x1 H (fun H_7 => m36_1 H_7 Q) Q
theorem c36_0 (env : Env) (H : Heap) (Q : Ending → Heap → Prop) (h : m36 (env 0) (env 1) H Q) :
    RCode Try.prog 19 (bodyOf Try.f36) env H (mkK (retK T Try.f36.results.toList Q) (fun _ _ _ => False) (retK T Try.f36.results.toList Q) (fun c H => Q (.panicked c) H)) :=
  RCode.prefix_ (T := T) (X := ext) (hint := hint36) (hole := (fun e H => m36_2 (e 0) (e 1) H (fun H_8 => m36_1 H_8 Q) Q)) tok xok mixed 1 (by kernel_rfl) (by kernel_rfl : codeAt _ _ = (codeAt [1] (bodyOf Try.f36))) h
    (fun e H h => RCode.join (by kernel_rfl : (codeAt [1] (bodyOf Try.f36)) = .seq (codeAt [1, 0] (bodyOf Try.f36)) (codeAt [1, 1] (bodyOf Try.f36))) ((c36_2 e H (fun H_9 => m36_1 H_9 Q) Q h).mono (mkK_mono (fun e H h => c36_1 e H Q h) (fun _ _ _ h => h) (fun _ _ h => h) (fun _ _ h => h))))
theorem call36 (a0 a1 : Value) (H : Heap) (Q : Ending → Heap → Prop) (h : m36 a0 a1 H Q) : RCalls Try.prog 36 [a0, a1] H Q :=
  RCalls.intro (nt := 19) tok Try.func36 (by kernel_rfl) (by kernel_rfl) (by kernel_rfl) (of_decide_eq_true (by kernel_rfl)) (c36_0 (envOf [a0, a1]) H Q h)
/-! ### 26: slices.Contains[[]int,int] -/
def hint26 : Nat → List Nat := lookupL []
def m26 (x0 x1 : Value) (H : Heap) (Q : Ending → Heap → Prop) : Prop :=
oRC Try.prog 36 [x0, x1] H (fun c H => Q (.panicked c) H) fun v_1 H_2 =>
oV (vInt .geq v_1 (.int .i64 0)) fun t8_3 =>
Q (.returned t8_3) H_2
theorem c26_0 (env : Env) (H : Heap) (Q : Ending → Heap → Prop) (h : m26 (env 0) (env 1) H Q) :
    RCode Try.prog 9 (bodyOf Try.f26) env H (mkK (retK T Try.f26.results.toList Q) (fun _ _ _ => False) (retK T Try.f26.results.toList Q) (fun c H => Q (.panicked c) H)) :=
  RCode.leaf_ (T := T) (X := ext) (hint := hint26) tok xok mixed (by kernel_rfl) h
theorem call26 (a0 a1 : Value) (H : Heap) (Q : Ending → Heap → Prop) (h : m26 a0 a1 H Q) : RCalls Try.prog 26 [a0, a1] H Q :=
  RCalls.intro (nt := 9) tok Try.func26 (by kernel_rfl) (by kernel_rfl) (by kernel_rfl) (of_decide_eq_true (by kernel_rfl)) (c26_0 (envOf [a0, a1]) H Q h)
/-! ### 17: privity/adversary.done -/
def hint17 : Nat → List Nat := lookupL []
def m17 (x0 x1 x2 : Value) (H : Heap) (Q : Ending → Heap → Prop) : Prop :=
oNew (Value.cells x0).toList (Value.cells x0).toList.length 29 H fun i_1 H_2 =>
oNew (Value.cells x1).toList (Value.cells x1).toList.length 44 H_2 fun i_3 H_4 =>
oV (vField 0 (ptrTo i_3)) fun t7_5 =>
oV (vLoad ty3 t7_5 H_4) fun t8_6 =>
oV (vInt .eql t8_6 x2) fun t10_7 =>
oV (gV t10_7 true (vField 3 (ptrTo i_1)) (some undef)) fun t12_8 =>
oV (gV t10_7 true (vLoad ty25 t12_8 H_4) (some undef)) fun t13_9 =>
oV (gV t10_7 true (vField 1 (ptrTo i_3)) (some undef)) fun t14_10 =>
oV (gV t10_7 true (vLoad ty3 t14_10 H_4) (some undef)) fun t15_11 =>
letK (fun t16_13 H_14 =>
oV (vPick t10_7 t16_13 (.bool false)) fun t17_15 =>
Q (.returned t17_15) H_14) fun k_12 => gK t10_7 true (oRC Try.prog 26 [t13_9, t15_11] H_4 (fun c H => Q (.panicked c) H) fun v_16 H_17 =>
k_12 v_16 H_17) (k_12 undef H_4)
theorem c17_0 (env : Env) (H : Heap) (Q : Ending → Heap → Prop) (h : m17 (env 0) (env 1) (env 2) H Q) :
    RCode Try.prog 18 (bodyOf Try.f17) env H (mkK (retK T Try.f17.results.toList Q) (fun _ _ _ => False) (retK T Try.f17.results.toList Q) (fun c H => Q (.panicked c) H)) :=
  RCode.leaf_ (T := T) (X := ext) (hint := hint17) tok xok mixed (by kernel_rfl) h
theorem call17 (a0 a1 a2 : Value) (H : Heap) (Q : Ending → Heap → Prop) (h : m17 a0 a1 a2 H Q) : RCalls Try.prog 17 [a0, a1, a2] H Q :=
  RCalls.intro (nt := 18) tok Try.func17 (by kernel_rfl) (by kernel_rfl) (by kernel_rfl) (of_decide_eq_true (by kernel_rfl)) (c17_0 (envOf [a0, a1, a2]) H Q h)
/-! ### 43: math/bits.Len64 -/
def hint43 : Nat → List Nat := lookupL []
def m43 (x0 : Value) (H : Heap) (Q : Ending → Heap → Prop) : Prop :=
oV (vInt .geq x0 (.int .u64 4294967296)) fun t4_1 =>
condK t4_1 (
oV (vInt .shr x0 (.int .u64 32)) fun t6_2 =>
oV (vInt .geq t6_2 (.int .u64 65536)) fun t8_3 =>
condK t8_3 (
oV (vInt .shr t6_2 (.int .u64 16)) fun t10_4 =>
oV (vInt .add (.int .i64 32) (.int .i64 16)) fun t12_5 =>
oV (vInt .geq t10_4 (.int .u64 256)) fun t14_6 =>
condK t14_6 (
oV (vInt .shr t10_4 (.int .u64 8)) fun t16_7 =>
oV (vInt .add t12_5 (.int .i64 8)) fun t18_8 =>
oV (vConv (.int .u8) t16_7) fun t21_9 =>
oV (vIndexStr (.string { data := #[0, 1, 2, 2, 3, 3, 3, 3, 4, 4, 4, 4, 4, 4, 4, 4, 5, 5, 5, 5, 5, 5, 5, 5, 5, 5, 5, 5, 5, 5, 5, 5, 6, 6, 6, 6, 6, 6, 6, 6, 6, 6, 6, 6, 6, 6, 6, 6, 6, 6, 6, 6, 6, 6, 6, 6, 6, 6, 6, 6, 6, 6, 6, 6, 7, 7, 7, 7, 7, 7, 7, 7, 7, 7, 7, 7, 7, 7, 7, 7, 7, 7, 7, 7, 7, 7, 7, 7, 7, 7, 7, 7, 7, 7, 7, 7, 7, 7, 7, 7, 7, 7, 7, 7, 7, 7, 7, 7, 7, 7, 7, 7, 7, 7, 7, 7, 7, 7, 7, 7, 7, 7, 7, 7, 7, 7, 7, 7, 8, 8, 8, 8, 8, 8, 8, 8, 8, 8, 8, 8, 8, 8, 8, 8, 8, 8, 8, 8, 8, 8, 8, 8, 8, 8, 8, 8, 8, 8, 8, 8, 8, 8, 8, 8, 8, 8, 8, 8, 8, 8, 8, 8, 8, 8, 8, 8, 8, 8, 8, 8, 8, 8, 8, 8, 8, 8, 8, 8, 8, 8, 8, 8, 8, 8, 8, 8, 8, 8, 8, 8, 8, 8, 8, 8, 8, 8, 8, 8, 8, 8, 8, 8, 8, 8, 8, 8, 8, 8, 8, 8, 8, 8, 8, 8, 8, 8, 8, 8, 8, 8, 8, 8, 8, 8, 8, 8, 8, 8, 8, 8, 8, 8, 8, 8, 8, 8, 8, 8, 8, 8, 8, 8, 8, 8, 8, 8] }) t21_9) fun t22_10 =>
oV (vConv (.int .i64) t22_10) fun t23_11 =>
oV (vInt .add t18_8 t23_11) fun t24_12 =>
Q (.returned t24_12) H) (
oV (vConv (.int .u8) t10_4) fun t21_13 =>
oV (vIndexStr (.string { data := #[0, 1, 2, 2, 3, 3, 3, 3, 4, 4, 4, 4, 4, 4, 4, 4, 5, 5, 5, 5, 5, 5, 5, 5, 5, 5, 5, 5, 5, 5, 5, 5, 6, 6, 6, 6, 6, 6, 6, 6, 6, 6, 6, 6, 6, 6, 6, 6, 6, 6, 6, 6, 6, 6, 6, 6, 6, 6, 6, 6, 6, 6, 6, 6, 7, 7, 7, 7, 7, 7, 7, 7, 7, 7, 7, 7, 7, 7, 7, 7, 7, 7, 7, 7, 7, 7, 7, 7, 7, 7, 7, 7, 7, 7, 7, 7, 7, 7, 7, 7, 7, 7, 7, 7, 7, 7, 7, 7, 7, 7, 7, 7, 7, 7, 7, 7, 7, 7, 7, 7, 7, 7, 7, 7, 7, 7, 7, 7, 8, 8, 8, 8, 8, 8, 8, 8, 8, 8, 8, 8, 8, 8, 8, 8, 8, 8, 8, 8, 8, 8, 8, 8, 8, 8, 8, 8, 8, 8, 8, 8, 8, 8, 8, 8, 8, 8, 8, 8, 8, 8, 8, 8, 8, 8, 8, 8, 8, 8, 8, 8, 8, 8, 8, 8, 8, 8, 8, 8, 8, 8, 8, 8, 8, 8, 8, 8, 8, 8, 8, 8, 8, 8, 8, 8, 8, 8, 8, 8, 8, 8, 8, 8, 8, 8, 8, 8, 8, 8, 8, 8, 8, 8, 8, 8, 8, 8, 8, 8, 8, 8, 8, 8, 8, 8, 8, 8, 8, 8, 8, 8, 8, 8, 8, 8, 8, 8, 8, 8, 8, 8, 8, 8, 8, 8, 8, 8] }) t21_13) fun t22_14 =>
oV (vConv (.int .i64) t22_14) fun t23_15 =>
oV (vInt .add t12_5 t23_15) fun t24_16 =>
Q (.returned t24_16) H)) (
oV (vInt .geq t6_2 (.int .u64 256)) fun t14_17 =>
condK t14_17 (
oV (vInt .shr t6_2 (.int .u64 8)) fun t16_18 =>
oV (vInt .add (.int .i64 32) (.int .i64 8)) fun t18_19 =>
oV (vConv (.int .u8) t16_18) fun t21_20 =>
oV (vIndexStr (.string { data := #[0, 1, 2, 2, 3, 3, 3, 3, 4, 4, 4, 4, 4, 4, 4, 4, 5, 5, 5, 5, 5, 5, 5, 5, 5, 5, 5, 5, 5, 5, 5, 5, 6, 6, 6, 6, 6, 6, 6, 6, 6, 6, 6, 6, 6, 6, 6, 6, 6, 6, 6, 6, 6, 6, 6, 6, 6, 6, 6, 6, 6, 6, 6, 6, 7, 7, 7, 7, 7, 7, 7, 7, 7, 7, 7, 7, 7, 7, 7, 7, 7, 7, 7, 7, 7, 7, 7, 7, 7, 7, 7, 7, 7, 7, 7, 7, 7, 7, 7, 7, 7, 7, 7, 7, 7, 7, 7, 7, 7, 7, 7, 7, 7, 7, 7, 7, 7, 7, 7, 7, 7, 7, 7, 7, 7, 7, 7, 7, 8, 8, 8, 8, 8, 8, 8, 8, 8, 8, 8, 8, 8, 8, 8, 8, 8, 8, 8, 8, 8, 8, 8, 8, 8, 8, 8, 8, 8, 8, 8, 8, 8, 8, 8, 8, 8, 8, 8, 8, 8, 8, 8, 8, 8, 8, 8, 8, 8, 8, 8, 8, 8, 8, 8, 8, 8, 8, 8, 8, 8, 8, 8, 8, 8, 8, 8, 8, 8, 8, 8, 8, 8, 8, 8, 8, 8, 8, 8, 8, 8, 8, 8, 8, 8, 8, 8, 8, 8, 8, 8, 8, 8, 8, 8, 8, 8, 8, 8, 8, 8, 8, 8, 8, 8, 8, 8, 8, 8, 8, 8, 8, 8, 8, 8, 8, 8, 8, 8, 8, 8, 8, 8, 8, 8, 8, 8, 8] }) t21_20) fun t22_21 =>
oV (vConv (.int .i64) t22_21) fun t23_22 =>
oV (vInt .add t18_19 t23_22) fun t24_23 =>
Q (.returned t24_23) H) (
oV (vConv (.int .u8) t6_2) fun t21_24 =>
oV (vIndexStr (.string { data := #[0, 1, 2, 2, 3, 3, 3, 3, 4, 4, 4, 4, 4, 4, 4, 4, 5, 5, 5, 5, 5, 5, 5, 5, 5, 5, 5, 5, 5, 5, 5, 5, 6, 6, 6, 6, 6, 6, 6, 6, 6, 6, 6, 6, 6, 6, 6, 6, 6, 6, 6, 6, 6, 6, 6, 6, 6, 6, 6, 6, 6, 6, 6, 6, 7, 7, 7, 7, 7, 7, 7, 7, 7, 7, 7, 7, 7, 7, 7, 7, 7, 7, 7, 7, 7, 7, 7, 7, 7, 7, 7, 7, 7, 7, 7, 7, 7, 7, 7, 7, 7, 7, 7, 7, 7, 7, 7, 7, 7, 7, 7, 7, 7, 7, 7, 7, 7, 7, 7, 7, 7, 7, 7, 7, 7, 7, 7, 7, 8, 8, 8, 8, 8, 8, 8, 8, 8, 8, 8, 8, 8, 8, 8, 8, 8, 8, 8, 8, 8, 8, 8, 8, 8, 8, 8, 8, 8, 8, 8, 8, 8, 8, 8, 8, 8, 8, 8, 8, 8, 8, 8, 8, 8, 8, 8, 8, 8, 8, 8, 8, 8, 8, 8, 8, 8, 8, 8, 8, 8, 8, 8, 8, 8, 8, 8, 8, 8, 8, 8, 8, 8, 8, 8, 8, 8, 8, 8, 8, 8, 8, 8, 8, 8, 8, 8, 8, 8, 8, 8, 8, 8, 8, 8, 8, 8, 8, 8, 8, 8, 8, 8, 8, 8, 8, 8, 8, 8, 8, 8, 8, 8, 8, 8, 8, 8, 8, 8, 8, 8, 8, 8, 8, 8, 8, 8, 8] }) t21_24) fun t22_25 =>
oV (vConv (.int .i64) t22_25) fun t23_26 =>
oV (vInt .add (.int .i64 32) t23_26) fun t24_27 =>
Q (.returned t24_27) H))) (
oV (vInt .geq x0 (.int .u64 65536)) fun t8_28 =>
condK t8_28 (
oV (vInt .shr x0 (.int .u64 16)) fun t10_29 =>
oV (vInt .add (.int .i64 0) (.int .i64 16)) fun t12_30 =>
oV (vInt .geq t10_29 (.int .u64 256)) fun t14_31 =>
condK t14_31 (
oV (vInt .shr t10_29 (.int .u64 8)) fun t16_32 =>
oV (vInt .add t12_30 (.int .i64 8)) fun t18_33 =>
oV (vConv (.int .u8) t16_32) fun t21_34 =>
oV (vIndexStr (.string { data := #[0, 1, 2, 2, 3, 3, 3, 3, 4, 4, 4, 4, 4, 4, 4, 4, 5, 5, 5, 5, 5, 5, 5, 5, 5, 5, 5, 5, 5, 5, 5, 5, 6, 6, 6, 6, 6, 6, 6, 6, 6, 6, 6, 6, 6, 6, 6, 6, 6, 6, 6, 6, 6, 6, 6, 6, 6, 6, 6, 6, 6, 6, 6, 6, 7, 7, 7, 7, 7, 7, 7, 7, 7, 7, 7, 7, 7, 7, 7, 7, 7, 7, 7, 7, 7, 7, 7, 7, 7, 7, 7, 7, 7, 7, 7, 7, 7, 7, 7, 7, 7, 7, 7, 7, 7, 7, 7, 7, 7, 7, 7, 7, 7, 7, 7, 7, 7, 7, 7, 7, 7, 7, 7, 7, 7, 7, 7, 7, 8, 8, 8, 8, 8, 8, 8, 8, 8, 8, 8, 8, 8, 8, 8, 8, 8, 8, 8, 8, 8, 8, 8, 8, 8, 8, 8, 8, 8, 8, 8, 8, 8, 8, 8, 8, 8, 8, 8, 8, 8, 8, 8, 8, 8, 8, 8, 8, 8, 8, 8, 8, 8, 8, 8, 8, 8, 8, 8, 8, 8, 8, 8, 8, 8, 8, 8, 8, 8, 8, 8, 8, 8, 8, 8, 8, 8, 8, 8, 8, 8, 8, 8, 8, 8, 8, 8, 8, 8, 8, 8, 8, 8, 8, 8, 8, 8, 8, 8, 8, 8, 8, 8, 8, 8, 8, 8, 8, 8, 8, 8, 8, 8, 8, 8, 8, 8, 8, 8, 8, 8, 8, 8, 8, 8, 8, 8, 8] }) t21_34) fun t22_35 =>
oV (vConv (.int .i64) t22_35) fun t23_36 =>
oV (vInt .add t18_33 t23_36) fun t24_37 =>
Q (.returned t24_37) H) (
oV (vConv (.int .u8) t10_29) fun t21_38 =>
oV (vIndexStr (.string { data := #[0, 1, 2, 2, 3, 3, 3, 3, 4, 4, 4, 4, 4, 4, 4, 4, 5, 5, 5, 5, 5, 5, 5, 5, 5, 5, 5, 5, 5, 5, 5, 5, 6, 6, 6, 6, 6, 6, 6, 6, 6, 6, 6, 6, 6, 6, 6, 6, 6, 6, 6, 6, 6, 6, 6, 6, 6, 6, 6, 6, 6, 6, 6, 6, 7, 7, 7, 7, 7, 7, 7, 7, 7, 7, 7, 7, 7, 7, 7, 7, 7, 7, 7, 7, 7, 7, 7, 7, 7, 7, 7, 7, 7, 7, 7, 7, 7, 7, 7, 7, 7, 7, 7, 7, 7, 7, 7, 7, 7, 7, 7, 7, 7, 7, 7, 7, 7, 7, 7, 7, 7, 7, 7, 7, 7, 7, 7, 7, 8, 8, 8, 8, 8, 8, 8, 8, 8, 8, 8, 8, 8, 8, 8, 8, 8, 8, 8, 8, 8, 8, 8, 8, 8, 8, 8, 8, 8, 8, 8, 8, 8, 8, 8, 8, 8, 8, 8, 8, 8, 8, 8, 8, 8, 8, 8, 8, 8, 8, 8, 8, 8, 8, 8, 8, 8, 8, 8, 8, 8, 8, 8, 8, 8, 8, 8, 8, 8, 8, 8, 8, 8, 8, 8, 8, 8, 8, 8, 8, 8, 8, 8, 8, 8, 8, 8, 8, 8, 8, 8, 8, 8, 8, 8, 8, 8, 8, 8, 8, 8, 8, 8, 8, 8, 8, 8, 8, 8, 8, 8, 8, 8, 8, 8, 8, 8, 8, 8, 8, 8, 8, 8, 8, 8, 8, 8, 8] }) t21_38) fun t22_39 =>
oV (vConv (.int .i64) t22_39) fun t23_40 =>
oV (vInt .add t12_30 t23_40) fun t24_41 =>
Q (.returned t24_41) H)) (
oV (vInt .geq x0 (.int .u64 256)) fun t14_42 =>
condK t14_42 (
oV (vInt .shr x0 (.int .u64 8)) fun t16_43 =>
oV (vInt .add (.int .i64 0) (.int .i64 8)) fun t18_44 =>
oV (vConv (.int .u8) t16_43) fun t21_45 =>
oV (vIndexStr (.string { data := #[0, 1, 2, 2, 3, 3, 3, 3, 4, 4, 4, 4, 4, 4, 4, 4, 5, 5, 5, 5, 5, 5, 5, 5, 5, 5, 5, 5, 5, 5, 5, 5, 6, 6, 6, 6, 6, 6, 6, 6, 6, 6, 6, 6, 6, 6, 6, 6, 6, 6, 6, 6, 6, 6, 6, 6, 6, 6, 6, 6, 6, 6, 6, 6, 7, 7, 7, 7, 7, 7, 7, 7, 7, 7, 7, 7, 7, 7, 7, 7, 7, 7, 7, 7, 7, 7, 7, 7, 7, 7, 7, 7, 7, 7, 7, 7, 7, 7, 7, 7, 7, 7, 7, 7, 7, 7, 7, 7, 7, 7, 7, 7, 7, 7, 7, 7, 7, 7, 7, 7, 7, 7, 7, 7, 7, 7, 7, 7, 8, 8, 8, 8, 8, 8, 8, 8, 8, 8, 8, 8, 8, 8, 8, 8, 8, 8, 8, 8, 8, 8, 8, 8, 8, 8, 8, 8, 8, 8, 8, 8, 8, 8, 8, 8, 8, 8, 8, 8, 8, 8, 8, 8, 8, 8, 8, 8, 8, 8, 8, 8, 8, 8, 8, 8, 8, 8, 8, 8, 8, 8, 8, 8, 8, 8, 8, 8, 8, 8, 8, 8, 8, 8, 8, 8, 8, 8, 8, 8, 8, 8, 8, 8, 8, 8, 8, 8, 8, 8, 8, 8, 8, 8, 8, 8, 8, 8, 8, 8, 8, 8, 8, 8, 8, 8, 8, 8, 8, 8, 8, 8, 8, 8, 8, 8, 8, 8, 8, 8, 8, 8, 8, 8, 8, 8, 8, 8] }) t21_45) fun t22_46 =>
oV (vConv (.int .i64) t22_46) fun t23_47 =>
oV (vInt .add t18_44 t23_47) fun t24_48 =>
Q (.returned t24_48) H) (
oV (vConv (.int .u8) x0) fun t21_49 =>
oV (vIndexStr (.string { data := #[0, 1, 2, 2, 3, 3, 3, 3, 4, 4, 4, 4, 4, 4, 4, 4, 5, 5, 5, 5, 5, 5, 5, 5, 5, 5, 5, 5, 5, 5, 5, 5, 6, 6, 6, 6, 6, 6, 6, 6, 6, 6, 6, 6, 6, 6, 6, 6, 6, 6, 6, 6, 6, 6, 6, 6, 6, 6, 6, 6, 6, 6, 6, 6, 7, 7, 7, 7, 7, 7, 7, 7, 7, 7, 7, 7, 7, 7, 7, 7, 7, 7, 7, 7, 7, 7, 7, 7, 7, 7, 7, 7, 7, 7, 7, 7, 7, 7, 7, 7, 7, 7, 7, 7, 7, 7, 7, 7, 7, 7, 7, 7, 7, 7, 7, 7, 7, 7, 7, 7, 7, 7, 7, 7, 7, 7, 7, 7, 8, 8, 8, 8, 8, 8, 8, 8, 8, 8, 8, 8, 8, 8, 8, 8, 8, 8, 8, 8, 8, 8, 8, 8, 8, 8, 8, 8, 8, 8, 8, 8, 8, 8, 8, 8, 8, 8, 8, 8, 8, 8, 8, 8, 8, 8, 8, 8, 8, 8, 8, 8, 8, 8, 8, 8, 8, 8, 8, 8, 8, 8, 8, 8, 8, 8, 8, 8, 8, 8, 8, 8, 8, 8, 8, 8, 8, 8, 8, 8, 8, 8, 8, 8, 8, 8, 8, 8, 8, 8, 8, 8, 8, 8, 8, 8, 8, 8, 8, 8, 8, 8, 8, 8, 8, 8, 8, 8, 8, 8, 8, 8, 8, 8, 8, 8, 8, 8, 8, 8, 8, 8, 8, 8, 8, 8, 8, 8] }) t21_49) fun t22_50 =>
oV (vConv (.int .i64) t22_50) fun t23_51 =>
oV (vInt .add (.int .i64 0) t23_51) fun t24_52 =>
Q (.returned t24_52) H)))
theorem c43_0 (env : Env) (H : Heap) (Q : Ending → Heap → Prop) (h : m43 (env 0) H Q) :
    RCode Try.prog 25 (bodyOf Try.f43) env H (mkK (retK T Try.f43.results.toList Q) (fun _ _ _ => False) (retK T Try.f43.results.toList Q) (fun c H => Q (.panicked c) H)) :=
  RCode.leaf_ (T := T) (X := ext) (hint := hint43) tok xok mixed (by kernel_rfl) h
theorem call43 (a0 : Value) (H : Heap) (Q : Ending → Heap → Prop) (h : m43 a0 H Q) : RCalls Try.prog 43 [a0] H Q :=
  RCalls.intro (nt := 25) tok Try.func43 (by kernel_rfl) (by kernel_rfl) (by kernel_rfl) (of_decide_eq_true (by kernel_rfl)) (c43_0 (envOf [a0]) H Q h)
/-! ### 40: privity/field.width -/
def hint40 : Nat → List Nat := lookupL []
def m40 (x0 : Value) (H : Heap) (Q : Ending → Heap → Prop) : Prop :=
oRC Try.prog 43 [x0] H (fun c H => Q (.panicked c) H) fun v_1 H_2 =>
oV (vConv (.int .u64) v_1) fun t5_3 =>
Q (.returned t5_3) H_2
theorem c40_0 (env : Env) (H : Heap) (Q : Ending → Heap → Prop) (h : m40 (env 0) H Q) :
    RCode Try.prog 6 (bodyOf Try.f40) env H (mkK (retK T Try.f40.results.toList Q) (fun _ _ _ => False) (retK T Try.f40.results.toList Q) (fun c H => Q (.panicked c) H)) :=
  RCode.leaf_ (T := T) (X := ext) (hint := hint40) tok xok mixed (by kernel_rfl) h
theorem call40 (a0 : Value) (H : Heap) (Q : Ending → Heap → Prop) (h : m40 a0 H Q) : RCalls Try.prog 40 [a0] H Q :=
  RCalls.intro (nt := 6) tok Try.func40 (by kernel_rfl) (by kernel_rfl) (by kernel_rfl) (of_decide_eq_true (by kernel_rfl)) (c40_0 (envOf [a0]) H Q h)
/-! ### 37: privity/field.fold -/
def hint37 : Nat → List Nat := lookupL []
def m37_1 (x0 x2 : Value) (H : Heap) (Q : Ending → Heap → Prop) : Prop :=
oV (vInt .eql x2 x0) fun t46_1 =>
condK t46_1 (
Q (.returned (.int .u64 0)) H) (
Q (.returned x2) H)
theorem c37_1 (env : Env) (H : Heap) (Q : Ending → Heap → Prop) (h : m37_1 (env 0) (env 2) H Q) :
    RCode Try.prog 48 (codeAt [1, 1, 1] (bodyOf Try.f37)) env H (mkK (retK T Try.f37.results.toList Q) (fun _ _ _ => False) (retK T Try.f37.results.toList Q) (fun c H => Q (.panicked c) H)) :=
  RCode.leaf_ (T := T) (X := ext) (hint := hint37) tok xok mixed (by kernel_rfl) h
def L37_2 (x0 x1 x2 x7 : Value) (H : Heap) (kn : Value → Value → Heap → Prop) (Q : Ending → Heap → Prop) : Prop :=
  ∀ env : Env, env 0 = x0 → env 1 = x1 → env 2 = x2 → env 7 = x7 → RLoop Try.prog 48 (codeAt [1, 1, 0, 0, 0] (bodyOf Try.f37)) env H (mkK (fun _ _ => False) (inK 0 (fun e H => kn (e 0) (e 2) H) (fun _ _ _ => False)) (retK T Try.f37.results.toList Q) (fun c H => Q (.panicked c) H))
theorem cL37_2 (env : Env) (H : Heap) (kn : Value → Value → Heap → Prop) (Q : Ending → Heap → Prop) (h : L37_2 (env 0) (env 1) (env 2) (env 7) H kn Q) :
    RCode Try.prog 48 (codeAt [1, 1, 0] (bodyOf Try.f37)) env H (mkK (fun e H => kn (e 0) (e 2) H) (fun _ _ _ => False) (retK T Try.f37.results.toList Q) (fun c H => Q (.panicked c) H)) :=
  RCode.blk (by kernel_rfl : (codeAt [1, 1, 0] (bodyOf Try.f37)) = .block 0 (codeAt [1, 1, 0, 0] (bodyOf Try.f37))) (RCode.lp (by kernel_rfl : (codeAt [1, 1, 0, 0] (bodyOf Try.f37)) = .loop (codeAt [1, 1, 0, 0, 0] (bodyOf Try.f37))) ((h env rfl rfl rfl rfl).mono (mkK_mono (fun _ _ h => h.elim) (fun _ _ _ h => h) (fun _ _ h => h) (fun _ _ h => h))))
def m37_3 (x0 x1 x2 x7 : Value) (H : Heap) (kn : Value → Value → Value → Value → Heap → Prop) (kx0 : Value → Value → Heap → Prop) (Q : Ending → Heap → Prop) : Prop :=
oV (vInt .neq x1 (.int .u64 0)) fun t14_2 =>
oV (gV t14_2 false (some x2) (some undef)) fun t16_3 =>
oV (gV t14_2 false (some x0) (some undef)) fun t17_4 =>
oV (gV t14_2 false (vInt .gtr t16_3 t17_4) (some undef)) fun t18_5 =>
oV (vPick t14_2 (.bool true) t18_5) fun t19_6 =>
condK t19_6 (
oV (vInt .and x2 x0) fun t22_7 =>
oV (vInt .shr x2 x7) fun t25_8 =>
oV (vInt .sub (.int .u64 64) x7) fun t28_9 =>
oV (vInt .shl x1 t28_9) fun t29_10 =>
oV (vInt .or t25_8 t29_10) fun t30_11 =>
oV (vInt .shr x1 x7) fun t33_12 =>
oV (vAdd64 [t30_11, t22_7, (.int .u64 0)]) fun v_13 =>
oV (vExtract v_13 0) fun t38_15 =>
oV (vExtract v_13 1) fun t39_16 =>
oV (vInt .add t33_12 t39_16) fun t43_17 =>
kn x0 t43_17 t38_15 x7 H) (
kx0 x0 x2 H)
theorem c37_3 (env : Env) (H : Heap) (kn : Value → Value → Value → Value → Heap → Prop) (kx0 : Value → Value → Heap → Prop) (Q : Ending → Heap → Prop) (h : m37_3 (env 0) (env 1) (env 2) (env 7) H kn kx0 Q) :
    RCode Try.prog 48 (codeAt [1, 1, 0, 0, 0] (bodyOf Try.f37)) env H (mkK (fun e H => kn (e 0) (e 1) (e 2) (e 7) H) (inK 0 (fun e H => kx0 (e 0) (e 2) H) (fun _ _ _ => False)) (retK T Try.f37.results.toList Q) (fun c H => Q (.panicked c) H)) :=
  RCode.leaf_ (T := T) (X := ext) (hint := hint37) tok xok mixed (by kernel_rfl) h
theorem L37_2_round (x0 x1 x2 x7 : Value) (H : Heap) (kn : Value → Value → Heap → Prop) (Q : Ending → Heap → Prop) (h : m37_3 x0 x1 x2 x7 H (fun y0 y1 y2 y7 H => L37_2 y0 y1 y2 y7 H kn Q) kn Q) : L37_2 x0 x1 x2 x7 H kn Q := by
  intro env h0 h1 h2 h7
  subst h0; subst h1; subst h2; subst h7
  exact RLoop.round ((c37_3 env H (fun y0 y1 y2 y7 H => L37_2 y0 y1 y2 y7 H kn Q) kn Q h).mono (mkK_mono (fun e H h => h e rfl rfl rfl rfl) (fun _ _ _ h => h) (fun _ _ h => h) (fun _ _ h => h)))
def m37 (x0 x1 x2 : Value) (H : Heap) (Q : Ending → Heap → Prop) : Prop :=
oRC Try.prog 40 [x0] H (fun c H => Q (.panicked c) H) fun v_18 H_19 =>
L37_2 x0 x1 x2 v_18 H_19 (fun y0_20 y2_21 H_22 => m37_1 y0_20 y2_21 H_22 Q) Q
theorem c37_0 (env : Env) (H : Heap) (Q : Ending → Heap → Prop) (h : m37 (env 0) (env 1) (env 2) H Q) :
    RCode Try.prog 48 (bodyOf Try.f37) env H (mkK (retK T Try.f37.results.toList Q) (fun _ _ _ => False) (retK T Try.f37.results.toList Q) (fun c H => Q (.panicked c) H)) :=
  RCode.prefix_ (T := T) (X := ext) (hint := hint37) (hole := (fun e H => L37_2 (e 0) (e 1) (e 2) (e 7) H (fun y0_23 y2_24 H_25 => m37_1 y0_23 y2_24 H_25 Q) Q)) tok xok mixed 2 (by kernel_rfl) (by kernel_rfl : codeAt _ _ = (codeAt [1, 1] (bodyOf Try.f37))) h
    (fun e H h => RCode.join (by kernel_rfl : (codeAt [1, 1] (bodyOf Try.f37)) = .seq (codeAt [1, 1, 0] (bodyOf Try.f37)) (codeAt [1, 1, 1] (bodyOf Try.f37))) ((cL37_2 e H (fun y0_26 y2_27 H_28 => m37_1 y0_26 y2_27 H_28 Q) Q h).mono (mkK_mono (fun e H h => c37_1 e H Q h) (fun _ _ _ h => h) (fun _ _ h => h) (fun _ _ h => h))))
theorem call37 (a0 a1 a2 : Value) (H : Heap) (Q : Ending → Heap → Prop) (h : m37 a0 a1 a2 H Q) : RCalls Try.prog 37 [a0, a1, a2] H Q :=
  RCalls.intro (nt := 48) tok Try.func37 (by kernel_rfl) (by kernel_rfl) (by kernel_rfl) (of_decide_eq_true (by kernel_rfl)) (c37_0 (envOf [a0, a1, a2]) H Q h)
/-! ### 27: privity/field.Reduce -/
def hint27 : Nat → List Nat := lookupL []
def m27 (x0 x1 : Value) (H : Heap) (Q : Ending → Heap → Prop) : Prop :=
oRC Try.prog 37 [x0, (.int .u64 0), x1] H (fun c H => Q (.panicked c) H) fun v_1 H_2 =>
Q (.returned v_1) H_2
theorem c27_0 (env : Env) (H : Heap) (Q : Ending → Heap → Prop) (h : m27 (env 0) (env 1) H Q) :
    RCode Try.prog 8 (bodyOf Try.f27) env H (mkK (retK T Try.f27.results.toList Q) (fun _ _ _ => False) (retK T Try.f27.results.toList Q) (fun c H => Q (.panicked c) H)) :=
  RCode.leaf_ (T := T) (X := ext) (hint := hint27) tok xok mixed (by kernel_rfl) h
theorem call27 (a0 a1 : Value) (H : Heap) (Q : Ending → Heap → Prop) (h : m27 a0 a1 H Q) : RCalls Try.prog 27 [a0, a1] H Q :=
  RCalls.intro (nt := 8) tok Try.func27 (by kernel_rfl) (by kernel_rfl) (by kernel_rfl) (of_decide_eq_true (by kernel_rfl)) (c27_0 (envOf [a0, a1]) H Q h)
/-! ### 28: slices.Clone[[]uint64,uint64] -/
def hint28 : Nat → List Nat := lookupL []
def m28 (x0 : Value) (H : Heap) (Q : Ending → Heap → Prop) : Prop :=
oV (vNilOp .eql x0 (.slice none 0 0)) fun t4_1 =>
condK t4_1 (
Q (.returned (.slice none 0 0)) H) (
oBuildS ty22 22 0 [] H fun s_2 H_3 =>
oAppend ty22 22 s_2 x0 H_3 fun v_4 H_5 =>
Q (.returned v_4) H_5)
theorem c28_0 (env : Env) (H : Heap) (Q : Ending → Heap → Prop) (h : m28 (env 0) H Q) :
    RCode Try.prog 8 (bodyOf Try.f28) env H (mkK (retK T Try.f28.results.toList Q) (fun _ _ _ => False) (retK T Try.f28.results.toList Q) (fun c H => Q (.panicked c) H)) :=
  RCode.leaf_ (T := T) (X := ext) (hint := hint28) tok xok mixed (by kernel_rfl) h
theorem call28 (a0 : Value) (H : Heap) (Q : Ending → Heap → Prop) (h : m28 a0 H Q) : RCalls Try.prog 28 [a0] H Q :=
  RCalls.intro (nt := 8) tok Try.func28 (by kernel_rfl) (by kernel_rfl) (by kernel_rfl) (of_decide_eq_true (by kernel_rfl)) (c28_0 (envOf [a0]) H Q h)
/-! ### 29: privity/field.Add -/
def hint29 : Nat → List Nat := lookupL []
def m29 (x0 x1 x2 : Value) (H : Heap) (Q : Ending → Heap → Prop) : Prop :=
oV (vInt .add x1 x2) fun t10_1 =>
oRC Try.prog 37 [x0, (.int .u64 0), t10_1] H (fun c H => Q (.panicked c) H) fun v_2 H_3 =>
Q (.returned v_2) H_3
theorem c29_0 (env : Env) (H : Heap) (Q : Ending → Heap → Prop) (h : m29 (env 0) (env 1) (env 2) H Q) :
    RCode Try.prog 12 (bodyOf Try.f29) env H (mkK (retK T Try.f29.results.toList Q) (fun _ _ _ => False) (retK T Try.f29.results.toList Q) (fun c H => Q (.panicked c) H)) :=
  RCode.leaf_ (T := T) (X := ext) (hint := hint29) tok xok mixed (by kernel_rfl) h
theorem call29 (a0 a1 a2 : Value) (H : Heap) (Q : Ending → Heap → Prop) (h : m29 a0 a1 a2 H Q) : RCalls Try.prog 29 [a0, a1, a2] H Q :=
  RCalls.intro (nt := 12) tok Try.func29 (by kernel_rfl) (by kernel_rfl) (by kernel_rfl) (of_decide_eq_true (by kernel_rfl)) (c29_0 (envOf [a0, a1, a2]) H Q h)
/-! ### 30: privity/adversary.word -/
def hint30 : Nat → List Nat := lookupL []
def m30 (x0 x1 : Value) (H : Heap) (Q : Ending → Heap → Prop) : Prop :=
oV (vInt .lss x1 (.int .i64 0)) fun t6_1 =>
oV (gV t6_1 false (some x1) (some undef)) fun t8_2 =>
oV (gV t6_1 false (some x0) (some undef)) fun t9_3 =>
oV (gV t6_1 false (vLen t9_3) (some undef)) fun t10_4 =>
oV (gV t6_1 false (vInt .geq t8_2 t10_4) (some undef)) fun t11_5 =>
oV (vPick t6_1 (.bool true) t11_5) fun t12_6 =>
condK t12_6 (
Q (.returned (.int .u64 0)) H) (
oV (vIdxS 1 x0 x1) fun t15_7 =>
oV (vLoad ty22 t15_7 H) fun t16_8 =>
Q (.returned t16_8) H)
theorem c30_0 (env : Env) (H : Heap) (Q : Ending → Heap → Prop) (h : m30 (env 0) (env 1) H Q) :
    RCode Try.prog 17 (bodyOf Try.f30) env H (mkK (retK T Try.f30.results.toList Q) (fun _ _ _ => False) (retK T Try.f30.results.toList Q) (fun c H => Q (.panicked c) H)) :=
  RCode.leaf_ (T := T) (X := ext) (hint := hint30) tok xok mixed (by kernel_rfl) h
theorem call30 (a0 a1 : Value) (H : Heap) (Q : Ending → Heap → Prop) (h : m30 a0 a1 H Q) : RCalls Try.prog 30 [a0, a1] H Q :=
  RCalls.intro (nt := 17) tok Try.func30 (by kernel_rfl) (by kernel_rfl) (by kernel_rfl) (of_decide_eq_true (by kernel_rfl)) (c30_0 (envOf [a0, a1]) H Q h)
/-! ### 38: math/bits.Mul64 -/
def hint38 : Nat → List Nat := lookupL []
def m38 (x0 x1 : Value) (H : Heap) (Q : Ending → Heap → Prop) : Prop :=
oV (vInt .and x0 (.int .u64 4294967295)) fun t15_1 =>
oV (vInt .shr x0 (.int .u64 32)) fun t17_2 =>
oV (vInt .and x1 (.int .u64 4294967295)) fun t19_3 =>
oV (vInt .shr x1 (.int .u64 32)) fun t21_4 =>
oV (vInt .mul t15_1 t19_3) fun t24_5 =>
oV (vInt .mul t17_2 t19_3) fun t27_6 =>
oV (vInt .shr t24_5 (.int .u64 32)) fun t29_7 =>
oV (vInt .add t27_6 t29_7) fun t30_8 =>
oV (vInt .and t30_8 (.int .u64 4294967295)) fun t32_9 =>
oV (vInt .shr t30_8 (.int .u64 32)) fun t34_10 =>
oV (vInt .mul t15_1 t21_4) fun t38_11 =>
oV (vInt .add t32_9 t38_11) fun t39_12 =>
oV (vInt .mul t17_2 t21_4) fun t42_13 =>
oV (vInt .add t42_13 t34_10) fun t44_14 =>
oV (vInt .shr t39_12 (.int .u64 32)) fun t46_15 =>
oV (vInt .add t44_14 t46_15) fun t47_16 =>
oV (vInt .mul x0 x1) fun t50_17 =>
Q (.returned (.tuple #[t47_16, t50_17])) H
theorem c38_0 (env : Env) (H : Heap) (Q : Ending → Heap → Prop) (h : m38 (env 0) (env 1) H Q) :
    RCode Try.prog 51 (bodyOf Try.f38) env H (mkK (retK T Try.f38.results.toList Q) (fun _ _ _ => False) (retK T Try.f38.results.toList Q) (fun c H => Q (.panicked c) H)) :=
  RCode.leaf_ (T := T) (X := ext) (hint := hint38) tok xok mixed (by kernel_rfl) h
theorem call38 (a0 a1 : Value) (H : Heap) (Q : Ending → Heap → Prop) (h : m38 a0 a1 H Q) : RCalls Try.prog 38 [a0, a1] H Q :=
  RCalls.intro (nt := 51) tok Try.func38 (by kernel_rfl) (by kernel_rfl) (by kernel_rfl) (of_decide_eq_true (by kernel_rfl)) (c38_0 (envOf [a0, a1]) H Q h)
/-! ### 31: privity/field.Mul -/
def hint31 : Nat → List Nat := lookupL []
def m31 (x0 x1 x2 : Value) (H : Heap) (Q : Ending → Heap → Prop) : Prop :=
oRC Try.prog 38 [x1, x2] H (fun c H => Q (.panicked c) H) fun v_1 H_2 =>
oV (vExtract v_1 0) fun t13_3 =>
oV (vExtract v_1 1) fun t14_4 =>
oRC Try.prog 37 [x0, t13_3, t14_4] H_2 (fun c H => Q (.panicked c) H) fun v_5 H_6 =>
Q (.returned v_5) H_6
theorem c31_0 (env : Env) (H : Heap) (Q : Ending → Heap → Prop) (h : m31 (env 0) (env 1) (env 2) H Q) :
    RCode Try.prog 19 (bodyOf Try.f31) env H (mkK (retK T Try.f31.results.toList Q) (fun _ _ _ => False) (retK T Try.f31.results.toList Q) (fun c H => Q (.panicked c) H)) :=
  RCode.leaf_ (T := T) (X := ext) (hint := hint31) tok xok mixed (by kernel_rfl) h
theorem call31 (a0 a1 a2 : Value) (H : Heap) (Q : Ending → Heap → Prop) (h : m31 a0 a1 a2 H Q) : RCalls Try.prog 31 [a0, a1, a2] H Q :=
  RCalls.intro (nt := 19) tok Try.func31 (by kernel_rfl) (by kernel_rfl) (by kernel_rfl) (of_decide_eq_true (by kernel_rfl)) (c31_0 (envOf [a0, a1, a2]) H Q h)
/-! ### 18: privity/adversary.upon -/
def hint18 : Nat → List Nat := lookupL [(12, [0, 1, 2, 3, 4, 5, 6, 7, 8, 9, 10, 11, 12]), (17, [0, 1, 2, 3, 4, 5, 6, 7, 8, 9, 10, 11, 12, 13, 14, 15])]
def m18 (x0 x1 x2 x3 : Value) (H : Heap) (Q : Ending → Heap → Prop) : Prop :=
oNew (Value.cells x0).toList (Value.cells x0).toList.length 29 H fun i_1 H_2 =>
oNew (Value.cells x1).toList (Value.cells x1).toList.length 44 H_2 fun i_3 H_4 =>
oV (vField 4 (ptrTo i_3)) fun t12_5 =>
oV (vLoad ty3 t12_5 H_4) fun t13_6 =>
oV (vInt .eql t13_6 (.int .i64 4)) fun t14_7 =>
condK t14_7 (
Q (.returned (.slice none 0 0)) H_4) (
oV (vField 3 (ptrTo i_3)) fun t15_8 =>
oV (vLoad ty3 t15_8 H_4) fun t16_9 =>
oV (vLen x2) fun t18_10 =>
oV (vInt .geq t16_9 t18_10) fun t19_11 =>
condK t19_11 (
Q (.returned x2) H_4) (
oV (vField 0 (ptrTo i_1)) fun t21_12 =>
oV (vField 0 t21_12) fun t22_13 =>
oV (vLoad ty22 t22_13 H_4) fun t23_14 =>
oV (vField 5 (ptrTo i_3)) fun t25_15 =>
oV (vLoad ty22 t25_15 H_4) fun t26_16 =>
oRC Try.prog 27 [t23_14, t26_16] H_4 (fun c H => Q (.panicked c) H) fun v_17 H_18 =>
oRC Try.prog 28 [x2] H_18 (fun c H => Q (.panicked c) H) fun v_19 H_20 =>
oV (vField 4 (ptrTo i_3)) fun t30_21 =>
oV (vLoad ty3 t30_21 H_20) fun t31_22 =>
oV (vInt .eql t31_22 (.int .i64 1)) fun t33_23 =>
condK t33_23 (
oV (vField 3 (ptrTo i_3)) fun t35_24 =>
oV (vLoad ty3 t35_24 H_20) fun t36_25 =>
oV (vIdxS 1 v_19 t36_25) fun t38_26 =>
oHeap (vStore ty22 t38_26 v_17 H_20) fun H_27 =>
Q (.returned v_19) H_27) (
oV (vInt .eql t31_22 (.int .i64 2)) fun t40_28 =>
condK t40_28 (
oV (vField 3 (ptrTo i_3)) fun t42_29 =>
oV (vLoad ty3 t42_29 H_20) fun t43_30 =>
oV (vField 3 (ptrTo i_3)) fun t46_31 =>
oV (vLoad ty3 t46_31 H_20) fun t47_32 =>
oV (vIdxS 1 v_19 t47_32) fun t48_33 =>
oV (vLoad ty22 t48_33 H_20) fun t49_34 =>
oRC Try.prog 29 [t23_14, t49_34, v_17] H_20 noP fun v_35 H_36 =>
(vLoad ty3 t42_29 H_36 = some t43_30 ∧
oV (vIdxS 1 v_19 t43_30) fun t52_37 =>
oHeap (vStore ty22 t52_37 v_35 H_36) fun H_38 =>
Q (.returned v_19) H_38)) (
oV (vInt .eql t31_22 (.int .i64 3)) fun t54_39 =>
condK t54_39 (
oV (vField 3 (ptrTo i_1)) fun t55_40 =>
oV (vLoad ty25 t55_40 H_20) fun t56_41 =>
oV (vField 6 (ptrTo i_3)) fun t57_42 =>
oV (vLoad ty3 t57_42 H_20) fun t58_43 =>
oRC Try.prog 26 [t56_41, t58_43] H_20 (fun c H => Q (.panicked c) H) fun v_44 H_45 =>
oV (vUn .not v_44) fun t60_46 =>
condK t60_46 (
oV (vField 7 (ptrTo i_3)) fun t62_47 =>
oV (vLoad ty3 t62_47 H_45) fun t63_48 =>
oRC Try.prog 30 [x3, t63_48] H_45 (fun c H => Q (.panicked c) H) fun v_49 H_50 =>
oV (vField 3 (ptrTo i_3)) fun t66_51 =>
oV (vLoad ty3 t66_51 H_50) fun t67_52 =>
oV (vField 3 (ptrTo i_3)) fun t70_53 =>
oV (vLoad ty3 t70_53 H_50) fun t71_54 =>
oV (vIdxS 1 v_19 t71_54) fun t72_55 =>
oV (vLoad ty22 t72_55 H_50) fun t73_56 =>
oRC Try.prog 31 [t23_14, v_17, v_49] H_50 noP fun v_57 H_58 =>
(vLoad ty22 t72_55 H_58 = some t73_56 ∧
(vLoad ty3 t70_53 H_58 = some t71_54 ∧
(vLoad ty3 t66_51 H_58 = some t67_52 ∧
oRC Try.prog 29 [t23_14, t73_56, v_57] H_58 noP fun v_59 H_60 =>
(vLoad ty3 t66_51 H_60 = some t67_52 ∧
oV (vIdxS 1 v_19 t67_52) fun t79_61 =>
oHeap (vStore ty22 t79_61 v_59 H_60) fun H_62 =>
Q (.returned v_19) H_62))))) (
oV (vField 3 (ptrTo i_3)) fun t66_63 =>
oV (vLoad ty3 t66_63 H_45) fun t67_64 =>
oV (vField 3 (ptrTo i_3)) fun t70_65 =>
oV (vLoad ty3 t70_65 H_45) fun t71_66 =>
oV (vIdxS 1 v_19 t71_66) fun t72_67 =>
oV (vLoad ty22 t72_67 H_45) fun t73_68 =>
oRC Try.prog 31 [t23_14, v_17, (.int .u64 0)] H_45 noP fun v_69 H_70 =>
(vLoad ty22 t72_67 H_70 = some t73_68 ∧
(vLoad ty3 t70_65 H_70 = some t71_66 ∧
(vLoad ty3 t66_63 H_70 = some t67_64 ∧
oRC Try.prog 29 [t23_14, t73_68, v_69] H_70 noP fun v_71 H_72 =>
(vLoad ty3 t66_63 H_72 = some t67_64 ∧
oV (vIdxS 1 v_19 t67_64) fun t79_73 =>
oHeap (vStore ty22 t79_73 v_71 H_72) fun H_74 =>
Q (.returned v_19) H_74)))))) (
Q (.returned v_19) H_20)))))
theorem c18_0 (env : Env) (H : Heap) (Q : Ending → Heap → Prop) (h : m18 (env 0) (env 1) (env 2) (env 3) H Q) :
    RCode Try.prog 81 (bodyOf Try.f18) env H (mkK (retK T Try.f18.results.toList Q) (fun _ _ _ => False) (retK T Try.f18.results.toList Q) (fun c H => Q (.panicked c) H)) :=
  RCode.leaf_ (T := T) (X := ext) (hint := hint18) tok xok mixed (by kernel_rfl) h
theorem call18 (a0 a1 a2 a3 : Value) (H : Heap) (Q : Ending → Heap → Prop) (h : m18 a0 a1 a2 a3 H Q) : RCalls Try.prog 18 [a0, a1, a2, a3] H Q :=
  RCalls.intro (nt := 81) tok Try.func18 (by kernel_rfl) (by kernel_rfl) (by kernel_rfl) (of_decide_eq_true (by kernel_rfl)) (c18_0 (envOf [a0, a1, a2, a3]) H Q h)
/-! ### 8: privity/adversary.ApplyToBroadcasts -/
def hint8 : Nat → List Nat := lookupL [(9, [0, 1, 2, 3, 4, 5, 6, 7, 8, 9, 10, 11, 12, 13, 14, 15])]
def m8_1 (x7 : Value) (H : Heap) (Q : Ending → Heap → Prop) : Prop :=
Q (.returned x7) H
theorem c8_1 (env : Env) (H : Heap) (Q : Ending → Heap → Prop) (h : m8_1 (env 7) H Q) :
    RCode Try.prog 51 (codeAt [1, 1, 1] (bodyOf Try.f8)) env H (mkK (retK T Try.f8.results.toList Q) (fun _ _ _ => False) (retK T Try.f8.results.toList Q) (fun c H => Q (.panicked c) H)) :=
  RCode.leaf_ (T := T) (X := ext) (hint := hint8) tok xok mixed (by kernel_rfl) h
def L8_3 (x1 x2 x3 x7 x14 x15 x16 : Value) (H : Heap) (kn : Value → Heap → Prop) (Q : Ending → Heap → Prop) : Prop :=
  ∀ env : Env, env 1 = x1 → env 2 = x2 → env 3 = x3 → env 7 = x7 → env 14 = x14 → env 15 = x15 → env 16 = x16 → RLoop Try.prog 51 (codeAt [1, 1, 0, 1, 0, 0] (bodyOf Try.f8)) env H (mkK (fun _ _ => False) (inK 0 (fun e H => kn (e 7) H) (fun _ _ _ => False)) (retK T Try.f8.results.toList Q) (fun c H => Q (.panicked c) H))
theorem cL8_3 (env : Env) (H : Heap) (kn : Value → Heap → Prop) (Q : Ending → Heap → Prop) (h : L8_3 (env 1) (env 2) (env 3) (env 7) (env 14) (env 15) (env 16) H kn Q) :
    RCode Try.prog 51 (codeAt [1, 1, 0, 1] (bodyOf Try.f8)) env H (mkK (fun e H => kn (e 7) H) (fun _ _ _ => False) (retK T Try.f8.results.toList Q) (fun c H => Q (.panicked c) H)) :=
  RCode.blk (by kernel_rfl : (codeAt [1, 1, 0, 1] (bodyOf Try.f8)) = .block 0 (codeAt [1, 1, 0, 1, 0] (bodyOf Try.f8))) (RCode.lp (by kernel_rfl : (codeAt [1, 1, 0, 1, 0] (bodyOf Try.f8)) = .loop (codeAt [1, 1, 0, 1, 0, 0] (bodyOf Try.f8))) ((h env rfl rfl rfl rfl rfl rfl rfl).mono (mkK_mono (fun _ _ h => h.elim) (fun _ _ _ h => h) (fun _ _ h => h) (fun _ _ h => h))))
def m8_4 (x1 x2 x3 x7 x14 x15 x16 : Value) (H : Heap) (kn : Value → Value → Value → Value → Value → Value → Value → Heap → Prop) (kx0 : Value → Heap → Prop) (Q : Ending → Heap → Prop) : Prop :=
oV (vInt .lss x16 x15) fun t17_1 =>
condK t17_1 (
oV (vIdxS 8 x14 x16) fun t18_2 =>
oV (vLoad ty44 t18_2 H) fun t19_3 =>
oNew (Value.cells ty44.zero).toList (Value.cells ty44.zero).toList.length 44 H fun i_4 H_5 =>
oHeap (vStore ty44 (ptrTo i_4) t19_3 H_5) fun H_6 =>
oV (vLoad ty29 x3 H_6) fun t20_7 =>
oV (vLoad ty44 (ptrTo i_4) H_6) fun t21_8 =>
oRC Try.prog 17 [t20_7, t21_8, x1] H_6 (fun c H => Q (.panicked c) H) fun v_9 H_10 =>
oV (vUn .not v_9) fun t24_11 =>
condK t24_11 (
oV (vInt .add x16 (.int .i64 1)) fun t49_12 =>
kn x1 x2 x3 x7 x14 x15 t49_12 H_10) (
oV (vField 4 (ptrTo i_4)) fun t25_13 =>
oV (vLoad ty3 t25_13 H_10) fun t26_14 =>
oV (vInt .eql t26_14 (.int .i64 3)) fun t27_15 =>
condK t27_15 (
oV (vField 6 (ptrTo i_4)) fun t29_16 =>
oV (vLoad ty3 t29_16 H_10) fun t30_17 =>
oV (vInt .sub t30_17 (.int .i64 1)) fun t31_18 =>
oV (vIdxS 1 x2 t31_18) fun t32_19 =>
oV (vLoad ty41 t32_19 H_10) fun t33_20 =>
oV (vField 1 (ptrTo i_4)) fun t35_21 =>
oV (vLoad ty3 t35_21 H_10) fun t36_22 =>
oV (vInt .sub t36_22 (.int .i64 1)) fun t37_23 =>
oV (vLoad ty29 x3 H_10) fun t38_24 =>
oV (vLoad ty44 (ptrTo i_4) H_10) fun t39_25 =>
oV (vField 1 (ptrTo i_4)) fun t41_26 =>
oV (vLoad ty3 t41_26 H_10) fun t42_27 =>
oV (vInt .sub t42_27 (.int .i64 1)) fun t43_28 =>
oV (vIdxS 1 x7 t43_28) fun t44_29 =>
oV (vLoad ty41 t44_29 H_10) fun t45_30 =>
oRC Try.prog 18 [t38_24, t39_25, t45_30, t33_20] H_10 noP fun v_31 H_32 =>
(vLoad ty3 t35_21 H_32 = some t36_22 ∧
oV (vIdxS 1 x7 t37_23) fun t48_33 =>
oHeap (vStore ty41 t48_33 v_31 H_32) fun H_34 =>
oV (vInt .add x16 (.int .i64 1)) fun t49_35 =>
kn x1 x2 x3 x7 x14 x15 t49_35 H_34)) (
oV (vField 1 (ptrTo i_4)) fun t35_36 =>
oV (vLoad ty3 t35_36 H_10) fun t36_37 =>
oV (vInt .sub t36_37 (.int .i64 1)) fun t37_38 =>
oV (vLoad ty29 x3 H_10) fun t38_39 =>
oV (vLoad ty44 (ptrTo i_4) H_10) fun t39_40 =>
oV (vField 1 (ptrTo i_4)) fun t41_41 =>
oV (vLoad ty3 t41_41 H_10) fun t42_42 =>
oV (vInt .sub t42_42 (.int .i64 1)) fun t43_43 =>
oV (vIdxS 1 x7 t43_43) fun t44_44 =>
oV (vLoad ty41 t44_44 H_10) fun t45_45 =>
oRC Try.prog 18 [t38_39, t39_40, t45_45, (.slice none 0 0)] H_10 noP fun v_46 H_47 =>
(vLoad ty3 t35_36 H_47 = some t36_37 ∧
oV (vIdxS 1 x7 t37_38) fun t48_48 =>
oHeap (vStore ty41 t48_48 v_46 H_47) fun H_49 =>
oV (vInt .add x16 (.int .i64 1)) fun t49_50 =>
kn x1 x2 x3 x7 x14 x15 t49_50 H_49)))) (
kx0 x7 H)
theorem c8_4 (env : Env) (H : Heap) (kn : Value → Value → Value → Value → Value → Value → Value → Heap → Prop) (kx0 : Value → Heap → Prop) (Q : Ending → Heap → Prop) (h : m8_4 (env 1) (env 2) (env 3) (env 7) (env 14) (env 15) (env 16) H kn kx0 Q) :
    RCode Try.prog 51 (codeAt [1, 1, 0, 1, 0, 0] (bodyOf Try.f8)) env H (mkK (fun e H => kn (e 1) (e 2) (e 3) (e 7) (e 14) (e 15) (e 16) H) (inK 0 (fun e H => kx0 (e 7) H) (fun _ _ _ => False)) (retK T Try.f8.results.toList Q) (fun c H => Q (.panicked c) H)) :=
  RCode.leaf_ (T := T) (X := ext) (hint := hint8) tok xok mixed (by kernel_rfl) h
theorem L8_3_round (x1 x2 x3 x7 x14 x15 x16 : Value) (H : Heap) (kn : Value → Heap → Prop) (Q : Ending → Heap → Prop) (h : m8_4 x1 x2 x3 x7 x14 x15 x16 H (fun y1 y2 y3 y7 y14 y15 y16 H => L8_3 y1 y2 y3 y7 y14 y15 y16 H kn Q) kn Q) : L8_3 x1 x2 x3 x7 x14 x15 x16 H kn Q := by
  intro env h1 h2 h3 h7 h14 h15 h16
  subst h1; subst h2; subst h3; subst h7; subst h14; subst h15; subst h16
  exact RLoop.round ((c8_4 env H (fun y1 y2 y3 y7 y14 y15 y16 H => L8_3 y1 y2 y3 y7 y14 y15 y16 H kn Q) kn Q h).mono (mkK_mono (fun e H h => h e rfl rfl rfl rfl rfl rfl rfl) (fun _ _ _ h => h) (fun _ _ h => h) (fun _ _ h => h)))
def m8_2 (x1 x2 x3 x7 : Value) (H : Heap) (kn : Value → Heap → Prop) (Q : Ending → Heap → Prop) : Prop :=
oV (vField 4 x3) fun t13_51 =>
oV (vLoad ty26 t13_51 H) fun t14_52 =>
oV (vLen t14_52) fun t15_53 =>
L8_3 x1 x2 x3 x7 t14_52 t15_53 (.int .i64 0) H kn Q
theorem c8_2 (env : Env) (H : Heap) (kn : Value → Heap → Prop) (Q : Ending → Heap → Prop) (h : m8_2 (env 1) (env 2) (env 3) (env 7) H kn Q) :
    RCode Try.prog 51 (codeAt [1, 1, 0] (bodyOf Try.f8)) env H (mkK (fun e H => kn (e 7) H) (fun _ _ _ => False) (retK T Try.f8.results.toList Q) (fun c H => Q (.panicked c) H)) :=
  RCode.prefix_ (T := T) (X := ext) (hint := hint8) (hole := (fun e H => L8_3 (e 1) (e 2) (e 3) (e 7) (e 14) (e 15) (e 16) H kn Q)) tok xok mixed 1 (by kernel_rfl) (by kernel_rfl : codeAt _ _ = (codeAt [1, 1, 0, 1] (bodyOf Try.f8))) h
    (fun e H h => (cL8_3 e H kn Q h))
def m8 (x0 x1 x2 : Value) (H : Heap) (Q : Ending → Heap → Prop) : Prop :=
oNew (Value.cells x0).toList (Value.cells x0).toList.length 29 H fun i_54 H_55 =>
oRC Try.prog 16 [x2] H_55 (fun c H => Q (.panicked c) H) fun v_56 H_57 =>
m8_2 x1 x2 (ptrTo i_54) v_56 H_57 (fun y7_58 H_59 => m8_1 y7_58 H_59 Q) Q
theorem c8_0 (env : Env) (H : Heap) (Q : Ending → Heap → Prop) (h : m8 (env 0) (env 1) (env 2) H Q) :
    RCode Try.prog 51 (bodyOf Try.f8) env H (mkK (retK T Try.f8.results.toList Q) (fun _ _ _ => False) (retK T Try.f8.results.toList Q) (fun c H => Q (.panicked c) H)) :=
  RCode.prefix_ (T := T) (X := ext) (hint := hint8) (hole := (fun e H => m8_2 (e 1) (e 2) (e 3) (e 7) H (fun y7_60 H_61 => m8_1 y7_60 H_61 Q) Q)) tok xok mixed 2 (by kernel_rfl) (by kernel_rfl : codeAt _ _ = (codeAt [1, 1] (bodyOf Try.f8))) h
    (fun e H h => RCode.join (by kernel_rfl : (codeAt [1, 1] (bodyOf Try.f8)) = .seq (codeAt [1, 1, 0] (bodyOf Try.f8)) (codeAt [1, 1, 1] (bodyOf Try.f8))) ((c8_2 e H (fun y7_62 H_63 => m8_1 y7_62 H_63 Q) Q h).mono (mkK_mono (fun e H h => c8_1 e H Q h) (fun _ _ _ h => h) (fun _ _ h => h) (fun _ _ h => h))))
theorem call8 (a0 a1 a2 : Value) (H : Heap) (Q : Ending → Heap → Prop) (h : m8 a0 a1 a2 H Q) : RCalls Try.prog 8 [a0, a1, a2] H Q :=
  RCalls.intro (nt := 51) tok Try.func8 (by kernel_rfl) (by kernel_rfl) (by kernel_rfl) (of_decide_eq_true (by kernel_rfl)) (c8_0 (envOf [a0, a1, a2]) H Q h)
/-! ### 7: privity/privityref13.Same -/
def hint7 : Nat → List Nat := lookupL [(6, [0, 1, 2, 3, 4, 5, 6, 7, 8, 9, 10]), (11, [0, 1, 2, 3, 4, 5, 6, 7, 8, 9, 10, 11, 12, 13, 14])]
def m7_1 (H : Heap) (Q : Ending → Heap → Prop) : Prop :=
Q (.returned (.bool true)) H
theorem c7_1 (env : Env) (H : Heap) (Q : Ending → Heap → Prop) (h : m7_1 H Q) :
    RCode Try.prog 53 (codeAt [1, 1, 1] (bodyOf Try.f7)) env H (mkK (retK T Try.f7.results.toList Q) (fun _ _ _ => False) (retK T Try.f7.results.toList Q) (fun c H => Q (.panicked c) H)) :=
  RCode.leaf_ (T := T) (X := ext) (hint := hint7) tok xok mixed (by kernel_rfl) h
def L7_3 (x0 x1 x5 : Value) (H : Heap) (kn : Heap → Prop) (Q : Ending → Heap → Prop) : Prop :=
  ∀ env : Env, env 0 = x0 → env 1 = x1 → env 5 = x5 → RLoop Try.prog 53 (codeAt [1, 1, 0, 1, 0, 0] (bodyOf Try.f7)) env H (mkK (fun _ _ => False) (inK 0 (fun e H => kn H) (fun _ _ _ => False)) (retK T Try.f7.results.toList Q) (fun c H => Q (.panicked c) H))
theorem cL7_3 (env : Env) (H : Heap) (kn : Heap → Prop) (Q : Ending → Heap → Prop) (h : L7_3 (env 0) (env 1) (env 5) H kn Q) :
    RCode Try.prog 53 (codeAt [1, 1, 0, 1] (bodyOf Try.f7)) env H (mkK (fun e H => kn H) (fun _ _ _ => False) (retK T Try.f7.results.toList Q) (fun c H => Q (.panicked c) H)) :=
  RCode.blk (by kernel_rfl : (codeAt [1, 1, 0, 1] (bodyOf Try.f7)) = .block 0 (codeAt [1, 1, 0, 1, 0] (bodyOf Try.f7))) (RCode.lp (by kernel_rfl : (codeAt [1, 1, 0, 1, 0] (bodyOf Try.f7)) = .loop (codeAt [1, 1, 0, 1, 0, 0] (bodyOf Try.f7))) ((h env rfl rfl rfl).mono (mkK_mono (fun _ _ h => h.elim) (fun _ _ _ h => h) (fun _ _ h => h) (fun _ _ h => h))))
def m7_5 (x0 x1 x5 : Value) (H : Heap) (kn : Value → Value → Value → Heap → Prop) (kx0 : Heap → Prop) (Q : Ending → Heap → Prop) : Prop :=
oV (vInt .add x5 (.int .i64 1)) fun t17_1 =>
kn x0 x1 t17_1 H
theorem c7_5 (env : Env) (H : Heap) (kn : Value → Value → Value → Heap → Prop) (kx0 : Heap → Prop) (Q : Ending → Heap → Prop) (h : m7_5 (env 0) (env 1) (env 5) H kn kx0 Q) :
    RCode Try.prog 53 (codeAt [1, 1, 0, 1, 0, 0, 1, 1] (bodyOf Try.f7)) env H (mkK (fun e H => kn (e 0) (e 1) (e 5) H) (inK 0 (fun e H => kx0 H) (fun _ _ _ => False)) (retK T Try.f7.results.toList Q) (fun c H => Q (.panicked c) H)) :=
  RCode.leaf_ (T := T) (X := ext) (hint := hint7) tok xok mixed (by kernel_rfl) h
def L7_8 (x0 x1 x5 x6 : Value) (H : Heap) (kn : Value → Value → Value → Heap → Prop) (kx1 : Value → Value → Value → Heap → Prop) (kx0 : Heap → Prop) (Q : Ending → Heap → Prop) : Prop :=
  ∀ env : Env, env 0 = x0 → env 1 = x1 → env 5 = x5 → env 6 = x6 → RLoop Try.prog 53 (codeAt [1, 1, 0, 1, 0, 0, 1, 0, 0, 1, 1, 0, 0] (bodyOf Try.f7)) env H (mkK (fun _ _ => False) (inK 2 (fun e H => kn (e 0) (e 1) (e 5) H) (inK 1 (fun e H => kx1 (e 0) (e 1) (e 5) H) (inK 0 (fun e H => kx0 H) (fun _ _ _ => False)))) (retK T Try.f7.results.toList Q) (fun c H => Q (.panicked c) H))
theorem cL7_8 (env : Env) (H : Heap) (kn : Value → Value → Value → Heap → Prop) (kx1 : Value → Value → Value → Heap → Prop) (kx0 : Heap → Prop) (Q : Ending → Heap → Prop) (h : L7_8 (env 0) (env 1) (env 5) (env 6) H kn kx1 kx0 Q) :
    RCode Try.prog 53 (codeAt [1, 1, 0, 1, 0, 0, 1, 0, 0, 1, 1] (bodyOf Try.f7)) env H (mkK (fun e H => kn (e 0) (e 1) (e 5) H) (inK 1 (fun e H => kx1 (e 0) (e 1) (e 5) H) (inK 0 (fun e H => kx0 H) (fun _ _ _ => False))) (retK T Try.f7.results.toList Q) (fun c H => Q (.panicked c) H)) :=
  RCode.blk (by kernel_rfl : (codeAt [1, 1, 0, 1, 0, 0, 1, 0, 0, 1, 1] (bodyOf Try.f7)) = .block 2 (codeAt [1, 1, 0, 1, 0, 0, 1, 0, 0, 1, 1, 0] (bodyOf Try.f7))) (RCode.lp (by kernel_rfl : (codeAt [1, 1, 0, 1, 0, 0, 1, 0, 0, 1, 1, 0] (bodyOf Try.f7)) = .loop (codeAt [1, 1, 0, 1, 0, 0, 1, 0, 0, 1, 1, 0, 0] (bodyOf Try.f7))) ((h env rfl rfl rfl rfl).mono (mkK_mono (fun _ _ h => h.elim) (fun _ _ _ h => h) (fun _ _ h => h) (fun _ _ h => h))))
def m7_9 (x0 x1 x5 x6 : Value) (H : Heap) (kn : Value → Value → Value → Value → Heap → Prop) (kx2 : Value → Value → Value → Heap → Prop) (kx1 : Value → Value → Value → Heap → Prop) (kx0 : Heap → Prop) (Q : Ending → Heap → Prop) : Prop :=
oV (vIdxS 1 x0 x5) fun t32_2 =>
oV (vLoad ty41 t32_2 H) fun t33_3 =>
oV (vLen t33_3) fun t34_4 =>
oV (vInt .lss x6 t34_4) fun t35_5 =>
condK t35_5 (
oV (vIdxS 1 x0 x5) fun t40_6 =>
oV (vLoad ty41 t40_6 H) fun t41_7 =>
oV (vIdxS 1 t41_7 x6) fun t43_8 =>
oV (vLoad ty22 t43_8 H) fun t44_9 =>
oV (vIdxS 1 x1 x5) fun t47_10 =>
oV (vLoad ty41 t47_10 H) fun t48_11 =>
oV (vIdxS 1 t48_11 x6) fun t50_12 =>
oV (vLoad ty22 t50_12 H) fun t51_13 =>
oV (vInt .neq t44_9 t51_13) fun t52_14 =>
condK t52_14 (
Q (.returned (.bool false)) H) (
oV (vInt .add x6 (.int .i64 1)) fun t37_15 =>
kn x0 x1 x5 t37_15 H)) (
kx2 x0 x1 x5 H)
theorem c7_9 (env : Env) (H : Heap) (kn : Value → Value → Value → Value → Heap → Prop) (kx2 : Value → Value → Value → Heap → Prop) (kx1 : Value → Value → Value → Heap → Prop) (kx0 : Heap → Prop) (Q : Ending → Heap → Prop) (h : m7_9 (env 0) (env 1) (env 5) (env 6) H kn kx2 kx1 kx0 Q) :
    RCode Try.prog 53 (codeAt [1, 1, 0, 1, 0, 0, 1, 0, 0, 1, 1, 0, 0] (bodyOf Try.f7)) env H (mkK (fun e H => kn (e 0) (e 1) (e 5) (e 6) H) (inK 2 (fun e H => kx2 (e 0) (e 1) (e 5) H) (inK 1 (fun e H => kx1 (e 0) (e 1) (e 5) H) (inK 0 (fun e H => kx0 H) (fun _ _ _ => False)))) (retK T Try.f7.results.toList Q) (fun c H => Q (.panicked c) H)) :=
  RCode.leaf_ (T := T) (X := ext) (hint := hint7) tok xok mixed (by kernel_rfl) h
theorem L7_8_round (x0 x1 x5 x6 : Value) (H : Heap) (kn : Value → Value → Value → Heap → Prop) (kx1 : Value → Value → Value → Heap → Prop) (kx0 : Heap → Prop) (Q : Ending → Heap → Prop) (h : m7_9 x0 x1 x5 x6 H (fun y0 y1 y5 y6 H => L7_8 y0 y1 y5 y6 H kn kx1 kx0 Q) kn kx1 kx0 Q) : L7_8 x0 x1 x5 x6 H kn kx1 kx0 Q := by
  intro env h0 h1 h5 h6
  subst h0; subst h1; subst h5; subst h6
  exact RLoop.round ((c7_9 env H (fun y0 y1 y5 y6 H => L7_8 y0 y1 y5 y6 H kn kx1 kx0 Q) kn kx1 kx0 Q h).mono (mkK_mono (fun e H h => h e rfl rfl rfl rfl) (fun _ _ _ h => h) (fun _ _ h => h) (fun _ _ h => h)))
def m7_7 (x0 x1 x5 : Value) (H : Heap) (kn : Value → Value → Value → Heap → Prop) (kx1 : Value → Value → Value → Heap → Prop) (kx0 : Heap → Prop) (Q : Ending → Heap → Prop) : Prop :=
oV (vIdxS 1 x0 x5) fun t20_16 =>
oV (vLoad ty41 t20_16 H) fun t21_17 =>
oV (vLen t21_17) fun t22_18 =>
oV (vIdxS 1 x1 x5) fun t25_19 =>
oV (vLoad ty41 t25_19 H) fun t26_20 =>
oV (vLen t26_20) fun t27_21 =>
oV (vInt .neq t22_18 t27_21) fun t28_22 =>
condK t28_22 (
Q (.returned (.bool false)) H) (
L7_8 x0 x1 x5 (.int .i64 0) H kn kx1 kx0 Q)
theorem c7_7 (env : Env) (H : Heap) (kn : Value → Value → Value → Heap → Prop) (kx1 : Value → Value → Value → Heap → Prop) (kx0 : Heap → Prop) (Q : Ending → Heap → Prop) (h : m7_7 (env 0) (env 1) (env 5) H kn kx1 kx0 Q) :
    RCode Try.prog 53 (codeAt [1, 1, 0, 1, 0, 0, 1, 0, 0] (bodyOf Try.f7)) env H (mkK (fun e H => kn (e 0) (e 1) (e 5) H) (inK 1 (fun e H => kx1 (e 0) (e 1) (e 5) H) (inK 0 (fun e H => kx0 H) (fun _ _ _ => False))) (retK T Try.f7.results.toList Q) (fun c H => Q (.panicked c) H)) :=
  RCode.prefix_ (T := T) (X := ext) (hint := hint7) (hole := (fun e H => L7_8 (e 0) (e 1) (e 5) (e 6) H kn kx1 kx0 Q)) tok xok mixed 2 (by kernel_rfl) (by kernel_rfl : codeAt _ _ = (codeAt [1, 1, 0, 1, 0, 0, 1, 0, 0, 1, 1] (bodyOf Try.f7))) h
    (fun e H h => (cL7_8 e H kn kx1 kx0 Q h))
def m7_6 (x0 x1 x5 : Value) (H : Heap) (kn : Value → Value → Value → Heap → Prop) (kx0 : Heap → Prop) (Q : Ending → Heap → Prop) : Prop :=
m7_7 x0 x1 x5 H kn kn kx0 Q
theorem c7_6 (env : Env) (H : Heap) (kn : Value → Value → Value → Heap → Prop) (kx0 : Heap → Prop) (Q : Ending → Heap → Prop) (h : m7_6 (env 0) (env 1) (env 5) H kn kx0 Q) :
    RCode Try.prog 53 (codeAt [1, 1, 0, 1, 0, 0, 1, 0] (bodyOf Try.f7)) env H (mkK (fun e H => kn (e 0) (e 1) (e 5) H) (inK 0 (fun e H => kx0 H) (fun _ _ _ => False)) (retK T Try.f7.results.toList Q) (fun c H => Q (.panicked c) H)) :=
  RCode.blk (by kernel_rfl : (codeAt [1, 1, 0, 1, 0, 0, 1, 0] (bodyOf Try.f7)) = .block 1 (codeAt [1, 1, 0, 1, 0, 0, 1, 0, 0] (bodyOf Try.f7))) (c7_7 env H kn kn kx0 Q h)
def m7_4 (x0 x1 x5 : Value) (H : Heap) (kn : Value → Value → Value → Heap → Prop) (kx0 : Heap → Prop) (Q : Ending → Heap → Prop) : Prop :=
oV (vLen x0) fun t14_23 =>
oV (vInt .lss x5 t14_23) fun t15_24 =>
condK t15_24 (
m7_6 x0 x1 x5 H (fun y0_25 y1_26 y5_27 H_28 => m7_5 y0_25 y1_26 y5_27 H_28 kn kx0 Q) kx0 Q) (
kx0 H)
theorem c7_4 (env : Env) (H : Heap) (kn : Value → Value → Value → Heap → Prop) (kx0 : Heap → Prop) (Q : Ending → Heap → Prop) (h : m7_4 (env 0) (env 1) (env 5) H kn kx0 Q) :
    RCode Try.prog 53 (codeAt [1, 1, 0, 1, 0, 0] (bodyOf Try.f7)) env H (mkK (fun e H => kn (e 0) (e 1) (e 5) H) (inK 0 (fun e H => kx0 H) (fun _ _ _ => False)) (retK T Try.f7.results.toList Q) (fun c H => Q (.panicked c) H)) :=
  RCode.prefix_ (T := T) (X := ext) (hint := hint7) (hole := (fun e H => m7_6 (e 0) (e 1) (e 5) H (fun y0_29 y1_30 y5_31 H_32 => m7_5 y0_29 y1_30 y5_31 H_32 kn kx0 Q) kx0 Q)) tok xok mixed 1 (by kernel_rfl) (by kernel_rfl : codeAt _ _ = (codeAt [1, 1, 0, 1, 0, 0, 1] (bodyOf Try.f7))) h
    (fun e H h => RCode.join (by kernel_rfl : (codeAt [1, 1, 0, 1, 0, 0, 1] (bodyOf Try.f7)) = .seq (codeAt [1, 1, 0, 1, 0, 0, 1, 0] (bodyOf Try.f7)) (codeAt [1, 1, 0, 1, 0, 0, 1, 1] (bodyOf Try.f7))) ((c7_6 e H (fun y0_33 y1_34 y5_35 H_36 => m7_5 y0_33 y1_34 y5_35 H_36 kn kx0 Q) kx0 Q h).mono (mkK_mono (fun e H h => c7_5 e H kn kx0 Q h) (fun _ _ _ h => h) (fun _ _ h => h) (fun _ _ h => h))))
theorem L7_3_round (x0 x1 x5 : Value) (H : Heap) (kn : Heap → Prop) (Q : Ending → Heap → Prop) (h : m7_4 x0 x1 x5 H (fun y0 y1 y5 H => L7_3 y0 y1 y5 H kn Q) kn Q) : L7_3 x0 x1 x5 H kn Q := by
  intro env h0 h1 h5
  subst h0; subst h1; subst h5
  exact RLoop.round ((c7_4 env H (fun y0 y1 y5 H => L7_3 y0 y1 y5 H kn Q) kn Q h).mono (mkK_mono (fun e H h => h e rfl rfl rfl) (fun _ _ _ h => h) (fun _ _ h => h) (fun _ _ h => h)))
def m7_2 (x0 x1 : Value) (H : Heap) (kn : Heap → Prop) (Q : Ending → Heap → Prop) : Prop :=
L7_3 x0 x1 (.int .i64 0) H kn Q
theorem c7_2 (env : Env) (H : Heap) (kn : Heap → Prop) (Q : Ending → Heap → Prop) (h : m7_2 (env 0) (env 1) H kn Q) :
    RCode Try.prog 53 (codeAt [1, 1, 0] (bodyOf Try.f7)) env H (mkK (fun e H => kn H) (fun _ _ _ => False) (retK T Try.f7.results.toList Q) (fun c H => Q (.panicked c) H)) :=
  RCode.prefix_ (T := T) (X := ext) (hint := hint7) (hole := (fun e H => L7_3 (e 0) (e 1) (e 5) H kn Q)) tok xok mixed 1 (by kernel_rfl) (by kernel_rfl : codeAt _ _ = (codeAt [1, 1, 0, 1] (bodyOf Try.f7))) h
    (fun e H h => (cL7_3 e H kn Q h))
def m7 (x0 x1 : Value) (H : Heap) (Q : Ending → Heap → Prop) : Prop :=
oV (vLen x0) fun t8_37 =>
oV (vLen x1) fun t10_38 =>
oV (vInt .neq t8_37 t10_38) fun t11_39 =>
condK t11_39 (
Q (.returned (.bool false)) H) (
m7_2 x0 x1 H (fun H_40 => m7_1 H_40 Q) Q)
theorem c7_0 (env : Env) (H : Heap) (Q : Ending → Heap → Prop) (h : m7 (env 0) (env 1) H Q) :
    RCode Try.prog 53 (bodyOf Try.f7) env H (mkK (retK T Try.f7.results.toList Q) (fun _ _ _ => False) (retK T Try.f7.results.toList Q) (fun c H => Q (.panicked c) H)) :=
  RCode.prefix_ (T := T) (X := ext) (hint := hint7) (hole := (fun e H => m7_2 (e 0) (e 1) H (fun H_41 => m7_1 H_41 Q) Q)) tok xok mixed 2 (by kernel_rfl) (by kernel_rfl : codeAt _ _ = (codeAt [1, 1] (bodyOf Try.f7))) h
    (fun e H h => RCode.join (by kernel_rfl : (codeAt [1, 1] (bodyOf Try.f7)) = .seq (codeAt [1, 1, 0] (bodyOf Try.f7)) (codeAt [1, 1, 1] (bodyOf Try.f7))) ((c7_2 e H (fun H_42 => m7_1 H_42 Q) Q h).mono (mkK_mono (fun e H h => c7_1 e H Q h) (fun _ _ _ h => h) (fun _ _ h => h) (fun _ _ h => h))))
theorem call7 (a0 a1 : Value) (H : Heap) (Q : Ending → Heap → Prop) (h : m7 a0 a1 H Q) : RCalls Try.prog 7 [a0, a1] H Q :=
  RCalls.intro (nt := 53) tok Try.func7 (by kernel_rfl) (by kernel_rfl) (by kernel_rfl) (of_decide_eq_true (by kernel_rfl)) (c7_0 (envOf [a0, a1]) H Q h)
/-! ### 6: privity/privitylaw13.awake -/
def hint6 : Nat → List Nat := lookupL []
def m6 (H : Heap) (Q : Ending → Heap → Prop) : Prop :=
oBuildS ty22 22 1 [((0, 1), (.int .u64 7))] H fun s_1 H_2 =>
oBuildS ty22 22 2 [((0, 1), (.int .u64 5)), ((1, 1), (.int .u64 6))] H_2 fun s_3 H_4 =>
oBuildS ty22 22 1 [((0, 1), (.int .u64 1))] H_4 fun s_5 H_6 =>
oBuildS ty41 41 4 [((0, 1), s_1), ((1, 1), s_3), ((2, 1), (.slice none 0 0)), ((3, 1), s_5)] H_6 fun s_7 H_8 =>
oV (vBuild ty44 [((1, 1), (.int .i64 2)), ((3, 1), (.int .i64 1)), ((4, 1), (.int .i64 2)), ((5, 1), (.int .u64 30)), ((6, 1), (.int .i64 1))]) fun t9_9 =>
oBuildS ty44 44 1 [((0, 8), t9_9)] H_8 fun s_10 H_11 =>
oRC Try.prog 15 [s_10] H_11 (fun c H => Q (.panicked c) H) fun v_12 H_13 =>
oRC Try.prog 8 [v_12, (.int .i64 0), s_7] H_13 (fun c H => Q (.panicked c) H) fun v_14 H_15 =>
oV (vBuild ty44 [((1, 1), (.int .i64 2)), ((4, 1), (.int .i64 3)), ((5, 1), (.int .u64 2)), ((6, 1), (.int .i64 1))]) fun t14_16 =>
oBuildS ty44 44 1 [((0, 8), t14_16)] H_15 fun s_17 H_18 =>
oRC Try.prog 15 [s_17] H_18 (fun c H => Q (.panicked c) H) fun v_19 H_20 =>
oRC Try.prog 8 [v_19, (.int .i64 0), s_7] H_20 (fun c H => Q (.panicked c) H) fun v_21 H_22 =>
oV (vBuild ty44 [((1, 1), (.int .i64 3)), ((4, 1), (.int .i64 4)), ((6, 1), (.int .i64 1))]) fun t19_23 =>
oBuildS ty44 44 1 [((0, 8), t19_23)] H_22 fun s_24 H_25 =>
oRC Try.prog 15 [s_24] H_25 (fun c H => Q (.panicked c) H) fun v_26 H_27 =>
oRC Try.prog 8 [v_26, (.int .i64 0), s_7] H_27 (fun c H => Q (.panicked c) H) fun v_28 H_29 =>
oBuildS ty22 22 1 [((0, 1), (.int .u64 7))] H_29 fun s_30 H_31 =>
oBuildS ty22 22 2 [((0, 1), (.int .u64 5)), ((1, 1), (.int .u64 5))] H_31 fun s_32 H_33 =>
oBuildS ty22 22 1 [((0, 1), (.int .u64 1))] H_33 fun s_34 H_35 =>
oBuildS ty41 41 4 [((0, 1), s_30), ((1, 1), s_32), ((2, 1), (.slice none 0 0)), ((3, 1), s_34)] H_35 fun s_36 H_37 =>
oRC Try.prog 7 [v_14, s_36] H_37 (fun c H => Q (.panicked c) H) fun v_38 H_39 =>
oV (gV v_38 true (some v_21) (some undef)) fun t31_40 =>
letK (fun t32_42 H_43 =>
letK (fun t33_45 H_46 =>
letK (fun t34_48 H_49 =>
letK (fun t35_51 H_52 =>
letK (fun t36_54 H_55 =>
oV (vPick v_38 t36_54 (.bool false)) fun t37_56 =>
oV (gV t37_56 true (some v_28) (some undef)) fun t39_57 =>
oV (gV t37_56 true (some s_7) (some undef)) fun t40_58 =>
letK (fun t41_60 H_61 =>
oV (vPick t37_56 t41_60 (.bool false)) fun t42_62 =>
Q (.returned t42_62) H_61) fun k_59 => gK t37_56 true (oRC Try.prog 7 [t39_57, t40_58] H_55 (fun c H => Q (.panicked c) H) fun v_63 H_64 =>
k_59 v_63 H_64) (k_59 undef H_55)) fun k_53 => gK v_38 true (oRC Try.prog 7 [t31_40, t35_51] H_52 (fun c H => Q (.panicked c) H) fun v_65 H_66 =>
k_53 v_65 H_66) (k_53 undef H_52)) fun k_50 => gK v_38 true (oBuildS ty41 41 4 [((0, 1), t32_42), ((1, 1), t33_45), ((2, 1), (.slice none 0 0)), ((3, 1), t34_48)] H_49 fun s_67 H_68 =>
k_50 s_67 H_68) (k_50 undef H_49)) fun k_47 => gK v_38 true (oBuildS ty22 22 1 [((0, 1), (.int .u64 1))] H_46 fun s_69 H_70 =>
k_47 s_69 H_70) (k_47 undef H_46)) fun k_44 => gK v_38 true (oBuildS ty22 22 2 [((0, 1), (.int .u64 19)), ((1, 1), (.int .u64 6))] H_43 fun s_71 H_72 =>
k_44 s_71 H_72) (k_44 undef H_43)) fun k_41 => gK v_38 true (oBuildS ty22 22 1 [((0, 1), (.int .u64 7))] H_39 fun s_73 H_74 =>
k_41 s_73 H_74) (k_41 undef H_39)
theorem c6_0 (env : Env) (H : Heap) (Q : Ending → Heap → Prop) (h : m6 H Q) :
    RCode Try.prog 43 (bodyOf Try.f6) env H (mkK (retK T Try.f6.results.toList Q) (fun _ _ _ => False) (retK T Try.f6.results.toList Q) (fun c H => Q (.panicked c) H)) :=
  RCode.leaf_ (T := T) (X := ext) (hint := hint6) tok xok mixed (by kernel_rfl) h
theorem call6 (H : Heap) (Q : Ending → Heap → Prop) (h : m6 H Q) : RCalls Try.prog 6 [] H Q :=
  RCalls.intro (nt := 43) tok Try.func6 (by kernel_rfl) (by kernel_rfl) (by kernel_rfl) (of_decide_eq_true (by kernel_rfl)) (c6_0 (envOf []) H Q h)
/-! ### 19: privity/privityref13.bad -/
def hint19 : Nat → List Nat := lookupL []
def m19_1 (H : Heap) (Q : Ending → Heap → Prop) : Prop :=
Q (.returned (.bool false)) H
theorem c19_1 (env : Env) (H : Heap) (Q : Ending → Heap → Prop) (h : m19_1 H Q) :
    RCode Try.prog 20 (codeAt [1, 1] (bodyOf Try.f19)) env H (mkK (retK T Try.f19.results.toList Q) (fun _ _ _ => False) (retK T Try.f19.results.toList Q) (fun c H => Q (.panicked c) H)) :=
  RCode.leaf_ (T := T) (X := ext) (hint := hint19) tok xok mixed (by kernel_rfl) h
def L19_3 (x1 x2 x5 : Value) (H : Heap) (kn : Heap → Prop) (Q : Ending → Heap → Prop) : Prop :=
  ∀ env : Env, env 1 = x1 → env 2 = x2 → env 5 = x5 → RLoop Try.prog 20 (codeAt [1, 0, 1, 0, 0] (bodyOf Try.f19)) env H (mkK (fun _ _ => False) (inK 0 (fun e H => kn H) (fun _ _ _ => False)) (retK T Try.f19.results.toList Q) (fun c H => Q (.panicked c) H))
theorem cL19_3 (env : Env) (H : Heap) (kn : Heap → Prop) (Q : Ending → Heap → Prop) (h : L19_3 (env 1) (env 2) (env 5) H kn Q) :
    RCode Try.prog 20 (codeAt [1, 0, 1] (bodyOf Try.f19)) env H (mkK (fun e H => kn H) (fun _ _ _ => False) (retK T Try.f19.results.toList Q) (fun c H => Q (.panicked c) H)) :=
  RCode.blk (by kernel_rfl : (codeAt [1, 0, 1] (bodyOf Try.f19)) = .block 0 (codeAt [1, 0, 1, 0] (bodyOf Try.f19))) (RCode.lp (by kernel_rfl : (codeAt [1, 0, 1, 0] (bodyOf Try.f19)) = .loop (codeAt [1, 0, 1, 0, 0] (bodyOf Try.f19))) ((h env rfl rfl rfl).mono (mkK_mono (fun _ _ h => h.elim) (fun _ _ _ h => h) (fun _ _ h => h) (fun _ _ h => h))))
def m19_4 (x1 x2 x5 : Value) (H : Heap) (kn : Value → Value → Value → Heap → Prop) (kx0 : Heap → Prop) (Q : Ending → Heap → Prop) : Prop :=
oV (vField 3 x2) fun t7_1 =>
oV (vLoad ty25 t7_1 H) fun t8_2 =>
oV (vLen t8_2) fun t9_3 =>
oV (vInt .lss x5 t9_3) fun t10_4 =>
condK t10_4 (
oV (vField 3 x2) fun t13_5 =>
oV (vLoad ty25 t13_5 H) fun t14_6 =>
oV (vIdxS 1 t14_6 x5) fun t16_7 =>
oV (vLoad ty3 t16_7 H) fun t17_8 =>
oV (vInt .eql t17_8 x1) fun t19_9 =>
condK t19_9 (
Q (.returned (.bool true)) H) (
oV (vInt .add x5 (.int .i64 1)) fun t12_10 =>
kn x1 x2 t12_10 H)) (
kx0 H)
theorem c19_4 (env : Env) (H : Heap) (kn : Value → Value → Value → Heap → Prop) (kx0 : Heap → Prop) (Q : Ending → Heap → Prop) (h : m19_4 (env 1) (env 2) (env 5) H kn kx0 Q) :
    RCode Try.prog 20 (codeAt [1, 0, 1, 0, 0] (bodyOf Try.f19)) env H (mkK (fun e H => kn (e 1) (e 2) (e 5) H) (inK 0 (fun e H => kx0 H) (fun _ _ _ => False)) (retK T Try.f19.results.toList Q) (fun c H => Q (.panicked c) H)) :=
  RCode.leaf_ (T := T) (X := ext) (hint := hint19) tok xok mixed (by kernel_rfl) h
theorem L19_3_round (x1 x2 x5 : Value) (H : Heap) (kn : Heap → Prop) (Q : Ending → Heap → Prop) (h : m19_4 x1 x2 x5 H (fun y1 y2 y5 H => L19_3 y1 y2 y5 H kn Q) kn Q) : L19_3 x1 x2 x5 H kn Q := by
  intro env h1 h2 h5
  subst h1; subst h2; subst h5
  exact RLoop.round ((c19_4 env H (fun y1 y2 y5 H => L19_3 y1 y2 y5 H kn Q) kn Q h).mono (mkK_mono (fun e H h => h e rfl rfl rfl) (fun _ _ _ h => h) (fun _ _ h => h) (fun _ _ h => h)))
def m19_2 (x1 x2 : Value) (H : Heap) (kn : Heap → Prop) (Q : Ending → Heap → Prop) : Prop :=
L19_3 x1 x2 (.int .i64 0) H kn Q
theorem c19_2 (env : Env) (H : Heap) (kn : Heap → Prop) (Q : Ending → Heap → Prop) (h : m19_2 (env 1) (env 2) H kn Q) :
    RCode Try.prog 20 (codeAt [1, 0] (bodyOf Try.f19)) env H (mkK (fun e H => kn H) (fun _ _ _ => False) (retK T Try.f19.results.toList Q) (fun c H => Q (.panicked c) H)) :=
  RCode.prefix_ (T := T) (X := ext) (hint := hint19) (hole := (fun e H => L19_3 (e 1) (e 2) (e 5) H kn Q)) tok xok mixed 1 (by kernel_rfl) (by kernel_rfl : codeAt _ _ = (codeAt [1, 0, 1] (bodyOf Try.f19))) h
    (fun e H h => (cL19_3 e H kn Q h))
def m19 (x0 x1 : Value) (H : Heap) (Q : Ending → Heap → Prop) : Prop :=
oNew (Value.cells x0).toList (Value.cells x0).toList.length 29 H fun i_11 H_12 =>
m19_2 x1 (ptrTo i_11) H_12 (fun H_13 => m19_1 H_13 Q) Q
theorem c19_0 (env : Env) (H : Heap) (Q : Ending → Heap → Prop) (h : m19 (env 0) (env 1) H Q) :
    RCode Try.prog 20 (bodyOf Try.f19) env H (mkK (retK T Try.f19.results.toList Q) (fun _ _ _ => False) (retK T Try.f19.results.toList Q) (fun c H => Q (.panicked c) H)) :=
  RCode.prefix_ (T := T) (X := ext) (hint := hint19) (hole := (fun e H => m19_2 (e 1) (e 2) H (fun H_14 => m19_1 H_14 Q) Q)) tok xok mixed 1 (by kernel_rfl) (by kernel_rfl : codeAt _ _ = (codeAt [1] (bodyOf Try.f19))) h
    (fun e H h => RCode.join (by kernel_rfl : (codeAt [1] (bodyOf Try.f19)) = .seq (codeAt [1, 0] (bodyOf Try.f19)) (codeAt [1, 1] (bodyOf Try.f19))) ((c19_2 e H (fun H_15 => m19_1 H_15 Q) Q h).mono (mkK_mono (fun e H h => c19_1 e H Q h) (fun _ _ _ h => h) (fun _ _ h => h) (fun _ _ h => h))))
theorem call19 (a0 a1 : Value) (H : Heap) (Q : Ending → Heap → Prop) (h : m19 a0 a1 H Q) : RCalls Try.prog 19 [a0, a1] H Q :=
  RCalls.intro (nt := 20) tok Try.func19 (by kernel_rfl) (by kernel_rfl) (by kernel_rfl) (of_decide_eq_true (by kernel_rfl)) (c19_0 (envOf [a0, a1]) H Q h)
/-! ### 32: privity/privityref01.Add -/
def hint32 : Nat → List Nat := lookupL []
def m32 (x0 x1 x2 : Value) (H : Heap) (Q : Ending → Heap → Prop) : Prop :=
oV (vInt .add x1 x2) fun t9_1 =>
oV (vInt .rem t9_1 x0) fun t11_2 =>
Q (.returned t11_2) H
theorem c32_0 (env : Env) (H : Heap) (Q : Ending → Heap → Prop) (h : m32 (env 0) (env 1) (env 2) H Q) :
    RCode Try.prog 12 (bodyOf Try.f32) env H (mkK (retK T Try.f32.results.toList Q) (fun _ _ _ => False) (retK T Try.f32.results.toList Q) (fun c H => Q (.panicked c) H)) :=
  RCode.leaf_ (T := T) (X := ext) (hint := hint32) tok xok mixed (by kernel_rfl) h
theorem call32 (a0 a1 a2 : Value) (H : Heap) (Q : Ending → Heap → Prop) (h : m32 a0 a1 a2 H Q) : RCalls Try.prog 32 [a0, a1, a2] H Q :=
  RCalls.intro (nt := 12) tok Try.func32 (by kernel_rfl) (by kernel_rfl) (by kernel_rfl) (of_decide_eq_true (by kernel_rfl)) (c32_0 (envOf [a0, a1, a2]) H Q h)
/-! ### 34: privity/privityref13.word -/
def hint34 : Nat → List Nat := lookupL []
def m34 (x0 x1 : Value) (H : Heap) (Q : Ending → Heap → Prop) : Prop :=
oV (vInt .lss x1 (.int .i64 0)) fun t6_1 =>
oV (gV t6_1 false (some x1) (some undef)) fun t8_2 =>
oV (gV t6_1 false (some x0) (some undef)) fun t9_3 =>
oV (gV t6_1 false (vLen t9_3) (some undef)) fun t10_4 =>
oV (gV t6_1 false (vInt .geq t8_2 t10_4) (some undef)) fun t11_5 =>
oV (vPick t6_1 (.bool true) t11_5) fun t12_6 =>
condK t12_6 (
Q (.returned (.int .u64 0)) H) (
oV (vIdxS 1 x0 x1) fun t15_7 =>
oV (vLoad ty22 t15_7 H) fun t16_8 =>
Q (.returned t16_8) H)
theorem c34_0 (env : Env) (H : Heap) (Q : Ending → Heap → Prop) (h : m34 (env 0) (env 1) H Q) :
    RCode Try.prog 17 (bodyOf Try.f34) env H (mkK (retK T Try.f34.results.toList Q) (fun _ _ _ => False) (retK T Try.f34.results.toList Q) (fun c H => Q (.panicked c) H)) :=
  RCode.leaf_ (T := T) (X := ext) (hint := hint34) tok xok mixed (by kernel_rfl) h
theorem call34 (a0 a1 : Value) (H : Heap) (Q : Ending → Heap → Prop) (h : m34 a0 a1 H Q) : RCalls Try.prog 34 [a0, a1] H Q :=
  RCalls.intro (nt := 17) tok Try.func34 (by kernel_rfl) (by kernel_rfl) (by kernel_rfl) (of_decide_eq_true (by kernel_rfl)) (c34_0 (envOf [a0, a1]) H Q h)
/-! ### 33: privity/privityref01.Mul -/
def hint33 : Nat → List Nat := lookupL []
def m33_1 (x12 : Value) (H : Heap) (Q : Ending → Heap → Prop) : Prop :=
Q (.returned x12) H
theorem c33_1 (env : Env) (H : Heap) (Q : Ending → Heap → Prop) (h : m33_1 (env 12) H Q) :
    RCode Try.prog 94 (codeAt [1, 1, 1, 1, 1] (bodyOf Try.f33)) env H (mkK (retK T Try.f33.results.toList Q) (fun _ _ _ => False) (retK T Try.f33.results.toList Q) (fun c H => Q (.panicked c) H)) :=
  RCode.leaf_ (T := T) (X := ext) (hint := hint33) tok xok mixed (by kernel_rfl) h
def L33_2 (x0 x1 x2 x12 : Value) (H : Heap) (kn : Value → Heap → Prop) (Q : Ending → Heap → Prop) : Prop :=
  ∀ env : Env, env 0 = x0 → env 1 = x1 → env 2 = x2 → env 12 = x12 → RLoop Try.prog 94 (codeAt [1, 1, 1, 1, 0, 0, 0] (bodyOf Try.f33)) env H (mkK (fun _ _ => False) (inK 0 (fun e H => kn (e 12) H) (fun _ _ _ => False)) (retK T Try.f33.results.toList Q) (fun c H => Q (.panicked c) H))
theorem cL33_2 (env : Env) (H : Heap) (kn : Value → Heap → Prop) (Q : Ending → Heap → Prop) (h : L33_2 (env 0) (env 1) (env 2) (env 12) H kn Q) :
    RCode Try.prog 94 (codeAt [1, 1, 1, 1, 0] (bodyOf Try.f33)) env H (mkK (fun e H => kn (e 12) H) (fun _ _ _ => False) (retK T Try.f33.results.toList Q) (fun c H => Q (.panicked c) H)) :=
  RCode.blk (by kernel_rfl : (codeAt [1, 1, 1, 1, 0] (bodyOf Try.f33)) = .block 0 (codeAt [1, 1, 1, 1, 0, 0] (bodyOf Try.f33))) (RCode.lp (by kernel_rfl : (codeAt [1, 1, 1, 1, 0, 0] (bodyOf Try.f33)) = .loop (codeAt [1, 1, 1, 1, 0, 0, 0] (bodyOf Try.f33))) ((h env rfl rfl rfl rfl).mono (mkK_mono (fun _ _ h => h.elim) (fun _ _ _ h => h) (fun _ _ h => h) (fun _ _ h => h))))
def m33_3 (x0 x1 x2 x12 : Value) (H : Heap) (kn : Value → Value → Value → Value → Heap → Prop) (kx0 : Value → Heap → Prop) (Q : Ending → Heap → Prop) : Prop :=
oV (vInt .gtr x2 (.int .u64 0)) fun t77_1 =>
condK t77_1 (
oV (vInt .rem x2 (.int .u64 2)) fun t79_2 =>
oV (vInt .eql t79_2 (.int .u64 1)) fun t80_3 =>
condK t80_3 (
oV (vInt .add x12 x1) fun t83_4 =>
oV (vInt .rem t83_4 x0) fun t85_5 =>
oV (vInt .add x1 x1) fun t88_6 =>
oV (vInt .rem t88_6 x0) fun t90_7 =>
oV (vInt .quo x2 (.int .u64 2)) fun t92_8 =>
kn x0 t90_7 t92_8 t85_5 H) (
oV (vInt .add x1 x1) fun t88_9 =>
oV (vInt .rem t88_9 x0) fun t90_10 =>
oV (vInt .quo x2 (.int .u64 2)) fun t92_11 =>
kn x0 t90_10 t92_11 x12 H)) (
kx0 x12 H)
theorem c33_3 (env : Env) (H : Heap) (kn : Value → Value → Value → Value → Heap → Prop) (kx0 : Value → Heap → Prop) (Q : Ending → Heap → Prop) (h : m33_3 (env 0) (env 1) (env 2) (env 12) H kn kx0 Q) :
    RCode Try.prog 94 (codeAt [1, 1, 1, 1, 0, 0, 0] (bodyOf Try.f33)) env H (mkK (fun e H => kn (e 0) (e 1) (e 2) (e 12) H) (inK 0 (fun e H => kx0 (e 12) H) (fun _ _ _ => False)) (retK T Try.f33.results.toList Q) (fun c H => Q (.panicked c) H)) :=
  RCode.leaf_ (T := T) (X := ext) (hint := hint33) tok xok mixed (by kernel_rfl) h
theorem L33_2_round (x0 x1 x2 x12 : Value) (H : Heap) (kn : Value → Heap → Prop) (Q : Ending → Heap → Prop) (h : m33_3 x0 x1 x2 x12 H (fun y0 y1 y2 y12 H => L33_2 y0 y1 y2 y12 H kn Q) kn Q) : L33_2 x0 x1 x2 x12 H kn Q := by
  intro env h0 h1 h2 h12
  subst h0; subst h1; subst h2; subst h12
  exact RLoop.round ((c33_3 env H (fun y0 y1 y2 y12 H => L33_2 y0 y1 y2 y12 H kn Q) kn Q h).mono (mkK_mono (fun e H h => h e rfl rfl rfl rfl) (fun _ _ _ h => h) (fun _ _ h => h) (fun _ _ h => h)))
def m33 (x0 x1 x2 : Value) (H : Heap) (Q : Ending → Heap → Prop) : Prop :=
oV (vInt .gtr x0 (.int .u64 0)) fun t14_12 =>
oV (gV t14_12 true (some x0) (some undef)) fun t16_13 =>
oV (gV t14_12 true (vInt .lss t16_13 (.int .u64 2147483648)) (some undef)) fun t17_14 =>
oV (vPick t14_12 t17_14 (.bool false)) fun t18_15 =>
oV (gV t18_15 true (some x1) (some undef)) fun t20_16 =>
oV (gV t18_15 true (vInt .lss t20_16 (.int .u64 2147483648)) (some undef)) fun t21_17 =>
oV (vPick t18_15 t21_17 (.bool false)) fun t22_18 =>
oV (gV t22_18 true (some x2) (some undef)) fun t24_19 =>
oV (gV t22_18 true (vInt .lss t24_19 (.int .u64 2147483648)) (some undef)) fun t25_20 =>
oV (vPick t22_18 t25_20 (.bool false)) fun t26_21 =>
condK t26_21 (
oV (vInt .mul x1 x2) fun t29_22 =>
oV (vInt .rem t29_22 x0) fun t31_23 =>
Q (.returned t31_23) H) (
oV (vInt .eql x0 (.int .u64 2305843009213693951)) fun t33_24 =>
oV (gV t33_24 true (some x1) (some undef)) fun t35_25 =>
oV (gV t33_24 true (some x0) (some undef)) fun t36_26 =>
oV (gV t33_24 true (vInt .lss t35_25 t36_26) (some undef)) fun t37_27 =>
oV (vPick t33_24 t37_27 (.bool false)) fun t38_28 =>
oV (gV t38_28 true (some x2) (some undef)) fun t40_29 =>
oV (gV t38_28 true (some x0) (some undef)) fun t41_30 =>
oV (gV t38_28 true (vInt .lss t40_29 t41_30) (some undef)) fun t42_31 =>
oV (vPick t38_28 t42_31 (.bool false)) fun t43_32 =>
condK t43_32 (
oV (vInt .shr x1 (.int .u64 31)) fun t45_33 =>
oV (vInt .rem x1 (.int .u64 2147483648)) fun t47_34 =>
oV (vInt .shr x2 (.int .u64 31)) fun t49_35 =>
oV (vInt .rem x2 (.int .u64 2147483648)) fun t51_36 =>
oV (vInt .mul t45_33 t51_36) fun t54_37 =>
oV (vInt .mul t47_34 t49_35) fun t57_38 =>
oV (vInt .add t54_37 t57_38) fun t58_39 =>
oV (vInt .mul (.int .u64 2) t45_33) fun t60_40 =>
oV (vInt .mul t60_40 t49_35) fun t62_41 =>
oV (vInt .shr t58_39 (.int .u64 30)) fun t64_42 =>
oV (vInt .add t62_41 t64_42) fun t65_43 =>
oV (vInt .rem t58_39 (.int .u64 1073741824)) fun t67_44 =>
oV (vInt .shl t67_44 (.int .u64 31)) fun t68_45 =>
oV (vInt .add t65_43 t68_45) fun t69_46 =>
oV (vInt .mul t47_34 t51_36) fun t72_47 =>
oV (vInt .add t69_46 t72_47) fun t73_48 =>
oV (vInt .rem t73_48 x0) fun t75_49 =>
Q (.returned t75_49) H) (
L33_2 x0 x1 x2 (.int .u64 0) H (fun y12_50 H_51 => m33_1 y12_50 H_51 Q) Q))
theorem c33_0 (env : Env) (H : Heap) (Q : Ending → Heap → Prop) (h : m33 (env 0) (env 1) (env 2) H Q) :
    RCode Try.prog 94 (bodyOf Try.f33) env H (mkK (retK T Try.f33.results.toList Q) (fun _ _ _ => False) (retK T Try.f33.results.toList Q) (fun c H => Q (.panicked c) H)) :=
  RCode.prefix_ (T := T) (X := ext) (hint := hint33) (hole := (fun e H => L33_2 (e 0) (e 1) (e 2) (e 12) H (fun y12_52 H_53 => m33_1 y12_52 H_53 Q) Q)) tok xok mixed 4 (by kernel_rfl) (by kernel_rfl : codeAt _ _ = (codeAt [1, 1, 1, 1] (bodyOf Try.f33))) h
    (fun e H h => RCode.join (by kernel_rfl : (codeAt [1, 1, 1, 1] (bodyOf Try.f33)) = .seq (codeAt [1, 1, 1, 1, 0] (bodyOf Try.f33)) (codeAt [1, 1, 1, 1, 1] (bodyOf Try.f33))) ((cL33_2 e H (fun y12_54 H_55 => m33_1 y12_54 H_55 Q) Q h).mono (mkK_mono (fun e H h => c33_1 e H Q h) (fun _ _ _ h => h) (fun _ _ h => h) (fun _ _ h => h))))
theorem call33 (a0 a1 a2 : Value) (H : Heap) (Q : Ending → Heap → Prop) (h : m33 a0 a1 a2 H Q) : RCalls Try.prog 33 [a0, a1, a2] H Q :=
  RCalls.intro (nt := 94) tok Try.func33 (by kernel_rfl) (by kernel_rfl) (by kernel_rfl) (of_decide_eq_true (by kernel_rfl)) (c33_0 (envOf [a0, a1, a2]) H Q h)
/-! ### 20: privity/privityref13.told -/
def hint20 : Nat → List Nat := lookupL [(12, [0, 1, 2, 3, 4, 5, 6, 7, 8, 9, 10, 11, 12]), (15, [0, 1, 2, 3, 4, 5, 6, 7, 8, 9, 10, 11, 12, 13, 15, 14, 16, 17, 18, 19, 20])]
def m20 (x0 x1 x2 x3 : Value) (H : Heap) (Q : Ending → Heap → Prop) : Prop :=
oNew (Value.cells x0).toList (Value.cells x0).toList.length 29 H fun i_1 H_2 =>
oNew (Value.cells x1).toList (Value.cells x1).toList.length 44 H_2 fun i_3 H_4 =>
oV (vField 4 (ptrTo i_3)) fun t12_5 =>
oV (vLoad ty3 t12_5 H_4) fun t13_6 =>
oV (vInt .eql t13_6 (.int .i64 4)) fun t14_7 =>
condK t14_7 (
Q (.returned (.slice none 0 0)) H_4) (
oV (vField 3 (ptrTo i_3)) fun t15_8 =>
oV (vLoad ty3 t15_8 H_4) fun t16_9 =>
oV (vInt .lss t16_9 (.int .i64 0)) fun t17_10 =>
oV (gV t17_10 false (vField 3 (ptrTo i_3)) (some undef)) fun t19_11 =>
oV (gV t17_10 false (vLoad ty3 t19_11 H_4) (some undef)) fun t20_12 =>
oV (gV t17_10 false (some x2) (some undef)) fun t21_13 =>
oV (gV t17_10 false (vLen t21_13) (some undef)) fun t22_14 =>
oV (gV t17_10 false (vInt .geq t20_12 t22_14) (some undef)) fun t23_15 =>
oV (vPick t17_10 (.bool true) t23_15) fun t24_16 =>
condK t24_16 (
Q (.returned x2) H_4) (
oV (vField 0 (ptrTo i_1)) fun t26_17 =>
oV (vField 0 t26_17) fun t27_18 =>
oV (vLoad ty22 t27_18 H_4) fun t28_19 =>
oBuildS ty22 22 0 [] H_4 fun s_20 H_21 =>
oAppend ty22 22 s_20 x2 H_21 fun v_22 H_23 =>
oV (vField 5 (ptrTo i_3)) fun t32_24 =>
oV (vLoad ty22 t32_24 H_23) fun t33_25 =>
oV (vInt .rem t33_25 t28_19) fun t35_26 =>
oV (vField 4 (ptrTo i_3)) fun t36_27 =>
oV (vLoad ty3 t36_27 H_23) fun t37_28 =>
oV (vInt .eql t37_28 (.int .i64 1)) fun t39_29 =>
condK t39_29 (
oV (vField 3 (ptrTo i_3)) fun t41_30 =>
oV (vLoad ty3 t41_30 H_23) fun t42_31 =>
oV (vIdxS 1 v_22 t42_31) fun t44_32 =>
oHeap (vStore ty22 t44_32 t35_26 H_23) fun H_33 =>
Q (.returned v_22) H_33) (
oV (vInt .eql t37_28 (.int .i64 2)) fun t46_34 =>
condK t46_34 (
oV (vField 3 (ptrTo i_3)) fun t48_35 =>
oV (vLoad ty3 t48_35 H_23) fun t49_36 =>
oV (vField 3 (ptrTo i_3)) fun t52_37 =>
oV (vLoad ty3 t52_37 H_23) fun t53_38 =>
oV (vIdxS 1 v_22 t53_38) fun t54_39 =>
oV (vLoad ty22 t54_39 H_23) fun t55_40 =>
oRC Try.prog 32 [t28_19, t55_40, t35_26] H_23 noP fun v_41 H_42 =>
(vLoad ty3 t48_35 H_42 = some t49_36 ∧
oV (vIdxS 1 v_22 t49_36) fun t58_43 =>
oHeap (vStore ty22 t58_43 v_41 H_42) fun H_44 =>
Q (.returned v_22) H_44)) (
oV (vInt .eql t37_28 (.int .i64 3)) fun t60_45 =>
condK t60_45 (
oV (vLoad ty29 (ptrTo i_1) H_23) fun t61_46 =>
oV (vField 6 (ptrTo i_3)) fun t62_47 =>
oV (vLoad ty3 t62_47 H_23) fun t63_48 =>
oRC Try.prog 19 [t61_46, t63_48] H_23 (fun c H => Q (.panicked c) H) fun v_49 H_50 =>
oV (vUn .not v_49) fun t65_51 =>
condK t65_51 (
oV (vField 3 (ptrTo i_3)) fun t67_52 =>
oV (vLoad ty3 t67_52 H_50) fun t68_53 =>
oV (vField 3 (ptrTo i_3)) fun t71_54 =>
oV (vLoad ty3 t71_54 H_50) fun t72_55 =>
oV (vIdxS 1 v_22 t72_55) fun t73_56 =>
oV (vLoad ty22 t73_56 H_50) fun t74_57 =>
oV (vField 7 (ptrTo i_3)) fun t78_58 =>
oV (vLoad ty3 t78_58 H_50) fun t79_59 =>
oRC Try.prog 34 [x3, t79_59] H_50 noP fun v_60 H_61 =>
(vLoad ty22 t73_56 H_61 = some t74_57 ∧
(vLoad ty3 t71_54 H_61 = some t72_55 ∧
(vLoad ty3 t67_52 H_61 = some t68_53 ∧
oV (vInt .rem v_60 t28_19) fun t82_62 =>
oRC Try.prog 33 [t28_19, t35_26, t82_62] H_61 noP fun v_63 H_64 =>
(vLoad ty22 t73_56 H_64 = some t74_57 ∧
(vLoad ty3 t71_54 H_64 = some t72_55 ∧
(vLoad ty3 t67_52 H_64 = some t68_53 ∧
oRC Try.prog 32 [t28_19, t74_57, v_63] H_64 noP fun v_65 H_66 =>
(vLoad ty3 t67_52 H_66 = some t68_53 ∧
oV (vIdxS 1 v_22 t68_53) fun t85_67 =>
oHeap (vStore ty22 t85_67 v_65 H_66) fun H_68 =>
Q (.returned v_22) H_68)))))))) (
Q (.returned v_22) H_50)) (
Q (.returned v_22) H_23)))))
theorem c20_0 (env : Env) (H : Heap) (Q : Ending → Heap → Prop) (h : m20 (env 0) (env 1) (env 2) (env 3) H Q) :
    RCode Try.prog 87 (bodyOf Try.f20) env H (mkK (retK T Try.f20.results.toList Q) (fun _ _ _ => False) (retK T Try.f20.results.toList Q) (fun c H => Q (.panicked c) H)) :=
  RCode.leaf_ (T := T) (X := ext) (hint := hint20) tok xok mixed (by kernel_rfl) h
theorem call20 (a0 a1 a2 a3 : Value) (H : Heap) (Q : Ending → Heap → Prop) (h : m20 a0 a1 a2 a3 H Q) : RCalls Try.prog 20 [a0, a1, a2, a3] H Q :=
  RCalls.intro (nt := 87) tok Try.func20 (by kernel_rfl) (by kernel_rfl) (by kernel_rfl) (of_decide_eq_true (by kernel_rfl)) (c20_0 (envOf [a0, a1, a2, a3]) H Q h)
/-! ### 9: privity/privityref13.ApplyToBroadcasts -/
def hint9 : Nat → List Nat := lookupL [(10, [0, 1, 2, 3, 4, 5, 6, 7, 8, 9, 10, 11, 12, 13, 14, 15])]
def m9_1 (x7 : Value) (H : Heap) (Q : Ending → Heap → Prop) : Prop :=
Q (.returned x7) H
theorem c9_1 (env : Env) (H : Heap) (Q : Ending → Heap → Prop) (h : m9_1 (env 7) H Q) :
    RCode Try.prog 61 (codeAt [1, 1, 1] (bodyOf Try.f9)) env H (mkK (retK T Try.f9.results.toList Q) (fun _ _ _ => False) (retK T Try.f9.results.toList Q) (fun c H => Q (.panicked c) H)) :=
  RCode.leaf_ (T := T) (X := ext) (hint := hint9) tok xok mixed (by kernel_rfl) h
def L9_3 (x1 x2 x3 x7 x8 : Value) (H : Heap) (kn : Value → Heap → Prop) (Q : Ending → Heap → Prop) : Prop :=
  ∀ env : Env, env 1 = x1 → env 2 = x2 → env 3 = x3 → env 7 = x7 → env 8 = x8 → RLoop Try.prog 61 (codeAt [1, 1, 0, 1, 0, 0] (bodyOf Try.f9)) env H (mkK (fun _ _ => False) (inK 0 (fun e H => kn (e 7) H) (fun _ _ _ => False)) (retK T Try.f9.results.toList Q) (fun c H => Q (.panicked c) H))
theorem cL9_3 (env : Env) (H : Heap) (kn : Value → Heap → Prop) (Q : Ending → Heap → Prop) (h : L9_3 (env 1) (env 2) (env 3) (env 7) (env 8) H kn Q) :
    RCode Try.prog 61 (codeAt [1, 1, 0, 1] (bodyOf Try.f9)) env H (mkK (fun e H => kn (e 7) H) (fun _ _ _ => False) (retK T Try.f9.results.toList Q) (fun c H => Q (.panicked c) H)) :=
  RCode.blk (by kernel_rfl : (codeAt [1, 1, 0, 1] (bodyOf Try.f9)) = .block 0 (codeAt [1, 1, 0, 1, 0] (bodyOf Try.f9))) (RCode.lp (by kernel_rfl : (codeAt [1, 1, 0, 1, 0] (bodyOf Try.f9)) = .loop (codeAt [1, 1, 0, 1, 0, 0] (bodyOf Try.f9))) ((h env rfl rfl rfl rfl rfl).mono (mkK_mono (fun _ _ h => h.elim) (fun _ _ _ h => h) (fun _ _ h => h) (fun _ _ h => h))))
def m9_4 (x1 x2 x3 x7 x8 : Value) (H : Heap) (kn : Value → Value → Value → Value → Value → Heap → Prop) (kx0 : Value → Heap → Prop) (Q : Ending → Heap → Prop) : Prop :=
oV (vField 4 x3) fun t15_1 =>
oV (vLoad ty26 t15_1 H) fun t16_2 =>
oV (vLen t16_2) fun t17_3 =>
oV (vInt .lss x8 t17_3) fun t18_4 =>
condK t18_4 (
oV (vField 4 x3) fun t21_5 =>
oV (vLoad ty26 t21_5 H) fun t22_6 =>
oV (vIdxS 8 t22_6 x8) fun t24_7 =>
oV (vLoad ty44 t24_7 H) fun t25_8 =>
oNew (Value.cells ty44.zero).toList (Value.cells ty44.zero).toList.length 44 H fun i_9 H_10 =>
oHeap (vStore ty44 (ptrTo i_9) t25_8 H_10) fun H_11 =>
oV (vField 0 (ptrTo i_9)) fun t26_12 =>
oV (vLoad ty3 t26_12 H_11) fun t27_13 =>
oV (vInt .eql t27_13 x1) fun t29_14 =>
oV (gV t29_14 true (vLoad ty29 x3 H_11) (some undef)) fun t31_15 =>
oV (gV t29_14 true (vField 1 (ptrTo i_9)) (some undef)) fun t32_16 =>
oV (gV t29_14 true (vLoad ty3 t32_16 H_11) (some undef)) fun t33_17 =>
letK (fun t34_19 H_20 =>
oV (vPick t29_14 t34_19 (.bool false)) fun t35_21 =>
condK t35_21 (
oV (vField 6 (ptrTo i_9)) fun t36_22 =>
oV (vLoad ty3 t36_22 H_20) fun t37_23 =>
oV (vInt .geq t37_23 (.int .i64 1)) fun t38_24 =>
condK t38_24 (
oV (vField 6 (ptrTo i_9)) fun t40_25 =>
oV (vLoad ty3 t40_25 H_20) fun t41_26 =>
oV (vInt .sub t41_26 (.int .i64 1)) fun t42_27 =>
oV (vIdxS 1 x2 t42_27) fun t43_28 =>
oV (vLoad ty41 t43_28 H_20) fun t44_29 =>
oV (vField 1 (ptrTo i_9)) fun t46_30 =>
oV (vLoad ty3 t46_30 H_20) fun t47_31 =>
oV (vInt .sub t47_31 (.int .i64 1)) fun t48_32 =>
oV (vLoad ty29 x3 H_20) fun t49_33 =>
oV (vLoad ty44 (ptrTo i_9) H_20) fun t50_34 =>
oV (vField 1 (ptrTo i_9)) fun t52_35 =>
oV (vLoad ty3 t52_35 H_20) fun t53_36 =>
oV (vInt .sub t53_36 (.int .i64 1)) fun t54_37 =>
oV (vIdxS 1 x7 t54_37) fun t55_38 =>
oV (vLoad ty41 t55_38 H_20) fun t56_39 =>
oRC Try.prog 20 [t49_33, t50_34, t56_39, t44_29] H_20 noP fun v_40 H_41 =>
(vLoad ty3 t46_30 H_41 = some t47_31 ∧
oV (vIdxS 1 x7 t48_32) fun t59_42 =>
oHeap (vStore ty41 t59_42 v_40 H_41) fun H_43 =>
oV (vInt .add x8 (.int .i64 1)) fun t20_44 =>
kn x1 x2 x3 x7 t20_44 H_43)) (
oV (vField 1 (ptrTo i_9)) fun t46_45 =>
oV (vLoad ty3 t46_45 H_20) fun t47_46 =>
oV (vInt .sub t47_46 (.int .i64 1)) fun t48_47 =>
oV (vLoad ty29 x3 H_20) fun t49_48 =>
oV (vLoad ty44 (ptrTo i_9) H_20) fun t50_49 =>
oV (vField 1 (ptrTo i_9)) fun t52_50 =>
oV (vLoad ty3 t52_50 H_20) fun t53_51 =>
oV (vInt .sub t53_51 (.int .i64 1)) fun t54_52 =>
oV (vIdxS 1 x7 t54_52) fun t55_53 =>
oV (vLoad ty41 t55_53 H_20) fun t56_54 =>
oRC Try.prog 20 [t49_48, t50_49, t56_54, (.slice none 0 0)] H_20 noP fun v_55 H_56 =>
(vLoad ty3 t46_45 H_56 = some t47_46 ∧
oV (vIdxS 1 x7 t48_47) fun t59_57 =>
oHeap (vStore ty41 t59_57 v_55 H_56) fun H_58 =>
oV (vInt .add x8 (.int .i64 1)) fun t20_59 =>
kn x1 x2 x3 x7 t20_59 H_58))) (
oV (vInt .add x8 (.int .i64 1)) fun t20_60 =>
kn x1 x2 x3 x7 t20_60 H_20)) fun k_18 => gK t29_14 true (oRC Try.prog 19 [t31_15, t33_17] H_11 (fun c H => Q (.panicked c) H) fun v_61 H_62 =>
k_18 v_61 H_62) (k_18 undef H_11)) (
kx0 x7 H)
theorem c9_4 (env : Env) (H : Heap) (kn : Value → Value → Value → Value → Value → Heap → Prop) (kx0 : Value → Heap → Prop) (Q : Ending → Heap → Prop) (h : m9_4 (env 1) (env 2) (env 3) (env 7) (env 8) H kn kx0 Q) :
    RCode Try.prog 61 (codeAt [1, 1, 0, 1, 0, 0] (bodyOf Try.f9)) env H (mkK (fun e H => kn (e 1) (e 2) (e 3) (e 7) (e 8) H) (inK 0 (fun e H => kx0 (e 7) H) (fun _ _ _ => False)) (retK T Try.f9.results.toList Q) (fun c H => Q (.panicked c) H)) :=
  RCode.leaf_ (T := T) (X := ext) (hint := hint9) tok xok mixed (by kernel_rfl) h
theorem L9_3_round (x1 x2 x3 x7 x8 : Value) (H : Heap) (kn : Value → Heap → Prop) (Q : Ending → Heap → Prop) (h : m9_4 x1 x2 x3 x7 x8 H (fun y1 y2 y3 y7 y8 H => L9_3 y1 y2 y3 y7 y8 H kn Q) kn Q) : L9_3 x1 x2 x3 x7 x8 H kn Q := by
  intro env h1 h2 h3 h7 h8
  subst h1; subst h2; subst h3; subst h7; subst h8
  exact RLoop.round ((c9_4 env H (fun y1 y2 y3 y7 y8 H => L9_3 y1 y2 y3 y7 y8 H kn Q) kn Q h).mono (mkK_mono (fun e H h => h e rfl rfl rfl rfl rfl) (fun _ _ _ h => h) (fun _ _ h => h) (fun _ _ h => h)))
def m9_2 (x1 x2 x3 x7 : Value) (H : Heap) (kn : Value → Heap → Prop) (Q : Ending → Heap → Prop) : Prop :=
L9_3 x1 x2 x3 x7 (.int .i64 0) H kn Q
theorem c9_2 (env : Env) (H : Heap) (kn : Value → Heap → Prop) (Q : Ending → Heap → Prop) (h : m9_2 (env 1) (env 2) (env 3) (env 7) H kn Q) :
    RCode Try.prog 61 (codeAt [1, 1, 0] (bodyOf Try.f9)) env H (mkK (fun e H => kn (e 7) H) (fun _ _ _ => False) (retK T Try.f9.results.toList Q) (fun c H => Q (.panicked c) H)) :=
  RCode.prefix_ (T := T) (X := ext) (hint := hint9) (hole := (fun e H => L9_3 (e 1) (e 2) (e 3) (e 7) (e 8) H kn Q)) tok xok mixed 1 (by kernel_rfl) (by kernel_rfl : codeAt _ _ = (codeAt [1, 1, 0, 1] (bodyOf Try.f9))) h
    (fun e H h => (cL9_3 e H kn Q h))
def m9 (x0 x1 x2 : Value) (H : Heap) (Q : Ending → Heap → Prop) : Prop :=
oNew (Value.cells x0).toList (Value.cells x0).toList.length 29 H fun i_63 H_64 =>
oBuildS ty41 41 0 [] H_64 fun s_65 H_66 =>
oAppend ty41 41 s_65 x2 H_66 fun v_67 H_68 =>
m9_2 x1 x2 (ptrTo i_63) v_67 H_68 (fun y7_69 H_70 => m9_1 y7_69 H_70 Q) Q
theorem c9_0 (env : Env) (H : Heap) (Q : Ending → Heap → Prop) (h : m9 (env 0) (env 1) (env 2) H Q) :
    RCode Try.prog 61 (bodyOf Try.f9) env H (mkK (retK T Try.f9.results.toList Q) (fun _ _ _ => False) (retK T Try.f9.results.toList Q) (fun c H => Q (.panicked c) H)) :=
  RCode.prefix_ (T := T) (X := ext) (hint := hint9) (hole := (fun e H => m9_2 (e 1) (e 2) (e 3) (e 7) H (fun y7_71 H_72 => m9_1 y7_71 H_72 Q) Q)) tok xok mixed 2 (by kernel_rfl) (by kernel_rfl : codeAt _ _ = (codeAt [1, 1] (bodyOf Try.f9))) h
    (fun e H h => RCode.join (by kernel_rfl : (codeAt [1, 1] (bodyOf Try.f9)) = .seq (codeAt [1, 1, 0] (bodyOf Try.f9)) (codeAt [1, 1, 1] (bodyOf Try.f9))) ((c9_2 e H (fun y7_73 H_74 => m9_1 y7_73 H_74 Q) Q h).mono (mkK_mono (fun e H h => c9_1 e H Q h) (fun _ _ _ h => h) (fun _ _ h => h) (fun _ _ h => h))))
theorem call9 (a0 a1 a2 : Value) (H : Heap) (Q : Ending → Heap → Prop) (h : m9 a0 a1 a2 H Q) : RCalls Try.prog 9 [a0, a1, a2] H Q :=
  RCalls.intro (nt := 61) tok Try.func9 (by kernel_rfl) (by kernel_rfl) (by kernel_rfl) (of_decide_eq_true (by kernel_rfl)) (c9_0 (envOf [a0, a1, a2]) H Q h)
/-! ### 3: privity/privitylaw13.AdversaryBroadcasts -/
def hint3 : Nat → List Nat := lookupL [(3, [0, 1, 2, 3, 4, 5, 6, 7, 9, 10, 11, 12, 13, 14, 8, 15, 16, 17, 18])]
def m3 (x0 : Value) (H : Heap) (Q : Ending → Heap → Prop) : Prop :=
oNew (Value.cells x0).toList (Value.cells x0).toList.length 32 H fun i_1 H_2 =>
oV (vLoad ty32 (ptrTo i_1) H_2) fun t3_3 =>
oRC Try.prog 5 [t3_3] H_2 (fun c H => Q (.panicked c) H) fun v_4 H_5 =>
oV (vUn .not v_4) fun t5_6 =>
condK t5_6 (
oRC Try.prog 6 [] H_5 (fun c H => Q (.panicked c) H) fun v_7 H_8 =>
Q (.returned v_7) H_8) (
oRC Try.prog 6 [] H_5 noP fun v_9 H_10 =>
oV (gV v_9 true (vField 0 (ptrTo i_1)) (some undef)) fun t9_11 =>
oV (gV v_9 true (vLoad ty29 t9_11 H_10) (some undef)) fun t10_12 =>
oV (gV v_9 true (vField 6 (ptrTo i_1)) (some undef)) fun t11_13 =>
oV (gV v_9 true (vLoad ty3 t11_13 H_10) (some undef)) fun t12_14 =>
oV (gV v_9 true (vField 8 (ptrTo i_1)) (some undef)) fun t13_15 =>
oV (gV v_9 true (vLoad ty27 t13_15 H_10) (some undef)) fun t14_16 =>
oV (gV v_9 true (vField 0 (ptrTo i_1)) (some undef)) fun t16_17 =>
oV (gV v_9 true (vLoad ty29 t16_17 H_10) (some undef)) fun t17_18 =>
oV (gV v_9 true (vField 6 (ptrTo i_1)) (some undef)) fun t18_19 =>
oV (gV v_9 true (vLoad ty3 t18_19 H_10) (some undef)) fun t19_20 =>
oV (gV v_9 true (vField 8 (ptrTo i_1)) (some undef)) fun t20_21 =>
oV (gV v_9 true (vLoad ty27 t20_21 H_10) (some undef)) fun t21_22 =>
letK (fun t15_24 H_25 =>
(gV v_9 true (vLoad ty27 t20_21 H_25) (some undef) = some t21_22 ∧
(gV v_9 true (vLoad ty3 t18_19 H_25) (some undef) = some t19_20 ∧
(gV v_9 true (vLoad ty29 t16_17 H_25) (some undef) = some t17_18 ∧
letK (fun t22_27 H_28 =>
letK (fun t23_30 H_31 =>
oV (vPick v_9 t23_30 (.bool false)) fun t24_32 =>
Q (.returned t24_32) H_31) fun k_29 => gK v_9 true (oRC Try.prog 7 [t15_24, t22_27] H_28 noP fun v_33 H_34 =>
k_29 v_33 H_34) (k_29 undef H_28)) fun k_26 => gK v_9 true (oRC Try.prog 9 [t17_18, t19_20, t21_22] H_25 noP fun v_35 H_36 =>
k_26 v_35 H_36) (k_26 undef H_25))))) fun k_23 => gK v_9 true (oRC Try.prog 8 [t10_12, t12_14, t14_16] H_10 noP fun v_37 H_38 =>
k_23 v_37 H_38) (k_23 undef H_10))
theorem c3_0 (env : Env) (H : Heap) (Q : Ending → Heap → Prop) (h : m3 (env 0) H Q) :
    RCode Try.prog 25 (bodyOf Try.f3) env H (mkK (retK T Try.f3.results.toList Q) (fun _ _ _ => False) (retK T Try.f3.results.toList Q) (fun c H => Q (.panicked c) H)) :=
  RCode.leaf_ (T := T) (X := ext) (hint := hint3) tok xok mixed (by kernel_rfl) h
theorem call3 (a0 : Value) (H : Heap) (Q : Ending → Heap → Prop) (h : m3 a0 H Q) : RCalls Try.prog 3 [a0] H Q :=
  RCalls.intro (nt := 25) tok Try.func3 (by kernel_rfl) (by kernel_rfl) (by kernel_rfl) (of_decide_eq_true (by kernel_rfl)) (c3_0 (envOf [a0]) H Q h)
end Go.Proofs.Ytchhpagkdaaglaa.SL
