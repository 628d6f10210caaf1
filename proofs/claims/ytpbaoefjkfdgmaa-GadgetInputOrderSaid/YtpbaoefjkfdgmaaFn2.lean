/- PRINTED by program: for each function what its code asks of what is known, and that it suffices. Not trusted: Lean checks it. -/
import Derived.Test.YtpbaoefjkfdgmaaTab
set_option linter.unusedVariables false
set_option linter.unusedSimpArgs false
set_option maxRecDepth 100000
namespace Go.Proofs.Ytpbaoefjkfdgmaa.SL
open Go
/-! ### 66: privity/privityref02.Mul -/
def hint66 : Nat → List Nat := lookupL [(10, [0, 1, 2, 3, 4, 5, 6, 7, 10, 8, 9, 11, 12])]
def m66_1 (x5 : Value) (H : Heap) (Q : Ending → Heap → Prop) : Prop :=
Q (.returned x5) H
theorem c66_1 (env : Env) (H : Heap) (Q : Ending → Heap → Prop) (h : m66_1 (env 5) H Q) :
    RCode Try.prog 57 (codeAt [1, 1, 1] (bodyOf Try.f66)) env H (mkK (retK T Try.f66.results.toList Q) (fun _ _ _ => False) (retK T Try.f66.results.toList Q) (fun c H => Q (.panicked c) H)) :=
  RCode.leaf_ (T := T) (X := ext) (hint := hint66) tok xok mixed (by kernel_rfl) h
def L66_3 (x0 x1 x5 x6 : Value) (H : Heap) (kn : Value → Heap → Prop) (Q : Ending → Heap → Prop) : Prop :=
  ∀ env : Env, env 0 = x0 → env 1 = x1 → env 5 = x5 → env 6 = x6 → RLoop Try.prog 57 (codeAt [1, 1, 0, 1, 0, 0] (bodyOf Try.f66)) env H (mkK (fun _ _ => False) (inK 0 (fun e H => kn (e 5) H) (fun _ _ _ => False)) (retK T Try.f66.results.toList Q) (fun c H => Q (.panicked c) H))
theorem cL66_3 (env : Env) (H : Heap) (kn : Value → Heap → Prop) (Q : Ending → Heap → Prop) (h : L66_3 (env 0) (env 1) (env 5) (env 6) H kn Q) :
    RCode Try.prog 57 (codeAt [1, 1, 0, 1] (bodyOf Try.f66)) env H (mkK (fun e H => kn (e 5) H) (fun _ _ _ => False) (retK T Try.f66.results.toList Q) (fun c H => Q (.panicked c) H)) :=
  RCode.blk (by kernel_rfl : (codeAt [1, 1, 0, 1] (bodyOf Try.f66)) = .block 0 (codeAt [1, 1, 0, 1, 0] (bodyOf Try.f66))) (RCode.lp (by kernel_rfl : (codeAt [1, 1, 0, 1, 0] (bodyOf Try.f66)) = .loop (codeAt [1, 1, 0, 1, 0, 0] (bodyOf Try.f66))) ((h env rfl rfl rfl rfl).mono (mkK_mono (fun _ _ h => h.elim) (fun _ _ _ h => h) (fun _ _ h => h) (fun _ _ h => h))))
def m66_5 (x0 x1 x5 x6 : Value) (H : Heap) (kn : Value → Value → Value → Value → Heap → Prop) (kx0 : Value → Heap → Prop) (Q : Ending → Heap → Prop) : Prop :=
oV (vInt .add x6 (.int .i64 1)) fun t21_1 =>
kn x0 x1 x5 t21_1 H
theorem c66_5 (env : Env) (H : Heap) (kn : Value → Value → Value → Value → Heap → Prop) (kx0 : Value → Heap → Prop) (Q : Ending → Heap → Prop) (h : m66_5 (env 0) (env 1) (env 5) (env 6) H kn kx0 Q) :
    RCode Try.prog 57 (codeAt [1, 1, 0, 1, 0, 0, 1, 1] (bodyOf Try.f66)) env H (mkK (fun e H => kn (e 0) (e 1) (e 5) (e 6) H) (inK 0 (fun e H => kx0 (e 5) H) (fun _ _ _ => False)) (retK T Try.f66.results.toList Q) (fun c H => Q (.panicked c) H)) :=
  RCode.leaf_ (T := T) (X := ext) (hint := hint66) tok xok mixed (by kernel_rfl) h
def L66_8 (x0 x1 x5 x6 x7 x8 : Value) (H : Heap) (kn : Value → Value → Value → Value → Heap → Prop) (kx1 : Value → Value → Value → Value → Heap → Prop) (kx0 : Value → Heap → Prop) (Q : Ending → Heap → Prop) : Prop :=
  ∀ env : Env, env 0 = x0 → env 1 = x1 → env 5 = x5 → env 6 = x6 → env 7 = x7 → env 8 = x8 → RLoop Try.prog 57 (codeAt [1, 1, 0, 1, 0, 0, 1, 0, 0, 1, 1, 1, 0, 0] (bodyOf Try.f66)) env H (mkK (fun _ _ => False) (inK 2 (fun e H => kn (e 0) (e 1) (e 5) (e 6) H) (inK 1 (fun e H => kx1 (e 0) (e 1) (e 5) (e 6) H) (inK 0 (fun e H => kx0 (e 5) H) (fun _ _ _ => False)))) (retK T Try.f66.results.toList Q) (fun c H => Q (.panicked c) H))
theorem cL66_8 (env : Env) (H : Heap) (kn : Value → Value → Value → Value → Heap → Prop) (kx1 : Value → Value → Value → Value → Heap → Prop) (kx0 : Value → Heap → Prop) (Q : Ending → Heap → Prop) (h : L66_8 (env 0) (env 1) (env 5) (env 6) (env 7) (env 8) H kn kx1 kx0 Q) :
    RCode Try.prog 57 (codeAt [1, 1, 0, 1, 0, 0, 1, 0, 0, 1, 1, 1] (bodyOf Try.f66)) env H (mkK (fun e H => kn (e 0) (e 1) (e 5) (e 6) H) (inK 1 (fun e H => kx1 (e 0) (e 1) (e 5) (e 6) H) (inK 0 (fun e H => kx0 (e 5) H) (fun _ _ _ => False))) (retK T Try.f66.results.toList Q) (fun c H => Q (.panicked c) H)) :=
  RCode.blk (by kernel_rfl : (codeAt [1, 1, 0, 1, 0, 0, 1, 0, 0, 1, 1, 1] (bodyOf Try.f66)) = .block 2 (codeAt [1, 1, 0, 1, 0, 0, 1, 0, 0, 1, 1, 1, 0] (bodyOf Try.f66))) (RCode.lp (by kernel_rfl : (codeAt [1, 1, 0, 1, 0, 0, 1, 0, 0, 1, 1, 1, 0] (bodyOf Try.f66)) = .loop (codeAt [1, 1, 0, 1, 0, 0, 1, 0, 0, 1, 1, 1, 0, 0] (bodyOf Try.f66))) ((h env rfl rfl rfl rfl rfl rfl).mono (mkK_mono (fun _ _ h => h.elim) (fun _ _ _ h => h) (fun _ _ h => h) (fun _ _ h => h))))
def m66_9 (x0 x1 x5 x6 x7 x8 : Value) (H : Heap) (kn : Value → Value → Value → Value → Value → Value → Heap → Prop) (kx2 : Value → Value → Value → Value → Heap → Prop) (kx1 : Value → Value → Value → Value → Heap → Prop) (kx0 : Value → Heap → Prop) (Q : Ending → Heap → Prop) : Prop :=
oV (vInt .add x6 x8) fun t29_2 =>
oV (vLen x5) fun t31_3 =>
oV (vInt .lss t29_2 t31_3) fun t32_4 =>
condK t32_4 (
oV (vInt .add x6 x8) fun t38_5 =>
oV (vIdxS 1 x5 t38_5) fun t39_6 =>
oV (vLoad ty22 t39_6 H) fun t40_7 =>
oRC Try.prog 61 [x0, x8] H noP fun v_8 H_9 =>
(vLoad ty22 t39_6 H_9 = some t40_7 ∧
oV (vInt .add t40_7 v_8) fun t44_10 =>
oV (vInt .add t44_10 x7) fun t46_11 =>
oV (vInt .add x6 x8) fun t50_12 =>
oV (vInt .rem t46_11 (.int .u64 2)) fun t52_13 =>
oV (vIdxS 1 x5 t50_12) fun t53_14 =>
oHeap (vStore ty22 t53_14 t52_13 H_9) fun H_15 =>
oV (vInt .quo t46_11 (.int .u64 2)) fun t55_16 =>
oV (vInt .add x8 (.int .i64 1)) fun t34_17 =>
kn x0 x1 x5 x6 t55_16 t34_17 H_15)) (
kx2 x0 x1 x5 x6 H)
theorem c66_9 (env : Env) (H : Heap) (kn : Value → Value → Value → Value → Value → Value → Heap → Prop) (kx2 : Value → Value → Value → Value → Heap → Prop) (kx1 : Value → Value → Value → Value → Heap → Prop) (kx0 : Value → Heap → Prop) (Q : Ending → Heap → Prop) (h : m66_9 (env 0) (env 1) (env 5) (env 6) (env 7) (env 8) H kn kx2 kx1 kx0 Q) :
    RCode Try.prog 57 (codeAt [1, 1, 0, 1, 0, 0, 1, 0, 0, 1, 1, 1, 0, 0] (bodyOf Try.f66)) env H (mkK (fun e H => kn (e 0) (e 1) (e 5) (e 6) (e 7) (e 8) H) (inK 2 (fun e H => kx2 (e 0) (e 1) (e 5) (e 6) H) (inK 1 (fun e H => kx1 (e 0) (e 1) (e 5) (e 6) H) (inK 0 (fun e H => kx0 (e 5) H) (fun _ _ _ => False)))) (retK T Try.f66.results.toList Q) (fun c H => Q (.panicked c) H)) :=
  RCode.leaf_ (T := T) (X := ext) (hint := hint66) tok xok mixed (by kernel_rfl) h
theorem L66_8_round (x0 x1 x5 x6 x7 x8 : Value) (H : Heap) (kn : Value → Value → Value → Value → Heap → Prop) (kx1 : Value → Value → Value → Value → Heap → Prop) (kx0 : Value → Heap → Prop) (Q : Ending → Heap → Prop) (h : m66_9 x0 x1 x5 x6 x7 x8 H (fun y0 y1 y5 y6 y7 y8 H => L66_8 y0 y1 y5 y6 y7 y8 H kn kx1 kx0 Q) kn kx1 kx0 Q) : L66_8 x0 x1 x5 x6 x7 x8 H kn kx1 kx0 Q := by
  intro env h0 h1 h5 h6 h7 h8
  subst h0; subst h1; subst h5; subst h6; subst h7; subst h8
  exact RLoop.round ((c66_9 env H (fun y0 y1 y5 y6 y7 y8 H => L66_8 y0 y1 y5 y6 y7 y8 H kn kx1 kx0 Q) kn kx1 kx0 Q h).mono (mkK_mono (fun e H h => h e rfl rfl rfl rfl rfl rfl) (fun _ _ _ h => h) (fun _ _ h => h) (fun _ _ h => h)))
def m66_7 (x0 x1 x5 x6 : Value) (H : Heap) (kn : Value → Value → Value → Value → Heap → Prop) (kx1 : Value → Value → Value → Value → Heap → Prop) (kx0 : Value → Heap → Prop) (Q : Ending → Heap → Prop) : Prop :=
oV (vIdxS 1 x1 x6) fun t24_18 =>
oV (vLoad ty22 t24_18 H) fun t25_19 =>
oV (vInt .eql t25_19 (.int .u64 0)) fun t26_20 =>
condK t26_20 (
kx1 x0 x1 x5 x6 H) (
L66_8 x0 x1 x5 x6 (.int .u64 0) (.int .i64 0) H kn kx1 kx0 Q)
theorem c66_7 (env : Env) (H : Heap) (kn : Value → Value → Value → Value → Heap → Prop) (kx1 : Value → Value → Value → Value → Heap → Prop) (kx0 : Value → Heap → Prop) (Q : Ending → Heap → Prop) (h : m66_7 (env 0) (env 1) (env 5) (env 6) H kn kx1 kx0 Q) :
    RCode Try.prog 57 (codeAt [1, 1, 0, 1, 0, 0, 1, 0, 0] (bodyOf Try.f66)) env H (mkK (fun e H => kn (e 0) (e 1) (e 5) (e 6) H) (inK 1 (fun e H => kx1 (e 0) (e 1) (e 5) (e 6) H) (inK 0 (fun e H => kx0 (e 5) H) (fun _ _ _ => False))) (retK T Try.f66.results.toList Q) (fun c H => Q (.panicked c) H)) :=
  RCode.prefix_ (T := T) (X := ext) (hint := hint66) (hole := (fun e H => L66_8 (e 0) (e 1) (e 5) (e 6) (e 7) (e 8) H kn kx1 kx0 Q)) tok xok mixed 3 (by kernel_rfl) (by kernel_rfl : codeAt _ _ = (codeAt [1, 1, 0, 1, 0, 0, 1, 0, 0, 1, 1, 1] (bodyOf Try.f66))) h
    (fun e H h => (cL66_8 e H kn kx1 kx0 Q h))
def m66_6 (x0 x1 x5 x6 : Value) (H : Heap) (kn : Value → Value → Value → Value → Heap → Prop) (kx0 : Value → Heap → Prop) (Q : Ending → Heap → Prop) : Prop :=
m66_7 x0 x1 x5 x6 H kn kn kx0 Q
theorem c66_6 (env : Env) (H : Heap) (kn : Value → Value → Value → Value → Heap → Prop) (kx0 : Value → Heap → Prop) (Q : Ending → Heap → Prop) (h : m66_6 (env 0) (env 1) (env 5) (env 6) H kn kx0 Q) :
    RCode Try.prog 57 (codeAt [1, 1, 0, 1, 0, 0, 1, 0] (bodyOf Try.f66)) env H (mkK (fun e H => kn (e 0) (e 1) (e 5) (e 6) H) (inK 0 (fun e H => kx0 (e 5) H) (fun _ _ _ => False)) (retK T Try.f66.results.toList Q) (fun c H => Q (.panicked c) H)) :=
  RCode.blk (by kernel_rfl : (codeAt [1, 1, 0, 1, 0, 0, 1, 0] (bodyOf Try.f66)) = .block 1 (codeAt [1, 1, 0, 1, 0, 0, 1, 0, 0] (bodyOf Try.f66))) (c66_7 env H kn kn kx0 Q h)
def m66_4 (x0 x1 x5 x6 : Value) (H : Heap) (kn : Value → Value → Value → Value → Heap → Prop) (kx0 : Value → Heap → Prop) (Q : Ending → Heap → Prop) : Prop :=
oV (vLen x1) fun t18_21 =>
oV (vInt .lss x6 t18_21) fun t19_22 =>
condK t19_22 (
m66_6 x0 x1 x5 x6 H (fun y0_23 y1_24 y5_25 y6_26 H_27 => m66_5 y0_23 y1_24 y5_25 y6_26 H_27 kn kx0 Q) kx0 Q) (
kx0 x5 H)
theorem c66_4 (env : Env) (H : Heap) (kn : Value → Value → Value → Value → Heap → Prop) (kx0 : Value → Heap → Prop) (Q : Ending → Heap → Prop) (h : m66_4 (env 0) (env 1) (env 5) (env 6) H kn kx0 Q) :
    RCode Try.prog 57 (codeAt [1, 1, 0, 1, 0, 0] (bodyOf Try.f66)) env H (mkK (fun e H => kn (e 0) (e 1) (e 5) (e 6) H) (inK 0 (fun e H => kx0 (e 5) H) (fun _ _ _ => False)) (retK T Try.f66.results.toList Q) (fun c H => Q (.panicked c) H)) :=
  RCode.prefix_ (T := T) (X := ext) (hint := hint66) (hole := (fun e H => m66_6 (e 0) (e 1) (e 5) (e 6) H (fun y0_28 y1_29 y5_30 y6_31 H_32 => m66_5 y0_28 y1_29 y5_30 y6_31 H_32 kn kx0 Q) kx0 Q)) tok xok mixed 1 (by kernel_rfl) (by kernel_rfl : codeAt _ _ = (codeAt [1, 1, 0, 1, 0, 0, 1] (bodyOf Try.f66))) h
    (fun e H h => RCode.join (by kernel_rfl : (codeAt [1, 1, 0, 1, 0, 0, 1] (bodyOf Try.f66)) = .seq (codeAt [1, 1, 0, 1, 0, 0, 1, 0] (bodyOf Try.f66)) (codeAt [1, 1, 0, 1, 0, 0, 1, 1] (bodyOf Try.f66))) ((c66_6 e H (fun y0_33 y1_34 y5_35 y6_36 H_37 => m66_5 y0_33 y1_34 y5_35 y6_36 H_37 kn kx0 Q) kx0 Q h).mono (mkK_mono (fun e H h => c66_5 e H kn kx0 Q h) (fun _ _ _ h => h) (fun _ _ h => h) (fun _ _ h => h))))
theorem L66_3_round (x0 x1 x5 x6 : Value) (H : Heap) (kn : Value → Heap → Prop) (Q : Ending → Heap → Prop) (h : m66_4 x0 x1 x5 x6 H (fun y0 y1 y5 y6 H => L66_3 y0 y1 y5 y6 H kn Q) kn Q) : L66_3 x0 x1 x5 x6 H kn Q := by
  intro env h0 h1 h5 h6
  subst h0; subst h1; subst h5; subst h6
  exact RLoop.round ((c66_4 env H (fun y0 y1 y5 y6 H => L66_3 y0 y1 y5 y6 H kn Q) kn Q h).mono (mkK_mono (fun e H h => h e rfl rfl rfl rfl) (fun _ _ _ h => h) (fun _ _ h => h) (fun _ _ h => h)))
def m66_2 (x0 x1 x5 : Value) (H : Heap) (kn : Value → Heap → Prop) (Q : Ending → Heap → Prop) : Prop :=
L66_3 x0 x1 x5 (.int .i64 0) H kn Q
theorem c66_2 (env : Env) (H : Heap) (kn : Value → Heap → Prop) (Q : Ending → Heap → Prop) (h : m66_2 (env 0) (env 1) (env 5) H kn Q) :
    RCode Try.prog 57 (codeAt [1, 1, 0] (bodyOf Try.f66)) env H (mkK (fun e H => kn (e 5) H) (fun _ _ _ => False) (retK T Try.f66.results.toList Q) (fun c H => Q (.panicked c) H)) :=
  RCode.prefix_ (T := T) (X := ext) (hint := hint66) (hole := (fun e H => L66_3 (e 0) (e 1) (e 5) (e 6) H kn Q)) tok xok mixed 1 (by kernel_rfl) (by kernel_rfl : codeAt _ _ = (codeAt [1, 1, 0, 1] (bodyOf Try.f66))) h
    (fun e H h => (cL66_3 e H kn Q h))
def m66 (x0 x1 : Value) (H : Heap) (Q : Ending → Heap → Prop) : Prop :=
oV (vLen x0) fun t11_38 =>
oV (vLen x1) fun t13_39 =>
oV (vInt .add t11_38 t13_39) fun t14_40 =>
oMake ty22 22 t14_40 t14_40 H fun s_41 H_42 =>
m66_2 x0 x1 s_41 H_42 (fun y5_43 H_44 => m66_1 y5_43 H_44 Q) Q
theorem c66_0 (env : Env) (H : Heap) (Q : Ending → Heap → Prop) (h : m66 (env 0) (env 1) H Q) :
    RCode Try.prog 57 (bodyOf Try.f66) env H (mkK (retK T Try.f66.results.toList Q) (fun _ _ _ => False) (retK T Try.f66.results.toList Q) (fun c H => Q (.panicked c) H)) :=
  RCode.prefix_ (T := T) (X := ext) (hint := hint66) (hole := (fun e H => m66_2 (e 0) (e 1) (e 5) H (fun y5_45 H_46 => m66_1 y5_45 H_46 Q) Q)) tok xok mixed 2 (by kernel_rfl) (by kernel_rfl : codeAt _ _ = (codeAt [1, 1] (bodyOf Try.f66))) h
    (fun e H h => RCode.join (by kernel_rfl : (codeAt [1, 1] (bodyOf Try.f66)) = .seq (codeAt [1, 1, 0] (bodyOf Try.f66)) (codeAt [1, 1, 1] (bodyOf Try.f66))) ((c66_2 e H (fun y5_47 H_48 => m66_1 y5_47 H_48 Q) Q h).mono (mkK_mono (fun e H h => c66_1 e H Q h) (fun _ _ _ h => h) (fun _ _ h => h) (fun _ _ h => h))))
theorem call66 (a0 a1 : Value) (H : Heap) (Q : Ending → Heap → Prop) (h : m66 a0 a1 H Q) : RCalls Try.prog 66 [a0, a1] H Q :=
  RCalls.intro (nt := 57) tok Try.func66 (by kernel_rfl) (by kernel_rfl) (by kernel_rfl) (of_decide_eq_true (by kernel_rfl)) (c66_0 (envOf [a0, a1]) H Q h)
/-! ### 43: privity/privityref34.Lists -/
def hint43 : Nat → List Nat := lookupL []
def m43 (x0 x1 x2 : Value) (H : Heap) (Q : Ending → Heap → Prop) : Prop :=
oV (vInt .eql x0 (.int .i64 0)) fun t9_1 =>
condK t9_1 (
oRC Try.prog 64 [x1, x2] H (fun c H => Q (.panicked c) H) fun v_2 H_3 =>
Q (.returned v_2) H_3) (
oV (vInt .eql x0 (.int .i64 1)) fun t14_4 =>
condK t14_4 (
oRC Try.prog 65 [x1, x2] H (fun c H => Q (.panicked c) H) fun v_5 H_6 =>
Q (.returned v_5) H_6) (
oRC Try.prog 66 [x1, x2] H (fun c H => Q (.panicked c) H) fun v_7 H_8 =>
Q (.returned v_7) H_8))
theorem c43_0 (env : Env) (H : Heap) (Q : Ending → Heap → Prop) (h : m43 (env 0) (env 1) (env 2) H Q) :
    RCode Try.prog 21 (bodyOf Try.f43) env H (mkK (retK T Try.f43.results.toList Q) (fun _ _ _ => False) (retK T Try.f43.results.toList Q) (fun c H => Q (.panicked c) H)) :=
  RCode.leaf_ (T := T) (X := ext) (hint := hint43) tok xok mixed (by kernel_rfl) h
theorem call43 (a0 a1 a2 : Value) (H : Heap) (Q : Ending → Heap → Prop) (h : m43 a0 a1 a2 H Q) : RCalls Try.prog 43 [a0, a1, a2] H Q :=
  RCalls.intro (nt := 21) tok Try.func43 (by kernel_rfl) (by kernel_rfl) (by kernel_rfl) (of_decide_eq_true (by kernel_rfl)) (c43_0 (envOf [a0, a1, a2]) H Q h)
/-! ### 8: privity/privitylaw34.GadgetBitArithmetic -/
def hint8 : Nat → List Nat := lookupL []
def m8_1 (H : Heap) (Q : Ending → Heap → Prop) : Prop :=
Q (.returned (.bool true)) H
theorem c8_1 (env : Env) (H : Heap) (Q : Ending → Heap → Prop) (h : m8_1 H Q) :
    RCode Try.prog 88 (codeAt [1, 1, 1, 1, 1, 1] (bodyOf Try.f8)) env H (mkK (retK T Try.f8.results.toList Q) (fun _ _ _ => False) (retK T Try.f8.results.toList Q) (fun c H => Q (.panicked c) H)) :=
  RCode.leaf_ (T := T) (X := ext) (hint := hint8) tok xok mixed (by kernel_rfl) h
def L8_3 (x0 x1 x2 x7 x8 x9 : Value) (H : Heap) (kn : Heap → Prop) (Q : Ending → Heap → Prop) : Prop :=
  ∀ env : Env, env 0 = x0 → env 1 = x1 → env 2 = x2 → env 7 = x7 → env 8 = x8 → env 9 = x9 → RLoop Try.prog 88 (codeAt [1, 1, 1, 1, 1, 0, 1, 0, 0] (bodyOf Try.f8)) env H (mkK (fun _ _ => False) (inK 0 (fun e H => kn H) (fun _ _ _ => False)) (retK T Try.f8.results.toList Q) (fun c H => Q (.panicked c) H))
theorem cL8_3 (env : Env) (H : Heap) (kn : Heap → Prop) (Q : Ending → Heap → Prop) (h : L8_3 (env 0) (env 1) (env 2) (env 7) (env 8) (env 9) H kn Q) :
    RCode Try.prog 88 (codeAt [1, 1, 1, 1, 1, 0, 1] (bodyOf Try.f8)) env H (mkK (fun e H => kn H) (fun _ _ _ => False) (retK T Try.f8.results.toList Q) (fun c H => Q (.panicked c) H)) :=
  RCode.blk (by kernel_rfl : (codeAt [1, 1, 1, 1, 1, 0, 1] (bodyOf Try.f8)) = .block 0 (codeAt [1, 1, 1, 1, 1, 0, 1, 0] (bodyOf Try.f8))) (RCode.lp (by kernel_rfl : (codeAt [1, 1, 1, 1, 1, 0, 1, 0] (bodyOf Try.f8)) = .loop (codeAt [1, 1, 1, 1, 1, 0, 1, 0, 0] (bodyOf Try.f8))) ((h env rfl rfl rfl rfl rfl rfl).mono (mkK_mono (fun _ _ h => h.elim) (fun _ _ _ h => h) (fun _ _ h => h) (fun _ _ h => h))))
def m8_5 (x0 x1 x2 x7 x8 x9 : Value) (H : Heap) (kn : Value → Value → Value → Value → Value → Value → Heap → Prop) (kx0 : Heap → Prop) (Q : Ending → Heap → Prop) : Prop :=
oV (vInt .add x9 (.int .i64 1)) fun t37_1 =>
kn x0 x1 x2 x7 x8 t37_1 H
theorem c8_5 (env : Env) (H : Heap) (kn : Value → Value → Value → Value → Value → Value → Heap → Prop) (kx0 : Heap → Prop) (Q : Ending → Heap → Prop) (h : m8_5 (env 0) (env 1) (env 2) (env 7) (env 8) (env 9) H kn kx0 Q) :
    RCode Try.prog 88 (codeAt [1, 1, 1, 1, 1, 0, 1, 0, 0, 1, 1] (bodyOf Try.f8)) env H (mkK (fun e H => kn (e 0) (e 1) (e 2) (e 7) (e 8) (e 9) H) (inK 0 (fun e H => kx0 H) (fun _ _ _ => False)) (retK T Try.f8.results.toList Q) (fun c H => Q (.panicked c) H)) :=
  RCode.leaf_ (T := T) (X := ext) (hint := hint8) tok xok mixed (by kernel_rfl) h
def m8_9 (x0 x1 x2 x7 x8 x9 x10 : Value) (H : Heap) (kn : Value → Value → Value → Value → Value → Value → Heap → Prop) (kx1 : Value → Value → Value → Value → Value → Value → Heap → Prop) (kx0 : Heap → Prop) (Q : Ending → Heap → Prop) : Prop :=
oRC Try.prog 23 [x10] H (fun c H => Q (.panicked c) H) fun v_2 H_3 =>
oBuildS ty35 35 2 [((0, 1), x7), ((1, 1), x8)] H_3 fun s_4 H_5 =>
oRC Try.prog 43 [x9, x7, x8] H_5 (fun c H => Q (.panicked c) H) fun v_6 H_7 =>
oRC Try.prog 22 [v_2, s_4, v_6] H_7 (fun c H => Q (.panicked c) H) fun v_8 H_9 =>
oV (vUn .not v_8) fun t87_10 =>
condK t87_10 (
Q (.returned (.bool false)) H_9) (
kn x0 x1 x2 x7 x8 x9 H_9)
theorem c8_9 (env : Env) (H : Heap) (kn : Value → Value → Value → Value → Value → Value → Heap → Prop) (kx1 : Value → Value → Value → Value → Value → Value → Heap → Prop) (kx0 : Heap → Prop) (Q : Ending → Heap → Prop) (h : m8_9 (env 0) (env 1) (env 2) (env 7) (env 8) (env 9) (env 10) H kn kx1 kx0 Q) :
    RCode Try.prog 88 (codeAt [1, 1, 1, 1, 1, 0, 1, 0, 0, 1, 0, 0, 1, 1, 1, 1, 1, 1] (bodyOf Try.f8)) env H (mkK (fun e H => kn (e 0) (e 1) (e 2) (e 7) (e 8) (e 9) H) (inK 1 (fun e H => kx1 (e 0) (e 1) (e 2) (e 7) (e 8) (e 9) H) (inK 0 (fun e H => kx0 H) (fun _ _ _ => False))) (retK T Try.f8.results.toList Q) (fun c H => Q (.panicked c) H)) :=
  RCode.leaf_ (T := T) (X := ext) (hint := hint8) tok xok mixed (by kernel_rfl) h
def L8_11 (x0 x1 x2 x7 x8 x9 x10 x13 x14 : Value) (H : Heap) (kn : Value → Value → Value → Value → Value → Value → Value → Heap → Prop) (kx1 : Value → Value → Value → Value → Value → Value → Heap → Prop) (kx0 : Heap → Prop) (Q : Ending → Heap → Prop) : Prop :=
  ∀ env : Env, env 0 = x0 → env 1 = x1 → env 2 = x2 → env 7 = x7 → env 8 = x8 → env 9 = x9 → env 10 = x10 → env 13 = x13 → env 14 = x14 → RLoop Try.prog 88 (codeAt [1, 1, 1, 1, 1, 0, 1, 0, 0, 1, 0, 0, 1, 1, 1, 1, 1, 0, 1, 0, 0] (bodyOf Try.f8)) env H (mkK (fun _ _ => False) (inK 3 (fun e H => kn (e 0) (e 1) (e 2) (e 7) (e 8) (e 9) (e 10) H) (inK 1 (fun e H => kx1 (e 0) (e 1) (e 2) (e 7) (e 8) (e 9) H) (inK 0 (fun e H => kx0 H) (fun _ _ _ => False)))) (retK T Try.f8.results.toList Q) (fun c H => Q (.panicked c) H))
theorem cL8_11 (env : Env) (H : Heap) (kn : Value → Value → Value → Value → Value → Value → Value → Heap → Prop) (kx1 : Value → Value → Value → Value → Value → Value → Heap → Prop) (kx0 : Heap → Prop) (Q : Ending → Heap → Prop) (h : L8_11 (env 0) (env 1) (env 2) (env 7) (env 8) (env 9) (env 10) (env 13) (env 14) H kn kx1 kx0 Q) :
    RCode Try.prog 88 (codeAt [1, 1, 1, 1, 1, 0, 1, 0, 0, 1, 0, 0, 1, 1, 1, 1, 1, 0, 1] (bodyOf Try.f8)) env H (mkK (fun e H => kn (e 0) (e 1) (e 2) (e 7) (e 8) (e 9) (e 10) H) (inK 1 (fun e H => kx1 (e 0) (e 1) (e 2) (e 7) (e 8) (e 9) H) (inK 0 (fun e H => kx0 H) (fun _ _ _ => False))) (retK T Try.f8.results.toList Q) (fun c H => Q (.panicked c) H)) :=
  RCode.blk (by kernel_rfl : (codeAt [1, 1, 1, 1, 1, 0, 1, 0, 0, 1, 0, 0, 1, 1, 1, 1, 1, 0, 1] (bodyOf Try.f8)) = .block 3 (codeAt [1, 1, 1, 1, 1, 0, 1, 0, 0, 1, 0, 0, 1, 1, 1, 1, 1, 0, 1, 0] (bodyOf Try.f8))) (RCode.lp (by kernel_rfl : (codeAt [1, 1, 1, 1, 1, 0, 1, 0, 0, 1, 0, 0, 1, 1, 1, 1, 1, 0, 1, 0] (bodyOf Try.f8)) = .loop (codeAt [1, 1, 1, 1, 1, 0, 1, 0, 0, 1, 0, 0, 1, 1, 1, 1, 1, 0, 1, 0, 0] (bodyOf Try.f8))) ((h env rfl rfl rfl rfl rfl rfl rfl rfl rfl).mono (mkK_mono (fun _ _ h => h.elim) (fun _ _ _ h => h) (fun _ _ h => h) (fun _ _ h => h))))
def m8_12 (x0 x1 x2 x7 x8 x9 x10 x13 x14 : Value) (H : Heap) (kn : Value → Value → Value → Value → Value → Value → Value → Value → Value → Heap → Prop) (kx3 : Value → Value → Value → Value → Value → Value → Value → Heap → Prop) (kx1 : Value → Value → Value → Value → Value → Value → Heap → Prop) (kx0 : Heap → Prop) (Q : Ending → Heap → Prop) : Prop :=
oV (vLen x13) fun t67_11 =>
oV (vInt .lss x14 t67_11) fun t68_12 =>
condK t68_12 (
oV (vIdxS 1 x13 x14) fun t74_13 =>
oV (vLoad ty3 t74_13 H) fun t75_14 =>
oRC Try.prog 14 [x10, t75_14] H (fun c H => Q (.panicked c) H) fun v_15 H_16 =>
oV (vInt .add x14 (.int .i64 1)) fun t70_17 =>
kn x0 x1 x2 x7 x8 x9 x10 x13 t70_17 H_16) (
kx3 x0 x1 x2 x7 x8 x9 x10 H)
theorem c8_12 (env : Env) (H : Heap) (kn : Value → Value → Value → Value → Value → Value → Value → Value → Value → Heap → Prop) (kx3 : Value → Value → Value → Value → Value → Value → Value → Heap → Prop) (kx1 : Value → Value → Value → Value → Value → Value → Heap → Prop) (kx0 : Heap → Prop) (Q : Ending → Heap → Prop) (h : m8_12 (env 0) (env 1) (env 2) (env 7) (env 8) (env 9) (env 10) (env 13) (env 14) H kn kx3 kx1 kx0 Q) :
    RCode Try.prog 88 (codeAt [1, 1, 1, 1, 1, 0, 1, 0, 0, 1, 0, 0, 1, 1, 1, 1, 1, 0, 1, 0, 0] (bodyOf Try.f8)) env H (mkK (fun e H => kn (e 0) (e 1) (e 2) (e 7) (e 8) (e 9) (e 10) (e 13) (e 14) H) (inK 3 (fun e H => kx3 (e 0) (e 1) (e 2) (e 7) (e 8) (e 9) (e 10) H) (inK 1 (fun e H => kx1 (e 0) (e 1) (e 2) (e 7) (e 8) (e 9) H) (inK 0 (fun e H => kx0 H) (fun _ _ _ => False)))) (retK T Try.f8.results.toList Q) (fun c H => Q (.panicked c) H)) :=
  RCode.leaf_ (T := T) (X := ext) (hint := hint8) tok xok mixed (by kernel_rfl) h
theorem L8_11_round (x0 x1 x2 x7 x8 x9 x10 x13 x14 : Value) (H : Heap) (kn : Value → Value → Value → Value → Value → Value → Value → Heap → Prop) (kx1 : Value → Value → Value → Value → Value → Value → Heap → Prop) (kx0 : Heap → Prop) (Q : Ending → Heap → Prop) (h : m8_12 x0 x1 x2 x7 x8 x9 x10 x13 x14 H (fun y0 y1 y2 y7 y8 y9 y10 y13 y14 H => L8_11 y0 y1 y2 y7 y8 y9 y10 y13 y14 H kn kx1 kx0 Q) kn kx1 kx0 Q) : L8_11 x0 x1 x2 x7 x8 x9 x10 x13 x14 H kn kx1 kx0 Q := by
  intro env h0 h1 h2 h7 h8 h9 h10 h13 h14
  subst h0; subst h1; subst h2; subst h7; subst h8; subst h9; subst h10; subst h13; subst h14
  exact RLoop.round ((c8_12 env H (fun y0 y1 y2 y7 y8 y9 y10 y13 y14 H => L8_11 y0 y1 y2 y7 y8 y9 y10 y13 y14 H kn kx1 kx0 Q) kn kx1 kx0 Q h).mono (mkK_mono (fun e H h => h e rfl rfl rfl rfl rfl rfl rfl rfl rfl) (fun _ _ _ h => h) (fun _ _ h => h) (fun _ _ h => h)))
def m8_10 (x0 x1 x2 x7 x8 x9 x10 x13 : Value) (H : Heap) (kn : Value → Value → Value → Value → Value → Value → Value → Heap → Prop) (kx1 : Value → Value → Value → Value → Value → Value → Heap → Prop) (kx0 : Heap → Prop) (Q : Ending → Heap → Prop) : Prop :=
L8_11 x0 x1 x2 x7 x8 x9 x10 x13 (.int .i64 0) H kn kx1 kx0 Q
theorem c8_10 (env : Env) (H : Heap) (kn : Value → Value → Value → Value → Value → Value → Value → Heap → Prop) (kx1 : Value → Value → Value → Value → Value → Value → Heap → Prop) (kx0 : Heap → Prop) (Q : Ending → Heap → Prop) (h : m8_10 (env 0) (env 1) (env 2) (env 7) (env 8) (env 9) (env 10) (env 13) H kn kx1 kx0 Q) :
    RCode Try.prog 88 (codeAt [1, 1, 1, 1, 1, 0, 1, 0, 0, 1, 0, 0, 1, 1, 1, 1, 1, 0] (bodyOf Try.f8)) env H (mkK (fun e H => kn (e 0) (e 1) (e 2) (e 7) (e 8) (e 9) (e 10) H) (inK 1 (fun e H => kx1 (e 0) (e 1) (e 2) (e 7) (e 8) (e 9) H) (inK 0 (fun e H => kx0 H) (fun _ _ _ => False))) (retK T Try.f8.results.toList Q) (fun c H => Q (.panicked c) H)) :=
  RCode.prefix_ (T := T) (X := ext) (hint := hint8) (hole := (fun e H => L8_11 (e 0) (e 1) (e 2) (e 7) (e 8) (e 9) (e 10) (e 13) (e 14) H kn kx1 kx0 Q)) tok xok mixed 1 (by kernel_rfl) (by kernel_rfl : codeAt _ _ = (codeAt [1, 1, 1, 1, 1, 0, 1, 0, 0, 1, 0, 0, 1, 1, 1, 1, 1, 0, 1] (bodyOf Try.f8))) h
    (fun e H h => (cL8_11 e H kn kx1 kx0 Q h))
def m8_8 (x0 x1 x2 x7 x8 x9 x10 x13 : Value) (H : Heap) (kn : Value → Value → Value → Value → Value → Value → Heap → Prop) (kx1 : Value → Value → Value → Value → Value → Value → Heap → Prop) (kx0 : Heap → Prop) (Q : Ending → Heap → Prop) : Prop :=
m8_10 x0 x1 x2 x7 x8 x9 x10 x13 H (fun y0_18 y1_19 y2_20 y7_21 y8_22 y9_23 y10_24 H_25 => m8_9 y0_18 y1_19 y2_20 y7_21 y8_22 y9_23 y10_24 H_25 kn kx1 kx0 Q) kx1 kx0 Q
theorem c8_8 (env : Env) (H : Heap) (kn : Value → Value → Value → Value → Value → Value → Heap → Prop) (kx1 : Value → Value → Value → Value → Value → Value → Heap → Prop) (kx0 : Heap → Prop) (Q : Ending → Heap → Prop) (h : m8_8 (env 0) (env 1) (env 2) (env 7) (env 8) (env 9) (env 10) (env 13) H kn kx1 kx0 Q) :
    RCode Try.prog 88 (codeAt [1, 1, 1, 1, 1, 0, 1, 0, 0, 1, 0, 0, 1, 1, 1, 1, 1] (bodyOf Try.f8)) env H (mkK (fun e H => kn (e 0) (e 1) (e 2) (e 7) (e 8) (e 9) H) (inK 1 (fun e H => kx1 (e 0) (e 1) (e 2) (e 7) (e 8) (e 9) H) (inK 0 (fun e H => kx0 H) (fun _ _ _ => False))) (retK T Try.f8.results.toList Q) (fun c H => Q (.panicked c) H)) :=
  RCode.join (by kernel_rfl : (codeAt [1, 1, 1, 1, 1, 0, 1, 0, 0, 1, 0, 0, 1, 1, 1, 1, 1] (bodyOf Try.f8)) = .seq (codeAt [1, 1, 1, 1, 1, 0, 1, 0, 0, 1, 0, 0, 1, 1, 1, 1, 1, 0] (bodyOf Try.f8)) (codeAt [1, 1, 1, 1, 1, 0, 1, 0, 0, 1, 0, 0, 1, 1, 1, 1, 1, 1] (bodyOf Try.f8))) ((c8_10 env H (fun y0_26 y1_27 y2_28 y7_29 y8_30 y9_31 y10_32 H_33 => m8_9 y0_26 y1_27 y2_28 y7_29 y8_30 y9_31 y10_32 H_33 kn kx1 kx0 Q) kx1 kx0 Q h).mono (mkK_mono (fun e H h => c8_9 e H kn kx1 kx0 Q h) (fun _ _ _ h => h) (fun _ _ h => h) (fun _ _ h => h)))
def m8_7 (x0 x1 x2 x7 x8 x9 : Value) (H : Heap) (kn : Value → Value → Value → Value → Value → Value → Heap → Prop) (kx1 : Value → Value → Value → Value → Value → Value → Heap → Prop) (kx0 : Heap → Prop) (Q : Ending → Heap → Prop) : Prop :=
oRC Try.prog 12 [x0] H (fun c H => Q (.panicked c) H) fun v_34 H_35 =>
oV (vLen x1) fun t42_36 =>
oRC Try.prog 26 [v_34, (.int .i64 1), t42_36] H_35 (fun c H => Q (.panicked c) H) fun v_37 H_38 =>
oV (vLen x2) fun t46_39 =>
oRC Try.prog 26 [v_34, (.int .i64 2), t46_39] H_38 (fun c H => Q (.panicked c) H) fun v_40 H_41 =>
oV (vInt .eql x9 (.int .i64 0)) fun t54_42 =>
condK t54_42 (
oRC Try.prog 40 [v_34, v_37, v_40] H_41 (fun c H => Q (.panicked c) H) fun v_43 H_44 =>
m8_8 x0 x1 x2 x7 x8 x9 v_34 v_43 H_44 kn kx1 kx0 Q) (
oV (vInt .eql x9 (.int .i64 1)) fun t60_45 =>
condK t60_45 (
oRC Try.prog 41 [v_34, v_37, v_40] H_41 (fun c H => Q (.panicked c) H) fun v_46 H_47 =>
m8_8 x0 x1 x2 x7 x8 x9 v_34 v_46 H_47 kn kx1 kx0 Q) (
oRC Try.prog 42 [v_34, v_37, v_40] H_41 (fun c H => Q (.panicked c) H) fun v_48 H_49 =>
m8_8 x0 x1 x2 x7 x8 x9 v_34 v_48 H_49 kn kx1 kx0 Q))
theorem c8_7 (env : Env) (H : Heap) (kn : Value → Value → Value → Value → Value → Value → Heap → Prop) (kx1 : Value → Value → Value → Value → Value → Value → Heap → Prop) (kx0 : Heap → Prop) (Q : Ending → Heap → Prop) (h : m8_7 (env 0) (env 1) (env 2) (env 7) (env 8) (env 9) H kn kx1 kx0 Q) :
    RCode Try.prog 88 (codeAt [1, 1, 1, 1, 1, 0, 1, 0, 0, 1, 0, 0] (bodyOf Try.f8)) env H (mkK (fun e H => kn (e 0) (e 1) (e 2) (e 7) (e 8) (e 9) H) (inK 1 (fun e H => kx1 (e 0) (e 1) (e 2) (e 7) (e 8) (e 9) H) (inK 0 (fun e H => kx0 H) (fun _ _ _ => False))) (retK T Try.f8.results.toList Q) (fun c H => Q (.panicked c) H)) :=
  RCode.prefix_ (T := T) (X := ext) (hint := hint8) (hole := (fun e H => m8_8 (e 0) (e 1) (e 2) (e 7) (e 8) (e 9) (e 10) (e 13) H kn kx1 kx0 Q)) tok xok mixed 5 (by kernel_rfl) (by kernel_rfl : codeAt _ _ = (codeAt [1, 1, 1, 1, 1, 0, 1, 0, 0, 1, 0, 0, 1, 1, 1, 1, 1] (bodyOf Try.f8))) h
    (fun e H h => c8_8 e H kn kx1 kx0 Q h)
def m8_6 (x0 x1 x2 x7 x8 x9 : Value) (H : Heap) (kn : Value → Value → Value → Value → Value → Value → Heap → Prop) (kx0 : Heap → Prop) (Q : Ending → Heap → Prop) : Prop :=
m8_7 x0 x1 x2 x7 x8 x9 H kn kn kx0 Q
theorem c8_6 (env : Env) (H : Heap) (kn : Value → Value → Value → Value → Value → Value → Heap → Prop) (kx0 : Heap → Prop) (Q : Ending → Heap → Prop) (h : m8_6 (env 0) (env 1) (env 2) (env 7) (env 8) (env 9) H kn kx0 Q) :
    RCode Try.prog 88 (codeAt [1, 1, 1, 1, 1, 0, 1, 0, 0, 1, 0] (bodyOf Try.f8)) env H (mkK (fun e H => kn (e 0) (e 1) (e 2) (e 7) (e 8) (e 9) H) (inK 0 (fun e H => kx0 H) (fun _ _ _ => False)) (retK T Try.f8.results.toList Q) (fun c H => Q (.panicked c) H)) :=
  RCode.blk (by kernel_rfl : (codeAt [1, 1, 1, 1, 1, 0, 1, 0, 0, 1, 0] (bodyOf Try.f8)) = .block 1 (codeAt [1, 1, 1, 1, 1, 0, 1, 0, 0, 1, 0, 0] (bodyOf Try.f8))) (c8_7 env H kn kn kx0 Q h)
def m8_4 (x0 x1 x2 x7 x8 x9 : Value) (H : Heap) (kn : Value → Value → Value → Value → Value → Value → Heap → Prop) (kx0 : Heap → Prop) (Q : Ending → Heap → Prop) : Prop :=
oV (vInt .lss x9 (.int .i64 3)) fun t35_50 =>
condK t35_50 (
m8_6 x0 x1 x2 x7 x8 x9 H (fun y0_51 y1_52 y2_53 y7_54 y8_55 y9_56 H_57 => m8_5 y0_51 y1_52 y2_53 y7_54 y8_55 y9_56 H_57 kn kx0 Q) kx0 Q) (
kx0 H)
theorem c8_4 (env : Env) (H : Heap) (kn : Value → Value → Value → Value → Value → Value → Heap → Prop) (kx0 : Heap → Prop) (Q : Ending → Heap → Prop) (h : m8_4 (env 0) (env 1) (env 2) (env 7) (env 8) (env 9) H kn kx0 Q) :
    RCode Try.prog 88 (codeAt [1, 1, 1, 1, 1, 0, 1, 0, 0] (bodyOf Try.f8)) env H (mkK (fun e H => kn (e 0) (e 1) (e 2) (e 7) (e 8) (e 9) H) (inK 0 (fun e H => kx0 H) (fun _ _ _ => False)) (retK T Try.f8.results.toList Q) (fun c H => Q (.panicked c) H)) :=
  RCode.prefix_ (T := T) (X := ext) (hint := hint8) (hole := (fun e H => m8_6 (e 0) (e 1) (e 2) (e 7) (e 8) (e 9) H (fun y0_58 y1_59 y2_60 y7_61 y8_62 y9_63 H_64 => m8_5 y0_58 y1_59 y2_60 y7_61 y8_62 y9_63 H_64 kn kx0 Q) kx0 Q)) tok xok mixed 1 (by kernel_rfl) (by kernel_rfl : codeAt _ _ = (codeAt [1, 1, 1, 1, 1, 0, 1, 0, 0, 1] (bodyOf Try.f8))) h
    (fun e H h => RCode.join (by kernel_rfl : (codeAt [1, 1, 1, 1, 1, 0, 1, 0, 0, 1] (bodyOf Try.f8)) = .seq (codeAt [1, 1, 1, 1, 1, 0, 1, 0, 0, 1, 0] (bodyOf Try.f8)) (codeAt [1, 1, 1, 1, 1, 0, 1, 0, 0, 1, 1] (bodyOf Try.f8))) ((c8_6 e H (fun y0_65 y1_66 y2_67 y7_68 y8_69 y9_70 H_71 => m8_5 y0_65 y1_66 y2_67 y7_68 y8_69 y9_70 H_71 kn kx0 Q) kx0 Q h).mono (mkK_mono (fun e H h => c8_5 e H kn kx0 Q h) (fun _ _ _ h => h) (fun _ _ h => h) (fun _ _ h => h))))
theorem L8_3_round (x0 x1 x2 x7 x8 x9 : Value) (H : Heap) (kn : Heap → Prop) (Q : Ending → Heap → Prop) (h : m8_4 x0 x1 x2 x7 x8 x9 H (fun y0 y1 y2 y7 y8 y9 H => L8_3 y0 y1 y2 y7 y8 y9 H kn Q) kn Q) : L8_3 x0 x1 x2 x7 x8 x9 H kn Q := by
  intro env h0 h1 h2 h7 h8 h9
  subst h0; subst h1; subst h2; subst h7; subst h8; subst h9
  exact RLoop.round ((c8_4 env H (fun y0 y1 y2 y7 y8 y9 H => L8_3 y0 y1 y2 y7 y8 y9 H kn Q) kn Q h).mono (mkK_mono (fun e H h => h e rfl rfl rfl rfl rfl rfl) (fun _ _ _ h => h) (fun _ _ h => h) (fun _ _ h => h)))
def m8_2 (x0 x1 x2 x7 x8 : Value) (H : Heap) (kn : Heap → Prop) (Q : Ending → Heap → Prop) : Prop :=
L8_3 x0 x1 x2 x7 x8 (.int .i64 0) H kn Q
theorem c8_2 (env : Env) (H : Heap) (kn : Heap → Prop) (Q : Ending → Heap → Prop) (h : m8_2 (env 0) (env 1) (env 2) (env 7) (env 8) H kn Q) :
    RCode Try.prog 88 (codeAt [1, 1, 1, 1, 1, 0] (bodyOf Try.f8)) env H (mkK (fun e H => kn H) (fun _ _ _ => False) (retK T Try.f8.results.toList Q) (fun c H => Q (.panicked c) H)) :=
  RCode.prefix_ (T := T) (X := ext) (hint := hint8) (hole := (fun e H => L8_3 (e 0) (e 1) (e 2) (e 7) (e 8) (e 9) H kn Q)) tok xok mixed 1 (by kernel_rfl) (by kernel_rfl : codeAt _ _ = (codeAt [1, 1, 1, 1, 1, 0, 1] (bodyOf Try.f8))) h
    (fun e H h => (cL8_3 e H kn Q h))
def m8 (x0 x1 x2 : Value) (H : Heap) (Q : Ending → Heap → Prop) : Prop :=
oRC Try.prog 10 [] H (fun c H => Q (.panicked c) H) fun v_72 H_73 =>
oV (vUn .not v_72) fun t16_74 =>
condK t16_74 (
Q (.returned (.bool false)) H_73) (
oRC Try.prog 11 [x0] H_73 (fun c H => Q (.panicked c) H) fun v_75 H_76 =>
oV (vUn .not v_75) fun t19_77 =>
oV (gV t19_77 false (some x1) (some undef)) fun t21_78 =>
oV (gV t19_77 false (vLen t21_78) (some undef)) fun t22_79 =>
oV (gV t19_77 false (vInt .gtr t22_79 (.int .i64 10)) (some undef)) fun t23_80 =>
oV (vPick t19_77 (.bool true) t23_80) fun t24_81 =>
oV (gV t24_81 false (some x2) (some undef)) fun t26_82 =>
oV (gV t24_81 false (vLen t26_82) (some undef)) fun t27_83 =>
oV (gV t24_81 false (vInt .gtr t27_83 (.int .i64 10)) (some undef)) fun t28_84 =>
oV (vPick t24_81 (.bool true) t28_84) fun t29_85 =>
condK t29_85 (
Q (.returned (.bool true)) H_76) (
oRC Try.prog 27 [x1] H_76 (fun c H => Q (.panicked c) H) fun v_86 H_87 =>
oRC Try.prog 27 [x2] H_87 (fun c H => Q (.panicked c) H) fun v_88 H_89 =>
m8_2 x0 x1 x2 v_86 v_88 H_89 (fun H_90 => m8_1 H_90 Q) Q))
theorem c8_0 (env : Env) (H : Heap) (Q : Ending → Heap → Prop) (h : m8 (env 0) (env 1) (env 2) H Q) :
    RCode Try.prog 88 (bodyOf Try.f8) env H (mkK (retK T Try.f8.results.toList Q) (fun _ _ _ => False) (retK T Try.f8.results.toList Q) (fun c H => Q (.panicked c) H)) :=
  RCode.prefix_ (T := T) (X := ext) (hint := hint8) (hole := (fun e H => m8_2 (e 0) (e 1) (e 2) (e 7) (e 8) H (fun H_91 => m8_1 H_91 Q) Q)) tok xok mixed 5 (by kernel_rfl) (by kernel_rfl : codeAt _ _ = (codeAt [1, 1, 1, 1, 1] (bodyOf Try.f8))) h
    (fun e H h => RCode.join (by kernel_rfl : (codeAt [1, 1, 1, 1, 1] (bodyOf Try.f8)) = .seq (codeAt [1, 1, 1, 1, 1, 0] (bodyOf Try.f8)) (codeAt [1, 1, 1, 1, 1, 1] (bodyOf Try.f8))) ((c8_2 e H (fun H_92 => m8_1 H_92 Q) Q h).mono (mkK_mono (fun e H h => c8_1 e H Q h) (fun _ _ _ h => h) (fun _ _ h => h) (fun _ _ h => h))))
theorem call8 (a0 a1 a2 : Value) (H : Heap) (Q : Ending → Heap → Prop) (h : m8 a0 a1 a2 H Q) : RCalls Try.prog 8 [a0, a1, a2] H Q :=
  RCalls.intro (nt := 88) tok Try.func8 (by kernel_rfl) (by kernel_rfl) (by kernel_rfl) (of_decide_eq_true (by kernel_rfl)) (c8_0 (envOf [a0, a1, a2]) H Q h)
/-! ### 44: privity/privityref34.Max -/
def hint44 : Nat → List Nat := lookupL []
def m44 (x0 x1 : Value) (H : Heap) (Q : Ending → Heap → Prop) : Prop :=
oV (vInt .gtr x0 x1) fun t7_1 =>
condK t7_1 (
Q (.returned x0) H) (
Q (.returned x1) H)
theorem c44_0 (env : Env) (H : Heap) (Q : Ending → Heap → Prop) (h : m44 (env 0) (env 1) H Q) :
    RCode Try.prog 10 (bodyOf Try.f44) env H (mkK (retK T Try.f44.results.toList Q) (fun _ _ _ => False) (retK T Try.f44.results.toList Q) (fun c H => Q (.panicked c) H)) :=
  RCode.leaf_ (T := T) (X := ext) (hint := hint44) tok xok mixed (by kernel_rfl) h
theorem call44 (a0 a1 : Value) (H : Heap) (Q : Ending → Heap → Prop) (h : m44 a0 a1 H Q) : RCalls Try.prog 44 [a0, a1] H Q :=
  RCalls.intro (nt := 10) tok Try.func44 (by kernel_rfl) (by kernel_rfl) (by kernel_rfl) (of_decide_eq_true (by kernel_rfl)) (c44_0 (envOf [a0, a1]) H Q h)
/-! ### 45: privity/privitylaw34.single -/
def hint45 : Nat → List Nat := lookupL [(17, [0, 1, 2, 3, 4, 5, 6, 7, 8, 9, 10, 11, 12, 13, 14, 15, 16, 17, 18, 19, 20, 21, 22, 23, 24, 25, 26, 27, 28, 29, 30, 31, 32, 33, 34, 35, 36, 37, 38, 39, 40, 41, 42, 43, 44, 45, 46, 47, 48, 49, 50, 51, 52, 53, 54, 55, 56, 57, 58, 59, 60, 61, 62, 63, 64])]
def m45 (x0 : Value) (H : Heap) (Q : Ending → Heap → Prop) : Prop :=
oRC Try.prog 12 [x0] H (fun c H => Q (.panicked c) H) fun v_1 H_2 =>
oRC Try.prog 13 [v_1, (.int .i64 1), (.bool true)] H_2 (fun c H => Q (.panicked c) H) fun v_3 H_4 =>
oRC Try.prog 13 [v_1, (.int .i64 1), (.bool true)] H_4 (fun c H => Q (.panicked c) H) fun v_5 H_6 =>
oRC Try.prog 23 [v_1] H_6 (fun c H => Q (.panicked c) H) fun v_7 H_8 =>
oV (vPart false 1 1 v_7) fun t15_9 =>
oV (vLen t15_9) fun t16_10 =>
oBuildS ty3 3 1 [((0, 1), t16_10)] H_8 fun s_11 H_12 =>
oRC Try.prog 28 [v_1, v_3] H_12 (fun c H => Q (.panicked c) H) fun v_13 H_14 =>
oRC Try.prog 23 [v_1] H_14 (fun c H => Q (.panicked c) H) fun v_15 H_16 =>
oV (vPart false 1 1 v_15) fun t24_17 =>
oV (vLen t24_17) fun t25_18 =>
oBuildS ty3 3 1 [((0, 1), t25_18)] H_16 fun s_19 H_20 =>
oAppend ty3 3 s_11 s_19 H_20 fun v_21 H_22 =>
oRC Try.prog 29 [v_1, v_3, v_5] H_22 (fun c H => Q (.panicked c) H) fun v_23 H_24 =>
oRC Try.prog 23 [v_1] H_24 (fun c H => Q (.panicked c) H) fun v_25 H_26 =>
oV (vPart false 1 1 v_25) fun t35_27 =>
oV (vLen t35_27) fun t36_28 =>
oBuildS ty3 3 1 [((0, 1), t36_28)] H_26 fun s_29 H_30 =>
oAppend ty3 3 v_21 s_29 H_30 fun v_31 H_32 =>
oRC Try.prog 30 [v_1, v_3, v_5] H_32 (fun c H => Q (.panicked c) H) fun v_33 H_34 =>
oRC Try.prog 23 [v_1] H_34 (fun c H => Q (.panicked c) H) fun v_35 H_36 =>
oV (vPart false 1 1 v_35) fun t46_37 =>
oV (vLen t46_37) fun t47_38 =>
oBuildS ty3 3 1 [((0, 1), t47_38)] H_36 fun s_39 H_40 =>
oAppend ty3 3 v_31 s_39 H_40 fun v_41 H_42 =>
oRC Try.prog 31 [v_1, v_3, v_5] H_42 (fun c H => Q (.panicked c) H) fun v_43 H_44 =>
oRC Try.prog 23 [v_1] H_44 (fun c H => Q (.panicked c) H) fun v_45 H_46 =>
oV (vPart false 1 1 v_45) fun t57_47 =>
oV (vLen t57_47) fun t58_48 =>
oBuildS ty3 3 1 [((0, 1), t58_48)] H_46 fun s_49 H_50 =>
oAppend ty3 3 v_41 s_49 H_50 fun v_51 H_52 =>
oRC Try.prog 32 [v_1, v_3, v_5, v_3] H_52 (fun c H => Q (.panicked c) H) fun v_53 H_54 =>
oRC Try.prog 23 [v_1] H_54 (fun c H => Q (.panicked c) H) fun v_55 H_56 =>
oV (vPart false 1 1 v_55) fun t69_57 =>
oV (vLen t69_57) fun t70_58 =>
oBuildS ty3 3 1 [((0, 1), t70_58)] H_56 fun s_59 H_60 =>
oAppend ty3 3 v_51 s_59 H_60 fun v_61 H_62 =>
oRC Try.prog 15 [v_1, v_3, v_5] H_62 (fun c H => Q (.panicked c) H) fun v_63 H_64 =>
oRC Try.prog 19 [v_1, (.int .u64 1)] H_64 (fun c H => Q (.panicked c) H) fun v_65 H_66 =>
oRC Try.prog 16 [v_1, v_63, v_65] H_66 (fun c H => Q (.panicked c) H) fun v_67 H_68 =>
oRC Try.prog 17 [v_1, v_67, v_3] H_68 (fun c H => Q (.panicked c) H) fun v_69 H_70 =>
oRC Try.prog 18 [v_1, (.int .u64 1), v_69] H_70 (fun c H => Q (.panicked c) H) fun v_71 H_72 =>
oRC Try.prog 23 [v_1] H_72 (fun c H => Q (.panicked c) H) fun v_73 H_74 =>
oV (vPart false 1 1 v_73) fun t89_75 =>
oV (vLen t89_75) fun t90_76 =>
oBuildS ty3 3 1 [((0, 1), t90_76)] H_74 fun s_77 H_78 =>
oAppend ty3 3 v_61 s_77 H_78 fun v_79 H_80 =>
oV (vIdxS 1 v_79 (.int .i64 0)) fun t94_81 =>
oV (vLoad ty3 t94_81 H_80) fun t95_82 =>
oV (vInt .eql t95_82 (.int .i64 2)) fun t96_83 =>
oV (gV t96_83 true (some v_79) (some undef)) fun t98_84 =>
oV (gV t96_83 true (vIdxS 1 t98_84 (.int .i64 1)) (some undef)) fun t99_85 =>
oV (gV t96_83 true (vLoad ty3 t99_85 H_80) (some undef)) fun t100_86 =>
oV (gV t96_83 true (some v_79) (some undef)) fun t101_87 =>
oV (gV t96_83 true (vIdxS 1 t101_87 (.int .i64 0)) (some undef)) fun t102_88 =>
oV (gV t96_83 true (vLoad ty3 t102_88 H_80) (some undef)) fun t103_89 =>
oV (gV t96_83 true (vInt .sub t100_86 t103_89) (some undef)) fun t104_90 =>
oV (gV t96_83 true (vInt .leq t104_90 (.int .i64 2)) (some undef)) fun t105_91 =>
oV (vPick t96_83 t105_91 (.bool false)) fun t106_92 =>
oV (gV t106_92 true (some v_79) (some undef)) fun t108_93 =>
oV (gV t106_92 true (vIdxS 1 t108_93 (.int .i64 2)) (some undef)) fun t109_94 =>
oV (gV t106_92 true (vLoad ty3 t109_94 H_80) (some undef)) fun t110_95 =>
oV (gV t106_92 true (some v_79) (some undef)) fun t111_96 =>
oV (gV t106_92 true (vIdxS 1 t111_96 (.int .i64 1)) (some undef)) fun t112_97 =>
oV (gV t106_92 true (vLoad ty3 t112_97 H_80) (some undef)) fun t113_98 =>
oV (gV t106_92 true (vInt .sub t110_95 t113_98) (some undef)) fun t114_99 =>
oV (gV t106_92 true (vInt .leq t114_99 (.int .i64 1)) (some undef)) fun t115_100 =>
oV (vPick t106_92 t115_100 (.bool false)) fun t116_101 =>
oV (gV t116_101 true (some v_79) (some undef)) fun t118_102 =>
oV (gV t116_101 true (vIdxS 1 t118_102 (.int .i64 3)) (some undef)) fun t119_103 =>
oV (gV t116_101 true (vLoad ty3 t119_103 H_80) (some undef)) fun t120_104 =>
oV (gV t116_101 true (some v_79) (some undef)) fun t121_105 =>
oV (gV t116_101 true (vIdxS 1 t121_105 (.int .i64 2)) (some undef)) fun t122_106 =>
oV (gV t116_101 true (vLoad ty3 t122_106 H_80) (some undef)) fun t123_107 =>
oV (gV t116_101 true (vInt .sub t120_104 t123_107) (some undef)) fun t124_108 =>
oV (gV t116_101 true (vInt .leq t124_108 (.int .i64 3)) (some undef)) fun t125_109 =>
oV (vPick t116_101 t125_109 (.bool false)) fun t126_110 =>
oV (gV t126_110 true (some v_79) (some undef)) fun t128_111 =>
oV (gV t126_110 true (vIdxS 1 t128_111 (.int .i64 4)) (some undef)) fun t129_112 =>
oV (gV t126_110 true (vLoad ty3 t129_112 H_80) (some undef)) fun t130_113 =>
oV (gV t126_110 true (some v_79) (some undef)) fun t131_114 =>
oV (gV t126_110 true (vIdxS 1 t131_114 (.int .i64 3)) (some undef)) fun t132_115 =>
oV (gV t126_110 true (vLoad ty3 t132_115 H_80) (some undef)) fun t133_116 =>
oV (gV t126_110 true (vInt .sub t130_113 t133_116) (some undef)) fun t134_117 =>
oV (gV t126_110 true (vInt .leq t134_117 (.int .i64 4)) (some undef)) fun t135_118 =>
oV (vPick t126_110 t135_118 (.bool false)) fun t136_119 =>
oV (gV t136_119 true (some v_79) (some undef)) fun t138_120 =>
oV (gV t136_119 true (vIdxS 1 t138_120 (.int .i64 5)) (some undef)) fun t139_121 =>
oV (gV t136_119 true (vLoad ty3 t139_121 H_80) (some undef)) fun t140_122 =>
oV (gV t136_119 true (some v_79) (some undef)) fun t141_123 =>
oV (gV t136_119 true (vIdxS 1 t141_123 (.int .i64 4)) (some undef)) fun t142_124 =>
oV (gV t136_119 true (vLoad ty3 t142_124 H_80) (some undef)) fun t143_125 =>
oV (gV t136_119 true (vInt .sub t140_122 t143_125) (some undef)) fun t144_126 =>
oV (gV t136_119 true (vInt .leq t144_126 (.int .i64 3)) (some undef)) fun t145_127 =>
oV (vPick t136_119 t145_127 (.bool false)) fun t146_128 =>
oV (gV t146_128 true (some v_79) (some undef)) fun t148_129 =>
oV (gV t146_128 true (vIdxS 1 t148_129 (.int .i64 6)) (some undef)) fun t149_130 =>
oV (gV t146_128 true (vLoad ty3 t149_130 H_80) (some undef)) fun t150_131 =>
oV (gV t146_128 true (some v_79) (some undef)) fun t151_132 =>
oV (gV t146_128 true (vIdxS 1 t151_132 (.int .i64 5)) (some undef)) fun t152_133 =>
oV (gV t146_128 true (vLoad ty3 t152_133 H_80) (some undef)) fun t153_134 =>
oV (gV t146_128 true (vInt .sub t150_131 t153_134) (some undef)) fun t154_135 =>
oV (gV t146_128 true (vInt .eql t154_135 (.int .i64 5)) (some undef)) fun t155_136 =>
oV (vPick t146_128 t155_136 (.bool false)) fun t156_137 =>
Q (.returned t156_137) H_80
theorem c45_0 (env : Env) (H : Heap) (Q : Ending → Heap → Prop) (h : m45 (env 0) H Q) :
    RCode Try.prog 157 (bodyOf Try.f45) env H (mkK (retK T Try.f45.results.toList Q) (fun _ _ _ => False) (retK T Try.f45.results.toList Q) (fun c H => Q (.panicked c) H)) :=
  RCode.leaf_ (T := T) (X := ext) (hint := hint45) tok xok mixed (by kernel_rfl) h
theorem call45 (a0 : Value) (H : Heap) (Q : Ending → Heap → Prop) (h : m45 a0 H Q) : RCalls Try.prog 45 [a0] H Q :=
  RCalls.intro (nt := 157) tok Try.func45 (by kernel_rfl) (by kernel_rfl) (by kernel_rfl) (of_decide_eq_true (by kernel_rfl)) (c45_0 (envOf [a0]) H Q h)
/-! ### 67: privity/privitylaw34.costs -/
def hint67 : Nat → List Nat := lookupL [(17, [0, 2, 3, 4, 5, 6, 7, 8, 1, 9, 10])]
def m67 (x0 x1 x2 x3 : Value) (H : Heap) (Q : Ending → Heap → Prop) : Prop :=
oRC Try.prog 12 [x0] H (fun c H => Q (.panicked c) H) fun v_1 H_2 =>
oRC Try.prog 26 [v_1, (.int .i64 1), x2] H_2 (fun c H => Q (.panicked c) H) fun v_3 H_4 =>
oRC Try.prog 26 [v_1, (.int .i64 2), x3] H_4 (fun c H => Q (.panicked c) H) fun v_5 H_6 =>
oV (vInt .eql x1 (.int .i64 0)) fun t27_7 =>
condK t27_7 (
oRC Try.prog 40 [v_1, v_3, v_5] H_6 (fun c H => Q (.panicked c) H) fun v_8 H_9 =>
oRC Try.prog 23 [v_1] H_9 (fun c H => Q (.panicked c) H) fun v_10 H_11 =>
oNew (Value.cells ty40.zero).toList (Value.cells ty40.zero).toList.length 40 H_11 fun i_12 H_13 =>
oHeap (vStore ty40 (ptrTo i_12) v_10 H_13) fun H_14 =>
oV (vLoad ty40 (ptrTo i_12) H_14) fun t58_15 =>
oV (vField 1 (ptrTo i_12)) fun t60_16 =>
oV (vLoad ty37 t60_16 H_14) fun t61_17 =>
oV (vLen t61_17) fun t62_18 =>
oV (vInt .sub t62_18 x2) fun t64_19 =>
oV (vInt .sub t64_19 x3) fun t66_20 =>
oRC Try.prog 33 [t58_15] H_14 noP fun v_21 H_22 =>
(vLoad ty37 t60_16 H_22 = some t61_17 ∧
Q (.returned (.tuple #[v_21, t66_20])) H_22)) (
oV (vInt .eql x1 (.int .i64 1)) fun t33_23 =>
condK t33_23 (
oRC Try.prog 41 [v_1, v_3, v_5] H_6 (fun c H => Q (.panicked c) H) fun v_24 H_25 =>
oRC Try.prog 23 [v_1] H_25 (fun c H => Q (.panicked c) H) fun v_26 H_27 =>
oNew (Value.cells ty40.zero).toList (Value.cells ty40.zero).toList.length 40 H_27 fun i_28 H_29 =>
oHeap (vStore ty40 (ptrTo i_28) v_26 H_29) fun H_30 =>
oV (vLoad ty40 (ptrTo i_28) H_30) fun t58_31 =>
oV (vField 1 (ptrTo i_28)) fun t60_32 =>
oV (vLoad ty37 t60_32 H_30) fun t61_33 =>
oV (vLen t61_33) fun t62_34 =>
oV (vInt .sub t62_34 x2) fun t64_35 =>
oV (vInt .sub t64_35 x3) fun t66_36 =>
oRC Try.prog 33 [t58_31] H_30 noP fun v_37 H_38 =>
(vLoad ty37 t60_32 H_38 = some t61_33 ∧
Q (.returned (.tuple #[v_37, t66_36])) H_38)) (
oV (vInt .eql x1 (.int .i64 2)) fun t39_39 =>
condK t39_39 (
oRC Try.prog 42 [v_1, v_3, v_5] H_6 (fun c H => Q (.panicked c) H) fun v_40 H_41 =>
oRC Try.prog 23 [v_1] H_41 (fun c H => Q (.panicked c) H) fun v_42 H_43 =>
oNew (Value.cells ty40.zero).toList (Value.cells ty40.zero).toList.length 40 H_43 fun i_44 H_45 =>
oHeap (vStore ty40 (ptrTo i_44) v_42 H_45) fun H_46 =>
oV (vLoad ty40 (ptrTo i_44) H_46) fun t58_47 =>
oV (vField 1 (ptrTo i_44)) fun t60_48 =>
oV (vLoad ty37 t60_48 H_46) fun t61_49 =>
oV (vLen t61_49) fun t62_50 =>
oV (vInt .sub t62_50 x2) fun t64_51 =>
oV (vInt .sub t64_51 x3) fun t66_52 =>
oRC Try.prog 33 [t58_47] H_46 noP fun v_53 H_54 =>
(vLoad ty37 t60_48 H_54 = some t61_49 ∧
Q (.returned (.tuple #[v_53, t66_52])) H_54)) (
oV (vInt .eql x1 (.int .i64 3)) fun t45_55 =>
condK t45_55 (
oRC Try.prog 34 [v_1, v_3, v_5] H_6 (fun c H => Q (.panicked c) H) fun v_56 H_57 =>
oRC Try.prog 23 [v_1] H_57 (fun c H => Q (.panicked c) H) fun v_58 H_59 =>
oNew (Value.cells ty40.zero).toList (Value.cells ty40.zero).toList.length 40 H_59 fun i_60 H_61 =>
oHeap (vStore ty40 (ptrTo i_60) v_58 H_61) fun H_62 =>
oV (vLoad ty40 (ptrTo i_60) H_62) fun t58_63 =>
oV (vField 1 (ptrTo i_60)) fun t60_64 =>
oV (vLoad ty37 t60_64 H_62) fun t61_65 =>
oV (vLen t61_65) fun t62_66 =>
oV (vInt .sub t62_66 x2) fun t64_67 =>
oV (vInt .sub t64_67 x3) fun t66_68 =>
oRC Try.prog 33 [t58_63] H_62 noP fun v_69 H_70 =>
(vLoad ty37 t60_64 H_70 = some t61_65 ∧
Q (.returned (.tuple #[v_69, t66_68])) H_70)) (
oV (vInt .eql x1 (.int .i64 4)) fun t51_71 =>
condK t51_71 (
oRC Try.prog 35 [v_1, v_3, v_5] H_6 (fun c H => Q (.panicked c) H) fun v_72 H_73 =>
oRC Try.prog 23 [v_1] H_73 (fun c H => Q (.panicked c) H) fun v_74 H_75 =>
oNew (Value.cells ty40.zero).toList (Value.cells ty40.zero).toList.length 40 H_75 fun i_76 H_77 =>
oHeap (vStore ty40 (ptrTo i_76) v_74 H_77) fun H_78 =>
oV (vLoad ty40 (ptrTo i_76) H_78) fun t58_79 =>
oV (vField 1 (ptrTo i_76)) fun t60_80 =>
oV (vLoad ty37 t60_80 H_78) fun t61_81 =>
oV (vLen t61_81) fun t62_82 =>
oV (vInt .sub t62_82 x2) fun t64_83 =>
oV (vInt .sub t64_83 x3) fun t66_84 =>
oRC Try.prog 33 [t58_79] H_78 noP fun v_85 H_86 =>
(vLoad ty37 t60_80 H_86 = some t61_81 ∧
Q (.returned (.tuple #[v_85, t66_84])) H_86)) (
oRC Try.prog 36 [v_1, v_3] H_6 (fun c H => Q (.panicked c) H) fun v_87 H_88 =>
oRC Try.prog 23 [v_1] H_88 (fun c H => Q (.panicked c) H) fun v_89 H_90 =>
oNew (Value.cells ty40.zero).toList (Value.cells ty40.zero).toList.length 40 H_90 fun i_91 H_92 =>
oHeap (vStore ty40 (ptrTo i_91) v_89 H_92) fun H_93 =>
oV (vLoad ty40 (ptrTo i_91) H_93) fun t58_94 =>
oV (vField 1 (ptrTo i_91)) fun t60_95 =>
oV (vLoad ty37 t60_95 H_93) fun t61_96 =>
oV (vLen t61_96) fun t62_97 =>
oV (vInt .sub t62_97 x2) fun t64_98 =>
oV (vInt .sub t64_98 x3) fun t66_99 =>
oRC Try.prog 33 [t58_94] H_93 noP fun v_100 H_101 =>
(vLoad ty37 t60_95 H_101 = some t61_96 ∧
Q (.returned (.tuple #[v_100, t66_99])) H_101))))))
theorem c67_0 (env : Env) (H : Heap) (Q : Ending → Heap → Prop) (h : m67 (env 0) (env 1) (env 2) (env 3) H Q) :
    RCode Try.prog 67 (bodyOf Try.f67) env H (mkK (retK T Try.f67.results.toList Q) (fun _ _ _ => False) (retK T Try.f67.results.toList Q) (fun c H => Q (.panicked c) H)) :=
  RCode.leaf_ (T := T) (X := ext) (hint := hint67) tok xok mixed (by kernel_rfl) h
theorem call67 (a0 a1 a2 a3 : Value) (H : Heap) (Q : Ending → Heap → Prop) (h : m67 a0 a1 a2 a3 H Q) : RCalls Try.prog 67 [a0, a1, a2, a3] H Q :=
  RCalls.intro (nt := 67) tok Try.func67 (by kernel_rfl) (by kernel_rfl) (by kernel_rfl) (of_decide_eq_true (by kernel_rfl)) (c67_0 (envOf [a0, a1, a2, a3]) H Q h)
/-! ### 46: privity/privitylaw34.cheap -/
def hint46 : Nat → List Nat := lookupL []
def m46 (x0 x1 x2 x3 x4 : Value) (H : Heap) (Q : Ending → Heap → Prop) : Prop :=
oNew (Value.cells x2).toList (Value.cells x2).toList.length 66 H fun i_1 H_2 =>
oV (vIdxA 2 1 (ptrTo i_1) (.int .i64 0)) fun t16_3 =>
oV (vLoad ty3 t16_3 H_2) fun t17_4 =>
oV (vIdxA 2 1 (ptrTo i_1) (.int .i64 1)) fun t18_5 =>
oV (vLoad ty3 t18_5 H_2) fun t19_6 =>
oRC Try.prog 67 [x0, x1, t17_4, t19_6] H_2 (fun c H => Q (.panicked c) H) fun v_7 H_8 =>
oV (vExtract v_7 0) fun t21_9 =>
oV (vExtract v_7 1) fun t22_10 =>
oV (vInt .leq t21_9 x3) fun t25_11 =>
oV (gV t25_11 true (some t22_10) (some undef)) fun t27_12 =>
oV (gV t25_11 true (some x4) (some undef)) fun t28_13 =>
oV (gV t25_11 true (vInt .leq t27_12 t28_13) (some undef)) fun t29_14 =>
oV (vPick t25_11 t29_14 (.bool false)) fun t30_15 =>
Q (.returned t30_15) H_8
theorem c46_0 (env : Env) (H : Heap) (Q : Ending → Heap → Prop) (h : m46 (env 0) (env 1) (env 2) (env 3) (env 4) H Q) :
    RCode Try.prog 31 (bodyOf Try.f46) env H (mkK (retK T Try.f46.results.toList Q) (fun _ _ _ => False) (retK T Try.f46.results.toList Q) (fun c H => Q (.panicked c) H)) :=
  RCode.leaf_ (T := T) (X := ext) (hint := hint46) tok xok mixed (by kernel_rfl) h
theorem call46 (a0 a1 a2 a3 a4 : Value) (H : Heap) (Q : Ending → Heap → Prop) (h : m46 a0 a1 a2 a3 a4 H Q) : RCalls Try.prog 46 [a0, a1, a2, a3, a4] H Q :=
  RCalls.intro (nt := 31) tok Try.func46 (by kernel_rfl) (by kernel_rfl) (by kernel_rfl) (of_decide_eq_true (by kernel_rfl)) (c46_0 (envOf [a0, a1, a2, a3, a4]) H Q h)
/-! ### 9: privity/privitylaw34.GadgetGateCounts -/
def hint9 : Nat → List Nat := lookupL []
def m9 (x0 x1 x2 : Value) (H : Heap) (Q : Ending → Heap → Prop) : Prop :=
oRC Try.prog 10 [] H (fun c H => Q (.panicked c) H) fun v_1 H_2 =>
oV (vUn .not v_1) fun t12_3 =>
condK t12_3 (
Q (.returned (.bool false)) H_2) (
oRC Try.prog 11 [x0] H_2 (fun c H => Q (.panicked c) H) fun v_4 H_5 =>
oV (vUn .not v_4) fun t15_6 =>
oV (gV t15_6 false (some x1) (some undef)) fun t17_7 =>
oV (gV t15_6 false (vInt .gtr t17_7 (.int .u8 16)) (some undef)) fun t18_8 =>
oV (vPick t15_6 (.bool true) t18_8) fun t19_9 =>
oV (gV t19_9 false (some x2) (some undef)) fun t21_10 =>
oV (gV t19_9 false (vInt .gtr t21_10 (.int .u8 16)) (some undef)) fun t22_11 =>
oV (vPick t19_9 (.bool true) t22_11) fun t23_12 =>
condK t23_12 (
Q (.returned (.bool true)) H_5) (
oV (vConv (.int .i64) x1) fun t25_13 =>
oV (vConv (.int .i64) x2) fun t27_14 =>
oRC Try.prog 44 [t25_13, t27_14] H_5 (fun c H => Q (.panicked c) H) fun v_15 H_16 =>
oV (vBuild ty66 [((0, 1), t25_13), ((1, 1), t27_14)]) fun t33_17 =>
oNew (Value.cells ty66.zero).toList (Value.cells ty66.zero).toList.length 66 H_16 fun i_18 H_19 =>
oHeap (vStore ty66 (ptrTo i_18) t33_17 H_19) fun H_20 =>
oRC Try.prog 45 [x0] H_20 (fun c H => Q (.panicked c) H) fun v_21 H_22 =>
oV (gV v_21 true (some x0) (some undef)) fun t37_23 =>
oV (gV v_21 true (vLoad ty66 (ptrTo i_18) H_22) (some undef)) fun t38_24 =>
oV (gV v_21 true (some v_15) (some undef)) fun t39_25 =>
oV (gV v_21 true (vInt .mul (.int .i64 2) t39_25) (some undef)) fun t40_26 =>
oV (gV v_21 true (some v_15) (some undef)) fun t41_27 =>
oV (gV v_21 true (vInt .mul (.int .i64 10) t41_27) (some undef)) fun t42_28 =>
oV (gV v_21 true (vInt .add t42_28 (.int .i64 2)) (some undef)) fun t43_29 =>
letK (fun t44_31 H_32 =>
oV (vPick v_21 t44_31 (.bool false)) fun t45_33 =>
oV (gV t45_33 true (some x0) (some undef)) fun t47_34 =>
oV (gV t45_33 true (vLoad ty66 (ptrTo i_18) H_32) (some undef)) fun t48_35 =>
oV (gV t45_33 true (some v_15) (some undef)) fun t49_36 =>
oV (gV t45_33 true (vInt .mul (.int .i64 3) t49_36) (some undef)) fun t50_37 =>
oV (gV t45_33 true (some t25_13) (some undef)) fun t51_38 =>
oV (gV t45_33 true (vInt .add t50_37 t51_38) (some undef)) fun t52_39 =>
oV (gV t45_33 true (some v_15) (some undef)) fun t53_40 =>
oV (gV t45_33 true (vInt .mul (.int .i64 12) t53_40) (some undef)) fun t54_41 =>
oV (gV t45_33 true (some t25_13) (some undef)) fun t55_42 =>
oV (gV t45_33 true (vInt .add t54_41 t55_42) (some undef)) fun t56_43 =>
oV (gV t45_33 true (vInt .add t56_43 (.int .i64 4)) (some undef)) fun t57_44 =>
letK (fun t58_46 H_47 =>
oV (vPick t45_33 t58_46 (.bool false)) fun t59_48 =>
oV (gV t59_48 true (some x0) (some undef)) fun t61_49 =>
oV (gV t59_48 true (vLoad ty66 (ptrTo i_18) H_47) (some undef)) fun t62_50 =>
oV (gV t59_48 true (some t25_13) (some undef)) fun t63_51 =>
oV (gV t59_48 true (vInt .mul (.int .i64 3) t63_51) (some undef)) fun t64_52 =>
oV (gV t59_48 true (some t27_14) (some undef)) fun t65_53 =>
oV (gV t59_48 true (vInt .mul t64_52 t65_53) (some undef)) fun t66_54 =>
oV (gV t59_48 true (some t25_13) (some undef)) fun t67_55 =>
oV (gV t59_48 true (some t27_14) (some undef)) fun t68_56 =>
oV (gV t59_48 true (vInt .add t67_55 t68_56) (some undef)) fun t69_57 =>
oV (gV t59_48 true (vInt .mul (.int .i64 3) t69_57) (some undef)) fun t70_58 =>
oV (gV t59_48 true (vInt .add t66_54 t70_58) (some undef)) fun t71_59 =>
oV (gV t59_48 true (some t25_13) (some undef)) fun t72_60 =>
oV (gV t59_48 true (vInt .mul (.int .i64 10) t72_60) (some undef)) fun t73_61 =>
oV (gV t59_48 true (some t27_14) (some undef)) fun t74_62 =>
oV (gV t59_48 true (vInt .mul t73_61 t74_62) (some undef)) fun t75_63 =>
oV (gV t59_48 true (some t25_13) (some undef)) fun t76_64 =>
oV (gV t59_48 true (some t27_14) (some undef)) fun t77_65 =>
oV (gV t59_48 true (vInt .add t76_64 t77_65) (some undef)) fun t78_66 =>
oV (gV t59_48 true (vInt .mul (.int .i64 2) t78_66) (some undef)) fun t79_67 =>
oV (gV t59_48 true (vInt .add t75_63 t79_67) (some undef)) fun t80_68 =>
oV (gV t59_48 true (vInt .add t80_68 (.int .i64 2)) (some undef)) fun t81_69 =>
letK (fun t82_71 H_72 =>
oV (vPick t59_48 t82_71 (.bool false)) fun t83_73 =>
oV (gV t83_73 true (some x0) (some undef)) fun t85_74 =>
oV (gV t83_73 true (vLoad ty66 (ptrTo i_18) H_72) (some undef)) fun t86_75 =>
oV (gV t83_73 true (some v_15) (some undef)) fun t87_76 =>
oV (gV t83_73 true (vInt .mul (.int .i64 3) t87_76) (some undef)) fun t88_77 =>
oV (gV t83_73 true (some v_15) (some undef)) fun t89_78 =>
oV (gV t83_73 true (vInt .mul (.int .i64 12) t89_78) (some undef)) fun t90_79 =>
oV (gV t83_73 true (vInt .add t90_79 (.int .i64 4)) (some undef)) fun t91_80 =>
letK (fun t92_82 H_83 =>
oV (vPick t83_73 t92_82 (.bool false)) fun t93_84 =>
oV (gV t93_84 true (some x0) (some undef)) fun t95_85 =>
oV (gV t93_84 true (vLoad ty66 (ptrTo i_18) H_83) (some undef)) fun t96_86 =>
oV (gV t93_84 true (some v_15) (some undef)) fun t97_87 =>
oV (gV t93_84 true (vInt .mul (.int .i64 2) t97_87) (some undef)) fun t98_88 =>
oV (gV t93_84 true (some v_15) (some undef)) fun t99_89 =>
oV (gV t93_84 true (vInt .mul (.int .i64 8) t99_89) (some undef)) fun t100_90 =>
oV (gV t93_84 true (vInt .add t100_90 (.int .i64 2)) (some undef)) fun t101_91 =>
letK (fun t102_93 H_94 =>
oV (vPick t93_84 t102_93 (.bool false)) fun t103_95 =>
oV (gV t103_95 true (some x0) (some undef)) fun t105_96 =>
oV (gV t103_95 true (vLoad ty66 (ptrTo i_18) H_94) (some undef)) fun t106_97 =>
oV (gV t103_95 true (some t25_13) (some undef)) fun t107_98 =>
oV (gV t103_95 true (vInt .mul (.int .i64 2) t107_98) (some undef)) fun t108_99 =>
oV (gV t103_95 true (vInt .add t108_99 (.int .i64 1)) (some undef)) fun t109_100 =>
letK (fun t110_102 H_103 =>
oV (vPick t103_95 t110_102 (.bool false)) fun t111_104 =>
Q (.returned t111_104) H_103) fun k_101 => gK t103_95 true (oRC Try.prog 46 [t105_96, (.int .i64 5), t106_97, (.int .i64 0), t109_100] H_94 (fun c H => Q (.panicked c) H) fun v_105 H_106 =>
k_101 v_105 H_106) (k_101 undef H_94)) fun k_92 => gK t93_84 true (oRC Try.prog 46 [t95_85, (.int .i64 4), t96_86, t98_88, t101_91] H_83 (fun c H => Q (.panicked c) H) fun v_107 H_108 =>
k_92 v_107 H_108) (k_92 undef H_83)) fun k_81 => gK t83_73 true (oRC Try.prog 46 [t85_74, (.int .i64 3), t86_75, t88_77, t91_80] H_72 (fun c H => Q (.panicked c) H) fun v_109 H_110 =>
k_81 v_109 H_110) (k_81 undef H_72)) fun k_70 => gK t59_48 true (oRC Try.prog 46 [t61_49, (.int .i64 2), t62_50, t71_59, t81_69] H_47 (fun c H => Q (.panicked c) H) fun v_111 H_112 =>
k_70 v_111 H_112) (k_70 undef H_47)) fun k_45 => gK t45_33 true (oRC Try.prog 46 [t47_34, (.int .i64 1), t48_35, t52_39, t57_44] H_32 (fun c H => Q (.panicked c) H) fun v_113 H_114 =>
k_45 v_113 H_114) (k_45 undef H_32)) fun k_30 => gK v_21 true (oRC Try.prog 46 [t37_23, (.int .i64 0), t38_24, t40_26, t43_29] H_22 (fun c H => Q (.panicked c) H) fun v_115 H_116 =>
k_30 v_115 H_116) (k_30 undef H_22)))
theorem c9_0 (env : Env) (H : Heap) (Q : Ending → Heap → Prop) (h : m9 (env 0) (env 1) (env 2) H Q) :
    RCode Try.prog 112 (bodyOf Try.f9) env H (mkK (retK T Try.f9.results.toList Q) (fun _ _ _ => False) (retK T Try.f9.results.toList Q) (fun c H => Q (.panicked c) H)) :=
  RCode.leaf_ (T := T) (X := ext) (hint := hint9) tok xok mixed (by kernel_rfl) h
theorem call9 (a0 a1 a2 : Value) (H : Heap) (Q : Ending → Heap → Prop) (h : m9 a0 a1 a2 H Q) : RCalls Try.prog 9 [a0, a1, a2] H Q :=
  RCalls.intro (nt := 112) tok Try.func9 (by kernel_rfl) (by kernel_rfl) (by kernel_rfl) (of_decide_eq_true (by kernel_rfl)) (c9_0 (envOf [a0, a1, a2]) H Q h)
end Go.Proofs.Ytpbaoefjkfdgmaa.SL
