/- PRINTED by program: for each function what its code asks of what is known, and that it suffices. Not trusted: Lean checks it. -/
import Derived.Test.YtpbaoefjkfdgmaaDoorTab
set_option linter.unusedVariables false
set_option linter.unusedSimpArgs false
set_option maxRecDepth 100000
namespace Go.Proofs.YtpbaoefjkfdgmaaDoor.SL
open Go
/-! ### 48: privity/cleartext.gates$1 -/
def hint48 : Nat → List Nat := lookupL [(1, [0, 1, 2, 3, 4, 5, 6, 7, 8, 9]), (2, [0, 1, 2, 3, 4, 5, 6, 7, 8, 9, 10])]
def m48 (x0 x1 : Value) (H : Heap) (Q : Ending → Heap → Prop) : Prop :=
oNew (Value.cells x1).toList (Value.cells x1).toList.length 37 H fun i_1 H_2 =>
oV (vNil x0) fun t7_3 =>
oV (vField 2 t7_3) fun t8_4 =>
oV (vLoad ty27 t8_4 H_2) fun t9_5 =>
oV (vField 1 (ptrTo i_1)) fun t10_6 =>
oV (vLoad ty3 t10_6 H_2) fun t11_7 =>
oV (vInt .sub t11_7 (.int .i64 1)) fun t12_8 =>
oV (vIdxS 1 t9_5 t12_8) fun t13_9 =>
oV (vLoad ty30 t13_9 H_2) fun t14_10 =>
oV (vNil x0) fun t16_11 =>
oV (vField 2 t16_11) fun t17_12 =>
oV (vLoad ty27 t17_12 H_2) fun t18_13 =>
oV (vField 1 (ptrTo i_1)) fun t19_14 =>
oV (vLoad ty3 t19_14 H_2) fun t20_15 =>
oV (vInt .sub t20_15 (.int .i64 1)) fun t21_16 =>
oV (vSlice 1 t14_10 (some (.int .i64 1)) none none) fun t23_17 =>
oV (vIdxS 1 t18_13 t21_16) fun t24_18 =>
oHeap (vStore ty30 t24_18 t23_17 H_2) fun H_19 =>
oV (vIdxS 1 t14_10 (.int .i64 0)) fun t26_20 =>
oV (vLoad ty22 t26_20 H_19) fun t27_21 =>
Q (.returned t27_21) H_19
theorem c48_0 (env : Env) (H : Heap) (Q : Ending → Heap → Prop) (h : m48 (env 0) (env 1) H Q) :
    RCode Tryd.prog 28 (bodyOf Tryd.f48) env H (mkK (retK T Tryd.f48.results.toList Q) (fun _ _ _ => False) (retK T Tryd.f48.results.toList Q) (fun c H => Q (.panicked c) H)) :=
  RCode.leaf_ (T := T) (X := ext) (hint := hint48) tok xok mixed (by kernel_rfl) h
theorem call48 (a0 a1 : Value) (H : Heap) (Q : Ending → Heap → Prop) (h : m48 a0 a1 H Q) : RCalls Tryd.prog 48 [a0, a1] H Q :=
  RCalls.intro (nt := 28) tok Tryd.func48 (by kernel_rfl) (by kernel_rfl) (by kernel_rfl) (of_decide_eq_true (by kernel_rfl)) (c48_0 (envOf [a0, a1]) H Q h)
/-! ### 49: privity/cleartext.gates$2 -/
def hint49 : Nat → List Nat := lookupL []
def m49 (x0 x1 : Value) (H : Heap) (Q : Ending → Heap → Prop) : Prop :=
oNew (Value.cells x1).toList (Value.cells x1).toList.length 37 H fun i_1 H_2 =>
oV (vField 4 (ptrTo i_1)) fun t5_3 =>
oV (vLoad ty22 t5_3 H_2) fun t6_4 =>
Q (.returned t6_4) H_2
theorem c49_0 (env : Env) (H : Heap) (Q : Ending → Heap → Prop) (h : m49 (env 0) (env 1) H Q) :
    RCode Tryd.prog 7 (bodyOf Tryd.f49) env H (mkK (retK T Tryd.f49.results.toList Q) (fun _ _ _ => False) (retK T Tryd.f49.results.toList Q) (fun c H => Q (.panicked c) H)) :=
  RCode.leaf_ (T := T) (X := ext) (hint := hint49) tok xok mixed (by kernel_rfl) h
theorem call49 (a0 a1 : Value) (H : Heap) (Q : Ending → Heap → Prop) (h : m49 a0 a1 H Q) : RCalls Tryd.prog 49 [a0, a1] H Q :=
  RCalls.intro (nt := 7) tok Tryd.func49 (by kernel_rfl) (by kernel_rfl) (by kernel_rfl) (of_decide_eq_true (by kernel_rfl)) (c49_0 (envOf [a0, a1]) H Q h)
/-! ### 62: math/bits.Len64 -/
def hint62 : Nat → List Nat := lookupL []
def m62 (x0 : Value) (H : Heap) (Q : Ending → Heap → Prop) : Prop :=
oV (vInt .geq x0 (.int .u64 4294967296)) fun t4_1 =>
condK t4_1 (
oV (vInt .shr x0 (.int .u64 32)) fun t6_2 =>
oV (vInt .geq t6_2 (.int .u64 65536)) fun t8_3 =>
condK t8_3 (
oV (vInt .shr t6_2 (.int .u64 16)) fun t10_4 =>
oV (vInt .add (.int .i64 32) (.int .i64 16)) fun t12_5 =>
oV (vInt .geq t10_4 (.int .u64 256)) fun t14_6 =>
condK t14_6 (
oV (vInt .shr t10_4 (.int .u64 8)) fun t16_7 =>
oV (vInt .add t12_5 (.int .i64 8)) fun t18_8 =>
oV (vConv (.int .u8) t16_7) fun t21_9 =>
oV (vIndexStr (.string { data := #[0, 1, 2, 2, 3, 3, 3, 3, 4, 4, 4, 4, 4, 4, 4, 4, 5, 5, 5, 5, 5, 5, 5, 5, 5, 5, 5, 5, 5, 5, 5, 5, 6, 6, 6, 6, 6, 6, 6, 6, 6, 6, 6, 6, 6, 6, 6, 6, 6, 6, 6, 6, 6, 6, 6, 6, 6, 6, 6, 6, 6, 6, 6, 6, 7, 7, 7, 7, 7, 7, 7, 7, 7, 7, 7, 7, 7, 7, 7, 7, 7, 7, 7, 7, 7, 7, 7, 7, 7, 7, 7, 7, 7, 7, 7, 7, 7, 7, 7, 7, 7, 7, 7, 7, 7, 7, 7, 7, 7, 7, 7, 7, 7, 7, 7, 7, 7, 7, 7, 7, 7, 7, 7, 7, 7, 7, 7, 7, 8, 8, 8, 8, 8, 8, 8, 8, 8, 8, 8, 8, 8, 8, 8, 8, 8, 8, 8, 8, 8, 8, 8, 8, 8, 8, 8, 8, 8, 8, 8, 8, 8, 8, 8, 8, 8, 8, 8, 8, 8, 8, 8, 8, 8, 8, 8, 8, 8, 8, 8, 8, 8, 8, 8, 8, 8, 8, 8, 8, 8, 8, 8, 8, 8, 8, 8, 8, 8, 8, 8, 8, 8, 8, 8, 8, 8, 8, 8, 8, 8, 8, 8, 8, 8, 8, 8, 8, 8, 8, 8, 8, 8, 8, 8, 8, 8, 8, 8, 8, 8, 8, 8, 8, 8, 8, 8, 8, 8, 8, 8, 8, 8, 8, 8, 8, 8, 8, 8, 8, 8, 8, 8, 8, 8, 8, 8, 8] }) t21_9) fun t22_10 =>
oV (vConv (.int .i64) t22_10) fun t23_11 =>
oV (vInt .add t18_8 t23_11) fun t24_12 =>
Q (.returned t24_12) H) (
oV (vConv (.int .u8) t10_4) fun t21_13 =>
oV (vIndexStr (.string { data := #[0, 1, 2, 2, 3, 3, 3, 3, 4, 4, 4, 4, 4, 4, 4, 4, 5, 5, 5, 5, 5, 5, 5, 5, 5, 5, 5, 5, 5, 5, 5, 5, 6, 6, 6, 6, 6, 6, 6, 6, 6, 6, 6, 6, 6, 6, 6, 6, 6, 6, 6, 6, 6, 6, 6, 6, 6, 6, 6, 6, 6, 6, 6, 6, 7, 7, 7, 7, 7, 7, 7, 7, 7, 7, 7, 7, 7, 7, 7, 7, 7, 7, 7, 7, 7, 7, 7, 7, 7, 7, 7, 7, 7, 7, 7, 7, 7, 7, 7, 7, 7, 7, 7, 7, 7, 7, 7, 7, 7, 7, 7, 7, 7, 7, 7, 7, 7, 7, 7, 7, 7, 7, 7, 7, 7, 7, 7, 7, 8, 8, 8, 8, 8, 8, 8, 8, 8, 8, 8, 8, 8, 8, 8, 8, 8, 8, 8, 8, 8, 8, 8, 8, 8, 8, 8, 8, 8, 8, 8, 8, 8, 8, 8, 8, 8, 8, 8, 8, 8, 8, 8, 8, 8, 8, 8, 8, 8, 8, 8, 8, 8, 8, 8, 8, 8, 8, 8, 8, 8, 8, 8, 8, 8, 8, 8, 8, 8, 8, 8, 8, 8, 8, 8, 8, 8, 8, 8, 8, 8, 8, 8, 8, 8, 8, 8, 8, 8, 8, 8, 8, 8, 8, 8, 8, 8, 8, 8, 8, 8, 8, 8, 8, 8, 8, 8, 8, 8, 8, 8, 8, 8, 8, 8, 8, 8, 8, 8, 8, 8, 8, 8, 8, 8, 8, 8, 8] }) t21_13) fun t22_14 =>
oV (vConv (.int .i64) t22_14) fun t23_15 =>
oV (vInt .add t12_5 t23_15) fun t24_16 =>
Q (.returned t24_16) H)) (
oV (vInt .geq t6_2 (.int .u64 256)) fun t14_17 =>
condK t14_17 (
oV (vInt .shr t6_2 (.int .u64 8)) fun t16_18 =>
oV (vInt .add (.int .i64 32) (.int .i64 8)) fun t18_19 =>
oV (vConv (.int .u8) t16_18) fun t21_20 =>
oV (vIndexStr (.string { data := #[0, 1, 2, 2, 3, 3, 3, 3, 4, 4, 4, 4, 4, 4, 4, 4, 5, 5, 5, 5, 5, 5, 5, 5, 5, 5, 5, 5, 5, 5, 5, 5, 6, 6, 6, 6, 6, 6, 6, 6, 6, 6, 6, 6, 6, 6, 6, 6, 6, 6, 6, 6, 6, 6, 6, 6, 6, 6, 6, 6, 6, 6, 6, 6, 7, 7, 7, 7, 7, 7, 7, 7, 7, 7, 7, 7, 7, 7, 7, 7, 7, 7, 7, 7, 7, 7, 7, 7, 7, 7, 7, 7, 7, 7, 7, 7, 7, 7, 7, 7, 7, 7, 7, 7, 7, 7, 7, 7, 7, 7, 7, 7, 7, 7, 7, 7, 7, 7, 7, 7, 7, 7, 7, 7, 7, 7, 7, 7, 8, 8, 8, 8, 8, 8, 8, 8, 8, 8, 8, 8, 8, 8, 8, 8, 8, 8, 8, 8, 8, 8, 8, 8, 8, 8, 8, 8, 8, 8, 8, 8, 8, 8, 8, 8, 8, 8, 8, 8, 8, 8, 8, 8, 8, 8, 8, 8, 8, 8, 8, 8, 8, 8, 8, 8, 8, 8, 8, 8, 8, 8, 8, 8, 8, 8, 8, 8, 8, 8, 8, 8, 8, 8, 8, 8, 8, 8, 8, 8, 8, 8, 8, 8, 8, 8, 8, 8, 8, 8, 8, 8, 8, 8, 8, 8, 8, 8, 8, 8, 8, 8, 8, 8, 8, 8, 8, 8, 8, 8, 8, 8, 8, 8, 8, 8, 8, 8, 8, 8, 8, 8, 8, 8, 8, 8, 8, 8] }) t21_20) fun t22_21 =>
oV (vConv (.int .i64) t22_21) fun t23_22 =>
oV (vInt .add t18_19 t23_22) fun t24_23 =>
Q (.returned t24_23) H) (
oV (vConv (.int .u8) t6_2) fun t21_24 =>
oV (vIndexStr (.string { data := #[0, 1, 2, 2, 3, 3, 3, 3, 4, 4, 4, 4, 4, 4, 4, 4, 5, 5, 5, 5, 5, 5, 5, 5, 5, 5, 5, 5, 5, 5, 5, 5, 6, 6, 6, 6, 6, 6, 6, 6, 6, 6, 6, 6, 6, 6, 6, 6, 6, 6, 6, 6, 6, 6, 6, 6, 6, 6, 6, 6, 6, 6, 6, 6, 7, 7, 7, 7, 7, 7, 7, 7, 7, 7, 7, 7, 7, 7, 7, 7, 7, 7, 7, 7, 7, 7, 7, 7, 7, 7, 7, 7, 7, 7, 7, 7, 7, 7, 7, 7, 7, 7, 7, 7, 7, 7, 7, 7, 7, 7, 7, 7, 7, 7, 7, 7, 7, 7, 7, 7, 7, 7, 7, 7, 7, 7, 7, 7, 8, 8, 8, 8, 8, 8, 8, 8, 8, 8, 8, 8, 8, 8, 8, 8, 8, 8, 8, 8, 8, 8, 8, 8, 8, 8, 8, 8, 8, 8, 8, 8, 8, 8, 8, 8, 8, 8, 8, 8, 8, 8, 8, 8, 8, 8, 8, 8, 8, 8, 8, 8, 8, 8, 8, 8, 8, 8, 8, 8, 8, 8, 8, 8, 8, 8, 8, 8, 8, 8, 8, 8, 8, 8, 8, 8, 8, 8, 8, 8, 8, 8, 8, 8, 8, 8, 8, 8, 8, 8, 8, 8, 8, 8, 8, 8, 8, 8, 8, 8, 8, 8, 8, 8, 8, 8, 8, 8, 8, 8, 8, 8, 8, 8, 8, 8, 8, 8, 8, 8, 8, 8, 8, 8, 8, 8, 8, 8] }) t21_24) fun t22_25 =>
oV (vConv (.int .i64) t22_25) fun t23_26 =>
oV (vInt .add (.int .i64 32) t23_26) fun t24_27 =>
Q (.returned t24_27) H))) (
oV (vInt .geq x0 (.int .u64 65536)) fun t8_28 =>
condK t8_28 (
oV (vInt .shr x0 (.int .u64 16)) fun t10_29 =>
oV (vInt .add (.int .i64 0) (.int .i64 16)) fun t12_30 =>
oV (vInt .geq t10_29 (.int .u64 256)) fun t14_31 =>
condK t14_31 (
oV (vInt .shr t10_29 (.int .u64 8)) fun t16_32 =>
oV (vInt .add t12_30 (.int .i64 8)) fun t18_33 =>
oV (vConv (.int .u8) t16_32) fun t21_34 =>
oV (vIndexStr (.string { data := #[0, 1, 2, 2, 3, 3, 3, 3, 4, 4, 4, 4, 4, 4, 4, 4, 5, 5, 5, 5, 5, 5, 5, 5, 5, 5, 5, 5, 5, 5, 5, 5, 6, 6, 6, 6, 6, 6, 6, 6, 6, 6, 6, 6, 6, 6, 6, 6, 6, 6, 6, 6, 6, 6, 6, 6, 6, 6, 6, 6, 6, 6, 6, 6, 7, 7, 7, 7, 7, 7, 7, 7, 7, 7, 7, 7, 7, 7, 7, 7, 7, 7, 7, 7, 7, 7, 7, 7, 7, 7, 7, 7, 7, 7, 7, 7, 7, 7, 7, 7, 7, 7, 7, 7, 7, 7, 7, 7, 7, 7, 7, 7, 7, 7, 7, 7, 7, 7, 7, 7, 7, 7, 7, 7, 7, 7, 7, 7, 8, 8, 8, 8, 8, 8, 8, 8, 8, 8, 8, 8, 8, 8, 8, 8, 8, 8, 8, 8, 8, 8, 8, 8, 8, 8, 8, 8, 8, 8, 8, 8, 8, 8, 8, 8, 8, 8, 8, 8, 8, 8, 8, 8, 8, 8, 8, 8, 8, 8, 8, 8, 8, 8, 8, 8, 8, 8, 8, 8, 8, 8, 8, 8, 8, 8, 8, 8, 8, 8, 8, 8, 8, 8, 8, 8, 8, 8, 8, 8, 8, 8, 8, 8, 8, 8, 8, 8, 8, 8, 8, 8, 8, 8, 8, 8, 8, 8, 8, 8, 8, 8, 8, 8, 8, 8, 8, 8, 8, 8, 8, 8, 8, 8, 8, 8, 8, 8, 8, 8, 8, 8, 8, 8, 8, 8, 8, 8] }) t21_34) fun t22_35 =>
oV (vConv (.int .i64) t22_35) fun t23_36 =>
oV (vInt .add t18_33 t23_36) fun t24_37 =>
Q (.returned t24_37) H) (
oV (vConv (.int .u8) t10_29) fun t21_38 =>
oV (vIndexStr (.string { data := #[0, 1, 2, 2, 3, 3, 3, 3, 4, 4, 4, 4, 4, 4, 4, 4, 5, 5, 5, 5, 5, 5, 5, 5, 5, 5, 5, 5, 5, 5, 5, 5, 6, 6, 6, 6, 6, 6, 6, 6, 6, 6, 6, 6, 6, 6, 6, 6, 6, 6, 6, 6, 6, 6, 6, 6, 6, 6, 6, 6, 6, 6, 6, 6, 7, 7, 7, 7, 7, 7, 7, 7, 7, 7, 7, 7, 7, 7, 7, 7, 7, 7, 7, 7, 7, 7, 7, 7, 7, 7, 7, 7, 7, 7, 7, 7, 7, 7, 7, 7, 7, 7, 7, 7, 7, 7, 7, 7, 7, 7, 7, 7, 7, 7, 7, 7, 7, 7, 7, 7, 7, 7, 7, 7, 7, 7, 7, 7, 8, 8, 8, 8, 8, 8, 8, 8, 8, 8, 8, 8, 8, 8, 8, 8, 8, 8, 8, 8, 8, 8, 8, 8, 8, 8, 8, 8, 8, 8, 8, 8, 8, 8, 8, 8, 8, 8, 8, 8, 8, 8, 8, 8, 8, 8, 8, 8, 8, 8, 8, 8, 8, 8, 8, 8, 8, 8, 8, 8, 8, 8, 8, 8, 8, 8, 8, 8, 8, 8, 8, 8, 8, 8, 8, 8, 8, 8, 8, 8, 8, 8, 8, 8, 8, 8, 8, 8, 8, 8, 8, 8, 8, 8, 8, 8, 8, 8, 8, 8, 8, 8, 8, 8, 8, 8, 8, 8, 8, 8, 8, 8, 8, 8, 8, 8, 8, 8, 8, 8, 8, 8, 8, 8, 8, 8, 8, 8] }) t21_38) fun t22_39 =>
oV (vConv (.int .i64) t22_39) fun t23_40 =>
oV (vInt .add t12_30 t23_40) fun t24_41 =>
Q (.returned t24_41) H)) (
oV (vInt .geq x0 (.int .u64 256)) fun t14_42 =>
condK t14_42 (
oV (vInt .shr x0 (.int .u64 8)) fun t16_43 =>
oV (vInt .add (.int .i64 0) (.int .i64 8)) fun t18_44 =>
oV (vConv (.int .u8) t16_43) fun t21_45 =>
oV (vIndexStr (.string { data := #[0, 1, 2, 2, 3, 3, 3, 3, 4, 4, 4, 4, 4, 4, 4, 4, 5, 5, 5, 5, 5, 5, 5, 5, 5, 5, 5, 5, 5, 5, 5, 5, 6, 6, 6, 6, 6, 6, 6, 6, 6, 6, 6, 6, 6, 6, 6, 6, 6, 6, 6, 6, 6, 6, 6, 6, 6, 6, 6, 6, 6, 6, 6, 6, 7, 7, 7, 7, 7, 7, 7, 7, 7, 7, 7, 7, 7, 7, 7, 7, 7, 7, 7, 7, 7, 7, 7, 7, 7, 7, 7, 7, 7, 7, 7, 7, 7, 7, 7, 7, 7, 7, 7, 7, 7, 7, 7, 7, 7, 7, 7, 7, 7, 7, 7, 7, 7, 7, 7, 7, 7, 7, 7, 7, 7, 7, 7, 7, 8, 8, 8, 8, 8, 8, 8, 8, 8, 8, 8, 8, 8, 8, 8, 8, 8, 8, 8, 8, 8, 8, 8, 8, 8, 8, 8, 8, 8, 8, 8, 8, 8, 8, 8, 8, 8, 8, 8, 8, 8, 8, 8, 8, 8, 8, 8, 8, 8, 8, 8, 8, 8, 8, 8, 8, 8, 8, 8, 8, 8, 8, 8, 8, 8, 8, 8, 8, 8, 8, 8, 8, 8, 8, 8, 8, 8, 8, 8, 8, 8, 8, 8, 8, 8, 8, 8, 8, 8, 8, 8, 8, 8, 8, 8, 8, 8, 8, 8, 8, 8, 8, 8, 8, 8, 8, 8, 8, 8, 8, 8, 8, 8, 8, 8, 8, 8, 8, 8, 8, 8, 8, 8, 8, 8, 8, 8, 8] }) t21_45) fun t22_46 =>
oV (vConv (.int .i64) t22_46) fun t23_47 =>
oV (vInt .add t18_44 t23_47) fun t24_48 =>
Q (.returned t24_48) H) (
oV (vConv (.int .u8) x0) fun t21_49 =>
oV (vIndexStr (.string { data := #[0, 1, 2, 2, 3, 3, 3, 3, 4, 4, 4, 4, 4, 4, 4, 4, 5, 5, 5, 5, 5, 5, 5, 5, 5, 5, 5, 5, 5, 5, 5, 5, 6, 6, 6, 6, 6, 6, 6, 6, 6, 6, 6, 6, 6, 6, 6, 6, 6, 6, 6, 6, 6, 6, 6, 6, 6, 6, 6, 6, 6, 6, 6, 6, 7, 7, 7, 7, 7, 7, 7, 7, 7, 7, 7, 7, 7, 7, 7, 7, 7, 7, 7, 7, 7, 7, 7, 7, 7, 7, 7, 7, 7, 7, 7, 7, 7, 7, 7, 7, 7, 7, 7, 7, 7, 7, 7, 7, 7, 7, 7, 7, 7, 7, 7, 7, 7, 7, 7, 7, 7, 7, 7, 7, 7, 7, 7, 7, 8, 8, 8, 8, 8, 8, 8, 8, 8, 8, 8, 8, 8, 8, 8, 8, 8, 8, 8, 8, 8, 8, 8, 8, 8, 8, 8, 8, 8, 8, 8, 8, 8, 8, 8, 8, 8, 8, 8, 8, 8, 8, 8, 8, 8, 8, 8, 8, 8, 8, 8, 8, 8, 8, 8, 8, 8, 8, 8, 8, 8, 8, 8, 8, 8, 8, 8, 8, 8, 8, 8, 8, 8, 8, 8, 8, 8, 8, 8, 8, 8, 8, 8, 8, 8, 8, 8, 8, 8, 8, 8, 8, 8, 8, 8, 8, 8, 8, 8, 8, 8, 8, 8, 8, 8, 8, 8, 8, 8, 8, 8, 8, 8, 8, 8, 8, 8, 8, 8, 8, 8, 8, 8, 8, 8, 8, 8, 8] }) t21_49) fun t22_50 =>
oV (vConv (.int .i64) t22_50) fun t23_51 =>
oV (vInt .add (.int .i64 0) t23_51) fun t24_52 =>
Q (.returned t24_52) H)))
theorem c62_0 (env : Env) (H : Heap) (Q : Ending → Heap → Prop) (h : m62 (env 0) H Q) :
    RCode Tryd.prog 25 (bodyOf Tryd.f62) env H (mkK (retK T Tryd.f62.results.toList Q) (fun _ _ _ => False) (retK T Tryd.f62.results.toList Q) (fun c H => Q (.panicked c) H)) :=
  RCode.leaf_ (T := T) (X := ext) (hint := hint62) tok xok mixed (by kernel_rfl) h
theorem call62 (a0 : Value) (H : Heap) (Q : Ending → Heap → Prop) (h : m62 a0 H Q) : RCalls Tryd.prog 62 [a0] H Q :=
  RCalls.intro (nt := 25) tok Tryd.func62 (by kernel_rfl) (by kernel_rfl) (by kernel_rfl) (of_decide_eq_true (by kernel_rfl)) (c62_0 (envOf [a0]) H Q h)
/-! ### 60: privity/field.width -/
def hint60 : Nat → List Nat := lookupL []
def m60 (x0 : Value) (H : Heap) (Q : Ending → Heap → Prop) : Prop :=
oRC Tryd.prog 62 [x0] H (fun c H => Q (.panicked c) H) fun v_1 H_2 =>
oV (vConv (.int .u64) v_1) fun t5_3 =>
Q (.returned t5_3) H_2
theorem c60_0 (env : Env) (H : Heap) (Q : Ending → Heap → Prop) (h : m60 (env 0) H Q) :
    RCode Tryd.prog 6 (bodyOf Tryd.f60) env H (mkK (retK T Tryd.f60.results.toList Q) (fun _ _ _ => False) (retK T Tryd.f60.results.toList Q) (fun c H => Q (.panicked c) H)) :=
  RCode.leaf_ (T := T) (X := ext) (hint := hint60) tok xok mixed (by kernel_rfl) h
theorem call60 (a0 : Value) (H : Heap) (Q : Ending → Heap → Prop) (h : m60 a0 H Q) : RCalls Tryd.prog 60 [a0] H Q :=
  RCalls.intro (nt := 6) tok Tryd.func60 (by kernel_rfl) (by kernel_rfl) (by kernel_rfl) (of_decide_eq_true (by kernel_rfl)) (c60_0 (envOf [a0]) H Q h)
/-! ### 57: privity/field.fold -/
def hint57 : Nat → List Nat := lookupL []
def m57_1 (x0 x2 : Value) (H : Heap) (Q : Ending → Heap → Prop) : Prop :=
oV (vInt .eql x2 x0) fun t46_1 =>
condK t46_1 (
Q (.returned (.int .u64 0)) H) (
Q (.returned x2) H)
theorem c57_1 (env : Env) (H : Heap) (Q : Ending → Heap → Prop) (h : m57_1 (env 0) (env 2) H Q) :
    RCode Tryd.prog 48 (codeAt [1, 1, 1] (bodyOf Tryd.f57)) env H (mkK (retK T Tryd.f57.results.toList Q) (fun _ _ _ => False) (retK T Tryd.f57.results.toList Q) (fun c H => Q (.panicked c) H)) :=
  RCode.leaf_ (T := T) (X := ext) (hint := hint57) tok xok mixed (by kernel_rfl) h
def L57_2 (x0 x1 x2 x7 : Value) (H : Heap) (kn : Value → Value → Heap → Prop) (Q : Ending → Heap → Prop) : Prop :=
  ∀ env : Env, env 0 = x0 → env 1 = x1 → env 2 = x2 → env 7 = x7 → RLoop Tryd.prog 48 (codeAt [1, 1, 0, 0, 0] (bodyOf Tryd.f57)) env H (mkK (fun _ _ => False) (inK 0 (fun e H => kn (e 0) (e 2) H) (fun _ _ _ => False)) (retK T Tryd.f57.results.toList Q) (fun c H => Q (.panicked c) H))
theorem cL57_2 (env : Env) (H : Heap) (kn : Value → Value → Heap → Prop) (Q : Ending → Heap → Prop) (h : L57_2 (env 0) (env 1) (env 2) (env 7) H kn Q) :
    RCode Tryd.prog 48 (codeAt [1, 1, 0] (bodyOf Tryd.f57)) env H (mkK (fun e H => kn (e 0) (e 2) H) (fun _ _ _ => False) (retK T Tryd.f57.results.toList Q) (fun c H => Q (.panicked c) H)) :=
  RCode.blk (by kernel_rfl : (codeAt [1, 1, 0] (bodyOf Tryd.f57)) = .block 0 (codeAt [1, 1, 0, 0] (bodyOf Tryd.f57))) (RCode.lp (by kernel_rfl : (codeAt [1, 1, 0, 0] (bodyOf Tryd.f57)) = .loop (codeAt [1, 1, 0, 0, 0] (bodyOf Tryd.f57))) ((h env rfl rfl rfl rfl).mono (mkK_mono (fun _ _ h => h.elim) (fun _ _ _ h => h) (fun _ _ h => h) (fun _ _ h => h))))
def m57_3 (x0 x1 x2 x7 : Value) (H : Heap) (kn : Value → Value → Value → Value → Heap → Prop) (kx0 : Value → Value → Heap → Prop) (Q : Ending → Heap → Prop) : Prop :=
oV (vInt .neq x1 (.int .u64 0)) fun t14_2 =>
oV (gV t14_2 false (some x2) (some undef)) fun t16_3 =>
oV (gV t14_2 false (some x0) (some undef)) fun t17_4 =>
oV (gV t14_2 false (vInt .gtr t16_3 t17_4) (some undef)) fun t18_5 =>
oV (vPick t14_2 (.bool true) t18_5) fun t19_6 =>
condK t19_6 (
oV (vInt .and x2 x0) fun t22_7 =>
oV (vInt .shr x2 x7) fun t25_8 =>
oV (vInt .sub (.int .u64 64) x7) fun t28_9 =>
oV (vInt .shl x1 t28_9) fun t29_10 =>
oV (vInt .or t25_8 t29_10) fun t30_11 =>
oV (vInt .shr x1 x7) fun t33_12 =>
oV (vAdd64 [t30_11, t22_7, (.int .u64 0)]) fun v_13 =>
oV (vExtract v_13 0) fun t38_15 =>
oV (vExtract v_13 1) fun t39_16 =>
oV (vInt .add t33_12 t39_16) fun t43_17 =>
kn x0 t43_17 t38_15 x7 H) (
kx0 x0 x2 H)
theorem c57_3 (env : Env) (H : Heap) (kn : Value → Value → Value → Value → Heap → Prop) (kx0 : Value → Value → Heap → Prop) (Q : Ending → Heap → Prop) (h : m57_3 (env 0) (env 1) (env 2) (env 7) H kn kx0 Q) :
    RCode Tryd.prog 48 (codeAt [1, 1, 0, 0, 0] (bodyOf Tryd.f57)) env H (mkK (fun e H => kn (e 0) (e 1) (e 2) (e 7) H) (inK 0 (fun e H => kx0 (e 0) (e 2) H) (fun _ _ _ => False)) (retK T Tryd.f57.results.toList Q) (fun c H => Q (.panicked c) H)) :=
  RCode.leaf_ (T := T) (X := ext) (hint := hint57) tok xok mixed (by kernel_rfl) h
theorem L57_2_round (x0 x1 x2 x7 : Value) (H : Heap) (kn : Value → Value → Heap → Prop) (Q : Ending → Heap → Prop) (h : m57_3 x0 x1 x2 x7 H (fun y0 y1 y2 y7 H => L57_2 y0 y1 y2 y7 H kn Q) kn Q) : L57_2 x0 x1 x2 x7 H kn Q := by
  intro env h0 h1 h2 h7
  subst h0; subst h1; subst h2; subst h7
  exact RLoop.round ((c57_3 env H (fun y0 y1 y2 y7 H => L57_2 y0 y1 y2 y7 H kn Q) kn Q h).mono (mkK_mono (fun e H h => h e rfl rfl rfl rfl) (fun _ _ _ h => h) (fun _ _ h => h) (fun _ _ h => h)))
def m57 (x0 x1 x2 : Value) (H : Heap) (Q : Ending → Heap → Prop) : Prop :=
oRC Tryd.prog 60 [x0] H (fun c H => Q (.panicked c) H) fun v_18 H_19 =>
L57_2 x0 x1 x2 v_18 H_19 (fun y0_20 y2_21 H_22 => m57_1 y0_20 y2_21 H_22 Q) Q
theorem c57_0 (env : Env) (H : Heap) (Q : Ending → Heap → Prop) (h : m57 (env 0) (env 1) (env 2) H Q) :
    RCode Tryd.prog 48 (bodyOf Tryd.f57) env H (mkK (retK T Tryd.f57.results.toList Q) (fun _ _ _ => False) (retK T Tryd.f57.results.toList Q) (fun c H => Q (.panicked c) H)) :=
  RCode.prefix_ (T := T) (X := ext) (hint := hint57) (hole := (fun e H => L57_2 (e 0) (e 1) (e 2) (e 7) H (fun y0_23 y2_24 H_25 => m57_1 y0_23 y2_24 H_25 Q) Q)) tok xok mixed 2 (by kernel_rfl) (by kernel_rfl : codeAt _ _ = (codeAt [1, 1] (bodyOf Tryd.f57))) h
    (fun e H h => RCode.join (by kernel_rfl : (codeAt [1, 1] (bodyOf Tryd.f57)) = .seq (codeAt [1, 1, 0] (bodyOf Tryd.f57)) (codeAt [1, 1, 1] (bodyOf Tryd.f57))) ((cL57_2 e H (fun y0_26 y2_27 H_28 => m57_1 y0_26 y2_27 H_28 Q) Q h).mono (mkK_mono (fun e H h => c57_1 e H Q h) (fun _ _ _ h => h) (fun _ _ h => h) (fun _ _ h => h))))
theorem call57 (a0 a1 a2 : Value) (H : Heap) (Q : Ending → Heap → Prop) (h : m57 a0 a1 a2 H Q) : RCalls Tryd.prog 57 [a0, a1, a2] H Q :=
  RCalls.intro (nt := 48) tok Tryd.func57 (by kernel_rfl) (by kernel_rfl) (by kernel_rfl) (of_decide_eq_true (by kernel_rfl)) (c57_0 (envOf [a0, a1, a2]) H Q h)
/-! ### 51: privity/field.Add -/
def hint51 : Nat → List Nat := lookupL []
def m51 (x0 x1 x2 : Value) (H : Heap) (Q : Ending → Heap → Prop) : Prop :=
oV (vInt .add x1 x2) fun t10_1 =>
oRC Tryd.prog 57 [x0, (.int .u64 0), t10_1] H (fun c H => Q (.panicked c) H) fun v_2 H_3 =>
Q (.returned v_2) H_3
theorem c51_0 (env : Env) (H : Heap) (Q : Ending → Heap → Prop) (h : m51 (env 0) (env 1) (env 2) H Q) :
    RCode Tryd.prog 12 (bodyOf Tryd.f51) env H (mkK (retK T Tryd.f51.results.toList Q) (fun _ _ _ => False) (retK T Tryd.f51.results.toList Q) (fun c H => Q (.panicked c) H)) :=
  RCode.leaf_ (T := T) (X := ext) (hint := hint51) tok xok mixed (by kernel_rfl) h
theorem call51 (a0 a1 a2 : Value) (H : Heap) (Q : Ending → Heap → Prop) (h : m51 a0 a1 a2 H Q) : RCalls Tryd.prog 51 [a0, a1, a2] H Q :=
  RCalls.intro (nt := 12) tok Tryd.func51 (by kernel_rfl) (by kernel_rfl) (by kernel_rfl) (of_decide_eq_true (by kernel_rfl)) (c51_0 (envOf [a0, a1, a2]) H Q h)
/-! ### 50: privity/cleartext.gates$3 -/
def hint50 : Nat → List Nat := lookupL [(1, [0, 1, 2, 3, 4, 5, 6, 7, 8, 9, 10, 11, 12, 13, 14, 15, 16, 17, 18, 19, 20, 21])]
def m50 (x0 x1 : Value) (H : Heap) (Q : Ending → Heap → Prop) : Prop :=
oNew (Value.cells x1).toList (Value.cells x1).toList.length 37 H fun i_1 H_2 =>
oV (vNil x0) fun t6_3 =>
oV (vField 0 t6_3) fun t7_4 =>
oV (vLoad ty22 t7_4 H_2) fun t8_5 =>
oV (vNil x0) fun t10_6 =>
oV (vField 1 t10_6) fun t11_7 =>
oV (vLoad ty30 t11_7 H_2) fun t12_8 =>
oV (vField 2 (ptrTo i_1)) fun t13_9 =>
oV (vLoad ty3 t13_9 H_2) fun t14_10 =>
oV (vIdxS 1 t12_8 t14_10) fun t15_11 =>
oV (vLoad ty22 t15_11 H_2) fun t16_12 =>
oV (vNil x0) fun t18_13 =>
oV (vField 1 t18_13) fun t19_14 =>
oV (vLoad ty30 t19_14 H_2) fun t20_15 =>
oV (vField 3 (ptrTo i_1)) fun t21_16 =>
oV (vLoad ty3 t21_16 H_2) fun t22_17 =>
oV (vIdxS 1 t20_15 t22_17) fun t23_18 =>
oV (vLoad ty22 t23_18 H_2) fun t24_19 =>
oRC Tryd.prog 51 [t8_5, t16_12, t24_19] H_2 noP fun v_20 H_21 =>
Q (.returned v_20) H_21
theorem c50_0 (env : Env) (H : Heap) (Q : Ending → Heap → Prop) (h : m50 (env 0) (env 1) H Q) :
    RCode Tryd.prog 26 (bodyOf Tryd.f50) env H (mkK (retK T Tryd.f50.results.toList Q) (fun _ _ _ => False) (retK T Tryd.f50.results.toList Q) (fun c H => Q (.panicked c) H)) :=
  RCode.leaf_ (T := T) (X := ext) (hint := hint50) tok xok mixed (by kernel_rfl) h
theorem call50 (a0 a1 : Value) (H : Heap) (Q : Ending → Heap → Prop) (h : m50 a0 a1 H Q) : RCalls Tryd.prog 50 [a0, a1] H Q :=
  RCalls.intro (nt := 26) tok Tryd.func50 (by kernel_rfl) (by kernel_rfl) (by kernel_rfl) (of_decide_eq_true (by kernel_rfl)) (c50_0 (envOf [a0, a1]) H Q h)
/-! ### 58: privity/field.Neg -/
def hint58 : Nat → List Nat := lookupL []
def m58 (x0 x1 : Value) (H : Heap) (Q : Ending → Heap → Prop) : Prop :=
oV (vInt .eql x1 (.int .u64 0)) fun t6_1 =>
condK t6_1 (
Q (.returned (.int .u64 0)) H) (
oV (vInt .sub x0 x1) fun t9_2 =>
Q (.returned t9_2) H)
theorem c58_0 (env : Env) (H : Heap) (Q : Ending → Heap → Prop) (h : m58 (env 0) (env 1) H Q) :
    RCode Tryd.prog 10 (bodyOf Tryd.f58) env H (mkK (retK T Tryd.f58.results.toList Q) (fun _ _ _ => False) (retK T Tryd.f58.results.toList Q) (fun c H => Q (.panicked c) H)) :=
  RCode.leaf_ (T := T) (X := ext) (hint := hint58) tok xok mixed (by kernel_rfl) h
theorem call58 (a0 a1 : Value) (H : Heap) (Q : Ending → Heap → Prop) (h : m58 a0 a1 H Q) : RCalls Tryd.prog 58 [a0, a1] H Q :=
  RCalls.intro (nt := 10) tok Tryd.func58 (by kernel_rfl) (by kernel_rfl) (by kernel_rfl) (of_decide_eq_true (by kernel_rfl)) (c58_0 (envOf [a0, a1]) H Q h)
/-! ### 53: privity/field.Sub -/
def hint53 : Nat → List Nat := lookupL []
def m53 (x0 x1 x2 : Value) (H : Heap) (Q : Ending → Heap → Prop) : Prop :=
oRC Tryd.prog 58 [x0, x2] H (fun c H => Q (.panicked c) H) fun v_1 H_2 =>
oRC Tryd.prog 51 [x0, x1, v_1] H_2 (fun c H => Q (.panicked c) H) fun v_3 H_4 =>
Q (.returned v_3) H_4
theorem c53_0 (env : Env) (H : Heap) (Q : Ending → Heap → Prop) (h : m53 (env 0) (env 1) (env 2) H Q) :
    RCode Tryd.prog 13 (bodyOf Tryd.f53) env H (mkK (retK T Tryd.f53.results.toList Q) (fun _ _ _ => False) (retK T Tryd.f53.results.toList Q) (fun c H => Q (.panicked c) H)) :=
  RCode.leaf_ (T := T) (X := ext) (hint := hint53) tok xok mixed (by kernel_rfl) h
theorem call53 (a0 a1 a2 : Value) (H : Heap) (Q : Ending → Heap → Prop) (h : m53 a0 a1 a2 H Q) : RCalls Tryd.prog 53 [a0, a1, a2] H Q :=
  RCalls.intro (nt := 13) tok Tryd.func53 (by kernel_rfl) (by kernel_rfl) (by kernel_rfl) (of_decide_eq_true (by kernel_rfl)) (c53_0 (envOf [a0, a1, a2]) H Q h)
/-! ### 52: privity/cleartext.gates$4 -/
def hint52 : Nat → List Nat := lookupL [(1, [0, 1, 2, 3, 4, 5, 6, 7, 8, 9, 10, 11, 12, 13, 14, 15, 16, 17, 18, 19, 20, 21])]
def m52 (x0 x1 : Value) (H : Heap) (Q : Ending → Heap → Prop) : Prop :=
oNew (Value.cells x1).toList (Value.cells x1).toList.length 37 H fun i_1 H_2 =>
oV (vNil x0) fun t6_3 =>
oV (vField 0 t6_3) fun t7_4 =>
oV (vLoad ty22 t7_4 H_2) fun t8_5 =>
oV (vNil x0) fun t10_6 =>
oV (vField 1 t10_6) fun t11_7 =>
oV (vLoad ty30 t11_7 H_2) fun t12_8 =>
oV (vField 2 (ptrTo i_1)) fun t13_9 =>
oV (vLoad ty3 t13_9 H_2) fun t14_10 =>
oV (vIdxS 1 t12_8 t14_10) fun t15_11 =>
oV (vLoad ty22 t15_11 H_2) fun t16_12 =>
oV (vNil x0) fun t18_13 =>
oV (vField 1 t18_13) fun t19_14 =>
oV (vLoad ty30 t19_14 H_2) fun t20_15 =>
oV (vField 3 (ptrTo i_1)) fun t21_16 =>
oV (vLoad ty3 t21_16 H_2) fun t22_17 =>
oV (vIdxS 1 t20_15 t22_17) fun t23_18 =>
oV (vLoad ty22 t23_18 H_2) fun t24_19 =>
oRC Tryd.prog 53 [t8_5, t16_12, t24_19] H_2 noP fun v_20 H_21 =>
Q (.returned v_20) H_21
theorem c52_0 (env : Env) (H : Heap) (Q : Ending → Heap → Prop) (h : m52 (env 0) (env 1) H Q) :
    RCode Tryd.prog 26 (bodyOf Tryd.f52) env H (mkK (retK T Tryd.f52.results.toList Q) (fun _ _ _ => False) (retK T Tryd.f52.results.toList Q) (fun c H => Q (.panicked c) H)) :=
  RCode.leaf_ (T := T) (X := ext) (hint := hint52) tok xok mixed (by kernel_rfl) h
theorem call52 (a0 a1 : Value) (H : Heap) (Q : Ending → Heap → Prop) (h : m52 a0 a1 H Q) : RCalls Tryd.prog 52 [a0, a1] H Q :=
  RCalls.intro (nt := 26) tok Tryd.func52 (by kernel_rfl) (by kernel_rfl) (by kernel_rfl) (of_decide_eq_true (by kernel_rfl)) (c52_0 (envOf [a0, a1]) H Q h)
/-! ### 59: math/bits.Mul64 -/
def hint59 : Nat → List Nat := lookupL []
def m59 (x0 x1 : Value) (H : Heap) (Q : Ending → Heap → Prop) : Prop :=
oV (vInt .and x0 (.int .u64 4294967295)) fun t15_1 =>
oV (vInt .shr x0 (.int .u64 32)) fun t17_2 =>
oV (vInt .and x1 (.int .u64 4294967295)) fun t19_3 =>
oV (vInt .shr x1 (.int .u64 32)) fun t21_4 =>
oV (vInt .mul t15_1 t19_3) fun t24_5 =>
oV (vInt .mul t17_2 t19_3) fun t27_6 =>
oV (vInt .shr t24_5 (.int .u64 32)) fun t29_7 =>
oV (vInt .add t27_6 t29_7) fun t30_8 =>
oV (vInt .and t30_8 (.int .u64 4294967295)) fun t32_9 =>
oV (vInt .shr t30_8 (.int .u64 32)) fun t34_10 =>
oV (vInt .mul t15_1 t21_4) fun t38_11 =>
oV (vInt .add t32_9 t38_11) fun t39_12 =>
oV (vInt .mul t17_2 t21_4) fun t42_13 =>
oV (vInt .add t42_13 t34_10) fun t44_14 =>
oV (vInt .shr t39_12 (.int .u64 32)) fun t46_15 =>
oV (vInt .add t44_14 t46_15) fun t47_16 =>
oV (vInt .mul x0 x1) fun t50_17 =>
Q (.returned (.tuple #[t47_16, t50_17])) H
theorem c59_0 (env : Env) (H : Heap) (Q : Ending → Heap → Prop) (h : m59 (env 0) (env 1) H Q) :
    RCode Tryd.prog 51 (bodyOf Tryd.f59) env H (mkK (retK T Tryd.f59.results.toList Q) (fun _ _ _ => False) (retK T Tryd.f59.results.toList Q) (fun c H => Q (.panicked c) H)) :=
  RCode.leaf_ (T := T) (X := ext) (hint := hint59) tok xok mixed (by kernel_rfl) h
theorem call59 (a0 a1 : Value) (H : Heap) (Q : Ending → Heap → Prop) (h : m59 a0 a1 H Q) : RCalls Tryd.prog 59 [a0, a1] H Q :=
  RCalls.intro (nt := 51) tok Tryd.func59 (by kernel_rfl) (by kernel_rfl) (by kernel_rfl) (of_decide_eq_true (by kernel_rfl)) (c59_0 (envOf [a0, a1]) H Q h)
/-! ### 55: privity/field.Mul -/
def hint55 : Nat → List Nat := lookupL []
def m55 (x0 x1 x2 : Value) (H : Heap) (Q : Ending → Heap → Prop) : Prop :=
oRC Tryd.prog 59 [x1, x2] H (fun c H => Q (.panicked c) H) fun v_1 H_2 =>
oV (vExtract v_1 0) fun t13_3 =>
oV (vExtract v_1 1) fun t14_4 =>
oRC Tryd.prog 57 [x0, t13_3, t14_4] H_2 (fun c H => Q (.panicked c) H) fun v_5 H_6 =>
Q (.returned v_5) H_6
theorem c55_0 (env : Env) (H : Heap) (Q : Ending → Heap → Prop) (h : m55 (env 0) (env 1) (env 2) H Q) :
    RCode Tryd.prog 19 (bodyOf Tryd.f55) env H (mkK (retK T Tryd.f55.results.toList Q) (fun _ _ _ => False) (retK T Tryd.f55.results.toList Q) (fun c H => Q (.panicked c) H)) :=
  RCode.leaf_ (T := T) (X := ext) (hint := hint55) tok xok mixed (by kernel_rfl) h
theorem call55 (a0 a1 a2 : Value) (H : Heap) (Q : Ending → Heap → Prop) (h : m55 a0 a1 a2 H Q) : RCalls Tryd.prog 55 [a0, a1, a2] H Q :=
  RCalls.intro (nt := 19) tok Tryd.func55 (by kernel_rfl) (by kernel_rfl) (by kernel_rfl) (of_decide_eq_true (by kernel_rfl)) (c55_0 (envOf [a0, a1, a2]) H Q h)
/-! ### 54: privity/cleartext.gates$5 -/
def hint54 : Nat → List Nat := lookupL [(1, [0, 1, 2, 3, 4, 5, 6, 7, 8, 9, 10, 11, 12, 13, 14, 15])]
def m54 (x0 x1 : Value) (H : Heap) (Q : Ending → Heap → Prop) : Prop :=
oNew (Value.cells x1).toList (Value.cells x1).toList.length 37 H fun i_1 H_2 =>
oV (vNil x0) fun t6_3 =>
oV (vField 0 t6_3) fun t7_4 =>
oV (vLoad ty22 t7_4 H_2) fun t8_5 =>
oV (vField 4 (ptrTo i_1)) fun t9_6 =>
oV (vLoad ty22 t9_6 H_2) fun t10_7 =>
oV (vNil x0) fun t12_8 =>
oV (vField 1 t12_8) fun t13_9 =>
oV (vLoad ty30 t13_9 H_2) fun t14_10 =>
oV (vField 2 (ptrTo i_1)) fun t15_11 =>
oV (vLoad ty3 t15_11 H_2) fun t16_12 =>
oV (vIdxS 1 t14_10 t16_12) fun t17_13 =>
oV (vLoad ty22 t17_13 H_2) fun t18_14 =>
oRC Tryd.prog 55 [t8_5, t10_7, t18_14] H_2 noP fun v_15 H_16 =>
Q (.returned v_15) H_16
theorem c54_0 (env : Env) (H : Heap) (Q : Ending → Heap → Prop) (h : m54 (env 0) (env 1) H Q) :
    RCode Tryd.prog 20 (bodyOf Tryd.f54) env H (mkK (retK T Tryd.f54.results.toList Q) (fun _ _ _ => False) (retK T Tryd.f54.results.toList Q) (fun c H => Q (.panicked c) H)) :=
  RCode.leaf_ (T := T) (X := ext) (hint := hint54) tok xok mixed (by kernel_rfl) h
theorem call54 (a0 a1 : Value) (H : Heap) (Q : Ending → Heap → Prop) (h : m54 a0 a1 H Q) : RCalls Tryd.prog 54 [a0, a1] H Q :=
  RCalls.intro (nt := 20) tok Tryd.func54 (by kernel_rfl) (by kernel_rfl) (by kernel_rfl) (of_decide_eq_true (by kernel_rfl)) (c54_0 (envOf [a0, a1]) H Q h)
/-! ### 56: privity/cleartext.gates$6 -/
def hint56 : Nat → List Nat := lookupL [(1, [0, 1, 2, 3, 4, 5, 6, 7, 8, 9, 10, 11, 12, 13, 14, 15, 16, 17, 18, 19, 20, 21])]
def m56 (x0 x1 : Value) (H : Heap) (Q : Ending → Heap → Prop) : Prop :=
oNew (Value.cells x1).toList (Value.cells x1).toList.length 37 H fun i_1 H_2 =>
oV (vNil x0) fun t6_3 =>
oV (vField 0 t6_3) fun t7_4 =>
oV (vLoad ty22 t7_4 H_2) fun t8_5 =>
oV (vNil x0) fun t10_6 =>
oV (vField 1 t10_6) fun t11_7 =>
oV (vLoad ty30 t11_7 H_2) fun t12_8 =>
oV (vField 2 (ptrTo i_1)) fun t13_9 =>
oV (vLoad ty3 t13_9 H_2) fun t14_10 =>
oV (vIdxS 1 t12_8 t14_10) fun t15_11 =>
oV (vLoad ty22 t15_11 H_2) fun t16_12 =>
oV (vNil x0) fun t18_13 =>
oV (vField 1 t18_13) fun t19_14 =>
oV (vLoad ty30 t19_14 H_2) fun t20_15 =>
oV (vField 3 (ptrTo i_1)) fun t21_16 =>
oV (vLoad ty3 t21_16 H_2) fun t22_17 =>
oV (vIdxS 1 t20_15 t22_17) fun t23_18 =>
oV (vLoad ty22 t23_18 H_2) fun t24_19 =>
oRC Tryd.prog 55 [t8_5, t16_12, t24_19] H_2 noP fun v_20 H_21 =>
Q (.returned v_20) H_21
theorem c56_0 (env : Env) (H : Heap) (Q : Ending → Heap → Prop) (h : m56 (env 0) (env 1) H Q) :
    RCode Tryd.prog 26 (bodyOf Tryd.f56) env H (mkK (retK T Tryd.f56.results.toList Q) (fun _ _ _ => False) (retK T Tryd.f56.results.toList Q) (fun c H => Q (.panicked c) H)) :=
  RCode.leaf_ (T := T) (X := ext) (hint := hint56) tok xok mixed (by kernel_rfl) h
theorem call56 (a0 a1 : Value) (H : Heap) (Q : Ending → Heap → Prop) (h : m56 a0 a1 H Q) : RCalls Tryd.prog 56 [a0, a1] H Q :=
  RCalls.intro (nt := 26) tok Tryd.func56 (by kernel_rfl) (by kernel_rfl) (by kernel_rfl) (of_decide_eq_true (by kernel_rfl)) (c56_0 (envOf [a0, a1]) H Q h)
/-! ### 4: privity/privityref33.Few -/
def hint4 : Nat → List Nat := lookupL []
def m4_1 (H : Heap) (Q : Ending → Heap → Prop) : Prop :=
Q (.returned (.bool true)) H
theorem c4_1 (env : Env) (H : Heap) (Q : Ending → Heap → Prop) (h : m4_1 H Q) :
    RCode Tryd.prog 38 (codeAt [1, 1, 1] (bodyOf Tryd.f4)) env H (mkK (retK T Tryd.f4.results.toList Q) (fun _ _ _ => False) (retK T Tryd.f4.results.toList Q) (fun c H => Q (.panicked c) H)) :=
  RCode.leaf_ (T := T) (X := ext) (hint := hint4) tok xok mixed (by kernel_rfl) h
def L4_3 (x1 x2 x7 : Value) (H : Heap) (kn : Heap → Prop) (Q : Ending → Heap → Prop) : Prop :=
  ∀ env : Env, env 1 = x1 → env 2 = x2 → env 7 = x7 → RLoop Tryd.prog 38 (codeAt [1, 1, 0, 1, 0, 0] (bodyOf Tryd.f4)) env H (mkK (fun _ _ => False) (inK 0 (fun e H => kn H) (fun _ _ _ => False)) (retK T Tryd.f4.results.toList Q) (fun c H => Q (.panicked c) H))
theorem cL4_3 (env : Env) (H : Heap) (kn : Heap → Prop) (Q : Ending → Heap → Prop) (h : L4_3 (env 1) (env 2) (env 7) H kn Q) :
    RCode Tryd.prog 38 (codeAt [1, 1, 0, 1] (bodyOf Tryd.f4)) env H (mkK (fun e H => kn H) (fun _ _ _ => False) (retK T Tryd.f4.results.toList Q) (fun c H => Q (.panicked c) H)) :=
  RCode.blk (by kernel_rfl : (codeAt [1, 1, 0, 1] (bodyOf Tryd.f4)) = .block 0 (codeAt [1, 1, 0, 1, 0] (bodyOf Tryd.f4))) (RCode.lp (by kernel_rfl : (codeAt [1, 1, 0, 1, 0] (bodyOf Tryd.f4)) = .loop (codeAt [1, 1, 0, 1, 0, 0] (bodyOf Tryd.f4))) ((h env rfl rfl rfl).mono (mkK_mono (fun _ _ h => h.elim) (fun _ _ _ h => h) (fun _ _ h => h) (fun _ _ h => h))))
def m4_4 (x1 x2 x7 : Value) (H : Heap) (kn : Value → Value → Value → Heap → Prop) (kx0 : Heap → Prop) (Q : Ending → Heap → Prop) : Prop :=
oV (vLen x1) fun t27_1 =>
oV (vInt .lss x7 t27_1) fun t28_2 =>
condK t28_2 (
oV (vIdxS 1 x1 x7) fun t33_3 =>
oV (vLoad ty30 t33_3 H) fun t34_4 =>
oV (vLen t34_4) fun t35_5 =>
oV (vInt .gtr t35_5 x2) fun t37_6 =>
condK t37_6 (
Q (.returned (.bool false)) H) (
oV (vInt .add x7 (.int .i64 1)) fun t30_7 =>
kn x1 x2 t30_7 H)) (
kx0 H)
theorem c4_4 (env : Env) (H : Heap) (kn : Value → Value → Value → Heap → Prop) (kx0 : Heap → Prop) (Q : Ending → Heap → Prop) (h : m4_4 (env 1) (env 2) (env 7) H kn kx0 Q) :
    RCode Tryd.prog 38 (codeAt [1, 1, 0, 1, 0, 0] (bodyOf Tryd.f4)) env H (mkK (fun e H => kn (e 1) (e 2) (e 7) H) (inK 0 (fun e H => kx0 H) (fun _ _ _ => False)) (retK T Tryd.f4.results.toList Q) (fun c H => Q (.panicked c) H)) :=
  RCode.leaf_ (T := T) (X := ext) (hint := hint4) tok xok mixed (by kernel_rfl) h
theorem L4_3_round (x1 x2 x7 : Value) (H : Heap) (kn : Heap → Prop) (Q : Ending → Heap → Prop) (h : m4_4 x1 x2 x7 H (fun y1 y2 y7 H => L4_3 y1 y2 y7 H kn Q) kn Q) : L4_3 x1 x2 x7 H kn Q := by
  intro env h1 h2 h7
  subst h1; subst h2; subst h7
  exact RLoop.round ((c4_4 env H (fun y1 y2 y7 H => L4_3 y1 y2 y7 H kn Q) kn Q h).mono (mkK_mono (fun e H h => h e rfl rfl rfl) (fun _ _ _ h => h) (fun _ _ h => h) (fun _ _ h => h)))
def m4_2 (x1 x2 : Value) (H : Heap) (kn : Heap → Prop) (Q : Ending → Heap → Prop) : Prop :=
L4_3 x1 x2 (.int .i64 0) H kn Q
theorem c4_2 (env : Env) (H : Heap) (kn : Heap → Prop) (Q : Ending → Heap → Prop) (h : m4_2 (env 1) (env 2) H kn Q) :
    RCode Tryd.prog 38 (codeAt [1, 1, 0] (bodyOf Tryd.f4)) env H (mkK (fun e H => kn H) (fun _ _ _ => False) (retK T Tryd.f4.results.toList Q) (fun c H => Q (.panicked c) H)) :=
  RCode.prefix_ (T := T) (X := ext) (hint := hint4) (hole := (fun e H => L4_3 (e 1) (e 2) (e 7) H kn Q)) tok xok mixed 1 (by kernel_rfl) (by kernel_rfl : codeAt _ _ = (codeAt [1, 1, 0, 1] (bodyOf Tryd.f4))) h
    (fun e H h => (cL4_3 e H kn Q h))
def m4 (x0 x1 x2 : Value) (H : Heap) (Q : Ending → Heap → Prop) : Prop :=
oNew (Value.cells x0).toList (Value.cells x0).toList.length 26 H fun i_8 H_9 =>
oV (vField 1 (ptrTo i_8)) fun t8_10 =>
oV (vLoad ty23 t8_10 H_9) fun t9_11 =>
oV (vLen t9_11) fun t10_12 =>
oV (vInt .gtr t10_12 x2) fun t12_13 =>
oV (gV t12_13 false (vField 2 (ptrTo i_8)) (some undef)) fun t14_14 =>
oV (gV t12_13 false (vLoad ty24 t14_14 H_9) (some undef)) fun t15_15 =>
oV (gV t12_13 false (vLen t15_15) (some undef)) fun t16_16 =>
oV (gV t12_13 false (some x2) (some undef)) fun t17_17 =>
oV (gV t12_13 false (vInt .gtr t16_16 t17_17) (some undef)) fun t18_18 =>
oV (vPick t12_13 (.bool true) t18_18) fun t19_19 =>
oV (gV t19_19 false (some x1) (some undef)) fun t21_20 =>
oV (gV t19_19 false (vLen t21_20) (some undef)) fun t22_21 =>
oV (gV t19_19 false (vInt .gtr t22_21 (.int .i64 20)) (some undef)) fun t23_22 =>
oV (vPick t19_19 (.bool true) t23_22) fun t24_23 =>
condK t24_23 (
Q (.returned (.bool false)) H_9) (
m4_2 x1 x2 H_9 (fun H_24 => m4_1 H_24 Q) Q)
theorem c4_0 (env : Env) (H : Heap) (Q : Ending → Heap → Prop) (h : m4 (env 0) (env 1) (env 2) H Q) :
    RCode Tryd.prog 38 (bodyOf Tryd.f4) env H (mkK (retK T Tryd.f4.results.toList Q) (fun _ _ _ => False) (retK T Tryd.f4.results.toList Q) (fun c H => Q (.panicked c) H)) :=
  RCode.prefix_ (T := T) (X := ext) (hint := hint4) (hole := (fun e H => m4_2 (e 1) (e 2) H (fun H_25 => m4_1 H_25 Q) Q)) tok xok mixed 2 (by kernel_rfl) (by kernel_rfl : codeAt _ _ = (codeAt [1, 1] (bodyOf Tryd.f4))) h
    (fun e H h => RCode.join (by kernel_rfl : (codeAt [1, 1] (bodyOf Tryd.f4)) = .seq (codeAt [1, 1, 0] (bodyOf Tryd.f4)) (codeAt [1, 1, 1] (bodyOf Tryd.f4))) ((c4_2 e H (fun H_26 => m4_1 H_26 Q) Q h).mono (mkK_mono (fun e H h => c4_1 e H Q h) (fun _ _ _ h => h) (fun _ _ h => h) (fun _ _ h => h))))
theorem call4 (a0 a1 a2 : Value) (H : Heap) (Q : Ending → Heap → Prop) (h : m4 a0 a1 a2 H Q) : RCalls Tryd.prog 4 [a0, a1, a2] H Q :=
  RCalls.intro (nt := 38) tok Tryd.func4 (by kernel_rfl) (by kernel_rfl) (by kernel_rfl) (of_decide_eq_true (by kernel_rfl)) (c4_0 (envOf [a0, a1, a2]) H Q h)
/-! ### 26: privity/field.Exponent -/
def hint26 : Nat → List Nat := lookupL []
def m26_1 (H : Heap) (Q : Ending → Heap → Prop) : Prop :=
Q (.returned (.int .i64 0)) H
theorem c26_1 (env : Env) (H : Heap) (Q : Ending → Heap → Prop) (h : m26_1 H Q) :
    RCode Tryd.prog 16 (codeAt [1, 1] (bodyOf Tryd.f26)) env H (mkK (retK T Tryd.f26.results.toList Q) (fun _ _ _ => False) (retK T Tryd.f26.results.toList Q) (fun c H => Q (.panicked c) H)) :=
  RCode.leaf_ (T := T) (X := ext) (hint := hint26) tok xok mixed (by kernel_rfl) h
def L26_3 (x0 x5 x6 : Value) (H : Heap) (kn : Heap → Prop) (Q : Ending → Heap → Prop) : Prop :=
  ∀ env : Env, env 0 = x0 → env 5 = x5 → env 6 = x6 → RLoop Tryd.prog 16 (codeAt [1, 0, 1, 0, 0] (bodyOf Tryd.f26)) env H (mkK (fun _ _ => False) (inK 0 (fun e H => kn H) (fun _ _ _ => False)) (retK T Tryd.f26.results.toList Q) (fun c H => Q (.panicked c) H))
theorem cL26_3 (env : Env) (H : Heap) (kn : Heap → Prop) (Q : Ending → Heap → Prop) (h : L26_3 (env 0) (env 5) (env 6) H kn Q) :
    RCode Tryd.prog 16 (codeAt [1, 0, 1] (bodyOf Tryd.f26)) env H (mkK (fun e H => kn H) (fun _ _ _ => False) (retK T Tryd.f26.results.toList Q) (fun c H => Q (.panicked c) H)) :=
  RCode.blk (by kernel_rfl : (codeAt [1, 0, 1] (bodyOf Tryd.f26)) = .block 0 (codeAt [1, 0, 1, 0] (bodyOf Tryd.f26))) (RCode.lp (by kernel_rfl : (codeAt [1, 0, 1, 0] (bodyOf Tryd.f26)) = .loop (codeAt [1, 0, 1, 0, 0] (bodyOf Tryd.f26))) ((h env rfl rfl rfl).mono (mkK_mono (fun _ _ h => h.elim) (fun _ _ _ h => h) (fun _ _ h => h) (fun _ _ h => h))))
def m26_4 (x0 x5 x6 : Value) (H : Heap) (kn : Value → Value → Value → Heap → Prop) (kx0 : Heap → Prop) (Q : Ending → Heap → Prop) : Prop :=
oV (vInt .lss x6 (.int .i64 7)) fun t7_1 =>
condK t7_1 (
oV (vIndexA false 7 1 x5 x6) fun t8_2 =>
oV (vInt .shl (.int .u64 1) t8_2) fun t11_3 =>
oV (vInt .sub t11_3 (.int .u64 1)) fun t12_4 =>
oV (vInt .eql x0 t12_4) fun t13_5 =>
condK t13_5 (
Q (.returned t8_2) H) (
oV (vInt .add x6 (.int .i64 1)) fun t15_6 =>
kn x0 x5 t15_6 H)) (
kx0 H)
theorem c26_4 (env : Env) (H : Heap) (kn : Value → Value → Value → Heap → Prop) (kx0 : Heap → Prop) (Q : Ending → Heap → Prop) (h : m26_4 (env 0) (env 5) (env 6) H kn kx0 Q) :
    RCode Tryd.prog 16 (codeAt [1, 0, 1, 0, 0] (bodyOf Tryd.f26)) env H (mkK (fun e H => kn (e 0) (e 5) (e 6) H) (inK 0 (fun e H => kx0 H) (fun _ _ _ => False)) (retK T Tryd.f26.results.toList Q) (fun c H => Q (.panicked c) H)) :=
  RCode.leaf_ (T := T) (X := ext) (hint := hint26) tok xok mixed (by kernel_rfl) h
theorem L26_3_round (x0 x5 x6 : Value) (H : Heap) (kn : Heap → Prop) (Q : Ending → Heap → Prop) (h : m26_4 x0 x5 x6 H (fun y0 y5 y6 H => L26_3 y0 y5 y6 H kn Q) kn Q) : L26_3 x0 x5 x6 H kn Q := by
  intro env h0 h5 h6
  subst h0; subst h5; subst h6
  exact RLoop.round ((c26_4 env H (fun y0 y5 y6 H => L26_3 y0 y5 y6 H kn Q) kn Q h).mono (mkK_mono (fun e H h => h e rfl rfl rfl) (fun _ _ _ h => h) (fun _ _ h => h) (fun _ _ h => h)))
def m26_2 (x0 : Value) (H : Heap) (kn : Heap → Prop) (Q : Ending → Heap → Prop) : Prop :=
oV (vLoad ty63 (.pointer (some ⟨1, 0, none⟩)) H) fun t5_7 =>
L26_3 x0 t5_7 (.int .i64 0) H kn Q
theorem c26_2 (env : Env) (H : Heap) (kn : Heap → Prop) (Q : Ending → Heap → Prop) (h : m26_2 (env 0) H kn Q) :
    RCode Tryd.prog 16 (codeAt [1, 0] (bodyOf Tryd.f26)) env H (mkK (fun e H => kn H) (fun _ _ _ => False) (retK T Tryd.f26.results.toList Q) (fun c H => Q (.panicked c) H)) :=
  RCode.prefix_ (T := T) (X := ext) (hint := hint26) (hole := (fun e H => L26_3 (e 0) (e 5) (e 6) H kn Q)) tok xok mixed 1 (by kernel_rfl) (by kernel_rfl : codeAt _ _ = (codeAt [1, 0, 1] (bodyOf Tryd.f26))) h
    (fun e H h => (cL26_3 e H kn Q h))
def m26 (x0 : Value) (H : Heap) (Q : Ending → Heap → Prop) : Prop :=
m26_2 x0 H (fun H_8 => m26_1 H_8 Q) Q
theorem c26_0 (env : Env) (H : Heap) (Q : Ending → Heap → Prop) (h : m26 (env 0) H Q) :
    RCode Tryd.prog 16 (bodyOf Tryd.f26) env H (mkK (retK T Tryd.f26.results.toList Q) (fun _ _ _ => False) (retK T Tryd.f26.results.toList Q) (fun c H => Q (.panicked c) H)) :=
  RCode.prefix_ (T := T) (X := ext) (hint := hint26) (hole := (fun e H => m26_2 (e 0) H (fun H_9 => m26_1 H_9 Q) Q)) tok xok mixed 1 (by kernel_rfl) (by kernel_rfl : codeAt _ _ = (codeAt [1] (bodyOf Tryd.f26))) h
    (fun e H h => RCode.join (by kernel_rfl : (codeAt [1] (bodyOf Tryd.f26)) = .seq (codeAt [1, 0] (bodyOf Tryd.f26)) (codeAt [1, 1] (bodyOf Tryd.f26))) ((c26_2 e H (fun H_10 => m26_1 H_10 Q) Q h).mono (mkK_mono (fun e H h => c26_1 e H Q h) (fun _ _ _ h => h) (fun _ _ h => h) (fun _ _ h => h))))
theorem call26 (a0 : Value) (H : Heap) (Q : Ending → Heap → Prop) (h : m26 a0 H Q) : RCalls Tryd.prog 26 [a0] H Q :=
  RCalls.intro (nt := 16) tok Tryd.func26 (by kernel_rfl) (by kernel_rfl) (by kernel_rfl) (of_decide_eq_true (by kernel_rfl)) (c26_0 (envOf [a0]) H Q h)
/-! ### 19: privity/field.Supported -/
def hint19 : Nat → List Nat := lookupL []
def m19 (x0 : Value) (H : Heap) (Q : Ending → Heap → Prop) : Prop :=
oRC Tryd.prog 26 [x0] H (fun c H => Q (.panicked c) H) fun v_1 H_2 =>
oV (vInt .neq v_1 (.int .i64 0)) fun t5_3 =>
Q (.returned t5_3) H_2
theorem c19_0 (env : Env) (H : Heap) (Q : Ending → Heap → Prop) (h : m19 (env 0) H Q) :
    RCode Tryd.prog 6 (bodyOf Tryd.f19) env H (mkK (retK T Tryd.f19.results.toList Q) (fun _ _ _ => False) (retK T Tryd.f19.results.toList Q) (fun c H => Q (.panicked c) H)) :=
  RCode.leaf_ (T := T) (X := ext) (hint := hint19) tok xok mixed (by kernel_rfl) h
theorem call19 (a0 : Value) (H : Heap) (Q : Ending → Heap → Prop) (h : m19 a0 H Q) : RCalls Tryd.prog 19 [a0] H Q :=
  RCalls.intro (nt := 6) tok Tryd.func19 (by kernel_rfl) (by kernel_rfl) (by kernel_rfl) (of_decide_eq_true (by kernel_rfl)) (c19_0 (envOf [a0]) H Q h)
/-! ### 27: privity/circuit.of -/
def hint27 : Nat → List Nat := lookupL []
def m27_1 (x2 : Value) (H : Heap) (Q : Ending → Heap → Prop) : Prop :=
oV (vBuild ty58 []) fun t30_1 =>
oHeap (vStore ty58 x2 t30_1 H) fun H_2 =>
retM ((vLoad ty58 x2 H_2).bind fun v => ((some []).map ((.bool false) :: ·)).map (v :: ·)) Q H_2
theorem c27_1 (env : Env) (H : Heap) (Q : Ending → Heap → Prop) (h : m27_1 (env 2) H Q) :
    RCode Tryd.prog 31 (codeAt [1, 1] (bodyOf Tryd.f27)) env H (mkK (retK T Tryd.f27.results.toList Q) (fun _ _ _ => False) (retK T Tryd.f27.results.toList Q) (fun c H => Q (.panicked c) H)) :=
  RCode.leaf_ (T := T) (X := ext) (hint := hint27) tok xok mixed (by kernel_rfl) h
def L27_3 (x1 x2 x6 x7 : Value) (H : Heap) (kn : Value → Heap → Prop) (Q : Ending → Heap → Prop) : Prop :=
  ∀ env : Env, env 1 = x1 → env 2 = x2 → env 6 = x6 → env 7 = x7 → RLoop Tryd.prog 31 (codeAt [1, 0, 1, 0, 0] (bodyOf Tryd.f27)) env H (mkK (fun _ _ => False) (inK 0 (fun e H => kn (e 2) H) (fun _ _ _ => False)) (retK T Tryd.f27.results.toList Q) (fun c H => Q (.panicked c) H))
theorem cL27_3 (env : Env) (H : Heap) (kn : Value → Heap → Prop) (Q : Ending → Heap → Prop) (h : L27_3 (env 1) (env 2) (env 6) (env 7) H kn Q) :
    RCode Tryd.prog 31 (codeAt [1, 0, 1] (bodyOf Tryd.f27)) env H (mkK (fun e H => kn (e 2) H) (fun _ _ _ => False) (retK T Tryd.f27.results.toList Q) (fun c H => Q (.panicked c) H)) :=
  RCode.blk (by kernel_rfl : (codeAt [1, 0, 1] (bodyOf Tryd.f27)) = .block 0 (codeAt [1, 0, 1, 0] (bodyOf Tryd.f27))) (RCode.lp (by kernel_rfl : (codeAt [1, 0, 1, 0] (bodyOf Tryd.f27)) = .loop (codeAt [1, 0, 1, 0, 0] (bodyOf Tryd.f27))) ((h env rfl rfl rfl rfl).mono (mkK_mono (fun _ _ h => h.elim) (fun _ _ _ h => h) (fun _ _ h => h) (fun _ _ h => h))))
def m27_4 (x1 x2 x6 x7 : Value) (H : Heap) (kn : Value → Value → Value → Value → Heap → Prop) (kx0 : Value → Heap → Prop) (Q : Ending → Heap → Prop) : Prop :=
oV (vInt .lss x7 (.int .i64 7)) fun t8_3 =>
condK t8_3 (
oV (vIndexA true 7 7 x6 x7) fun t9_4 =>
oNew (Value.cells ty58.zero).toList (Value.cells ty58.zero).toList.length 58 H fun i_5 H_6 =>
oHeap (vStore ty58 (ptrTo i_5) t9_4 H_6) fun H_7 =>
oV (vField 1 (ptrTo i_5)) fun t10_8 =>
oV (vLoad ty3 t10_8 H_7) fun t11_9 =>
oV (vField 0 x1) fun t12_10 =>
oV (vLoad ty3 t12_10 H_7) fun t13_11 =>
oV (vInt .eql t11_9 t13_11) fun t14_12 =>
oV (gV t14_12 true (vField 6 (ptrTo i_5)) (some undef)) fun t16_13 =>
oV (gV t14_12 true (vLoad ty4 t16_13 H_7) (some undef)) fun t17_14 =>
oV (gV t14_12 true (vField 0 x1) (some undef)) fun t18_15 =>
oV (gV t14_12 true (vLoad ty3 t18_15 H_7) (some undef)) fun t19_16 =>
oV (gV t14_12 true (vInt .eql t19_16 (.int .i64 1)) (some undef)) fun t20_17 =>
oV (gV t14_12 true (some t20_17) (some undef)) fun t21_18 =>
oV (gV t21_18 true (vField 4 x1) (some undef)) fun t22_19 =>
oV (gV t21_18 true (vLoad ty22 t22_19 H_7) (some undef)) fun t23_20 =>
oV (gV t21_18 true (vInt .eql t23_20 (.int .u64 1)) (some undef)) fun t24_21 =>
oV (gV t14_12 true (vPick t21_18 t24_21 (.bool false)) (some undef)) fun t25_22 =>
oV (gV t14_12 true (vBoolOp .eql t17_14 t25_22) (some undef)) fun t26_23 =>
oV (vPick t14_12 t26_23 (.bool false)) fun t27_24 =>
condK t27_24 (
oV (vLoad ty58 (ptrTo i_5) H_7) fun t28_25 =>
oHeap (vStore ty58 x2 t28_25 H_7) fun H_26 =>
retM ((vLoad ty58 x2 H_26).bind fun v => ((some []).map ((.bool true) :: ·)).map (v :: ·)) Q H_26) (
oV (vInt .add x7 (.int .i64 1)) fun t29_27 =>
kn x1 x2 x6 t29_27 H_7)) (
kx0 x2 H)
theorem c27_4 (env : Env) (H : Heap) (kn : Value → Value → Value → Value → Heap → Prop) (kx0 : Value → Heap → Prop) (Q : Ending → Heap → Prop) (h : m27_4 (env 1) (env 2) (env 6) (env 7) H kn kx0 Q) :
    RCode Tryd.prog 31 (codeAt [1, 0, 1, 0, 0] (bodyOf Tryd.f27)) env H (mkK (fun e H => kn (e 1) (e 2) (e 6) (e 7) H) (inK 0 (fun e H => kx0 (e 2) H) (fun _ _ _ => False)) (retK T Tryd.f27.results.toList Q) (fun c H => Q (.panicked c) H)) :=
  RCode.leaf_ (T := T) (X := ext) (hint := hint27) tok xok mixed (by kernel_rfl) h
theorem L27_3_round (x1 x2 x6 x7 : Value) (H : Heap) (kn : Value → Heap → Prop) (Q : Ending → Heap → Prop) (h : m27_4 x1 x2 x6 x7 H (fun y1 y2 y6 y7 H => L27_3 y1 y2 y6 y7 H kn Q) kn Q) : L27_3 x1 x2 x6 x7 H kn Q := by
  intro env h1 h2 h6 h7
  subst h1; subst h2; subst h6; subst h7
  exact RLoop.round ((c27_4 env H (fun y1 y2 y6 y7 H => L27_3 y1 y2 y6 y7 H kn Q) kn Q h).mono (mkK_mono (fun e H h => h e rfl rfl rfl rfl) (fun _ _ _ h => h) (fun _ _ h => h) (fun _ _ h => h)))
def m27_2 (x1 x2 : Value) (H : Heap) (kn : Value → Heap → Prop) (Q : Ending → Heap → Prop) : Prop :=
oV (vLoad ty64 (.pointer (some ⟨2, 0, none⟩)) H) fun t6_28 =>
L27_3 x1 x2 t6_28 (.int .i64 0) H kn Q
theorem c27_2 (env : Env) (H : Heap) (kn : Value → Heap → Prop) (Q : Ending → Heap → Prop) (h : m27_2 (env 1) (env 2) H kn Q) :
    RCode Tryd.prog 31 (codeAt [1, 0] (bodyOf Tryd.f27)) env H (mkK (fun e H => kn (e 2) H) (fun _ _ _ => False) (retK T Tryd.f27.results.toList Q) (fun c H => Q (.panicked c) H)) :=
  RCode.prefix_ (T := T) (X := ext) (hint := hint27) (hole := (fun e H => L27_3 (e 1) (e 2) (e 6) (e 7) H kn Q)) tok xok mixed 1 (by kernel_rfl) (by kernel_rfl : codeAt _ _ = (codeAt [1, 0, 1] (bodyOf Tryd.f27))) h
    (fun e H h => (cL27_3 e H kn Q h))
def m27 (x0 : Value) (H : Heap) (Q : Ending → Heap → Prop) : Prop :=
oNew (Value.cells x0).toList (Value.cells x0).toList.length 37 H fun i_29 H_30 =>
oNew (Value.cells ty58.zero).toList (Value.cells ty58.zero).toList.length 58 H_30 fun i_31 H_32 =>
m27_2 (ptrTo i_29) (ptrTo i_31) H_32 (fun y2_33 H_34 => m27_1 y2_33 H_34 Q) Q
theorem c27_0 (env : Env) (H : Heap) (Q : Ending → Heap → Prop) (h : m27 (env 0) H Q) :
    RCode Tryd.prog 31 (bodyOf Tryd.f27) env H (mkK (retK T Tryd.f27.results.toList Q) (fun _ _ _ => False) (retK T Tryd.f27.results.toList Q) (fun c H => Q (.panicked c) H)) :=
  RCode.prefix_ (T := T) (X := ext) (hint := hint27) (hole := (fun e H => m27_2 (e 1) (e 2) H (fun y2_35 H_36 => m27_1 y2_35 H_36 Q) Q)) tok xok mixed 1 (by kernel_rfl) (by kernel_rfl : codeAt _ _ = (codeAt [1] (bodyOf Tryd.f27))) h
    (fun e H h => RCode.join (by kernel_rfl : (codeAt [1] (bodyOf Tryd.f27)) = .seq (codeAt [1, 0] (bodyOf Tryd.f27)) (codeAt [1, 1] (bodyOf Tryd.f27))) ((c27_2 e H (fun y2_37 H_38 => m27_1 y2_37 H_38 Q) Q h).mono (mkK_mono (fun e H h => c27_1 e H Q h) (fun _ _ _ h => h) (fun _ _ h => h) (fun _ _ h => h))))
theorem call27 (a0 : Value) (H : Heap) (Q : Ending → Heap → Prop) (h : m27 a0 H Q) : RCalls Tryd.prog 27 [a0] H Q :=
  RCalls.intro (nt := 31) tok Tryd.func27 (by kernel_rfl) (by kernel_rfl) (by kernel_rfl) (of_decide_eq_true (by kernel_rfl)) (c27_0 (envOf [a0]) H Q h)
/-! ### 28: privity/circuit.right$1 -/
def hint28 : Nat → List Nat := lookupL []
def m28 (x0 x1 x2 : Value) (H : Heap) (Q : Ending → Heap → Prop) : Prop :=
oV (vUn .not x0) fun t7_1 =>
oV (gV t7_1 true (some x1) (some undef)) fun t9_2 =>
oV (gV t7_1 true (vInt .eql t9_2 (.int .i64 0)) (some undef)) fun t10_3 =>
oV (vPick t7_1 t10_3 (.bool false)) fun t11_4 =>
oV (gV t11_4 false (some x0) (some undef)) fun t13_5 =>
oV (gV t11_4 false (some t13_5) (some undef)) fun t14_6 =>
oV (gV t14_6 true (some x1) (some undef)) fun t15_7 =>
oV (gV t14_6 true (vInt .geq t15_7 (.int .i64 0)) (some undef)) fun t16_8 =>
oV (gV t11_4 false (vPick t14_6 t16_8 (.bool false)) (some undef)) fun t17_9 =>
oV (gV t11_4 false (some t17_9) (some undef)) fun t18_10 =>
oV (gV t18_10 true (some x1) (some undef)) fun t19_11 =>
oV (gV t18_10 true (vLoad ty3 x2 H) (some undef)) fun t20_12 =>
oV (gV t18_10 true (vInt .lss t19_11 t20_12) (some undef)) fun t21_13 =>
oV (gV t11_4 false (vPick t18_10 t21_13 (.bool false)) (some undef)) fun t22_14 =>
oV (vPick t11_4 (.bool true) t22_14) fun t23_15 =>
Q (.returned t23_15) H
theorem c28_0 (env : Env) (H : Heap) (Q : Ending → Heap → Prop) (h : m28 (env 0) (env 1) (env 2) H Q) :
    RCode Tryd.prog 24 (bodyOf Tryd.f28) env H (mkK (retK T Tryd.f28.results.toList Q) (fun _ _ _ => False) (retK T Tryd.f28.results.toList Q) (fun c H => Q (.panicked c) H)) :=
  RCode.leaf_ (T := T) (X := ext) (hint := hint28) tok xok mixed (by kernel_rfl) h
theorem call28 (a0 a1 a2 : Value) (H : Heap) (Q : Ending → Heap → Prop) (h : m28 a0 a1 a2 H Q) : RCalls Tryd.prog 28 [a0, a1, a2] H Q :=
  RCalls.intro (nt := 24) tok Tryd.func28 (by kernel_rfl) (by kernel_rfl) (by kernel_rfl) (of_decide_eq_true (by kernel_rfl)) (c28_0 (envOf [a0, a1, a2]) H Q h)
/-! ### 20: privity/circuit.right -/
def hint20 : Nat → List Nat := lookupL []
def m20 (x0 x1 x2 : Value) (H : Heap) (Q : Ending → Heap → Prop) : Prop :=
oNew (Value.cells x1).toList (Value.cells x1).toList.length 37 H fun i_1 H_2 =>
oNew (Value.cells x2).toList (Value.cells x2).toList.length 3 H_2 fun i_3 H_4 =>
oV (vLoad ty37 (ptrTo i_1) H_4) fun t13_5 =>
oRC Tryd.prog 27 [t13_5] H_4 (fun c H => Q (.panicked c) H) fun v_6 H_7 =>
oV (vExtract v_6 0) fun t15_8 =>
oV (vExtract v_6 1) fun t16_9 =>
oNew (Value.cells ty58.zero).toList (Value.cells ty58.zero).toList.length 58 H_7 fun i_10 H_11 =>
oHeap (vStore ty58 (ptrTo i_10) t15_8 H_11) fun H_12 =>
oV (vUn .not t16_9) fun t18_13 =>
condK t18_13 (
Q (.returned (.bool false)) H_12) (
oV (vField 2 (ptrTo i_10)) fun t19_14 =>
oV (vLoad ty4 t19_14 H_12) fun t20_15 =>
oV (vUn .not t20_15) fun t21_16 =>
oV (gV t21_16 true (vField 1 (ptrTo i_1)) (some undef)) fun t23_17 =>
oV (gV t21_16 true (vLoad ty3 t23_17 H_12) (some undef)) fun t24_18 =>
oV (gV t21_16 true (vInt .eql t24_18 (.int .i64 0)) (some undef)) fun t25_19 =>
oV (vPick t21_16 t25_19 (.bool false)) fun t26_20 =>
oV (gV t26_20 false (vField 2 (ptrTo i_10)) (some undef)) fun t28_21 =>
oV (gV t26_20 false (vLoad ty4 t28_21 H_12) (some undef)) fun t29_22 =>
oV (gV t26_20 false (some t29_22) (some undef)) fun t30_23 =>
oV (gV t30_23 true (vField 1 (ptrTo i_1)) (some undef)) fun t31_24 =>
oV (gV t30_23 true (vLoad ty3 t31_24 H_12) (some undef)) fun t32_25 =>
oV (gV t30_23 true (vInt .geq t32_25 (.int .i64 1)) (some undef)) fun t33_26 =>
oV (gV t26_20 false (vPick t30_23 t33_26 (.bool false)) (some undef)) fun t34_27 =>
oV (gV t26_20 false (some t34_27) (some undef)) fun t35_28 =>
oV (gV t35_28 true (vField 1 (ptrTo i_1)) (some undef)) fun t36_29 =>
oV (gV t35_28 true (vLoad ty3 t36_29 H_12) (some undef)) fun t37_30 =>
oV (gV t35_28 true (vInt .leq t37_30 (.int .i64 13)) (some undef)) fun t38_31 =>
oV (gV t26_20 false (vPick t35_28 t38_31 (.bool false)) (some undef)) fun t39_32 =>
oV (vPick t26_20 (.bool true) t39_32) fun t40_33 =>
oV (vField 3 (ptrTo i_10)) fun t41_34 =>
oV (vLoad ty4 t41_34 H_12) fun t42_35 =>
oV (vUn .not t42_35) fun t43_36 =>
oV (gV t43_36 true (vField 4 (ptrTo i_1)) (some undef)) fun t45_37 =>
oV (gV t43_36 true (vLoad ty22 t45_37 H_12) (some undef)) fun t46_38 =>
oV (gV t43_36 true (vInt .eql t46_38 (.int .u64 0)) (some undef)) fun t47_39 =>
oV (gV t43_36 true (some t47_39) (some undef)) fun t48_40 =>
oV (gV t48_40 false (vField 6 (ptrTo i_10)) (some undef)) fun t49_41 =>
oV (gV t48_40 false (vLoad ty4 t49_41 H_12) (some undef)) fun t50_42 =>
oV (gV t43_36 true (vPick t48_40 (.bool true) t50_42) (some undef)) fun t51_43 =>
oV (vPick t43_36 t51_43 (.bool false)) fun t52_44 =>
oV (gV t52_44 false (vField 3 (ptrTo i_10)) (some undef)) fun t54_45 =>
oV (gV t52_44 false (vLoad ty4 t54_45 H_12) (some undef)) fun t55_46 =>
oV (gV t52_44 false (some t55_46) (some undef)) fun t56_47 =>
oV (gV t56_47 true (vField 4 (ptrTo i_1)) (some undef)) fun t57_48 =>
oV (gV t56_47 true (vLoad ty22 t57_48 H_12) (some undef)) fun t58_49 =>
oV (gV t56_47 true (some x0) (some undef)) fun t59_50 =>
oV (gV t56_47 true (vInt .lss t58_49 t59_50) (some undef)) fun t60_51 =>
oV (gV t52_44 false (vPick t56_47 t60_51 (.bool false)) (some undef)) fun t61_52 =>
oV (vPick t52_44 (.bool true) t61_52) fun t62_53 =>
oV (gV t40_33 true (some t62_53) (some undef)) fun t66_54 =>
oV (vPick t40_33 t66_54 (.bool false)) fun t67_55 =>
oV (gV t67_55 true (some (.func (.func 28) #[] #[(ptrTo i_3)])) (some undef)) fun t69_56 =>
oV (gV t67_55 true (vField 4 (ptrTo i_10)) (some undef)) fun t70_57 =>
oV (gV t67_55 true (vLoad ty4 t70_57 H_12) (some undef)) fun t71_58 =>
oV (gV t67_55 true (vField 2 (ptrTo i_1)) (some undef)) fun t72_59 =>
oV (gV t67_55 true (vLoad ty3 t72_59 H_12) (some undef)) fun t73_60 =>
letK (fun t74_62 H_63 =>
oV (vPick t67_55 t74_62 (.bool false)) fun t75_64 =>
oV (gV t75_64 true (some (.func (.func 28) #[] #[(ptrTo i_3)])) (some undef)) fun t77_65 =>
oV (gV t75_64 true (vField 5 (ptrTo i_10)) (some undef)) fun t78_66 =>
oV (gV t75_64 true (vLoad ty4 t78_66 H_63) (some undef)) fun t79_67 =>
oV (gV t75_64 true (vField 3 (ptrTo i_1)) (some undef)) fun t80_68 =>
oV (gV t75_64 true (vLoad ty3 t80_68 H_63) (some undef)) fun t81_69 =>
letK (fun t82_71 H_72 =>
oV (vPick t75_64 t82_71 (.bool false)) fun t83_73 =>
Q (.returned t83_73) H_72) fun k_70 => gK t75_64 true (oCl ext Tryd.prog t77_65 [t79_67, t81_69] H_63 (fun c H => Q (.panicked c) H) fun v_74 H_75 =>
k_70 v_74 H_75) (k_70 undef H_63)) fun k_61 => gK t67_55 true (oCl ext Tryd.prog t69_56 [t71_58, t73_60] H_12 (fun c H => Q (.panicked c) H) fun v_76 H_77 =>
k_61 v_76 H_77) (k_61 undef H_12))
theorem c20_0 (env : Env) (H : Heap) (Q : Ending → Heap → Prop) (h : m20 (env 0) (env 1) (env 2) H Q) :
    RCode Tryd.prog 84 (bodyOf Tryd.f20) env H (mkK (retK T Tryd.f20.results.toList Q) (fun _ _ _ => False) (retK T Tryd.f20.results.toList Q) (fun c H => Q (.panicked c) H)) :=
  RCode.leaf_ (T := T) (X := ext) (hint := hint20) tok xok mixed (by kernel_rfl) h
theorem call20 (a0 a1 a2 : Value) (H : Heap) (Q : Ending → Heap → Prop) (h : m20 a0 a1 a2 H Q) : RCalls Tryd.prog 20 [a0, a1, a2] H Q :=
  RCalls.intro (nt := 84) tok Tryd.func20 (by kernel_rfl) (by kernel_rfl) (by kernel_rfl) (of_decide_eq_true (by kernel_rfl)) (c20_0 (envOf [a0, a1, a2]) H Q h)
/-! ### 22: privity/circuit.Valid$1 -/
def hint22 : Nat → List Nat := lookupL []
def m22 (x0 x1 : Value) (H : Heap) (Q : Ending → Heap → Prop) : Prop :=
oV (vInt .lss x0 (.int .i64 0)) fun t5_1 =>
oV (gV t5_1 false (some x0) (some undef)) fun t7_2 =>
oV (gV t5_1 false (vField 1 x1) (some undef)) fun t8_3 =>
oV (gV t5_1 false (vLoad ty23 t8_3 H) (some undef)) fun t9_4 =>
oV (gV t5_1 false (vLen t9_4) (some undef)) fun t10_5 =>
oV (gV t5_1 false (vInt .geq t7_2 t10_5) (some undef)) fun t11_6 =>
oV (vPick t5_1 (.bool true) t11_6) fun t12_7 =>
Q (.returned t12_7) H
theorem c22_0 (env : Env) (H : Heap) (Q : Ending → Heap → Prop) (h : m22 (env 0) (env 1) H Q) :
    RCode Tryd.prog 13 (bodyOf Tryd.f22) env H (mkK (retK T Tryd.f22.results.toList Q) (fun _ _ _ => False) (retK T Tryd.f22.results.toList Q) (fun c H => Q (.panicked c) H)) :=
  RCode.leaf_ (T := T) (X := ext) (hint := hint22) tok xok mixed (by kernel_rfl) h
theorem call22 (a0 a1 : Value) (H : Heap) (Q : Ending → Heap → Prop) (h : m22 a0 a1 H Q) : RCalls Tryd.prog 22 [a0, a1] H Q :=
  RCalls.intro (nt := 13) tok Tryd.func22 (by kernel_rfl) (by kernel_rfl) (by kernel_rfl) (of_decide_eq_true (by kernel_rfl)) (c22_0 (envOf [a0, a1]) H Q h)
/-! ### 29: slices.IndexFunc[[]int,int] -/
def hint29 : Nat → List Nat := lookupL []
def m29_1 (H : Heap) (Q : Ending → Heap → Prop) : Prop :=
Q (.returned (.int .i64 (-1))) H
theorem c29_1 (env : Env) (H : Heap) (Q : Ending → Heap → Prop) (h : m29_1 H Q) :
    RCode Tryd.prog 19 (codeAt [1, 1] (bodyOf Tryd.f29)) env H (mkK (retK T Tryd.f29.results.toList Q) (fun _ _ _ => False) (retK T Tryd.f29.results.toList Q) (fun c H => Q (.panicked c) H)) :=
  RCode.leaf_ (T := T) (X := ext) (hint := hint29) tok xok mixed (by kernel_rfl) h
def L29_3 (x0 x1 x7 x8 : Value) (H : Heap) (kn : Heap → Prop) (Q : Ending → Heap → Prop) : Prop :=
  ∀ env : Env, env 0 = x0 → env 1 = x1 → env 7 = x7 → env 8 = x8 → RLoop Tryd.prog 19 (codeAt [1, 0, 1, 0, 0] (bodyOf Tryd.f29)) env H (mkK (fun _ _ => False) (inK 0 (fun e H => kn H) (fun _ _ _ => False)) (retK T Tryd.f29.results.toList Q) (fun c H => Q (.panicked c) H))
theorem cL29_3 (env : Env) (H : Heap) (kn : Heap → Prop) (Q : Ending → Heap → Prop) (h : L29_3 (env 0) (env 1) (env 7) (env 8) H kn Q) :
    RCode Tryd.prog 19 (codeAt [1, 0, 1] (bodyOf Tryd.f29)) env H (mkK (fun e H => kn H) (fun _ _ _ => False) (retK T Tryd.f29.results.toList Q) (fun c H => Q (.panicked c) H)) :=
  RCode.blk (by kernel_rfl : (codeAt [1, 0, 1] (bodyOf Tryd.f29)) = .block 0 (codeAt [1, 0, 1, 0] (bodyOf Tryd.f29))) (RCode.lp (by kernel_rfl : (codeAt [1, 0, 1, 0] (bodyOf Tryd.f29)) = .loop (codeAt [1, 0, 1, 0, 0] (bodyOf Tryd.f29))) ((h env rfl rfl rfl rfl).mono (mkK_mono (fun _ _ h => h.elim) (fun _ _ _ h => h) (fun _ _ h => h) (fun _ _ h => h))))
def m29_4 (x0 x1 x7 x8 : Value) (H : Heap) (kn : Value → Value → Value → Value → Heap → Prop) (kx0 : Heap → Prop) (Q : Ending → Heap → Prop) : Prop :=
oV (vInt .lss x8 x7) fun t9_1 =>
condK t9_1 (
oV (vIdxS 1 x0 x8) fun t14_2 =>
oV (vLoad ty3 t14_2 H) fun t15_3 =>
oCl ext Tryd.prog x1 [t15_3] H (fun c H => Q (.panicked c) H) fun v_4 H_5 =>
condK v_4 (
Q (.returned x8) H_5) (
oV (vInt .add x8 (.int .i64 1)) fun t18_6 =>
kn x0 x1 x7 t18_6 H_5)) (
kx0 H)
theorem c29_4 (env : Env) (H : Heap) (kn : Value → Value → Value → Value → Heap → Prop) (kx0 : Heap → Prop) (Q : Ending → Heap → Prop) (h : m29_4 (env 0) (env 1) (env 7) (env 8) H kn kx0 Q) :
    RCode Tryd.prog 19 (codeAt [1, 0, 1, 0, 0] (bodyOf Tryd.f29)) env H (mkK (fun e H => kn (e 0) (e 1) (e 7) (e 8) H) (inK 0 (fun e H => kx0 H) (fun _ _ _ => False)) (retK T Tryd.f29.results.toList Q) (fun c H => Q (.panicked c) H)) :=
  RCode.leaf_ (T := T) (X := ext) (hint := hint29) tok xok mixed (by kernel_rfl) h
theorem L29_3_round (x0 x1 x7 x8 : Value) (H : Heap) (kn : Heap → Prop) (Q : Ending → Heap → Prop) (h : m29_4 x0 x1 x7 x8 H (fun y0 y1 y7 y8 H => L29_3 y0 y1 y7 y8 H kn Q) kn Q) : L29_3 x0 x1 x7 x8 H kn Q := by
  intro env h0 h1 h7 h8
  subst h0; subst h1; subst h7; subst h8
  exact RLoop.round ((c29_4 env H (fun y0 y1 y7 y8 H => L29_3 y0 y1 y7 y8 H kn Q) kn Q h).mono (mkK_mono (fun e H h => h e rfl rfl rfl rfl) (fun _ _ _ h => h) (fun _ _ h => h) (fun _ _ h => h)))
def m29_2 (x0 x1 : Value) (H : Heap) (kn : Heap → Prop) (Q : Ending → Heap → Prop) : Prop :=
oV (vLen x0) fun t7_7 =>
L29_3 x0 x1 t7_7 (.int .i64 0) H kn Q
theorem c29_2 (env : Env) (H : Heap) (kn : Heap → Prop) (Q : Ending → Heap → Prop) (h : m29_2 (env 0) (env 1) H kn Q) :
    RCode Tryd.prog 19 (codeAt [1, 0] (bodyOf Tryd.f29)) env H (mkK (fun e H => kn H) (fun _ _ _ => False) (retK T Tryd.f29.results.toList Q) (fun c H => Q (.panicked c) H)) :=
  RCode.prefix_ (T := T) (X := ext) (hint := hint29) (hole := (fun e H => L29_3 (e 0) (e 1) (e 7) (e 8) H kn Q)) tok xok mixed 1 (by kernel_rfl) (by kernel_rfl : codeAt _ _ = (codeAt [1, 0, 1] (bodyOf Tryd.f29))) h
    (fun e H h => (cL29_3 e H kn Q h))
def m29 (x0 x1 : Value) (H : Heap) (Q : Ending → Heap → Prop) : Prop :=
m29_2 x0 x1 H (fun H_8 => m29_1 H_8 Q) Q
theorem c29_0 (env : Env) (H : Heap) (Q : Ending → Heap → Prop) (h : m29 (env 0) (env 1) H Q) :
    RCode Tryd.prog 19 (bodyOf Tryd.f29) env H (mkK (retK T Tryd.f29.results.toList Q) (fun _ _ _ => False) (retK T Tryd.f29.results.toList Q) (fun c H => Q (.panicked c) H)) :=
  RCode.prefix_ (T := T) (X := ext) (hint := hint29) (hole := (fun e H => m29_2 (e 0) (e 1) H (fun H_9 => m29_1 H_9 Q) Q)) tok xok mixed 1 (by kernel_rfl) (by kernel_rfl : codeAt _ _ = (codeAt [1] (bodyOf Tryd.f29))) h
    (fun e H h => RCode.join (by kernel_rfl : (codeAt [1] (bodyOf Tryd.f29)) = .seq (codeAt [1, 0] (bodyOf Tryd.f29)) (codeAt [1, 1] (bodyOf Tryd.f29))) ((c29_2 e H (fun H_10 => m29_1 H_10 Q) Q h).mono (mkK_mono (fun e H h => c29_1 e H Q h) (fun _ _ _ h => h) (fun _ _ h => h) (fun _ _ h => h))))
theorem call29 (a0 a1 : Value) (H : Heap) (Q : Ending → Heap → Prop) (h : m29 a0 a1 H Q) : RCalls Tryd.prog 29 [a0, a1] H Q :=
  RCalls.intro (nt := 19) tok Tryd.func29 (by kernel_rfl) (by kernel_rfl) (by kernel_rfl) (of_decide_eq_true (by kernel_rfl)) (c29_0 (envOf [a0, a1]) H Q h)
/-! ### 21: slices.ContainsFunc[[]int,int] -/
def hint21 : Nat → List Nat := lookupL []
def m21 (x0 x1 : Value) (H : Heap) (Q : Ending → Heap → Prop) : Prop :=
oRC Tryd.prog 29 [x0, x1] H (fun c H => Q (.panicked c) H) fun v_1 H_2 =>
oV (vInt .geq v_1 (.int .i64 0)) fun t8_3 =>
Q (.returned t8_3) H_2
theorem c21_0 (env : Env) (H : Heap) (Q : Ending → Heap → Prop) (h : m21 (env 0) (env 1) H Q) :
    RCode Tryd.prog 9 (bodyOf Tryd.f21) env H (mkK (retK T Tryd.f21.results.toList Q) (fun _ _ _ => False) (retK T Tryd.f21.results.toList Q) (fun c H => Q (.panicked c) H)) :=
  RCode.leaf_ (T := T) (X := ext) (hint := hint21) tok xok mixed (by kernel_rfl) h
theorem call21 (a0 a1 : Value) (H : Heap) (Q : Ending → Heap → Prop) (h : m21 a0 a1 H Q) : RCalls Tryd.prog 21 [a0, a1] H Q :=
  RCalls.intro (nt := 9) tok Tryd.func21 (by kernel_rfl) (by kernel_rfl) (by kernel_rfl) (of_decide_eq_true (by kernel_rfl)) (c21_0 (envOf [a0, a1]) H Q h)
/-! ### 11: privity/circuit.Valid -/
def hint11 : Nat → List Nat := lookupL []
def m11_1 (x1 : Value) (H : Heap) (Q : Ending → Heap → Prop) : Prop :=
oV (vField 2 x1) fun t36_1 =>
oV (vLoad ty24 t36_1 H) fun t37_2 =>
oRC Tryd.prog 21 [t37_2, (.func (.func 22) #[] #[x1])] H (fun c H => Q (.panicked c) H) fun v_3 H_4 =>
oV (vUn .not v_3) fun t40_5 =>
Q (.returned t40_5) H_4
theorem c11_1 (env : Env) (H : Heap) (Q : Ending → Heap → Prop) (h : m11_1 (env 1) H Q) :
    RCode Tryd.prog 41 (codeAt [1, 1, 1] (bodyOf Tryd.f11)) env H (mkK (retK T Tryd.f11.results.toList Q) (fun _ _ _ => False) (retK T Tryd.f11.results.toList Q) (fun c H => Q (.panicked c) H)) :=
  RCode.leaf_ (T := T) (X := ext) (hint := hint11) tok xok mixed (by kernel_rfl) h
def L11_3 (x1 x22 x23 x24 : Value) (H : Heap) (kn : Value → Heap → Prop) (Q : Ending → Heap → Prop) : Prop :=
  ∀ env : Env, env 1 = x1 → env 22 = x22 → env 23 = x23 → env 24 = x24 → RLoop Tryd.prog 41 (codeAt [1, 1, 0, 1, 0, 0] (bodyOf Tryd.f11)) env H (mkK (fun _ _ => False) (inK 0 (fun e H => kn (e 1) H) (fun _ _ _ => False)) (retK T Tryd.f11.results.toList Q) (fun c H => Q (.panicked c) H))
theorem cL11_3 (env : Env) (H : Heap) (kn : Value → Heap → Prop) (Q : Ending → Heap → Prop) (h : L11_3 (env 1) (env 22) (env 23) (env 24) H kn Q) :
    RCode Tryd.prog 41 (codeAt [1, 1, 0, 1] (bodyOf Tryd.f11)) env H (mkK (fun e H => kn (e 1) H) (fun _ _ _ => False) (retK T Tryd.f11.results.toList Q) (fun c H => Q (.panicked c) H)) :=
  RCode.blk (by kernel_rfl : (codeAt [1, 1, 0, 1] (bodyOf Tryd.f11)) = .block 0 (codeAt [1, 1, 0, 1, 0] (bodyOf Tryd.f11))) (RCode.lp (by kernel_rfl : (codeAt [1, 1, 0, 1, 0] (bodyOf Tryd.f11)) = .loop (codeAt [1, 1, 0, 1, 0, 0] (bodyOf Tryd.f11))) ((h env rfl rfl rfl rfl).mono (mkK_mono (fun _ _ h => h.elim) (fun _ _ _ h => h) (fun _ _ h => h) (fun _ _ h => h))))
def m11_4 (x1 x22 x23 x24 : Value) (H : Heap) (kn : Value → Value → Value → Value → Heap → Prop) (kx0 : Value → Heap → Prop) (Q : Ending → Heap → Prop) : Prop :=
oV (vInt .lss x24 x23) fun t25_6 =>
condK t25_6 (
oV (vIdxS 5 x22 x24) fun t27_7 =>
oV (vLoad ty37 t27_7 H) fun t28_8 =>
oNew (Value.cells ty37.zero).toList (Value.cells ty37.zero).toList.length 37 H fun i_9 H_10 =>
oHeap (vStore ty37 (ptrTo i_9) t28_8 H_10) fun H_11 =>
oV (vField 0 x1) fun t29_12 =>
oV (vLoad ty22 t29_12 H_11) fun t30_13 =>
oV (vLoad ty37 (ptrTo i_9) H_11) fun t31_14 =>
oRC Tryd.prog 20 [t30_13, t31_14, x24] H_11 (fun c H => Q (.panicked c) H) fun v_15 H_16 =>
oV (vUn .not v_15) fun t34_17 =>
condK t34_17 (
Q (.returned (.bool false)) H_16) (
oV (vInt .add x24 (.int .i64 1)) fun t35_18 =>
kn x1 x22 x23 t35_18 H_16)) (
kx0 x1 H)
theorem c11_4 (env : Env) (H : Heap) (kn : Value → Value → Value → Value → Heap → Prop) (kx0 : Value → Heap → Prop) (Q : Ending → Heap → Prop) (h : m11_4 (env 1) (env 22) (env 23) (env 24) H kn kx0 Q) :
    RCode Tryd.prog 41 (codeAt [1, 1, 0, 1, 0, 0] (bodyOf Tryd.f11)) env H (mkK (fun e H => kn (e 1) (e 22) (e 23) (e 24) H) (inK 0 (fun e H => kx0 (e 1) H) (fun _ _ _ => False)) (retK T Tryd.f11.results.toList Q) (fun c H => Q (.panicked c) H)) :=
  RCode.leaf_ (T := T) (X := ext) (hint := hint11) tok xok mixed (by kernel_rfl) h
theorem L11_3_round (x1 x22 x23 x24 : Value) (H : Heap) (kn : Value → Heap → Prop) (Q : Ending → Heap → Prop) (h : m11_4 x1 x22 x23 x24 H (fun y1 y22 y23 y24 H => L11_3 y1 y22 y23 y24 H kn Q) kn Q) : L11_3 x1 x22 x23 x24 H kn Q := by
  intro env h1 h22 h23 h24
  subst h1; subst h22; subst h23; subst h24
  exact RLoop.round ((c11_4 env H (fun y1 y22 y23 y24 H => L11_3 y1 y22 y23 y24 H kn Q) kn Q h).mono (mkK_mono (fun e H h => h e rfl rfl rfl rfl) (fun _ _ _ h => h) (fun _ _ h => h) (fun _ _ h => h)))
def m11_2 (x1 : Value) (H : Heap) (kn : Value → Heap → Prop) (Q : Ending → Heap → Prop) : Prop :=
oV (vField 1 x1) fun t21_19 =>
oV (vLoad ty23 t21_19 H) fun t22_20 =>
oV (vLen t22_20) fun t23_21 =>
L11_3 x1 t22_20 t23_21 (.int .i64 0) H kn Q
theorem c11_2 (env : Env) (H : Heap) (kn : Value → Heap → Prop) (Q : Ending → Heap → Prop) (h : m11_2 (env 1) H kn Q) :
    RCode Tryd.prog 41 (codeAt [1, 1, 0] (bodyOf Tryd.f11)) env H (mkK (fun e H => kn (e 1) H) (fun _ _ _ => False) (retK T Tryd.f11.results.toList Q) (fun c H => Q (.panicked c) H)) :=
  RCode.prefix_ (T := T) (X := ext) (hint := hint11) (hole := (fun e H => L11_3 (e 1) (e 22) (e 23) (e 24) H kn Q)) tok xok mixed 1 (by kernel_rfl) (by kernel_rfl : codeAt _ _ = (codeAt [1, 1, 0, 1] (bodyOf Tryd.f11))) h
    (fun e H h => (cL11_3 e H kn Q h))
def m11 (x0 : Value) (H : Heap) (Q : Ending → Heap → Prop) : Prop :=
oNew (Value.cells x0).toList (Value.cells x0).toList.length 26 H fun i_22 H_23 =>
oV (vField 0 (ptrTo i_22)) fun t5_24 =>
oV (vLoad ty22 t5_24 H_23) fun t6_25 =>
oRC Tryd.prog 19 [t6_25] H_23 (fun c H => Q (.panicked c) H) fun v_26 H_27 =>
oV (vUn .not v_26) fun t8_28 =>
oV (gV t8_28 false (vField 1 (ptrTo i_22)) (some undef)) fun t10_29 =>
oV (gV t8_28 false (vLoad ty23 t10_29 H_27) (some undef)) fun t11_30 =>
oV (gV t8_28 false (vLen t11_30) (some undef)) fun t12_31 =>
oV (gV t8_28 false (vInt .gtr t12_31 (.int .i64 20000)) (some undef)) fun t13_32 =>
oV (vPick t8_28 (.bool true) t13_32) fun t14_33 =>
oV (gV t14_33 false (vField 2 (ptrTo i_22)) (some undef)) fun t16_34 =>
oV (gV t14_33 false (vLoad ty24 t16_34 H_27) (some undef)) fun t17_35 =>
oV (gV t14_33 false (vLen t17_35) (some undef)) fun t18_36 =>
oV (gV t14_33 false (vInt .gtr t18_36 (.int .i64 1000)) (some undef)) fun t19_37 =>
oV (vPick t14_33 (.bool true) t19_37) fun t20_38 =>
condK t20_38 (
Q (.returned (.bool false)) H_27) (
m11_2 (ptrTo i_22) H_27 (fun y1_39 H_40 => m11_1 y1_39 H_40 Q) Q)
theorem c11_0 (env : Env) (H : Heap) (Q : Ending → Heap → Prop) (h : m11 (env 0) H Q) :
    RCode Tryd.prog 41 (bodyOf Tryd.f11) env H (mkK (retK T Tryd.f11.results.toList Q) (fun _ _ _ => False) (retK T Tryd.f11.results.toList Q) (fun c H => Q (.panicked c) H)) :=
  RCode.prefix_ (T := T) (X := ext) (hint := hint11) (hole := (fun e H => m11_2 (e 1) H (fun y1_41 H_42 => m11_1 y1_41 H_42 Q) Q)) tok xok mixed 2 (by kernel_rfl) (by kernel_rfl : codeAt _ _ = (codeAt [1, 1] (bodyOf Tryd.f11))) h
    (fun e H h => RCode.join (by kernel_rfl : (codeAt [1, 1] (bodyOf Tryd.f11)) = .seq (codeAt [1, 1, 0] (bodyOf Tryd.f11)) (codeAt [1, 1, 1] (bodyOf Tryd.f11))) ((c11_2 e H (fun y1_43 H_44 => m11_1 y1_43 H_44 Q) Q h).mono (mkK_mono (fun e H h => c11_1 e H Q h) (fun _ _ _ h => h) (fun _ _ h => h) (fun _ _ h => h))))
theorem call11 (a0 : Value) (H : Heap) (Q : Ending → Heap → Prop) (h : m11 a0 H Q) : RCalls Tryd.prog 11 [a0] H Q :=
  RCalls.intro (nt := 41) tok Tryd.func11 (by kernel_rfl) (by kernel_rfl) (by kernel_rfl) (of_decide_eq_true (by kernel_rfl)) (c11_0 (envOf [a0]) H Q h)
/-! ### 12: privity/cleartext.counted -/
def hint12 : Nat → List Nat := lookupL [(1, [0, 1, 3, 4, 2, 6, 5, 7]), (12, [0, 1, 2, 3, 4, 5, 6, 7, 8, 9, 10, 11, 12, 13, 14, 15, 16, 17, 18, 19, 20, 21, 22, 23, 24, 25, 26, 27, 28, 29, 30]), (14, [0, 1, 2, 3, 4, 5, 6, 7, 8, 9, 10, 11, 12, 13, 14, 15])]
def m12_3 (x12 : Value) (H : Heap) (Q : Ending → Heap → Prop) : Prop :=
Q (.returned (.tuple #[x12, (.bool true)])) H
theorem c12_3 (env : Env) (H : Heap) (Q : Ending → Heap → Prop) (h : m12_3 (env 12) H Q) :
    RCode Tryd.prog 128 (codeAt [1, 1, 1, 1, 1, 1] (bodyOf Tryd.f12)) env H (mkK (retK T Tryd.f12.results.toList Q) (fun _ _ _ => False) (retK T Tryd.f12.results.toList Q) (fun c H => Q (.panicked c) H)) :=
  RCode.leaf_ (T := T) (X := ext) (hint := hint12) tok xok mixed (by kernel_rfl) h
def L12_5 (x6 x7 x12 x100 x101 x102 : Value) (H : Heap) (kn : Value → Heap → Prop) (Q : Ending → Heap → Prop) : Prop :=
  ∀ env : Env, env 6 = x6 → env 7 = x7 → env 12 = x12 → env 100 = x100 → env 101 = x101 → env 102 = x102 → RLoop Tryd.prog 128 (codeAt [1, 1, 1, 1, 1, 0, 1, 0, 0] (bodyOf Tryd.f12)) env H (mkK (fun _ _ => False) (inK 4 (fun e H => kn (e 12) H) (fun _ _ _ => False)) (retK T Tryd.f12.results.toList Q) (fun c H => Q (.panicked c) H))
theorem cL12_5 (env : Env) (H : Heap) (kn : Value → Heap → Prop) (Q : Ending → Heap → Prop) (h : L12_5 (env 6) (env 7) (env 12) (env 100) (env 101) (env 102) H kn Q) :
    RCode Tryd.prog 128 (codeAt [1, 1, 1, 1, 1, 0, 1] (bodyOf Tryd.f12)) env H (mkK (fun e H => kn (e 12) H) (fun _ _ _ => False) (retK T Tryd.f12.results.toList Q) (fun c H => Q (.panicked c) H)) :=
  RCode.blk (by kernel_rfl : (codeAt [1, 1, 1, 1, 1, 0, 1] (bodyOf Tryd.f12)) = .block 4 (codeAt [1, 1, 1, 1, 1, 0, 1, 0] (bodyOf Tryd.f12))) (RCode.lp (by kernel_rfl : (codeAt [1, 1, 1, 1, 1, 0, 1, 0] (bodyOf Tryd.f12)) = .loop (codeAt [1, 1, 1, 1, 1, 0, 1, 0, 0] (bodyOf Tryd.f12))) ((h env rfl rfl rfl rfl rfl rfl).mono (mkK_mono (fun _ _ h => h.elim) (fun _ _ _ h => h) (fun _ _ h => h) (fun _ _ h => h))))
def m12_6 (x6 x7 x12 x100 x101 x102 : Value) (H : Heap) (kn : Value → Value → Value → Value → Value → Value → Heap → Prop) (kx4 : Value → Heap → Prop) (Q : Ending → Heap → Prop) : Prop :=
oV (vInt .lss x102 x101) fun t103_1 =>
condK t103_1 (
oV (vIdxS 1 x100 x102) fun t105_2 =>
oV (vLoad ty30 t105_2 H) fun t106_3 =>
oV (vIdxS 1 x6 x102) fun t109_4 =>
oV (vLoad ty3 t109_4 H) fun t110_5 =>
oV (vLen t106_3) fun t112_6 =>
oV (vInt .neq t110_5 t112_6) fun t113_7 =>
condK t113_7 (
Q (.returned (.tuple #[(.slice none 0 0), (.bool false)])) H) (
oV (vIdxS 1 x7 x102) fun t116_8 =>
oV (vLoad ty4 t116_8 H) fun t117_9 =>
oV (vUn .not t117_9) fun t118_10 =>
condK t118_10 (
oV (vLen t106_3) fun t120_11 =>
oMake ty22 22 t120_11 t120_11 H fun s_12 H_13 =>
oBuildS ty30 30 1 [((0, 1), s_12)] H_13 fun s_14 H_15 =>
oAppend ty30 30 x12 s_14 H_15 fun v_16 H_17 =>
oV (vInt .add x102 (.int .i64 1)) fun t126_18 =>
kn x6 x7 v_16 x100 x101 t126_18 H_17) (
oBuildS ty30 30 1 [((0, 1), t106_3)] H fun s_19 H_20 =>
oAppend ty30 30 x12 s_19 H_20 fun v_21 H_22 =>
oV (vInt .add x102 (.int .i64 1)) fun t126_23 =>
kn x6 x7 v_21 x100 x101 t126_23 H_22))) (
kx4 x12 H)
theorem c12_6 (env : Env) (H : Heap) (kn : Value → Value → Value → Value → Value → Value → Heap → Prop) (kx4 : Value → Heap → Prop) (Q : Ending → Heap → Prop) (h : m12_6 (env 6) (env 7) (env 12) (env 100) (env 101) (env 102) H kn kx4 Q) :
    RCode Tryd.prog 128 (codeAt [1, 1, 1, 1, 1, 0, 1, 0, 0] (bodyOf Tryd.f12)) env H (mkK (fun e H => kn (e 6) (e 7) (e 12) (e 100) (e 101) (e 102) H) (inK 4 (fun e H => kx4 (e 12) H) (fun _ _ _ => False)) (retK T Tryd.f12.results.toList Q) (fun c H => Q (.panicked c) H)) :=
  RCode.leaf_ (T := T) (X := ext) (hint := hint12) tok xok mixed (by kernel_rfl) h
theorem L12_5_round (x6 x7 x12 x100 x101 x102 : Value) (H : Heap) (kn : Value → Heap → Prop) (Q : Ending → Heap → Prop) (h : m12_6 x6 x7 x12 x100 x101 x102 H (fun y6 y7 y12 y100 y101 y102 H => L12_5 y6 y7 y12 y100 y101 y102 H kn Q) kn Q) : L12_5 x6 x7 x12 x100 x101 x102 H kn Q := by
  intro env h6 h7 h12 h100 h101 h102
  subst h6; subst h7; subst h12; subst h100; subst h101; subst h102
  exact RLoop.round ((c12_6 env H (fun y6 y7 y12 y100 y101 y102 H => L12_5 y6 y7 y12 y100 y101 y102 H kn Q) kn Q h).mono (mkK_mono (fun e H h => h e rfl rfl rfl rfl rfl rfl) (fun _ _ _ h => h) (fun _ _ h => h) (fun _ _ h => h)))
def m12_4 (x1 x6 x7 x12 : Value) (H : Heap) (kn : Value → Heap → Prop) (Q : Ending → Heap → Prop) : Prop :=
oV (vLen x1) fun t101_24 =>
L12_5 x6 x7 x12 x1 t101_24 (.int .i64 0) H kn Q
theorem c12_4 (env : Env) (H : Heap) (kn : Value → Heap → Prop) (Q : Ending → Heap → Prop) (h : m12_4 (env 1) (env 6) (env 7) (env 12) H kn Q) :
    RCode Tryd.prog 128 (codeAt [1, 1, 1, 1, 1, 0] (bodyOf Tryd.f12)) env H (mkK (fun e H => kn (e 12) H) (fun _ _ _ => False) (retK T Tryd.f12.results.toList Q) (fun c H => Q (.panicked c) H)) :=
  RCode.prefix_ (T := T) (X := ext) (hint := hint12) (hole := (fun e H => L12_5 (e 6) (e 7) (e 12) (e 100) (e 101) (e 102) H kn Q)) tok xok mixed 1 (by kernel_rfl) (by kernel_rfl : codeAt _ _ = (codeAt [1, 1, 1, 1, 1, 0, 1] (bodyOf Tryd.f12))) h
    (fun e H h => (cL12_5 e H kn Q h))
def m12_2 (x1 x6 x7 : Value) (H : Heap) (Q : Ending → Heap → Prop) : Prop :=
m12_4 x1 x6 x7 (.slice none 0 0) H (fun y12_25 H_26 => m12_3 y12_25 H_26 Q) Q
theorem c12_2 (env : Env) (H : Heap) (Q : Ending → Heap → Prop) (h : m12_2 (env 1) (env 6) (env 7) H Q) :
    RCode Tryd.prog 128 (codeAt [1, 1, 1, 1] (bodyOf Tryd.f12)) env H (mkK (retK T Tryd.f12.results.toList Q) (fun _ _ _ => False) (retK T Tryd.f12.results.toList Q) (fun c H => Q (.panicked c) H)) :=
  RCode.prefix_ (T := T) (X := ext) (hint := hint12) (hole := (fun e H => m12_4 (e 1) (e 6) (e 7) (e 12) H (fun y12_27 H_28 => m12_3 y12_27 H_28 Q) Q)) tok xok mixed 1 (by kernel_rfl) (by kernel_rfl : codeAt _ _ = (codeAt [1, 1, 1, 1, 1] (bodyOf Tryd.f12))) h
    (fun e H h => RCode.join (by kernel_rfl : (codeAt [1, 1, 1, 1, 1] (bodyOf Tryd.f12)) = .seq (codeAt [1, 1, 1, 1, 1, 0] (bodyOf Tryd.f12)) (codeAt [1, 1, 1, 1, 1, 1] (bodyOf Tryd.f12))) ((c12_4 e H (fun y12_29 H_30 => m12_3 y12_29 H_30 Q) Q h).mono (mkK_mono (fun e H h => c12_3 e H Q h) (fun _ _ _ h => h) (fun _ _ h => h) (fun _ _ h => h))))
def L12_8 (x1 x2 x6 x7 x31 x32 x33 : Value) (H : Heap) (kn : Value → Value → Value → Heap → Prop) (Q : Ending → Heap → Prop) : Prop :=
  ∀ env : Env, env 1 = x1 → env 2 = x2 → env 6 = x6 → env 7 = x7 → env 31 = x31 → env 32 = x32 → env 33 = x33 → RLoop Tryd.prog 128 (codeAt [1, 1, 1, 0, 1, 0, 0] (bodyOf Tryd.f12)) env H (mkK (fun _ _ => False) (inK 2 (fun e H => kn (e 1) (e 6) (e 7) H) (fun _ _ _ => False)) (retK T Tryd.f12.results.toList Q) (fun c H => Q (.panicked c) H))
theorem cL12_8 (env : Env) (H : Heap) (kn : Value → Value → Value → Heap → Prop) (Q : Ending → Heap → Prop) (h : L12_8 (env 1) (env 2) (env 6) (env 7) (env 31) (env 32) (env 33) H kn Q) :
    RCode Tryd.prog 128 (codeAt [1, 1, 1, 0, 1] (bodyOf Tryd.f12)) env H (mkK (fun e H => kn (e 1) (e 6) (e 7) H) (fun _ _ _ => False) (retK T Tryd.f12.results.toList Q) (fun c H => Q (.panicked c) H)) :=
  RCode.blk (by kernel_rfl : (codeAt [1, 1, 1, 0, 1] (bodyOf Tryd.f12)) = .block 2 (codeAt [1, 1, 1, 0, 1, 0] (bodyOf Tryd.f12))) (RCode.lp (by kernel_rfl : (codeAt [1, 1, 1, 0, 1, 0] (bodyOf Tryd.f12)) = .loop (codeAt [1, 1, 1, 0, 1, 0, 0] (bodyOf Tryd.f12))) ((h env rfl rfl rfl rfl rfl rfl rfl).mono (mkK_mono (fun _ _ h => h.elim) (fun _ _ _ h => h) (fun _ _ h => h) (fun _ _ h => h))))
def m12_9 (x1 x2 x6 x7 x31 x32 x33 : Value) (H : Heap) (kn : Value → Value → Value → Value → Value → Value → Value → Heap → Prop) (kx2 : Value → Value → Value → Heap → Prop) (Q : Ending → Heap → Prop) : Prop :=
oV (vInt .lss x33 x32) fun t34_31 =>
condK t34_31 (
oV (vIdxS 5 x31 x33) fun t35_32 =>
oV (vLoad ty37 t35_32 H) fun t36_33 =>
oNew (Value.cells ty37.zero).toList (Value.cells ty37.zero).toList.length 37 H fun i_34 H_35 =>
oHeap (vStore ty37 (ptrTo i_34) t36_33 H_35) fun H_36 =>
oV (vField 0 (ptrTo i_34)) fun t37_37 =>
oV (vLoad ty3 t37_37 H_36) fun t38_38 =>
oV (vInt .neq t38_38 (.int .i64 1)) fun t39_39 =>
condK t39_39 (
oV (vInt .add x33 (.int .i64 1)) fun t99_40 =>
kn x1 x2 x6 x7 x31 x32 t99_40 H_36) (
oV (vField 1 (ptrTo i_34)) fun t40_41 =>
oV (vLoad ty3 t40_41 H_36) fun t41_42 =>
oV (vInt .sub t41_42 (.int .i64 1)) fun t42_43 =>
oV (vLen x1) fun t45_44 =>
oV (vInt .geq t42_43 t45_44) fun t46_45 =>
oV (gV t46_45 false (some x6) (some undef)) fun t48_46 =>
oV (gV t46_45 false (some t42_43) (some undef)) fun t49_47 =>
oV (gV t46_45 false (vIdxS 1 t48_46 t49_47) (some undef)) fun t50_48 =>
oV (gV t46_45 false (vLoad ty3 t50_48 H_36) (some undef)) fun t51_49 =>
oV (gV t46_45 false (some x1) (some undef)) fun t52_50 =>
oV (gV t46_45 false (some t42_43) (some undef)) fun t53_51 =>
oV (gV t46_45 false (vIdxS 1 t52_50 t53_51) (some undef)) fun t54_52 =>
oV (gV t46_45 false (vLoad ty30 t54_52 H_36) (some undef)) fun t55_53 =>
oV (gV t46_45 false (vLen t55_53) (some undef)) fun t56_54 =>
oV (gV t46_45 false (vInt .geq t51_49 t56_54) (some undef)) fun t57_55 =>
oV (vPick t46_45 (.bool true) t57_55) fun t58_56 =>
oV (gV t58_56 false (some x1) (some undef)) fun t60_57 =>
oV (gV t58_56 false (some t42_43) (some undef)) fun t61_58 =>
oV (gV t58_56 false (vIdxS 1 t60_57 t61_58) (some undef)) fun t62_59 =>
oV (gV t58_56 false (vLoad ty30 t62_59 H_36) (some undef)) fun t63_60 =>
oV (gV t58_56 false (some x6) (some undef)) fun t64_61 =>
oV (gV t58_56 false (some t42_43) (some undef)) fun t65_62 =>
oV (gV t58_56 false (vIdxS 1 t64_61 t65_62) (some undef)) fun t66_63 =>
oV (gV t58_56 false (vLoad ty3 t66_63 H_36) (some undef)) fun t67_64 =>
oV (gV t58_56 false (vIdxS 1 t63_60 t67_64) (some undef)) fun t68_65 =>
oV (gV t58_56 false (vLoad ty22 t68_65 H_36) (some undef)) fun t69_66 =>
oV (gV t58_56 false (vField 0 x2) (some undef)) fun t70_67 =>
oV (gV t58_56 false (vLoad ty22 t70_67 H_36) (some undef)) fun t71_68 =>
oV (gV t58_56 false (vInt .geq t69_66 t71_68) (some undef)) fun t72_69 =>
oV (vPick t58_56 (.bool true) t72_69) fun t73_70 =>
condK t73_70 (
Q (.returned (.tuple #[(.slice none 0 0), (.bool false)])) H_36) (
oV (vField 4 (ptrTo i_34)) fun t74_71 =>
oV (vLoad ty22 t74_71 H_36) fun t75_72 =>
oV (vInt .eql t75_72 (.int .u64 1)) fun t76_73 =>
oV (gV t76_73 true (some x1) (some undef)) fun t78_74 =>
oV (gV t76_73 true (some t42_43) (some undef)) fun t79_75 =>
oV (gV t76_73 true (vIdxS 1 t78_74 t79_75) (some undef)) fun t80_76 =>
oV (gV t76_73 true (vLoad ty30 t80_76 H_36) (some undef)) fun t81_77 =>
oV (gV t76_73 true (some x6) (some undef)) fun t82_78 =>
oV (gV t76_73 true (some t42_43) (some undef)) fun t83_79 =>
oV (gV t76_73 true (vIdxS 1 t82_78 t83_79) (some undef)) fun t84_80 =>
oV (gV t76_73 true (vLoad ty3 t84_80 H_36) (some undef)) fun t85_81 =>
oV (gV t76_73 true (vIdxS 1 t81_77 t85_81) (some undef)) fun t86_82 =>
oV (gV t76_73 true (vLoad ty22 t86_82 H_36) (some undef)) fun t87_83 =>
oV (gV t76_73 true (vInt .gtr t87_83 (.int .u64 1)) (some undef)) fun t88_84 =>
oV (vPick t76_73 t88_84 (.bool false)) fun t89_85 =>
condK t89_85 (
oV (vIdxS 1 x7 t42_43) fun t92_86 =>
oHeap (vStore ty4 t92_86 (.bool false) H_36) fun H_87 =>
oV (vIdxS 1 x6 t42_43) fun t95_88 =>
oV (vLoad ty3 t95_88 H_87) fun t96_89 =>
oV (vInt .add t96_89 (.int .i64 1)) fun t97_90 =>
oV (vIdxS 1 x6 t42_43) fun t98_91 =>
oHeap (vStore ty3 t98_91 t97_90 H_87) fun H_92 =>
oV (vInt .add x33 (.int .i64 1)) fun t99_93 =>
kn x1 x2 x6 x7 x31 x32 t99_93 H_92) (
oV (vIdxS 1 x6 t42_43) fun t95_94 =>
oV (vLoad ty3 t95_94 H_36) fun t96_95 =>
oV (vInt .add t96_95 (.int .i64 1)) fun t97_96 =>
oV (vIdxS 1 x6 t42_43) fun t98_97 =>
oHeap (vStore ty3 t98_97 t97_96 H_36) fun H_98 =>
oV (vInt .add x33 (.int .i64 1)) fun t99_99 =>
kn x1 x2 x6 x7 x31 x32 t99_99 H_98)))) (
kx2 x1 x6 x7 H)
theorem c12_9 (env : Env) (H : Heap) (kn : Value → Value → Value → Value → Value → Value → Value → Heap → Prop) (kx2 : Value → Value → Value → Heap → Prop) (Q : Ending → Heap → Prop) (h : m12_9 (env 1) (env 2) (env 6) (env 7) (env 31) (env 32) (env 33) H kn kx2 Q) :
    RCode Tryd.prog 128 (codeAt [1, 1, 1, 0, 1, 0, 0] (bodyOf Tryd.f12)) env H (mkK (fun e H => kn (e 1) (e 2) (e 6) (e 7) (e 31) (e 32) (e 33) H) (inK 2 (fun e H => kx2 (e 1) (e 6) (e 7) H) (fun _ _ _ => False)) (retK T Tryd.f12.results.toList Q) (fun c H => Q (.panicked c) H)) :=
  RCode.leaf_ (T := T) (X := ext) (hint := hint12) tok xok mixed (by kernel_rfl) h
theorem L12_8_round (x1 x2 x6 x7 x31 x32 x33 : Value) (H : Heap) (kn : Value → Value → Value → Heap → Prop) (Q : Ending → Heap → Prop) (h : m12_9 x1 x2 x6 x7 x31 x32 x33 H (fun y1 y2 y6 y7 y31 y32 y33 H => L12_8 y1 y2 y6 y7 y31 y32 y33 H kn Q) kn Q) : L12_8 x1 x2 x6 x7 x31 x32 x33 H kn Q := by
  intro env h1 h2 h6 h7 h31 h32 h33
  subst h1; subst h2; subst h6; subst h7; subst h31; subst h32; subst h33
  exact RLoop.round ((c12_9 env H (fun y1 y2 y6 y7 y31 y32 y33 H => L12_8 y1 y2 y6 y7 y31 y32 y33 H kn Q) kn Q h).mono (mkK_mono (fun e H h => h e rfl rfl rfl rfl rfl rfl rfl) (fun _ _ _ h => h) (fun _ _ h => h) (fun _ _ h => h)))
def m12_7 (x1 x2 x6 x7 : Value) (H : Heap) (kn : Value → Value → Value → Heap → Prop) (Q : Ending → Heap → Prop) : Prop :=
oV (vField 1 x2) fun t30_100 =>
oV (vLoad ty23 t30_100 H) fun t31_101 =>
oV (vLen t31_101) fun t32_102 =>
L12_8 x1 x2 x6 x7 t31_101 t32_102 (.int .i64 0) H kn Q
theorem c12_7 (env : Env) (H : Heap) (kn : Value → Value → Value → Heap → Prop) (Q : Ending → Heap → Prop) (h : m12_7 (env 1) (env 2) (env 6) (env 7) H kn Q) :
    RCode Tryd.prog 128 (codeAt [1, 1, 1, 0] (bodyOf Tryd.f12)) env H (mkK (fun e H => kn (e 1) (e 6) (e 7) H) (fun _ _ _ => False) (retK T Tryd.f12.results.toList Q) (fun c H => Q (.panicked c) H)) :=
  RCode.prefix_ (T := T) (X := ext) (hint := hint12) (hole := (fun e H => L12_8 (e 1) (e 2) (e 6) (e 7) (e 31) (e 32) (e 33) H kn Q)) tok xok mixed 1 (by kernel_rfl) (by kernel_rfl : codeAt _ _ = (codeAt [1, 1, 1, 0, 1] (bodyOf Tryd.f12))) h
    (fun e H h => (cL12_8 e H kn Q h))
def m12_1 (x1 x2 x6 x7 : Value) (H : Heap) (Q : Ending → Heap → Prop) : Prop :=
m12_7 x1 x2 x6 x7 H (fun y1_103 y6_104 y7_105 H_106 => m12_2 y1_103 y6_104 y7_105 H_106 Q) Q
theorem c12_1 (env : Env) (H : Heap) (Q : Ending → Heap → Prop) (h : m12_1 (env 1) (env 2) (env 6) (env 7) H Q) :
    RCode Tryd.prog 128 (codeAt [1, 1, 1] (bodyOf Tryd.f12)) env H (mkK (retK T Tryd.f12.results.toList Q) (fun _ _ _ => False) (retK T Tryd.f12.results.toList Q) (fun c H => Q (.panicked c) H)) :=
  RCode.join (by kernel_rfl : (codeAt [1, 1, 1] (bodyOf Tryd.f12)) = .seq (codeAt [1, 1, 1, 0] (bodyOf Tryd.f12)) (codeAt [1, 1, 1, 1] (bodyOf Tryd.f12))) ((c12_7 env H (fun y1_107 y6_108 y7_109 H_110 => m12_2 y1_107 y6_108 y7_109 H_110 Q) Q h).mono (mkK_mono (fun e H h => c12_2 e H Q h) (fun _ _ _ h => h) (fun _ _ h => h) (fun _ _ h => h)))
def L12_11 (x1 x2 x6 x7 x22 x23 : Value) (H : Heap) (kn : Value → Value → Value → Value → Heap → Prop) (Q : Ending → Heap → Prop) : Prop :=
  ∀ env : Env, env 1 = x1 → env 2 = x2 → env 6 = x6 → env 7 = x7 → env 22 = x22 → env 23 = x23 → RLoop Tryd.prog 128 (codeAt [1, 1, 0, 1, 0, 0] (bodyOf Tryd.f12)) env H (mkK (fun _ _ => False) (inK 0 (fun e H => kn (e 1) (e 2) (e 6) (e 7) H) (fun _ _ _ => False)) (retK T Tryd.f12.results.toList Q) (fun c H => Q (.panicked c) H))
theorem cL12_11 (env : Env) (H : Heap) (kn : Value → Value → Value → Value → Heap → Prop) (Q : Ending → Heap → Prop) (h : L12_11 (env 1) (env 2) (env 6) (env 7) (env 22) (env 23) H kn Q) :
    RCode Tryd.prog 128 (codeAt [1, 1, 0, 1] (bodyOf Tryd.f12)) env H (mkK (fun e H => kn (e 1) (e 2) (e 6) (e 7) H) (fun _ _ _ => False) (retK T Tryd.f12.results.toList Q) (fun c H => Q (.panicked c) H)) :=
  RCode.blk (by kernel_rfl : (codeAt [1, 1, 0, 1] (bodyOf Tryd.f12)) = .block 0 (codeAt [1, 1, 0, 1, 0] (bodyOf Tryd.f12))) (RCode.lp (by kernel_rfl : (codeAt [1, 1, 0, 1, 0] (bodyOf Tryd.f12)) = .loop (codeAt [1, 1, 0, 1, 0, 0] (bodyOf Tryd.f12))) ((h env rfl rfl rfl rfl rfl rfl).mono (mkK_mono (fun _ _ h => h.elim) (fun _ _ _ h => h) (fun _ _ h => h) (fun _ _ h => h))))
def m12_12 (x1 x2 x6 x7 x22 x23 : Value) (H : Heap) (kn : Value → Value → Value → Value → Value → Value → Heap → Prop) (kx0 : Value → Value → Value → Value → Heap → Prop) (Q : Ending → Heap → Prop) : Prop :=
oV (vInt .lss x23 x22) fun t24_111 =>
condK t24_111 (
oV (vIdxS 1 x7 x23) fun t28_112 =>
oHeap (vStore ty4 t28_112 (.bool true) H) fun H_113 =>
oV (vInt .add x23 (.int .i64 1)) fun t29_114 =>
kn x1 x2 x6 x7 x22 t29_114 H_113) (
kx0 x1 x2 x6 x7 H)
theorem c12_12 (env : Env) (H : Heap) (kn : Value → Value → Value → Value → Value → Value → Heap → Prop) (kx0 : Value → Value → Value → Value → Heap → Prop) (Q : Ending → Heap → Prop) (h : m12_12 (env 1) (env 2) (env 6) (env 7) (env 22) (env 23) H kn kx0 Q) :
    RCode Tryd.prog 128 (codeAt [1, 1, 0, 1, 0, 0] (bodyOf Tryd.f12)) env H (mkK (fun e H => kn (e 1) (e 2) (e 6) (e 7) (e 22) (e 23) H) (inK 0 (fun e H => kx0 (e 1) (e 2) (e 6) (e 7) H) (fun _ _ _ => False)) (retK T Tryd.f12.results.toList Q) (fun c H => Q (.panicked c) H)) :=
  RCode.leaf_ (T := T) (X := ext) (hint := hint12) tok xok mixed (by kernel_rfl) h
theorem L12_11_round (x1 x2 x6 x7 x22 x23 : Value) (H : Heap) (kn : Value → Value → Value → Value → Heap → Prop) (Q : Ending → Heap → Prop) (h : m12_12 x1 x2 x6 x7 x22 x23 H (fun y1 y2 y6 y7 y22 y23 H => L12_11 y1 y2 y6 y7 y22 y23 H kn Q) kn Q) : L12_11 x1 x2 x6 x7 x22 x23 H kn Q := by
  intro env h1 h2 h6 h7 h22 h23
  subst h1; subst h2; subst h6; subst h7; subst h22; subst h23
  exact RLoop.round ((c12_12 env H (fun y1 y2 y6 y7 y22 y23 H => L12_11 y1 y2 y6 y7 y22 y23 H kn Q) kn Q h).mono (mkK_mono (fun e H h => h e rfl rfl rfl rfl rfl rfl) (fun _ _ _ h => h) (fun _ _ h => h) (fun _ _ h => h)))
def m12_10 (x1 x2 x6 x7 : Value) (H : Heap) (kn : Value → Value → Value → Value → Heap → Prop) (Q : Ending → Heap → Prop) : Prop :=
oV (vLen x7) fun t22_115 =>
L12_11 x1 x2 x6 x7 t22_115 (.int .i64 0) H kn Q
theorem c12_10 (env : Env) (H : Heap) (kn : Value → Value → Value → Value → Heap → Prop) (Q : Ending → Heap → Prop) (h : m12_10 (env 1) (env 2) (env 6) (env 7) H kn Q) :
    RCode Tryd.prog 128 (codeAt [1, 1, 0] (bodyOf Tryd.f12)) env H (mkK (fun e H => kn (e 1) (e 2) (e 6) (e 7) H) (fun _ _ _ => False) (retK T Tryd.f12.results.toList Q) (fun c H => Q (.panicked c) H)) :=
  RCode.prefix_ (T := T) (X := ext) (hint := hint12) (hole := (fun e H => L12_11 (e 1) (e 2) (e 6) (e 7) (e 22) (e 23) H kn Q)) tok xok mixed 1 (by kernel_rfl) (by kernel_rfl : codeAt _ _ = (codeAt [1, 1, 0, 1] (bodyOf Tryd.f12))) h
    (fun e H h => (cL12_11 e H kn Q h))
def m12 (x0 x1 : Value) (H : Heap) (Q : Ending → Heap → Prop) : Prop :=
oNew (Value.cells x0).toList (Value.cells x0).toList.length 26 H fun i_116 H_117 =>
oV (vLen x1) fun t16_118 =>
oV (vLen x1) fun t19_119 =>
oMake ty3 3 t16_118 t16_118 H_117 fun s_120 H_121 =>
oMake ty4 4 t19_119 t19_119 H_121 fun s_122 H_123 =>
m12_10 x1 (ptrTo i_116) s_120 s_122 H_123 (fun y1_124 y2_125 y6_126 y7_127 H_128 => m12_1 y1_124 y2_125 y6_126 y7_127 H_128 Q) Q
theorem c12_0 (env : Env) (H : Heap) (Q : Ending → Heap → Prop) (h : m12 (env 0) (env 1) H Q) :
    RCode Tryd.prog 128 (bodyOf Tryd.f12) env H (mkK (retK T Tryd.f12.results.toList Q) (fun _ _ _ => False) (retK T Tryd.f12.results.toList Q) (fun c H => Q (.panicked c) H)) :=
  RCode.prefix_ (T := T) (X := ext) (hint := hint12) (hole := (fun e H => m12_10 (e 1) (e 2) (e 6) (e 7) H (fun y1_129 y2_130 y6_131 y7_132 H_133 => m12_1 y1_129 y2_130 y6_131 y7_132 H_133 Q) Q)) tok xok mixed 2 (by kernel_rfl) (by kernel_rfl : codeAt _ _ = (codeAt [1, 1] (bodyOf Tryd.f12))) h
    (fun e H h => RCode.join (by kernel_rfl : (codeAt [1, 1] (bodyOf Tryd.f12)) = .seq (codeAt [1, 1, 0] (bodyOf Tryd.f12)) (codeAt [1, 1, 1] (bodyOf Tryd.f12))) ((c12_10 e H (fun y1_134 y2_135 y6_136 y7_137 H_138 => m12_1 y1_134 y2_135 y6_136 y7_137 H_138 Q) Q h).mono (mkK_mono (fun e H h => c12_1 e H Q h) (fun _ _ _ h => h) (fun _ _ h => h) (fun _ _ h => h))))
theorem call12 (a0 a1 : Value) (H : Heap) (Q : Ending → Heap → Prop) (h : m12 a0 a1 H Q) : RCalls Tryd.prog 12 [a0, a1] H Q :=
  RCalls.intro (nt := 128) tok Tryd.func12 (by kernel_rfl) (by kernel_rfl) (by kernel_rfl) (of_decide_eq_true (by kernel_rfl)) (c12_0 (envOf [a0, a1]) H Q h)
/-! ### 6: privity/cleartext.EvaluateGates -/
def hint6 : Nat → List Nat := lookupL [(10, [0, 1, 2, 3, 4, 5, 6, 7, 8, 9, 10, 11, 12, 13, 14, 15, 16])]
def m6_1 (x8 : Value) (H : Heap) (Q : Ending → Heap → Prop) : Prop :=
oV (vNil x8) fun t52_1 =>
oV (vField 1 t52_1) fun t53_2 =>
oV (vLoad ty30 t53_2 H) fun t54_3 =>
Q (.returned (.tuple #[t54_3, (.int .i64 0)])) H
theorem c6_1 (env : Env) (H : Heap) (Q : Ending → Heap → Prop) (h : m6_1 (env 8) H Q) :
    RCode Tryd.prog 55 (codeAt [1, 1, 1, 1, 1, 1] (bodyOf Tryd.f6)) env H (mkK (retK T Tryd.f6.results.toList Q) (fun _ _ _ => False) (retK T Tryd.f6.results.toList Q) (fun c H => Q (.panicked c) H)) :=
  RCode.leaf_ (T := T) (X := ext) (hint := hint6) tok xok mixed (by kernel_rfl) h
def L6_3 (x8 x28 x29 x30 : Value) (H : Heap) (kn : Value → Heap → Prop) (Q : Ending → Heap → Prop) : Prop :=
  ∀ env : Env, env 8 = x8 → env 28 = x28 → env 29 = x29 → env 30 = x30 → RLoop Tryd.prog 55 (codeAt [1, 1, 1, 1, 1, 0, 1, 0, 0] (bodyOf Tryd.f6)) env H (mkK (fun _ _ => False) (inK 0 (fun e H => kn (e 8) H) (fun _ _ _ => False)) (retK T Tryd.f6.results.toList Q) (fun c H => Q (.panicked c) H))
theorem cL6_3 (env : Env) (H : Heap) (kn : Value → Heap → Prop) (Q : Ending → Heap → Prop) (h : L6_3 (env 8) (env 28) (env 29) (env 30) H kn Q) :
    RCode Tryd.prog 55 (codeAt [1, 1, 1, 1, 1, 0, 1] (bodyOf Tryd.f6)) env H (mkK (fun e H => kn (e 8) H) (fun _ _ _ => False) (retK T Tryd.f6.results.toList Q) (fun c H => Q (.panicked c) H)) :=
  RCode.blk (by kernel_rfl : (codeAt [1, 1, 1, 1, 1, 0, 1] (bodyOf Tryd.f6)) = .block 0 (codeAt [1, 1, 1, 1, 1, 0, 1, 0] (bodyOf Tryd.f6))) (RCode.lp (by kernel_rfl : (codeAt [1, 1, 1, 1, 1, 0, 1, 0] (bodyOf Tryd.f6)) = .loop (codeAt [1, 1, 1, 1, 1, 0, 1, 0, 0] (bodyOf Tryd.f6))) ((h env rfl rfl rfl rfl).mono (mkK_mono (fun _ _ h => h.elim) (fun _ _ _ h => h) (fun _ _ h => h) (fun _ _ h => h))))
def m6_4 (x8 x28 x29 x30 : Value) (H : Heap) (kn : Value → Value → Value → Value → Heap → Prop) (kx0 : Value → Heap → Prop) (Q : Ending → Heap → Prop) : Prop :=
oV (vInt .lss x30 x29) fun t31_4 =>
condK t31_4 (
oV (vIdxS 5 x28 x30) fun t32_5 =>
oV (vLoad ty37 t32_5 H) fun t33_6 =>
oNew (Value.cells ty37.zero).toList (Value.cells ty37.zero).toList.length 37 H fun i_7 H_8 =>
oHeap (vStore ty37 (ptrTo i_7) t33_6 H_8) fun H_9 =>
oV (vNil x8) fun t36_10 =>
oV (vField 1 t36_10) fun t37_11 =>
oV (vLoad ty30 t37_11 H_9) fun t38_12 =>
oV (vField 0 (ptrTo i_7)) fun t39_13 =>
oV (vLoad ty3 t39_13 H_9) fun t40_14 =>
oV (vIdxA 7 1 (.pointer (some ⟨0, 0, none⟩)) t40_14) fun t41_15 =>
oV (vLoad ty44 t41_15 H_9) fun t42_16 =>
oV (vLoad ty37 (ptrTo i_7) H_9) fun t44_17 =>
oCl ext Tryd.prog t42_16 [x8, t44_17] H_9 noP fun v_18 H_19 =>
(vLoad ty30 t37_11 H_19 = some t38_12 ∧
oBuildS ty22 22 1 [((0, 1), v_18)] H_19 fun s_20 H_21 =>
oAppend ty22 22 t38_12 s_20 H_21 fun v_22 H_23 =>
oV (vNil x8) fun t48_24 =>
oV (vField 1 t48_24) fun t49_25 =>
oHeap (vStore ty30 t49_25 v_22 H_23) fun H_26 =>
oV (vInt .add x30 (.int .i64 1)) fun t50_27 =>
kn x8 x28 x29 t50_27 H_26)) (
kx0 x8 H)
theorem c6_4 (env : Env) (H : Heap) (kn : Value → Value → Value → Value → Heap → Prop) (kx0 : Value → Heap → Prop) (Q : Ending → Heap → Prop) (h : m6_4 (env 8) (env 28) (env 29) (env 30) H kn kx0 Q) :
    RCode Tryd.prog 55 (codeAt [1, 1, 1, 1, 1, 0, 1, 0, 0] (bodyOf Tryd.f6)) env H (mkK (fun e H => kn (e 8) (e 28) (e 29) (e 30) H) (inK 0 (fun e H => kx0 (e 8) H) (fun _ _ _ => False)) (retK T Tryd.f6.results.toList Q) (fun c H => Q (.panicked c) H)) :=
  RCode.leaf_ (T := T) (X := ext) (hint := hint6) tok xok mixed (by kernel_rfl) h
theorem L6_3_round (x8 x28 x29 x30 : Value) (H : Heap) (kn : Value → Heap → Prop) (Q : Ending → Heap → Prop) (h : m6_4 x8 x28 x29 x30 H (fun y8 y28 y29 y30 H => L6_3 y8 y28 y29 y30 H kn Q) kn Q) : L6_3 x8 x28 x29 x30 H kn Q := by
  intro env h8 h28 h29 h30
  subst h8; subst h28; subst h29; subst h30
  exact RLoop.round ((c6_4 env H (fun y8 y28 y29 y30 H => L6_3 y8 y28 y29 y30 H kn Q) kn Q h).mono (mkK_mono (fun e H h => h e rfl rfl rfl rfl) (fun _ _ _ h => h) (fun _ _ h => h) (fun _ _ h => h)))
def m6_2 (x2 x8 : Value) (H : Heap) (kn : Value → Heap → Prop) (Q : Ending → Heap → Prop) : Prop :=
oV (vField 1 x2) fun t27_28 =>
oV (vLoad ty23 t27_28 H) fun t28_29 =>
oV (vLen t28_29) fun t29_30 =>
L6_3 x8 t28_29 t29_30 (.int .i64 0) H kn Q
theorem c6_2 (env : Env) (H : Heap) (kn : Value → Heap → Prop) (Q : Ending → Heap → Prop) (h : m6_2 (env 2) (env 8) H kn Q) :
    RCode Tryd.prog 55 (codeAt [1, 1, 1, 1, 1, 0] (bodyOf Tryd.f6)) env H (mkK (fun e H => kn (e 8) H) (fun _ _ _ => False) (retK T Tryd.f6.results.toList Q) (fun c H => Q (.panicked c) H)) :=
  RCode.prefix_ (T := T) (X := ext) (hint := hint6) (hole := (fun e H => L6_3 (e 8) (e 28) (e 29) (e 30) H kn Q)) tok xok mixed 1 (by kernel_rfl) (by kernel_rfl : codeAt _ _ = (codeAt [1, 1, 1, 1, 1, 0, 1] (bodyOf Tryd.f6))) h
    (fun e H h => (cL6_3 e H kn Q h))
def m6 (x0 x1 : Value) (H : Heap) (Q : Ending → Heap → Prop) : Prop :=
oNew (Value.cells x0).toList (Value.cells x0).toList.length 26 H fun i_31 H_32 =>
oV (vLoad ty26 (ptrTo i_31) H_32) fun t11_33 =>
oRC Tryd.prog 11 [t11_33] H_32 (fun c H => Q (.panicked c) H) fun v_34 H_35 =>
oV (vUn .not v_34) fun t13_36 =>
condK t13_36 (
Q (.returned (.tuple #[(.slice none 0 0), (.int .i64 1)])) H_35) (
oV (vLoad ty26 (ptrTo i_31) H_35) fun t15_37 =>
oRC Tryd.prog 12 [t15_37, x1] H_35 (fun c H => Q (.panicked c) H) fun v_38 H_39 =>
oV (vExtract v_38 0) fun t18_40 =>
oV (vExtract v_38 1) fun t19_41 =>
oV (vUn .not t19_41) fun t21_42 =>
condK t21_42 (
Q (.returned (.tuple #[(.slice none 0 0), (.int .i64 1)])) H_39) (
oV (vField 0 (ptrTo i_31)) fun t22_43 =>
oV (vLoad ty22 t22_43 H_39) fun t23_44 =>
oV (vBuild ty43 [((0, 1), t23_44), ((2, 1), t18_40)]) fun t25_45 =>
oNew (Value.cells t25_45).toList (Value.cells t25_45).toList.length 43 H_39 fun i_46 H_47 =>
m6_2 (ptrTo i_31) (ptrTo i_46) H_47 (fun y8_48 H_49 => m6_1 y8_48 H_49 Q) Q))
theorem c6_0 (env : Env) (H : Heap) (Q : Ending → Heap → Prop) (h : m6 (env 0) (env 1) H Q) :
    RCode Tryd.prog 55 (bodyOf Tryd.f6) env H (mkK (retK T Tryd.f6.results.toList Q) (fun _ _ _ => False) (retK T Tryd.f6.results.toList Q) (fun c H => Q (.panicked c) H)) :=
  RCode.prefix_ (T := T) (X := ext) (hint := hint6) (hole := (fun e H => m6_2 (e 2) (e 8) H (fun y8_50 H_51 => m6_1 y8_50 H_51 Q) Q)) tok xok mixed 5 (by kernel_rfl) (by kernel_rfl : codeAt _ _ = (codeAt [1, 1, 1, 1, 1] (bodyOf Tryd.f6))) h
    (fun e H h => RCode.join (by kernel_rfl : (codeAt [1, 1, 1, 1, 1] (bodyOf Tryd.f6)) = .seq (codeAt [1, 1, 1, 1, 1, 0] (bodyOf Tryd.f6)) (codeAt [1, 1, 1, 1, 1, 1] (bodyOf Tryd.f6))) ((c6_2 e H (fun y8_52 H_53 => m6_1 y8_52 H_53 Q) Q h).mono (mkK_mono (fun e H h => c6_1 e H Q h) (fun _ _ _ h => h) (fun _ _ h => h) (fun _ _ h => h))))
theorem call6 (a0 a1 : Value) (H : Heap) (Q : Ending → Heap → Prop) (h : m6 a0 a1 H Q) : RCalls Tryd.prog 6 [a0, a1] H Q :=
  RCalls.intro (nt := 55) tok Tryd.func6 (by kernel_rfl) (by kernel_rfl) (by kernel_rfl) (of_decide_eq_true (by kernel_rfl)) (c6_0 (envOf [a0, a1]) H Q h)
/-! ### 8: privity/cleartext.Evaluate -/
def hint8 : Nat → List Nat := lookupL []
def m8_1 (x8 : Value) (H : Heap) (Q : Ending → Heap → Prop) : Prop :=
Q (.returned (.tuple #[x8, (.int .i64 0)])) H
theorem c8_1 (env : Env) (H : Heap) (Q : Ending → Heap → Prop) (h : m8_1 (env 8) H Q) :
    RCode Tryd.prog 36 (codeAt [1, 1, 1, 1, 1] (bodyOf Tryd.f8)) env H (mkK (retK T Tryd.f8.results.toList Q) (fun _ _ _ => False) (retK T Tryd.f8.results.toList Q) (fun c H => Q (.panicked c) H)) :=
  RCode.leaf_ (T := T) (X := ext) (hint := hint8) tok xok mixed (by kernel_rfl) h
def L8_3 (x6 x8 x21 x22 x23 : Value) (H : Heap) (kn : Value → Heap → Prop) (Q : Ending → Heap → Prop) : Prop :=
  ∀ env : Env, env 6 = x6 → env 8 = x8 → env 21 = x21 → env 22 = x22 → env 23 = x23 → RLoop Tryd.prog 36 (codeAt [1, 1, 1, 1, 0, 1, 0, 0] (bodyOf Tryd.f8)) env H (mkK (fun _ _ => False) (inK 0 (fun e H => kn (e 8) H) (fun _ _ _ => False)) (retK T Tryd.f8.results.toList Q) (fun c H => Q (.panicked c) H))
theorem cL8_3 (env : Env) (H : Heap) (kn : Value → Heap → Prop) (Q : Ending → Heap → Prop) (h : L8_3 (env 6) (env 8) (env 21) (env 22) (env 23) H kn Q) :
    RCode Tryd.prog 36 (codeAt [1, 1, 1, 1, 0, 1] (bodyOf Tryd.f8)) env H (mkK (fun e H => kn (e 8) H) (fun _ _ _ => False) (retK T Tryd.f8.results.toList Q) (fun c H => Q (.panicked c) H)) :=
  RCode.blk (by kernel_rfl : (codeAt [1, 1, 1, 1, 0, 1] (bodyOf Tryd.f8)) = .block 0 (codeAt [1, 1, 1, 1, 0, 1, 0] (bodyOf Tryd.f8))) (RCode.lp (by kernel_rfl : (codeAt [1, 1, 1, 1, 0, 1, 0] (bodyOf Tryd.f8)) = .loop (codeAt [1, 1, 1, 1, 0, 1, 0, 0] (bodyOf Tryd.f8))) ((h env rfl rfl rfl rfl rfl).mono (mkK_mono (fun _ _ h => h.elim) (fun _ _ _ h => h) (fun _ _ h => h) (fun _ _ h => h))))
def m8_4 (x6 x8 x21 x22 x23 : Value) (H : Heap) (kn : Value → Value → Value → Value → Value → Heap → Prop) (kx0 : Value → Heap → Prop) (Q : Ending → Heap → Prop) : Prop :=
oV (vInt .lss x23 x22) fun t24_1 =>
condK t24_1 (
oV (vIdxS 1 x21 x23) fun t25_2 =>
oV (vLoad ty3 t25_2 H) fun t26_3 =>
oV (vIdxS 1 x6 t26_3) fun t30_4 =>
oV (vLoad ty22 t30_4 H) fun t31_5 =>
oBuildS ty22 22 1 [((0, 1), t31_5)] H fun s_6 H_7 =>
oAppend ty22 22 x8 s_6 H_7 fun v_8 H_9 =>
oV (vInt .add x23 (.int .i64 1)) fun t34_10 =>
kn x6 v_8 x21 x22 t34_10 H_9) (
kx0 x8 H)
theorem c8_4 (env : Env) (H : Heap) (kn : Value → Value → Value → Value → Value → Heap → Prop) (kx0 : Value → Heap → Prop) (Q : Ending → Heap → Prop) (h : m8_4 (env 6) (env 8) (env 21) (env 22) (env 23) H kn kx0 Q) :
    RCode Tryd.prog 36 (codeAt [1, 1, 1, 1, 0, 1, 0, 0] (bodyOf Tryd.f8)) env H (mkK (fun e H => kn (e 6) (e 8) (e 21) (e 22) (e 23) H) (inK 0 (fun e H => kx0 (e 8) H) (fun _ _ _ => False)) (retK T Tryd.f8.results.toList Q) (fun c H => Q (.panicked c) H)) :=
  RCode.leaf_ (T := T) (X := ext) (hint := hint8) tok xok mixed (by kernel_rfl) h
theorem L8_3_round (x6 x8 x21 x22 x23 : Value) (H : Heap) (kn : Value → Heap → Prop) (Q : Ending → Heap → Prop) (h : m8_4 x6 x8 x21 x22 x23 H (fun y6 y8 y21 y22 y23 H => L8_3 y6 y8 y21 y22 y23 H kn Q) kn Q) : L8_3 x6 x8 x21 x22 x23 H kn Q := by
  intro env h6 h8 h21 h22 h23
  subst h6; subst h8; subst h21; subst h22; subst h23
  exact RLoop.round ((c8_4 env H (fun y6 y8 y21 y22 y23 H => L8_3 y6 y8 y21 y22 y23 H kn Q) kn Q h).mono (mkK_mono (fun e H h => h e rfl rfl rfl rfl rfl) (fun _ _ _ h => h) (fun _ _ h => h) (fun _ _ h => h)))
def m8_2 (x2 x6 x8 : Value) (H : Heap) (kn : Value → Heap → Prop) (Q : Ending → Heap → Prop) : Prop :=
oV (vField 2 x2) fun t20_11 =>
oV (vLoad ty24 t20_11 H) fun t21_12 =>
oV (vLen t21_12) fun t22_13 =>
L8_3 x6 x8 t21_12 t22_13 (.int .i64 0) H kn Q
theorem c8_2 (env : Env) (H : Heap) (kn : Value → Heap → Prop) (Q : Ending → Heap → Prop) (h : m8_2 (env 2) (env 6) (env 8) H kn Q) :
    RCode Tryd.prog 36 (codeAt [1, 1, 1, 1, 0] (bodyOf Tryd.f8)) env H (mkK (fun e H => kn (e 8) H) (fun _ _ _ => False) (retK T Tryd.f8.results.toList Q) (fun c H => Q (.panicked c) H)) :=
  RCode.prefix_ (T := T) (X := ext) (hint := hint8) (hole := (fun e H => L8_3 (e 6) (e 8) (e 21) (e 22) (e 23) H kn Q)) tok xok mixed 1 (by kernel_rfl) (by kernel_rfl : codeAt _ _ = (codeAt [1, 1, 1, 1, 0, 1] (bodyOf Tryd.f8))) h
    (fun e H h => (cL8_3 e H kn Q h))
def m8 (x0 x1 : Value) (H : Heap) (Q : Ending → Heap → Prop) : Prop :=
oNew (Value.cells x0).toList (Value.cells x0).toList.length 26 H fun i_14 H_15 =>
oV (vLoad ty26 (ptrTo i_14) H_15) fun t12_16 =>
oRC Tryd.prog 6 [t12_16, x1] H_15 (fun c H => Q (.panicked c) H) fun v_17 H_18 =>
oV (vExtract v_17 0) fun t15_19 =>
oV (vExtract v_17 1) fun t16_20 =>
oV (vInt .neq t16_20 (.int .i64 0)) fun t18_21 =>
condK t18_21 (
Q (.returned (.tuple #[(.slice none 0 0), t16_20])) H_18) (
m8_2 (ptrTo i_14) t15_19 (.slice none 0 0) H_18 (fun y8_22 H_23 => m8_1 y8_22 H_23 Q) Q)
theorem c8_0 (env : Env) (H : Heap) (Q : Ending → Heap → Prop) (h : m8 (env 0) (env 1) H Q) :
    RCode Tryd.prog 36 (bodyOf Tryd.f8) env H (mkK (retK T Tryd.f8.results.toList Q) (fun _ _ _ => False) (retK T Tryd.f8.results.toList Q) (fun c H => Q (.panicked c) H)) :=
  RCode.prefix_ (T := T) (X := ext) (hint := hint8) (hole := (fun e H => m8_2 (e 2) (e 6) (e 8) H (fun y8_24 H_25 => m8_1 y8_24 H_25 Q) Q)) tok xok mixed 4 (by kernel_rfl) (by kernel_rfl : codeAt _ _ = (codeAt [1, 1, 1, 1] (bodyOf Tryd.f8))) h
    (fun e H h => RCode.join (by kernel_rfl : (codeAt [1, 1, 1, 1] (bodyOf Tryd.f8)) = .seq (codeAt [1, 1, 1, 1, 0] (bodyOf Tryd.f8)) (codeAt [1, 1, 1, 1, 1] (bodyOf Tryd.f8))) ((c8_2 e H (fun y8_26 H_27 => m8_1 y8_26 H_27 Q) Q h).mono (mkK_mono (fun e H h => c8_1 e H Q h) (fun _ _ _ h => h) (fun _ _ h => h) (fun _ _ h => h))))
theorem call8 (a0 a1 : Value) (H : Heap) (Q : Ending → Heap → Prop) (h : m8 a0 a1 H Q) : RCalls Tryd.prog 8 [a0, a1] H Q :=
  RCalls.intro (nt := 36) tok Tryd.func8 (by kernel_rfl) (by kernel_rfl) (by kernel_rfl) (of_decide_eq_true (by kernel_rfl)) (c8_0 (envOf [a0, a1]) H Q h)
/-! ### 10: privity/privityref06.SameList -/
def hint10 : Nat → List Nat := lookupL [(6, [0, 1, 2, 3, 4, 5, 6, 7, 8])]
def m10_1 (H : Heap) (Q : Ending → Heap → Prop) : Prop :=
Q (.returned (.bool true)) H
theorem c10_1 (env : Env) (H : Heap) (Q : Ending → Heap → Prop) (h : m10_1 H Q) :
    RCode Tryd.prog 26 (codeAt [1, 1, 1] (bodyOf Tryd.f10)) env H (mkK (retK T Tryd.f10.results.toList Q) (fun _ _ _ => False) (retK T Tryd.f10.results.toList Q) (fun c H => Q (.panicked c) H)) :=
  RCode.leaf_ (T := T) (X := ext) (hint := hint10) tok xok mixed (by kernel_rfl) h
def L10_3 (x0 x1 x5 : Value) (H : Heap) (kn : Heap → Prop) (Q : Ending → Heap → Prop) : Prop :=
  ∀ env : Env, env 0 = x0 → env 1 = x1 → env 5 = x5 → RLoop Tryd.prog 26 (codeAt [1, 1, 0, 1, 0, 0] (bodyOf Tryd.f10)) env H (mkK (fun _ _ => False) (inK 0 (fun e H => kn H) (fun _ _ _ => False)) (retK T Tryd.f10.results.toList Q) (fun c H => Q (.panicked c) H))
theorem cL10_3 (env : Env) (H : Heap) (kn : Heap → Prop) (Q : Ending → Heap → Prop) (h : L10_3 (env 0) (env 1) (env 5) H kn Q) :
    RCode Tryd.prog 26 (codeAt [1, 1, 0, 1] (bodyOf Tryd.f10)) env H (mkK (fun e H => kn H) (fun _ _ _ => False) (retK T Tryd.f10.results.toList Q) (fun c H => Q (.panicked c) H)) :=
  RCode.blk (by kernel_rfl : (codeAt [1, 1, 0, 1] (bodyOf Tryd.f10)) = .block 0 (codeAt [1, 1, 0, 1, 0] (bodyOf Tryd.f10))) (RCode.lp (by kernel_rfl : (codeAt [1, 1, 0, 1, 0] (bodyOf Tryd.f10)) = .loop (codeAt [1, 1, 0, 1, 0, 0] (bodyOf Tryd.f10))) ((h env rfl rfl rfl).mono (mkK_mono (fun _ _ h => h.elim) (fun _ _ _ h => h) (fun _ _ h => h) (fun _ _ h => h))))
def m10_4 (x0 x1 x5 : Value) (H : Heap) (kn : Value → Value → Value → Heap → Prop) (kx0 : Heap → Prop) (Q : Ending → Heap → Prop) : Prop :=
oV (vLen x0) fun t13_1 =>
oV (vInt .lss x5 t13_1) fun t14_2 =>
condK t14_2 (
oV (vIdxS 1 x0 x5) fun t19_3 =>
oV (vLoad ty22 t19_3 H) fun t20_4 =>
oV (vIdxS 1 x1 x5) fun t23_5 =>
oV (vLoad ty22 t23_5 H) fun t24_6 =>
oV (vInt .neq t20_4 t24_6) fun t25_7 =>
condK t25_7 (
Q (.returned (.bool false)) H) (
oV (vInt .add x5 (.int .i64 1)) fun t16_8 =>
kn x0 x1 t16_8 H)) (
kx0 H)
theorem c10_4 (env : Env) (H : Heap) (kn : Value → Value → Value → Heap → Prop) (kx0 : Heap → Prop) (Q : Ending → Heap → Prop) (h : m10_4 (env 0) (env 1) (env 5) H kn kx0 Q) :
    RCode Tryd.prog 26 (codeAt [1, 1, 0, 1, 0, 0] (bodyOf Tryd.f10)) env H (mkK (fun e H => kn (e 0) (e 1) (e 5) H) (inK 0 (fun e H => kx0 H) (fun _ _ _ => False)) (retK T Tryd.f10.results.toList Q) (fun c H => Q (.panicked c) H)) :=
  RCode.leaf_ (T := T) (X := ext) (hint := hint10) tok xok mixed (by kernel_rfl) h
theorem L10_3_round (x0 x1 x5 : Value) (H : Heap) (kn : Heap → Prop) (Q : Ending → Heap → Prop) (h : m10_4 x0 x1 x5 H (fun y0 y1 y5 H => L10_3 y0 y1 y5 H kn Q) kn Q) : L10_3 x0 x1 x5 H kn Q := by
  intro env h0 h1 h5
  subst h0; subst h1; subst h5
  exact RLoop.round ((c10_4 env H (fun y0 y1 y5 H => L10_3 y0 y1 y5 H kn Q) kn Q h).mono (mkK_mono (fun e H h => h e rfl rfl rfl) (fun _ _ _ h => h) (fun _ _ h => h) (fun _ _ h => h)))
def m10_2 (x0 x1 : Value) (H : Heap) (kn : Heap → Prop) (Q : Ending → Heap → Prop) : Prop :=
L10_3 x0 x1 (.int .i64 0) H kn Q
theorem c10_2 (env : Env) (H : Heap) (kn : Heap → Prop) (Q : Ending → Heap → Prop) (h : m10_2 (env 0) (env 1) H kn Q) :
    RCode Tryd.prog 26 (codeAt [1, 1, 0] (bodyOf Tryd.f10)) env H (mkK (fun e H => kn H) (fun _ _ _ => False) (retK T Tryd.f10.results.toList Q) (fun c H => Q (.panicked c) H)) :=
  RCode.prefix_ (T := T) (X := ext) (hint := hint10) (hole := (fun e H => L10_3 (e 0) (e 1) (e 5) H kn Q)) tok xok mixed 1 (by kernel_rfl) (by kernel_rfl : codeAt _ _ = (codeAt [1, 1, 0, 1] (bodyOf Tryd.f10))) h
    (fun e H h => (cL10_3 e H kn Q h))
def m10 (x0 x1 : Value) (H : Heap) (Q : Ending → Heap → Prop) : Prop :=
oV (vLen x0) fun t7_9 =>
oV (vLen x1) fun t9_10 =>
oV (vInt .neq t7_9 t9_10) fun t10_11 =>
condK t10_11 (
Q (.returned (.bool false)) H) (
m10_2 x0 x1 H (fun H_12 => m10_1 H_12 Q) Q)
theorem c10_0 (env : Env) (H : Heap) (Q : Ending → Heap → Prop) (h : m10 (env 0) (env 1) H Q) :
    RCode Tryd.prog 26 (bodyOf Tryd.f10) env H (mkK (retK T Tryd.f10.results.toList Q) (fun _ _ _ => False) (retK T Tryd.f10.results.toList Q) (fun c H => Q (.panicked c) H)) :=
  RCode.prefix_ (T := T) (X := ext) (hint := hint10) (hole := (fun e H => m10_2 (e 0) (e 1) H (fun H_13 => m10_1 H_13 Q) Q)) tok xok mixed 2 (by kernel_rfl) (by kernel_rfl : codeAt _ _ = (codeAt [1, 1] (bodyOf Tryd.f10))) h
    (fun e H h => RCode.join (by kernel_rfl : (codeAt [1, 1] (bodyOf Tryd.f10)) = .seq (codeAt [1, 1, 0] (bodyOf Tryd.f10)) (codeAt [1, 1, 1] (bodyOf Tryd.f10))) ((c10_2 e H (fun H_14 => m10_1 H_14 Q) Q h).mono (mkK_mono (fun e H h => c10_1 e H Q h) (fun _ _ _ h => h) (fun _ _ h => h) (fun _ _ h => h))))
theorem call10 (a0 a1 : Value) (H : Heap) (Q : Ending → Heap → Prop) (h : m10 a0 a1 H Q) : RCalls Tryd.prog 10 [a0, a1] H Q :=
  RCalls.intro (nt := 26) tok Tryd.func10 (by kernel_rfl) (by kernel_rfl) (by kernel_rfl) (of_decide_eq_true (by kernel_rfl)) (c10_0 (envOf [a0, a1]) H Q h)
/-! ### 5: privity/privitylaw33.awake -/
def hint5 : Nat → List Nat := lookupL []
def m5 (H : Heap) (Q : Ending → Heap → Prop) : Prop :=
oV (vBuild ty37 [((0, 1), (.int .i64 1)), ((1, 1), (.int .i64 1))]) fun t11_1 =>
oV (vBuild ty37 [((0, 1), (.int .i64 1)), ((1, 1), (.int .i64 2))]) fun t12_2 =>
oV (vBuild ty37 [((0, 1), (.int .i64 6)), ((2, 1), (.int .i64 0)), ((3, 1), (.int .i64 1))]) fun t13_3 =>
oV (vBuild ty37 [((0, 1), (.int .i64 5)), ((4, 1), (.int .u64 3)), ((2, 1), (.int .i64 2))]) fun t14_4 =>
oBuildS ty37 37 4 [((0, 5), t11_1), ((5, 5), t12_2), ((10, 5), t13_3), ((15, 5), t14_4)] H fun s_5 H_6 =>
oBuildS ty3 3 1 [((0, 1), (.int .i64 3))] H_6 fun s_7 H_8 =>
oV (vBuild ty26 [((0, 1), (.int .u64 31)), ((1, 1), s_5), ((2, 1), s_7)]) fun t17_9 =>
oNew (Value.cells ty26.zero).toList (Value.cells ty26.zero).toList.length 26 H_8 fun i_10 H_11 =>
oHeap (vStore ty26 (ptrTo i_10) t17_9 H_11) fun H_12 =>
oV (vLoad ty26 (ptrTo i_10) H_12) fun t19_13 =>
oBuildS ty22 22 1 [((0, 1), (.int .u64 4))] H_12 fun s_14 H_15 =>
oBuildS ty22 22 1 [((0, 1), (.int .u64 5))] H_15 fun s_16 H_17 =>
oBuildS ty30 30 2 [((0, 1), s_14), ((1, 1), s_16)] H_17 fun s_18 H_19 =>
oRC Tryd.prog 8 [t19_13, s_18] H_19 (fun c H => Q (.panicked c) H) fun v_20 H_21 =>
oV (vExtract v_20 0) fun t24_22 =>
oV (vExtract v_20 1) fun t25_23 =>
oV (vLoad ty26 (ptrTo i_10) H_21) fun t27_24 =>
oBuildS ty22 22 1 [((0, 1), (.int .u64 4))] H_21 fun s_25 H_26 =>
oBuildS ty30 30 1 [((0, 1), s_25)] H_26 fun s_27 H_28 =>
oRC Tryd.prog 8 [t27_24, s_27] H_28 (fun c H => Q (.panicked c) H) fun v_29 H_30 =>
oV (vExtract v_29 0) fun t31_31 =>
oV (vExtract v_29 1) fun t32_32 =>
oV (vBuild ty37 [((0, 1), (.int .i64 1)), ((1, 1), (.int .i64 1))]) fun t33_33 =>
oV (vBuild ty37 [((0, 1), (.int .i64 1)), ((1, 1), (.int .i64 1)), ((4, 1), (.int .u64 1))]) fun t34_34 =>
oBuildS ty37 37 2 [((0, 5), t33_33), ((5, 5), t34_34)] H_30 fun s_35 H_36 =>
oBuildS ty3 3 2 [((0, 1), (.int .i64 0)), ((1, 1), (.int .i64 1))] H_36 fun s_37 H_38 =>
oV (vBuild ty26 [((0, 1), (.int .u64 31)), ((1, 1), s_35), ((2, 1), s_37)]) fun t37_39 =>
oNew (Value.cells ty26.zero).toList (Value.cells ty26.zero).toList.length 26 H_38 fun i_40 H_41 =>
oHeap (vStore ty26 (ptrTo i_40) t37_39 H_41) fun H_42 =>
oV (vLoad ty26 (ptrTo i_40) H_42) fun t39_43 =>
oBuildS ty22 22 2 [((0, 1), (.int .u64 7)), ((1, 1), (.int .u64 2))] H_42 fun s_44 H_45 =>
oBuildS ty30 30 1 [((0, 1), s_44)] H_45 fun s_46 H_47 =>
oRC Tryd.prog 8 [t39_43, s_46] H_47 (fun c H => Q (.panicked c) H) fun v_48 H_49 =>
oV (vExtract v_48 0) fun t43_50 =>
oV (vExtract v_48 1) fun t44_51 =>
oV (vLoad ty26 (ptrTo i_40) H_49) fun t46_52 =>
oBuildS ty22 22 2 [((0, 1), (.int .u64 7)), ((1, 1), (.int .u64 1))] H_49 fun s_53 H_54 =>
oBuildS ty30 30 1 [((0, 1), s_53)] H_54 fun s_55 H_56 =>
oRC Tryd.prog 8 [t46_52, s_55] H_56 (fun c H => Q (.panicked c) H) fun v_57 H_58 =>
oV (vExtract v_57 0) fun t50_59 =>
oV (vExtract v_57 1) fun t51_60 =>
oV (vInt .eql t25_23 (.int .i64 0)) fun t53_61 =>
oV (gV t53_61 true (some t24_22) (some undef)) fun t55_62 =>
letK (fun t56_64 H_65 =>
letK (fun t57_67 H_68 =>
oV (vPick t53_61 t57_67 (.bool false)) fun t58_69 =>
oV (gV t58_69 true (some t32_32) (some undef)) fun t60_70 =>
oV (gV t58_69 true (vInt .eql t60_70 (.int .i64 1)) (some undef)) fun t61_71 =>
oV (vPick t58_69 t61_71 (.bool false)) fun t62_72 =>
oV (gV t62_72 true (some t44_51) (some undef)) fun t64_73 =>
oV (gV t62_72 true (vInt .eql t64_73 (.int .i64 0)) (some undef)) fun t65_74 =>
oV (vPick t62_72 t65_74 (.bool false)) fun t66_75 =>
oV (gV t66_75 true (some t43_50) (some undef)) fun t68_76 =>
letK (fun t69_78 H_79 =>
letK (fun t70_81 H_82 =>
oV (vPick t66_75 t70_81 (.bool false)) fun t71_83 =>
oV (gV t71_83 true (some t51_60) (some undef)) fun t73_84 =>
oV (gV t71_83 true (vInt .eql t73_84 (.int .i64 0)) (some undef)) fun t74_85 =>
oV (vPick t71_83 t74_85 (.bool false)) fun t75_86 =>
oV (gV t75_86 true (some t50_59) (some undef)) fun t77_87 =>
letK (fun t78_89 H_90 =>
letK (fun t79_92 H_93 =>
oV (vPick t75_86 t79_92 (.bool false)) fun t80_94 =>
Q (.returned t80_94) H_93) fun k_91 => gK t75_86 true (oRC Tryd.prog 10 [t77_87, t78_89] H_90 (fun c H => Q (.panicked c) H) fun v_95 H_96 =>
k_91 v_95 H_96) (k_91 undef H_90)) fun k_88 => gK t75_86 true (oBuildS ty22 22 2 [((0, 1), (.int .u64 7)), ((1, 1), (.int .u64 1))] H_82 fun s_97 H_98 =>
k_88 s_97 H_98) (k_88 undef H_82)) fun k_80 => gK t66_75 true (oRC Tryd.prog 10 [t68_76, t69_78] H_79 (fun c H => Q (.panicked c) H) fun v_99 H_100 =>
k_80 v_99 H_100) (k_80 undef H_79)) fun k_77 => gK t66_75 true (oBuildS ty22 22 2 [((0, 1), (.int .u64 0)), ((1, 1), (.int .u64 0))] H_68 fun s_101 H_102 =>
k_77 s_101 H_102) (k_77 undef H_68)) fun k_66 => gK t53_61 true (oRC Tryd.prog 10 [t55_62, t56_64] H_65 (fun c H => Q (.panicked c) H) fun v_103 H_104 =>
k_66 v_103 H_104) (k_66 undef H_65)) fun k_63 => gK t53_61 true (oBuildS ty22 22 1 [((0, 1), (.int .u64 29))] H_58 fun s_105 H_106 =>
k_63 s_105 H_106) (k_63 undef H_58)
theorem c5_0 (env : Env) (H : Heap) (Q : Ending → Heap → Prop) (h : m5 H Q) :
    RCode Tryd.prog 81 (bodyOf Tryd.f5) env H (mkK (retK T Tryd.f5.results.toList Q) (fun _ _ _ => False) (retK T Tryd.f5.results.toList Q) (fun c H => Q (.panicked c) H)) :=
  RCode.leaf_ (T := T) (X := ext) (hint := hint5) tok xok mixed (by kernel_rfl) h
theorem call5 (H : Heap) (Q : Ending → Heap → Prop) (h : m5 H Q) : RCalls Tryd.prog 5 [] H Q :=
  RCalls.intro (nt := 81) tok Tryd.func5 (by kernel_rfl) (by kernel_rfl) (by kernel_rfl) (of_decide_eq_true (by kernel_rfl)) (c5_0 (envOf []) H Q h)
/-! ### 31: privity/privityref01.exps -/
def hint31 : Nat → List Nat := lookupL []
def m31 (H : Heap) (Q : Ending → Heap → Prop) : Prop :=
oBuildS ty3 3 7 [((0, 1), (.int .i64 5)), ((1, 1), (.int .i64 7)), ((2, 1), (.int .i64 13)), ((3, 1), (.int .i64 17)), ((4, 1), (.int .i64 19)), ((5, 1), (.int .i64 31)), ((6, 1), (.int .i64 61))] H fun s_1 H_2 =>
Q (.returned s_1) H_2
theorem c31_0 (env : Env) (H : Heap) (Q : Ending → Heap → Prop) (h : m31 H Q) :
    RCode Tryd.prog 2 (bodyOf Tryd.f31) env H (mkK (retK T Tryd.f31.results.toList Q) (fun _ _ _ => False) (retK T Tryd.f31.results.toList Q) (fun c H => Q (.panicked c) H)) :=
  RCode.leaf_ (T := T) (X := ext) (hint := hint31) tok xok mixed (by kernel_rfl) h
theorem call31 (H : Heap) (Q : Ending → Heap → Prop) (h : m31 H Q) : RCalls Tryd.prog 31 [] H Q :=
  RCalls.intro (nt := 2) tok Tryd.func31 (by kernel_rfl) (by kernel_rfl) (by kernel_rfl) (of_decide_eq_true (by kernel_rfl)) (c31_0 (envOf []) H Q h)
/-! ### 30: privity/privityref01.Exponent -/
def hint30 : Nat → List Nat := lookupL []
def m30_1 (H : Heap) (Q : Ending → Heap → Prop) : Prop :=
Q (.returned (.int .i64 0)) H
theorem c30_1 (env : Env) (H : Heap) (Q : Ending → Heap → Prop) (h : m30_1 H Q) :
    RCode Tryd.prog 25 (codeAt [1, 1, 1] (bodyOf Tryd.f30)) env H (mkK (retK T Tryd.f30.results.toList Q) (fun _ _ _ => False) (retK T Tryd.f30.results.toList Q) (fun c H => Q (.panicked c) H)) :=
  RCode.leaf_ (T := T) (X := ext) (hint := hint30) tok xok mixed (by kernel_rfl) h
def L30_3 (x0 x3 x4 : Value) (H : Heap) (kn : Heap → Prop) (Q : Ending → Heap → Prop) : Prop :=
  ∀ env : Env, env 0 = x0 → env 3 = x3 → env 4 = x4 → RLoop Tryd.prog 25 (codeAt [1, 1, 0, 1, 0, 0] (bodyOf Tryd.f30)) env H (mkK (fun _ _ => False) (inK 0 (fun e H => kn H) (fun _ _ _ => False)) (retK T Tryd.f30.results.toList Q) (fun c H => Q (.panicked c) H))
theorem cL30_3 (env : Env) (H : Heap) (kn : Heap → Prop) (Q : Ending → Heap → Prop) (h : L30_3 (env 0) (env 3) (env 4) H kn Q) :
    RCode Tryd.prog 25 (codeAt [1, 1, 0, 1] (bodyOf Tryd.f30)) env H (mkK (fun e H => kn H) (fun _ _ _ => False) (retK T Tryd.f30.results.toList Q) (fun c H => Q (.panicked c) H)) :=
  RCode.blk (by kernel_rfl : (codeAt [1, 1, 0, 1] (bodyOf Tryd.f30)) = .block 0 (codeAt [1, 1, 0, 1, 0] (bodyOf Tryd.f30))) (RCode.lp (by kernel_rfl : (codeAt [1, 1, 0, 1, 0] (bodyOf Tryd.f30)) = .loop (codeAt [1, 1, 0, 1, 0, 0] (bodyOf Tryd.f30))) ((h env rfl rfl rfl).mono (mkK_mono (fun _ _ h => h.elim) (fun _ _ _ h => h) (fun _ _ h => h) (fun _ _ h => h))))
def m30_4 (x0 x3 x4 : Value) (H : Heap) (kn : Value → Value → Value → Heap → Prop) (kx0 : Heap → Prop) (Q : Ending → Heap → Prop) : Prop :=
oV (vLen x3) fun t8_1 =>
oV (vInt .lss x4 t8_1) fun t9_2 =>
condK t9_2 (
oV (vIdxS 1 x3 x4) fun t15_3 =>
oV (vLoad ty3 t15_3 H) fun t16_4 =>
oV (vConv (.int .u64) t16_4) fun t17_5 =>
oV (vInt .shl (.int .u64 1) t17_5) fun t18_6 =>
oV (vInt .sub t18_6 (.int .u64 1)) fun t19_7 =>
oV (vInt .eql x0 t19_7) fun t20_8 =>
condK t20_8 (
oV (vIdxS 1 x3 x4) fun t23_9 =>
oV (vLoad ty3 t23_9 H) fun t24_10 =>
Q (.returned t24_10) H) (
oV (vInt .add x4 (.int .i64 1)) fun t11_11 =>
kn x0 x3 t11_11 H)) (
kx0 H)
theorem c30_4 (env : Env) (H : Heap) (kn : Value → Value → Value → Heap → Prop) (kx0 : Heap → Prop) (Q : Ending → Heap → Prop) (h : m30_4 (env 0) (env 3) (env 4) H kn kx0 Q) :
    RCode Tryd.prog 25 (codeAt [1, 1, 0, 1, 0, 0] (bodyOf Tryd.f30)) env H (mkK (fun e H => kn (e 0) (e 3) (e 4) H) (inK 0 (fun e H => kx0 H) (fun _ _ _ => False)) (retK T Tryd.f30.results.toList Q) (fun c H => Q (.panicked c) H)) :=
  RCode.leaf_ (T := T) (X := ext) (hint := hint30) tok xok mixed (by kernel_rfl) h
theorem L30_3_round (x0 x3 x4 : Value) (H : Heap) (kn : Heap → Prop) (Q : Ending → Heap → Prop) (h : m30_4 x0 x3 x4 H (fun y0 y3 y4 H => L30_3 y0 y3 y4 H kn Q) kn Q) : L30_3 x0 x3 x4 H kn Q := by
  intro env h0 h3 h4
  subst h0; subst h3; subst h4
  exact RLoop.round ((c30_4 env H (fun y0 y3 y4 H => L30_3 y0 y3 y4 H kn Q) kn Q h).mono (mkK_mono (fun e H h => h e rfl rfl rfl) (fun _ _ _ h => h) (fun _ _ h => h) (fun _ _ h => h)))
def m30_2 (x0 x3 : Value) (H : Heap) (kn : Heap → Prop) (Q : Ending → Heap → Prop) : Prop :=
L30_3 x0 x3 (.int .i64 0) H kn Q
theorem c30_2 (env : Env) (H : Heap) (kn : Heap → Prop) (Q : Ending → Heap → Prop) (h : m30_2 (env 0) (env 3) H kn Q) :
    RCode Tryd.prog 25 (codeAt [1, 1, 0] (bodyOf Tryd.f30)) env H (mkK (fun e H => kn H) (fun _ _ _ => False) (retK T Tryd.f30.results.toList Q) (fun c H => Q (.panicked c) H)) :=
  RCode.prefix_ (T := T) (X := ext) (hint := hint30) (hole := (fun e H => L30_3 (e 0) (e 3) (e 4) H kn Q)) tok xok mixed 1 (by kernel_rfl) (by kernel_rfl : codeAt _ _ = (codeAt [1, 1, 0, 1] (bodyOf Tryd.f30))) h
    (fun e H h => (cL30_3 e H kn Q h))
def m30 (x0 : Value) (H : Heap) (Q : Ending → Heap → Prop) : Prop :=
oRC Tryd.prog 31 [] H (fun c H => Q (.panicked c) H) fun v_12 H_13 =>
m30_2 x0 v_12 H_13 (fun H_14 => m30_1 H_14 Q) Q
theorem c30_0 (env : Env) (H : Heap) (Q : Ending → Heap → Prop) (h : m30 (env 0) H Q) :
    RCode Tryd.prog 25 (bodyOf Tryd.f30) env H (mkK (retK T Tryd.f30.results.toList Q) (fun _ _ _ => False) (retK T Tryd.f30.results.toList Q) (fun c H => Q (.panicked c) H)) :=
  RCode.prefix_ (T := T) (X := ext) (hint := hint30) (hole := (fun e H => m30_2 (e 0) (e 3) H (fun H_15 => m30_1 H_15 Q) Q)) tok xok mixed 2 (by kernel_rfl) (by kernel_rfl : codeAt _ _ = (codeAt [1, 1] (bodyOf Tryd.f30))) h
    (fun e H h => RCode.join (by kernel_rfl : (codeAt [1, 1] (bodyOf Tryd.f30)) = .seq (codeAt [1, 1, 0] (bodyOf Tryd.f30)) (codeAt [1, 1, 1] (bodyOf Tryd.f30))) ((c30_2 e H (fun H_16 => m30_1 H_16 Q) Q h).mono (mkK_mono (fun e H h => c30_1 e H Q h) (fun _ _ _ h => h) (fun _ _ h => h) (fun _ _ h => h))))
theorem call30 (a0 : Value) (H : Heap) (Q : Ending → Heap → Prop) (h : m30 a0 H Q) : RCalls Tryd.prog 30 [a0] H Q :=
  RCalls.intro (nt := 25) tok Tryd.func30 (by kernel_rfl) (by kernel_rfl) (by kernel_rfl) (of_decide_eq_true (by kernel_rfl)) (c30_0 (envOf [a0]) H Q h)
/-! ### 23: privity/privityref01.Supported -/
def hint23 : Nat → List Nat := lookupL []
def m23 (x0 : Value) (H : Heap) (Q : Ending → Heap → Prop) : Prop :=
oRC Tryd.prog 30 [x0] H (fun c H => Q (.panicked c) H) fun v_1 H_2 =>
oV (vInt .gtr v_1 (.int .i64 0)) fun t5_3 =>
Q (.returned t5_3) H_2
theorem c23_0 (env : Env) (H : Heap) (Q : Ending → Heap → Prop) (h : m23 (env 0) H Q) :
    RCode Tryd.prog 6 (bodyOf Tryd.f23) env H (mkK (retK T Tryd.f23.results.toList Q) (fun _ _ _ => False) (retK T Tryd.f23.results.toList Q) (fun c H => Q (.panicked c) H)) :=
  RCode.leaf_ (T := T) (X := ext) (hint := hint23) tok xok mixed (by kernel_rfl) h
theorem call23 (a0 : Value) (H : Heap) (Q : Ending → Heap → Prop) (h : m23 a0 H Q) : RCalls Tryd.prog 23 [a0] H Q :=
  RCalls.intro (nt := 6) tok Tryd.func23 (by kernel_rfl) (by kernel_rfl) (by kernel_rfl) (of_decide_eq_true (by kernel_rfl)) (c23_0 (envOf [a0]) H Q h)
/-! ### 24: privity/privityref32.gate -/
def hint24 : Nat → List Nat := lookupL [(4, [0, 1, 2, 3, 4, 5, 6, 7]), (10, [0, 1, 2, 3, 4, 5, 6, 7]), (15, [0, 1, 2, 3, 4, 5, 6, 7])]
def m24 (x0 x1 x2 : Value) (H : Heap) (Q : Ending → Heap → Prop) : Prop :=
oNew (Value.cells x2).toList (Value.cells x2).toList.length 37 H fun i_1 H_2 =>
oV (vField 0 (ptrTo i_1)) fun t8_3 =>
oV (vLoad ty3 t8_3 H_2) fun t9_4 =>
oV (vBuild ty37 [((0, 1), t9_4)]) fun t10_5 =>
oNew (Value.cells ty37.zero).toList (Value.cells ty37.zero).toList.length 37 H_2 fun i_6 H_7 =>
oHeap (vStore ty37 (ptrTo i_6) t10_5 H_7) fun H_8 =>
oV (vField 0 (ptrTo i_1)) fun t11_9 =>
oV (vLoad ty3 t11_9 H_8) fun t12_10 =>
oV (vInt .eql t12_10 (.int .i64 1)) fun t14_11 =>
condK t14_11 (
oV (vField 1 (ptrTo i_1)) fun t15_12 =>
oV (vLoad ty3 t15_12 H_8) fun t16_13 =>
oV (vField 4 (ptrTo i_1)) fun t17_14 =>
oV (vLoad ty22 t17_14 H_8) fun t18_15 =>
oV (vField 1 (ptrTo i_6)) fun t19_16 =>
oHeap (vStore ty3 t19_16 t16_13 H_8) fun H_17 =>
(vLoad ty22 t17_14 H_17 = some t18_15 ∧
oV (vField 4 (ptrTo i_6)) fun t20_18 =>
oHeap (vStore ty22 t20_18 t18_15 H_17) fun H_19 =>
oV (vLoad ty37 (ptrTo i_1) H_19) fun t21_20 =>
oV (vLoad ty37 (ptrTo i_6) H_19) fun t22_21 =>
oV (vAggOp 5 .eql t21_20 t22_21) fun t23_22 =>
oV (gV t23_22 true (vField 1 (ptrTo i_1)) (some undef)) fun t25_23 =>
oV (gV t23_22 true (vLoad ty3 t25_23 H_19) (some undef)) fun t26_24 =>
oV (gV t23_22 true (vInt .geq t26_24 (.int .i64 1)) (some undef)) fun t27_25 =>
oV (vPick t23_22 t27_25 (.bool false)) fun t28_26 =>
oV (gV t28_26 true (vField 1 (ptrTo i_1)) (some undef)) fun t30_27 =>
oV (gV t28_26 true (vLoad ty3 t30_27 H_19) (some undef)) fun t31_28 =>
oV (gV t28_26 true (vInt .leq t31_28 (.int .i64 13)) (some undef)) fun t32_29 =>
oV (vPick t28_26 t32_29 (.bool false)) fun t33_30 =>
oV (gV t33_30 true (vField 4 (ptrTo i_1)) (some undef)) fun t35_31 =>
oV (gV t33_30 true (vLoad ty22 t35_31 H_19) (some undef)) fun t36_32 =>
oV (gV t33_30 true (vInt .leq t36_32 (.int .u64 1)) (some undef)) fun t37_33 =>
oV (vPick t33_30 t37_33 (.bool false)) fun t38_34 =>
Q (.returned t38_34) H_19)) (
oV (vInt .eql t12_10 (.int .i64 2)) fun t40_35 =>
condK t40_35 (
oV (vField 4 (ptrTo i_1)) fun t41_36 =>
oV (vLoad ty22 t41_36 H_8) fun t42_37 =>
oV (vField 4 (ptrTo i_6)) fun t43_38 =>
oHeap (vStore ty22 t43_38 t42_37 H_8) fun H_39 =>
oV (vLoad ty37 (ptrTo i_1) H_39) fun t44_40 =>
oV (vLoad ty37 (ptrTo i_6) H_39) fun t45_41 =>
oV (vAggOp 5 .eql t44_40 t45_41) fun t46_42 =>
oV (gV t46_42 true (vField 4 (ptrTo i_1)) (some undef)) fun t48_43 =>
oV (gV t46_42 true (vLoad ty22 t48_43 H_39) (some undef)) fun t49_44 =>
oV (gV t46_42 true (some x0) (some undef)) fun t50_45 =>
oV (gV t46_42 true (vInt .lss t49_44 t50_45) (some undef)) fun t51_46 =>
oV (vPick t46_42 t51_46 (.bool false)) fun t52_47 =>
Q (.returned t52_47) H_39) (
oV (vInt .eql t12_10 (.int .i64 5)) fun t54_48 =>
condK t54_48 (
oV (vField 4 (ptrTo i_1)) fun t55_49 =>
oV (vLoad ty22 t55_49 H_8) fun t56_50 =>
oV (vField 2 (ptrTo i_1)) fun t57_51 =>
oV (vLoad ty3 t57_51 H_8) fun t58_52 =>
oV (vField 4 (ptrTo i_6)) fun t59_53 =>
oHeap (vStore ty22 t59_53 t56_50 H_8) fun H_54 =>
(vLoad ty3 t57_51 H_54 = some t58_52 ∧
oV (vField 2 (ptrTo i_6)) fun t60_55 =>
oHeap (vStore ty3 t60_55 t58_52 H_54) fun H_56 =>
oV (vLoad ty37 (ptrTo i_1) H_56) fun t61_57 =>
oV (vLoad ty37 (ptrTo i_6) H_56) fun t62_58 =>
oV (vAggOp 5 .eql t61_57 t62_58) fun t63_59 =>
oV (gV t63_59 true (vField 4 (ptrTo i_1)) (some undef)) fun t65_60 =>
oV (gV t63_59 true (vLoad ty22 t65_60 H_56) (some undef)) fun t66_61 =>
oV (gV t63_59 true (some x0) (some undef)) fun t67_62 =>
oV (gV t63_59 true (vInt .lss t66_61 t67_62) (some undef)) fun t68_63 =>
oV (vPick t63_59 t68_63 (.bool false)) fun t69_64 =>
oV (gV t69_64 true (vField 2 (ptrTo i_1)) (some undef)) fun t71_65 =>
oV (gV t69_64 true (vLoad ty3 t71_65 H_56) (some undef)) fun t72_66 =>
oV (gV t69_64 true (vInt .geq t72_66 (.int .i64 0)) (some undef)) fun t73_67 =>
oV (vPick t69_64 t73_67 (.bool false)) fun t74_68 =>
oV (gV t74_68 true (vField 2 (ptrTo i_1)) (some undef)) fun t76_69 =>
oV (gV t74_68 true (vLoad ty3 t76_69 H_56) (some undef)) fun t77_70 =>
oV (gV t74_68 true (some x1) (some undef)) fun t78_71 =>
oV (gV t74_68 true (vInt .lss t77_70 t78_71) (some undef)) fun t79_72 =>
oV (vPick t74_68 t79_72 (.bool false)) fun t80_73 =>
Q (.returned t80_73) H_56)) (
oV (vInt .eql t12_10 (.int .i64 3)) fun t82_74 =>
condK t82_74 (
condK t82_74 (
oV (vField 2 (ptrTo i_1)) fun t85_75 =>
oV (vLoad ty3 t85_75 H_8) fun t86_76 =>
oV (vField 3 (ptrTo i_1)) fun t87_77 =>
oV (vLoad ty3 t87_77 H_8) fun t88_78 =>
oV (vField 2 (ptrTo i_6)) fun t89_79 =>
oHeap (vStore ty3 t89_79 t86_76 H_8) fun H_80 =>
(vLoad ty3 t87_77 H_80 = some t88_78 ∧
oV (vField 3 (ptrTo i_6)) fun t90_81 =>
oHeap (vStore ty3 t90_81 t88_78 H_80) fun H_82 =>
oV (vLoad ty37 (ptrTo i_1) H_82) fun t91_83 =>
oV (vLoad ty37 (ptrTo i_6) H_82) fun t92_84 =>
oV (vAggOp 5 .eql t91_83 t92_84) fun t93_85 =>
oV (gV t93_85 true (vField 2 (ptrTo i_1)) (some undef)) fun t95_86 =>
oV (gV t93_85 true (vLoad ty3 t95_86 H_82) (some undef)) fun t96_87 =>
oV (gV t93_85 true (vInt .geq t96_87 (.int .i64 0)) (some undef)) fun t97_88 =>
oV (vPick t93_85 t97_88 (.bool false)) fun t98_89 =>
oV (gV t98_89 true (vField 2 (ptrTo i_1)) (some undef)) fun t100_90 =>
oV (gV t98_89 true (vLoad ty3 t100_90 H_82) (some undef)) fun t101_91 =>
oV (gV t98_89 true (some x1) (some undef)) fun t102_92 =>
oV (gV t98_89 true (vInt .lss t101_91 t102_92) (some undef)) fun t103_93 =>
oV (vPick t98_89 t103_93 (.bool false)) fun t104_94 =>
oV (gV t104_94 true (vField 3 (ptrTo i_1)) (some undef)) fun t106_95 =>
oV (gV t104_94 true (vLoad ty3 t106_95 H_82) (some undef)) fun t107_96 =>
oV (gV t104_94 true (vInt .geq t107_96 (.int .i64 0)) (some undef)) fun t108_97 =>
oV (vPick t104_94 t108_97 (.bool false)) fun t109_98 =>
oV (gV t109_98 true (vField 3 (ptrTo i_1)) (some undef)) fun t111_99 =>
oV (gV t109_98 true (vLoad ty3 t111_99 H_82) (some undef)) fun t112_100 =>
oV (gV t109_98 true (some x1) (some undef)) fun t113_101 =>
oV (gV t109_98 true (vInt .lss t112_100 t113_101) (some undef)) fun t114_102 =>
oV (vPick t109_98 t114_102 (.bool false)) fun t115_103 =>
Q (.returned t115_103) H_82)) (
Q (.returned (.bool false)) H_8)) (
oV (vInt .eql t12_10 (.int .i64 4)) fun t83_104 =>
condK t83_104 (
condK t83_104 (
oV (vField 2 (ptrTo i_1)) fun t85_105 =>
oV (vLoad ty3 t85_105 H_8) fun t86_106 =>
oV (vField 3 (ptrTo i_1)) fun t87_107 =>
oV (vLoad ty3 t87_107 H_8) fun t88_108 =>
oV (vField 2 (ptrTo i_6)) fun t89_109 =>
oHeap (vStore ty3 t89_109 t86_106 H_8) fun H_110 =>
(vLoad ty3 t87_107 H_110 = some t88_108 ∧
oV (vField 3 (ptrTo i_6)) fun t90_111 =>
oHeap (vStore ty3 t90_111 t88_108 H_110) fun H_112 =>
oV (vLoad ty37 (ptrTo i_1) H_112) fun t91_113 =>
oV (vLoad ty37 (ptrTo i_6) H_112) fun t92_114 =>
oV (vAggOp 5 .eql t91_113 t92_114) fun t93_115 =>
oV (gV t93_115 true (vField 2 (ptrTo i_1)) (some undef)) fun t95_116 =>
oV (gV t93_115 true (vLoad ty3 t95_116 H_112) (some undef)) fun t96_117 =>
oV (gV t93_115 true (vInt .geq t96_117 (.int .i64 0)) (some undef)) fun t97_118 =>
oV (vPick t93_115 t97_118 (.bool false)) fun t98_119 =>
oV (gV t98_119 true (vField 2 (ptrTo i_1)) (some undef)) fun t100_120 =>
oV (gV t98_119 true (vLoad ty3 t100_120 H_112) (some undef)) fun t101_121 =>
oV (gV t98_119 true (some x1) (some undef)) fun t102_122 =>
oV (gV t98_119 true (vInt .lss t101_121 t102_122) (some undef)) fun t103_123 =>
oV (vPick t98_119 t103_123 (.bool false)) fun t104_124 =>
oV (gV t104_124 true (vField 3 (ptrTo i_1)) (some undef)) fun t106_125 =>
oV (gV t104_124 true (vLoad ty3 t106_125 H_112) (some undef)) fun t107_126 =>
oV (gV t104_124 true (vInt .geq t107_126 (.int .i64 0)) (some undef)) fun t108_127 =>
oV (vPick t104_124 t108_127 (.bool false)) fun t109_128 =>
oV (gV t109_128 true (vField 3 (ptrTo i_1)) (some undef)) fun t111_129 =>
oV (gV t109_128 true (vLoad ty3 t111_129 H_112) (some undef)) fun t112_130 =>
oV (gV t109_128 true (some x1) (some undef)) fun t113_131 =>
oV (gV t109_128 true (vInt .lss t112_130 t113_131) (some undef)) fun t114_132 =>
oV (vPick t109_128 t114_132 (.bool false)) fun t115_133 =>
Q (.returned t115_133) H_112)) (
Q (.returned (.bool false)) H_8)) (
oV (vInt .eql t12_10 (.int .i64 6)) fun t84_134 =>
condK t84_134 (
oV (vField 2 (ptrTo i_1)) fun t85_135 =>
oV (vLoad ty3 t85_135 H_8) fun t86_136 =>
oV (vField 3 (ptrTo i_1)) fun t87_137 =>
oV (vLoad ty3 t87_137 H_8) fun t88_138 =>
oV (vField 2 (ptrTo i_6)) fun t89_139 =>
oHeap (vStore ty3 t89_139 t86_136 H_8) fun H_140 =>
(vLoad ty3 t87_137 H_140 = some t88_138 ∧
oV (vField 3 (ptrTo i_6)) fun t90_141 =>
oHeap (vStore ty3 t90_141 t88_138 H_140) fun H_142 =>
oV (vLoad ty37 (ptrTo i_1) H_142) fun t91_143 =>
oV (vLoad ty37 (ptrTo i_6) H_142) fun t92_144 =>
oV (vAggOp 5 .eql t91_143 t92_144) fun t93_145 =>
oV (gV t93_145 true (vField 2 (ptrTo i_1)) (some undef)) fun t95_146 =>
oV (gV t93_145 true (vLoad ty3 t95_146 H_142) (some undef)) fun t96_147 =>
oV (gV t93_145 true (vInt .geq t96_147 (.int .i64 0)) (some undef)) fun t97_148 =>
oV (vPick t93_145 t97_148 (.bool false)) fun t98_149 =>
oV (gV t98_149 true (vField 2 (ptrTo i_1)) (some undef)) fun t100_150 =>
oV (gV t98_149 true (vLoad ty3 t100_150 H_142) (some undef)) fun t101_151 =>
oV (gV t98_149 true (some x1) (some undef)) fun t102_152 =>
oV (gV t98_149 true (vInt .lss t101_151 t102_152) (some undef)) fun t103_153 =>
oV (vPick t98_149 t103_153 (.bool false)) fun t104_154 =>
oV (gV t104_154 true (vField 3 (ptrTo i_1)) (some undef)) fun t106_155 =>
oV (gV t104_154 true (vLoad ty3 t106_155 H_142) (some undef)) fun t107_156 =>
oV (gV t104_154 true (vInt .geq t107_156 (.int .i64 0)) (some undef)) fun t108_157 =>
oV (vPick t104_154 t108_157 (.bool false)) fun t109_158 =>
oV (gV t109_158 true (vField 3 (ptrTo i_1)) (some undef)) fun t111_159 =>
oV (gV t109_158 true (vLoad ty3 t111_159 H_142) (some undef)) fun t112_160 =>
oV (gV t109_158 true (some x1) (some undef)) fun t113_161 =>
oV (gV t109_158 true (vInt .lss t112_160 t113_161) (some undef)) fun t114_162 =>
oV (vPick t109_158 t114_162 (.bool false)) fun t115_163 =>
Q (.returned t115_163) H_142)) (
Q (.returned (.bool false)) H_8))))))
theorem c24_0 (env : Env) (H : Heap) (Q : Ending → Heap → Prop) (h : m24 (env 0) (env 1) (env 2) H Q) :
    RCode Tryd.prog 116 (bodyOf Tryd.f24) env H (mkK (retK T Tryd.f24.results.toList Q) (fun _ _ _ => False) (retK T Tryd.f24.results.toList Q) (fun c H => Q (.panicked c) H)) :=
  RCode.leaf_ (T := T) (X := ext) (hint := hint24) tok xok mixed (by kernel_rfl) h
theorem call24 (a0 a1 a2 : Value) (H : Heap) (Q : Ending → Heap → Prop) (h : m24 a0 a1 a2 H Q) : RCalls Tryd.prog 24 [a0, a1, a2] H Q :=
  RCalls.intro (nt := 116) tok Tryd.func24 (by kernel_rfl) (by kernel_rfl) (by kernel_rfl) (of_decide_eq_true (by kernel_rfl)) (c24_0 (envOf [a0, a1, a2]) H Q h)
/-! ### 13: privity/privityref32.Valid -/
def hint13 : Nat → List Nat := lookupL [(6, [0, 1, 2, 3, 4, 5, 6, 7, 8, 9]), (11, [0, 1, 2, 3, 4, 5, 6, 7, 8, 9, 10, 11, 12, 13, 14, 15, 16])]
def m13_2 (H : Heap) (Q : Ending → Heap → Prop) : Prop :=
Q (.returned (.bool true)) H
theorem c13_2 (env : Env) (H : Heap) (Q : Ending → Heap → Prop) (h : m13_2 H Q) :
    RCode Tryd.prog 62 (codeAt [1, 1, 1, 1] (bodyOf Tryd.f13)) env H (mkK (retK T Tryd.f13.results.toList Q) (fun _ _ _ => False) (retK T Tryd.f13.results.toList Q) (fun c H => Q (.panicked c) H)) :=
  RCode.leaf_ (T := T) (X := ext) (hint := hint13) tok xok mixed (by kernel_rfl) h
def L13_4 (x1 x4 : Value) (H : Heap) (kn : Heap → Prop) (Q : Ending → Heap → Prop) : Prop :=
  ∀ env : Env, env 1 = x1 → env 4 = x4 → RLoop Tryd.prog 62 (codeAt [1, 1, 1, 0, 1, 0, 0] (bodyOf Tryd.f13)) env H (mkK (fun _ _ => False) (inK 2 (fun e H => kn H) (fun _ _ _ => False)) (retK T Tryd.f13.results.toList Q) (fun c H => Q (.panicked c) H))
theorem cL13_4 (env : Env) (H : Heap) (kn : Heap → Prop) (Q : Ending → Heap → Prop) (h : L13_4 (env 1) (env 4) H kn Q) :
    RCode Tryd.prog 62 (codeAt [1, 1, 1, 0, 1] (bodyOf Tryd.f13)) env H (mkK (fun e H => kn H) (fun _ _ _ => False) (retK T Tryd.f13.results.toList Q) (fun c H => Q (.panicked c) H)) :=
  RCode.blk (by kernel_rfl : (codeAt [1, 1, 1, 0, 1] (bodyOf Tryd.f13)) = .block 2 (codeAt [1, 1, 1, 0, 1, 0] (bodyOf Tryd.f13))) (RCode.lp (by kernel_rfl : (codeAt [1, 1, 1, 0, 1, 0] (bodyOf Tryd.f13)) = .loop (codeAt [1, 1, 1, 0, 1, 0, 0] (bodyOf Tryd.f13))) ((h env rfl rfl).mono (mkK_mono (fun _ _ h => h.elim) (fun _ _ _ h => h) (fun _ _ h => h) (fun _ _ h => h))))
def m13_5 (x1 x4 : Value) (H : Heap) (kn : Value → Value → Heap → Prop) (kx2 : Heap → Prop) (Q : Ending → Heap → Prop) : Prop :=
oV (vField 2 x1) fun t39_1 =>
oV (vLoad ty24 t39_1 H) fun t40_2 =>
oV (vLen t40_2) fun t41_3 =>
oV (vInt .lss x4 t41_3) fun t42_4 =>
condK t42_4 (
oV (vField 2 x1) fun t45_5 =>
oV (vLoad ty24 t45_5 H) fun t46_6 =>
oV (vIdxS 1 t46_6 x4) fun t48_7 =>
oV (vLoad ty3 t48_7 H) fun t49_8 =>
oV (vInt .lss t49_8 (.int .i64 0)) fun t50_9 =>
oV (gV t50_9 false (vField 2 x1) (some undef)) fun t52_10 =>
oV (gV t50_9 false (vLoad ty24 t52_10 H) (some undef)) fun t53_11 =>
oV (gV t50_9 false (some x4) (some undef)) fun t54_12 =>
oV (gV t50_9 false (vIdxS 1 t53_11 t54_12) (some undef)) fun t55_13 =>
oV (gV t50_9 false (vLoad ty3 t55_13 H) (some undef)) fun t56_14 =>
oV (gV t50_9 false (vField 1 x1) (some undef)) fun t57_15 =>
oV (gV t50_9 false (vLoad ty23 t57_15 H) (some undef)) fun t58_16 =>
oV (gV t50_9 false (vLen t58_16) (some undef)) fun t59_17 =>
oV (gV t50_9 false (vInt .geq t56_14 t59_17) (some undef)) fun t60_18 =>
oV (vPick t50_9 (.bool true) t60_18) fun t61_19 =>
condK t61_19 (
Q (.returned (.bool false)) H) (
oV (vInt .add x4 (.int .i64 1)) fun t44_20 =>
kn x1 t44_20 H)) (
kx2 H)
theorem c13_5 (env : Env) (H : Heap) (kn : Value → Value → Heap → Prop) (kx2 : Heap → Prop) (Q : Ending → Heap → Prop) (h : m13_5 (env 1) (env 4) H kn kx2 Q) :
    RCode Tryd.prog 62 (codeAt [1, 1, 1, 0, 1, 0, 0] (bodyOf Tryd.f13)) env H (mkK (fun e H => kn (e 1) (e 4) H) (inK 2 (fun e H => kx2 H) (fun _ _ _ => False)) (retK T Tryd.f13.results.toList Q) (fun c H => Q (.panicked c) H)) :=
  RCode.leaf_ (T := T) (X := ext) (hint := hint13) tok xok mixed (by kernel_rfl) h
theorem L13_4_round (x1 x4 : Value) (H : Heap) (kn : Heap → Prop) (Q : Ending → Heap → Prop) (h : m13_5 x1 x4 H (fun y1 y4 H => L13_4 y1 y4 H kn Q) kn Q) : L13_4 x1 x4 H kn Q := by
  intro env h1 h4
  subst h1; subst h4
  exact RLoop.round ((c13_5 env H (fun y1 y4 H => L13_4 y1 y4 H kn Q) kn Q h).mono (mkK_mono (fun e H h => h e rfl rfl) (fun _ _ _ h => h) (fun _ _ h => h) (fun _ _ h => h)))
def m13_3 (x1 : Value) (H : Heap) (kn : Heap → Prop) (Q : Ending → Heap → Prop) : Prop :=
L13_4 x1 (.int .i64 0) H kn Q
theorem c13_3 (env : Env) (H : Heap) (kn : Heap → Prop) (Q : Ending → Heap → Prop) (h : m13_3 (env 1) H kn Q) :
    RCode Tryd.prog 62 (codeAt [1, 1, 1, 0] (bodyOf Tryd.f13)) env H (mkK (fun e H => kn H) (fun _ _ _ => False) (retK T Tryd.f13.results.toList Q) (fun c H => Q (.panicked c) H)) :=
  RCode.prefix_ (T := T) (X := ext) (hint := hint13) (hole := (fun e H => L13_4 (e 1) (e 4) H kn Q)) tok xok mixed 1 (by kernel_rfl) (by kernel_rfl : codeAt _ _ = (codeAt [1, 1, 1, 0, 1] (bodyOf Tryd.f13))) h
    (fun e H h => (cL13_4 e H kn Q h))
def m13_1 (x1 : Value) (H : Heap) (Q : Ending → Heap → Prop) : Prop :=
m13_3 x1 H (fun H_21 => m13_2 H_21 Q) Q
theorem c13_1 (env : Env) (H : Heap) (Q : Ending → Heap → Prop) (h : m13_1 (env 1) H Q) :
    RCode Tryd.prog 62 (codeAt [1, 1, 1] (bodyOf Tryd.f13)) env H (mkK (retK T Tryd.f13.results.toList Q) (fun _ _ _ => False) (retK T Tryd.f13.results.toList Q) (fun c H => Q (.panicked c) H)) :=
  RCode.join (by kernel_rfl : (codeAt [1, 1, 1] (bodyOf Tryd.f13)) = .seq (codeAt [1, 1, 1, 0] (bodyOf Tryd.f13)) (codeAt [1, 1, 1, 1] (bodyOf Tryd.f13))) ((c13_3 env H (fun H_22 => m13_2 H_22 Q) Q h).mono (mkK_mono (fun e H h => c13_2 e H Q h) (fun _ _ _ h => h) (fun _ _ h => h) (fun _ _ h => h)))
def L13_7 (x1 x3 : Value) (H : Heap) (kn : Value → Heap → Prop) (Q : Ending → Heap → Prop) : Prop :=
  ∀ env : Env, env 1 = x1 → env 3 = x3 → RLoop Tryd.prog 62 (codeAt [1, 1, 0, 1, 0, 0] (bodyOf Tryd.f13)) env H (mkK (fun _ _ => False) (inK 0 (fun e H => kn (e 1) H) (fun _ _ _ => False)) (retK T Tryd.f13.results.toList Q) (fun c H => Q (.panicked c) H))
theorem cL13_7 (env : Env) (H : Heap) (kn : Value → Heap → Prop) (Q : Ending → Heap → Prop) (h : L13_7 (env 1) (env 3) H kn Q) :
    RCode Tryd.prog 62 (codeAt [1, 1, 0, 1] (bodyOf Tryd.f13)) env H (mkK (fun e H => kn (e 1) H) (fun _ _ _ => False) (retK T Tryd.f13.results.toList Q) (fun c H => Q (.panicked c) H)) :=
  RCode.blk (by kernel_rfl : (codeAt [1, 1, 0, 1] (bodyOf Tryd.f13)) = .block 0 (codeAt [1, 1, 0, 1, 0] (bodyOf Tryd.f13))) (RCode.lp (by kernel_rfl : (codeAt [1, 1, 0, 1, 0] (bodyOf Tryd.f13)) = .loop (codeAt [1, 1, 0, 1, 0, 0] (bodyOf Tryd.f13))) ((h env rfl rfl).mono (mkK_mono (fun _ _ h => h.elim) (fun _ _ _ h => h) (fun _ _ h => h) (fun _ _ h => h))))
def m13_8 (x1 x3 : Value) (H : Heap) (kn : Value → Value → Heap → Prop) (kx0 : Value → Heap → Prop) (Q : Ending → Heap → Prop) : Prop :=
oV (vField 1 x1) fun t22_23 =>
oV (vLoad ty23 t22_23 H) fun t23_24 =>
oV (vLen t23_24) fun t24_25 =>
oV (vInt .lss x3 t24_25) fun t25_26 =>
condK t25_26 (
oV (vField 0 x1) fun t28_27 =>
oV (vLoad ty22 t28_27 H) fun t29_28 =>
oV (vField 1 x1) fun t31_29 =>
oV (vLoad ty23 t31_29 H) fun t32_30 =>
oV (vIdxS 5 t32_30 x3) fun t34_31 =>
oV (vLoad ty37 t34_31 H) fun t35_32 =>
oRC Tryd.prog 24 [t29_28, x3, t35_32] H noP fun v_33 H_34 =>
oV (vUn .not v_33) fun t37_35 =>
condK t37_35 (
Q (.returned (.bool false)) H_34) (
oV (vInt .add x3 (.int .i64 1)) fun t27_36 =>
kn x1 t27_36 H_34)) (
kx0 x1 H)
theorem c13_8 (env : Env) (H : Heap) (kn : Value → Value → Heap → Prop) (kx0 : Value → Heap → Prop) (Q : Ending → Heap → Prop) (h : m13_8 (env 1) (env 3) H kn kx0 Q) :
    RCode Tryd.prog 62 (codeAt [1, 1, 0, 1, 0, 0] (bodyOf Tryd.f13)) env H (mkK (fun e H => kn (e 1) (e 3) H) (inK 0 (fun e H => kx0 (e 1) H) (fun _ _ _ => False)) (retK T Tryd.f13.results.toList Q) (fun c H => Q (.panicked c) H)) :=
  RCode.leaf_ (T := T) (X := ext) (hint := hint13) tok xok mixed (by kernel_rfl) h
theorem L13_7_round (x1 x3 : Value) (H : Heap) (kn : Value → Heap → Prop) (Q : Ending → Heap → Prop) (h : m13_8 x1 x3 H (fun y1 y3 H => L13_7 y1 y3 H kn Q) kn Q) : L13_7 x1 x3 H kn Q := by
  intro env h1 h3
  subst h1; subst h3
  exact RLoop.round ((c13_8 env H (fun y1 y3 H => L13_7 y1 y3 H kn Q) kn Q h).mono (mkK_mono (fun e H h => h e rfl rfl) (fun _ _ _ h => h) (fun _ _ h => h) (fun _ _ h => h)))
def m13_6 (x1 : Value) (H : Heap) (kn : Value → Heap → Prop) (Q : Ending → Heap → Prop) : Prop :=
L13_7 x1 (.int .i64 0) H kn Q
theorem c13_6 (env : Env) (H : Heap) (kn : Value → Heap → Prop) (Q : Ending → Heap → Prop) (h : m13_6 (env 1) H kn Q) :
    RCode Tryd.prog 62 (codeAt [1, 1, 0] (bodyOf Tryd.f13)) env H (mkK (fun e H => kn (e 1) H) (fun _ _ _ => False) (retK T Tryd.f13.results.toList Q) (fun c H => Q (.panicked c) H)) :=
  RCode.prefix_ (T := T) (X := ext) (hint := hint13) (hole := (fun e H => L13_7 (e 1) (e 3) H kn Q)) tok xok mixed 1 (by kernel_rfl) (by kernel_rfl : codeAt _ _ = (codeAt [1, 1, 0, 1] (bodyOf Tryd.f13))) h
    (fun e H h => (cL13_7 e H kn Q h))
def m13 (x0 : Value) (H : Heap) (Q : Ending → Heap → Prop) : Prop :=
oNew (Value.cells x0).toList (Value.cells x0).toList.length 26 H fun i_37 H_38 =>
oV (vField 0 (ptrTo i_37)) fun t5_39 =>
oV (vLoad ty22 t5_39 H_38) fun t6_40 =>
oRC Tryd.prog 23 [t6_40] H_38 (fun c H => Q (.panicked c) H) fun v_41 H_42 =>
oV (vUn .not v_41) fun t8_43 =>
oV (gV t8_43 false (vField 1 (ptrTo i_37)) (some undef)) fun t10_44 =>
oV (gV t8_43 false (vLoad ty23 t10_44 H_42) (some undef)) fun t11_45 =>
oV (gV t8_43 false (vLen t11_45) (some undef)) fun t12_46 =>
oV (gV t8_43 false (vInt .gtr t12_46 (.int .i64 20000)) (some undef)) fun t13_47 =>
oV (vPick t8_43 (.bool true) t13_47) fun t14_48 =>
oV (gV t14_48 false (vField 2 (ptrTo i_37)) (some undef)) fun t16_49 =>
oV (gV t14_48 false (vLoad ty24 t16_49 H_42) (some undef)) fun t17_50 =>
oV (gV t14_48 false (vLen t17_50) (some undef)) fun t18_51 =>
oV (gV t14_48 false (vInt .gtr t18_51 (.int .i64 1000)) (some undef)) fun t19_52 =>
oV (vPick t14_48 (.bool true) t19_52) fun t20_53 =>
condK t20_53 (
Q (.returned (.bool false)) H_42) (
m13_6 (ptrTo i_37) H_42 (fun y1_54 H_55 => m13_1 y1_54 H_55 Q) Q)
theorem c13_0 (env : Env) (H : Heap) (Q : Ending → Heap → Prop) (h : m13 (env 0) H Q) :
    RCode Tryd.prog 62 (bodyOf Tryd.f13) env H (mkK (retK T Tryd.f13.results.toList Q) (fun _ _ _ => False) (retK T Tryd.f13.results.toList Q) (fun c H => Q (.panicked c) H)) :=
  RCode.prefix_ (T := T) (X := ext) (hint := hint13) (hole := (fun e H => m13_6 (e 1) H (fun y1_56 H_57 => m13_1 y1_56 H_57 Q) Q)) tok xok mixed 2 (by kernel_rfl) (by kernel_rfl : codeAt _ _ = (codeAt [1, 1] (bodyOf Tryd.f13))) h
    (fun e H h => RCode.join (by kernel_rfl : (codeAt [1, 1] (bodyOf Tryd.f13)) = .seq (codeAt [1, 1, 0] (bodyOf Tryd.f13)) (codeAt [1, 1, 1] (bodyOf Tryd.f13))) ((c13_6 e H (fun y1_58 H_59 => m13_1 y1_58 H_59 Q) Q h).mono (mkK_mono (fun e H h => c13_1 e H Q h) (fun _ _ _ h => h) (fun _ _ h => h) (fun _ _ h => h))))
theorem call13 (a0 : Value) (H : Heap) (Q : Ending → Heap → Prop) (h : m13 a0 H Q) : RCalls Tryd.prog 13 [a0] H Q :=
  RCalls.intro (nt := 62) tok Tryd.func13 (by kernel_rfl) (by kernel_rfl) (by kernel_rfl) (of_decide_eq_true (by kernel_rfl)) (c13_0 (envOf [a0]) H Q h)
/-! ### 25: privity/privityref33.inputCount -/
def hint25 : Nat → List Nat := lookupL []
def m25_1 (x5 : Value) (H : Heap) (Q : Ending → Heap → Prop) : Prop :=
Q (.returned x5) H
theorem c25_1 (env : Env) (H : Heap) (Q : Ending → Heap → Prop) (h : m25_1 (env 5) H Q) :
    RCode Tryd.prog 34 (codeAt [1, 1, 1] (bodyOf Tryd.f25)) env H (mkK (retK T Tryd.f25.results.toList Q) (fun _ _ _ => False) (retK T Tryd.f25.results.toList Q) (fun c H => Q (.panicked c) H)) :=
  RCode.leaf_ (T := T) (X := ext) (hint := hint25) tok xok mixed (by kernel_rfl) h
def L25_3 (x1 x2 x5 x6 : Value) (H : Heap) (kn : Value → Heap → Prop) (Q : Ending → Heap → Prop) : Prop :=
  ∀ env : Env, env 1 = x1 → env 2 = x2 → env 5 = x5 → env 6 = x6 → RLoop Tryd.prog 34 (codeAt [1, 1, 0, 1, 0, 0] (bodyOf Tryd.f25)) env H (mkK (fun _ _ => False) (inK 0 (fun e H => kn (e 5) H) (fun _ _ _ => False)) (retK T Tryd.f25.results.toList Q) (fun c H => Q (.panicked c) H))
theorem cL25_3 (env : Env) (H : Heap) (kn : Value → Heap → Prop) (Q : Ending → Heap → Prop) (h : L25_3 (env 1) (env 2) (env 5) (env 6) H kn Q) :
    RCode Tryd.prog 34 (codeAt [1, 1, 0, 1] (bodyOf Tryd.f25)) env H (mkK (fun e H => kn (e 5) H) (fun _ _ _ => False) (retK T Tryd.f25.results.toList Q) (fun c H => Q (.panicked c) H)) :=
  RCode.blk (by kernel_rfl : (codeAt [1, 1, 0, 1] (bodyOf Tryd.f25)) = .block 0 (codeAt [1, 1, 0, 1, 0] (bodyOf Tryd.f25))) (RCode.lp (by kernel_rfl : (codeAt [1, 1, 0, 1, 0] (bodyOf Tryd.f25)) = .loop (codeAt [1, 1, 0, 1, 0, 0] (bodyOf Tryd.f25))) ((h env rfl rfl rfl rfl).mono (mkK_mono (fun _ _ h => h.elim) (fun _ _ _ h => h) (fun _ _ h => h) (fun _ _ h => h))))
def m25_4 (x1 x2 x5 x6 : Value) (H : Heap) (kn : Value → Value → Value → Value → Heap → Prop) (kx0 : Value → Heap → Prop) (Q : Ending → Heap → Prop) : Prop :=
oV (vField 1 x2) fun t8_1 =>
oV (vLoad ty23 t8_1 H) fun t9_2 =>
oV (vLen t9_2) fun t10_3 =>
oV (vInt .lss x6 t10_3) fun t11_4 =>
condK t11_4 (
oV (vField 1 x2) fun t14_5 =>
oV (vLoad ty23 t14_5 H) fun t15_6 =>
oV (vIdxS 5 t15_6 x6) fun t17_7 =>
oV (vField 0 t17_7) fun t18_8 =>
oV (vLoad ty3 t18_8 H) fun t19_9 =>
oV (vInt .eql t19_9 (.int .i64 1)) fun t20_10 =>
oV (gV t20_10 true (vField 1 x2) (some undef)) fun t22_11 =>
oV (gV t20_10 true (vLoad ty23 t22_11 H) (some undef)) fun t23_12 =>
oV (gV t20_10 true (some x6) (some undef)) fun t24_13 =>
oV (gV t20_10 true (vIdxS 5 t23_12 t24_13) (some undef)) fun t25_14 =>
oV (gV t20_10 true (vField 1 t25_14) (some undef)) fun t26_15 =>
oV (gV t20_10 true (vLoad ty3 t26_15 H) (some undef)) fun t27_16 =>
oV (gV t20_10 true (some x1) (some undef)) fun t28_17 =>
oV (gV t20_10 true (vInt .eql t27_16 t28_17) (some undef)) fun t29_18 =>
oV (vPick t20_10 t29_18 (.bool false)) fun t30_19 =>
condK t30_19 (
oV (vInt .add x5 (.int .i64 1)) fun t32_20 =>
oV (vInt .add x6 (.int .i64 1)) fun t13_21 =>
kn x1 x2 t32_20 t13_21 H) (
oV (vInt .add x6 (.int .i64 1)) fun t13_22 =>
kn x1 x2 x5 t13_22 H)) (
kx0 x5 H)
theorem c25_4 (env : Env) (H : Heap) (kn : Value → Value → Value → Value → Heap → Prop) (kx0 : Value → Heap → Prop) (Q : Ending → Heap → Prop) (h : m25_4 (env 1) (env 2) (env 5) (env 6) H kn kx0 Q) :
    RCode Tryd.prog 34 (codeAt [1, 1, 0, 1, 0, 0] (bodyOf Tryd.f25)) env H (mkK (fun e H => kn (e 1) (e 2) (e 5) (e 6) H) (inK 0 (fun e H => kx0 (e 5) H) (fun _ _ _ => False)) (retK T Tryd.f25.results.toList Q) (fun c H => Q (.panicked c) H)) :=
  RCode.leaf_ (T := T) (X := ext) (hint := hint25) tok xok mixed (by kernel_rfl) h
theorem L25_3_round (x1 x2 x5 x6 : Value) (H : Heap) (kn : Value → Heap → Prop) (Q : Ending → Heap → Prop) (h : m25_4 x1 x2 x5 x6 H (fun y1 y2 y5 y6 H => L25_3 y1 y2 y5 y6 H kn Q) kn Q) : L25_3 x1 x2 x5 x6 H kn Q := by
  intro env h1 h2 h5 h6
  subst h1; subst h2; subst h5; subst h6
  exact RLoop.round ((c25_4 env H (fun y1 y2 y5 y6 H => L25_3 y1 y2 y5 y6 H kn Q) kn Q h).mono (mkK_mono (fun e H h => h e rfl rfl rfl rfl) (fun _ _ _ h => h) (fun _ _ h => h) (fun _ _ h => h)))
def m25_2 (x1 x2 x5 : Value) (H : Heap) (kn : Value → Heap → Prop) (Q : Ending → Heap → Prop) : Prop :=
L25_3 x1 x2 x5 (.int .i64 0) H kn Q
theorem c25_2 (env : Env) (H : Heap) (kn : Value → Heap → Prop) (Q : Ending → Heap → Prop) (h : m25_2 (env 1) (env 2) (env 5) H kn Q) :
    RCode Tryd.prog 34 (codeAt [1, 1, 0] (bodyOf Tryd.f25)) env H (mkK (fun e H => kn (e 5) H) (fun _ _ _ => False) (retK T Tryd.f25.results.toList Q) (fun c H => Q (.panicked c) H)) :=
  RCode.prefix_ (T := T) (X := ext) (hint := hint25) (hole := (fun e H => L25_3 (e 1) (e 2) (e 5) (e 6) H kn Q)) tok xok mixed 1 (by kernel_rfl) (by kernel_rfl : codeAt _ _ = (codeAt [1, 1, 0, 1] (bodyOf Tryd.f25))) h
    (fun e H h => (cL25_3 e H kn Q h))
def m25 (x0 x1 : Value) (H : Heap) (Q : Ending → Heap → Prop) : Prop :=
oNew (Value.cells x0).toList (Value.cells x0).toList.length 26 H fun i_23 H_24 =>
m25_2 x1 (ptrTo i_23) (.int .i64 0) H_24 (fun y5_25 H_26 => m25_1 y5_25 H_26 Q) Q
theorem c25_0 (env : Env) (H : Heap) (Q : Ending → Heap → Prop) (h : m25 (env 0) (env 1) H Q) :
    RCode Tryd.prog 34 (bodyOf Tryd.f25) env H (mkK (retK T Tryd.f25.results.toList Q) (fun _ _ _ => False) (retK T Tryd.f25.results.toList Q) (fun c H => Q (.panicked c) H)) :=
  RCode.prefix_ (T := T) (X := ext) (hint := hint25) (hole := (fun e H => m25_2 (e 1) (e 2) (e 5) H (fun y5_27 H_28 => m25_1 y5_27 H_28 Q) Q)) tok xok mixed 2 (by kernel_rfl) (by kernel_rfl : codeAt _ _ = (codeAt [1, 1] (bodyOf Tryd.f25))) h
    (fun e H h => RCode.join (by kernel_rfl : (codeAt [1, 1] (bodyOf Tryd.f25)) = .seq (codeAt [1, 1, 0] (bodyOf Tryd.f25)) (codeAt [1, 1, 1] (bodyOf Tryd.f25))) ((c25_2 e H (fun y5_29 H_30 => m25_1 y5_29 H_30 Q) Q h).mono (mkK_mono (fun e H h => c25_1 e H Q h) (fun _ _ _ h => h) (fun _ _ h => h) (fun _ _ h => h))))
theorem call25 (a0 a1 : Value) (H : Heap) (Q : Ending → Heap → Prop) (h : m25 a0 a1 H Q) : RCalls Tryd.prog 25 [a0, a1] H Q :=
  RCalls.intro (nt := 34) tok Tryd.func25 (by kernel_rfl) (by kernel_rfl) (by kernel_rfl) (of_decide_eq_true (by kernel_rfl)) (c25_0 (envOf [a0, a1]) H Q h)
end Go.Proofs.YtpbaoefjkfdgmaaDoor.SL
