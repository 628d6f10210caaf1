/- PRINTED by program: for each function what its code asks of what is known, and that it suffices. Not trusted: Lean checks it. -/
import Derived.Test.YtpbaoefjkfdgmaaTab
set_option linter.unusedVariables false
set_option linter.unusedSimpArgs false
set_option maxRecDepth 100000
namespace Go.Proofs.Ytpbaoefjkfdgmaa.SL
open Go
/-! ### 12: privity/gadget.New -/
def hint12 : Nat → List Nat := lookupL []
def m12 (x0 : Value) (H : Heap) (Q : Ending → Heap → Prop) : Prop :=
oV (vBuild ty74 [((0, 1), x0)]) fun t4_1 =>
oNew (Value.cells t4_1).toList (Value.cells t4_1).toList.length 74 H fun i_2 H_3 =>
Q (.returned (ptrTo i_2)) H_3
theorem c12_0 (env : Env) (H : Heap) (Q : Ending → Heap → Prop) (h : m12 (env 0) H Q) :
    RCode Try.prog 6 (bodyOf Try.f12) env H (mkK (retK T Try.f12.results.toList Q) (fun _ _ _ => False) (retK T Try.f12.results.toList Q) (fun c H => Q (.panicked c) H)) :=
  RCode.leaf_ (T := T) (X := ext) (hint := hint12) tok xok mixed (by kernel_rfl) h
theorem call12 (a0 : Value) (H : Heap) (Q : Ending → Heap → Prop) (h : m12 a0 H Q) : RCalls Try.prog 12 [a0] H Q :=
  RCalls.intro (nt := 6) tok Try.func12 (by kernel_rfl) (by kernel_rfl) (by kernel_rfl) (of_decide_eq_true (by kernel_rfl)) (c12_0 (envOf [a0]) H Q h)
/-! ### 50: (*privity/gadget.Builder).gate -/
def hint50 : Nat → List Nat := lookupL [(1, [0, 1, 2, 3, 4, 5, 6, 7, 8, 9, 10])]
def m50 (x0 x1 : Value) (H : Heap) (Q : Ending → Heap → Prop) : Prop :=
oNew (Value.cells x1).toList (Value.cells x1).toList.length 47 H fun i_1 H_2 =>
oV (vNil x0) fun t7_3 =>
oV (vField 1 t7_3) fun t8_4 =>
oV (vLoad ty37 t8_4 H_2) fun t9_5 =>
oV (vLoad ty47 (ptrTo i_1) H_2) fun t10_6 =>
oBuildS ty47 47 1 [((0, 5), t10_6)] H_2 fun s_7 H_8 =>
oAppend ty47 47 t9_5 s_7 H_8 fun v_9 H_10 =>
oV (vNil x0) fun t13_11 =>
oV (vField 1 t13_11) fun t14_12 =>
oHeap (vStore ty37 t14_12 v_9 H_10) fun H_13 =>
oV (vNil x0) fun t16_14 =>
oV (vField 1 t16_14) fun t17_15 =>
oV (vLoad ty37 t17_15 H_13) fun t18_16 =>
oV (vLen t18_16) fun t19_17 =>
oV (vInt .sub t19_17 (.int .i64 1)) fun t20_18 =>
Q (.returned t20_18) H_13
theorem c50_0 (env : Env) (H : Heap) (Q : Ending → Heap → Prop) (h : m50 (env 0) (env 1) H Q) :
    RCode Try.prog 21 (bodyOf Try.f50) env H (mkK (retK T Try.f50.results.toList Q) (fun _ _ _ => False) (retK T Try.f50.results.toList Q) (fun c H => Q (.panicked c) H)) :=
  RCode.leaf_ (T := T) (X := ext) (hint := hint50) tok xok mixed (by kernel_rfl) h
theorem call50 (a0 a1 : Value) (H : Heap) (Q : Ending → Heap → Prop) (h : m50 a0 a1 H Q) : RCalls Try.prog 50 [a0, a1] H Q :=
  RCalls.intro (nt := 21) tok Try.func50 (by kernel_rfl) (by kernel_rfl) (by kernel_rfl) (of_decide_eq_true (by kernel_rfl)) (c50_0 (envOf [a0, a1]) H Q h)
/-! ### 13: (*privity/gadget.Builder).Input -/
def hint13 : Nat → List Nat := lookupL []
def m13 (x0 x1 x2 : Value) (H : Heap) (Q : Ending → Heap → Prop) : Prop :=
oV (vBuild ty47 [((0, 1), (.int .i64 1)), ((1, 1), x1)]) fun t9_1 =>
oNew (Value.cells ty47.zero).toList (Value.cells ty47.zero).toList.length 47 H fun i_2 H_3 =>
oHeap (vStore ty47 (ptrTo i_2) t9_1 H_3) fun H_4 =>
condK x2 (
oV (vField 4 (ptrTo i_2)) fun t11_5 =>
oHeap (vStore ty22 t11_5 (.int .u64 1) H_4) fun H_6 =>
oV (vLoad ty47 (ptrTo i_2) H_6) fun t13_7 =>
oRC Try.prog 50 [x0, t13_7] H_6 (fun c H => Q (.panicked c) H) fun v_8 H_9 =>
Q (.returned v_8) H_9) (
oV (vLoad ty47 (ptrTo i_2) H_4) fun t13_10 =>
oRC Try.prog 50 [x0, t13_10] H_4 (fun c H => Q (.panicked c) H) fun v_11 H_12 =>
Q (.returned v_11) H_12)
theorem c13_0 (env : Env) (H : Heap) (Q : Ending → Heap → Prop) (h : m13 (env 0) (env 1) (env 2) H Q) :
    RCode Try.prog 15 (bodyOf Try.f13) env H (mkK (retK T Try.f13.results.toList Q) (fun _ _ _ => False) (retK T Try.f13.results.toList Q) (fun c H => Q (.panicked c) H)) :=
  RCode.leaf_ (T := T) (X := ext) (hint := hint13) tok xok mixed (by kernel_rfl) h
theorem call13 (a0 a1 a2 : Value) (H : Heap) (Q : Ending → Heap → Prop) (h : m13 a0 a1 a2 H Q) : RCalls Try.prog 13 [a0, a1, a2] H Q :=
  RCalls.intro (nt := 15) tok Try.func13 (by kernel_rfl) (by kernel_rfl) (by kernel_rfl) (of_decide_eq_true (by kernel_rfl)) (c13_0 (envOf [a0, a1, a2]) H Q h)
/-! ### 15: (*privity/gadget.Builder).Add -/
def hint15 : Nat → List Nat := lookupL []
def m15 (x0 x1 x2 : Value) (H : Heap) (Q : Ending → Heap → Prop) : Prop :=
oV (vBuild ty47 [((0, 1), (.int .i64 3)), ((2, 1), x1), ((3, 1), x2)]) fun t10_1 =>
oRC Try.prog 50 [x0, t10_1] H (fun c H => Q (.panicked c) H) fun v_2 H_3 =>
Q (.returned v_2) H_3
theorem c15_0 (env : Env) (H : Heap) (Q : Ending → Heap → Prop) (h : m15 (env 0) (env 1) (env 2) H Q) :
    RCode Try.prog 12 (bodyOf Try.f15) env H (mkK (retK T Try.f15.results.toList Q) (fun _ _ _ => False) (retK T Try.f15.results.toList Q) (fun c H => Q (.panicked c) H)) :=
  RCode.leaf_ (T := T) (X := ext) (hint := hint15) tok xok mixed (by kernel_rfl) h
theorem call15 (a0 a1 a2 : Value) (H : Heap) (Q : Ending → Heap → Prop) (h : m15 a0 a1 a2 H Q) : RCalls Try.prog 15 [a0, a1, a2] H Q :=
  RCalls.intro (nt := 12) tok Try.func15 (by kernel_rfl) (by kernel_rfl) (by kernel_rfl) (of_decide_eq_true (by kernel_rfl)) (c15_0 (envOf [a0, a1, a2]) H Q h)
/-! ### 17: (*privity/gadget.Builder).Mul -/
def hint17 : Nat → List Nat := lookupL []
def m17 (x0 x1 x2 : Value) (H : Heap) (Q : Ending → Heap → Prop) : Prop :=
oV (vBuild ty47 [((0, 1), (.int .i64 6)), ((2, 1), x1), ((3, 1), x2)]) fun t10_1 =>
oRC Try.prog 50 [x0, t10_1] H (fun c H => Q (.panicked c) H) fun v_2 H_3 =>
Q (.returned v_2) H_3
theorem c17_0 (env : Env) (H : Heap) (Q : Ending → Heap → Prop) (h : m17 (env 0) (env 1) (env 2) H Q) :
    RCode Try.prog 12 (bodyOf Try.f17) env H (mkK (retK T Try.f17.results.toList Q) (fun _ _ _ => False) (retK T Try.f17.results.toList Q) (fun c H => Q (.panicked c) H)) :=
  RCode.leaf_ (T := T) (X := ext) (hint := hint17) tok xok mixed (by kernel_rfl) h
theorem call17 (a0 a1 a2 : Value) (H : Heap) (Q : Ending → Heap → Prop) (h : m17 a0 a1 a2 H Q) : RCalls Try.prog 17 [a0, a1, a2] H Q :=
  RCalls.intro (nt := 12) tok Try.func17 (by kernel_rfl) (by kernel_rfl) (by kernel_rfl) (of_decide_eq_true (by kernel_rfl)) (c17_0 (envOf [a0, a1, a2]) H Q h)
/-! ### 16: (*privity/gadget.Builder).Sub -/
def hint16 : Nat → List Nat := lookupL []
def m16 (x0 x1 x2 : Value) (H : Heap) (Q : Ending → Heap → Prop) : Prop :=
oV (vBuild ty47 [((0, 1), (.int .i64 4)), ((2, 1), x1), ((3, 1), x2)]) fun t10_1 =>
oRC Try.prog 50 [x0, t10_1] H (fun c H => Q (.panicked c) H) fun v_2 H_3 =>
Q (.returned v_2) H_3
theorem c16_0 (env : Env) (H : Heap) (Q : Ending → Heap → Prop) (h : m16 (env 0) (env 1) (env 2) H Q) :
    RCode Try.prog 12 (bodyOf Try.f16) env H (mkK (retK T Try.f16.results.toList Q) (fun _ _ _ => False) (retK T Try.f16.results.toList Q) (fun c H => Q (.panicked c) H)) :=
  RCode.leaf_ (T := T) (X := ext) (hint := hint16) tok xok mixed (by kernel_rfl) h
theorem call16 (a0 a1 a2 : Value) (H : Heap) (Q : Ending → Heap → Prop) (h : m16 a0 a1 a2 H Q) : RCalls Try.prog 16 [a0, a1, a2] H Q :=
  RCalls.intro (nt := 12) tok Try.func16 (by kernel_rfl) (by kernel_rfl) (by kernel_rfl) (of_decide_eq_true (by kernel_rfl)) (c16_0 (envOf [a0, a1, a2]) H Q h)
/-! ### 30: (*privity/gadget.Builder).Or -/
def hint30 : Nat → List Nat := lookupL []
def m30 (x0 x1 x2 : Value) (H : Heap) (Q : Ending → Heap → Prop) : Prop :=
oRC Try.prog 15 [x0, x1, x2] H (fun c H => Q (.panicked c) H) fun v_1 H_2 =>
oRC Try.prog 17 [x0, x1, x2] H_2 (fun c H => Q (.panicked c) H) fun v_3 H_4 =>
oRC Try.prog 16 [x0, v_1, v_3] H_4 (fun c H => Q (.panicked c) H) fun v_5 H_6 =>
Q (.returned v_5) H_6
theorem c30_0 (env : Env) (H : Heap) (Q : Ending → Heap → Prop) (h : m30 (env 0) (env 1) (env 2) H Q) :
    RCode Try.prog 17 (bodyOf Try.f30) env H (mkK (retK T Try.f30.results.toList Q) (fun _ _ _ => False) (retK T Try.f30.results.toList Q) (fun c H => Q (.panicked c) H)) :=
  RCode.leaf_ (T := T) (X := ext) (hint := hint30) tok xok mixed (by kernel_rfl) h
theorem call30 (a0 a1 a2 : Value) (H : Heap) (Q : Ending → Heap → Prop) (h : m30 a0 a1 a2 H Q) : RCalls Try.prog 30 [a0, a1, a2] H Q :=
  RCalls.intro (nt := 17) tok Try.func30 (by kernel_rfl) (by kernel_rfl) (by kernel_rfl) (of_decide_eq_true (by kernel_rfl)) (c30_0 (envOf [a0, a1, a2]) H Q h)
/-! ### 14: (*privity/gadget.Builder).Output -/
def hint14 : Nat → List Nat := lookupL []
def m14 (x0 x1 : Value) (H : Heap) (Q : Ending → Heap → Prop) : Prop :=
oV (vNil x0) fun t6_1 =>
oV (vField 2 t6_1) fun t7_2 =>
oV (vLoad ty38 t7_2 H) fun t8_3 =>
oBuildS ty3 3 1 [((0, 1), x1)] H fun s_4 H_5 =>
oAppend ty3 3 t8_3 s_4 H_5 fun v_6 H_7 =>
oV (vNil x0) fun t12_8 =>
oV (vField 2 t12_8) fun t13_9 =>
oHeap (vStore ty38 t13_9 v_6 H_7) fun H_10 =>
Q (.returned (.tuple #[])) H_10
theorem c14_0 (env : Env) (H : Heap) (Q : Ending → Heap → Prop) (h : m14 (env 0) (env 1) H Q) :
    RCode Try.prog 14 (bodyOf Try.f14) env H (mkK (retK T Try.f14.results.toList Q) (fun _ _ _ => False) (retK T Try.f14.results.toList Q) (fun c H => Q (.panicked c) H)) :=
  RCode.leaf_ (T := T) (X := ext) (hint := hint14) tok xok mixed (by kernel_rfl) h
theorem call14 (a0 a1 : Value) (H : Heap) (Q : Ending → Heap → Prop) (h : m14 a0 a1 H Q) : RCalls Try.prog 14 [a0, a1] H Q :=
  RCalls.intro (nt := 14) tok Try.func14 (by kernel_rfl) (by kernel_rfl) (by kernel_rfl) (of_decide_eq_true (by kernel_rfl)) (c14_0 (envOf [a0, a1]) H Q h)
/-! ### 79: math/bits.Len64 -/
def hint79 : Nat → List Nat := lookupL []
def m79 (x0 : Value) (H : Heap) (Q : Ending → Heap → Prop) : Prop :=
oV (vInt .geq x0 (.int .u64 4294967296)) fun t4_1 =>
condK t4_1 (
oV (vInt .shr x0 (.int .u64 32)) fun t6_2 =>
oV (vInt .geq t6_2 (.int .u64 65536)) fun t8_3 =>
condK t8_3 (
oV (vInt .shr t6_2 (.int .u64 16)) fun t10_4 =>
oV (vInt .add (.int .i64 32) (.int .i64 16)) fun t12_5 =>
oV (vInt .geq t10_4 (.int .u64 256)) fun t14_6 =>
condK t14_6 (
oV (vInt .shr t10_4 (.int .u64 8)) fun t16_7 =>
oV (vInt .add t12_5 (.int .i64 8)) fun t18_8 =>
oV (vConv (.int .u8) t16_7) fun t21_9 =>
oV (vIndexStr (.string { data := #[0, 1, 2, 2, 3, 3, 3, 3, 4, 4, 4, 4, 4, 4, 4, 4, 5, 5, 5, 5, 5, 5, 5, 5, 5, 5, 5, 5, 5, 5, 5, 5, 6, 6, 6, 6, 6, 6, 6, 6, 6, 6, 6, 6, 6, 6, 6, 6, 6, 6, 6, 6, 6, 6, 6, 6, 6, 6, 6, 6, 6, 6, 6, 6, 7, 7, 7, 7, 7, 7, 7, 7, 7, 7, 7, 7, 7, 7, 7, 7, 7, 7, 7, 7, 7, 7, 7, 7, 7, 7, 7, 7, 7, 7, 7, 7, 7, 7, 7, 7, 7, 7, 7, 7, 7, 7, 7, 7, 7, 7, 7, 7, 7, 7, 7, 7, 7, 7, 7, 7, 7, 7, 7, 7, 7, 7, 7, 7, 8, 8, 8, 8, 8, 8, 8, 8, 8, 8, 8, 8, 8, 8, 8, 8, 8, 8, 8, 8, 8, 8, 8, 8, 8, 8, 8, 8, 8, 8, 8, 8, 8, 8, 8, 8, 8, 8, 8, 8, 8, 8, 8, 8, 8, 8, 8, 8, 8, 8, 8, 8, 8, 8, 8, 8, 8, 8, 8, 8, 8, 8, 8, 8, 8, 8, 8, 8, 8, 8, 8, 8, 8, 8, 8, 8, 8, 8, 8, 8, 8, 8, 8, 8, 8, 8, 8, 8, 8, 8, 8, 8, 8, 8, 8, 8, 8, 8, 8, 8, 8, 8, 8, 8, 8, 8, 8, 8, 8, 8, 8, 8, 8, 8, 8, 8, 8, 8, 8, 8, 8, 8, 8, 8, 8, 8, 8, 8] }) t21_9) fun t22_10 =>
oV (vConv (.int .i64) t22_10) fun t23_11 =>
oV (vInt .add t18_8 t23_11) fun t24_12 =>
Q (.returned t24_12) H) (
oV (vConv (.int .u8) t10_4) fun t21_13 =>
oV (vIndexStr (.string { data := #[0, 1, 2, 2, 3, 3, 3, 3, 4, 4, 4, 4, 4, 4, 4, 4, 5, 5, 5, 5, 5, 5, 5, 5, 5, 5, 5, 5, 5, 5, 5, 5, 6, 6, 6, 6, 6, 6, 6, 6, 6, 6, 6, 6, 6, 6, 6, 6, 6, 6, 6, 6, 6, 6, 6, 6, 6, 6, 6, 6, 6, 6, 6, 6, 7, 7, 7, 7, 7, 7, 7, 7, 7, 7, 7, 7, 7, 7, 7, 7, 7, 7, 7, 7, 7, 7, 7, 7, 7, 7, 7, 7, 7, 7, 7, 7, 7, 7, 7, 7, 7, 7, 7, 7, 7, 7, 7, 7, 7, 7, 7, 7, 7, 7, 7, 7, 7, 7, 7, 7, 7, 7, 7, 7, 7, 7, 7, 7, 8, 8, 8, 8, 8, 8, 8, 8, 8, 8, 8, 8, 8, 8, 8, 8, 8, 8, 8, 8, 8, 8, 8, 8, 8, 8, 8, 8, 8, 8, 8, 8, 8, 8, 8, 8, 8, 8, 8, 8, 8, 8, 8, 8, 8, 8, 8, 8, 8, 8, 8, 8, 8, 8, 8, 8, 8, 8, 8, 8, 8, 8, 8, 8, 8, 8, 8, 8, 8, 8, 8, 8, 8, 8, 8, 8, 8, 8, 8, 8, 8, 8, 8, 8, 8, 8, 8, 8, 8, 8, 8, 8, 8, 8, 8, 8, 8, 8, 8, 8, 8, 8, 8, 8, 8, 8, 8, 8, 8, 8, 8, 8, 8, 8, 8, 8, 8, 8, 8, 8, 8, 8, 8, 8, 8, 8, 8, 8] }) t21_13) fun t22_14 =>
oV (vConv (.int .i64) t22_14) fun t23_15 =>
oV (vInt .add t12_5 t23_15) fun t24_16 =>
Q (.returned t24_16) H)) (
oV (vInt .geq t6_2 (.int .u64 256)) fun t14_17 =>
condK t14_17 (
oV (vInt .shr t6_2 (.int .u64 8)) fun t16_18 =>
oV (vInt .add (.int .i64 32) (.int .i64 8)) fun t18_19 =>
oV (vConv (.int .u8) t16_18) fun t21_20 =>
oV (vIndexStr (.string { data := #[0, 1, 2, 2, 3, 3, 3, 3, 4, 4, 4, 4, 4, 4, 4, 4, 5, 5, 5, 5, 5, 5, 5, 5, 5, 5, 5, 5, 5, 5, 5, 5, 6, 6, 6, 6, 6, 6, 6, 6, 6, 6, 6, 6, 6, 6, 6, 6, 6, 6, 6, 6, 6, 6, 6, 6, 6, 6, 6, 6, 6, 6, 6, 6, 7, 7, 7, 7, 7, 7, 7, 7, 7, 7, 7, 7, 7, 7, 7, 7, 7, 7, 7, 7, 7, 7, 7, 7, 7, 7, 7, 7, 7, 7, 7, 7, 7, 7, 7, 7, 7, 7, 7, 7, 7, 7, 7, 7, 7, 7, 7, 7, 7, 7, 7, 7, 7, 7, 7, 7, 7, 7, 7, 7, 7, 7, 7, 7, 8, 8, 8, 8, 8, 8, 8, 8, 8, 8, 8, 8, 8, 8, 8, 8, 8, 8, 8, 8, 8, 8, 8, 8, 8, 8, 8, 8, 8, 8, 8, 8, 8, 8, 8, 8, 8, 8, 8, 8, 8, 8, 8, 8, 8, 8, 8, 8, 8, 8, 8, 8, 8, 8, 8, 8, 8, 8, 8, 8, 8, 8, 8, 8, 8, 8, 8, 8, 8, 8, 8, 8, 8, 8, 8, 8, 8, 8, 8, 8, 8, 8, 8, 8, 8, 8, 8, 8, 8, 8, 8, 8, 8, 8, 8, 8, 8, 8, 8, 8, 8, 8, 8, 8, 8, 8, 8, 8, 8, 8, 8, 8, 8, 8, 8, 8, 8, 8, 8, 8, 8, 8, 8, 8, 8, 8, 8, 8] }) t21_20) fun t22_21 =>
oV (vConv (.int .i64) t22_21) fun t23_22 =>
oV (vInt .add t18_19 t23_22) fun t24_23 =>
Q (.returned t24_23) H) (
oV (vConv (.int .u8) t6_2) fun t21_24 =>
oV (vIndexStr (.string { data := #[0, 1, 2, 2, 3, 3, 3, 3, 4, 4, 4, 4, 4, 4, 4, 4, 5, 5, 5, 5, 5, 5, 5, 5, 5, 5, 5, 5, 5, 5, 5, 5, 6, 6, 6, 6, 6, 6, 6, 6, 6, 6, 6, 6, 6, 6, 6, 6, 6, 6, 6, 6, 6, 6, 6, 6, 6, 6, 6, 6, 6, 6, 6, 6, 7, 7, 7, 7, 7, 7, 7, 7, 7, 7, 7, 7, 7, 7, 7, 7, 7, 7, 7, 7, 7, 7, 7, 7, 7, 7, 7, 7, 7, 7, 7, 7, 7, 7, 7, 7, 7, 7, 7, 7, 7, 7, 7, 7, 7, 7, 7, 7, 7, 7, 7, 7, 7, 7, 7, 7, 7, 7, 7, 7, 7, 7, 7, 7, 8, 8, 8, 8, 8, 8, 8, 8, 8, 8, 8, 8, 8, 8, 8, 8, 8, 8, 8, 8, 8, 8, 8, 8, 8, 8, 8, 8, 8, 8, 8, 8, 8, 8, 8, 8, 8, 8, 8, 8, 8, 8, 8, 8, 8, 8, 8, 8, 8, 8, 8, 8, 8, 8, 8, 8, 8, 8, 8, 8, 8, 8, 8, 8, 8, 8, 8, 8, 8, 8, 8, 8, 8, 8, 8, 8, 8, 8, 8, 8, 8, 8, 8, 8, 8, 8, 8, 8, 8, 8, 8, 8, 8, 8, 8, 8, 8, 8, 8, 8, 8, 8, 8, 8, 8, 8, 8, 8, 8, 8, 8, 8, 8, 8, 8, 8, 8, 8, 8, 8, 8, 8, 8, 8, 8, 8, 8, 8] }) t21_24) fun t22_25 =>
oV (vConv (.int .i64) t22_25) fun t23_26 =>
oV (vInt .add (.int .i64 32) t23_26) fun t24_27 =>
Q (.returned t24_27) H))) (
oV (vInt .geq x0 (.int .u64 65536)) fun t8_28 =>
condK t8_28 (
oV (vInt .shr x0 (.int .u64 16)) fun t10_29 =>
oV (vInt .add (.int .i64 0) (.int .i64 16)) fun t12_30 =>
oV (vInt .geq t10_29 (.int .u64 256)) fun t14_31 =>
condK t14_31 (
oV (vInt .shr t10_29 (.int .u64 8)) fun t16_32 =>
oV (vInt .add t12_30 (.int .i64 8)) fun t18_33 =>
oV (vConv (.int .u8) t16_32) fun t21_34 =>
oV (vIndexStr (.string { data := #[0, 1, 2, 2, 3, 3, 3, 3, 4, 4, 4, 4, 4, 4, 4, 4, 5, 5, 5, 5, 5, 5, 5, 5, 5, 5, 5, 5, 5, 5, 5, 5, 6, 6, 6, 6, 6, 6, 6, 6, 6, 6, 6, 6, 6, 6, 6, 6, 6, 6, 6, 6, 6, 6, 6, 6, 6, 6, 6, 6, 6, 6, 6, 6, 7, 7, 7, 7, 7, 7, 7, 7, 7, 7, 7, 7, 7, 7, 7, 7, 7, 7, 7, 7, 7, 7, 7, 7, 7, 7, 7, 7, 7, 7, 7, 7, 7, 7, 7, 7, 7, 7, 7, 7, 7, 7, 7, 7, 7, 7, 7, 7, 7, 7, 7, 7, 7, 7, 7, 7, 7, 7, 7, 7, 7, 7, 7, 7, 8, 8, 8, 8, 8, 8, 8, 8, 8, 8, 8, 8, 8, 8, 8, 8, 8, 8, 8, 8, 8, 8, 8, 8, 8, 8, 8, 8, 8, 8, 8, 8, 8, 8, 8, 8, 8, 8, 8, 8, 8, 8, 8, 8, 8, 8, 8, 8, 8, 8, 8, 8, 8, 8, 8, 8, 8, 8, 8, 8, 8, 8, 8, 8, 8, 8, 8, 8, 8, 8, 8, 8, 8, 8, 8, 8, 8, 8, 8, 8, 8, 8, 8, 8, 8, 8, 8, 8, 8, 8, 8, 8, 8, 8, 8, 8, 8, 8, 8, 8, 8, 8, 8, 8, 8, 8, 8, 8, 8, 8, 8, 8, 8, 8, 8, 8, 8, 8, 8, 8, 8, 8, 8, 8, 8, 8, 8, 8] }) t21_34) fun t22_35 =>
oV (vConv (.int .i64) t22_35) fun t23_36 =>
oV (vInt .add t18_33 t23_36) fun t24_37 =>
Q (.returned t24_37) H) (
oV (vConv (.int .u8) t10_29) fun t21_38 =>
oV (vIndexStr (.string { data := #[0, 1, 2, 2, 3, 3, 3, 3, 4, 4, 4, 4, 4, 4, 4, 4, 5, 5, 5, 5, 5, 5, 5, 5, 5, 5, 5, 5, 5, 5, 5, 5, 6, 6, 6, 6, 6, 6, 6, 6, 6, 6, 6, 6, 6, 6, 6, 6, 6, 6, 6, 6, 6, 6, 6, 6, 6, 6, 6, 6, 6, 6, 6, 6, 7, 7, 7, 7, 7, 7, 7, 7, 7, 7, 7, 7, 7, 7, 7, 7, 7, 7, 7, 7, 7, 7, 7, 7, 7, 7, 7, 7, 7, 7, 7, 7, 7, 7, 7, 7, 7, 7, 7, 7, 7, 7, 7, 7, 7, 7, 7, 7, 7, 7, 7, 7, 7, 7, 7, 7, 7, 7, 7, 7, 7, 7, 7, 7, 8, 8, 8, 8, 8, 8, 8, 8, 8, 8, 8, 8, 8, 8, 8, 8, 8, 8, 8, 8, 8, 8, 8, 8, 8, 8, 8, 8, 8, 8, 8, 8, 8, 8, 8, 8, 8, 8, 8, 8, 8, 8, 8, 8, 8, 8, 8, 8, 8, 8, 8, 8, 8, 8, 8, 8, 8, 8, 8, 8, 8, 8, 8, 8, 8, 8, 8, 8, 8, 8, 8, 8, 8, 8, 8, 8, 8, 8, 8, 8, 8, 8, 8, 8, 8, 8, 8, 8, 8, 8, 8, 8, 8, 8, 8, 8, 8, 8, 8, 8, 8, 8, 8, 8, 8, 8, 8, 8, 8, 8, 8, 8, 8, 8, 8, 8, 8, 8, 8, 8, 8, 8, 8, 8, 8, 8, 8, 8] }) t21_38) fun t22_39 =>
oV (vConv (.int .i64) t22_39) fun t23_40 =>
oV (vInt .add t12_30 t23_40) fun t24_41 =>
Q (.returned t24_41) H)) (
oV (vInt .geq x0 (.int .u64 256)) fun t14_42 =>
condK t14_42 (
oV (vInt .shr x0 (.int .u64 8)) fun t16_43 =>
oV (vInt .add (.int .i64 0) (.int .i64 8)) fun t18_44 =>
oV (vConv (.int .u8) t16_43) fun t21_45 =>
oV (vIndexStr (.string { data := #[0, 1, 2, 2, 3, 3, 3, 3, 4, 4, 4, 4, 4, 4, 4, 4, 5, 5, 5, 5, 5, 5, 5, 5, 5, 5, 5, 5, 5, 5, 5, 5, 6, 6, 6, 6, 6, 6, 6, 6, 6, 6, 6, 6, 6, 6, 6, 6, 6, 6, 6, 6, 6, 6, 6, 6, 6, 6, 6, 6, 6, 6, 6, 6, 7, 7, 7, 7, 7, 7, 7, 7, 7, 7, 7, 7, 7, 7, 7, 7, 7, 7, 7, 7, 7, 7, 7, 7, 7, 7, 7, 7, 7, 7, 7, 7, 7, 7, 7, 7, 7, 7, 7, 7, 7, 7, 7, 7, 7, 7, 7, 7, 7, 7, 7, 7, 7, 7, 7, 7, 7, 7, 7, 7, 7, 7, 7, 7, 8, 8, 8, 8, 8, 8, 8, 8, 8, 8, 8, 8, 8, 8, 8, 8, 8, 8, 8, 8, 8, 8, 8, 8, 8, 8, 8, 8, 8, 8, 8, 8, 8, 8, 8, 8, 8, 8, 8, 8, 8, 8, 8, 8, 8, 8, 8, 8, 8, 8, 8, 8, 8, 8, 8, 8, 8, 8, 8, 8, 8, 8, 8, 8, 8, 8, 8, 8, 8, 8, 8, 8, 8, 8, 8, 8, 8, 8, 8, 8, 8, 8, 8, 8, 8, 8, 8, 8, 8, 8, 8, 8, 8, 8, 8, 8, 8, 8, 8, 8, 8, 8, 8, 8, 8, 8, 8, 8, 8, 8, 8, 8, 8, 8, 8, 8, 8, 8, 8, 8, 8, 8, 8, 8, 8, 8, 8, 8] }) t21_45) fun t22_46 =>
oV (vConv (.int .i64) t22_46) fun t23_47 =>
oV (vInt .add t18_44 t23_47) fun t24_48 =>
Q (.returned t24_48) H) (
oV (vConv (.int .u8) x0) fun t21_49 =>
oV (vIndexStr (.string { data := #[0, 1, 2, 2, 3, 3, 3, 3, 4, 4, 4, 4, 4, 4, 4, 4, 5, 5, 5, 5, 5, 5, 5, 5, 5, 5, 5, 5, 5, 5, 5, 5, 6, 6, 6, 6, 6, 6, 6, 6, 6, 6, 6, 6, 6, 6, 6, 6, 6, 6, 6, 6, 6, 6, 6, 6, 6, 6, 6, 6, 6, 6, 6, 6, 7, 7, 7, 7, 7, 7, 7, 7, 7, 7, 7, 7, 7, 7, 7, 7, 7, 7, 7, 7, 7, 7, 7, 7, 7, 7, 7, 7, 7, 7, 7, 7, 7, 7, 7, 7, 7, 7, 7, 7, 7, 7, 7, 7, 7, 7, 7, 7, 7, 7, 7, 7, 7, 7, 7, 7, 7, 7, 7, 7, 7, 7, 7, 7, 8, 8, 8, 8, 8, 8, 8, 8, 8, 8, 8, 8, 8, 8, 8, 8, 8, 8, 8, 8, 8, 8, 8, 8, 8, 8, 8, 8, 8, 8, 8, 8, 8, 8, 8, 8, 8, 8, 8, 8, 8, 8, 8, 8, 8, 8, 8, 8, 8, 8, 8, 8, 8, 8, 8, 8, 8, 8, 8, 8, 8, 8, 8, 8, 8, 8, 8, 8, 8, 8, 8, 8, 8, 8, 8, 8, 8, 8, 8, 8, 8, 8, 8, 8, 8, 8, 8, 8, 8, 8, 8, 8, 8, 8, 8, 8, 8, 8, 8, 8, 8, 8, 8, 8, 8, 8, 8, 8, 8, 8, 8, 8, 8, 8, 8, 8, 8, 8, 8, 8, 8, 8, 8, 8, 8, 8, 8, 8] }) t21_49) fun t22_50 =>
oV (vConv (.int .i64) t22_50) fun t23_51 =>
oV (vInt .add (.int .i64 0) t23_51) fun t24_52 =>
Q (.returned t24_52) H)))
theorem c79_0 (env : Env) (H : Heap) (Q : Ending → Heap → Prop) (h : m79 (env 0) H Q) :
    RCode Try.prog 25 (bodyOf Try.f79) env H (mkK (retK T Try.f79.results.toList Q) (fun _ _ _ => False) (retK T Try.f79.results.toList Q) (fun c H => Q (.panicked c) H)) :=
  RCode.leaf_ (T := T) (X := ext) (hint := hint79) tok xok mixed (by kernel_rfl) h
theorem call79 (a0 : Value) (H : Heap) (Q : Ending → Heap → Prop) (h : m79 a0 H Q) : RCalls Try.prog 79 [a0] H Q :=
  RCalls.intro (nt := 25) tok Try.func79 (by kernel_rfl) (by kernel_rfl) (by kernel_rfl) (of_decide_eq_true (by kernel_rfl)) (c79_0 (envOf [a0]) H Q h)
/-! ### 76: privity/field.width -/
def hint76 : Nat → List Nat := lookupL []
def m76 (x0 : Value) (H : Heap) (Q : Ending → Heap → Prop) : Prop :=
oRC Try.prog 79 [x0] H (fun c H => Q (.panicked c) H) fun v_1 H_2 =>
oV (vConv (.int .u64) v_1) fun t5_3 =>
Q (.returned t5_3) H_2
theorem c76_0 (env : Env) (H : Heap) (Q : Ending → Heap → Prop) (h : m76 (env 0) H Q) :
    RCode Try.prog 6 (bodyOf Try.f76) env H (mkK (retK T Try.f76.results.toList Q) (fun _ _ _ => False) (retK T Try.f76.results.toList Q) (fun c H => Q (.panicked c) H)) :=
  RCode.leaf_ (T := T) (X := ext) (hint := hint76) tok xok mixed (by kernel_rfl) h
theorem call76 (a0 : Value) (H : Heap) (Q : Ending → Heap → Prop) (h : m76 a0 H Q) : RCalls Try.prog 76 [a0] H Q :=
  RCalls.intro (nt := 6) tok Try.func76 (by kernel_rfl) (by kernel_rfl) (by kernel_rfl) (of_decide_eq_true (by kernel_rfl)) (c76_0 (envOf [a0]) H Q h)
/-! ### 73: privity/field.fold -/
def hint73 : Nat → List Nat := lookupL []
def m73_1 (x0 x2 : Value) (H : Heap) (Q : Ending → Heap → Prop) : Prop :=
oV (vInt .eql x2 x0) fun t46_1 =>
condK t46_1 (
Q (.returned (.int .u64 0)) H) (
Q (.returned x2) H)
theorem c73_1 (env : Env) (H : Heap) (Q : Ending → Heap → Prop) (h : m73_1 (env 0) (env 2) H Q) :
    RCode Try.prog 48 (codeAt [1, 1, 1] (bodyOf Try.f73)) env H (mkK (retK T Try.f73.results.toList Q) (fun _ _ _ => False) (retK T Try.f73.results.toList Q) (fun c H => Q (.panicked c) H)) :=
  RCode.leaf_ (T := T) (X := ext) (hint := hint73) tok xok mixed (by kernel_rfl) h
def L73_2 (x0 x1 x2 x7 : Value) (H : Heap) (kn : Value → Value → Heap → Prop) (Q : Ending → Heap → Prop) : Prop :=
  ∀ env : Env, env 0 = x0 → env 1 = x1 → env 2 = x2 → env 7 = x7 → RLoop Try.prog 48 (codeAt [1, 1, 0, 0, 0] (bodyOf Try.f73)) env H (mkK (fun _ _ => False) (inK 0 (fun e H => kn (e 0) (e 2) H) (fun _ _ _ => False)) (retK T Try.f73.results.toList Q) (fun c H => Q (.panicked c) H))
theorem cL73_2 (env : Env) (H : Heap) (kn : Value → Value → Heap → Prop) (Q : Ending → Heap → Prop) (h : L73_2 (env 0) (env 1) (env 2) (env 7) H kn Q) :
    RCode Try.prog 48 (codeAt [1, 1, 0] (bodyOf Try.f73)) env H (mkK (fun e H => kn (e 0) (e 2) H) (fun _ _ _ => False) (retK T Try.f73.results.toList Q) (fun c H => Q (.panicked c) H)) :=
  RCode.blk (by kernel_rfl : (codeAt [1, 1, 0] (bodyOf Try.f73)) = .block 0 (codeAt [1, 1, 0, 0] (bodyOf Try.f73))) (RCode.lp (by kernel_rfl : (codeAt [1, 1, 0, 0] (bodyOf Try.f73)) = .loop (codeAt [1, 1, 0, 0, 0] (bodyOf Try.f73))) ((h env rfl rfl rfl rfl).mono (mkK_mono (fun _ _ h => h.elim) (fun _ _ _ h => h) (fun _ _ h => h) (fun _ _ h => h))))
def m73_3 (x0 x1 x2 x7 : Value) (H : Heap) (kn : Value → Value → Value → Value → Heap → Prop) (kx0 : Value → Value → Heap → Prop) (Q : Ending → Heap → Prop) : Prop :=
oV (vInt .neq x1 (.int .u64 0)) fun t14_2 =>
oV (gV t14_2 false (some x2) (some undef)) fun t16_3 =>
oV (gV t14_2 false (some x0) (some undef)) fun t17_4 =>
oV (gV t14_2 false (vInt .gtr t16_3 t17_4) (some undef)) fun t18_5 =>
oV (vPick t14_2 (.bool true) t18_5) fun t19_6 =>
condK t19_6 (
oV (vInt .and x2 x0) fun t22_7 =>
oV (vInt .shr x2 x7) fun t25_8 =>
oV (vInt .sub (.int .u64 64) x7) fun t28_9 =>
oV (vInt .shl x1 t28_9) fun t29_10 =>
oV (vInt .or t25_8 t29_10) fun t30_11 =>
oV (vInt .shr x1 x7) fun t33_12 =>
oV (vAdd64 [t30_11, t22_7, (.int .u64 0)]) fun v_13 =>
oV (vExtract v_13 0) fun t38_15 =>
oV (vExtract v_13 1) fun t39_16 =>
oV (vInt .add t33_12 t39_16) fun t43_17 =>
kn x0 t43_17 t38_15 x7 H) (
kx0 x0 x2 H)
theorem c73_3 (env : Env) (H : Heap) (kn : Value → Value → Value → Value → Heap → Prop) (kx0 : Value → Value → Heap → Prop) (Q : Ending → Heap → Prop) (h : m73_3 (env 0) (env 1) (env 2) (env 7) H kn kx0 Q) :
    RCode Try.prog 48 (codeAt [1, 1, 0, 0, 0] (bodyOf Try.f73)) env H (mkK (fun e H => kn (e 0) (e 1) (e 2) (e 7) H) (inK 0 (fun e H => kx0 (e 0) (e 2) H) (fun _ _ _ => False)) (retK T Try.f73.results.toList Q) (fun c H => Q (.panicked c) H)) :=
  RCode.leaf_ (T := T) (X := ext) (hint := hint73) tok xok mixed (by kernel_rfl) h
theorem L73_2_round (x0 x1 x2 x7 : Value) (H : Heap) (kn : Value → Value → Heap → Prop) (Q : Ending → Heap → Prop) (h : m73_3 x0 x1 x2 x7 H (fun y0 y1 y2 y7 H => L73_2 y0 y1 y2 y7 H kn Q) kn Q) : L73_2 x0 x1 x2 x7 H kn Q := by
  intro env h0 h1 h2 h7
  subst h0; subst h1; subst h2; subst h7
  exact RLoop.round ((c73_3 env H (fun y0 y1 y2 y7 H => L73_2 y0 y1 y2 y7 H kn Q) kn Q h).mono (mkK_mono (fun e H h => h e rfl rfl rfl rfl) (fun _ _ _ h => h) (fun _ _ h => h) (fun _ _ h => h)))
def m73 (x0 x1 x2 : Value) (H : Heap) (Q : Ending → Heap → Prop) : Prop :=
oRC Try.prog 76 [x0] H (fun c H => Q (.panicked c) H) fun v_18 H_19 =>
L73_2 x0 x1 x2 v_18 H_19 (fun y0_20 y2_21 H_22 => m73_1 y0_20 y2_21 H_22 Q) Q
theorem c73_0 (env : Env) (H : Heap) (Q : Ending → Heap → Prop) (h : m73 (env 0) (env 1) (env 2) H Q) :
    RCode Try.prog 48 (bodyOf Try.f73) env H (mkK (retK T Try.f73.results.toList Q) (fun _ _ _ => False) (retK T Try.f73.results.toList Q) (fun c H => Q (.panicked c) H)) :=
  RCode.prefix_ (T := T) (X := ext) (hint := hint73) (hole := (fun e H => L73_2 (e 0) (e 1) (e 2) (e 7) H (fun y0_23 y2_24 H_25 => m73_1 y0_23 y2_24 H_25 Q) Q)) tok xok mixed 2 (by kernel_rfl) (by kernel_rfl : codeAt _ _ = (codeAt [1, 1] (bodyOf Try.f73))) h
    (fun e H h => RCode.join (by kernel_rfl : (codeAt [1, 1] (bodyOf Try.f73)) = .seq (codeAt [1, 1, 0] (bodyOf Try.f73)) (codeAt [1, 1, 1] (bodyOf Try.f73))) ((cL73_2 e H (fun y0_26 y2_27 H_28 => m73_1 y0_26 y2_27 H_28 Q) Q h).mono (mkK_mono (fun e H h => c73_1 e H Q h) (fun _ _ _ h => h) (fun _ _ h => h) (fun _ _ h => h))))
theorem call73 (a0 a1 a2 : Value) (H : Heap) (Q : Ending → Heap → Prop) (h : m73 a0 a1 a2 H Q) : RCalls Try.prog 73 [a0, a1, a2] H Q :=
  RCalls.intro (nt := 48) tok Try.func73 (by kernel_rfl) (by kernel_rfl) (by kernel_rfl) (of_decide_eq_true (by kernel_rfl)) (c73_0 (envOf [a0, a1, a2]) H Q h)
/-! ### 71: privity/field.Reduce -/
def hint71 : Nat → List Nat := lookupL []
def m71 (x0 x1 : Value) (H : Heap) (Q : Ending → Heap → Prop) : Prop :=
oRC Try.prog 73 [x0, (.int .u64 0), x1] H (fun c H => Q (.panicked c) H) fun v_1 H_2 =>
Q (.returned v_1) H_2
theorem c71_0 (env : Env) (H : Heap) (Q : Ending → Heap → Prop) (h : m71 (env 0) (env 1) H Q) :
    RCode Try.prog 8 (bodyOf Try.f71) env H (mkK (retK T Try.f71.results.toList Q) (fun _ _ _ => False) (retK T Try.f71.results.toList Q) (fun c H => Q (.panicked c) H)) :=
  RCode.leaf_ (T := T) (X := ext) (hint := hint71) tok xok mixed (by kernel_rfl) h
theorem call71 (a0 a1 : Value) (H : Heap) (Q : Ending → Heap → Prop) (h : m71 a0 a1 H Q) : RCalls Try.prog 71 [a0, a1] H Q :=
  RCalls.intro (nt := 8) tok Try.func71 (by kernel_rfl) (by kernel_rfl) (by kernel_rfl) (of_decide_eq_true (by kernel_rfl)) (c71_0 (envOf [a0, a1]) H Q h)
/-! ### 18: (*privity/gadget.Builder).Scale -/
def hint18 : Nat → List Nat := lookupL []
def m18 (x0 x1 x2 : Value) (H : Heap) (Q : Ending → Heap → Prop) : Prop :=
oV (vBuild ty47 [((0, 1), (.int .i64 5)), ((2, 1), x2), ((4, 1), x1)]) fun t10_1 =>
oRC Try.prog 50 [x0, t10_1] H (fun c H => Q (.panicked c) H) fun v_2 H_3 =>
Q (.returned v_2) H_3
theorem c18_0 (env : Env) (H : Heap) (Q : Ending → Heap → Prop) (h : m18 (env 0) (env 1) (env 2) H Q) :
    RCode Try.prog 12 (bodyOf Try.f18) env H (mkK (retK T Try.f18.results.toList Q) (fun _ _ _ => False) (retK T Try.f18.results.toList Q) (fun c H => Q (.panicked c) H)) :=
  RCode.leaf_ (T := T) (X := ext) (hint := hint18) tok xok mixed (by kernel_rfl) h
theorem call18 (a0 a1 a2 : Value) (H : Heap) (Q : Ending → Heap → Prop) (h : m18 a0 a1 a2 H Q) : RCalls Try.prog 18 [a0, a1, a2] H Q :=
  RCalls.intro (nt := 12) tok Try.func18 (by kernel_rfl) (by kernel_rfl) (by kernel_rfl) (of_decide_eq_true (by kernel_rfl)) (c18_0 (envOf [a0, a1, a2]) H Q h)
/-! ### 56: (*privity/gadget.Builder).without -/
def hint56 : Nat → List Nat := lookupL [(1, [0, 1, 2, 3, 5, 6, 7, 8, 9, 11, 4, 10, 12, 13, 14])]
def m56 (x0 x1 x2 x3 : Value) (H : Heap) (Q : Ending → Heap → Prop) : Prop :=
oV (vNil x0) fun t16_1 =>
oV (vField 0 t16_1) fun t17_2 =>
oV (vLoad ty22 t17_2 H) fun t18_3 =>
oRC Try.prog 15 [x0, x1, x2] H noP fun v_4 H_5 =>
(vLoad ty22 t17_2 H_5 = some t18_3 ∧
oRC Try.prog 71 [t18_3, (.int .u64 2)] H_5 noP fun v_6 H_7 =>
oRC Try.prog 18 [x0, v_6, x3] H_7 noP fun v_8 H_9 =>
oRC Try.prog 16 [x0, v_4, v_8] H_9 noP fun v_10 H_11 =>
Q (.returned v_10) H_11)
theorem c56_0 (env : Env) (H : Heap) (Q : Ending → Heap → Prop) (h : m56 (env 0) (env 1) (env 2) (env 3) H Q) :
    RCode Try.prog 23 (bodyOf Try.f56) env H (mkK (retK T Try.f56.results.toList Q) (fun _ _ _ => False) (retK T Try.f56.results.toList Q) (fun c H => Q (.panicked c) H)) :=
  RCode.leaf_ (T := T) (X := ext) (hint := hint56) tok xok mixed (by kernel_rfl) h
theorem call56 (a0 a1 a2 a3 : Value) (H : Heap) (Q : Ending → Heap → Prop) (h : m56 a0 a1 a2 a3 H Q) : RCalls Try.prog 56 [a0, a1, a2, a3] H Q :=
  RCalls.intro (nt := 23) tok Try.func56 (by kernel_rfl) (by kernel_rfl) (by kernel_rfl) (of_decide_eq_true (by kernel_rfl)) (c56_0 (envOf [a0, a1, a2, a3]) H Q h)
/-! ### 31: (*privity/gadget.Builder).Xor -/
def hint31 : Nat → List Nat := lookupL []
def m31 (x0 x1 x2 : Value) (H : Heap) (Q : Ending → Heap → Prop) : Prop :=
oRC Try.prog 17 [x0, x1, x2] H (fun c H => Q (.panicked c) H) fun v_1 H_2 =>
oRC Try.prog 56 [x0, x1, x2, v_1] H_2 (fun c H => Q (.panicked c) H) fun v_3 H_4 =>
Q (.returned v_3) H_4
theorem c31_0 (env : Env) (H : Heap) (Q : Ending → Heap → Prop) (h : m31 (env 0) (env 1) (env 2) H Q) :
    RCode Try.prog 15 (bodyOf Try.f31) env H (mkK (retK T Try.f31.results.toList Q) (fun _ _ _ => False) (retK T Try.f31.results.toList Q) (fun c H => Q (.panicked c) H)) :=
  RCode.leaf_ (T := T) (X := ext) (hint := hint31) tok xok mixed (by kernel_rfl) h
theorem call31 (a0 a1 a2 : Value) (H : Heap) (Q : Ending → Heap → Prop) (h : m31 a0 a1 a2 H Q) : RCalls Try.prog 31 [a0, a1, a2] H Q :=
  RCalls.intro (nt := 15) tok Try.func31 (by kernel_rfl) (by kernel_rfl) (by kernel_rfl) (of_decide_eq_true (by kernel_rfl)) (c31_0 (envOf [a0, a1, a2]) H Q h)
/-! ### 19: (*privity/gadget.Builder).Const -/
def hint19 : Nat → List Nat := lookupL []
def m19 (x0 x1 : Value) (H : Heap) (Q : Ending → Heap → Prop) : Prop :=
oV (vBuild ty47 [((0, 1), (.int .i64 2)), ((4, 1), x1)]) fun t7_1 =>
oRC Try.prog 50 [x0, t7_1] H (fun c H => Q (.panicked c) H) fun v_2 H_3 =>
Q (.returned v_2) H_3
theorem c19_0 (env : Env) (H : Heap) (Q : Ending → Heap → Prop) (h : m19 (env 0) (env 1) H Q) :
    RCode Try.prog 9 (bodyOf Try.f19) env H (mkK (retK T Try.f19.results.toList Q) (fun _ _ _ => False) (retK T Try.f19.results.toList Q) (fun c H => Q (.panicked c) H)) :=
  RCode.leaf_ (T := T) (X := ext) (hint := hint19) tok xok mixed (by kernel_rfl) h
theorem call19 (a0 a1 : Value) (H : Heap) (Q : Ending → Heap → Prop) (h : m19 a0 a1 H Q) : RCalls Try.prog 19 [a0, a1] H Q :=
  RCalls.intro (nt := 9) tok Try.func19 (by kernel_rfl) (by kernel_rfl) (by kernel_rfl) (of_decide_eq_true (by kernel_rfl)) (c19_0 (envOf [a0, a1]) H Q h)
/-! ### 60: privity/field.Add -/
def hint60 : Nat → List Nat := lookupL []
def m60 (x0 x1 x2 : Value) (H : Heap) (Q : Ending → Heap → Prop) : Prop :=
oV (vInt .add x1 x2) fun t10_1 =>
oRC Try.prog 73 [x0, (.int .u64 0), t10_1] H (fun c H => Q (.panicked c) H) fun v_2 H_3 =>
Q (.returned v_2) H_3
theorem c60_0 (env : Env) (H : Heap) (Q : Ending → Heap → Prop) (h : m60 (env 0) (env 1) (env 2) H Q) :
    RCode Try.prog 12 (bodyOf Try.f60) env H (mkK (retK T Try.f60.results.toList Q) (fun _ _ _ => False) (retK T Try.f60.results.toList Q) (fun c H => Q (.panicked c) H)) :=
  RCode.leaf_ (T := T) (X := ext) (hint := hint60) tok xok mixed (by kernel_rfl) h
theorem call60 (a0 a1 a2 : Value) (H : Heap) (Q : Ending → Heap → Prop) (h : m60 a0 a1 a2 H Q) : RCalls Try.prog 60 [a0, a1, a2] H Q :=
  RCalls.intro (nt := 12) tok Try.func60 (by kernel_rfl) (by kernel_rfl) (by kernel_rfl) (of_decide_eq_true (by kernel_rfl)) (c60_0 (envOf [a0, a1, a2]) H Q h)
/-! ### 36: (*privity/gadget.Builder).Compose -/
def hint36 : Nat → List Nat := lookupL []
def m36_1 (x5 : Value) (H : Heap) (Q : Ending → Heap → Prop) : Prop :=
Q (.returned x5) H
theorem c36_1 (env : Env) (H : Heap) (Q : Ending → Heap → Prop) (h : m36_1 (env 5) H Q) :
    RCode Try.prog 33 (codeAt [1, 1, 1] (bodyOf Try.f36)) env H (mkK (retK T Try.f36.results.toList Q) (fun _ _ _ => False) (retK T Try.f36.results.toList Q) (fun c H => Q (.panicked c) H)) :=
  RCode.leaf_ (T := T) (X := ext) (hint := hint36) tok xok mixed (by kernel_rfl) h
def L36_3 (x0 x5 x6 x11 x12 x13 : Value) (H : Heap) (kn : Value → Heap → Prop) (Q : Ending → Heap → Prop) : Prop :=
  ∀ env : Env, env 0 = x0 → env 5 = x5 → env 6 = x6 → env 11 = x11 → env 12 = x12 → env 13 = x13 → RLoop Try.prog 33 (codeAt [1, 1, 0, 1, 0, 0] (bodyOf Try.f36)) env H (mkK (fun _ _ => False) (inK 0 (fun e H => kn (e 5) H) (fun _ _ _ => False)) (retK T Try.f36.results.toList Q) (fun c H => Q (.panicked c) H))
theorem cL36_3 (env : Env) (H : Heap) (kn : Value → Heap → Prop) (Q : Ending → Heap → Prop) (h : L36_3 (env 0) (env 5) (env 6) (env 11) (env 12) (env 13) H kn Q) :
    RCode Try.prog 33 (codeAt [1, 1, 0, 1] (bodyOf Try.f36)) env H (mkK (fun e H => kn (e 5) H) (fun _ _ _ => False) (retK T Try.f36.results.toList Q) (fun c H => Q (.panicked c) H)) :=
  RCode.blk (by kernel_rfl : (codeAt [1, 1, 0, 1] (bodyOf Try.f36)) = .block 0 (codeAt [1, 1, 0, 1, 0] (bodyOf Try.f36))) (RCode.lp (by kernel_rfl : (codeAt [1, 1, 0, 1, 0] (bodyOf Try.f36)) = .loop (codeAt [1, 1, 0, 1, 0, 0] (bodyOf Try.f36))) ((h env rfl rfl rfl rfl rfl rfl).mono (mkK_mono (fun _ _ h => h.elim) (fun _ _ _ h => h) (fun _ _ h => h) (fun _ _ h => h))))
def m36_4 (x0 x5 x6 x11 x12 x13 : Value) (H : Heap) (kn : Value → Value → Value → Value → Value → Value → Heap → Prop) (kx0 : Value → Heap → Prop) (Q : Ending → Heap → Prop) : Prop :=
oV (vInt .lss x13 x12) fun t14_1 =>
condK t14_1 (
oV (vIdxS 1 x11 x13) fun t15_2 =>
oV (vLoad ty3 t15_2 H) fun t16_3 =>
oRC Try.prog 18 [x0, x6, t16_3] H (fun c H => Q (.panicked c) H) fun v_4 H_5 =>
oRC Try.prog 15 [x0, x5, v_4] H_5 (fun c H => Q (.panicked c) H) fun v_6 H_7 =>
oV (vNil x0) fun t25_8 =>
oV (vField 0 t25_8) fun t26_9 =>
oV (vLoad ty22 t26_9 H_7) fun t27_10 =>
oRC Try.prog 60 [t27_10, x6, x6] H_7 (fun c H => Q (.panicked c) H) fun v_11 H_12 =>
oV (vInt .add x13 (.int .i64 1)) fun t31_13 =>
kn x0 v_6 v_11 x11 x12 t31_13 H_12) (
kx0 x5 H)
theorem c36_4 (env : Env) (H : Heap) (kn : Value → Value → Value → Value → Value → Value → Heap → Prop) (kx0 : Value → Heap → Prop) (Q : Ending → Heap → Prop) (h : m36_4 (env 0) (env 5) (env 6) (env 11) (env 12) (env 13) H kn kx0 Q) :
    RCode Try.prog 33 (codeAt [1, 1, 0, 1, 0, 0] (bodyOf Try.f36)) env H (mkK (fun e H => kn (e 0) (e 5) (e 6) (e 11) (e 12) (e 13) H) (inK 0 (fun e H => kx0 (e 5) H) (fun _ _ _ => False)) (retK T Try.f36.results.toList Q) (fun c H => Q (.panicked c) H)) :=
  RCode.leaf_ (T := T) (X := ext) (hint := hint36) tok xok mixed (by kernel_rfl) h
theorem L36_3_round (x0 x5 x6 x11 x12 x13 : Value) (H : Heap) (kn : Value → Heap → Prop) (Q : Ending → Heap → Prop) (h : m36_4 x0 x5 x6 x11 x12 x13 H (fun y0 y5 y6 y11 y12 y13 H => L36_3 y0 y5 y6 y11 y12 y13 H kn Q) kn Q) : L36_3 x0 x5 x6 x11 x12 x13 H kn Q := by
  intro env h0 h5 h6 h11 h12 h13
  subst h0; subst h5; subst h6; subst h11; subst h12; subst h13
  exact RLoop.round ((c36_4 env H (fun y0 y5 y6 y11 y12 y13 H => L36_3 y0 y5 y6 y11 y12 y13 H kn Q) kn Q h).mono (mkK_mono (fun e H h => h e rfl rfl rfl rfl rfl rfl) (fun _ _ _ h => h) (fun _ _ h => h) (fun _ _ h => h)))
def m36_2 (x0 x1 x5 x6 : Value) (H : Heap) (kn : Value → Heap → Prop) (Q : Ending → Heap → Prop) : Prop :=
oV (vLen x1) fun t12_14 =>
L36_3 x0 x5 x6 x1 t12_14 (.int .i64 0) H kn Q
theorem c36_2 (env : Env) (H : Heap) (kn : Value → Heap → Prop) (Q : Ending → Heap → Prop) (h : m36_2 (env 0) (env 1) (env 5) (env 6) H kn Q) :
    RCode Try.prog 33 (codeAt [1, 1, 0] (bodyOf Try.f36)) env H (mkK (fun e H => kn (e 5) H) (fun _ _ _ => False) (retK T Try.f36.results.toList Q) (fun c H => Q (.panicked c) H)) :=
  RCode.prefix_ (T := T) (X := ext) (hint := hint36) (hole := (fun e H => L36_3 (e 0) (e 5) (e 6) (e 11) (e 12) (e 13) H kn Q)) tok xok mixed 1 (by kernel_rfl) (by kernel_rfl : codeAt _ _ = (codeAt [1, 1, 0, 1] (bodyOf Try.f36))) h
    (fun e H h => (cL36_3 e H kn Q h))
def m36 (x0 x1 : Value) (H : Heap) (Q : Ending → Heap → Prop) : Prop :=
oRC Try.prog 19 [x0, (.int .u64 0)] H (fun c H => Q (.panicked c) H) fun v_15 H_16 =>
m36_2 x0 x1 v_15 (.int .u64 1) H_16 (fun y5_17 H_18 => m36_1 y5_17 H_18 Q) Q
theorem c36_0 (env : Env) (H : Heap) (Q : Ending → Heap → Prop) (h : m36 (env 0) (env 1) H Q) :
    RCode Try.prog 33 (bodyOf Try.f36) env H (mkK (retK T Try.f36.results.toList Q) (fun _ _ _ => False) (retK T Try.f36.results.toList Q) (fun c H => Q (.panicked c) H)) :=
  RCode.prefix_ (T := T) (X := ext) (hint := hint36) (hole := (fun e H => m36_2 (e 0) (e 1) (e 5) (e 6) H (fun y5_19 H_20 => m36_1 y5_19 H_20 Q) Q)) tok xok mixed 2 (by kernel_rfl) (by kernel_rfl : codeAt _ _ = (codeAt [1, 1] (bodyOf Try.f36))) h
    (fun e H h => RCode.join (by kernel_rfl : (codeAt [1, 1] (bodyOf Try.f36)) = .seq (codeAt [1, 1, 0] (bodyOf Try.f36)) (codeAt [1, 1, 1] (bodyOf Try.f36))) ((c36_2 e H (fun y5_21 H_22 => m36_1 y5_21 H_22 Q) Q h).mono (mkK_mono (fun e H h => c36_1 e H Q h) (fun _ _ _ h => h) (fun _ _ h => h) (fun _ _ h => h))))
theorem call36 (a0 a1 : Value) (H : Heap) (Q : Ending → Heap → Prop) (h : m36 a0 a1 H Q) : RCalls Try.prog 36 [a0, a1] H Q :=
  RCalls.intro (nt := 33) tok Try.func36 (by kernel_rfl) (by kernel_rfl) (by kernel_rfl) (of_decide_eq_true (by kernel_rfl)) (c36_0 (envOf [a0, a1]) H Q h)
/-! ### 54: slices.Clone[[]privity/api.Gate,privity/api.Gate] -/
def hint54 : Nat → List Nat := lookupL []
def m54 (x0 : Value) (H : Heap) (Q : Ending → Heap → Prop) : Prop :=
oV (vNilOp .eql x0 (.slice none 0 0)) fun t4_1 =>
condK t4_1 (
Q (.returned (.slice none 0 0)) H) (
oBuildS ty47 47 0 [] H fun s_2 H_3 =>
oAppend ty47 47 s_2 x0 H_3 fun v_4 H_5 =>
Q (.returned v_4) H_5)
theorem c54_0 (env : Env) (H : Heap) (Q : Ending → Heap → Prop) (h : m54 (env 0) H Q) :
    RCode Try.prog 8 (bodyOf Try.f54) env H (mkK (retK T Try.f54.results.toList Q) (fun _ _ _ => False) (retK T Try.f54.results.toList Q) (fun c H => Q (.panicked c) H)) :=
  RCode.leaf_ (T := T) (X := ext) (hint := hint54) tok xok mixed (by kernel_rfl) h
theorem call54 (a0 : Value) (H : Heap) (Q : Ending → Heap → Prop) (h : m54 a0 H Q) : RCalls Try.prog 54 [a0] H Q :=
  RCalls.intro (nt := 8) tok Try.func54 (by kernel_rfl) (by kernel_rfl) (by kernel_rfl) (of_decide_eq_true (by kernel_rfl)) (c54_0 (envOf [a0]) H Q h)
/-! ### 55: slices.Clone[[]int,int] -/
def hint55 : Nat → List Nat := lookupL []
def m55 (x0 : Value) (H : Heap) (Q : Ending → Heap → Prop) : Prop :=
oV (vNilOp .eql x0 (.slice none 0 0)) fun t4_1 =>
condK t4_1 (
Q (.returned (.slice none 0 0)) H) (
oBuildS ty3 3 0 [] H fun s_2 H_3 =>
oAppend ty3 3 s_2 x0 H_3 fun v_4 H_5 =>
Q (.returned v_4) H_5)
theorem c55_0 (env : Env) (H : Heap) (Q : Ending → Heap → Prop) (h : m55 (env 0) H Q) :
    RCode Try.prog 8 (bodyOf Try.f55) env H (mkK (retK T Try.f55.results.toList Q) (fun _ _ _ => False) (retK T Try.f55.results.toList Q) (fun c H => Q (.panicked c) H)) :=
  RCode.leaf_ (T := T) (X := ext) (hint := hint55) tok xok mixed (by kernel_rfl) h
theorem call55 (a0 : Value) (H : Heap) (Q : Ending → Heap → Prop) (h : m55 a0 H Q) : RCalls Try.prog 55 [a0] H Q :=
  RCalls.intro (nt := 8) tok Try.func55 (by kernel_rfl) (by kernel_rfl) (by kernel_rfl) (of_decide_eq_true (by kernel_rfl)) (c55_0 (envOf [a0]) H Q h)
/-! ### 23: (*privity/gadget.Builder).Circuit -/
def hint23 : Nat → List Nat := lookupL [(1, [0, 1, 2, 3, 4, 5, 6, 7, 9, 10, 11, 12, 8, 13, 14, 15])]
def m23 (x0 : Value) (H : Heap) (Q : Ending → Heap → Prop) : Prop :=
oNew (Value.cells ty40.zero).toList (Value.cells ty40.zero).toList.length 40 H fun i_1 H_2 =>
oV (vNil x0) fun t4_3 =>
oV (vField 0 t4_3) fun t5_4 =>
oV (vLoad ty22 t5_4 H_2) fun t6_5 =>
oV (vNil x0) fun t8_6 =>
oV (vField 1 t8_6) fun t9_7 =>
oV (vLoad ty37 t9_7 H_2) fun t10_8 =>
oV (vNil x0) fun t13_9 =>
oV (vField 2 t13_9) fun t14_10 =>
oV (vLoad ty38 t14_10 H_2) fun t15_11 =>
oRC Try.prog 54 [t10_8] H_2 noP fun v_12 H_13 =>
(vLoad ty38 t14_10 H_13 = some t15_11 ∧
(vLoad ty22 t5_4 H_13 = some t6_5 ∧
oRC Try.prog 55 [t15_11] H_13 noP fun v_14 H_15 =>
(vLoad ty22 t5_4 H_15 = some t6_5 ∧
oV (vBuild ty40 [((0, 1), t6_5), ((1, 1), v_12), ((2, 1), v_14)]) fun t17_16 =>
oHeap (vStore ty40 (ptrTo i_1) t17_16 H_15) fun H_17 =>
retM ((vLoad ty40 (ptrTo i_1) H_17).bind fun v => (some []).map (v :: ·)) Q H_17)))
theorem c23_0 (env : Env) (H : Heap) (Q : Ending → Heap → Prop) (h : m23 (env 0) H Q) :
    RCode Try.prog 18 (bodyOf Try.f23) env H (mkK (retK T Try.f23.results.toList Q) (fun _ _ _ => False) (retK T Try.f23.results.toList Q) (fun c H => Q (.panicked c) H)) :=
  RCode.leaf_ (T := T) (X := ext) (hint := hint23) tok xok mixed (by kernel_rfl) h
theorem call23 (a0 : Value) (H : Heap) (Q : Ending → Heap → Prop) (h : m23 a0 H Q) : RCalls Try.prog 23 [a0] H Q :=
  RCalls.intro (nt := 18) tok Try.func23 (by kernel_rfl) (by kernel_rfl) (by kernel_rfl) (of_decide_eq_true (by kernel_rfl)) (c23_0 (envOf [a0]) H Q h)
/-! ### 69: privity/privityref01.exps -/
def hint69 : Nat → List Nat := lookupL []
def m69 (H : Heap) (Q : Ending → Heap → Prop) : Prop :=
oBuildS ty3 3 7 [((0, 1), (.int .i64 5)), ((1, 1), (.int .i64 7)), ((2, 1), (.int .i64 13)), ((3, 1), (.int .i64 17)), ((4, 1), (.int .i64 19)), ((5, 1), (.int .i64 31)), ((6, 1), (.int .i64 61))] H fun s_1 H_2 =>
Q (.returned s_1) H_2
theorem c69_0 (env : Env) (H : Heap) (Q : Ending → Heap → Prop) (h : m69 H Q) :
    RCode Try.prog 2 (bodyOf Try.f69) env H (mkK (retK T Try.f69.results.toList Q) (fun _ _ _ => False) (retK T Try.f69.results.toList Q) (fun c H => Q (.panicked c) H)) :=
  RCode.leaf_ (T := T) (X := ext) (hint := hint69) tok xok mixed (by kernel_rfl) h
theorem call69 (H : Heap) (Q : Ending → Heap → Prop) (h : m69 H Q) : RCalls Try.prog 69 [] H Q :=
  RCalls.intro (nt := 2) tok Try.func69 (by kernel_rfl) (by kernel_rfl) (by kernel_rfl) (of_decide_eq_true (by kernel_rfl)) (c69_0 (envOf []) H Q h)
/-! ### 49: privity/privityref01.Exponent -/
def hint49 : Nat → List Nat := lookupL []
def m49_1 (H : Heap) (Q : Ending → Heap → Prop) : Prop :=
Q (.returned (.int .i64 0)) H
theorem c49_1 (env : Env) (H : Heap) (Q : Ending → Heap → Prop) (h : m49_1 H Q) :
    RCode Try.prog 25 (codeAt [1, 1, 1] (bodyOf Try.f49)) env H (mkK (retK T Try.f49.results.toList Q) (fun _ _ _ => False) (retK T Try.f49.results.toList Q) (fun c H => Q (.panicked c) H)) :=
  RCode.leaf_ (T := T) (X := ext) (hint := hint49) tok xok mixed (by kernel_rfl) h
def L49_3 (x0 x3 x4 : Value) (H : Heap) (kn : Heap → Prop) (Q : Ending → Heap → Prop) : Prop :=
  ∀ env : Env, env 0 = x0 → env 3 = x3 → env 4 = x4 → RLoop Try.prog 25 (codeAt [1, 1, 0, 1, 0, 0] (bodyOf Try.f49)) env H (mkK (fun _ _ => False) (inK 0 (fun e H => kn H) (fun _ _ _ => False)) (retK T Try.f49.results.toList Q) (fun c H => Q (.panicked c) H))
theorem cL49_3 (env : Env) (H : Heap) (kn : Heap → Prop) (Q : Ending → Heap → Prop) (h : L49_3 (env 0) (env 3) (env 4) H kn Q) :
    RCode Try.prog 25 (codeAt [1, 1, 0, 1] (bodyOf Try.f49)) env H (mkK (fun e H => kn H) (fun _ _ _ => False) (retK T Try.f49.results.toList Q) (fun c H => Q (.panicked c) H)) :=
  RCode.blk (by kernel_rfl : (codeAt [1, 1, 0, 1] (bodyOf Try.f49)) = .block 0 (codeAt [1, 1, 0, 1, 0] (bodyOf Try.f49))) (RCode.lp (by kernel_rfl : (codeAt [1, 1, 0, 1, 0] (bodyOf Try.f49)) = .loop (codeAt [1, 1, 0, 1, 0, 0] (bodyOf Try.f49))) ((h env rfl rfl rfl).mono (mkK_mono (fun _ _ h => h.elim) (fun _ _ _ h => h) (fun _ _ h => h) (fun _ _ h => h))))
def m49_4 (x0 x3 x4 : Value) (H : Heap) (kn : Value → Value → Value → Heap → Prop) (kx0 : Heap → Prop) (Q : Ending → Heap → Prop) : Prop :=
oV (vLen x3) fun t8_1 =>
oV (vInt .lss x4 t8_1) fun t9_2 =>
condK t9_2 (
oV (vIdxS 1 x3 x4) fun t15_3 =>
oV (vLoad ty3 t15_3 H) fun t16_4 =>
oV (vConv (.int .u64) t16_4) fun t17_5 =>
oV (vInt .shl (.int .u64 1) t17_5) fun t18_6 =>
oV (vInt .sub t18_6 (.int .u64 1)) fun t19_7 =>
oV (vInt .eql x0 t19_7) fun t20_8 =>
condK t20_8 (
oV (vIdxS 1 x3 x4) fun t23_9 =>
oV (vLoad ty3 t23_9 H) fun t24_10 =>
Q (.returned t24_10) H) (
oV (vInt .add x4 (.int .i64 1)) fun t11_11 =>
kn x0 x3 t11_11 H)) (
kx0 H)
theorem c49_4 (env : Env) (H : Heap) (kn : Value → Value → Value → Heap → Prop) (kx0 : Heap → Prop) (Q : Ending → Heap → Prop) (h : m49_4 (env 0) (env 3) (env 4) H kn kx0 Q) :
    RCode Try.prog 25 (codeAt [1, 1, 0, 1, 0, 0] (bodyOf Try.f49)) env H (mkK (fun e H => kn (e 0) (e 3) (e 4) H) (inK 0 (fun e H => kx0 H) (fun _ _ _ => False)) (retK T Try.f49.results.toList Q) (fun c H => Q (.panicked c) H)) :=
  RCode.leaf_ (T := T) (X := ext) (hint := hint49) tok xok mixed (by kernel_rfl) h
theorem L49_3_round (x0 x3 x4 : Value) (H : Heap) (kn : Heap → Prop) (Q : Ending → Heap → Prop) (h : m49_4 x0 x3 x4 H (fun y0 y3 y4 H => L49_3 y0 y3 y4 H kn Q) kn Q) : L49_3 x0 x3 x4 H kn Q := by
  intro env h0 h3 h4
  subst h0; subst h3; subst h4
  exact RLoop.round ((c49_4 env H (fun y0 y3 y4 H => L49_3 y0 y3 y4 H kn Q) kn Q h).mono (mkK_mono (fun e H h => h e rfl rfl rfl) (fun _ _ _ h => h) (fun _ _ h => h) (fun _ _ h => h)))
def m49_2 (x0 x3 : Value) (H : Heap) (kn : Heap → Prop) (Q : Ending → Heap → Prop) : Prop :=
L49_3 x0 x3 (.int .i64 0) H kn Q
theorem c49_2 (env : Env) (H : Heap) (kn : Heap → Prop) (Q : Ending → Heap → Prop) (h : m49_2 (env 0) (env 3) H kn Q) :
    RCode Try.prog 25 (codeAt [1, 1, 0] (bodyOf Try.f49)) env H (mkK (fun e H => kn H) (fun _ _ _ => False) (retK T Try.f49.results.toList Q) (fun c H => Q (.panicked c) H)) :=
  RCode.prefix_ (T := T) (X := ext) (hint := hint49) (hole := (fun e H => L49_3 (e 0) (e 3) (e 4) H kn Q)) tok xok mixed 1 (by kernel_rfl) (by kernel_rfl : codeAt _ _ = (codeAt [1, 1, 0, 1] (bodyOf Try.f49))) h
    (fun e H h => (cL49_3 e H kn Q h))
def m49 (x0 : Value) (H : Heap) (Q : Ending → Heap → Prop) : Prop :=
oRC Try.prog 69 [] H (fun c H => Q (.panicked c) H) fun v_12 H_13 =>
m49_2 x0 v_12 H_13 (fun H_14 => m49_1 H_14 Q) Q
theorem c49_0 (env : Env) (H : Heap) (Q : Ending → Heap → Prop) (h : m49 (env 0) H Q) :
    RCode Try.prog 25 (bodyOf Try.f49) env H (mkK (retK T Try.f49.results.toList Q) (fun _ _ _ => False) (retK T Try.f49.results.toList Q) (fun c H => Q (.panicked c) H)) :=
  RCode.prefix_ (T := T) (X := ext) (hint := hint49) (hole := (fun e H => m49_2 (e 0) (e 3) H (fun H_15 => m49_1 H_15 Q) Q)) tok xok mixed 2 (by kernel_rfl) (by kernel_rfl : codeAt _ _ = (codeAt [1, 1] (bodyOf Try.f49))) h
    (fun e H h => RCode.join (by kernel_rfl : (codeAt [1, 1] (bodyOf Try.f49)) = .seq (codeAt [1, 1, 0] (bodyOf Try.f49)) (codeAt [1, 1, 1] (bodyOf Try.f49))) ((c49_2 e H (fun H_16 => m49_1 H_16 Q) Q h).mono (mkK_mono (fun e H h => c49_1 e H Q h) (fun _ _ _ h => h) (fun _ _ h => h) (fun _ _ h => h))))
theorem call49 (a0 : Value) (H : Heap) (Q : Ending → Heap → Prop) (h : m49 a0 H Q) : RCalls Try.prog 49 [a0] H Q :=
  RCalls.intro (nt := 25) tok Try.func49 (by kernel_rfl) (by kernel_rfl) (by kernel_rfl) (of_decide_eq_true (by kernel_rfl)) (c49_0 (envOf [a0]) H Q h)
/-! ### 11: privity/privityref01.Supported -/
def hint11 : Nat → List Nat := lookupL []
def m11 (x0 : Value) (H : Heap) (Q : Ending → Heap → Prop) : Prop :=
oRC Try.prog 49 [x0] H (fun c H => Q (.panicked c) H) fun v_1 H_2 =>
oV (vInt .gtr v_1 (.int .i64 0)) fun t5_3 =>
Q (.returned t5_3) H_2
theorem c11_0 (env : Env) (H : Heap) (Q : Ending → Heap → Prop) (h : m11 (env 0) H Q) :
    RCode Try.prog 6 (bodyOf Try.f11) env H (mkK (retK T Try.f11.results.toList Q) (fun _ _ _ => False) (retK T Try.f11.results.toList Q) (fun c H => Q (.panicked c) H)) :=
  RCode.leaf_ (T := T) (X := ext) (hint := hint11) tok xok mixed (by kernel_rfl) h
theorem call11 (a0 : Value) (H : Heap) (Q : Ending → Heap → Prop) (h : m11 a0 H Q) : RCalls Try.prog 11 [a0] H Q :=
  RCalls.intro (nt := 6) tok Try.func11 (by kernel_rfl) (by kernel_rfl) (by kernel_rfl) (of_decide_eq_true (by kernel_rfl)) (c11_0 (envOf [a0]) H Q h)
/-! ### 70: privity/privityref32.gate -/
def hint70 : Nat → List Nat := lookupL [(4, [0, 1, 2, 3, 4, 5, 6, 7]), (10, [0, 1, 2, 3, 4, 5, 6, 7]), (15, [0, 1, 2, 3, 4, 5, 6, 7])]
def m70 (x0 x1 x2 : Value) (H : Heap) (Q : Ending → Heap → Prop) : Prop :=
oNew (Value.cells x2).toList (Value.cells x2).toList.length 47 H fun i_1 H_2 =>
oV (vField 0 (ptrTo i_1)) fun t8_3 =>
oV (vLoad ty3 t8_3 H_2) fun t9_4 =>
oV (vBuild ty47 [((0, 1), t9_4)]) fun t10_5 =>
oNew (Value.cells ty47.zero).toList (Value.cells ty47.zero).toList.length 47 H_2 fun i_6 H_7 =>
oHeap (vStore ty47 (ptrTo i_6) t10_5 H_7) fun H_8 =>
oV (vField 0 (ptrTo i_1)) fun t11_9 =>
oV (vLoad ty3 t11_9 H_8) fun t12_10 =>
oV (vInt .eql t12_10 (.int .i64 1)) fun t14_11 =>
condK t14_11 (
oV (vField 1 (ptrTo i_1)) fun t15_12 =>
oV (vLoad ty3 t15_12 H_8) fun t16_13 =>
oV (vField 4 (ptrTo i_1)) fun t17_14 =>
oV (vLoad ty22 t17_14 H_8) fun t18_15 =>
oV (vField 1 (ptrTo i_6)) fun t19_16 =>
oHeap (vStore ty3 t19_16 t16_13 H_8) fun H_17 =>
(vLoad ty22 t17_14 H_17 = some t18_15 ∧
oV (vField 4 (ptrTo i_6)) fun t20_18 =>
oHeap (vStore ty22 t20_18 t18_15 H_17) fun H_19 =>
oV (vLoad ty47 (ptrTo i_1) H_19) fun t21_20 =>
oV (vLoad ty47 (ptrTo i_6) H_19) fun t22_21 =>
oV (vAggOp 5 .eql t21_20 t22_21) fun t23_22 =>
oV (gV t23_22 true (vField 1 (ptrTo i_1)) (some undef)) fun t25_23 =>
oV (gV t23_22 true (vLoad ty3 t25_23 H_19) (some undef)) fun t26_24 =>
oV (gV t23_22 true (vInt .geq t26_24 (.int .i64 1)) (some undef)) fun t27_25 =>
oV (vPick t23_22 t27_25 (.bool false)) fun t28_26 =>
oV (gV t28_26 true (vField 1 (ptrTo i_1)) (some undef)) fun t30_27 =>
oV (gV t28_26 true (vLoad ty3 t30_27 H_19) (some undef)) fun t31_28 =>
oV (gV t28_26 true (vInt .leq t31_28 (.int .i64 13)) (some undef)) fun t32_29 =>
oV (vPick t28_26 t32_29 (.bool false)) fun t33_30 =>
oV (gV t33_30 true (vField 4 (ptrTo i_1)) (some undef)) fun t35_31 =>
oV (gV t33_30 true (vLoad ty22 t35_31 H_19) (some undef)) fun t36_32 =>
oV (gV t33_30 true (vInt .leq t36_32 (.int .u64 1)) (some undef)) fun t37_33 =>
oV (vPick t33_30 t37_33 (.bool false)) fun t38_34 =>
Q (.returned t38_34) H_19)) (
oV (vInt .eql t12_10 (.int .i64 2)) fun t40_35 =>
condK t40_35 (
oV (vField 4 (ptrTo i_1)) fun t41_36 =>
oV (vLoad ty22 t41_36 H_8) fun t42_37 =>
oV (vField 4 (ptrTo i_6)) fun t43_38 =>
oHeap (vStore ty22 t43_38 t42_37 H_8) fun H_39 =>
oV (vLoad ty47 (ptrTo i_1) H_39) fun t44_40 =>
oV (vLoad ty47 (ptrTo i_6) H_39) fun t45_41 =>
oV (vAggOp 5 .eql t44_40 t45_41) fun t46_42 =>
oV (gV t46_42 true (vField 4 (ptrTo i_1)) (some undef)) fun t48_43 =>
oV (gV t46_42 true (vLoad ty22 t48_43 H_39) (some undef)) fun t49_44 =>
oV (gV t46_42 true (some x0) (some undef)) fun t50_45 =>
oV (gV t46_42 true (vInt .lss t49_44 t50_45) (some undef)) fun t51_46 =>
oV (vPick t46_42 t51_46 (.bool false)) fun t52_47 =>
Q (.returned t52_47) H_39) (
oV (vInt .eql t12_10 (.int .i64 5)) fun t54_48 =>
condK t54_48 (
oV (vField 4 (ptrTo i_1)) fun t55_49 =>
oV (vLoad ty22 t55_49 H_8) fun t56_50 =>
oV (vField 2 (ptrTo i_1)) fun t57_51 =>
oV (vLoad ty3 t57_51 H_8) fun t58_52 =>
oV (vField 4 (ptrTo i_6)) fun t59_53 =>
oHeap (vStore ty22 t59_53 t56_50 H_8) fun H_54 =>
(vLoad ty3 t57_51 H_54 = some t58_52 ∧
oV (vField 2 (ptrTo i_6)) fun t60_55 =>
oHeap (vStore ty3 t60_55 t58_52 H_54) fun H_56 =>
oV (vLoad ty47 (ptrTo i_1) H_56) fun t61_57 =>
oV (vLoad ty47 (ptrTo i_6) H_56) fun t62_58 =>
oV (vAggOp 5 .eql t61_57 t62_58) fun t63_59 =>
oV (gV t63_59 true (vField 4 (ptrTo i_1)) (some undef)) fun t65_60 =>
oV (gV t63_59 true (vLoad ty22 t65_60 H_56) (some undef)) fun t66_61 =>
oV (gV t63_59 true (some x0) (some undef)) fun t67_62 =>
oV (gV t63_59 true (vInt .lss t66_61 t67_62) (some undef)) fun t68_63 =>
oV (vPick t63_59 t68_63 (.bool false)) fun t69_64 =>
oV (gV t69_64 true (vField 2 (ptrTo i_1)) (some undef)) fun t71_65 =>
oV (gV t69_64 true (vLoad ty3 t71_65 H_56) (some undef)) fun t72_66 =>
oV (gV t69_64 true (vInt .geq t72_66 (.int .i64 0)) (some undef)) fun t73_67 =>
oV (vPick t69_64 t73_67 (.bool false)) fun t74_68 =>
oV (gV t74_68 true (vField 2 (ptrTo i_1)) (some undef)) fun t76_69 =>
oV (gV t74_68 true (vLoad ty3 t76_69 H_56) (some undef)) fun t77_70 =>
oV (gV t74_68 true (some x1) (some undef)) fun t78_71 =>
oV (gV t74_68 true (vInt .lss t77_70 t78_71) (some undef)) fun t79_72 =>
oV (vPick t74_68 t79_72 (.bool false)) fun t80_73 =>
Q (.returned t80_73) H_56)) (
oV (vInt .eql t12_10 (.int .i64 3)) fun t82_74 =>
condK t82_74 (
condK t82_74 (
oV (vField 2 (ptrTo i_1)) fun t85_75 =>
oV (vLoad ty3 t85_75 H_8) fun t86_76 =>
oV (vField 3 (ptrTo i_1)) fun t87_77 =>
oV (vLoad ty3 t87_77 H_8) fun t88_78 =>
oV (vField 2 (ptrTo i_6)) fun t89_79 =>
oHeap (vStore ty3 t89_79 t86_76 H_8) fun H_80 =>
(vLoad ty3 t87_77 H_80 = some t88_78 ∧
oV (vField 3 (ptrTo i_6)) fun t90_81 =>
oHeap (vStore ty3 t90_81 t88_78 H_80) fun H_82 =>
oV (vLoad ty47 (ptrTo i_1) H_82) fun t91_83 =>
oV (vLoad ty47 (ptrTo i_6) H_82) fun t92_84 =>
oV (vAggOp 5 .eql t91_83 t92_84) fun t93_85 =>
oV (gV t93_85 true (vField 2 (ptrTo i_1)) (some undef)) fun t95_86 =>
oV (gV t93_85 true (vLoad ty3 t95_86 H_82) (some undef)) fun t96_87 =>
oV (gV t93_85 true (vInt .geq t96_87 (.int .i64 0)) (some undef)) fun t97_88 =>
oV (vPick t93_85 t97_88 (.bool false)) fun t98_89 =>
oV (gV t98_89 true (vField 2 (ptrTo i_1)) (some undef)) fun t100_90 =>
oV (gV t98_89 true (vLoad ty3 t100_90 H_82) (some undef)) fun t101_91 =>
oV (gV t98_89 true (some x1) (some undef)) fun t102_92 =>
oV (gV t98_89 true (vInt .lss t101_91 t102_92) (some undef)) fun t103_93 =>
oV (vPick t98_89 t103_93 (.bool false)) fun t104_94 =>
oV (gV t104_94 true (vField 3 (ptrTo i_1)) (some undef)) fun t106_95 =>
oV (gV t104_94 true (vLoad ty3 t106_95 H_82) (some undef)) fun t107_96 =>
oV (gV t104_94 true (vInt .geq t107_96 (.int .i64 0)) (some undef)) fun t108_97 =>
oV (vPick t104_94 t108_97 (.bool false)) fun t109_98 =>
oV (gV t109_98 true (vField 3 (ptrTo i_1)) (some undef)) fun t111_99 =>
oV (gV t109_98 true (vLoad ty3 t111_99 H_82) (some undef)) fun t112_100 =>
oV (gV t109_98 true (some x1) (some undef)) fun t113_101 =>
oV (gV t109_98 true (vInt .lss t112_100 t113_101) (some undef)) fun t114_102 =>
oV (vPick t109_98 t114_102 (.bool false)) fun t115_103 =>
Q (.returned t115_103) H_82)) (
Q (.returned (.bool false)) H_8)) (
oV (vInt .eql t12_10 (.int .i64 4)) fun t83_104 =>
condK t83_104 (
condK t83_104 (
oV (vField 2 (ptrTo i_1)) fun t85_105 =>
oV (vLoad ty3 t85_105 H_8) fun t86_106 =>
oV (vField 3 (ptrTo i_1)) fun t87_107 =>
oV (vLoad ty3 t87_107 H_8) fun t88_108 =>
oV (vField 2 (ptrTo i_6)) fun t89_109 =>
oHeap (vStore ty3 t89_109 t86_106 H_8) fun H_110 =>
(vLoad ty3 t87_107 H_110 = some t88_108 ∧
oV (vField 3 (ptrTo i_6)) fun t90_111 =>
oHeap (vStore ty3 t90_111 t88_108 H_110) fun H_112 =>
oV (vLoad ty47 (ptrTo i_1) H_112) fun t91_113 =>
oV (vLoad ty47 (ptrTo i_6) H_112) fun t92_114 =>
oV (vAggOp 5 .eql t91_113 t92_114) fun t93_115 =>
oV (gV t93_115 true (vField 2 (ptrTo i_1)) (some undef)) fun t95_116 =>
oV (gV t93_115 true (vLoad ty3 t95_116 H_112) (some undef)) fun t96_117 =>
oV (gV t93_115 true (vInt .geq t96_117 (.int .i64 0)) (some undef)) fun t97_118 =>
oV (vPick t93_115 t97_118 (.bool false)) fun t98_119 =>
oV (gV t98_119 true (vField 2 (ptrTo i_1)) (some undef)) fun t100_120 =>
oV (gV t98_119 true (vLoad ty3 t100_120 H_112) (some undef)) fun t101_121 =>
oV (gV t98_119 true (some x1) (some undef)) fun t102_122 =>
oV (gV t98_119 true (vInt .lss t101_121 t102_122) (some undef)) fun t103_123 =>
oV (vPick t98_119 t103_123 (.bool false)) fun t104_124 =>
oV (gV t104_124 true (vField 3 (ptrTo i_1)) (some undef)) fun t106_125 =>
oV (gV t104_124 true (vLoad ty3 t106_125 H_112) (some undef)) fun t107_126 =>
oV (gV t104_124 true (vInt .geq t107_126 (.int .i64 0)) (some undef)) fun t108_127 =>
oV (vPick t104_124 t108_127 (.bool false)) fun t109_128 =>
oV (gV t109_128 true (vField 3 (ptrTo i_1)) (some undef)) fun t111_129 =>
oV (gV t109_128 true (vLoad ty3 t111_129 H_112) (some undef)) fun t112_130 =>
oV (gV t109_128 true (some x1) (some undef)) fun t113_131 =>
oV (gV t109_128 true (vInt .lss t112_130 t113_131) (some undef)) fun t114_132 =>
oV (vPick t109_128 t114_132 (.bool false)) fun t115_133 =>
Q (.returned t115_133) H_112)) (
Q (.returned (.bool false)) H_8)) (
oV (vInt .eql t12_10 (.int .i64 6)) fun t84_134 =>
condK t84_134 (
oV (vField 2 (ptrTo i_1)) fun t85_135 =>
oV (vLoad ty3 t85_135 H_8) fun t86_136 =>
oV (vField 3 (ptrTo i_1)) fun t87_137 =>
oV (vLoad ty3 t87_137 H_8) fun t88_138 =>
oV (vField 2 (ptrTo i_6)) fun t89_139 =>
oHeap (vStore ty3 t89_139 t86_136 H_8) fun H_140 =>
(vLoad ty3 t87_137 H_140 = some t88_138 ∧
oV (vField 3 (ptrTo i_6)) fun t90_141 =>
oHeap (vStore ty3 t90_141 t88_138 H_140) fun H_142 =>
oV (vLoad ty47 (ptrTo i_1) H_142) fun t91_143 =>
oV (vLoad ty47 (ptrTo i_6) H_142) fun t92_144 =>
oV (vAggOp 5 .eql t91_143 t92_144) fun t93_145 =>
oV (gV t93_145 true (vField 2 (ptrTo i_1)) (some undef)) fun t95_146 =>
oV (gV t93_145 true (vLoad ty3 t95_146 H_142) (some undef)) fun t96_147 =>
oV (gV t93_145 true (vInt .geq t96_147 (.int .i64 0)) (some undef)) fun t97_148 =>
oV (vPick t93_145 t97_148 (.bool false)) fun t98_149 =>
oV (gV t98_149 true (vField 2 (ptrTo i_1)) (some undef)) fun t100_150 =>
oV (gV t98_149 true (vLoad ty3 t100_150 H_142) (some undef)) fun t101_151 =>
oV (gV t98_149 true (some x1) (some undef)) fun t102_152 =>
oV (gV t98_149 true (vInt .lss t101_151 t102_152) (some undef)) fun t103_153 =>
oV (vPick t98_149 t103_153 (.bool false)) fun t104_154 =>
oV (gV t104_154 true (vField 3 (ptrTo i_1)) (some undef)) fun t106_155 =>
oV (gV t104_154 true (vLoad ty3 t106_155 H_142) (some undef)) fun t107_156 =>
oV (gV t104_154 true (vInt .geq t107_156 (.int .i64 0)) (some undef)) fun t108_157 =>
oV (vPick t104_154 t108_157 (.bool false)) fun t109_158 =>
oV (gV t109_158 true (vField 3 (ptrTo i_1)) (some undef)) fun t111_159 =>
oV (gV t109_158 true (vLoad ty3 t111_159 H_142) (some undef)) fun t112_160 =>
oV (gV t109_158 true (some x1) (some undef)) fun t113_161 =>
oV (gV t109_158 true (vInt .lss t112_160 t113_161) (some undef)) fun t114_162 =>
oV (vPick t109_158 t114_162 (.bool false)) fun t115_163 =>
Q (.returned t115_163) H_142)) (
Q (.returned (.bool false)) H_8))))))
theorem c70_0 (env : Env) (H : Heap) (Q : Ending → Heap → Prop) (h : m70 (env 0) (env 1) (env 2) H Q) :
    RCode Try.prog 116 (bodyOf Try.f70) env H (mkK (retK T Try.f70.results.toList Q) (fun _ _ _ => False) (retK T Try.f70.results.toList Q) (fun c H => Q (.panicked c) H)) :=
  RCode.leaf_ (T := T) (X := ext) (hint := hint70) tok xok mixed (by kernel_rfl) h
theorem call70 (a0 a1 a2 : Value) (H : Heap) (Q : Ending → Heap → Prop) (h : m70 a0 a1 a2 H Q) : RCalls Try.prog 70 [a0, a1, a2] H Q :=
  RCalls.intro (nt := 116) tok Try.func70 (by kernel_rfl) (by kernel_rfl) (by kernel_rfl) (of_decide_eq_true (by kernel_rfl)) (c70_0 (envOf [a0, a1, a2]) H Q h)
/-! ### 53: privity/privityref32.Valid -/
def hint53 : Nat → List Nat := lookupL [(6, [0, 1, 2, 3, 4, 5, 6, 7, 8, 9]), (11, [0, 1, 2, 3, 4, 5, 6, 7, 8, 9, 10, 11, 12, 13, 14, 15, 16])]
def m53_2 (H : Heap) (Q : Ending → Heap → Prop) : Prop :=
Q (.returned (.bool true)) H
theorem c53_2 (env : Env) (H : Heap) (Q : Ending → Heap → Prop) (h : m53_2 H Q) :
    RCode Try.prog 62 (codeAt [1, 1, 1, 1] (bodyOf Try.f53)) env H (mkK (retK T Try.f53.results.toList Q) (fun _ _ _ => False) (retK T Try.f53.results.toList Q) (fun c H => Q (.panicked c) H)) :=
  RCode.leaf_ (T := T) (X := ext) (hint := hint53) tok xok mixed (by kernel_rfl) h
def L53_4 (x1 x4 : Value) (H : Heap) (kn : Heap → Prop) (Q : Ending → Heap → Prop) : Prop :=
  ∀ env : Env, env 1 = x1 → env 4 = x4 → RLoop Try.prog 62 (codeAt [1, 1, 1, 0, 1, 0, 0] (bodyOf Try.f53)) env H (mkK (fun _ _ => False) (inK 2 (fun e H => kn H) (fun _ _ _ => False)) (retK T Try.f53.results.toList Q) (fun c H => Q (.panicked c) H))
theorem cL53_4 (env : Env) (H : Heap) (kn : Heap → Prop) (Q : Ending → Heap → Prop) (h : L53_4 (env 1) (env 4) H kn Q) :
    RCode Try.prog 62 (codeAt [1, 1, 1, 0, 1] (bodyOf Try.f53)) env H (mkK (fun e H => kn H) (fun _ _ _ => False) (retK T Try.f53.results.toList Q) (fun c H => Q (.panicked c) H)) :=
  RCode.blk (by kernel_rfl : (codeAt [1, 1, 1, 0, 1] (bodyOf Try.f53)) = .block 2 (codeAt [1, 1, 1, 0, 1, 0] (bodyOf Try.f53))) (RCode.lp (by kernel_rfl : (codeAt [1, 1, 1, 0, 1, 0] (bodyOf Try.f53)) = .loop (codeAt [1, 1, 1, 0, 1, 0, 0] (bodyOf Try.f53))) ((h env rfl rfl).mono (mkK_mono (fun _ _ h => h.elim) (fun _ _ _ h => h) (fun _ _ h => h) (fun _ _ h => h))))
def m53_5 (x1 x4 : Value) (H : Heap) (kn : Value → Value → Heap → Prop) (kx2 : Heap → Prop) (Q : Ending → Heap → Prop) : Prop :=
oV (vField 2 x1) fun t39_1 =>
oV (vLoad ty38 t39_1 H) fun t40_2 =>
oV (vLen t40_2) fun t41_3 =>
oV (vInt .lss x4 t41_3) fun t42_4 =>
condK t42_4 (
oV (vField 2 x1) fun t45_5 =>
oV (vLoad ty38 t45_5 H) fun t46_6 =>
oV (vIdxS 1 t46_6 x4) fun t48_7 =>
oV (vLoad ty3 t48_7 H) fun t49_8 =>
oV (vInt .lss t49_8 (.int .i64 0)) fun t50_9 =>
oV (gV t50_9 false (vField 2 x1) (some undef)) fun t52_10 =>
oV (gV t50_9 false (vLoad ty38 t52_10 H) (some undef)) fun t53_11 =>
oV (gV t50_9 false (some x4) (some undef)) fun t54_12 =>
oV (gV t50_9 false (vIdxS 1 t53_11 t54_12) (some undef)) fun t55_13 =>
oV (gV t50_9 false (vLoad ty3 t55_13 H) (some undef)) fun t56_14 =>
oV (gV t50_9 false (vField 1 x1) (some undef)) fun t57_15 =>
oV (gV t50_9 false (vLoad ty37 t57_15 H) (some undef)) fun t58_16 =>
oV (gV t50_9 false (vLen t58_16) (some undef)) fun t59_17 =>
oV (gV t50_9 false (vInt .geq t56_14 t59_17) (some undef)) fun t60_18 =>
oV (vPick t50_9 (.bool true) t60_18) fun t61_19 =>
condK t61_19 (
Q (.returned (.bool false)) H) (
oV (vInt .add x4 (.int .i64 1)) fun t44_20 =>
kn x1 t44_20 H)) (
kx2 H)
theorem c53_5 (env : Env) (H : Heap) (kn : Value → Value → Heap → Prop) (kx2 : Heap → Prop) (Q : Ending → Heap → Prop) (h : m53_5 (env 1) (env 4) H kn kx2 Q) :
    RCode Try.prog 62 (codeAt [1, 1, 1, 0, 1, 0, 0] (bodyOf Try.f53)) env H (mkK (fun e H => kn (e 1) (e 4) H) (inK 2 (fun e H => kx2 H) (fun _ _ _ => False)) (retK T Try.f53.results.toList Q) (fun c H => Q (.panicked c) H)) :=
  RCode.leaf_ (T := T) (X := ext) (hint := hint53) tok xok mixed (by kernel_rfl) h
theorem L53_4_round (x1 x4 : Value) (H : Heap) (kn : Heap → Prop) (Q : Ending → Heap → Prop) (h : m53_5 x1 x4 H (fun y1 y4 H => L53_4 y1 y4 H kn Q) kn Q) : L53_4 x1 x4 H kn Q := by
  intro env h1 h4
  subst h1; subst h4
  exact RLoop.round ((c53_5 env H (fun y1 y4 H => L53_4 y1 y4 H kn Q) kn Q h).mono (mkK_mono (fun e H h => h e rfl rfl) (fun _ _ _ h => h) (fun _ _ h => h) (fun _ _ h => h)))
def m53_3 (x1 : Value) (H : Heap) (kn : Heap → Prop) (Q : Ending → Heap → Prop) : Prop :=
L53_4 x1 (.int .i64 0) H kn Q
theorem c53_3 (env : Env) (H : Heap) (kn : Heap → Prop) (Q : Ending → Heap → Prop) (h : m53_3 (env 1) H kn Q) :
    RCode Try.prog 62 (codeAt [1, 1, 1, 0] (bodyOf Try.f53)) env H (mkK (fun e H => kn H) (fun _ _ _ => False) (retK T Try.f53.results.toList Q) (fun c H => Q (.panicked c) H)) :=
  RCode.prefix_ (T := T) (X := ext) (hint := hint53) (hole := (fun e H => L53_4 (e 1) (e 4) H kn Q)) tok xok mixed 1 (by kernel_rfl) (by kernel_rfl : codeAt _ _ = (codeAt [1, 1, 1, 0, 1] (bodyOf Try.f53))) h
    (fun e H h => (cL53_4 e H kn Q h))
def m53_1 (x1 : Value) (H : Heap) (Q : Ending → Heap → Prop) : Prop :=
m53_3 x1 H (fun H_21 => m53_2 H_21 Q) Q
theorem c53_1 (env : Env) (H : Heap) (Q : Ending → Heap → Prop) (h : m53_1 (env 1) H Q) :
    RCode Try.prog 62 (codeAt [1, 1, 1] (bodyOf Try.f53)) env H (mkK (retK T Try.f53.results.toList Q) (fun _ _ _ => False) (retK T Try.f53.results.toList Q) (fun c H => Q (.panicked c) H)) :=
  RCode.join (by kernel_rfl : (codeAt [1, 1, 1] (bodyOf Try.f53)) = .seq (codeAt [1, 1, 1, 0] (bodyOf Try.f53)) (codeAt [1, 1, 1, 1] (bodyOf Try.f53))) ((c53_3 env H (fun H_22 => m53_2 H_22 Q) Q h).mono (mkK_mono (fun e H h => c53_2 e H Q h) (fun _ _ _ h => h) (fun _ _ h => h) (fun _ _ h => h)))
def L53_7 (x1 x3 : Value) (H : Heap) (kn : Value → Heap → Prop) (Q : Ending → Heap → Prop) : Prop :=
  ∀ env : Env, env 1 = x1 → env 3 = x3 → RLoop Try.prog 62 (codeAt [1, 1, 0, 1, 0, 0] (bodyOf Try.f53)) env H (mkK (fun _ _ => False) (inK 0 (fun e H => kn (e 1) H) (fun _ _ _ => False)) (retK T Try.f53.results.toList Q) (fun c H => Q (.panicked c) H))
theorem cL53_7 (env : Env) (H : Heap) (kn : Value → Heap → Prop) (Q : Ending → Heap → Prop) (h : L53_7 (env 1) (env 3) H kn Q) :
    RCode Try.prog 62 (codeAt [1, 1, 0, 1] (bodyOf Try.f53)) env H (mkK (fun e H => kn (e 1) H) (fun _ _ _ => False) (retK T Try.f53.results.toList Q) (fun c H => Q (.panicked c) H)) :=
  RCode.blk (by kernel_rfl : (codeAt [1, 1, 0, 1] (bodyOf Try.f53)) = .block 0 (codeAt [1, 1, 0, 1, 0] (bodyOf Try.f53))) (RCode.lp (by kernel_rfl : (codeAt [1, 1, 0, 1, 0] (bodyOf Try.f53)) = .loop (codeAt [1, 1, 0, 1, 0, 0] (bodyOf Try.f53))) ((h env rfl rfl).mono (mkK_mono (fun _ _ h => h.elim) (fun _ _ _ h => h) (fun _ _ h => h) (fun _ _ h => h))))
def m53_8 (x1 x3 : Value) (H : Heap) (kn : Value → Value → Heap → Prop) (kx0 : Value → Heap → Prop) (Q : Ending → Heap → Prop) : Prop :=
oV (vField 1 x1) fun t22_23 =>
oV (vLoad ty37 t22_23 H) fun t23_24 =>
oV (vLen t23_24) fun t24_25 =>
oV (vInt .lss x3 t24_25) fun t25_26 =>
condK t25_26 (
oV (vField 0 x1) fun t28_27 =>
oV (vLoad ty22 t28_27 H) fun t29_28 =>
oV (vField 1 x1) fun t31_29 =>
oV (vLoad ty37 t31_29 H) fun t32_30 =>
oV (vIdxS 5 t32_30 x3) fun t34_31 =>
oV (vLoad ty47 t34_31 H) fun t35_32 =>
oRC Try.prog 70 [t29_28, x3, t35_32] H noP fun v_33 H_34 =>
oV (vUn .not v_33) fun t37_35 =>
condK t37_35 (
Q (.returned (.bool false)) H_34) (
oV (vInt .add x3 (.int .i64 1)) fun t27_36 =>
kn x1 t27_36 H_34)) (
kx0 x1 H)
theorem c53_8 (env : Env) (H : Heap) (kn : Value → Value → Heap → Prop) (kx0 : Value → Heap → Prop) (Q : Ending → Heap → Prop) (h : m53_8 (env 1) (env 3) H kn kx0 Q) :
    RCode Try.prog 62 (codeAt [1, 1, 0, 1, 0, 0] (bodyOf Try.f53)) env H (mkK (fun e H => kn (e 1) (e 3) H) (inK 0 (fun e H => kx0 (e 1) H) (fun _ _ _ => False)) (retK T Try.f53.results.toList Q) (fun c H => Q (.panicked c) H)) :=
  RCode.leaf_ (T := T) (X := ext) (hint := hint53) tok xok mixed (by kernel_rfl) h
theorem L53_7_round (x1 x3 : Value) (H : Heap) (kn : Value → Heap → Prop) (Q : Ending → Heap → Prop) (h : m53_8 x1 x3 H (fun y1 y3 H => L53_7 y1 y3 H kn Q) kn Q) : L53_7 x1 x3 H kn Q := by
  intro env h1 h3
  subst h1; subst h3
  exact RLoop.round ((c53_8 env H (fun y1 y3 H => L53_7 y1 y3 H kn Q) kn Q h).mono (mkK_mono (fun e H h => h e rfl rfl) (fun _ _ _ h => h) (fun _ _ h => h) (fun _ _ h => h)))
def m53_6 (x1 : Value) (H : Heap) (kn : Value → Heap → Prop) (Q : Ending → Heap → Prop) : Prop :=
L53_7 x1 (.int .i64 0) H kn Q
theorem c53_6 (env : Env) (H : Heap) (kn : Value → Heap → Prop) (Q : Ending → Heap → Prop) (h : m53_6 (env 1) H kn Q) :
    RCode Try.prog 62 (codeAt [1, 1, 0] (bodyOf Try.f53)) env H (mkK (fun e H => kn (e 1) H) (fun _ _ _ => False) (retK T Try.f53.results.toList Q) (fun c H => Q (.panicked c) H)) :=
  RCode.prefix_ (T := T) (X := ext) (hint := hint53) (hole := (fun e H => L53_7 (e 1) (e 3) H kn Q)) tok xok mixed 1 (by kernel_rfl) (by kernel_rfl : codeAt _ _ = (codeAt [1, 1, 0, 1] (bodyOf Try.f53))) h
    (fun e H h => (cL53_7 e H kn Q h))
def m53 (x0 : Value) (H : Heap) (Q : Ending → Heap → Prop) : Prop :=
oNew (Value.cells x0).toList (Value.cells x0).toList.length 40 H fun i_37 H_38 =>
oV (vField 0 (ptrTo i_37)) fun t5_39 =>
oV (vLoad ty22 t5_39 H_38) fun t6_40 =>
oRC Try.prog 11 [t6_40] H_38 (fun c H => Q (.panicked c) H) fun v_41 H_42 =>
oV (vUn .not v_41) fun t8_43 =>
oV (gV t8_43 false (vField 1 (ptrTo i_37)) (some undef)) fun t10_44 =>
oV (gV t8_43 false (vLoad ty37 t10_44 H_42) (some undef)) fun t11_45 =>
oV (gV t8_43 false (vLen t11_45) (some undef)) fun t12_46 =>
oV (gV t8_43 false (vInt .gtr t12_46 (.int .i64 20000)) (some undef)) fun t13_47 =>
oV (vPick t8_43 (.bool true) t13_47) fun t14_48 =>
oV (gV t14_48 false (vField 2 (ptrTo i_37)) (some undef)) fun t16_49 =>
oV (gV t14_48 false (vLoad ty38 t16_49 H_42) (some undef)) fun t17_50 =>
oV (gV t14_48 false (vLen t17_50) (some undef)) fun t18_51 =>
oV (gV t14_48 false (vInt .gtr t18_51 (.int .i64 1000)) (some undef)) fun t19_52 =>
oV (vPick t14_48 (.bool true) t19_52) fun t20_53 =>
condK t20_53 (
Q (.returned (.bool false)) H_42) (
m53_6 (ptrTo i_37) H_42 (fun y1_54 H_55 => m53_1 y1_54 H_55 Q) Q)
theorem c53_0 (env : Env) (H : Heap) (Q : Ending → Heap → Prop) (h : m53 (env 0) H Q) :
    RCode Try.prog 62 (bodyOf Try.f53) env H (mkK (retK T Try.f53.results.toList Q) (fun _ _ _ => False) (retK T Try.f53.results.toList Q) (fun c H => Q (.panicked c) H)) :=
  RCode.prefix_ (T := T) (X := ext) (hint := hint53) (hole := (fun e H => m53_6 (e 1) H (fun y1_56 H_57 => m53_1 y1_56 H_57 Q) Q)) tok xok mixed 2 (by kernel_rfl) (by kernel_rfl : codeAt _ _ = (codeAt [1, 1] (bodyOf Try.f53))) h
    (fun e H h => RCode.join (by kernel_rfl : (codeAt [1, 1] (bodyOf Try.f53)) = .seq (codeAt [1, 1, 0] (bodyOf Try.f53)) (codeAt [1, 1, 1] (bodyOf Try.f53))) ((c53_6 e H (fun y1_58 H_59 => m53_1 y1_58 H_59 Q) Q h).mono (mkK_mono (fun e H h => c53_1 e H Q h) (fun _ _ _ h => h) (fun _ _ h => h) (fun _ _ h => h))))
theorem call53 (a0 : Value) (H : Heap) (Q : Ending → Heap → Prop) (h : m53 a0 H Q) : RCalls Try.prog 53 [a0] H Q :=
  RCalls.intro (nt := 62) tok Try.func53 (by kernel_rfl) (by kernel_rfl) (by kernel_rfl) (of_decide_eq_true (by kernel_rfl)) (c53_0 (envOf [a0]) H Q h)
/-! ### 78: privity/privityref33.inputCount -/
def hint78 : Nat → List Nat := lookupL []
def m78_1 (x5 : Value) (H : Heap) (Q : Ending → Heap → Prop) : Prop :=
Q (.returned x5) H
theorem c78_1 (env : Env) (H : Heap) (Q : Ending → Heap → Prop) (h : m78_1 (env 5) H Q) :
    RCode Try.prog 34 (codeAt [1, 1, 1] (bodyOf Try.f78)) env H (mkK (retK T Try.f78.results.toList Q) (fun _ _ _ => False) (retK T Try.f78.results.toList Q) (fun c H => Q (.panicked c) H)) :=
  RCode.leaf_ (T := T) (X := ext) (hint := hint78) tok xok mixed (by kernel_rfl) h
def L78_3 (x1 x2 x5 x6 : Value) (H : Heap) (kn : Value → Heap → Prop) (Q : Ending → Heap → Prop) : Prop :=
  ∀ env : Env, env 1 = x1 → env 2 = x2 → env 5 = x5 → env 6 = x6 → RLoop Try.prog 34 (codeAt [1, 1, 0, 1, 0, 0] (bodyOf Try.f78)) env H (mkK (fun _ _ => False) (inK 0 (fun e H => kn (e 5) H) (fun _ _ _ => False)) (retK T Try.f78.results.toList Q) (fun c H => Q (.panicked c) H))
theorem cL78_3 (env : Env) (H : Heap) (kn : Value → Heap → Prop) (Q : Ending → Heap → Prop) (h : L78_3 (env 1) (env 2) (env 5) (env 6) H kn Q) :
    RCode Try.prog 34 (codeAt [1, 1, 0, 1] (bodyOf Try.f78)) env H (mkK (fun e H => kn (e 5) H) (fun _ _ _ => False) (retK T Try.f78.results.toList Q) (fun c H => Q (.panicked c) H)) :=
  RCode.blk (by kernel_rfl : (codeAt [1, 1, 0, 1] (bodyOf Try.f78)) = .block 0 (codeAt [1, 1, 0, 1, 0] (bodyOf Try.f78))) (RCode.lp (by kernel_rfl : (codeAt [1, 1, 0, 1, 0] (bodyOf Try.f78)) = .loop (codeAt [1, 1, 0, 1, 0, 0] (bodyOf Try.f78))) ((h env rfl rfl rfl rfl).mono (mkK_mono (fun _ _ h => h.elim) (fun _ _ _ h => h) (fun _ _ h => h) (fun _ _ h => h))))
def m78_4 (x1 x2 x5 x6 : Value) (H : Heap) (kn : Value → Value → Value → Value → Heap → Prop) (kx0 : Value → Heap → Prop) (Q : Ending → Heap → Prop) : Prop :=
oV (vField 1 x2) fun t8_1 =>
oV (vLoad ty37 t8_1 H) fun t9_2 =>
oV (vLen t9_2) fun t10_3 =>
oV (vInt .lss x6 t10_3) fun t11_4 =>
condK t11_4 (
oV (vField 1 x2) fun t14_5 =>
oV (vLoad ty37 t14_5 H) fun t15_6 =>
oV (vIdxS 5 t15_6 x6) fun t17_7 =>
oV (vField 0 t17_7) fun t18_8 =>
oV (vLoad ty3 t18_8 H) fun t19_9 =>
oV (vInt .eql t19_9 (.int .i64 1)) fun t20_10 =>
oV (gV t20_10 true (vField 1 x2) (some undef)) fun t22_11 =>
oV (gV t20_10 true (vLoad ty37 t22_11 H) (some undef)) fun t23_12 =>
oV (gV t20_10 true (some x6) (some undef)) fun t24_13 =>
oV (gV t20_10 true (vIdxS 5 t23_12 t24_13) (some undef)) fun t25_14 =>
oV (gV t20_10 true (vField 1 t25_14) (some undef)) fun t26_15 =>
oV (gV t20_10 true (vLoad ty3 t26_15 H) (some undef)) fun t27_16 =>
oV (gV t20_10 true (some x1) (some undef)) fun t28_17 =>
oV (gV t20_10 true (vInt .eql t27_16 t28_17) (some undef)) fun t29_18 =>
oV (vPick t20_10 t29_18 (.bool false)) fun t30_19 =>
condK t30_19 (
oV (vInt .add x5 (.int .i64 1)) fun t32_20 =>
oV (vInt .add x6 (.int .i64 1)) fun t13_21 =>
kn x1 x2 t32_20 t13_21 H) (
oV (vInt .add x6 (.int .i64 1)) fun t13_22 =>
kn x1 x2 x5 t13_22 H)) (
kx0 x5 H)
theorem c78_4 (env : Env) (H : Heap) (kn : Value → Value → Value → Value → Heap → Prop) (kx0 : Value → Heap → Prop) (Q : Ending → Heap → Prop) (h : m78_4 (env 1) (env 2) (env 5) (env 6) H kn kx0 Q) :
    RCode Try.prog 34 (codeAt [1, 1, 0, 1, 0, 0] (bodyOf Try.f78)) env H (mkK (fun e H => kn (e 1) (e 2) (e 5) (e 6) H) (inK 0 (fun e H => kx0 (e 5) H) (fun _ _ _ => False)) (retK T Try.f78.results.toList Q) (fun c H => Q (.panicked c) H)) :=
  RCode.leaf_ (T := T) (X := ext) (hint := hint78) tok xok mixed (by kernel_rfl) h
theorem L78_3_round (x1 x2 x5 x6 : Value) (H : Heap) (kn : Value → Heap → Prop) (Q : Ending → Heap → Prop) (h : m78_4 x1 x2 x5 x6 H (fun y1 y2 y5 y6 H => L78_3 y1 y2 y5 y6 H kn Q) kn Q) : L78_3 x1 x2 x5 x6 H kn Q := by
  intro env h1 h2 h5 h6
  subst h1; subst h2; subst h5; subst h6
  exact RLoop.round ((c78_4 env H (fun y1 y2 y5 y6 H => L78_3 y1 y2 y5 y6 H kn Q) kn Q h).mono (mkK_mono (fun e H h => h e rfl rfl rfl rfl) (fun _ _ _ h => h) (fun _ _ h => h) (fun _ _ h => h)))
def m78_2 (x1 x2 x5 : Value) (H : Heap) (kn : Value → Heap → Prop) (Q : Ending → Heap → Prop) : Prop :=
L78_3 x1 x2 x5 (.int .i64 0) H kn Q
theorem c78_2 (env : Env) (H : Heap) (kn : Value → Heap → Prop) (Q : Ending → Heap → Prop) (h : m78_2 (env 1) (env 2) (env 5) H kn Q) :
    RCode Try.prog 34 (codeAt [1, 1, 0] (bodyOf Try.f78)) env H (mkK (fun e H => kn (e 5) H) (fun _ _ _ => False) (retK T Try.f78.results.toList Q) (fun c H => Q (.panicked c) H)) :=
  RCode.prefix_ (T := T) (X := ext) (hint := hint78) (hole := (fun e H => L78_3 (e 1) (e 2) (e 5) (e 6) H kn Q)) tok xok mixed 1 (by kernel_rfl) (by kernel_rfl : codeAt _ _ = (codeAt [1, 1, 0, 1] (bodyOf Try.f78))) h
    (fun e H h => (cL78_3 e H kn Q h))
def m78 (x0 x1 : Value) (H : Heap) (Q : Ending → Heap → Prop) : Prop :=
oNew (Value.cells x0).toList (Value.cells x0).toList.length 40 H fun i_23 H_24 =>
m78_2 x1 (ptrTo i_23) (.int .i64 0) H_24 (fun y5_25 H_26 => m78_1 y5_25 H_26 Q) Q
theorem c78_0 (env : Env) (H : Heap) (Q : Ending → Heap → Prop) (h : m78 (env 0) (env 1) H Q) :
    RCode Try.prog 34 (bodyOf Try.f78) env H (mkK (retK T Try.f78.results.toList Q) (fun _ _ _ => False) (retK T Try.f78.results.toList Q) (fun c H => Q (.panicked c) H)) :=
  RCode.prefix_ (T := T) (X := ext) (hint := hint78) (hole := (fun e H => m78_2 (e 1) (e 2) (e 5) H (fun y5_27 H_28 => m78_1 y5_27 H_28 Q) Q)) tok xok mixed 2 (by kernel_rfl) (by kernel_rfl : codeAt _ _ = (codeAt [1, 1] (bodyOf Try.f78))) h
    (fun e H h => RCode.join (by kernel_rfl : (codeAt [1, 1] (bodyOf Try.f78)) = .seq (codeAt [1, 1, 0] (bodyOf Try.f78)) (codeAt [1, 1, 1] (bodyOf Try.f78))) ((c78_2 e H (fun y5_29 H_30 => m78_1 y5_29 H_30 Q) Q h).mono (mkK_mono (fun e H h => c78_1 e H Q h) (fun _ _ _ h => h) (fun _ _ h => h) (fun _ _ h => h))))
theorem call78 (a0 a1 : Value) (H : Heap) (Q : Ending → Heap → Prop) (h : m78 a0 a1 H Q) : RCalls Try.prog 78 [a0, a1] H Q :=
  RCalls.intro (nt := 34) tok Try.func78 (by kernel_rfl) (by kernel_rfl) (by kernel_rfl) (of_decide_eq_true (by kernel_rfl)) (c78_0 (envOf [a0, a1]) H Q h)
/-! ### 74: privity/privityref33.Fits -/
def hint74 : Nat → List Nat := lookupL [(9, [0, 1, 2, 3, 4, 5, 6, 7, 8, 9]), (14, [0, 1, 2, 3, 4, 5, 6, 7, 8, 9])]
def m74_2 (H : Heap) (Q : Ending → Heap → Prop) : Prop :=
Q (.returned (.bool true)) H
theorem c74_2 (env : Env) (H : Heap) (Q : Ending → Heap → Prop) (h : m74_2 H Q) :
    RCode Try.prog 68 (codeAt [1, 1, 1] (bodyOf Try.f74)) env H (mkK (retK T Try.f74.results.toList Q) (fun _ _ _ => False) (retK T Try.f74.results.toList Q) (fun c H => Q (.panicked c) H)) :=
  RCode.leaf_ (T := T) (X := ext) (hint := hint74) tok xok mixed (by kernel_rfl) h
def L74_4 (x1 x2 x6 : Value) (H : Heap) (kn : Heap → Prop) (Q : Ending → Heap → Prop) : Prop :=
  ∀ env : Env, env 1 = x1 → env 2 = x2 → env 6 = x6 → RLoop Try.prog 68 (codeAt [1, 1, 0, 1, 0, 0] (bodyOf Try.f74)) env H (mkK (fun _ _ => False) (inK 2 (fun e H => kn H) (fun _ _ _ => False)) (retK T Try.f74.results.toList Q) (fun c H => Q (.panicked c) H))
theorem cL74_4 (env : Env) (H : Heap) (kn : Heap → Prop) (Q : Ending → Heap → Prop) (h : L74_4 (env 1) (env 2) (env 6) H kn Q) :
    RCode Try.prog 68 (codeAt [1, 1, 0, 1] (bodyOf Try.f74)) env H (mkK (fun e H => kn H) (fun _ _ _ => False) (retK T Try.f74.results.toList Q) (fun c H => Q (.panicked c) H)) :=
  RCode.blk (by kernel_rfl : (codeAt [1, 1, 0, 1] (bodyOf Try.f74)) = .block 2 (codeAt [1, 1, 0, 1, 0] (bodyOf Try.f74))) (RCode.lp (by kernel_rfl : (codeAt [1, 1, 0, 1, 0] (bodyOf Try.f74)) = .loop (codeAt [1, 1, 0, 1, 0, 0] (bodyOf Try.f74))) ((h env rfl rfl rfl).mono (mkK_mono (fun _ _ h => h.elim) (fun _ _ _ h => h) (fun _ _ h => h) (fun _ _ h => h))))
def m74_6 (x1 x2 x6 : Value) (H : Heap) (kn : Value → Value → Value → Heap → Prop) (kx2 : Heap → Prop) (Q : Ending → Heap → Prop) : Prop :=
oV (vInt .add x6 (.int .i64 1)) fun t38_1 =>
kn x1 x2 t38_1 H
theorem c74_6 (env : Env) (H : Heap) (kn : Value → Value → Value → Heap → Prop) (kx2 : Heap → Prop) (Q : Ending → Heap → Prop) (h : m74_6 (env 1) (env 2) (env 6) H kn kx2 Q) :
    RCode Try.prog 68 (codeAt [1, 1, 0, 1, 0, 0, 1, 1] (bodyOf Try.f74)) env H (mkK (fun e H => kn (e 1) (e 2) (e 6) H) (inK 2 (fun e H => kx2 H) (fun _ _ _ => False)) (retK T Try.f74.results.toList Q) (fun c H => Q (.panicked c) H)) :=
  RCode.leaf_ (T := T) (X := ext) (hint := hint74) tok xok mixed (by kernel_rfl) h
def L74_9 (x1 x2 x6 x7 : Value) (H : Heap) (kn : Value → Value → Value → Heap → Prop) (kx3 : Value → Value → Value → Heap → Prop) (kx2 : Heap → Prop) (Q : Ending → Heap → Prop) : Prop :=
  ∀ env : Env, env 1 = x1 → env 2 = x2 → env 6 = x6 → env 7 = x7 → RLoop Try.prog 68 (codeAt [1, 1, 0, 1, 0, 0, 1, 0, 0, 1, 1, 0, 0] (bodyOf Try.f74)) env H (mkK (fun _ _ => False) (inK 4 (fun e H => kn (e 1) (e 2) (e 6) H) (inK 3 (fun e H => kx3 (e 1) (e 2) (e 6) H) (inK 2 (fun e H => kx2 H) (fun _ _ _ => False)))) (retK T Try.f74.results.toList Q) (fun c H => Q (.panicked c) H))
theorem cL74_9 (env : Env) (H : Heap) (kn : Value → Value → Value → Heap → Prop) (kx3 : Value → Value → Value → Heap → Prop) (kx2 : Heap → Prop) (Q : Ending → Heap → Prop) (h : L74_9 (env 1) (env 2) (env 6) (env 7) H kn kx3 kx2 Q) :
    RCode Try.prog 68 (codeAt [1, 1, 0, 1, 0, 0, 1, 0, 0, 1, 1] (bodyOf Try.f74)) env H (mkK (fun e H => kn (e 1) (e 2) (e 6) H) (inK 3 (fun e H => kx3 (e 1) (e 2) (e 6) H) (inK 2 (fun e H => kx2 H) (fun _ _ _ => False))) (retK T Try.f74.results.toList Q) (fun c H => Q (.panicked c) H)) :=
  RCode.blk (by kernel_rfl : (codeAt [1, 1, 0, 1, 0, 0, 1, 0, 0, 1, 1] (bodyOf Try.f74)) = .block 4 (codeAt [1, 1, 0, 1, 0, 0, 1, 0, 0, 1, 1, 0] (bodyOf Try.f74))) (RCode.lp (by kernel_rfl : (codeAt [1, 1, 0, 1, 0, 0, 1, 0, 0, 1, 1, 0] (bodyOf Try.f74)) = .loop (codeAt [1, 1, 0, 1, 0, 0, 1, 0, 0, 1, 1, 0, 0] (bodyOf Try.f74))) ((h env rfl rfl rfl rfl).mono (mkK_mono (fun _ _ h => h.elim) (fun _ _ _ h => h) (fun _ _ h => h) (fun _ _ h => h))))
def m74_10 (x1 x2 x6 x7 : Value) (H : Heap) (kn : Value → Value → Value → Value → Heap → Prop) (kx4 : Value → Value → Value → Heap → Prop) (kx3 : Value → Value → Value → Heap → Prop) (kx2 : Heap → Prop) (Q : Ending → Heap → Prop) : Prop :=
oV (vIdxS 1 x1 x6) fun t52_2 =>
oV (vLoad ty35 t52_2 H) fun t53_3 =>
oV (vLen t53_3) fun t54_4 =>
oV (vInt .lss x7 t54_4) fun t55_5 =>
condK t55_5 (
oV (vIdxS 1 x1 x6) fun t60_6 =>
oV (vLoad ty35 t60_6 H) fun t61_7 =>
oV (vIdxS 1 t61_7 x7) fun t63_8 =>
oV (vLoad ty22 t63_8 H) fun t64_9 =>
oV (vField 0 x2) fun t65_10 =>
oV (vLoad ty22 t65_10 H) fun t66_11 =>
oV (vInt .geq t64_9 t66_11) fun t67_12 =>
condK t67_12 (
Q (.returned (.bool false)) H) (
oV (vInt .add x7 (.int .i64 1)) fun t57_13 =>
kn x1 x2 x6 t57_13 H)) (
kx4 x1 x2 x6 H)
theorem c74_10 (env : Env) (H : Heap) (kn : Value → Value → Value → Value → Heap → Prop) (kx4 : Value → Value → Value → Heap → Prop) (kx3 : Value → Value → Value → Heap → Prop) (kx2 : Heap → Prop) (Q : Ending → Heap → Prop) (h : m74_10 (env 1) (env 2) (env 6) (env 7) H kn kx4 kx3 kx2 Q) :
    RCode Try.prog 68 (codeAt [1, 1, 0, 1, 0, 0, 1, 0, 0, 1, 1, 0, 0] (bodyOf Try.f74)) env H (mkK (fun e H => kn (e 1) (e 2) (e 6) (e 7) H) (inK 4 (fun e H => kx4 (e 1) (e 2) (e 6) H) (inK 3 (fun e H => kx3 (e 1) (e 2) (e 6) H) (inK 2 (fun e H => kx2 H) (fun _ _ _ => False)))) (retK T Try.f74.results.toList Q) (fun c H => Q (.panicked c) H)) :=
  RCode.leaf_ (T := T) (X := ext) (hint := hint74) tok xok mixed (by kernel_rfl) h
theorem L74_9_round (x1 x2 x6 x7 : Value) (H : Heap) (kn : Value → Value → Value → Heap → Prop) (kx3 : Value → Value → Value → Heap → Prop) (kx2 : Heap → Prop) (Q : Ending → Heap → Prop) (h : m74_10 x1 x2 x6 x7 H (fun y1 y2 y6 y7 H => L74_9 y1 y2 y6 y7 H kn kx3 kx2 Q) kn kx3 kx2 Q) : L74_9 x1 x2 x6 x7 H kn kx3 kx2 Q := by
  intro env h1 h2 h6 h7
  subst h1; subst h2; subst h6; subst h7
  exact RLoop.round ((c74_10 env H (fun y1 y2 y6 y7 H => L74_9 y1 y2 y6 y7 H kn kx3 kx2 Q) kn kx3 kx2 Q h).mono (mkK_mono (fun e H h => h e rfl rfl rfl rfl) (fun _ _ _ h => h) (fun _ _ h => h) (fun _ _ h => h)))
def m74_8 (x1 x2 x6 : Value) (H : Heap) (kn : Value → Value → Value → Heap → Prop) (kx3 : Value → Value → Value → Heap → Prop) (kx2 : Heap → Prop) (Q : Ending → Heap → Prop) : Prop :=
oV (vIdxS 1 x1 x6) fun t41_14 =>
oV (vLoad ty35 t41_14 H) fun t42_15 =>
oV (vLen t42_15) fun t43_16 =>
oV (vLoad ty40 x2 H) fun t44_17 =>
oV (vInt .add x6 (.int .i64 1)) fun t46_18 =>
oRC Try.prog 78 [t44_17, t46_18] H noP fun v_19 H_20 =>
(vLoad ty35 t41_14 H_20 = some t42_15 ∧
oV (vInt .neq t43_16 v_19) fun t48_21 =>
condK t48_21 (
Q (.returned (.bool false)) H_20) (
L74_9 x1 x2 x6 (.int .i64 0) H_20 kn kx3 kx2 Q))
theorem c74_8 (env : Env) (H : Heap) (kn : Value → Value → Value → Heap → Prop) (kx3 : Value → Value → Value → Heap → Prop) (kx2 : Heap → Prop) (Q : Ending → Heap → Prop) (h : m74_8 (env 1) (env 2) (env 6) H kn kx3 kx2 Q) :
    RCode Try.prog 68 (codeAt [1, 1, 0, 1, 0, 0, 1, 0, 0] (bodyOf Try.f74)) env H (mkK (fun e H => kn (e 1) (e 2) (e 6) H) (inK 3 (fun e H => kx3 (e 1) (e 2) (e 6) H) (inK 2 (fun e H => kx2 H) (fun _ _ _ => False))) (retK T Try.f74.results.toList Q) (fun c H => Q (.panicked c) H)) :=
  RCode.prefix_ (T := T) (X := ext) (hint := hint74) (hole := (fun e H => L74_9 (e 1) (e 2) (e 6) (e 7) H kn kx3 kx2 Q)) tok xok mixed 2 (by kernel_rfl) (by kernel_rfl : codeAt _ _ = (codeAt [1, 1, 0, 1, 0, 0, 1, 0, 0, 1, 1] (bodyOf Try.f74))) h
    (fun e H h => (cL74_9 e H kn kx3 kx2 Q h))
def m74_7 (x1 x2 x6 : Value) (H : Heap) (kn : Value → Value → Value → Heap → Prop) (kx2 : Heap → Prop) (Q : Ending → Heap → Prop) : Prop :=
m74_8 x1 x2 x6 H kn kn kx2 Q
theorem c74_7 (env : Env) (H : Heap) (kn : Value → Value → Value → Heap → Prop) (kx2 : Heap → Prop) (Q : Ending → Heap → Prop) (h : m74_7 (env 1) (env 2) (env 6) H kn kx2 Q) :
    RCode Try.prog 68 (codeAt [1, 1, 0, 1, 0, 0, 1, 0] (bodyOf Try.f74)) env H (mkK (fun e H => kn (e 1) (e 2) (e 6) H) (inK 2 (fun e H => kx2 H) (fun _ _ _ => False)) (retK T Try.f74.results.toList Q) (fun c H => Q (.panicked c) H)) :=
  RCode.blk (by kernel_rfl : (codeAt [1, 1, 0, 1, 0, 0, 1, 0] (bodyOf Try.f74)) = .block 3 (codeAt [1, 1, 0, 1, 0, 0, 1, 0, 0] (bodyOf Try.f74))) (c74_8 env H kn kn kx2 Q h)
def m74_5 (x1 x2 x6 : Value) (H : Heap) (kn : Value → Value → Value → Heap → Prop) (kx2 : Heap → Prop) (Q : Ending → Heap → Prop) : Prop :=
oV (vLen x1) fun t35_22 =>
oV (vInt .lss x6 t35_22) fun t36_23 =>
condK t36_23 (
m74_7 x1 x2 x6 H (fun y1_24 y2_25 y6_26 H_27 => m74_6 y1_24 y2_25 y6_26 H_27 kn kx2 Q) kx2 Q) (
kx2 H)
theorem c74_5 (env : Env) (H : Heap) (kn : Value → Value → Value → Heap → Prop) (kx2 : Heap → Prop) (Q : Ending → Heap → Prop) (h : m74_5 (env 1) (env 2) (env 6) H kn kx2 Q) :
    RCode Try.prog 68 (codeAt [1, 1, 0, 1, 0, 0] (bodyOf Try.f74)) env H (mkK (fun e H => kn (e 1) (e 2) (e 6) H) (inK 2 (fun e H => kx2 H) (fun _ _ _ => False)) (retK T Try.f74.results.toList Q) (fun c H => Q (.panicked c) H)) :=
  RCode.prefix_ (T := T) (X := ext) (hint := hint74) (hole := (fun e H => m74_7 (e 1) (e 2) (e 6) H (fun y1_28 y2_29 y6_30 H_31 => m74_6 y1_28 y2_29 y6_30 H_31 kn kx2 Q) kx2 Q)) tok xok mixed 1 (by kernel_rfl) (by kernel_rfl : codeAt _ _ = (codeAt [1, 1, 0, 1, 0, 0, 1] (bodyOf Try.f74))) h
    (fun e H h => RCode.join (by kernel_rfl : (codeAt [1, 1, 0, 1, 0, 0, 1] (bodyOf Try.f74)) = .seq (codeAt [1, 1, 0, 1, 0, 0, 1, 0] (bodyOf Try.f74)) (codeAt [1, 1, 0, 1, 0, 0, 1, 1] (bodyOf Try.f74))) ((c74_7 e H (fun y1_32 y2_33 y6_34 H_35 => m74_6 y1_32 y2_33 y6_34 H_35 kn kx2 Q) kx2 Q h).mono (mkK_mono (fun e H h => c74_6 e H kn kx2 Q h) (fun _ _ _ h => h) (fun _ _ h => h) (fun _ _ h => h))))
theorem L74_4_round (x1 x2 x6 : Value) (H : Heap) (kn : Heap → Prop) (Q : Ending → Heap → Prop) (h : m74_5 x1 x2 x6 H (fun y1 y2 y6 H => L74_4 y1 y2 y6 H kn Q) kn Q) : L74_4 x1 x2 x6 H kn Q := by
  intro env h1 h2 h6
  subst h1; subst h2; subst h6
  exact RLoop.round ((c74_5 env H (fun y1 y2 y6 H => L74_4 y1 y2 y6 H kn Q) kn Q h).mono (mkK_mono (fun e H h => h e rfl rfl rfl) (fun _ _ _ h => h) (fun _ _ h => h) (fun _ _ h => h)))
def m74_3 (x1 x2 : Value) (H : Heap) (kn : Heap → Prop) (Q : Ending → Heap → Prop) : Prop :=
L74_4 x1 x2 (.int .i64 0) H kn Q
theorem c74_3 (env : Env) (H : Heap) (kn : Heap → Prop) (Q : Ending → Heap → Prop) (h : m74_3 (env 1) (env 2) H kn Q) :
    RCode Try.prog 68 (codeAt [1, 1, 0] (bodyOf Try.f74)) env H (mkK (fun e H => kn H) (fun _ _ _ => False) (retK T Try.f74.results.toList Q) (fun c H => Q (.panicked c) H)) :=
  RCode.prefix_ (T := T) (X := ext) (hint := hint74) (hole := (fun e H => L74_4 (e 1) (e 2) (e 6) H kn Q)) tok xok mixed 1 (by kernel_rfl) (by kernel_rfl : codeAt _ _ = (codeAt [1, 1, 0, 1] (bodyOf Try.f74))) h
    (fun e H h => (cL74_4 e H kn Q h))
def m74_1 (x1 x2 : Value) (H : Heap) (Q : Ending → Heap → Prop) : Prop :=
m74_3 x1 x2 H (fun H_36 => m74_2 H_36 Q) Q
theorem c74_1 (env : Env) (H : Heap) (Q : Ending → Heap → Prop) (h : m74_1 (env 1) (env 2) H Q) :
    RCode Try.prog 68 (codeAt [1, 1] (bodyOf Try.f74)) env H (mkK (retK T Try.f74.results.toList Q) (fun _ _ _ => False) (retK T Try.f74.results.toList Q) (fun c H => Q (.panicked c) H)) :=
  RCode.join (by kernel_rfl : (codeAt [1, 1] (bodyOf Try.f74)) = .seq (codeAt [1, 1, 0] (bodyOf Try.f74)) (codeAt [1, 1, 1] (bodyOf Try.f74))) ((c74_3 env H (fun H_37 => m74_2 H_37 Q) Q h).mono (mkK_mono (fun e H h => c74_2 e H Q h) (fun _ _ _ h => h) (fun _ _ h => h) (fun _ _ h => h)))
def L74_12 (x1 x2 x5 : Value) (H : Heap) (kn : Value → Value → Heap → Prop) (Q : Ending → Heap → Prop) : Prop :=
  ∀ env : Env, env 1 = x1 → env 2 = x2 → env 5 = x5 → RLoop Try.prog 68 (codeAt [1, 0, 1, 0, 0] (bodyOf Try.f74)) env H (mkK (fun _ _ => False) (inK 0 (fun e H => kn (e 1) (e 2) H) (fun _ _ _ => False)) (retK T Try.f74.results.toList Q) (fun c H => Q (.panicked c) H))
theorem cL74_12 (env : Env) (H : Heap) (kn : Value → Value → Heap → Prop) (Q : Ending → Heap → Prop) (h : L74_12 (env 1) (env 2) (env 5) H kn Q) :
    RCode Try.prog 68 (codeAt [1, 0, 1] (bodyOf Try.f74)) env H (mkK (fun e H => kn (e 1) (e 2) H) (fun _ _ _ => False) (retK T Try.f74.results.toList Q) (fun c H => Q (.panicked c) H)) :=
  RCode.blk (by kernel_rfl : (codeAt [1, 0, 1] (bodyOf Try.f74)) = .block 0 (codeAt [1, 0, 1, 0] (bodyOf Try.f74))) (RCode.lp (by kernel_rfl : (codeAt [1, 0, 1, 0] (bodyOf Try.f74)) = .loop (codeAt [1, 0, 1, 0, 0] (bodyOf Try.f74))) ((h env rfl rfl rfl).mono (mkK_mono (fun _ _ h => h.elim) (fun _ _ _ h => h) (fun _ _ h => h) (fun _ _ h => h))))
def m74_13 (x1 x2 x5 : Value) (H : Heap) (kn : Value → Value → Value → Heap → Prop) (kx0 : Value → Value → Heap → Prop) (Q : Ending → Heap → Prop) : Prop :=
oV (vField 1 x2) fun t9_38 =>
oV (vLoad ty37 t9_38 H) fun t10_39 =>
oV (vLen t10_39) fun t11_40 =>
oV (vInt .lss x5 t11_40) fun t12_41 =>
condK t12_41 (
oV (vField 1 x2) fun t15_42 =>
oV (vLoad ty37 t15_42 H) fun t16_43 =>
oV (vIdxS 5 t16_43 x5) fun t18_44 =>
oV (vField 0 t18_44) fun t19_45 =>
oV (vLoad ty3 t19_45 H) fun t20_46 =>
oV (vInt .eql t20_46 (.int .i64 1)) fun t21_47 =>
oV (gV t21_47 true (vField 1 x2) (some undef)) fun t23_48 =>
oV (gV t21_47 true (vLoad ty37 t23_48 H) (some undef)) fun t24_49 =>
oV (gV t21_47 true (some x5) (some undef)) fun t25_50 =>
oV (gV t21_47 true (vIdxS 5 t24_49 t25_50) (some undef)) fun t26_51 =>
oV (gV t21_47 true (vField 1 t26_51) (some undef)) fun t27_52 =>
oV (gV t21_47 true (vLoad ty3 t27_52 H) (some undef)) fun t28_53 =>
oV (gV t21_47 true (some x1) (some undef)) fun t29_54 =>
oV (gV t21_47 true (vLen t29_54) (some undef)) fun t30_55 =>
oV (gV t21_47 true (vInt .gtr t28_53 t30_55) (some undef)) fun t31_56 =>
oV (vPick t21_47 t31_56 (.bool false)) fun t32_57 =>
condK t32_57 (
Q (.returned (.bool false)) H) (
oV (vInt .add x5 (.int .i64 1)) fun t14_58 =>
kn x1 x2 t14_58 H)) (
kx0 x1 x2 H)
theorem c74_13 (env : Env) (H : Heap) (kn : Value → Value → Value → Heap → Prop) (kx0 : Value → Value → Heap → Prop) (Q : Ending → Heap → Prop) (h : m74_13 (env 1) (env 2) (env 5) H kn kx0 Q) :
    RCode Try.prog 68 (codeAt [1, 0, 1, 0, 0] (bodyOf Try.f74)) env H (mkK (fun e H => kn (e 1) (e 2) (e 5) H) (inK 0 (fun e H => kx0 (e 1) (e 2) H) (fun _ _ _ => False)) (retK T Try.f74.results.toList Q) (fun c H => Q (.panicked c) H)) :=
  RCode.leaf_ (T := T) (X := ext) (hint := hint74) tok xok mixed (by kernel_rfl) h
theorem L74_12_round (x1 x2 x5 : Value) (H : Heap) (kn : Value → Value → Heap → Prop) (Q : Ending → Heap → Prop) (h : m74_13 x1 x2 x5 H (fun y1 y2 y5 H => L74_12 y1 y2 y5 H kn Q) kn Q) : L74_12 x1 x2 x5 H kn Q := by
  intro env h1 h2 h5
  subst h1; subst h2; subst h5
  exact RLoop.round ((c74_13 env H (fun y1 y2 y5 H => L74_12 y1 y2 y5 H kn Q) kn Q h).mono (mkK_mono (fun e H h => h e rfl rfl rfl) (fun _ _ _ h => h) (fun _ _ h => h) (fun _ _ h => h)))
def m74_11 (x1 x2 : Value) (H : Heap) (kn : Value → Value → Heap → Prop) (Q : Ending → Heap → Prop) : Prop :=
L74_12 x1 x2 (.int .i64 0) H kn Q
theorem c74_11 (env : Env) (H : Heap) (kn : Value → Value → Heap → Prop) (Q : Ending → Heap → Prop) (h : m74_11 (env 1) (env 2) H kn Q) :
    RCode Try.prog 68 (codeAt [1, 0] (bodyOf Try.f74)) env H (mkK (fun e H => kn (e 1) (e 2) H) (fun _ _ _ => False) (retK T Try.f74.results.toList Q) (fun c H => Q (.panicked c) H)) :=
  RCode.prefix_ (T := T) (X := ext) (hint := hint74) (hole := (fun e H => L74_12 (e 1) (e 2) (e 5) H kn Q)) tok xok mixed 1 (by kernel_rfl) (by kernel_rfl : codeAt _ _ = (codeAt [1, 0, 1] (bodyOf Try.f74))) h
    (fun e H h => (cL74_12 e H kn Q h))
def m74 (x0 x1 : Value) (H : Heap) (Q : Ending → Heap → Prop) : Prop :=
oNew (Value.cells x0).toList (Value.cells x0).toList.length 40 H fun i_59 H_60 =>
m74_11 x1 (ptrTo i_59) H_60 (fun y1_61 y2_62 H_63 => m74_1 y1_61 y2_62 H_63 Q) Q
theorem c74_0 (env : Env) (H : Heap) (Q : Ending → Heap → Prop) (h : m74 (env 0) (env 1) H Q) :
    RCode Try.prog 68 (bodyOf Try.f74) env H (mkK (retK T Try.f74.results.toList Q) (fun _ _ _ => False) (retK T Try.f74.results.toList Q) (fun c H => Q (.panicked c) H)) :=
  RCode.prefix_ (T := T) (X := ext) (hint := hint74) (hole := (fun e H => m74_11 (e 1) (e 2) H (fun y1_64 y2_65 H_66 => m74_1 y1_64 y2_65 H_66 Q) Q)) tok xok mixed 1 (by kernel_rfl) (by kernel_rfl : codeAt _ _ = (codeAt [1] (bodyOf Try.f74))) h
    (fun e H h => RCode.join (by kernel_rfl : (codeAt [1] (bodyOf Try.f74)) = .seq (codeAt [1, 0] (bodyOf Try.f74)) (codeAt [1, 1] (bodyOf Try.f74))) ((c74_11 e H (fun y1_67 y2_68 H_69 => m74_1 y1_67 y2_68 H_69 Q) Q h).mono (mkK_mono (fun e H h => c74_1 e H Q h) (fun _ _ _ h => h) (fun _ _ h => h) (fun _ _ h => h))))
theorem call74 (a0 a1 : Value) (H : Heap) (Q : Ending → Heap → Prop) (h : m74 a0 a1 H Q) : RCalls Try.prog 74 [a0, a1] H Q :=
  RCalls.intro (nt := 68) tok Try.func74 (by kernel_rfl) (by kernel_rfl) (by kernel_rfl) (of_decide_eq_true (by kernel_rfl)) (c74_0 (envOf [a0, a1]) H Q h)
/-! ### 75: privity/privityref33.Counts -/
def hint75 : Nat → List Nat := lookupL [(8, [0, 1, 2, 3, 4, 5, 6, 7, 8, 9, 10, 11, 12, 13, 14, 15, 16, 17, 18, 19])]
def m75_2 (x9 : Value) (H : Heap) (Q : Ending → Heap → Prop) : Prop :=
Q (.returned x9) H
theorem c75_2 (env : Env) (H : Heap) (Q : Ending → Heap → Prop) (h : m75_2 (env 9) H Q) :
    RCode Try.prog 92 (codeAt [1, 1, 1, 1, 1, 1] (bodyOf Try.f75)) env H (mkK (retK T Try.f75.results.toList Q) (fun _ _ _ => False) (retK T Try.f75.results.toList Q) (fun c H => Q (.panicked c) H)) :=
  RCode.leaf_ (T := T) (X := ext) (hint := hint75) tok xok mixed (by kernel_rfl) h
def L75_4 (x1 x6 x9 x10 : Value) (H : Heap) (kn : Value → Heap → Prop) (Q : Ending → Heap → Prop) : Prop :=
  ∀ env : Env, env 1 = x1 → env 6 = x6 → env 9 = x9 → env 10 = x10 → RLoop Try.prog 92 (codeAt [1, 1, 1, 1, 1, 0, 1, 0, 0] (bodyOf Try.f75)) env H (mkK (fun _ _ => False) (inK 2 (fun e H => kn (e 9) H) (fun _ _ _ => False)) (retK T Try.f75.results.toList Q) (fun c H => Q (.panicked c) H))
theorem cL75_4 (env : Env) (H : Heap) (kn : Value → Heap → Prop) (Q : Ending → Heap → Prop) (h : L75_4 (env 1) (env 6) (env 9) (env 10) H kn Q) :
    RCode Try.prog 92 (codeAt [1, 1, 1, 1, 1, 0, 1] (bodyOf Try.f75)) env H (mkK (fun e H => kn (e 9) H) (fun _ _ _ => False) (retK T Try.f75.results.toList Q) (fun c H => Q (.panicked c) H)) :=
  RCode.blk (by kernel_rfl : (codeAt [1, 1, 1, 1, 1, 0, 1] (bodyOf Try.f75)) = .block 2 (codeAt [1, 1, 1, 1, 1, 0, 1, 0] (bodyOf Try.f75))) (RCode.lp (by kernel_rfl : (codeAt [1, 1, 1, 1, 1, 0, 1, 0] (bodyOf Try.f75)) = .loop (codeAt [1, 1, 1, 1, 1, 0, 1, 0, 0] (bodyOf Try.f75))) ((h env rfl rfl rfl rfl).mono (mkK_mono (fun _ _ h => h.elim) (fun _ _ _ h => h) (fun _ _ h => h) (fun _ _ h => h))))
def m75_5 (x1 x6 x9 x10 : Value) (H : Heap) (kn : Value → Value → Value → Value → Heap → Prop) (kx2 : Value → Heap → Prop) (Q : Ending → Heap → Prop) : Prop :=
oV (vLen x1) fun t67_1 =>
oV (vInt .lss x10 t67_1) fun t68_2 =>
condK t68_2 (
oV (vIdxS 1 x6 x10) fun t73_3 =>
oV (vLoad ty4 t73_3 H) fun t74_4 =>
condK t74_4 (
oV (vIdxS 1 x1 x10) fun t78_5 =>
oV (vLoad ty35 t78_5 H) fun t79_6 =>
oV (vLen t79_6) fun t80_7 =>
oMake ty22 22 t80_7 t80_7 H fun s_8 H_9 =>
oBuildS ty35 35 1 [((0, 1), s_8)] H_9 fun s_10 H_11 =>
oAppend ty35 35 x9 s_10 H_11 fun v_12 H_13 =>
oV (vInt .add x10 (.int .i64 1)) fun t70_14 =>
kn x1 x6 v_12 t70_14 H_13) (
oV (vIdxS 1 x1 x10) fun t87_15 =>
oV (vLoad ty35 t87_15 H) fun t88_16 =>
oBuildS ty35 35 1 [((0, 1), t88_16)] H fun s_17 H_18 =>
oAppend ty35 35 x9 s_17 H_18 fun v_19 H_20 =>
oV (vInt .add x10 (.int .i64 1)) fun t70_21 =>
kn x1 x6 v_19 t70_21 H_20)) (
kx2 x9 H)
theorem c75_5 (env : Env) (H : Heap) (kn : Value → Value → Value → Value → Heap → Prop) (kx2 : Value → Heap → Prop) (Q : Ending → Heap → Prop) (h : m75_5 (env 1) (env 6) (env 9) (env 10) H kn kx2 Q) :
    RCode Try.prog 92 (codeAt [1, 1, 1, 1, 1, 0, 1, 0, 0] (bodyOf Try.f75)) env H (mkK (fun e H => kn (e 1) (e 6) (e 9) (e 10) H) (inK 2 (fun e H => kx2 (e 9) H) (fun _ _ _ => False)) (retK T Try.f75.results.toList Q) (fun c H => Q (.panicked c) H)) :=
  RCode.leaf_ (T := T) (X := ext) (hint := hint75) tok xok mixed (by kernel_rfl) h
theorem L75_4_round (x1 x6 x9 x10 : Value) (H : Heap) (kn : Value → Heap → Prop) (Q : Ending → Heap → Prop) (h : m75_5 x1 x6 x9 x10 H (fun y1 y6 y9 y10 H => L75_4 y1 y6 y9 y10 H kn Q) kn Q) : L75_4 x1 x6 x9 x10 H kn Q := by
  intro env h1 h6 h9 h10
  subst h1; subst h6; subst h9; subst h10
  exact RLoop.round ((c75_5 env H (fun y1 y6 y9 y10 H => L75_4 y1 y6 y9 y10 H kn Q) kn Q h).mono (mkK_mono (fun e H h => h e rfl rfl rfl rfl) (fun _ _ _ h => h) (fun _ _ h => h) (fun _ _ h => h)))
def m75_3 (x1 x6 x9 : Value) (H : Heap) (kn : Value → Heap → Prop) (Q : Ending → Heap → Prop) : Prop :=
L75_4 x1 x6 x9 (.int .i64 0) H kn Q
theorem c75_3 (env : Env) (H : Heap) (kn : Value → Heap → Prop) (Q : Ending → Heap → Prop) (h : m75_3 (env 1) (env 6) (env 9) H kn Q) :
    RCode Try.prog 92 (codeAt [1, 1, 1, 1, 1, 0] (bodyOf Try.f75)) env H (mkK (fun e H => kn (e 9) H) (fun _ _ _ => False) (retK T Try.f75.results.toList Q) (fun c H => Q (.panicked c) H)) :=
  RCode.prefix_ (T := T) (X := ext) (hint := hint75) (hole := (fun e H => L75_4 (e 1) (e 6) (e 9) (e 10) H kn Q)) tok xok mixed 1 (by kernel_rfl) (by kernel_rfl : codeAt _ _ = (codeAt [1, 1, 1, 1, 1, 0, 1] (bodyOf Try.f75))) h
    (fun e H h => (cL75_4 e H kn Q h))
def m75_1 (x1 x6 : Value) (H : Heap) (Q : Ending → Heap → Prop) : Prop :=
m75_3 x1 x6 (.slice none 0 0) H (fun y9_22 H_23 => m75_2 y9_22 H_23 Q) Q
theorem c75_1 (env : Env) (H : Heap) (Q : Ending → Heap → Prop) (h : m75_1 (env 1) (env 6) H Q) :
    RCode Try.prog 92 (codeAt [1, 1, 1, 1] (bodyOf Try.f75)) env H (mkK (retK T Try.f75.results.toList Q) (fun _ _ _ => False) (retK T Try.f75.results.toList Q) (fun c H => Q (.panicked c) H)) :=
  RCode.prefix_ (T := T) (X := ext) (hint := hint75) (hole := (fun e H => m75_3 (e 1) (e 6) (e 9) H (fun y9_24 H_25 => m75_2 y9_24 H_25 Q) Q)) tok xok mixed 1 (by kernel_rfl) (by kernel_rfl : codeAt _ _ = (codeAt [1, 1, 1, 1, 1] (bodyOf Try.f75))) h
    (fun e H h => RCode.join (by kernel_rfl : (codeAt [1, 1, 1, 1, 1] (bodyOf Try.f75)) = .seq (codeAt [1, 1, 1, 1, 1, 0] (bodyOf Try.f75)) (codeAt [1, 1, 1, 1, 1, 1] (bodyOf Try.f75))) ((c75_3 e H (fun y9_26 H_27 => m75_2 y9_26 H_27 Q) Q h).mono (mkK_mono (fun e H h => c75_2 e H Q h) (fun _ _ _ h => h) (fun _ _ h => h) (fun _ _ h => h))))
def L75_7 (x1 x2 x5 x6 x7 : Value) (H : Heap) (kn : Value → Value → Heap → Prop) (Q : Ending → Heap → Prop) : Prop :=
  ∀ env : Env, env 1 = x1 → env 2 = x2 → env 5 = x5 → env 6 = x6 → env 7 = x7 → RLoop Try.prog 92 (codeAt [1, 1, 1, 0, 1, 0, 0] (bodyOf Try.f75)) env H (mkK (fun _ _ => False) (inK 0 (fun e H => kn (e 1) (e 6) H) (fun _ _ _ => False)) (retK T Try.f75.results.toList Q) (fun c H => Q (.panicked c) H))
theorem cL75_7 (env : Env) (H : Heap) (kn : Value → Value → Heap → Prop) (Q : Ending → Heap → Prop) (h : L75_7 (env 1) (env 2) (env 5) (env 6) (env 7) H kn Q) :
    RCode Try.prog 92 (codeAt [1, 1, 1, 0, 1] (bodyOf Try.f75)) env H (mkK (fun e H => kn (e 1) (e 6) H) (fun _ _ _ => False) (retK T Try.f75.results.toList Q) (fun c H => Q (.panicked c) H)) :=
  RCode.blk (by kernel_rfl : (codeAt [1, 1, 1, 0, 1] (bodyOf Try.f75)) = .block 0 (codeAt [1, 1, 1, 0, 1, 0] (bodyOf Try.f75))) (RCode.lp (by kernel_rfl : (codeAt [1, 1, 1, 0, 1, 0] (bodyOf Try.f75)) = .loop (codeAt [1, 1, 1, 0, 1, 0, 0] (bodyOf Try.f75))) ((h env rfl rfl rfl rfl rfl).mono (mkK_mono (fun _ _ h => h.elim) (fun _ _ _ h => h) (fun _ _ h => h) (fun _ _ h => h))))
def m75_8 (x1 x2 x5 x6 x7 : Value) (H : Heap) (kn : Value → Value → Value → Value → Value → Heap → Prop) (kx0 : Value → Value → Heap → Prop) (Q : Ending → Heap → Prop) : Prop :=
oV (vField 1 x2) fun t18_28 =>
oV (vLoad ty37 t18_28 H) fun t19_29 =>
oV (vLen t19_29) fun t20_30 =>
oV (vInt .lss x7 t20_30) fun t21_31 =>
condK t21_31 (
oV (vField 1 x2) fun t24_32 =>
oV (vLoad ty37 t24_32 H) fun t25_33 =>
oV (vIdxS 5 t25_33 x7) fun t27_34 =>
oV (vLoad ty47 t27_34 H) fun t28_35 =>
oNew (Value.cells ty47.zero).toList (Value.cells ty47.zero).toList.length 47 H fun i_36 H_37 =>
oHeap (vStore ty47 (ptrTo i_36) t28_35 H_37) fun H_38 =>
oV (vField 0 (ptrTo i_36)) fun t29_39 =>
oV (vLoad ty3 t29_39 H_38) fun t30_40 =>
oV (vInt .neq t30_40 (.int .i64 1)) fun t31_41 =>
condK t31_41 (
oV (vInt .add x7 (.int .i64 1)) fun t23_42 =>
kn x1 x2 x5 x6 t23_42 H_38) (
oV (vField 4 (ptrTo i_36)) fun t32_43 =>
oV (vLoad ty22 t32_43 H_38) fun t33_44 =>
oV (vInt .eql t33_44 (.int .u64 1)) fun t34_45 =>
oV (gV t34_45 true (some x1) (some undef)) fun t36_46 =>
oV (gV t34_45 true (vField 1 (ptrTo i_36)) (some undef)) fun t37_47 =>
oV (gV t34_45 true (vLoad ty3 t37_47 H_38) (some undef)) fun t38_48 =>
oV (gV t34_45 true (vInt .sub t38_48 (.int .i64 1)) (some undef)) fun t39_49 =>
oV (gV t34_45 true (vIdxS 1 t36_46 t39_49) (some undef)) fun t40_50 =>
oV (gV t34_45 true (vLoad ty35 t40_50 H_38) (some undef)) fun t41_51 =>
oV (gV t34_45 true (some x5) (some undef)) fun t42_52 =>
oV (gV t34_45 true (vField 1 (ptrTo i_36)) (some undef)) fun t43_53 =>
oV (gV t34_45 true (vLoad ty3 t43_53 H_38) (some undef)) fun t44_54 =>
oV (gV t34_45 true (vInt .sub t44_54 (.int .i64 1)) (some undef)) fun t45_55 =>
oV (gV t34_45 true (vIdxS 1 t42_52 t45_55) (some undef)) fun t46_56 =>
oV (gV t34_45 true (vLoad ty3 t46_56 H_38) (some undef)) fun t47_57 =>
oV (gV t34_45 true (vIdxS 1 t41_51 t47_57) (some undef)) fun t48_58 =>
oV (gV t34_45 true (vLoad ty22 t48_58 H_38) (some undef)) fun t49_59 =>
oV (gV t34_45 true (vInt .gtr t49_59 (.int .u64 1)) (some undef)) fun t50_60 =>
oV (vPick t34_45 t50_60 (.bool false)) fun t51_61 =>
condK t51_61 (
oV (vField 1 (ptrTo i_36)) fun t53_62 =>
oV (vLoad ty3 t53_62 H_38) fun t54_63 =>
oV (vInt .sub t54_63 (.int .i64 1)) fun t55_64 =>
oV (vIdxS 1 x6 t55_64) fun t56_65 =>
oHeap (vStore ty4 t56_65 (.bool true) H_38) fun H_66 =>
oV (vField 1 (ptrTo i_36)) fun t58_67 =>
oV (vLoad ty3 t58_67 H_66) fun t59_68 =>
oV (vInt .sub t59_68 (.int .i64 1)) fun t60_69 =>
oV (vIdxS 1 x5 t60_69) fun t61_70 =>
oV (vLoad ty3 t61_70 H_66) fun t62_71 =>
oV (vInt .add t62_71 (.int .i64 1)) fun t63_72 =>
oV (vIdxS 1 x5 t60_69) fun t64_73 =>
oHeap (vStore ty3 t64_73 t63_72 H_66) fun H_74 =>
oV (vInt .add x7 (.int .i64 1)) fun t23_75 =>
kn x1 x2 x5 x6 t23_75 H_74) (
oV (vField 1 (ptrTo i_36)) fun t58_76 =>
oV (vLoad ty3 t58_76 H_38) fun t59_77 =>
oV (vInt .sub t59_77 (.int .i64 1)) fun t60_78 =>
oV (vIdxS 1 x5 t60_78) fun t61_79 =>
oV (vLoad ty3 t61_79 H_38) fun t62_80 =>
oV (vInt .add t62_80 (.int .i64 1)) fun t63_81 =>
oV (vIdxS 1 x5 t60_78) fun t64_82 =>
oHeap (vStore ty3 t64_82 t63_81 H_38) fun H_83 =>
oV (vInt .add x7 (.int .i64 1)) fun t23_84 =>
kn x1 x2 x5 x6 t23_84 H_83))) (
kx0 x1 x6 H)
theorem c75_8 (env : Env) (H : Heap) (kn : Value → Value → Value → Value → Value → Heap → Prop) (kx0 : Value → Value → Heap → Prop) (Q : Ending → Heap → Prop) (h : m75_8 (env 1) (env 2) (env 5) (env 6) (env 7) H kn kx0 Q) :
    RCode Try.prog 92 (codeAt [1, 1, 1, 0, 1, 0, 0] (bodyOf Try.f75)) env H (mkK (fun e H => kn (e 1) (e 2) (e 5) (e 6) (e 7) H) (inK 0 (fun e H => kx0 (e 1) (e 6) H) (fun _ _ _ => False)) (retK T Try.f75.results.toList Q) (fun c H => Q (.panicked c) H)) :=
  RCode.leaf_ (T := T) (X := ext) (hint := hint75) tok xok mixed (by kernel_rfl) h
theorem L75_7_round (x1 x2 x5 x6 x7 : Value) (H : Heap) (kn : Value → Value → Heap → Prop) (Q : Ending → Heap → Prop) (h : m75_8 x1 x2 x5 x6 x7 H (fun y1 y2 y5 y6 y7 H => L75_7 y1 y2 y5 y6 y7 H kn Q) kn Q) : L75_7 x1 x2 x5 x6 x7 H kn Q := by
  intro env h1 h2 h5 h6 h7
  subst h1; subst h2; subst h5; subst h6; subst h7
  exact RLoop.round ((c75_8 env H (fun y1 y2 y5 y6 y7 H => L75_7 y1 y2 y5 y6 y7 H kn Q) kn Q h).mono (mkK_mono (fun e H h => h e rfl rfl rfl rfl rfl) (fun _ _ _ h => h) (fun _ _ h => h) (fun _ _ h => h)))
def m75_6 (x1 x2 x5 x6 : Value) (H : Heap) (kn : Value → Value → Heap → Prop) (Q : Ending → Heap → Prop) : Prop :=
L75_7 x1 x2 x5 x6 (.int .i64 0) H kn Q
theorem c75_6 (env : Env) (H : Heap) (kn : Value → Value → Heap → Prop) (Q : Ending → Heap → Prop) (h : m75_6 (env 1) (env 2) (env 5) (env 6) H kn Q) :
    RCode Try.prog 92 (codeAt [1, 1, 1, 0] (bodyOf Try.f75)) env H (mkK (fun e H => kn (e 1) (e 6) H) (fun _ _ _ => False) (retK T Try.f75.results.toList Q) (fun c H => Q (.panicked c) H)) :=
  RCode.prefix_ (T := T) (X := ext) (hint := hint75) (hole := (fun e H => L75_7 (e 1) (e 2) (e 5) (e 6) (e 7) H kn Q)) tok xok mixed 1 (by kernel_rfl) (by kernel_rfl : codeAt _ _ = (codeAt [1, 1, 1, 0, 1] (bodyOf Try.f75))) h
    (fun e H h => (cL75_7 e H kn Q h))
def m75 (x0 x1 : Value) (H : Heap) (Q : Ending → Heap → Prop) : Prop :=
oNew (Value.cells x0).toList (Value.cells x0).toList.length 40 H fun i_85 H_86 =>
oV (vLen x1) fun t12_87 =>
oMake ty3 3 t12_87 t12_87 H_86 fun s_88 H_89 =>
oV (vLen x1) fun t15_90 =>
oMake ty4 4 t15_90 t15_90 H_89 fun s_91 H_92 =>
m75_6 x1 (ptrTo i_85) s_88 s_91 H_92 (fun y1_93 y6_94 H_95 => m75_1 y1_93 y6_94 H_95 Q) Q
theorem c75_0 (env : Env) (H : Heap) (Q : Ending → Heap → Prop) (h : m75 (env 0) (env 1) H Q) :
    RCode Try.prog 92 (bodyOf Try.f75) env H (mkK (retK T Try.f75.results.toList Q) (fun _ _ _ => False) (retK T Try.f75.results.toList Q) (fun c H => Q (.panicked c) H)) :=
  RCode.prefix_ (T := T) (X := ext) (hint := hint75) (hole := (fun e H => m75_6 (e 1) (e 2) (e 5) (e 6) H (fun y1_96 y6_97 H_98 => m75_1 y1_96 y6_97 H_98 Q) Q)) tok xok mixed 3 (by kernel_rfl) (by kernel_rfl : codeAt _ _ = (codeAt [1, 1, 1] (bodyOf Try.f75))) h
    (fun e H h => RCode.join (by kernel_rfl : (codeAt [1, 1, 1] (bodyOf Try.f75)) = .seq (codeAt [1, 1, 1, 0] (bodyOf Try.f75)) (codeAt [1, 1, 1, 1] (bodyOf Try.f75))) ((c75_6 e H (fun y1_99 y6_100 H_101 => m75_1 y1_99 y6_100 H_101 Q) Q h).mono (mkK_mono (fun e H h => c75_1 e H Q h) (fun _ _ _ h => h) (fun _ _ h => h) (fun _ _ h => h))))
theorem call75 (a0 a1 : Value) (H : Heap) (Q : Ending → Heap → Prop) (h : m75 a0 a1 H Q) : RCalls Try.prog 75 [a0, a1] H Q :=
  RCalls.intro (nt := 92) tok Try.func75 (by kernel_rfl) (by kernel_rfl) (by kernel_rfl) (of_decide_eq_true (by kernel_rfl)) (c75_0 (envOf [a0, a1]) H Q h)
/-! ### 51: privity/privityref01.Add -/
def hint51 : Nat → List Nat := lookupL []
def m51 (x0 x1 x2 : Value) (H : Heap) (Q : Ending → Heap → Prop) : Prop :=
oV (vInt .add x1 x2) fun t9_1 =>
oV (vInt .rem t9_1 x0) fun t11_2 =>
Q (.returned t11_2) H
theorem c51_0 (env : Env) (H : Heap) (Q : Ending → Heap → Prop) (h : m51 (env 0) (env 1) (env 2) H Q) :
    RCode Try.prog 12 (bodyOf Try.f51) env H (mkK (retK T Try.f51.results.toList Q) (fun _ _ _ => False) (retK T Try.f51.results.toList Q) (fun c H => Q (.panicked c) H)) :=
  RCode.leaf_ (T := T) (X := ext) (hint := hint51) tok xok mixed (by kernel_rfl) h
theorem call51 (a0 a1 a2 : Value) (H : Heap) (Q : Ending → Heap → Prop) (h : m51 a0 a1 a2 H Q) : RCalls Try.prog 51 [a0, a1, a2] H Q :=
  RCalls.intro (nt := 12) tok Try.func51 (by kernel_rfl) (by kernel_rfl) (by kernel_rfl) (of_decide_eq_true (by kernel_rfl)) (c51_0 (envOf [a0, a1, a2]) H Q h)
/-! ### 52: privity/privityref01.Sub -/
def hint52 : Nat → List Nat := lookupL []
def m52 (x0 x1 x2 : Value) (H : Heap) (Q : Ending → Heap → Prop) : Prop :=
oV (vInt .add x1 x0) fun t9_1 =>
oV (vInt .sub t9_1 x2) fun t11_2 =>
oV (vInt .rem t11_2 x0) fun t13_3 =>
Q (.returned t13_3) H
theorem c52_0 (env : Env) (H : Heap) (Q : Ending → Heap → Prop) (h : m52 (env 0) (env 1) (env 2) H Q) :
    RCode Try.prog 14 (bodyOf Try.f52) env H (mkK (retK T Try.f52.results.toList Q) (fun _ _ _ => False) (retK T Try.f52.results.toList Q) (fun c H => Q (.panicked c) H)) :=
  RCode.leaf_ (T := T) (X := ext) (hint := hint52) tok xok mixed (by kernel_rfl) h
theorem call52 (a0 a1 a2 : Value) (H : Heap) (Q : Ending → Heap → Prop) (h : m52 a0 a1 a2 H Q) : RCalls Try.prog 52 [a0, a1, a2] H Q :=
  RCalls.intro (nt := 14) tok Try.func52 (by kernel_rfl) (by kernel_rfl) (by kernel_rfl) (of_decide_eq_true (by kernel_rfl)) (c52_0 (envOf [a0, a1, a2]) H Q h)
/-! ### 21: privity/privityref01.Mul -/
def hint21 : Nat → List Nat := lookupL []
def m21_1 (x12 : Value) (H : Heap) (Q : Ending → Heap → Prop) : Prop :=
Q (.returned x12) H
theorem c21_1 (env : Env) (H : Heap) (Q : Ending → Heap → Prop) (h : m21_1 (env 12) H Q) :
    RCode Try.prog 94 (codeAt [1, 1, 1, 1, 1] (bodyOf Try.f21)) env H (mkK (retK T Try.f21.results.toList Q) (fun _ _ _ => False) (retK T Try.f21.results.toList Q) (fun c H => Q (.panicked c) H)) :=
  RCode.leaf_ (T := T) (X := ext) (hint := hint21) tok xok mixed (by kernel_rfl) h
def L21_2 (x0 x1 x2 x12 : Value) (H : Heap) (kn : Value → Heap → Prop) (Q : Ending → Heap → Prop) : Prop :=
  ∀ env : Env, env 0 = x0 → env 1 = x1 → env 2 = x2 → env 12 = x12 → RLoop Try.prog 94 (codeAt [1, 1, 1, 1, 0, 0, 0] (bodyOf Try.f21)) env H (mkK (fun _ _ => False) (inK 0 (fun e H => kn (e 12) H) (fun _ _ _ => False)) (retK T Try.f21.results.toList Q) (fun c H => Q (.panicked c) H))
theorem cL21_2 (env : Env) (H : Heap) (kn : Value → Heap → Prop) (Q : Ending → Heap → Prop) (h : L21_2 (env 0) (env 1) (env 2) (env 12) H kn Q) :
    RCode Try.prog 94 (codeAt [1, 1, 1, 1, 0] (bodyOf Try.f21)) env H (mkK (fun e H => kn (e 12) H) (fun _ _ _ => False) (retK T Try.f21.results.toList Q) (fun c H => Q (.panicked c) H)) :=
  RCode.blk (by kernel_rfl : (codeAt [1, 1, 1, 1, 0] (bodyOf Try.f21)) = .block 0 (codeAt [1, 1, 1, 1, 0, 0] (bodyOf Try.f21))) (RCode.lp (by kernel_rfl : (codeAt [1, 1, 1, 1, 0, 0] (bodyOf Try.f21)) = .loop (codeAt [1, 1, 1, 1, 0, 0, 0] (bodyOf Try.f21))) ((h env rfl rfl rfl rfl).mono (mkK_mono (fun _ _ h => h.elim) (fun _ _ _ h => h) (fun _ _ h => h) (fun _ _ h => h))))
def m21_3 (x0 x1 x2 x12 : Value) (H : Heap) (kn : Value → Value → Value → Value → Heap → Prop) (kx0 : Value → Heap → Prop) (Q : Ending → Heap → Prop) : Prop :=
oV (vInt .gtr x2 (.int .u64 0)) fun t77_1 =>
condK t77_1 (
oV (vInt .rem x2 (.int .u64 2)) fun t79_2 =>
oV (vInt .eql t79_2 (.int .u64 1)) fun t80_3 =>
condK t80_3 (
oV (vInt .add x12 x1) fun t83_4 =>
oV (vInt .rem t83_4 x0) fun t85_5 =>
oV (vInt .add x1 x1) fun t88_6 =>
oV (vInt .rem t88_6 x0) fun t90_7 =>
oV (vInt .quo x2 (.int .u64 2)) fun t92_8 =>
kn x0 t90_7 t92_8 t85_5 H) (
oV (vInt .add x1 x1) fun t88_9 =>
oV (vInt .rem t88_9 x0) fun t90_10 =>
oV (vInt .quo x2 (.int .u64 2)) fun t92_11 =>
kn x0 t90_10 t92_11 x12 H)) (
kx0 x12 H)
theorem c21_3 (env : Env) (H : Heap) (kn : Value → Value → Value → Value → Heap → Prop) (kx0 : Value → Heap → Prop) (Q : Ending → Heap → Prop) (h : m21_3 (env 0) (env 1) (env 2) (env 12) H kn kx0 Q) :
    RCode Try.prog 94 (codeAt [1, 1, 1, 1, 0, 0, 0] (bodyOf Try.f21)) env H (mkK (fun e H => kn (e 0) (e 1) (e 2) (e 12) H) (inK 0 (fun e H => kx0 (e 12) H) (fun _ _ _ => False)) (retK T Try.f21.results.toList Q) (fun c H => Q (.panicked c) H)) :=
  RCode.leaf_ (T := T) (X := ext) (hint := hint21) tok xok mixed (by kernel_rfl) h
theorem L21_2_round (x0 x1 x2 x12 : Value) (H : Heap) (kn : Value → Heap → Prop) (Q : Ending → Heap → Prop) (h : m21_3 x0 x1 x2 x12 H (fun y0 y1 y2 y12 H => L21_2 y0 y1 y2 y12 H kn Q) kn Q) : L21_2 x0 x1 x2 x12 H kn Q := by
  intro env h0 h1 h2 h12
  subst h0; subst h1; subst h2; subst h12
  exact RLoop.round ((c21_3 env H (fun y0 y1 y2 y12 H => L21_2 y0 y1 y2 y12 H kn Q) kn Q h).mono (mkK_mono (fun e H h => h e rfl rfl rfl rfl) (fun _ _ _ h => h) (fun _ _ h => h) (fun _ _ h => h)))
def m21 (x0 x1 x2 : Value) (H : Heap) (Q : Ending → Heap → Prop) : Prop :=
oV (vInt .gtr x0 (.int .u64 0)) fun t14_12 =>
oV (gV t14_12 true (some x0) (some undef)) fun t16_13 =>
oV (gV t14_12 true (vInt .lss t16_13 (.int .u64 2147483648)) (some undef)) fun t17_14 =>
oV (vPick t14_12 t17_14 (.bool false)) fun t18_15 =>
oV (gV t18_15 true (some x1) (some undef)) fun t20_16 =>
oV (gV t18_15 true (vInt .lss t20_16 (.int .u64 2147483648)) (some undef)) fun t21_17 =>
oV (vPick t18_15 t21_17 (.bool false)) fun t22_18 =>
oV (gV t22_18 true (some x2) (some undef)) fun t24_19 =>
oV (gV t22_18 true (vInt .lss t24_19 (.int .u64 2147483648)) (some undef)) fun t25_20 =>
oV (vPick t22_18 t25_20 (.bool false)) fun t26_21 =>
condK t26_21 (
oV (vInt .mul x1 x2) fun t29_22 =>
oV (vInt .rem t29_22 x0) fun t31_23 =>
Q (.returned t31_23) H) (
oV (vInt .eql x0 (.int .u64 2305843009213693951)) fun t33_24 =>
oV (gV t33_24 true (some x1) (some undef)) fun t35_25 =>
oV (gV t33_24 true (some x0) (some undef)) fun t36_26 =>
oV (gV t33_24 true (vInt .lss t35_25 t36_26) (some undef)) fun t37_27 =>
oV (vPick t33_24 t37_27 (.bool false)) fun t38_28 =>
oV (gV t38_28 true (some x2) (some undef)) fun t40_29 =>
oV (gV t38_28 true (some x0) (some undef)) fun t41_30 =>
oV (gV t38_28 true (vInt .lss t40_29 t41_30) (some undef)) fun t42_31 =>
oV (vPick t38_28 t42_31 (.bool false)) fun t43_32 =>
condK t43_32 (
oV (vInt .shr x1 (.int .u64 31)) fun t45_33 =>
oV (vInt .rem x1 (.int .u64 2147483648)) fun t47_34 =>
oV (vInt .shr x2 (.int .u64 31)) fun t49_35 =>
oV (vInt .rem x2 (.int .u64 2147483648)) fun t51_36 =>
oV (vInt .mul t45_33 t51_36) fun t54_37 =>
oV (vInt .mul t47_34 t49_35) fun t57_38 =>
oV (vInt .add t54_37 t57_38) fun t58_39 =>
oV (vInt .mul (.int .u64 2) t45_33) fun t60_40 =>
oV (vInt .mul t60_40 t49_35) fun t62_41 =>
oV (vInt .shr t58_39 (.int .u64 30)) fun t64_42 =>
oV (vInt .add t62_41 t64_42) fun t65_43 =>
oV (vInt .rem t58_39 (.int .u64 1073741824)) fun t67_44 =>
oV (vInt .shl t67_44 (.int .u64 31)) fun t68_45 =>
oV (vInt .add t65_43 t68_45) fun t69_46 =>
oV (vInt .mul t47_34 t51_36) fun t72_47 =>
oV (vInt .add t69_46 t72_47) fun t73_48 =>
oV (vInt .rem t73_48 x0) fun t75_49 =>
Q (.returned t75_49) H) (
L21_2 x0 x1 x2 (.int .u64 0) H (fun y12_50 H_51 => m21_1 y12_50 H_51 Q) Q))
theorem c21_0 (env : Env) (H : Heap) (Q : Ending → Heap → Prop) (h : m21 (env 0) (env 1) (env 2) H Q) :
    RCode Try.prog 94 (bodyOf Try.f21) env H (mkK (retK T Try.f21.results.toList Q) (fun _ _ _ => False) (retK T Try.f21.results.toList Q) (fun c H => Q (.panicked c) H)) :=
  RCode.prefix_ (T := T) (X := ext) (hint := hint21) (hole := (fun e H => L21_2 (e 0) (e 1) (e 2) (e 12) H (fun y12_52 H_53 => m21_1 y12_52 H_53 Q) Q)) tok xok mixed 4 (by kernel_rfl) (by kernel_rfl : codeAt _ _ = (codeAt [1, 1, 1, 1] (bodyOf Try.f21))) h
    (fun e H h => RCode.join (by kernel_rfl : (codeAt [1, 1, 1, 1] (bodyOf Try.f21)) = .seq (codeAt [1, 1, 1, 1, 0] (bodyOf Try.f21)) (codeAt [1, 1, 1, 1, 1] (bodyOf Try.f21))) ((cL21_2 e H (fun y12_54 H_55 => m21_1 y12_54 H_55 Q) Q h).mono (mkK_mono (fun e H h => c21_1 e H Q h) (fun _ _ _ h => h) (fun _ _ h => h) (fun _ _ h => h))))
theorem call21 (a0 a1 a2 : Value) (H : Heap) (Q : Ending → Heap → Prop) (h : m21 a0 a1 a2 H Q) : RCalls Try.prog 21 [a0, a1, a2] H Q :=
  RCalls.intro (nt := 94) tok Try.func21 (by kernel_rfl) (by kernel_rfl) (by kernel_rfl) (of_decide_eq_true (by kernel_rfl)) (c21_0 (envOf [a0, a1, a2]) H Q h)
/-! ### 68: privity/privityref33.EvaluateGates -/
def hint68 : Nat → List Nat := lookupL [(13, [0, 1, 2, 3, 4, 5, 6, 7, 8, 9, 10, 11, 12, 13, 14]), (16, [0, 1, 2, 3, 4, 5, 6, 7, 8, 9, 10, 11, 12, 13]), (18, [0, 1, 2, 3, 4, 5, 6, 7, 8, 9, 10, 11, 12, 13]), (20, [0, 1, 2, 3, 4, 5, 6, 7, 8, 9, 10]), (22, [0, 1, 2, 3, 4, 5, 6, 7, 8, 9, 10, 11, 12, 13])]
def m68_1 (x8 : Value) (H : Heap) (Q : Ending → Heap → Prop) : Prop :=
Q (.returned (.tuple #[x8, (.int .i64 0)])) H
theorem c68_1 (env : Env) (H : Heap) (Q : Ending → Heap → Prop) (h : m68_1 (env 8) H Q) :
    RCode Try.prog 129 (codeAt [1, 1, 1, 1, 1, 1] (bodyOf Try.f68)) env H (mkK (retK T Try.f68.results.toList Q) (fun _ _ _ => False) (retK T Try.f68.results.toList Q) (fun c H => Q (.panicked c) H)) :=
  RCode.leaf_ (T := T) (X := ext) (hint := hint68) tok xok mixed (by kernel_rfl) h
def L68_3 (x2 x6 x7 x8 x9 : Value) (H : Heap) (kn : Value → Heap → Prop) (Q : Ending → Heap → Prop) : Prop :=
  ∀ env : Env, env 2 = x2 → env 6 = x6 → env 7 = x7 → env 8 = x8 → env 9 = x9 → RLoop Try.prog 129 (codeAt [1, 1, 1, 1, 1, 0, 1, 0, 0] (bodyOf Try.f68)) env H (mkK (fun _ _ => False) (inK 0 (fun e H => kn (e 8) H) (fun _ _ _ => False)) (retK T Try.f68.results.toList Q) (fun c H => Q (.panicked c) H))
theorem cL68_3 (env : Env) (H : Heap) (kn : Value → Heap → Prop) (Q : Ending → Heap → Prop) (h : L68_3 (env 2) (env 6) (env 7) (env 8) (env 9) H kn Q) :
    RCode Try.prog 129 (codeAt [1, 1, 1, 1, 1, 0, 1] (bodyOf Try.f68)) env H (mkK (fun e H => kn (e 8) H) (fun _ _ _ => False) (retK T Try.f68.results.toList Q) (fun c H => Q (.panicked c) H)) :=
  RCode.blk (by kernel_rfl : (codeAt [1, 1, 1, 1, 1, 0, 1] (bodyOf Try.f68)) = .block 0 (codeAt [1, 1, 1, 1, 1, 0, 1, 0] (bodyOf Try.f68))) (RCode.lp (by kernel_rfl : (codeAt [1, 1, 1, 1, 1, 0, 1, 0] (bodyOf Try.f68)) = .loop (codeAt [1, 1, 1, 1, 1, 0, 1, 0, 0] (bodyOf Try.f68))) ((h env rfl rfl rfl rfl rfl).mono (mkK_mono (fun _ _ h => h.elim) (fun _ _ _ h => h) (fun _ _ h => h) (fun _ _ h => h))))
def m68_4 (x2 x6 x7 x8 x9 : Value) (H : Heap) (kn : Value → Value → Value → Value → Value → Heap → Prop) (kx0 : Value → Heap → Prop) (Q : Ending → Heap → Prop) : Prop :=
oV (vField 1 x2) fun t28_1 =>
oV (vLoad ty37 t28_1 H) fun t29_2 =>
oV (vLen t29_2) fun t30_3 =>
oV (vInt .lss x9 t30_3) fun t31_4 =>
condK t31_4 (
oV (vField 1 x2) fun t34_5 =>
oV (vLoad ty37 t34_5 H) fun t35_6 =>
oV (vIdxS 5 t35_6 x9) fun t37_7 =>
oV (vLoad ty47 t37_7 H) fun t38_8 =>
oNew (Value.cells ty47.zero).toList (Value.cells ty47.zero).toList.length 47 H fun i_9 H_10 =>
oHeap (vStore ty47 (ptrTo i_9) t38_8 H_10) fun H_11 =>
oV (vField 4 (ptrTo i_9)) fun t39_12 =>
oV (vLoad ty22 t39_12 H_11) fun t40_13 =>
oV (vField 0 (ptrTo i_9)) fun t41_14 =>
oV (vLoad ty3 t41_14 H_11) fun t42_15 =>
oV (vInt .eql t42_15 (.int .i64 1)) fun t44_16 =>
condK t44_16 (
oV (vField 1 (ptrTo i_9)) fun t46_17 =>
oV (vLoad ty3 t46_17 H_11) fun t47_18 =>
oV (vInt .sub t47_18 (.int .i64 1)) fun t48_19 =>
oV (vIdxS 1 x6 t48_19) fun t49_20 =>
oV (vLoad ty35 t49_20 H_11) fun t50_21 =>
oV (vField 1 (ptrTo i_9)) fun t52_22 =>
oV (vLoad ty3 t52_22 H_11) fun t53_23 =>
oV (vInt .sub t53_23 (.int .i64 1)) fun t54_24 =>
oV (vIdxS 1 x7 t54_24) fun t55_25 =>
oV (vLoad ty3 t55_25 H_11) fun t56_26 =>
oV (vIdxS 1 t50_21 t56_26) fun t57_27 =>
oV (vLoad ty22 t57_27 H_11) fun t58_28 =>
oV (vField 1 (ptrTo i_9)) fun t60_29 =>
oV (vLoad ty3 t60_29 H_11) fun t61_30 =>
oV (vInt .sub t61_30 (.int .i64 1)) fun t62_31 =>
oV (vIdxS 1 x7 t62_31) fun t63_32 =>
oV (vLoad ty3 t63_32 H_11) fun t64_33 =>
oV (vInt .add t64_33 (.int .i64 1)) fun t65_34 =>
oV (vIdxS 1 x7 t62_31) fun t66_35 =>
oHeap (vStore ty3 t66_35 t65_34 H_11) fun H_36 =>
oBuildS ty22 22 1 [((0, 1), t58_28)] H_36 fun s_37 H_38 =>
oAppend ty22 22 x8 s_37 H_38 fun v_39 H_40 =>
oV (vInt .add x9 (.int .i64 1)) fun t33_41 =>
kn x2 x6 x7 v_39 t33_41 H_40) (
oV (vInt .eql t42_15 (.int .i64 3)) fun t68_42 =>
condK t68_42 (
oV (vField 0 x2) fun t69_43 =>
oV (vLoad ty22 t69_43 H_11) fun t70_44 =>
oV (vField 2 (ptrTo i_9)) fun t72_45 =>
oV (vLoad ty3 t72_45 H_11) fun t73_46 =>
oV (vIdxS 1 x8 t73_46) fun t74_47 =>
oV (vLoad ty22 t74_47 H_11) fun t75_48 =>
oV (vField 3 (ptrTo i_9)) fun t77_49 =>
oV (vLoad ty3 t77_49 H_11) fun t78_50 =>
oV (vIdxS 1 x8 t78_50) fun t79_51 =>
oV (vLoad ty22 t79_51 H_11) fun t80_52 =>
oRC Try.prog 51 [t70_44, t75_48, t80_52] H_11 noP fun v_53 H_54 =>
oBuildS ty22 22 1 [((0, 1), v_53)] H_54 fun s_55 H_56 =>
oAppend ty22 22 x8 s_55 H_56 fun v_57 H_58 =>
oV (vInt .add x9 (.int .i64 1)) fun t33_59 =>
kn x2 x6 x7 v_57 t33_59 H_58) (
oV (vInt .eql t42_15 (.int .i64 4)) fun t83_60 =>
condK t83_60 (
oV (vField 0 x2) fun t84_61 =>
oV (vLoad ty22 t84_61 H_11) fun t85_62 =>
oV (vField 2 (ptrTo i_9)) fun t87_63 =>
oV (vLoad ty3 t87_63 H_11) fun t88_64 =>
oV (vIdxS 1 x8 t88_64) fun t89_65 =>
oV (vLoad ty22 t89_65 H_11) fun t90_66 =>
oV (vField 3 (ptrTo i_9)) fun t92_67 =>
oV (vLoad ty3 t92_67 H_11) fun t93_68 =>
oV (vIdxS 1 x8 t93_68) fun t94_69 =>
oV (vLoad ty22 t94_69 H_11) fun t95_70 =>
oRC Try.prog 52 [t85_62, t90_66, t95_70] H_11 noP fun v_71 H_72 =>
oBuildS ty22 22 1 [((0, 1), v_71)] H_72 fun s_73 H_74 =>
oAppend ty22 22 x8 s_73 H_74 fun v_75 H_76 =>
oV (vInt .add x9 (.int .i64 1)) fun t33_77 =>
kn x2 x6 x7 v_75 t33_77 H_76) (
oV (vInt .eql t42_15 (.int .i64 5)) fun t98_78 =>
condK t98_78 (
oV (vField 0 x2) fun t99_79 =>
oV (vLoad ty22 t99_79 H_11) fun t100_80 =>
oV (vField 4 (ptrTo i_9)) fun t101_81 =>
oV (vLoad ty22 t101_81 H_11) fun t102_82 =>
oV (vField 2 (ptrTo i_9)) fun t104_83 =>
oV (vLoad ty3 t104_83 H_11) fun t105_84 =>
oV (vIdxS 1 x8 t105_84) fun t106_85 =>
oV (vLoad ty22 t106_85 H_11) fun t107_86 =>
oRC Try.prog 21 [t100_80, t102_82, t107_86] H_11 noP fun v_87 H_88 =>
oBuildS ty22 22 1 [((0, 1), v_87)] H_88 fun s_89 H_90 =>
oAppend ty22 22 x8 s_89 H_90 fun v_91 H_92 =>
oV (vInt .add x9 (.int .i64 1)) fun t33_93 =>
kn x2 x6 x7 v_91 t33_93 H_92) (
oV (vInt .eql t42_15 (.int .i64 6)) fun t110_94 =>
condK t110_94 (
oV (vField 0 x2) fun t111_95 =>
oV (vLoad ty22 t111_95 H_11) fun t112_96 =>
oV (vField 2 (ptrTo i_9)) fun t114_97 =>
oV (vLoad ty3 t114_97 H_11) fun t115_98 =>
oV (vIdxS 1 x8 t115_98) fun t116_99 =>
oV (vLoad ty22 t116_99 H_11) fun t117_100 =>
oV (vField 3 (ptrTo i_9)) fun t119_101 =>
oV (vLoad ty3 t119_101 H_11) fun t120_102 =>
oV (vIdxS 1 x8 t120_102) fun t121_103 =>
oV (vLoad ty22 t121_103 H_11) fun t122_104 =>
oRC Try.prog 21 [t112_96, t117_100, t122_104] H_11 noP fun v_105 H_106 =>
oBuildS ty22 22 1 [((0, 1), v_105)] H_106 fun s_107 H_108 =>
oAppend ty22 22 x8 s_107 H_108 fun v_109 H_110 =>
oV (vInt .add x9 (.int .i64 1)) fun t33_111 =>
kn x2 x6 x7 v_109 t33_111 H_110) (
oBuildS ty22 22 1 [((0, 1), t40_13)] H_11 fun s_112 H_113 =>
oAppend ty22 22 x8 s_112 H_113 fun v_114 H_115 =>
oV (vInt .add x9 (.int .i64 1)) fun t33_116 =>
kn x2 x6 x7 v_114 t33_116 H_115)))))) (
kx0 x8 H)
theorem c68_4 (env : Env) (H : Heap) (kn : Value → Value → Value → Value → Value → Heap → Prop) (kx0 : Value → Heap → Prop) (Q : Ending → Heap → Prop) (h : m68_4 (env 2) (env 6) (env 7) (env 8) (env 9) H kn kx0 Q) :
    RCode Try.prog 129 (codeAt [1, 1, 1, 1, 1, 0, 1, 0, 0] (bodyOf Try.f68)) env H (mkK (fun e H => kn (e 2) (e 6) (e 7) (e 8) (e 9) H) (inK 0 (fun e H => kx0 (e 8) H) (fun _ _ _ => False)) (retK T Try.f68.results.toList Q) (fun c H => Q (.panicked c) H)) :=
  RCode.leaf_ (T := T) (X := ext) (hint := hint68) tok xok mixed (by kernel_rfl) h
theorem L68_3_round (x2 x6 x7 x8 x9 : Value) (H : Heap) (kn : Value → Heap → Prop) (Q : Ending → Heap → Prop) (h : m68_4 x2 x6 x7 x8 x9 H (fun y2 y6 y7 y8 y9 H => L68_3 y2 y6 y7 y8 y9 H kn Q) kn Q) : L68_3 x2 x6 x7 x8 x9 H kn Q := by
  intro env h2 h6 h7 h8 h9
  subst h2; subst h6; subst h7; subst h8; subst h9
  exact RLoop.round ((c68_4 env H (fun y2 y6 y7 y8 y9 H => L68_3 y2 y6 y7 y8 y9 H kn Q) kn Q h).mono (mkK_mono (fun e H h => h e rfl rfl rfl rfl rfl) (fun _ _ _ h => h) (fun _ _ h => h) (fun _ _ h => h)))
def m68_2 (x2 x6 x7 x8 : Value) (H : Heap) (kn : Value → Heap → Prop) (Q : Ending → Heap → Prop) : Prop :=
L68_3 x2 x6 x7 x8 (.int .i64 0) H kn Q
theorem c68_2 (env : Env) (H : Heap) (kn : Value → Heap → Prop) (Q : Ending → Heap → Prop) (h : m68_2 (env 2) (env 6) (env 7) (env 8) H kn Q) :
    RCode Try.prog 129 (codeAt [1, 1, 1, 1, 1, 0] (bodyOf Try.f68)) env H (mkK (fun e H => kn (e 8) H) (fun _ _ _ => False) (retK T Try.f68.results.toList Q) (fun c H => Q (.panicked c) H)) :=
  RCode.prefix_ (T := T) (X := ext) (hint := hint68) (hole := (fun e H => L68_3 (e 2) (e 6) (e 7) (e 8) (e 9) H kn Q)) tok xok mixed 1 (by kernel_rfl) (by kernel_rfl : codeAt _ _ = (codeAt [1, 1, 1, 1, 1, 0, 1] (bodyOf Try.f68))) h
    (fun e H h => (cL68_3 e H kn Q h))
def m68 (x0 x1 : Value) (H : Heap) (Q : Ending → Heap → Prop) : Prop :=
oNew (Value.cells x0).toList (Value.cells x0).toList.length 40 H fun i_117 H_118 =>
oV (vLoad ty40 (ptrTo i_117) H_118) fun t12_119 =>
oRC Try.prog 53 [t12_119] H_118 (fun c H => Q (.panicked c) H) fun v_120 H_121 =>
oV (vUn .not v_120) fun t14_122 =>
oV (gV t14_122 false (vLoad ty40 (ptrTo i_117) H_121) (some undef)) fun t16_123 =>
oV (gV t14_122 false (some x1) (some undef)) fun t17_124 =>
letK (fun t18_126 H_127 =>
oV (gV t14_122 false (vUn .not t18_126) (some undef)) fun t19_128 =>
oV (vPick t14_122 (.bool true) t19_128) fun t20_129 =>
condK t20_129 (
Q (.returned (.tuple #[(.slice none 0 0), (.int .i64 1)])) H_127) (
oV (vLoad ty40 (ptrTo i_117) H_127) fun t21_130 =>
oRC Try.prog 75 [t21_130, x1] H_127 (fun c H => Q (.panicked c) H) fun v_131 H_132 =>
oV (vLen v_131) fun t25_133 =>
oMake ty3 3 t25_133 t25_133 H_132 fun s_134 H_135 =>
m68_2 (ptrTo i_117) v_131 s_134 (.slice none 0 0) H_135 (fun y8_136 H_137 => m68_1 y8_136 H_137 Q) Q)) fun k_125 => gK t14_122 false (oRC Try.prog 74 [t16_123, t17_124] H_121 (fun c H => Q (.panicked c) H) fun v_138 H_139 =>
k_125 v_138 H_139) (k_125 undef H_121)
theorem c68_0 (env : Env) (H : Heap) (Q : Ending → Heap → Prop) (h : m68 (env 0) (env 1) H Q) :
    RCode Try.prog 129 (bodyOf Try.f68) env H (mkK (retK T Try.f68.results.toList Q) (fun _ _ _ => False) (retK T Try.f68.results.toList Q) (fun c H => Q (.panicked c) H)) :=
  RCode.prefix_ (T := T) (X := ext) (hint := hint68) (hole := (fun e H => m68_2 (e 2) (e 6) (e 7) (e 8) H (fun y8_140 H_141 => m68_1 y8_140 H_141 Q) Q)) tok xok mixed 5 (by kernel_rfl) (by kernel_rfl : codeAt _ _ = (codeAt [1, 1, 1, 1, 1] (bodyOf Try.f68))) h
    (fun e H h => RCode.join (by kernel_rfl : (codeAt [1, 1, 1, 1, 1] (bodyOf Try.f68)) = .seq (codeAt [1, 1, 1, 1, 1, 0] (bodyOf Try.f68)) (codeAt [1, 1, 1, 1, 1, 1] (bodyOf Try.f68))) ((c68_2 e H (fun y8_142 H_143 => m68_1 y8_142 H_143 Q) Q h).mono (mkK_mono (fun e H h => c68_1 e H Q h) (fun _ _ _ h => h) (fun _ _ h => h) (fun _ _ h => h))))
theorem call68 (a0 a1 : Value) (H : Heap) (Q : Ending → Heap → Prop) (h : m68 a0 a1 H Q) : RCalls Try.prog 68 [a0, a1] H Q :=
  RCalls.intro (nt := 129) tok Try.func68 (by kernel_rfl) (by kernel_rfl) (by kernel_rfl) (of_decide_eq_true (by kernel_rfl)) (c68_0 (envOf [a0, a1]) H Q h)
/-! ### 47: privity/privityref33.Evaluate -/
def hint47 : Nat → List Nat := lookupL []
def m47_1 (x8 : Value) (H : Heap) (Q : Ending → Heap → Prop) : Prop :=
Q (.returned (.tuple #[x8, (.int .i64 0)])) H
theorem c47_1 (env : Env) (H : Heap) (Q : Ending → Heap → Prop) (h : m47_1 (env 8) H Q) :
    RCode Try.prog 38 (codeAt [1, 1, 1, 1, 1] (bodyOf Try.f47)) env H (mkK (retK T Try.f47.results.toList Q) (fun _ _ _ => False) (retK T Try.f47.results.toList Q) (fun c H => Q (.panicked c) H)) :=
  RCode.leaf_ (T := T) (X := ext) (hint := hint47) tok xok mixed (by kernel_rfl) h
def L47_3 (x2 x6 x8 x9 : Value) (H : Heap) (kn : Value → Heap → Prop) (Q : Ending → Heap → Prop) : Prop :=
  ∀ env : Env, env 2 = x2 → env 6 = x6 → env 8 = x8 → env 9 = x9 → RLoop Try.prog 38 (codeAt [1, 1, 1, 1, 0, 1, 0, 0] (bodyOf Try.f47)) env H (mkK (fun _ _ => False) (inK 0 (fun e H => kn (e 8) H) (fun _ _ _ => False)) (retK T Try.f47.results.toList Q) (fun c H => Q (.panicked c) H))
theorem cL47_3 (env : Env) (H : Heap) (kn : Value → Heap → Prop) (Q : Ending → Heap → Prop) (h : L47_3 (env 2) (env 6) (env 8) (env 9) H kn Q) :
    RCode Try.prog 38 (codeAt [1, 1, 1, 1, 0, 1] (bodyOf Try.f47)) env H (mkK (fun e H => kn (e 8) H) (fun _ _ _ => False) (retK T Try.f47.results.toList Q) (fun c H => Q (.panicked c) H)) :=
  RCode.blk (by kernel_rfl : (codeAt [1, 1, 1, 1, 0, 1] (bodyOf Try.f47)) = .block 0 (codeAt [1, 1, 1, 1, 0, 1, 0] (bodyOf Try.f47))) (RCode.lp (by kernel_rfl : (codeAt [1, 1, 1, 1, 0, 1, 0] (bodyOf Try.f47)) = .loop (codeAt [1, 1, 1, 1, 0, 1, 0, 0] (bodyOf Try.f47))) ((h env rfl rfl rfl rfl).mono (mkK_mono (fun _ _ h => h.elim) (fun _ _ _ h => h) (fun _ _ h => h) (fun _ _ h => h))))
def m47_4 (x2 x6 x8 x9 : Value) (H : Heap) (kn : Value → Value → Value → Value → Heap → Prop) (kx0 : Value → Heap → Prop) (Q : Ending → Heap → Prop) : Prop :=
oV (vField 2 x2) fun t20_1 =>
oV (vLoad ty38 t20_1 H) fun t21_2 =>
oV (vLen t21_2) fun t22_3 =>
oV (vInt .lss x9 t22_3) fun t23_4 =>
condK t23_4 (
oV (vField 2 x2) fun t28_5 =>
oV (vLoad ty38 t28_5 H) fun t29_6 =>
oV (vIdxS 1 t29_6 x9) fun t31_7 =>
oV (vLoad ty3 t31_7 H) fun t32_8 =>
oV (vIdxS 1 x6 t32_8) fun t33_9 =>
oV (vLoad ty22 t33_9 H) fun t34_10 =>
oBuildS ty22 22 1 [((0, 1), t34_10)] H fun s_11 H_12 =>
oAppend ty22 22 x8 s_11 H_12 fun v_13 H_14 =>
oV (vInt .add x9 (.int .i64 1)) fun t25_15 =>
kn x2 x6 v_13 t25_15 H_14) (
kx0 x8 H)
theorem c47_4 (env : Env) (H : Heap) (kn : Value → Value → Value → Value → Heap → Prop) (kx0 : Value → Heap → Prop) (Q : Ending → Heap → Prop) (h : m47_4 (env 2) (env 6) (env 8) (env 9) H kn kx0 Q) :
    RCode Try.prog 38 (codeAt [1, 1, 1, 1, 0, 1, 0, 0] (bodyOf Try.f47)) env H (mkK (fun e H => kn (e 2) (e 6) (e 8) (e 9) H) (inK 0 (fun e H => kx0 (e 8) H) (fun _ _ _ => False)) (retK T Try.f47.results.toList Q) (fun c H => Q (.panicked c) H)) :=
  RCode.leaf_ (T := T) (X := ext) (hint := hint47) tok xok mixed (by kernel_rfl) h
theorem L47_3_round (x2 x6 x8 x9 : Value) (H : Heap) (kn : Value → Heap → Prop) (Q : Ending → Heap → Prop) (h : m47_4 x2 x6 x8 x9 H (fun y2 y6 y8 y9 H => L47_3 y2 y6 y8 y9 H kn Q) kn Q) : L47_3 x2 x6 x8 x9 H kn Q := by
  intro env h2 h6 h8 h9
  subst h2; subst h6; subst h8; subst h9
  exact RLoop.round ((c47_4 env H (fun y2 y6 y8 y9 H => L47_3 y2 y6 y8 y9 H kn Q) kn Q h).mono (mkK_mono (fun e H h => h e rfl rfl rfl rfl) (fun _ _ _ h => h) (fun _ _ h => h) (fun _ _ h => h)))
def m47_2 (x2 x6 x8 : Value) (H : Heap) (kn : Value → Heap → Prop) (Q : Ending → Heap → Prop) : Prop :=
L47_3 x2 x6 x8 (.int .i64 0) H kn Q
theorem c47_2 (env : Env) (H : Heap) (kn : Value → Heap → Prop) (Q : Ending → Heap → Prop) (h : m47_2 (env 2) (env 6) (env 8) H kn Q) :
    RCode Try.prog 38 (codeAt [1, 1, 1, 1, 0] (bodyOf Try.f47)) env H (mkK (fun e H => kn (e 8) H) (fun _ _ _ => False) (retK T Try.f47.results.toList Q) (fun c H => Q (.panicked c) H)) :=
  RCode.prefix_ (T := T) (X := ext) (hint := hint47) (hole := (fun e H => L47_3 (e 2) (e 6) (e 8) (e 9) H kn Q)) tok xok mixed 1 (by kernel_rfl) (by kernel_rfl : codeAt _ _ = (codeAt [1, 1, 1, 1, 0, 1] (bodyOf Try.f47))) h
    (fun e H h => (cL47_3 e H kn Q h))
def m47 (x0 x1 : Value) (H : Heap) (Q : Ending → Heap → Prop) : Prop :=
oNew (Value.cells x0).toList (Value.cells x0).toList.length 40 H fun i_16 H_17 =>
oV (vLoad ty40 (ptrTo i_16) H_17) fun t11_18 =>
oRC Try.prog 68 [t11_18, x1] H_17 (fun c H => Q (.panicked c) H) fun v_19 H_20 =>
oV (vExtract v_19 0) fun t14_21 =>
oV (vExtract v_19 1) fun t15_22 =>
oV (vInt .neq t15_22 (.int .i64 0)) fun t17_23 =>
condK t17_23 (
Q (.returned (.tuple #[(.slice none 0 0), t15_22])) H_20) (
m47_2 (ptrTo i_16) t14_21 (.slice none 0 0) H_20 (fun y8_24 H_25 => m47_1 y8_24 H_25 Q) Q)
theorem c47_0 (env : Env) (H : Heap) (Q : Ending → Heap → Prop) (h : m47 (env 0) (env 1) H Q) :
    RCode Try.prog 38 (bodyOf Try.f47) env H (mkK (retK T Try.f47.results.toList Q) (fun _ _ _ => False) (retK T Try.f47.results.toList Q) (fun c H => Q (.panicked c) H)) :=
  RCode.prefix_ (T := T) (X := ext) (hint := hint47) (hole := (fun e H => m47_2 (e 2) (e 6) (e 8) H (fun y8_26 H_27 => m47_1 y8_26 H_27 Q) Q)) tok xok mixed 4 (by kernel_rfl) (by kernel_rfl : codeAt _ _ = (codeAt [1, 1, 1, 1] (bodyOf Try.f47))) h
    (fun e H h => RCode.join (by kernel_rfl : (codeAt [1, 1, 1, 1] (bodyOf Try.f47)) = .seq (codeAt [1, 1, 1, 1, 0] (bodyOf Try.f47)) (codeAt [1, 1, 1, 1, 1] (bodyOf Try.f47))) ((c47_2 e H (fun y8_28 H_29 => m47_1 y8_28 H_29 Q) Q h).mono (mkK_mono (fun e H h => c47_1 e H Q h) (fun _ _ _ h => h) (fun _ _ h => h) (fun _ _ h => h))))
theorem call47 (a0 a1 : Value) (H : Heap) (Q : Ending → Heap → Prop) (h : m47 a0 a1 H Q) : RCalls Try.prog 47 [a0, a1] H Q :=
  RCalls.intro (nt := 38) tok Try.func47 (by kernel_rfl) (by kernel_rfl) (by kernel_rfl) (of_decide_eq_true (by kernel_rfl)) (c47_0 (envOf [a0, a1]) H Q h)
/-! ### 48: privity/privityref05.Same -/
def hint48 : Nat → List Nat := lookupL [(6, [0, 1, 2, 3, 4, 5, 6, 7, 8])]
def m48_1 (H : Heap) (Q : Ending → Heap → Prop) : Prop :=
Q (.returned (.bool true)) H
theorem c48_1 (env : Env) (H : Heap) (Q : Ending → Heap → Prop) (h : m48_1 H Q) :
    RCode Try.prog 26 (codeAt [1, 1, 1] (bodyOf Try.f48)) env H (mkK (retK T Try.f48.results.toList Q) (fun _ _ _ => False) (retK T Try.f48.results.toList Q) (fun c H => Q (.panicked c) H)) :=
  RCode.leaf_ (T := T) (X := ext) (hint := hint48) tok xok mixed (by kernel_rfl) h
def L48_3 (x0 x1 x5 : Value) (H : Heap) (kn : Heap → Prop) (Q : Ending → Heap → Prop) : Prop :=
  ∀ env : Env, env 0 = x0 → env 1 = x1 → env 5 = x5 → RLoop Try.prog 26 (codeAt [1, 1, 0, 1, 0, 0] (bodyOf Try.f48)) env H (mkK (fun _ _ => False) (inK 0 (fun e H => kn H) (fun _ _ _ => False)) (retK T Try.f48.results.toList Q) (fun c H => Q (.panicked c) H))
theorem cL48_3 (env : Env) (H : Heap) (kn : Heap → Prop) (Q : Ending → Heap → Prop) (h : L48_3 (env 0) (env 1) (env 5) H kn Q) :
    RCode Try.prog 26 (codeAt [1, 1, 0, 1] (bodyOf Try.f48)) env H (mkK (fun e H => kn H) (fun _ _ _ => False) (retK T Try.f48.results.toList Q) (fun c H => Q (.panicked c) H)) :=
  RCode.blk (by kernel_rfl : (codeAt [1, 1, 0, 1] (bodyOf Try.f48)) = .block 0 (codeAt [1, 1, 0, 1, 0] (bodyOf Try.f48))) (RCode.lp (by kernel_rfl : (codeAt [1, 1, 0, 1, 0] (bodyOf Try.f48)) = .loop (codeAt [1, 1, 0, 1, 0, 0] (bodyOf Try.f48))) ((h env rfl rfl rfl).mono (mkK_mono (fun _ _ h => h.elim) (fun _ _ _ h => h) (fun _ _ h => h) (fun _ _ h => h))))
def m48_4 (x0 x1 x5 : Value) (H : Heap) (kn : Value → Value → Value → Heap → Prop) (kx0 : Heap → Prop) (Q : Ending → Heap → Prop) : Prop :=
oV (vLen x0) fun t13_1 =>
oV (vInt .lss x5 t13_1) fun t14_2 =>
condK t14_2 (
oV (vIdxS 1 x0 x5) fun t19_3 =>
oV (vLoad ty22 t19_3 H) fun t20_4 =>
oV (vIdxS 1 x1 x5) fun t23_5 =>
oV (vLoad ty22 t23_5 H) fun t24_6 =>
oV (vInt .neq t20_4 t24_6) fun t25_7 =>
condK t25_7 (
Q (.returned (.bool false)) H) (
oV (vInt .add x5 (.int .i64 1)) fun t16_8 =>
kn x0 x1 t16_8 H)) (
kx0 H)
theorem c48_4 (env : Env) (H : Heap) (kn : Value → Value → Value → Heap → Prop) (kx0 : Heap → Prop) (Q : Ending → Heap → Prop) (h : m48_4 (env 0) (env 1) (env 5) H kn kx0 Q) :
    RCode Try.prog 26 (codeAt [1, 1, 0, 1, 0, 0] (bodyOf Try.f48)) env H (mkK (fun e H => kn (e 0) (e 1) (e 5) H) (inK 0 (fun e H => kx0 H) (fun _ _ _ => False)) (retK T Try.f48.results.toList Q) (fun c H => Q (.panicked c) H)) :=
  RCode.leaf_ (T := T) (X := ext) (hint := hint48) tok xok mixed (by kernel_rfl) h
theorem L48_3_round (x0 x1 x5 : Value) (H : Heap) (kn : Heap → Prop) (Q : Ending → Heap → Prop) (h : m48_4 x0 x1 x5 H (fun y0 y1 y5 H => L48_3 y0 y1 y5 H kn Q) kn Q) : L48_3 x0 x1 x5 H kn Q := by
  intro env h0 h1 h5
  subst h0; subst h1; subst h5
  exact RLoop.round ((c48_4 env H (fun y0 y1 y5 H => L48_3 y0 y1 y5 H kn Q) kn Q h).mono (mkK_mono (fun e H h => h e rfl rfl rfl) (fun _ _ _ h => h) (fun _ _ h => h) (fun _ _ h => h)))
def m48_2 (x0 x1 : Value) (H : Heap) (kn : Heap → Prop) (Q : Ending → Heap → Prop) : Prop :=
L48_3 x0 x1 (.int .i64 0) H kn Q
theorem c48_2 (env : Env) (H : Heap) (kn : Heap → Prop) (Q : Ending → Heap → Prop) (h : m48_2 (env 0) (env 1) H kn Q) :
    RCode Try.prog 26 (codeAt [1, 1, 0] (bodyOf Try.f48)) env H (mkK (fun e H => kn H) (fun _ _ _ => False) (retK T Try.f48.results.toList Q) (fun c H => Q (.panicked c) H)) :=
  RCode.prefix_ (T := T) (X := ext) (hint := hint48) (hole := (fun e H => L48_3 (e 0) (e 1) (e 5) H kn Q)) tok xok mixed 1 (by kernel_rfl) (by kernel_rfl : codeAt _ _ = (codeAt [1, 1, 0, 1] (bodyOf Try.f48))) h
    (fun e H h => (cL48_3 e H kn Q h))
def m48 (x0 x1 : Value) (H : Heap) (Q : Ending → Heap → Prop) : Prop :=
oV (vLen x0) fun t7_9 =>
oV (vLen x1) fun t9_10 =>
oV (vInt .neq t7_9 t9_10) fun t10_11 =>
condK t10_11 (
Q (.returned (.bool false)) H) (
m48_2 x0 x1 H (fun H_12 => m48_1 H_12 Q) Q)
theorem c48_0 (env : Env) (H : Heap) (Q : Ending → Heap → Prop) (h : m48 (env 0) (env 1) H Q) :
    RCode Try.prog 26 (bodyOf Try.f48) env H (mkK (retK T Try.f48.results.toList Q) (fun _ _ _ => False) (retK T Try.f48.results.toList Q) (fun c H => Q (.panicked c) H)) :=
  RCode.prefix_ (T := T) (X := ext) (hint := hint48) (hole := (fun e H => m48_2 (e 0) (e 1) H (fun H_13 => m48_1 H_13 Q) Q)) tok xok mixed 2 (by kernel_rfl) (by kernel_rfl : codeAt _ _ = (codeAt [1, 1] (bodyOf Try.f48))) h
    (fun e H h => RCode.join (by kernel_rfl : (codeAt [1, 1] (bodyOf Try.f48)) = .seq (codeAt [1, 1, 0] (bodyOf Try.f48)) (codeAt [1, 1, 1] (bodyOf Try.f48))) ((c48_2 e H (fun H_14 => m48_1 H_14 Q) Q h).mono (mkK_mono (fun e H h => c48_1 e H Q h) (fun _ _ _ h => h) (fun _ _ h => h) (fun _ _ h => h))))
theorem call48 (a0 a1 : Value) (H : Heap) (Q : Ending → Heap → Prop) (h : m48 a0 a1 H Q) : RCalls Try.prog 48 [a0, a1] H Q :=
  RCalls.intro (nt := 26) tok Try.func48 (by kernel_rfl) (by kernel_rfl) (by kernel_rfl) (of_decide_eq_true (by kernel_rfl)) (c48_0 (envOf [a0, a1]) H Q h)
/-! ### 10: privity/privitylaw34.awake -/
def hint10 : Nat → List Nat := lookupL []
def m10 (H : Heap) (Q : Ending → Heap → Prop) : Prop :=
oRC Try.prog 12 [(.int .u64 31)] H (fun c H => Q (.panicked c) H) fun v_1 H_2 =>
oRC Try.prog 13 [v_1, (.int .i64 1), (.bool true)] H_2 (fun c H => Q (.panicked c) H) fun v_3 H_4 =>
oRC Try.prog 13 [v_1, (.int .i64 2), (.bool true)] H_4 (fun c H => Q (.panicked c) H) fun v_5 H_6 =>
oRC Try.prog 13 [v_1, (.int .i64 1), (.bool false)] H_6 (fun c H => Q (.panicked c) H) fun v_7 H_8 =>
oRC Try.prog 30 [v_1, v_3, v_5] H_8 (fun c H => Q (.panicked c) H) fun v_9 H_10 =>
oRC Try.prog 14 [v_1, v_9] H_10 (fun c H => Q (.panicked c) H) fun v_11 H_12 =>
oRC Try.prog 31 [v_1, v_3, v_5] H_12 (fun c H => Q (.panicked c) H) fun v_13 H_14 =>
oRC Try.prog 14 [v_1, v_13] H_14 (fun c H => Q (.panicked c) H) fun v_15 H_16 =>
oRC Try.prog 18 [v_1, (.int .u64 3), v_7] H_16 (fun c H => Q (.panicked c) H) fun v_17 H_18 =>
oRC Try.prog 14 [v_1, v_17] H_18 (fun c H => Q (.panicked c) H) fun v_19 H_20 =>
oBuildS ty3 3 3 [((0, 1), v_3), ((1, 1), v_5), ((2, 1), v_5)] H_20 fun s_21 H_22 =>
oRC Try.prog 36 [v_1, s_21] H_22 (fun c H => Q (.panicked c) H) fun v_23 H_24 =>
oRC Try.prog 14 [v_1, v_23] H_24 (fun c H => Q (.panicked c) H) fun v_25 H_26 =>
oRC Try.prog 23 [v_1] H_26 (fun c H => Q (.panicked c) H) fun v_27 H_28 =>
oBuildS ty22 22 2 [((0, 1), (.int .u64 1)), ((1, 1), (.int .u64 5))] H_28 fun s_29 H_30 =>
oBuildS ty22 22 1 [((0, 1), (.int .u64 1))] H_30 fun s_31 H_32 =>
oBuildS ty35 35 2 [((0, 1), s_29), ((1, 1), s_31)] H_32 fun s_33 H_34 =>
oRC Try.prog 47 [v_27, s_33] H_34 (fun c H => Q (.panicked c) H) fun v_35 H_36 =>
oV (vExtract v_35 0) fun t46_37 =>
oV (vExtract v_35 1) fun t47_38 =>
oV (vInt .eql t47_38 (.int .i64 0)) fun t49_39 =>
oV (gV t49_39 true (some t46_37) (some undef)) fun t51_40 =>
letK (fun t52_42 H_43 =>
letK (fun t53_45 H_46 =>
oV (vPick t49_39 t53_45 (.bool false)) fun t54_47 =>
Q (.returned t54_47) H_46) fun k_44 => gK t49_39 true (oRC Try.prog 48 [t51_40, t52_42] H_43 (fun c H => Q (.panicked c) H) fun v_48 H_49 =>
k_44 v_48 H_49) (k_44 undef H_43)) fun k_41 => gK t49_39 true (oBuildS ty22 22 4 [((0, 1), (.int .u64 1)), ((1, 1), (.int .u64 0)), ((2, 1), (.int .u64 15)), ((3, 1), (.int .u64 7))] H_36 fun s_50 H_51 =>
k_41 s_50 H_51) (k_41 undef H_36)
theorem c10_0 (env : Env) (H : Heap) (Q : Ending → Heap → Prop) (h : m10 H Q) :
    RCode Try.prog 55 (bodyOf Try.f10) env H (mkK (retK T Try.f10.results.toList Q) (fun _ _ _ => False) (retK T Try.f10.results.toList Q) (fun c H => Q (.panicked c) H)) :=
  RCode.leaf_ (T := T) (X := ext) (hint := hint10) tok xok mixed (by kernel_rfl) h
theorem call10 (H : Heap) (Q : Ending → Heap → Prop) (h : m10 H Q) : RCalls Try.prog 10 [] H Q :=
  RCalls.intro (nt := 55) tok Try.func10 (by kernel_rfl) (by kernel_rfl) (by kernel_rfl) (of_decide_eq_true (by kernel_rfl)) (c10_0 (envOf []) H Q h)
/-! ### 20: privity/privityref34.Op -/
def hint20 : Nat → List Nat := lookupL []
def m20 (x0 x1 x2 x3 x4 : Value) (H : Heap) (Q : Ending → Heap → Prop) : Prop :=
oV (vInt .eql x1 (.int .i64 0)) fun t13_1 =>
condK t13_1 (
oRC Try.prog 51 [x0, x2, x3] H (fun c H => Q (.panicked c) H) fun v_2 H_3 =>
Q (.returned v_2) H_3) (
oV (vInt .eql x1 (.int .i64 1)) fun t19_4 =>
condK t19_4 (
oRC Try.prog 52 [x0, x2, x3] H (fun c H => Q (.panicked c) H) fun v_5 H_6 =>
Q (.returned v_5) H_6) (
oV (vInt .eql x1 (.int .i64 2)) fun t25_7 =>
condK t25_7 (
oRC Try.prog 21 [x0, x2, x3] H (fun c H => Q (.panicked c) H) fun v_8 H_9 =>
Q (.returned v_8) H_9) (
oV (vInt .eql x1 (.int .i64 3)) fun t31_10 =>
condK t31_10 (
oV (vInt .sub (.int .u64 1) x2) fun t33_11 =>
Q (.returned t33_11) H) (
oV (vInt .eql x1 (.int .i64 4)) fun t35_12 =>
condK t35_12 (
oV (vInt .mul x2 x3) fun t38_13 =>
Q (.returned t38_13) H) (
oV (vInt .eql x1 (.int .i64 5)) fun t40_14 =>
condK t40_14 (
oV (vInt .add x2 x3) fun t43_15 =>
oV (vInt .mul x2 x3) fun t46_16 =>
oV (vInt .sub t43_15 t46_16) fun t47_17 =>
Q (.returned t47_17) H) (
oV (vInt .eql x1 (.int .i64 6)) fun t49_18 =>
condK t49_18 (
oV (vInt .add x2 x3) fun t52_19 =>
oV (vInt .mul (.int .u64 2) x2) fun t54_20 =>
oV (vInt .mul t54_20 x3) fun t56_21 =>
oV (vInt .sub t52_19 t56_21) fun t57_22 =>
Q (.returned t57_22) H) (
oV (vInt .eql x4 (.int .u64 1)) fun t59_23 =>
condK t59_23 (
Q (.returned x2) H) (
Q (.returned x3) H))))))))
theorem c20_0 (env : Env) (H : Heap) (Q : Ending → Heap → Prop) (h : m20 (env 0) (env 1) (env 2) (env 3) (env 4) H Q) :
    RCode Try.prog 62 (bodyOf Try.f20) env H (mkK (retK T Try.f20.results.toList Q) (fun _ _ _ => False) (retK T Try.f20.results.toList Q) (fun c H => Q (.panicked c) H)) :=
  RCode.leaf_ (T := T) (X := ext) (hint := hint20) tok xok mixed (by kernel_rfl) h
theorem call20 (a0 a1 a2 a3 a4 : Value) (H : Heap) (Q : Ending → Heap → Prop) (h : m20 a0 a1 a2 a3 a4 H Q) : RCalls Try.prog 20 [a0, a1, a2, a3, a4] H Q :=
  RCalls.intro (nt := 62) tok Try.func20 (by kernel_rfl) (by kernel_rfl) (by kernel_rfl) (of_decide_eq_true (by kernel_rfl)) (c20_0 (envOf [a0, a1, a2, a3, a4]) H Q h)
/-! ### 22: privity/privitylaw34.tells -/
def hint22 : Nat → List Nat := lookupL []
def m22 (x0 x1 x2 : Value) (H : Heap) (Q : Ending → Heap → Prop) : Prop :=
oNew (Value.cells x0).toList (Value.cells x0).toList.length 40 H fun i_1 H_2 =>
oV (vLoad ty40 (ptrTo i_1) H_2) fun t10_3 =>
oRC Try.prog 47 [t10_3, x1] H_2 (fun c H => Q (.panicked c) H) fun v_4 H_5 =>
oV (vExtract v_4 0) fun t13_6 =>
oV (vExtract v_4 1) fun t14_7 =>
oV (vLoad ty40 (ptrTo i_1) H_5) fun t15_8 =>
oRC Try.prog 53 [t15_8] H_5 (fun c H => Q (.panicked c) H) fun v_9 H_10 =>
oV (gV v_9 true (some t14_7) (some undef)) fun t18_11 =>
oV (gV v_9 true (vInt .eql t18_11 (.int .i64 0)) (some undef)) fun t19_12 =>
oV (vPick v_9 t19_12 (.bool false)) fun t20_13 =>
oV (gV t20_13 true (some t13_6) (some undef)) fun t22_14 =>
oV (gV t20_13 true (some x2) (some undef)) fun t23_15 =>
letK (fun t24_17 H_18 =>
oV (vPick t20_13 t24_17 (.bool false)) fun t25_19 =>
Q (.returned t25_19) H_18) fun k_16 => gK t20_13 true (oRC Try.prog 48 [t22_14, t23_15] H_10 (fun c H => Q (.panicked c) H) fun v_20 H_21 =>
k_16 v_20 H_21) (k_16 undef H_10)
theorem c22_0 (env : Env) (H : Heap) (Q : Ending → Heap → Prop) (h : m22 (env 0) (env 1) (env 2) H Q) :
    RCode Try.prog 26 (bodyOf Try.f22) env H (mkK (retK T Try.f22.results.toList Q) (fun _ _ _ => False) (retK T Try.f22.results.toList Q) (fun c H => Q (.panicked c) H)) :=
  RCode.leaf_ (T := T) (X := ext) (hint := hint22) tok xok mixed (by kernel_rfl) h
theorem call22 (a0 a1 a2 : Value) (H : Heap) (Q : Ending → Heap → Prop) (h : m22 a0 a1 a2 H Q) : RCalls Try.prog 22 [a0, a1, a2] H Q :=
  RCalls.intro (nt := 26) tok Try.func22 (by kernel_rfl) (by kernel_rfl) (by kernel_rfl) (of_decide_eq_true (by kernel_rfl)) (c22_0 (envOf [a0, a1, a2]) H Q h)
/-! ### 3: privity/privitylaw34.GadgetFieldGates -/
def hint3 : Nat → List Nat := lookupL [(14, [0, 1, 2, 3, 4, 6, 7, 8, 9, 10, 12, 13, 14, 15, 16, 18, 19, 20, 21, 23, 24, 25, 5, 11, 17, 22, 26, 27]), (15, [0, 2, 3, 5, 6, 9, 1, 4, 7, 8, 10, 11])]
def m3 (x0 x1 x2 : Value) (H : Heap) (Q : Ending → Heap → Prop) : Prop :=
oNew (Value.cells x1).toList (Value.cells x1).toList.length 23 H fun i_1 H_2 =>
oRC Try.prog 10 [] H_2 (fun c H => Q (.panicked c) H) fun v_3 H_4 =>
oV (vUn .not v_3) fun t12_5 =>
condK t12_5 (
Q (.returned (.bool false)) H_4) (
oRC Try.prog 11 [x0] H_4 (fun c H => Q (.panicked c) H) fun v_6 H_7 =>
oV (vUn .not v_6) fun t15_8 =>
oV (gV t15_8 false (vIdxA 2 1 (ptrTo i_1) (.int .i64 0)) (some undef)) fun t17_9 =>
oV (gV t15_8 false (vLoad ty22 t17_9 H_7) (some undef)) fun t18_10 =>
oV (gV t15_8 false (some x0) (some undef)) fun t19_11 =>
oV (gV t15_8 false (vInt .geq t18_10 t19_11) (some undef)) fun t20_12 =>
oV (vPick t15_8 (.bool true) t20_12) fun t21_13 =>
oV (gV t21_13 false (vIdxA 2 1 (ptrTo i_1) (.int .i64 1)) (some undef)) fun t23_14 =>
oV (gV t21_13 false (vLoad ty22 t23_14 H_7) (some undef)) fun t24_15 =>
oV (gV t21_13 false (some x0) (some undef)) fun t25_16 =>
oV (gV t21_13 false (vInt .geq t24_15 t25_16) (some undef)) fun t26_17 =>
oV (vPick t21_13 (.bool true) t26_17) fun t27_18 =>
oV (gV t27_18 false (some x2) (some undef)) fun t29_19 =>
oV (gV t27_18 false (some x0) (some undef)) fun t30_20 =>
oV (gV t27_18 false (vInt .geq t29_19 t30_20) (some undef)) fun t31_21 =>
oV (vPick t27_18 (.bool true) t31_21) fun t32_22 =>
condK t32_22 (
Q (.returned (.bool true)) H_7) (
oRC Try.prog 12 [x0] H_7 (fun c H => Q (.panicked c) H) fun v_23 H_24 =>
oRC Try.prog 13 [v_23, (.int .i64 1), (.bool false)] H_24 (fun c H => Q (.panicked c) H) fun v_25 H_26 =>
oRC Try.prog 13 [v_23, (.int .i64 2), (.bool false)] H_26 (fun c H => Q (.panicked c) H) fun v_27 H_28 =>
oRC Try.prog 15 [v_23, v_25, v_27] H_28 (fun c H => Q (.panicked c) H) fun v_29 H_30 =>
oRC Try.prog 14 [v_23, v_29] H_30 (fun c H => Q (.panicked c) H) fun v_31 H_32 =>
oRC Try.prog 16 [v_23, v_25, v_27] H_32 (fun c H => Q (.panicked c) H) fun v_33 H_34 =>
oRC Try.prog 14 [v_23, v_33] H_34 (fun c H => Q (.panicked c) H) fun v_35 H_36 =>
oRC Try.prog 17 [v_23, v_25, v_27] H_36 (fun c H => Q (.panicked c) H) fun v_37 H_38 =>
oRC Try.prog 14 [v_23, v_37] H_38 (fun c H => Q (.panicked c) H) fun v_39 H_40 =>
oRC Try.prog 18 [v_23, x2, v_25] H_40 (fun c H => Q (.panicked c) H) fun v_41 H_42 =>
oRC Try.prog 14 [v_23, v_41] H_42 (fun c H => Q (.panicked c) H) fun v_43 H_44 =>
oRC Try.prog 19 [v_23, x2] H_44 (fun c H => Q (.panicked c) H) fun v_45 H_46 =>
oRC Try.prog 14 [v_23, v_45] H_46 (fun c H => Q (.panicked c) H) fun v_47 H_48 =>
oRC Try.prog 14 [v_23, v_25] H_48 (fun c H => Q (.panicked c) H) fun v_49 H_50 =>
oV (vIdxA 2 1 (ptrTo i_1) (.int .i64 0)) fun t72_51 =>
oV (vLoad ty22 t72_51 H_50) fun t73_52 =>
oV (vIdxA 2 1 (ptrTo i_1) (.int .i64 1)) fun t74_53 =>
oV (vLoad ty22 t74_53 H_50) fun t75_54 =>
oV (vIdxA 2 1 (ptrTo i_1) (.int .i64 0)) fun t78_55 =>
oV (vLoad ty22 t78_55 H_50) fun t79_56 =>
oV (vIdxA 2 1 (ptrTo i_1) (.int .i64 1)) fun t80_57 =>
oV (vLoad ty22 t80_57 H_50) fun t81_58 =>
oV (vIdxA 2 1 (ptrTo i_1) (.int .i64 0)) fun t84_59 =>
oV (vLoad ty22 t84_59 H_50) fun t85_60 =>
oV (vIdxA 2 1 (ptrTo i_1) (.int .i64 1)) fun t86_61 =>
oV (vLoad ty22 t86_61 H_50) fun t87_62 =>
oV (vIdxA 2 1 (ptrTo i_1) (.int .i64 0)) fun t91_63 =>
oV (vLoad ty22 t91_63 H_50) fun t92_64 =>
oV (vIdxA 2 1 (ptrTo i_1) (.int .i64 0)) fun t95_65 =>
oV (vLoad ty22 t95_65 H_50) fun t96_66 =>
oRC Try.prog 20 [x0, (.int .i64 0), t73_52, t75_54, (.int .u64 0)] H_50 noP fun v_67 H_68 =>
(vLoad ty22 t95_65 H_68 = some t96_66 ∧
(vLoad ty22 t91_63 H_68 = some t92_64 ∧
(vLoad ty22 t86_61 H_68 = some t87_62 ∧
(vLoad ty22 t84_59 H_68 = some t85_60 ∧
(vLoad ty22 t80_57 H_68 = some t81_58 ∧
(vLoad ty22 t78_55 H_68 = some t79_56 ∧
oRC Try.prog 20 [x0, (.int .i64 1), t79_56, t81_58, (.int .u64 0)] H_68 noP fun v_69 H_70 =>
(vLoad ty22 t95_65 H_70 = some t96_66 ∧
(vLoad ty22 t91_63 H_70 = some t92_64 ∧
(vLoad ty22 t86_61 H_70 = some t87_62 ∧
(vLoad ty22 t84_59 H_70 = some t85_60 ∧
oRC Try.prog 20 [x0, (.int .i64 2), t85_60, t87_62, (.int .u64 0)] H_70 noP fun v_71 H_72 =>
(vLoad ty22 t95_65 H_72 = some t96_66 ∧
(vLoad ty22 t91_63 H_72 = some t92_64 ∧
oRC Try.prog 21 [x0, x2, t92_64] H_72 noP fun v_73 H_74 =>
(vLoad ty22 t95_65 H_74 = some t96_66 ∧
oBuildS ty22 22 6 [((0, 1), v_67), ((1, 1), v_69), ((2, 1), v_71), ((3, 1), v_73), ((4, 1), x2), ((5, 1), t96_66)] H_74 fun s_75 H_76 =>
oV (vIdxA 2 1 (ptrTo i_1) (.int .i64 0)) fun t100_77 =>
oV (vLoad ty22 t100_77 H_76) fun t101_78 =>
oV (vIdxA 2 1 (ptrTo i_1) (.int .i64 1)) fun t103_79 =>
oV (vLoad ty22 t103_79 H_76) fun t104_80 =>
oRC Try.prog 23 [v_23] H_76 noP fun v_81 H_82 =>
(vLoad ty22 t103_79 H_82 = some t104_80 ∧
(vLoad ty22 t100_77 H_82 = some t101_78 ∧
oBuildS ty22 22 1 [((0, 1), t101_78)] H_82 fun s_83 H_84 =>
oBuildS ty22 22 1 [((0, 1), t104_80)] H_84 fun s_85 H_86 =>
oBuildS ty35 35 2 [((0, 1), s_83), ((1, 1), s_85)] H_86 fun s_87 H_88 =>
oRC Try.prog 22 [v_81, s_87, s_75] H_88 noP fun v_89 H_90 =>
Q (.returned v_89) H_90)))))))))))))))))
theorem c3_0 (env : Env) (H : Heap) (Q : Ending → Heap → Prop) (h : m3 (env 0) (env 1) (env 2) H Q) :
    RCode Try.prog 109 (bodyOf Try.f3) env H (mkK (retK T Try.f3.results.toList Q) (fun _ _ _ => False) (retK T Try.f3.results.toList Q) (fun c H => Q (.panicked c) H)) :=
  RCode.leaf_ (T := T) (X := ext) (hint := hint3) tok xok mixed (by kernel_rfl) h
theorem call3 (a0 a1 a2 : Value) (H : Heap) (Q : Ending → Heap → Prop) (h : m3 a0 a1 a2 H Q) : RCalls Try.prog 3 [a0, a1, a2] H Q :=
  RCalls.intro (nt := 109) tok Try.func3 (by kernel_rfl) (by kernel_rfl) (by kernel_rfl) (of_decide_eq_true (by kernel_rfl)) (c3_0 (envOf [a0, a1, a2]) H Q h)
end Go.Proofs.Ytpbaoefjkfdgmaa.SL
