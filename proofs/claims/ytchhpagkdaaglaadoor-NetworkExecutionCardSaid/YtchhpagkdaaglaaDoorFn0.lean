/- PRINTED by program: for each function what its code asks of what is known, and that it suffices. Not trusted: Lean checks it. -/
import Derived.Test.YtchhpagkdaaglaaDoorTab
set_option linter.unusedVariables false
set_option linter.unusedSimpArgs false
set_option maxRecDepth 100000
namespace Go.Proofs.YtchhpagkdaaglaaDoor.SL
open Go
/-! ### 45: privity/privitylaw14.exampleScenario -/
def hint45 : Nat → List Nat := lookupL []
def m45 (H : Heap) (Q : Ending → Heap → Prop) : Prop :=
oNew (Value.cells ty29.zero).toList (Value.cells ty29.zero).toList.length 29 H fun i_1 H_2 =>
oV (vBuild ty24 [((0, 1), (.int .u64 31)), ((1, 1), (.int .i64 4)), ((2, 1), (.int .i64 1))]) fun t1_3 =>
oBuildS ty22 22 2 [((0, 1), (.int .u64 5)), ((1, 1), (.int .u64 6))] H_2 fun s_4 H_5 =>
oBuildS ty52 52 4 [((0, 1), s_4), ((1, 1), (.slice none 0 0)), ((2, 1), (.slice none 0 0)), ((3, 1), (.slice none 0 0))] H_5 fun s_6 H_7 =>
oV (vBuild ty29 [((0, 3), t1_3), ((5, 1), s_6)]) fun t4_8 =>
oHeap (vStore ty29 (ptrTo i_1) t4_8 H_7) fun H_9 =>
retM ((vLoad ty29 (ptrTo i_1) H_9).bind fun v => (some []).map (v :: ·)) Q H_9
theorem c45_0 (env : Env) (H : Heap) (Q : Ending → Heap → Prop) (h : m45 H Q) :
    RCode Tryd.prog 5 (bodyOf Tryd.f45) env H (mkK (retK T Tryd.f45.results.toList Q) (fun _ _ _ => False) (retK T Tryd.f45.results.toList Q) (fun c H => Q (.panicked c) H)) :=
  RCode.leaf_ (T := T) (X := ext) (hint := hint45) tok xok mixed (by kernel_rfl) h
theorem call45 (H : Heap) (Q : Ending → Heap → Prop) (h : m45 H Q) : RCalls Tryd.prog 45 [] H Q :=
  RCalls.intro (nt := 5) tok Tryd.func45 (by kernel_rfl) (by kernel_rfl) (by kernel_rfl) (of_decide_eq_true (by kernel_rfl)) (c45_0 (envOf []) H Q h)
/-! ### 148: privity/field.Exponent -/
def hint148 : Nat → List Nat := lookupL []
def m148_1 (H : Heap) (Q : Ending → Heap → Prop) : Prop :=
Q (.returned (.int .i64 0)) H
theorem c148_1 (env : Env) (H : Heap) (Q : Ending → Heap → Prop) (h : m148_1 H Q) :
    RCode Tryd.prog 16 (codeAt [1, 1] (bodyOf Tryd.f148)) env H (mkK (retK T Tryd.f148.results.toList Q) (fun _ _ _ => False) (retK T Tryd.f148.results.toList Q) (fun c H => Q (.panicked c) H)) :=
  RCode.leaf_ (T := T) (X := ext) (hint := hint148) tok xok mixed (by kernel_rfl) h
def L148_3 (x0 x5 x6 : Value) (H : Heap) (kn : Heap → Prop) (Q : Ending → Heap → Prop) : Prop :=
  ∀ env : Env, env 0 = x0 → env 5 = x5 → env 6 = x6 → RLoop Tryd.prog 16 (codeAt [1, 0, 1, 0, 0] (bodyOf Tryd.f148)) env H (mkK (fun _ _ => False) (inK 0 (fun e H => kn H) (fun _ _ _ => False)) (retK T Tryd.f148.results.toList Q) (fun c H => Q (.panicked c) H))
theorem cL148_3 (env : Env) (H : Heap) (kn : Heap → Prop) (Q : Ending → Heap → Prop) (h : L148_3 (env 0) (env 5) (env 6) H kn Q) :
    RCode Tryd.prog 16 (codeAt [1, 0, 1] (bodyOf Tryd.f148)) env H (mkK (fun e H => kn H) (fun _ _ _ => False) (retK T Tryd.f148.results.toList Q) (fun c H => Q (.panicked c) H)) :=
  RCode.blk (by kernel_rfl : (codeAt [1, 0, 1] (bodyOf Tryd.f148)) = .block 0 (codeAt [1, 0, 1, 0] (bodyOf Tryd.f148))) (RCode.lp (by kernel_rfl : (codeAt [1, 0, 1, 0] (bodyOf Tryd.f148)) = .loop (codeAt [1, 0, 1, 0, 0] (bodyOf Tryd.f148))) ((h env rfl rfl rfl).mono (mkK_mono (fun _ _ h => h.elim) (fun _ _ _ h => h) (fun _ _ h => h) (fun _ _ h => h))))
def m148_4 (x0 x5 x6 : Value) (H : Heap) (kn : Value → Value → Value → Heap → Prop) (kx0 : Heap → Prop) (Q : Ending → Heap → Prop) : Prop :=
oV (vInt .lss x6 (.int .i64 7)) fun t7_1 =>
condK t7_1 (
oV (vIndexA false 7 1 x5 x6) fun t8_2 =>
oV (vInt .shl (.int .u64 1) t8_2) fun t11_3 =>
oV (vInt .sub t11_3 (.int .u64 1)) fun t12_4 =>
oV (vInt .eql x0 t12_4) fun t13_5 =>
condK t13_5 (
Q (.returned t8_2) H) (
oV (vInt .add x6 (.int .i64 1)) fun t15_6 =>
kn x0 x5 t15_6 H)) (
kx0 H)
theorem c148_4 (env : Env) (H : Heap) (kn : Value → Value → Value → Heap → Prop) (kx0 : Heap → Prop) (Q : Ending → Heap → Prop) (h : m148_4 (env 0) (env 5) (env 6) H kn kx0 Q) :
    RCode Tryd.prog 16 (codeAt [1, 0, 1, 0, 0] (bodyOf Tryd.f148)) env H (mkK (fun e H => kn (e 0) (e 5) (e 6) H) (inK 0 (fun e H => kx0 H) (fun _ _ _ => False)) (retK T Tryd.f148.results.toList Q) (fun c H => Q (.panicked c) H)) :=
  RCode.leaf_ (T := T) (X := ext) (hint := hint148) tok xok mixed (by kernel_rfl) h
theorem L148_3_round (x0 x5 x6 : Value) (H : Heap) (kn : Heap → Prop) (Q : Ending → Heap → Prop) (h : m148_4 x0 x5 x6 H (fun y0 y5 y6 H => L148_3 y0 y5 y6 H kn Q) kn Q) : L148_3 x0 x5 x6 H kn Q := by
  intro env h0 h5 h6
  subst h0; subst h5; subst h6
  exact RLoop.round ((c148_4 env H (fun y0 y5 y6 H => L148_3 y0 y5 y6 H kn Q) kn Q h).mono (mkK_mono (fun e H h => h e rfl rfl rfl) (fun _ _ _ h => h) (fun _ _ h => h) (fun _ _ h => h)))
def m148_2 (x0 : Value) (H : Heap) (kn : Heap → Prop) (Q : Ending → Heap → Prop) : Prop :=
oV (vLoad ty182 (.pointer (some ⟨0, 0, none⟩)) H) fun t5_7 =>
L148_3 x0 t5_7 (.int .i64 0) H kn Q
theorem c148_2 (env : Env) (H : Heap) (kn : Heap → Prop) (Q : Ending → Heap → Prop) (h : m148_2 (env 0) H kn Q) :
    RCode Tryd.prog 16 (codeAt [1, 0] (bodyOf Tryd.f148)) env H (mkK (fun e H => kn H) (fun _ _ _ => False) (retK T Tryd.f148.results.toList Q) (fun c H => Q (.panicked c) H)) :=
  RCode.prefix_ (T := T) (X := ext) (hint := hint148) (hole := (fun e H => L148_3 (e 0) (e 5) (e 6) H kn Q)) tok xok mixed 1 (by kernel_rfl) (by kernel_rfl : codeAt _ _ = (codeAt [1, 0, 1] (bodyOf Tryd.f148))) h
    (fun e H h => (cL148_3 e H kn Q h))
def m148 (x0 : Value) (H : Heap) (Q : Ending → Heap → Prop) : Prop :=
m148_2 x0 H (fun H_8 => m148_1 H_8 Q) Q
theorem c148_0 (env : Env) (H : Heap) (Q : Ending → Heap → Prop) (h : m148 (env 0) H Q) :
    RCode Tryd.prog 16 (bodyOf Tryd.f148) env H (mkK (retK T Tryd.f148.results.toList Q) (fun _ _ _ => False) (retK T Tryd.f148.results.toList Q) (fun c H => Q (.panicked c) H)) :=
  RCode.prefix_ (T := T) (X := ext) (hint := hint148) (hole := (fun e H => m148_2 (e 0) H (fun H_9 => m148_1 H_9 Q) Q)) tok xok mixed 1 (by kernel_rfl) (by kernel_rfl : codeAt _ _ = (codeAt [1] (bodyOf Tryd.f148))) h
    (fun e H h => RCode.join (by kernel_rfl : (codeAt [1] (bodyOf Tryd.f148)) = .seq (codeAt [1, 0] (bodyOf Tryd.f148)) (codeAt [1, 1] (bodyOf Tryd.f148))) ((c148_2 e H (fun H_10 => m148_1 H_10 Q) Q h).mono (mkK_mono (fun e H h => c148_1 e H Q h) (fun _ _ _ h => h) (fun _ _ h => h) (fun _ _ h => h))))
theorem call148 (a0 : Value) (H : Heap) (Q : Ending → Heap → Prop) (h : m148 a0 H Q) : RCalls Tryd.prog 148 [a0] H Q :=
  RCalls.intro (nt := 16) tok Tryd.func148 (by kernel_rfl) (by kernel_rfl) (by kernel_rfl) (of_decide_eq_true (by kernel_rfl)) (c148_0 (envOf [a0]) H Q h)
/-! ### 140: privity/field.Supported -/
def hint140 : Nat → List Nat := lookupL []
def m140 (x0 : Value) (H : Heap) (Q : Ending → Heap → Prop) : Prop :=
oRC Tryd.prog 148 [x0] H (fun c H => Q (.panicked c) H) fun v_1 H_2 =>
oV (vInt .neq v_1 (.int .i64 0)) fun t5_3 =>
Q (.returned t5_3) H_2
theorem c140_0 (env : Env) (H : Heap) (Q : Ending → Heap → Prop) (h : m140 (env 0) H Q) :
    RCode Tryd.prog 6 (bodyOf Tryd.f140) env H (mkK (retK T Tryd.f140.results.toList Q) (fun _ _ _ => False) (retK T Tryd.f140.results.toList Q) (fun c H => Q (.panicked c) H)) :=
  RCode.leaf_ (T := T) (X := ext) (hint := hint140) tok xok mixed (by kernel_rfl) h
theorem call140 (a0 : Value) (H : Heap) (Q : Ending → Heap → Prop) (h : m140 a0 H Q) : RCalls Tryd.prog 140 [a0] H Q :=
  RCalls.intro (nt := 6) tok Tryd.func140 (by kernel_rfl) (by kernel_rfl) (by kernel_rfl) (of_decide_eq_true (by kernel_rfl)) (c140_0 (envOf [a0]) H Q h)
/-! ### 112: privity/params.Valid -/
def hint112 : Nat → List Nat := lookupL []
def m112 (x0 : Value) (H : Heap) (Q : Ending → Heap → Prop) : Prop :=
oNew (Value.cells x0).toList (Value.cells x0).toList.length 24 H fun i_1 H_2 =>
oV (vField 0 (ptrTo i_1)) fun t3_3 =>
oV (vLoad ty22 t3_3 H_2) fun t4_4 =>
oRC Tryd.prog 140 [t4_4] H_2 (fun c H => Q (.panicked c) H) fun v_5 H_6 =>
oV (gV v_5 true (vField 1 (ptrTo i_1)) (some undef)) fun t7_7 =>
oV (gV v_5 true (vLoad ty3 t7_7 H_6) (some undef)) fun t8_8 =>
oV (gV v_5 true (vInt .geq t8_8 (.int .i64 4)) (some undef)) fun t9_9 =>
oV (vPick v_5 t9_9 (.bool false)) fun t10_10 =>
oV (gV t10_10 true (vField 1 (ptrTo i_1)) (some undef)) fun t12_11 =>
oV (gV t10_10 true (vLoad ty3 t12_11 H_6) (some undef)) fun t13_12 =>
oV (gV t10_10 true (vInt .leq t13_12 (.int .i64 13)) (some undef)) fun t14_13 =>
oV (vPick t10_10 t14_13 (.bool false)) fun t15_14 =>
oV (gV t15_14 true (vField 1 (ptrTo i_1)) (some undef)) fun t17_15 =>
oV (gV t15_14 true (vLoad ty3 t17_15 H_6) (some undef)) fun t18_16 =>
oV (gV t15_14 true (vConv (.int .u64) t18_16) (some undef)) fun t19_17 =>
oV (gV t15_14 true (vField 0 (ptrTo i_1)) (some undef)) fun t20_18 =>
oV (gV t15_14 true (vLoad ty22 t20_18 H_6) (some undef)) fun t21_19 =>
oV (gV t15_14 true (vInt .lss t19_17 t21_19) (some undef)) fun t22_20 =>
oV (vPick t15_14 t22_20 (.bool false)) fun t23_21 =>
oV (gV t23_21 true (vField 2 (ptrTo i_1)) (some undef)) fun t25_22 =>
oV (gV t23_21 true (vLoad ty3 t25_22 H_6) (some undef)) fun t26_23 =>
oV (gV t23_21 true (vInt .geq t26_23 (.int .i64 1)) (some undef)) fun t27_24 =>
oV (vPick t23_21 t27_24 (.bool false)) fun t28_25 =>
oV (gV t28_25 true (vField 2 (ptrTo i_1)) (some undef)) fun t30_26 =>
oV (gV t28_25 true (vLoad ty3 t30_26 H_6) (some undef)) fun t31_27 =>
oV (gV t28_25 true (vField 1 (ptrTo i_1)) (some undef)) fun t32_28 =>
oV (gV t28_25 true (vLoad ty3 t32_28 H_6) (some undef)) fun t33_29 =>
oV (gV t28_25 true (vInt .lss t31_27 t33_29) (some undef)) fun t34_30 =>
oV (vPick t28_25 t34_30 (.bool false)) fun t35_31 =>
oV (gV t35_31 true (vField 2 (ptrTo i_1)) (some undef)) fun t37_32 =>
oV (gV t35_31 true (vLoad ty3 t37_32 H_6) (some undef)) fun t38_33 =>
oV (gV t35_31 true (vInt .mul (.int .i64 3) t38_33) (some undef)) fun t39_34 =>
oV (gV t35_31 true (vField 1 (ptrTo i_1)) (some undef)) fun t40_35 =>
oV (gV t35_31 true (vLoad ty3 t40_35 H_6) (some undef)) fun t41_36 =>
oV (gV t35_31 true (vInt .lss t39_34 t41_36) (some undef)) fun t42_37 =>
oV (vPick t35_31 t42_37 (.bool false)) fun t43_38 =>
Q (.returned t43_38) H_6
theorem c112_0 (env : Env) (H : Heap) (Q : Ending → Heap → Prop) (h : m112 (env 0) H Q) :
    RCode Tryd.prog 44 (bodyOf Tryd.f112) env H (mkK (retK T Tryd.f112.results.toList Q) (fun _ _ _ => False) (retK T Tryd.f112.results.toList Q) (fun c H => Q (.panicked c) H)) :=
  RCode.leaf_ (T := T) (X := ext) (hint := hint112) tok xok mixed (by kernel_rfl) h
theorem call112 (a0 : Value) (H : Heap) (Q : Ending → Heap → Prop) (h : m112 a0 H Q) : RCalls Tryd.prog 112 [a0] H Q :=
  RCalls.intro (nt := 44) tok Tryd.func112 (by kernel_rfl) (by kernel_rfl) (by kernel_rfl) (of_decide_eq_true (by kernel_rfl)) (c112_0 (envOf [a0]) H Q h)
/-! ### 82: privity/params.ValidCoalition -/
def hint82 : Nat → List Nat := lookupL []
def m82_1 (H : Heap) (Q : Ending → Heap → Prop) : Prop :=
Q (.returned (.bool true)) H
theorem c82_1 (env : Env) (H : Heap) (Q : Ending → Heap → Prop) (h : m82_1 H Q) :
    RCode Tryd.prog 46 (codeAt [1, 1, 1] (bodyOf Tryd.f82)) env H (mkK (retK T Tryd.f82.results.toList Q) (fun _ _ _ => False) (retK T Tryd.f82.results.toList Q) (fun c H => Q (.panicked c) H)) :=
  RCode.leaf_ (T := T) (X := ext) (hint := hint82) tok xok mixed (by kernel_rfl) h
def L82_3 (x1 x2 x17 x18 x19 : Value) (H : Heap) (kn : Heap → Prop) (Q : Ending → Heap → Prop) : Prop :=
  ∀ env : Env, env 1 = x1 → env 2 = x2 → env 17 = x17 → env 18 = x18 → env 19 = x19 → RLoop Tryd.prog 46 (codeAt [1, 1, 0, 1, 0, 0] (bodyOf Tryd.f82)) env H (mkK (fun _ _ => False) (inK 0 (fun e H => kn H) (fun _ _ _ => False)) (retK T Tryd.f82.results.toList Q) (fun c H => Q (.panicked c) H))
theorem cL82_3 (env : Env) (H : Heap) (kn : Heap → Prop) (Q : Ending → Heap → Prop) (h : L82_3 (env 1) (env 2) (env 17) (env 18) (env 19) H kn Q) :
    RCode Tryd.prog 46 (codeAt [1, 1, 0, 1] (bodyOf Tryd.f82)) env H (mkK (fun e H => kn H) (fun _ _ _ => False) (retK T Tryd.f82.results.toList Q) (fun c H => Q (.panicked c) H)) :=
  RCode.blk (by kernel_rfl : (codeAt [1, 1, 0, 1] (bodyOf Tryd.f82)) = .block 0 (codeAt [1, 1, 0, 1, 0] (bodyOf Tryd.f82))) (RCode.lp (by kernel_rfl : (codeAt [1, 1, 0, 1, 0] (bodyOf Tryd.f82)) = .loop (codeAt [1, 1, 0, 1, 0, 0] (bodyOf Tryd.f82))) ((h env rfl rfl rfl rfl rfl).mono (mkK_mono (fun _ _ h => h.elim) (fun _ _ _ h => h) (fun _ _ h => h) (fun _ _ h => h))))
def m82_4 (x1 x2 x17 x18 x19 : Value) (H : Heap) (kn : Value → Value → Value → Value → Value → Heap → Prop) (kx0 : Heap → Prop) (Q : Ending → Heap → Prop) : Prop :=
oV (vInt .lss x19 x18) fun t20_1 =>
condK t20_1 (
oV (vIdxS 1 x17 x19) fun t22_2 =>
oV (vLoad ty3 t22_2 H) fun t23_3 =>
oV (vInt .lss t23_3 (.int .i64 1)) fun t25_4 =>
oV (gV t25_4 false (some t23_3) (some undef)) fun t27_5 =>
oV (gV t25_4 false (vField 1 x2) (some undef)) fun t28_6 =>
oV (gV t25_4 false (vLoad ty3 t28_6 H) (some undef)) fun t29_7 =>
oV (gV t25_4 false (vInt .gtr t27_5 t29_7) (some undef)) fun t30_8 =>
oV (vPick t25_4 (.bool true) t30_8) fun t31_9 =>
oV (gV t31_9 false (some x19) (some undef)) fun t33_10 =>
oV (gV t31_9 false (vInt .gtr t33_10 (.int .i64 0)) (some undef)) fun t34_11 =>
oV (gV t31_9 false (some t34_11) (some undef)) fun t35_12 =>
oV (gV t35_12 true (some x1) (some undef)) fun t36_13 =>
oV (gV t35_12 true (some x19) (some undef)) fun t37_14 =>
oV (gV t35_12 true (vInt .sub t37_14 (.int .i64 1)) (some undef)) fun t38_15 =>
oV (gV t35_12 true (vIdxS 1 t36_13 t38_15) (some undef)) fun t39_16 =>
oV (gV t35_12 true (vLoad ty3 t39_16 H) (some undef)) fun t40_17 =>
oV (gV t35_12 true (some t23_3) (some undef)) fun t41_18 =>
oV (gV t35_12 true (vInt .geq t40_17 t41_18) (some undef)) fun t42_19 =>
oV (gV t31_9 false (vPick t35_12 t42_19 (.bool false)) (some undef)) fun t43_20 =>
oV (vPick t31_9 (.bool true) t43_20) fun t44_21 =>
condK t44_21 (
Q (.returned (.bool false)) H) (
oV (vInt .add x19 (.int .i64 1)) fun t45_22 =>
kn x1 x2 x17 x18 t45_22 H)) (
kx0 H)
theorem c82_4 (env : Env) (H : Heap) (kn : Value → Value → Value → Value → Value → Heap → Prop) (kx0 : Heap → Prop) (Q : Ending → Heap → Prop) (h : m82_4 (env 1) (env 2) (env 17) (env 18) (env 19) H kn kx0 Q) :
    RCode Tryd.prog 46 (codeAt [1, 1, 0, 1, 0, 0] (bodyOf Tryd.f82)) env H (mkK (fun e H => kn (e 1) (e 2) (e 17) (e 18) (e 19) H) (inK 0 (fun e H => kx0 H) (fun _ _ _ => False)) (retK T Tryd.f82.results.toList Q) (fun c H => Q (.panicked c) H)) :=
  RCode.leaf_ (T := T) (X := ext) (hint := hint82) tok xok mixed (by kernel_rfl) h
theorem L82_3_round (x1 x2 x17 x18 x19 : Value) (H : Heap) (kn : Heap → Prop) (Q : Ending → Heap → Prop) (h : m82_4 x1 x2 x17 x18 x19 H (fun y1 y2 y17 y18 y19 H => L82_3 y1 y2 y17 y18 y19 H kn Q) kn Q) : L82_3 x1 x2 x17 x18 x19 H kn Q := by
  intro env h1 h2 h17 h18 h19
  subst h1; subst h2; subst h17; subst h18; subst h19
  exact RLoop.round ((c82_4 env H (fun y1 y2 y17 y18 y19 H => L82_3 y1 y2 y17 y18 y19 H kn Q) kn Q h).mono (mkK_mono (fun e H h => h e rfl rfl rfl rfl rfl) (fun _ _ _ h => h) (fun _ _ h => h) (fun _ _ h => h)))
def m82_2 (x1 x2 : Value) (H : Heap) (kn : Heap → Prop) (Q : Ending → Heap → Prop) : Prop :=
oV (vLen x1) fun t18_23 =>
L82_3 x1 x2 x1 t18_23 (.int .i64 0) H kn Q
theorem c82_2 (env : Env) (H : Heap) (kn : Heap → Prop) (Q : Ending → Heap → Prop) (h : m82_2 (env 1) (env 2) H kn Q) :
    RCode Tryd.prog 46 (codeAt [1, 1, 0] (bodyOf Tryd.f82)) env H (mkK (fun e H => kn H) (fun _ _ _ => False) (retK T Tryd.f82.results.toList Q) (fun c H => Q (.panicked c) H)) :=
  RCode.prefix_ (T := T) (X := ext) (hint := hint82) (hole := (fun e H => L82_3 (e 1) (e 2) (e 17) (e 18) (e 19) H kn Q)) tok xok mixed 1 (by kernel_rfl) (by kernel_rfl : codeAt _ _ = (codeAt [1, 1, 0, 1] (bodyOf Tryd.f82))) h
    (fun e H h => (cL82_3 e H kn Q h))
def m82 (x0 x1 : Value) (H : Heap) (Q : Ending → Heap → Prop) : Prop :=
oNew (Value.cells x0).toList (Value.cells x0).toList.length 24 H fun i_24 H_25 =>
oV (vLoad ty24 (ptrTo i_24) H_25) fun t7_26 =>
oRC Tryd.prog 112 [t7_26] H_25 (fun c H => Q (.panicked c) H) fun v_27 H_28 =>
oV (vUn .not v_27) fun t9_29 =>
oV (gV t9_29 false (some x1) (some undef)) fun t11_30 =>
oV (gV t9_29 false (vLen t11_30) (some undef)) fun t12_31 =>
oV (gV t9_29 false (vField 2 (ptrTo i_24)) (some undef)) fun t13_32 =>
oV (gV t9_29 false (vLoad ty3 t13_32 H_28) (some undef)) fun t14_33 =>
oV (gV t9_29 false (vInt .gtr t12_31 t14_33) (some undef)) fun t15_34 =>
oV (vPick t9_29 (.bool true) t15_34) fun t16_35 =>
condK t16_35 (
Q (.returned (.bool false)) H_28) (
m82_2 x1 (ptrTo i_24) H_28 (fun H_36 => m82_1 H_36 Q) Q)
theorem c82_0 (env : Env) (H : Heap) (Q : Ending → Heap → Prop) (h : m82 (env 0) (env 1) H Q) :
    RCode Tryd.prog 46 (bodyOf Tryd.f82) env H (mkK (retK T Tryd.f82.results.toList Q) (fun _ _ _ => False) (retK T Tryd.f82.results.toList Q) (fun c H => Q (.panicked c) H)) :=
  RCode.prefix_ (T := T) (X := ext) (hint := hint82) (hole := (fun e H => m82_2 (e 1) (e 2) H (fun H_37 => m82_1 H_37 Q) Q)) tok xok mixed 2 (by kernel_rfl) (by kernel_rfl : codeAt _ _ = (codeAt [1, 1] (bodyOf Tryd.f82))) h
    (fun e H h => RCode.join (by kernel_rfl : (codeAt [1, 1] (bodyOf Tryd.f82)) = .seq (codeAt [1, 1, 0] (bodyOf Tryd.f82)) (codeAt [1, 1, 1] (bodyOf Tryd.f82))) ((c82_2 e H (fun H_38 => m82_1 H_38 Q) Q h).mono (mkK_mono (fun e H h => c82_1 e H Q h) (fun _ _ _ h => h) (fun _ _ h => h) (fun _ _ h => h))))
theorem call82 (a0 a1 : Value) (H : Heap) (Q : Ending → Heap → Prop) (h : m82 a0 a1 H Q) : RCalls Tryd.prog 82 [a0, a1] H Q :=
  RCalls.intro (nt := 46) tok Tryd.func82 (by kernel_rfl) (by kernel_rfl) (by kernel_rfl) (of_decide_eq_true (by kernel_rfl)) (c82_0 (envOf [a0, a1]) H Q h)
/-! ### 85: privity/params.lie -/
def hint85 : Nat → List Nat := lookupL []
def m85 (x0 x1 : Value) (H : Heap) (Q : Ending → Heap → Prop) : Prop :=
oNew (Value.cells x0).toList (Value.cells x0).toList.length 24 H fun i_1 H_2 =>
oNew (Value.cells x1).toList (Value.cells x1).toList.length 109 H_2 fun i_3 H_4 =>
oV (vField 4 (ptrTo i_3)) fun t6_5 =>
oV (vLoad ty3 t6_5 H_4) fun t7_6 =>
oV (vInt .eql t7_6 (.int .i64 3)) fun t8_7 =>
condK t8_7 (
oV (vField 0 (ptrTo i_3)) fun t9_8 =>
oV (vLoad ty3 t9_8 H_4) fun t10_9 =>
oV (vInt .geq t10_9 (.int .i64 0)) fun t11_10 =>
oV (gV t11_10 true (vField 3 (ptrTo i_3)) (some undef)) fun t13_11 =>
oV (gV t11_10 true (vLoad ty3 t13_11 H_4) (some undef)) fun t14_12 =>
oV (gV t11_10 true (vInt .geq t14_12 (.int .i64 0)) (some undef)) fun t15_13 =>
oV (vPick t11_10 t15_13 (.bool false)) fun t16_14 =>
oV (gV t16_14 true (vField 7 (ptrTo i_3)) (some undef)) fun t18_15 =>
oV (gV t16_14 true (vLoad ty3 t18_15 H_4) (some undef)) fun t19_16 =>
oV (gV t16_14 true (vInt .geq t19_16 (.int .i64 0)) (some undef)) fun t20_17 =>
oV (vPick t16_14 t20_17 (.bool false)) fun t21_18 =>
oV (gV t21_18 true (vField 1 (ptrTo i_3)) (some undef)) fun t23_19 =>
oV (gV t21_18 true (vLoad ty3 t23_19 H_4) (some undef)) fun t24_20 =>
oV (gV t21_18 true (vInt .geq t24_20 (.int .i64 1)) (some undef)) fun t25_21 =>
oV (vPick t21_18 t25_21 (.bool false)) fun t26_22 =>
oV (gV t26_22 true (vField 1 (ptrTo i_3)) (some undef)) fun t28_23 =>
oV (gV t26_22 true (vLoad ty3 t28_23 H_4) (some undef)) fun t29_24 =>
oV (gV t26_22 true (vField 1 (ptrTo i_1)) (some undef)) fun t30_25 =>
oV (gV t26_22 true (vLoad ty3 t30_25 H_4) (some undef)) fun t31_26 =>
oV (gV t26_22 true (vInt .leq t29_24 t31_26) (some undef)) fun t32_27 =>
oV (vPick t26_22 t32_27 (.bool false)) fun t33_28 =>
oV (gV t33_28 true (vField 2 (ptrTo i_3)) (some undef)) fun t35_29 =>
oV (gV t33_28 true (vLoad ty3 t35_29 H_4) (some undef)) fun t36_30 =>
oV (gV t33_28 true (vInt .geq t36_30 (.int .i64 0)) (some undef)) fun t37_31 =>
oV (vPick t33_28 t37_31 (.bool false)) fun t38_32 =>
oV (gV t38_32 true (vField 2 (ptrTo i_3)) (some undef)) fun t40_33 =>
oV (gV t38_32 true (vLoad ty3 t40_33 H_4) (some undef)) fun t41_34 =>
oV (gV t38_32 true (vField 1 (ptrTo i_1)) (some undef)) fun t42_35 =>
oV (gV t38_32 true (vLoad ty3 t42_35 H_4) (some undef)) fun t43_36 =>
oV (gV t38_32 true (vInt .leq t41_34 t43_36) (some undef)) fun t44_37 =>
oV (vPick t38_32 t44_37 (.bool false)) fun t45_38 =>
oV (gV t45_38 true (vField 4 (ptrTo i_3)) (some undef)) fun t47_39 =>
oV (gV t45_38 true (vLoad ty3 t47_39 H_4) (some undef)) fun t48_40 =>
oV (gV t45_38 true (vInt .geq t48_40 (.int .i64 1)) (some undef)) fun t49_41 =>
oV (vPick t45_38 t49_41 (.bool false)) fun t50_42 =>
oV (gV t50_42 true (vField 4 (ptrTo i_3)) (some undef)) fun t52_43 =>
oV (gV t50_42 true (vLoad ty3 t52_43 H_4) (some undef)) fun t53_44 =>
oV (gV t50_42 true (vInt .leq t53_44 (.int .i64 4)) (some undef)) fun t54_45 =>
oV (vPick t50_42 t54_45 (.bool false)) fun t55_46 =>
oV (gV t55_46 true (vField 6 (ptrTo i_3)) (some undef)) fun t57_47 =>
oV (gV t55_46 true (vLoad ty3 t57_47 H_4) (some undef)) fun t58_48 =>
oV (gV t55_46 true (some (.int .i64 1)) (some undef)) fun t59_49 =>
oV (gV t55_46 true (vInt .geq t58_48 t59_49) (some undef)) fun t60_50 =>
oV (vPick t55_46 t60_50 (.bool false)) fun t61_51 =>
oV (gV t61_51 true (vField 6 (ptrTo i_3)) (some undef)) fun t63_52 =>
oV (gV t61_51 true (vLoad ty3 t63_52 H_4) (some undef)) fun t64_53 =>
oV (gV t61_51 true (vField 1 (ptrTo i_1)) (some undef)) fun t65_54 =>
oV (gV t61_51 true (vLoad ty3 t65_54 H_4) (some undef)) fun t66_55 =>
oV (gV t61_51 true (vInt .leq t64_53 t66_55) (some undef)) fun t67_56 =>
oV (vPick t61_51 t67_56 (.bool false)) fun t68_57 =>
Q (.returned t68_57) H_4) (
oV (vField 0 (ptrTo i_3)) fun t9_58 =>
oV (vLoad ty3 t9_58 H_4) fun t10_59 =>
oV (vInt .geq t10_59 (.int .i64 0)) fun t11_60 =>
oV (gV t11_60 true (vField 3 (ptrTo i_3)) (some undef)) fun t13_61 =>
oV (gV t11_60 true (vLoad ty3 t13_61 H_4) (some undef)) fun t14_62 =>
oV (gV t11_60 true (vInt .geq t14_62 (.int .i64 0)) (some undef)) fun t15_63 =>
oV (vPick t11_60 t15_63 (.bool false)) fun t16_64 =>
oV (gV t16_64 true (vField 7 (ptrTo i_3)) (some undef)) fun t18_65 =>
oV (gV t16_64 true (vLoad ty3 t18_65 H_4) (some undef)) fun t19_66 =>
oV (gV t16_64 true (vInt .geq t19_66 (.int .i64 0)) (some undef)) fun t20_67 =>
oV (vPick t16_64 t20_67 (.bool false)) fun t21_68 =>
oV (gV t21_68 true (vField 1 (ptrTo i_3)) (some undef)) fun t23_69 =>
oV (gV t21_68 true (vLoad ty3 t23_69 H_4) (some undef)) fun t24_70 =>
oV (gV t21_68 true (vInt .geq t24_70 (.int .i64 1)) (some undef)) fun t25_71 =>
oV (vPick t21_68 t25_71 (.bool false)) fun t26_72 =>
oV (gV t26_72 true (vField 1 (ptrTo i_3)) (some undef)) fun t28_73 =>
oV (gV t26_72 true (vLoad ty3 t28_73 H_4) (some undef)) fun t29_74 =>
oV (gV t26_72 true (vField 1 (ptrTo i_1)) (some undef)) fun t30_75 =>
oV (gV t26_72 true (vLoad ty3 t30_75 H_4) (some undef)) fun t31_76 =>
oV (gV t26_72 true (vInt .leq t29_74 t31_76) (some undef)) fun t32_77 =>
oV (vPick t26_72 t32_77 (.bool false)) fun t33_78 =>
oV (gV t33_78 true (vField 2 (ptrTo i_3)) (some undef)) fun t35_79 =>
oV (gV t33_78 true (vLoad ty3 t35_79 H_4) (some undef)) fun t36_80 =>
oV (gV t33_78 true (vInt .geq t36_80 (.int .i64 0)) (some undef)) fun t37_81 =>
oV (vPick t33_78 t37_81 (.bool false)) fun t38_82 =>
oV (gV t38_82 true (vField 2 (ptrTo i_3)) (some undef)) fun t40_83 =>
oV (gV t38_82 true (vLoad ty3 t40_83 H_4) (some undef)) fun t41_84 =>
oV (gV t38_82 true (vField 1 (ptrTo i_1)) (some undef)) fun t42_85 =>
oV (gV t38_82 true (vLoad ty3 t42_85 H_4) (some undef)) fun t43_86 =>
oV (gV t38_82 true (vInt .leq t41_84 t43_86) (some undef)) fun t44_87 =>
oV (vPick t38_82 t44_87 (.bool false)) fun t45_88 =>
oV (gV t45_88 true (vField 4 (ptrTo i_3)) (some undef)) fun t47_89 =>
oV (gV t45_88 true (vLoad ty3 t47_89 H_4) (some undef)) fun t48_90 =>
oV (gV t45_88 true (vInt .geq t48_90 (.int .i64 1)) (some undef)) fun t49_91 =>
oV (vPick t45_88 t49_91 (.bool false)) fun t50_92 =>
oV (gV t50_92 true (vField 4 (ptrTo i_3)) (some undef)) fun t52_93 =>
oV (gV t50_92 true (vLoad ty3 t52_93 H_4) (some undef)) fun t53_94 =>
oV (gV t50_92 true (vInt .leq t53_94 (.int .i64 4)) (some undef)) fun t54_95 =>
oV (vPick t50_92 t54_95 (.bool false)) fun t55_96 =>
oV (gV t55_96 true (vField 6 (ptrTo i_3)) (some undef)) fun t57_97 =>
oV (gV t55_96 true (vLoad ty3 t57_97 H_4) (some undef)) fun t58_98 =>
oV (gV t55_96 true (some (.int .i64 0)) (some undef)) fun t59_99 =>
oV (gV t55_96 true (vInt .geq t58_98 t59_99) (some undef)) fun t60_100 =>
oV (vPick t55_96 t60_100 (.bool false)) fun t61_101 =>
oV (gV t61_101 true (vField 6 (ptrTo i_3)) (some undef)) fun t63_102 =>
oV (gV t61_101 true (vLoad ty3 t63_102 H_4) (some undef)) fun t64_103 =>
oV (gV t61_101 true (vField 1 (ptrTo i_1)) (some undef)) fun t65_104 =>
oV (gV t61_101 true (vLoad ty3 t65_104 H_4) (some undef)) fun t66_105 =>
oV (gV t61_101 true (vInt .leq t64_103 t66_105) (some undef)) fun t67_106 =>
oV (vPick t61_101 t67_106 (.bool false)) fun t68_107 =>
Q (.returned t68_107) H_4)
theorem c85_0 (env : Env) (H : Heap) (Q : Ending → Heap → Prop) (h : m85 (env 0) (env 1) H Q) :
    RCode Tryd.prog 69 (bodyOf Tryd.f85) env H (mkK (retK T Tryd.f85.results.toList Q) (fun _ _ _ => False) (retK T Tryd.f85.results.toList Q) (fun c H => Q (.panicked c) H)) :=
  RCode.leaf_ (T := T) (X := ext) (hint := hint85) tok xok mixed (by kernel_rfl) h
theorem call85 (a0 a1 : Value) (H : Heap) (Q : Ending → Heap → Prop) (h : m85 a0 a1 H Q) : RCalls Tryd.prog 85 [a0, a1] H Q :=
  RCalls.intro (nt := 69) tok Tryd.func85 (by kernel_rfl) (by kernel_rfl) (by kernel_rfl) (of_decide_eq_true (by kernel_rfl)) (c85_0 (envOf [a0, a1]) H Q h)
/-! ### 84: privity/params.ValidScenario$1 -/
def hint84 : Nat → List Nat := lookupL []
def m84 (x0 x1 : Value) (H : Heap) (Q : Ending → Heap → Prop) : Prop :=
oNew (Value.cells x0).toList (Value.cells x0).toList.length 109 H fun i_1 H_2 =>
oV (vField 0 x1) fun t4_3 =>
oV (vLoad ty24 t4_3 H_2) fun t5_4 =>
oV (vLoad ty109 (ptrTo i_1) H_2) fun t6_5 =>
oRC Tryd.prog 85 [t5_4, t6_5] H_2 (fun c H => Q (.panicked c) H) fun v_6 H_7 =>
oV (vUn .not v_6) fun t8_8 =>
Q (.returned t8_8) H_7
theorem c84_0 (env : Env) (H : Heap) (Q : Ending → Heap → Prop) (h : m84 (env 0) (env 1) H Q) :
    RCode Tryd.prog 9 (bodyOf Tryd.f84) env H (mkK (retK T Tryd.f84.results.toList Q) (fun _ _ _ => False) (retK T Tryd.f84.results.toList Q) (fun c H => Q (.panicked c) H)) :=
  RCode.leaf_ (T := T) (X := ext) (hint := hint84) tok xok mixed (by kernel_rfl) h
theorem call84 (a0 a1 : Value) (H : Heap) (Q : Ending → Heap → Prop) (h : m84 a0 a1 H Q) : RCalls Tryd.prog 84 [a0, a1] H Q :=
  RCalls.intro (nt := 9) tok Tryd.func84 (by kernel_rfl) (by kernel_rfl) (by kernel_rfl) (of_decide_eq_true (by kernel_rfl)) (c84_0 (envOf [a0, a1]) H Q h)
/-! ### 113: slices.IndexFunc[[]privity/api.Deviation,privity/api.Deviation] -/
def hint113 : Nat → List Nat := lookupL []
def m113_1 (H : Heap) (Q : Ending → Heap → Prop) : Prop :=
Q (.returned (.int .i64 (-1))) H
theorem c113_1 (env : Env) (H : Heap) (Q : Ending → Heap → Prop) (h : m113_1 H Q) :
    RCode Tryd.prog 19 (codeAt [1, 1] (bodyOf Tryd.f113)) env H (mkK (retK T Tryd.f113.results.toList Q) (fun _ _ _ => False) (retK T Tryd.f113.results.toList Q) (fun c H => Q (.panicked c) H)) :=
  RCode.leaf_ (T := T) (X := ext) (hint := hint113) tok xok mixed (by kernel_rfl) h
def L113_3 (x0 x1 x7 x8 : Value) (H : Heap) (kn : Heap → Prop) (Q : Ending → Heap → Prop) : Prop :=
  ∀ env : Env, env 0 = x0 → env 1 = x1 → env 7 = x7 → env 8 = x8 → RLoop Tryd.prog 19 (codeAt [1, 0, 1, 0, 0] (bodyOf Tryd.f113)) env H (mkK (fun _ _ => False) (inK 0 (fun e H => kn H) (fun _ _ _ => False)) (retK T Tryd.f113.results.toList Q) (fun c H => Q (.panicked c) H))
theorem cL113_3 (env : Env) (H : Heap) (kn : Heap → Prop) (Q : Ending → Heap → Prop) (h : L113_3 (env 0) (env 1) (env 7) (env 8) H kn Q) :
    RCode Tryd.prog 19 (codeAt [1, 0, 1] (bodyOf Tryd.f113)) env H (mkK (fun e H => kn H) (fun _ _ _ => False) (retK T Tryd.f113.results.toList Q) (fun c H => Q (.panicked c) H)) :=
  RCode.blk (by kernel_rfl : (codeAt [1, 0, 1] (bodyOf Tryd.f113)) = .block 0 (codeAt [1, 0, 1, 0] (bodyOf Tryd.f113))) (RCode.lp (by kernel_rfl : (codeAt [1, 0, 1, 0] (bodyOf Tryd.f113)) = .loop (codeAt [1, 0, 1, 0, 0] (bodyOf Tryd.f113))) ((h env rfl rfl rfl rfl).mono (mkK_mono (fun _ _ h => h.elim) (fun _ _ _ h => h) (fun _ _ h => h) (fun _ _ h => h))))
def m113_4 (x0 x1 x7 x8 : Value) (H : Heap) (kn : Value → Value → Value → Value → Heap → Prop) (kx0 : Heap → Prop) (Q : Ending → Heap → Prop) : Prop :=
oV (vInt .lss x8 x7) fun t9_1 =>
condK t9_1 (
oV (vIdxS 8 x0 x8) fun t14_2 =>
oV (vLoad ty109 t14_2 H) fun t15_3 =>
oCl ext Tryd.prog x1 [t15_3] H (fun c H => Q (.panicked c) H) fun v_4 H_5 =>
condK v_4 (
Q (.returned x8) H_5) (
oV (vInt .add x8 (.int .i64 1)) fun t18_6 =>
kn x0 x1 x7 t18_6 H_5)) (
kx0 H)
theorem c113_4 (env : Env) (H : Heap) (kn : Value → Value → Value → Value → Heap → Prop) (kx0 : Heap → Prop) (Q : Ending → Heap → Prop) (h : m113_4 (env 0) (env 1) (env 7) (env 8) H kn kx0 Q) :
    RCode Tryd.prog 19 (codeAt [1, 0, 1, 0, 0] (bodyOf Tryd.f113)) env H (mkK (fun e H => kn (e 0) (e 1) (e 7) (e 8) H) (inK 0 (fun e H => kx0 H) (fun _ _ _ => False)) (retK T Tryd.f113.results.toList Q) (fun c H => Q (.panicked c) H)) :=
  RCode.leaf_ (T := T) (X := ext) (hint := hint113) tok xok mixed (by kernel_rfl) h
theorem L113_3_round (x0 x1 x7 x8 : Value) (H : Heap) (kn : Heap → Prop) (Q : Ending → Heap → Prop) (h : m113_4 x0 x1 x7 x8 H (fun y0 y1 y7 y8 H => L113_3 y0 y1 y7 y8 H kn Q) kn Q) : L113_3 x0 x1 x7 x8 H kn Q := by
  intro env h0 h1 h7 h8
  subst h0; subst h1; subst h7; subst h8
  exact RLoop.round ((c113_4 env H (fun y0 y1 y7 y8 H => L113_3 y0 y1 y7 y8 H kn Q) kn Q h).mono (mkK_mono (fun e H h => h e rfl rfl rfl rfl) (fun _ _ _ h => h) (fun _ _ h => h) (fun _ _ h => h)))
def m113_2 (x0 x1 : Value) (H : Heap) (kn : Heap → Prop) (Q : Ending → Heap → Prop) : Prop :=
oV (vLen x0) fun t7_7 =>
L113_3 x0 x1 t7_7 (.int .i64 0) H kn Q
theorem c113_2 (env : Env) (H : Heap) (kn : Heap → Prop) (Q : Ending → Heap → Prop) (h : m113_2 (env 0) (env 1) H kn Q) :
    RCode Tryd.prog 19 (codeAt [1, 0] (bodyOf Tryd.f113)) env H (mkK (fun e H => kn H) (fun _ _ _ => False) (retK T Tryd.f113.results.toList Q) (fun c H => Q (.panicked c) H)) :=
  RCode.prefix_ (T := T) (X := ext) (hint := hint113) (hole := (fun e H => L113_3 (e 0) (e 1) (e 7) (e 8) H kn Q)) tok xok mixed 1 (by kernel_rfl) (by kernel_rfl : codeAt _ _ = (codeAt [1, 0, 1] (bodyOf Tryd.f113))) h
    (fun e H h => (cL113_3 e H kn Q h))
def m113 (x0 x1 : Value) (H : Heap) (Q : Ending → Heap → Prop) : Prop :=
m113_2 x0 x1 H (fun H_8 => m113_1 H_8 Q) Q
theorem c113_0 (env : Env) (H : Heap) (Q : Ending → Heap → Prop) (h : m113 (env 0) (env 1) H Q) :
    RCode Tryd.prog 19 (bodyOf Tryd.f113) env H (mkK (retK T Tryd.f113.results.toList Q) (fun _ _ _ => False) (retK T Tryd.f113.results.toList Q) (fun c H => Q (.panicked c) H)) :=
  RCode.prefix_ (T := T) (X := ext) (hint := hint113) (hole := (fun e H => m113_2 (e 0) (e 1) H (fun H_9 => m113_1 H_9 Q) Q)) tok xok mixed 1 (by kernel_rfl) (by kernel_rfl : codeAt _ _ = (codeAt [1] (bodyOf Tryd.f113))) h
    (fun e H h => RCode.join (by kernel_rfl : (codeAt [1] (bodyOf Tryd.f113)) = .seq (codeAt [1, 0] (bodyOf Tryd.f113)) (codeAt [1, 1] (bodyOf Tryd.f113))) ((c113_2 e H (fun H_10 => m113_1 H_10 Q) Q h).mono (mkK_mono (fun e H h => c113_1 e H Q h) (fun _ _ _ h => h) (fun _ _ h => h) (fun _ _ h => h))))
theorem call113 (a0 a1 : Value) (H : Heap) (Q : Ending → Heap → Prop) (h : m113 a0 a1 H Q) : RCalls Tryd.prog 113 [a0, a1] H Q :=
  RCalls.intro (nt := 19) tok Tryd.func113 (by kernel_rfl) (by kernel_rfl) (by kernel_rfl) (of_decide_eq_true (by kernel_rfl)) (c113_0 (envOf [a0, a1]) H Q h)
/-! ### 83: slices.ContainsFunc[[]privity/api.Deviation,privity/api.Deviation] -/
def hint83 : Nat → List Nat := lookupL []
def m83 (x0 x1 : Value) (H : Heap) (Q : Ending → Heap → Prop) : Prop :=
oRC Tryd.prog 113 [x0, x1] H (fun c H => Q (.panicked c) H) fun v_1 H_2 =>
oV (vInt .geq v_1 (.int .i64 0)) fun t8_3 =>
Q (.returned t8_3) H_2
theorem c83_0 (env : Env) (H : Heap) (Q : Ending → Heap → Prop) (h : m83 (env 0) (env 1) H Q) :
    RCode Tryd.prog 9 (bodyOf Tryd.f83) env H (mkK (retK T Tryd.f83.results.toList Q) (fun _ _ _ => False) (retK T Tryd.f83.results.toList Q) (fun c H => Q (.panicked c) H)) :=
  RCode.leaf_ (T := T) (X := ext) (hint := hint83) tok xok mixed (by kernel_rfl) h
theorem call83 (a0 a1 : Value) (H : Heap) (Q : Ending → Heap → Prop) (h : m83 a0 a1 H Q) : RCalls Tryd.prog 83 [a0, a1] H Q :=
  RCalls.intro (nt := 9) tok Tryd.func83 (by kernel_rfl) (by kernel_rfl) (by kernel_rfl) (of_decide_eq_true (by kernel_rfl)) (c83_0 (envOf [a0, a1]) H Q h)
/-! ### 89: privity/params.ValidScenario$2$1 -/
def hint89 : Nat → List Nat := lookupL []
def m89 (x0 x1 : Value) (H : Heap) (Q : Ending → Heap → Prop) : Prop :=
oV (vField 0 x1) fun t5_1 =>
oV (vField 0 t5_1) fun t6_2 =>
oV (vLoad ty22 t6_2 H) fun t7_3 =>
oV (vInt .geq x0 t7_3) fun t8_4 =>
Q (.returned t8_4) H
theorem c89_0 (env : Env) (H : Heap) (Q : Ending → Heap → Prop) (h : m89 (env 0) (env 1) H Q) :
    RCode Tryd.prog 9 (bodyOf Tryd.f89) env H (mkK (retK T Tryd.f89.results.toList Q) (fun _ _ _ => False) (retK T Tryd.f89.results.toList Q) (fun c H => Q (.panicked c) H)) :=
  RCode.leaf_ (T := T) (X := ext) (hint := hint89) tok xok mixed (by kernel_rfl) h
theorem call89 (a0 a1 : Value) (H : Heap) (Q : Ending → Heap → Prop) (h : m89 a0 a1 H Q) : RCalls Tryd.prog 89 [a0, a1] H Q :=
  RCalls.intro (nt := 9) tok Tryd.func89 (by kernel_rfl) (by kernel_rfl) (by kernel_rfl) (of_decide_eq_true (by kernel_rfl)) (c89_0 (envOf [a0, a1]) H Q h)
/-! ### 115: slices.IndexFunc[[]uint64,uint64] -/
def hint115 : Nat → List Nat := lookupL []
def m115_1 (H : Heap) (Q : Ending → Heap → Prop) : Prop :=
Q (.returned (.int .i64 (-1))) H
theorem c115_1 (env : Env) (H : Heap) (Q : Ending → Heap → Prop) (h : m115_1 H Q) :
    RCode Tryd.prog 19 (codeAt [1, 1] (bodyOf Tryd.f115)) env H (mkK (retK T Tryd.f115.results.toList Q) (fun _ _ _ => False) (retK T Tryd.f115.results.toList Q) (fun c H => Q (.panicked c) H)) :=
  RCode.leaf_ (T := T) (X := ext) (hint := hint115) tok xok mixed (by kernel_rfl) h
def L115_3 (x0 x1 x7 x8 : Value) (H : Heap) (kn : Heap → Prop) (Q : Ending → Heap → Prop) : Prop :=
  ∀ env : Env, env 0 = x0 → env 1 = x1 → env 7 = x7 → env 8 = x8 → RLoop Tryd.prog 19 (codeAt [1, 0, 1, 0, 0] (bodyOf Tryd.f115)) env H (mkK (fun _ _ => False) (inK 0 (fun e H => kn H) (fun _ _ _ => False)) (retK T Tryd.f115.results.toList Q) (fun c H => Q (.panicked c) H))
theorem cL115_3 (env : Env) (H : Heap) (kn : Heap → Prop) (Q : Ending → Heap → Prop) (h : L115_3 (env 0) (env 1) (env 7) (env 8) H kn Q) :
    RCode Tryd.prog 19 (codeAt [1, 0, 1] (bodyOf Tryd.f115)) env H (mkK (fun e H => kn H) (fun _ _ _ => False) (retK T Tryd.f115.results.toList Q) (fun c H => Q (.panicked c) H)) :=
  RCode.blk (by kernel_rfl : (codeAt [1, 0, 1] (bodyOf Tryd.f115)) = .block 0 (codeAt [1, 0, 1, 0] (bodyOf Tryd.f115))) (RCode.lp (by kernel_rfl : (codeAt [1, 0, 1, 0] (bodyOf Tryd.f115)) = .loop (codeAt [1, 0, 1, 0, 0] (bodyOf Tryd.f115))) ((h env rfl rfl rfl rfl).mono (mkK_mono (fun _ _ h => h.elim) (fun _ _ _ h => h) (fun _ _ h => h) (fun _ _ h => h))))
def m115_4 (x0 x1 x7 x8 : Value) (H : Heap) (kn : Value → Value → Value → Value → Heap → Prop) (kx0 : Heap → Prop) (Q : Ending → Heap → Prop) : Prop :=
oV (vInt .lss x8 x7) fun t9_1 =>
condK t9_1 (
oV (vIdxS 1 x0 x8) fun t14_2 =>
oV (vLoad ty22 t14_2 H) fun t15_3 =>
oCl ext Tryd.prog x1 [t15_3] H (fun c H => Q (.panicked c) H) fun v_4 H_5 =>
condK v_4 (
Q (.returned x8) H_5) (
oV (vInt .add x8 (.int .i64 1)) fun t18_6 =>
kn x0 x1 x7 t18_6 H_5)) (
kx0 H)
theorem c115_4 (env : Env) (H : Heap) (kn : Value → Value → Value → Value → Heap → Prop) (kx0 : Heap → Prop) (Q : Ending → Heap → Prop) (h : m115_4 (env 0) (env 1) (env 7) (env 8) H kn kx0 Q) :
    RCode Tryd.prog 19 (codeAt [1, 0, 1, 0, 0] (bodyOf Tryd.f115)) env H (mkK (fun e H => kn (e 0) (e 1) (e 7) (e 8) H) (inK 0 (fun e H => kx0 H) (fun _ _ _ => False)) (retK T Tryd.f115.results.toList Q) (fun c H => Q (.panicked c) H)) :=
  RCode.leaf_ (T := T) (X := ext) (hint := hint115) tok xok mixed (by kernel_rfl) h
theorem L115_3_round (x0 x1 x7 x8 : Value) (H : Heap) (kn : Heap → Prop) (Q : Ending → Heap → Prop) (h : m115_4 x0 x1 x7 x8 H (fun y0 y1 y7 y8 H => L115_3 y0 y1 y7 y8 H kn Q) kn Q) : L115_3 x0 x1 x7 x8 H kn Q := by
  intro env h0 h1 h7 h8
  subst h0; subst h1; subst h7; subst h8
  exact RLoop.round ((c115_4 env H (fun y0 y1 y7 y8 H => L115_3 y0 y1 y7 y8 H kn Q) kn Q h).mono (mkK_mono (fun e H h => h e rfl rfl rfl rfl) (fun _ _ _ h => h) (fun _ _ h => h) (fun _ _ h => h)))
def m115_2 (x0 x1 : Value) (H : Heap) (kn : Heap → Prop) (Q : Ending → Heap → Prop) : Prop :=
oV (vLen x0) fun t7_7 =>
L115_3 x0 x1 t7_7 (.int .i64 0) H kn Q
theorem c115_2 (env : Env) (H : Heap) (kn : Heap → Prop) (Q : Ending → Heap → Prop) (h : m115_2 (env 0) (env 1) H kn Q) :
    RCode Tryd.prog 19 (codeAt [1, 0] (bodyOf Tryd.f115)) env H (mkK (fun e H => kn H) (fun _ _ _ => False) (retK T Tryd.f115.results.toList Q) (fun c H => Q (.panicked c) H)) :=
  RCode.prefix_ (T := T) (X := ext) (hint := hint115) (hole := (fun e H => L115_3 (e 0) (e 1) (e 7) (e 8) H kn Q)) tok xok mixed 1 (by kernel_rfl) (by kernel_rfl : codeAt _ _ = (codeAt [1, 0, 1] (bodyOf Tryd.f115))) h
    (fun e H h => (cL115_3 e H kn Q h))
def m115 (x0 x1 : Value) (H : Heap) (Q : Ending → Heap → Prop) : Prop :=
m115_2 x0 x1 H (fun H_8 => m115_1 H_8 Q) Q
theorem c115_0 (env : Env) (H : Heap) (Q : Ending → Heap → Prop) (h : m115 (env 0) (env 1) H Q) :
    RCode Tryd.prog 19 (bodyOf Tryd.f115) env H (mkK (retK T Tryd.f115.results.toList Q) (fun _ _ _ => False) (retK T Tryd.f115.results.toList Q) (fun c H => Q (.panicked c) H)) :=
  RCode.prefix_ (T := T) (X := ext) (hint := hint115) (hole := (fun e H => m115_2 (e 0) (e 1) H (fun H_9 => m115_1 H_9 Q) Q)) tok xok mixed 1 (by kernel_rfl) (by kernel_rfl : codeAt _ _ = (codeAt [1] (bodyOf Tryd.f115))) h
    (fun e H h => RCode.join (by kernel_rfl : (codeAt [1] (bodyOf Tryd.f115)) = .seq (codeAt [1, 0] (bodyOf Tryd.f115)) (codeAt [1, 1] (bodyOf Tryd.f115))) ((c115_2 e H (fun H_10 => m115_1 H_10 Q) Q h).mono (mkK_mono (fun e H h => c115_1 e H Q h) (fun _ _ _ h => h) (fun _ _ h => h) (fun _ _ h => h))))
theorem call115 (a0 a1 : Value) (H : Heap) (Q : Ending → Heap → Prop) (h : m115 a0 a1 H Q) : RCalls Tryd.prog 115 [a0, a1] H Q :=
  RCalls.intro (nt := 19) tok Tryd.func115 (by kernel_rfl) (by kernel_rfl) (by kernel_rfl) (of_decide_eq_true (by kernel_rfl)) (c115_0 (envOf [a0, a1]) H Q h)
/-! ### 88: slices.ContainsFunc[[]uint64,uint64] -/
def hint88 : Nat → List Nat := lookupL []
def m88 (x0 x1 : Value) (H : Heap) (Q : Ending → Heap → Prop) : Prop :=
oRC Tryd.prog 115 [x0, x1] H (fun c H => Q (.panicked c) H) fun v_1 H_2 =>
oV (vInt .geq v_1 (.int .i64 0)) fun t8_3 =>
Q (.returned t8_3) H_2
theorem c88_0 (env : Env) (H : Heap) (Q : Ending → Heap → Prop) (h : m88 (env 0) (env 1) H Q) :
    RCode Tryd.prog 9 (bodyOf Tryd.f88) env H (mkK (retK T Tryd.f88.results.toList Q) (fun _ _ _ => False) (retK T Tryd.f88.results.toList Q) (fun c H => Q (.panicked c) H)) :=
  RCode.leaf_ (T := T) (X := ext) (hint := hint88) tok xok mixed (by kernel_rfl) h
theorem call88 (a0 a1 : Value) (H : Heap) (Q : Ending → Heap → Prop) (h : m88 a0 a1 H Q) : RCalls Tryd.prog 88 [a0, a1] H Q :=
  RCalls.intro (nt := 9) tok Tryd.func88 (by kernel_rfl) (by kernel_rfl) (by kernel_rfl) (of_decide_eq_true (by kernel_rfl)) (c88_0 (envOf [a0, a1]) H Q h)
/-! ### 87: privity/params.ValidScenario$2 -/
def hint87 : Nat → List Nat := lookupL []
def m87 (x0 x1 : Value) (H : Heap) (Q : Ending → Heap → Prop) : Prop :=
oRC Tryd.prog 88 [x0, (.func (.func 89) #[] #[x1])] H (fun c H => Q (.panicked c) H) fun v_1 H_2 =>
Q (.returned v_1) H_2
theorem c87_0 (env : Env) (H : Heap) (Q : Ending → Heap → Prop) (h : m87 (env 0) (env 1) H Q) :
    RCode Tryd.prog 7 (bodyOf Tryd.f87) env H (mkK (retK T Tryd.f87.results.toList Q) (fun _ _ _ => False) (retK T Tryd.f87.results.toList Q) (fun c H => Q (.panicked c) H)) :=
  RCode.leaf_ (T := T) (X := ext) (hint := hint87) tok xok mixed (by kernel_rfl) h
theorem call87 (a0 a1 : Value) (H : Heap) (Q : Ending → Heap → Prop) (h : m87 a0 a1 H Q) : RCalls Tryd.prog 87 [a0, a1] H Q :=
  RCalls.intro (nt := 7) tok Tryd.func87 (by kernel_rfl) (by kernel_rfl) (by kernel_rfl) (of_decide_eq_true (by kernel_rfl)) (c87_0 (envOf [a0, a1]) H Q h)
/-! ### 114: slices.IndexFunc[[][]uint64,[]uint64] -/
def hint114 : Nat → List Nat := lookupL []
def m114_1 (H : Heap) (Q : Ending → Heap → Prop) : Prop :=
Q (.returned (.int .i64 (-1))) H
theorem c114_1 (env : Env) (H : Heap) (Q : Ending → Heap → Prop) (h : m114_1 H Q) :
    RCode Tryd.prog 19 (codeAt [1, 1] (bodyOf Tryd.f114)) env H (mkK (retK T Tryd.f114.results.toList Q) (fun _ _ _ => False) (retK T Tryd.f114.results.toList Q) (fun c H => Q (.panicked c) H)) :=
  RCode.leaf_ (T := T) (X := ext) (hint := hint114) tok xok mixed (by kernel_rfl) h
def L114_3 (x0 x1 x7 x8 : Value) (H : Heap) (kn : Heap → Prop) (Q : Ending → Heap → Prop) : Prop :=
  ∀ env : Env, env 0 = x0 → env 1 = x1 → env 7 = x7 → env 8 = x8 → RLoop Tryd.prog 19 (codeAt [1, 0, 1, 0, 0] (bodyOf Tryd.f114)) env H (mkK (fun _ _ => False) (inK 0 (fun e H => kn H) (fun _ _ _ => False)) (retK T Tryd.f114.results.toList Q) (fun c H => Q (.panicked c) H))
theorem cL114_3 (env : Env) (H : Heap) (kn : Heap → Prop) (Q : Ending → Heap → Prop) (h : L114_3 (env 0) (env 1) (env 7) (env 8) H kn Q) :
    RCode Tryd.prog 19 (codeAt [1, 0, 1] (bodyOf Tryd.f114)) env H (mkK (fun e H => kn H) (fun _ _ _ => False) (retK T Tryd.f114.results.toList Q) (fun c H => Q (.panicked c) H)) :=
  RCode.blk (by kernel_rfl : (codeAt [1, 0, 1] (bodyOf Tryd.f114)) = .block 0 (codeAt [1, 0, 1, 0] (bodyOf Tryd.f114))) (RCode.lp (by kernel_rfl : (codeAt [1, 0, 1, 0] (bodyOf Tryd.f114)) = .loop (codeAt [1, 0, 1, 0, 0] (bodyOf Tryd.f114))) ((h env rfl rfl rfl rfl).mono (mkK_mono (fun _ _ h => h.elim) (fun _ _ _ h => h) (fun _ _ h => h) (fun _ _ h => h))))
def m114_4 (x0 x1 x7 x8 : Value) (H : Heap) (kn : Value → Value → Value → Value → Heap → Prop) (kx0 : Heap → Prop) (Q : Ending → Heap → Prop) : Prop :=
oV (vInt .lss x8 x7) fun t9_1 =>
condK t9_1 (
oV (vIdxS 1 x0 x8) fun t14_2 =>
oV (vLoad ty52 t14_2 H) fun t15_3 =>
oCl ext Tryd.prog x1 [t15_3] H (fun c H => Q (.panicked c) H) fun v_4 H_5 =>
condK v_4 (
Q (.returned x8) H_5) (
oV (vInt .add x8 (.int .i64 1)) fun t18_6 =>
kn x0 x1 x7 t18_6 H_5)) (
kx0 H)
theorem c114_4 (env : Env) (H : Heap) (kn : Value → Value → Value → Value → Heap → Prop) (kx0 : Heap → Prop) (Q : Ending → Heap → Prop) (h : m114_4 (env 0) (env 1) (env 7) (env 8) H kn kx0 Q) :
    RCode Tryd.prog 19 (codeAt [1, 0, 1, 0, 0] (bodyOf Tryd.f114)) env H (mkK (fun e H => kn (e 0) (e 1) (e 7) (e 8) H) (inK 0 (fun e H => kx0 H) (fun _ _ _ => False)) (retK T Tryd.f114.results.toList Q) (fun c H => Q (.panicked c) H)) :=
  RCode.leaf_ (T := T) (X := ext) (hint := hint114) tok xok mixed (by kernel_rfl) h
theorem L114_3_round (x0 x1 x7 x8 : Value) (H : Heap) (kn : Heap → Prop) (Q : Ending → Heap → Prop) (h : m114_4 x0 x1 x7 x8 H (fun y0 y1 y7 y8 H => L114_3 y0 y1 y7 y8 H kn Q) kn Q) : L114_3 x0 x1 x7 x8 H kn Q := by
  intro env h0 h1 h7 h8
  subst h0; subst h1; subst h7; subst h8
  exact RLoop.round ((c114_4 env H (fun y0 y1 y7 y8 H => L114_3 y0 y1 y7 y8 H kn Q) kn Q h).mono (mkK_mono (fun e H h => h e rfl rfl rfl rfl) (fun _ _ _ h => h) (fun _ _ h => h) (fun _ _ h => h)))
def m114_2 (x0 x1 : Value) (H : Heap) (kn : Heap → Prop) (Q : Ending → Heap → Prop) : Prop :=
oV (vLen x0) fun t7_7 =>
L114_3 x0 x1 t7_7 (.int .i64 0) H kn Q
theorem c114_2 (env : Env) (H : Heap) (kn : Heap → Prop) (Q : Ending → Heap → Prop) (h : m114_2 (env 0) (env 1) H kn Q) :
    RCode Tryd.prog 19 (codeAt [1, 0] (bodyOf Tryd.f114)) env H (mkK (fun e H => kn H) (fun _ _ _ => False) (retK T Tryd.f114.results.toList Q) (fun c H => Q (.panicked c) H)) :=
  RCode.prefix_ (T := T) (X := ext) (hint := hint114) (hole := (fun e H => L114_3 (e 0) (e 1) (e 7) (e 8) H kn Q)) tok xok mixed 1 (by kernel_rfl) (by kernel_rfl : codeAt _ _ = (codeAt [1, 0, 1] (bodyOf Tryd.f114))) h
    (fun e H h => (cL114_3 e H kn Q h))
def m114 (x0 x1 : Value) (H : Heap) (Q : Ending → Heap → Prop) : Prop :=
m114_2 x0 x1 H (fun H_8 => m114_1 H_8 Q) Q
theorem c114_0 (env : Env) (H : Heap) (Q : Ending → Heap → Prop) (h : m114 (env 0) (env 1) H Q) :
    RCode Tryd.prog 19 (bodyOf Tryd.f114) env H (mkK (retK T Tryd.f114.results.toList Q) (fun _ _ _ => False) (retK T Tryd.f114.results.toList Q) (fun c H => Q (.panicked c) H)) :=
  RCode.prefix_ (T := T) (X := ext) (hint := hint114) (hole := (fun e H => m114_2 (e 0) (e 1) H (fun H_9 => m114_1 H_9 Q) Q)) tok xok mixed 1 (by kernel_rfl) (by kernel_rfl : codeAt _ _ = (codeAt [1] (bodyOf Tryd.f114))) h
    (fun e H h => RCode.join (by kernel_rfl : (codeAt [1] (bodyOf Tryd.f114)) = .seq (codeAt [1, 0] (bodyOf Tryd.f114)) (codeAt [1, 1] (bodyOf Tryd.f114))) ((c114_2 e H (fun H_10 => m114_1 H_10 Q) Q h).mono (mkK_mono (fun e H h => c114_1 e H Q h) (fun _ _ _ h => h) (fun _ _ h => h) (fun _ _ h => h))))
theorem call114 (a0 a1 : Value) (H : Heap) (Q : Ending → Heap → Prop) (h : m114 a0 a1 H Q) : RCalls Tryd.prog 114 [a0, a1] H Q :=
  RCalls.intro (nt := 19) tok Tryd.func114 (by kernel_rfl) (by kernel_rfl) (by kernel_rfl) (of_decide_eq_true (by kernel_rfl)) (c114_0 (envOf [a0, a1]) H Q h)
/-! ### 86: slices.ContainsFunc[[][]uint64,[]uint64] -/
def hint86 : Nat → List Nat := lookupL []
def m86 (x0 x1 : Value) (H : Heap) (Q : Ending → Heap → Prop) : Prop :=
oRC Tryd.prog 114 [x0, x1] H (fun c H => Q (.panicked c) H) fun v_1 H_2 =>
oV (vInt .geq v_1 (.int .i64 0)) fun t8_3 =>
Q (.returned t8_3) H_2
theorem c86_0 (env : Env) (H : Heap) (Q : Ending → Heap → Prop) (h : m86 (env 0) (env 1) H Q) :
    RCode Tryd.prog 9 (bodyOf Tryd.f86) env H (mkK (retK T Tryd.f86.results.toList Q) (fun _ _ _ => False) (retK T Tryd.f86.results.toList Q) (fun c H => Q (.panicked c) H)) :=
  RCode.leaf_ (T := T) (X := ext) (hint := hint86) tok xok mixed (by kernel_rfl) h
theorem call86 (a0 a1 : Value) (H : Heap) (Q : Ending → Heap → Prop) (h : m86 a0 a1 H Q) : RCalls Tryd.prog 86 [a0, a1] H Q :=
  RCalls.intro (nt := 9) tok Tryd.func86 (by kernel_rfl) (by kernel_rfl) (by kernel_rfl) (of_decide_eq_true (by kernel_rfl)) (c86_0 (envOf [a0, a1]) H Q h)
/-! ### 52: privity/params.ValidScenario -/
def hint52 : Nat → List Nat := lookupL []
def m52 (x0 : Value) (H : Heap) (Q : Ending → Heap → Prop) : Prop :=
oNew (Value.cells x0).toList (Value.cells x0).toList.length 29 H fun i_1 H_2 =>
oV (vField 0 (ptrTo i_1)) fun t3_3 =>
oV (vLoad ty24 t3_3 H_2) fun t4_4 =>
oV (vField 3 (ptrTo i_1)) fun t5_5 =>
oV (vLoad ty25 t5_5 H_2) fun t6_6 =>
oRC Tryd.prog 82 [t4_4, t6_6] H_2 (fun c H => Q (.panicked c) H) fun v_7 H_8 =>
oV (vUn .not v_7) fun t8_9 =>
oV (gV t8_9 false (vField 5 (ptrTo i_1)) (some undef)) fun t10_10 =>
oV (gV t8_9 false (vLoad ty27 t10_10 H_8) (some undef)) fun t11_11 =>
oV (gV t8_9 false (vLen t11_11) (some undef)) fun t12_12 =>
oV (gV t8_9 false (vField 0 (ptrTo i_1)) (some undef)) fun t13_13 =>
oV (gV t8_9 false (vField 1 t13_13) (some undef)) fun t14_14 =>
oV (gV t8_9 false (vLoad ty3 t14_14 H_8) (some undef)) fun t15_15 =>
oV (gV t8_9 false (vInt .neq t12_12 t15_15) (some undef)) fun t16_16 =>
oV (vPick t8_9 (.bool true) t16_16) fun t17_17 =>
oV (gV t17_17 false (vField 4 (ptrTo i_1)) (some undef)) fun t19_18 =>
oV (gV t17_17 false (vLoad ty26 t19_18 H_8) (some undef)) fun t20_19 =>
oV (gV t17_17 false (some (.func (.func 84) #[] #[(ptrTo i_1)])) (some undef)) fun t21_20 =>
letK (fun t22_22 H_23 =>
oV (vPick t17_17 (.bool true) t22_22) fun t23_24 =>
condK t23_24 (
Q (.returned (.bool false)) H_23) (
oV (vField 5 (ptrTo i_1)) fun t24_25 =>
oV (vLoad ty27 t24_25 H_23) fun t25_26 =>
oRC Tryd.prog 86 [t25_26, (.func (.func 87) #[] #[(ptrTo i_1)])] H_23 (fun c H => Q (.panicked c) H) fun v_27 H_28 =>
oV (vUn .not v_27) fun t28_29 =>
Q (.returned t28_29) H_28)) fun k_21 => gK t17_17 false (oRC Tryd.prog 83 [t20_19, t21_20] H_8 (fun c H => Q (.panicked c) H) fun v_30 H_31 =>
k_21 v_30 H_31) (k_21 undef H_8)
theorem c52_0 (env : Env) (H : Heap) (Q : Ending → Heap → Prop) (h : m52 (env 0) H Q) :
    RCode Tryd.prog 29 (bodyOf Tryd.f52) env H (mkK (retK T Tryd.f52.results.toList Q) (fun _ _ _ => False) (retK T Tryd.f52.results.toList Q) (fun c H => Q (.panicked c) H)) :=
  RCode.leaf_ (T := T) (X := ext) (hint := hint52) tok xok mixed (by kernel_rfl) h
theorem call52 (a0 : Value) (H : Heap) (Q : Ending → Heap → Prop) (h : m52 a0 H Q) : RCalls Tryd.prog 52 [a0] H Q :=
  RCalls.intro (nt := 29) tok Tryd.func52 (by kernel_rfl) (by kernel_rfl) (by kernel_rfl) (of_decide_eq_true (by kernel_rfl)) (c52_0 (envOf [a0]) H Q h)
/-! ### 53: privity/tape.New -/
def hint53 : Nat → List Nat := lookupL []
def m53 (x0 : Value) (H : Heap) (Q : Ending → Heap → Prop) : Prop :=
oV (vBuild ty136 [((0, 1), x0)]) fun t4_1 =>
oNew (Value.cells t4_1).toList (Value.cells t4_1).toList.length 136 H fun i_2 H_3 =>
Q (.returned (ptrTo i_2)) H_3
theorem c53_0 (env : Env) (H : Heap) (Q : Ending → Heap → Prop) (h : m53 (env 0) H Q) :
    RCode Tryd.prog 6 (bodyOf Tryd.f53) env H (mkK (retK T Tryd.f53.results.toList Q) (fun _ _ _ => False) (retK T Tryd.f53.results.toList Q) (fun c H => Q (.panicked c) H)) :=
  RCode.leaf_ (T := T) (X := ext) (hint := hint53) tok xok mixed (by kernel_rfl) h
theorem call53 (a0 : Value) (H : Heap) (Q : Ending → Heap → Prop) (h : m53 a0 H Q) : RCalls Tryd.prog 53 [a0] H Q :=
  RCalls.intro (nt := 6) tok Tryd.func53 (by kernel_rfl) (by kernel_rfl) (by kernel_rfl) (of_decide_eq_true (by kernel_rfl)) (c53_0 (envOf [a0]) H Q h)
/-! ### 12: privity/network.New -/
def hint12 : Nat → List Nat := lookupL [(3, [0, 1, 2, 3, 4, 5, 6, 7]), (7, [0, 1, 2, 3, 4, 5, 6, 7, 8, 9, 10, 11])]
def m12_1 (x4 : Value) (H : Heap) (Q : Ending → Heap → Prop) : Prop :=
Q (.returned (.tuple #[x4, (.int .i64 0)])) H
theorem c12_1 (env : Env) (H : Heap) (Q : Ending → Heap → Prop) (h : m12_1 (env 4) H Q) :
    RCode Tryd.prog 37 (codeAt [1, 1, 1, 1] (bodyOf Tryd.f12)) env H (mkK (retK T Tryd.f12.results.toList Q) (fun _ _ _ => False) (retK T Tryd.f12.results.toList Q) (fun c H => Q (.panicked c) H)) :=
  RCode.leaf_ (T := T) (X := ext) (hint := hint12) tok xok mixed (by kernel_rfl) h
def L12_3 (x4 x18 x19 x20 : Value) (H : Heap) (kn : Value → Heap → Prop) (Q : Ending → Heap → Prop) : Prop :=
  ∀ env : Env, env 4 = x4 → env 18 = x18 → env 19 = x19 → env 20 = x20 → RLoop Tryd.prog 37 (codeAt [1, 1, 1, 0, 1, 0, 0] (bodyOf Tryd.f12)) env H (mkK (fun _ _ => False) (inK 0 (fun e H => kn (e 4) H) (fun _ _ _ => False)) (retK T Tryd.f12.results.toList Q) (fun c H => Q (.panicked c) H))
theorem cL12_3 (env : Env) (H : Heap) (kn : Value → Heap → Prop) (Q : Ending → Heap → Prop) (h : L12_3 (env 4) (env 18) (env 19) (env 20) H kn Q) :
    RCode Tryd.prog 37 (codeAt [1, 1, 1, 0, 1] (bodyOf Tryd.f12)) env H (mkK (fun e H => kn (e 4) H) (fun _ _ _ => False) (retK T Tryd.f12.results.toList Q) (fun c H => Q (.panicked c) H)) :=
  RCode.blk (by kernel_rfl : (codeAt [1, 1, 1, 0, 1] (bodyOf Tryd.f12)) = .block 0 (codeAt [1, 1, 1, 0, 1, 0] (bodyOf Tryd.f12))) (RCode.lp (by kernel_rfl : (codeAt [1, 1, 1, 0, 1, 0] (bodyOf Tryd.f12)) = .loop (codeAt [1, 1, 1, 0, 1, 0, 0] (bodyOf Tryd.f12))) ((h env rfl rfl rfl rfl).mono (mkK_mono (fun _ _ h => h.elim) (fun _ _ _ h => h) (fun _ _ h => h) (fun _ _ h => h))))
def m12_4 (x4 x18 x19 x20 : Value) (H : Heap) (kn : Value → Value → Value → Value → Heap → Prop) (kx0 : Value → Heap → Prop) (Q : Ending → Heap → Prop) : Prop :=
oV (vInt .lss x20 x19) fun t21_1 =>
condK t21_1 (
oV (vIdxS 1 x18 x20) fun t22_2 =>
oV (vLoad ty52 t22_2 H) fun t23_3 =>
oV (vNil x4) fun t26_4 =>
oV (vField 8 t26_4) fun t27_5 =>
oV (vLoad ty96 t27_5 H) fun t28_6 =>
oRC Tryd.prog 53 [t23_3] H noP fun v_7 H_8 =>
(vLoad ty96 t27_5 H_8 = some t28_6 ∧
oBuildS ty99 99 1 [((0, 1), v_7)] H_8 fun s_9 H_10 =>
oAppend ty99 99 t28_6 s_9 H_10 fun v_11 H_12 =>
oV (vNil x4) fun t33_13 =>
oV (vField 8 t33_13) fun t34_14 =>
oHeap (vStore ty96 t34_14 v_11 H_12) fun H_15 =>
oV (vInt .add x20 (.int .i64 1)) fun t35_16 =>
kn x4 x18 x19 t35_16 H_15)) (
kx0 x4 H)
theorem c12_4 (env : Env) (H : Heap) (kn : Value → Value → Value → Value → Heap → Prop) (kx0 : Value → Heap → Prop) (Q : Ending → Heap → Prop) (h : m12_4 (env 4) (env 18) (env 19) (env 20) H kn kx0 Q) :
    RCode Tryd.prog 37 (codeAt [1, 1, 1, 0, 1, 0, 0] (bodyOf Tryd.f12)) env H (mkK (fun e H => kn (e 4) (e 18) (e 19) (e 20) H) (inK 0 (fun e H => kx0 (e 4) H) (fun _ _ _ => False)) (retK T Tryd.f12.results.toList Q) (fun c H => Q (.panicked c) H)) :=
  RCode.leaf_ (T := T) (X := ext) (hint := hint12) tok xok mixed (by kernel_rfl) h
theorem L12_3_round (x4 x18 x19 x20 : Value) (H : Heap) (kn : Value → Heap → Prop) (Q : Ending → Heap → Prop) (h : m12_4 x4 x18 x19 x20 H (fun y4 y18 y19 y20 H => L12_3 y4 y18 y19 y20 H kn Q) kn Q) : L12_3 x4 x18 x19 x20 H kn Q := by
  intro env h4 h18 h19 h20
  subst h4; subst h18; subst h19; subst h20
  exact RLoop.round ((c12_4 env H (fun y4 y18 y19 y20 H => L12_3 y4 y18 y19 y20 H kn Q) kn Q h).mono (mkK_mono (fun e H h => h e rfl rfl rfl rfl) (fun _ _ _ h => h) (fun _ _ h => h) (fun _ _ h => h)))
def m12_2 (x1 x4 : Value) (H : Heap) (kn : Value → Heap → Prop) (Q : Ending → Heap → Prop) : Prop :=
oV (vField 5 x1) fun t17_17 =>
oV (vLoad ty27 t17_17 H) fun t18_18 =>
oV (vLen t18_18) fun t19_19 =>
L12_3 x4 t18_18 t19_19 (.int .i64 0) H kn Q
theorem c12_2 (env : Env) (H : Heap) (kn : Value → Heap → Prop) (Q : Ending → Heap → Prop) (h : m12_2 (env 1) (env 4) H kn Q) :
    RCode Tryd.prog 37 (codeAt [1, 1, 1, 0] (bodyOf Tryd.f12)) env H (mkK (fun e H => kn (e 4) H) (fun _ _ _ => False) (retK T Tryd.f12.results.toList Q) (fun c H => Q (.panicked c) H)) :=
  RCode.prefix_ (T := T) (X := ext) (hint := hint12) (hole := (fun e H => L12_3 (e 4) (e 18) (e 19) (e 20) H kn Q)) tok xok mixed 1 (by kernel_rfl) (by kernel_rfl : codeAt _ _ = (codeAt [1, 1, 1, 0, 1] (bodyOf Tryd.f12))) h
    (fun e H h => (cL12_3 e H kn Q h))
def m12 (x0 : Value) (H : Heap) (Q : Ending → Heap → Prop) : Prop :=
oNew (Value.cells x0).toList (Value.cells x0).toList.length 29 H fun i_20 H_21 =>
oV (vLoad ty29 (ptrTo i_20) H_21) fun t7_22 =>
oRC Tryd.prog 52 [t7_22] H_21 (fun c H => Q (.panicked c) H) fun v_23 H_24 =>
oV (vUn .not v_23) fun t9_25 =>
condK t9_25 (
Q (.returned (.tuple #[(.pointer none), (.int .i64 1)])) H_24) (
oV (vLoad ty29 (ptrTo i_20) H_24) fun t10_26 =>
oV (vField 0 (ptrTo i_20)) fun t11_27 =>
oV (vField 1 t11_27) fun t12_28 =>
oV (vLoad ty3 t12_28 H_24) fun t13_29 =>
oMake ty49 49 t13_29 t13_29 H_24 fun s_30 H_31 =>
oV (vBuild ty98 [((0, 6), t10_26), ((7, 1), s_30)]) fun t15_32 =>
oNew (Value.cells t15_32).toList (Value.cells t15_32).toList.length 98 H_31 fun i_33 H_34 =>
m12_2 (ptrTo i_20) (ptrTo i_33) H_34 (fun y4_35 H_36 => m12_1 y4_35 H_36 Q) Q)
theorem c12_0 (env : Env) (H : Heap) (Q : Ending → Heap → Prop) (h : m12 (env 0) H Q) :
    RCode Tryd.prog 37 (bodyOf Tryd.f12) env H (mkK (retK T Tryd.f12.results.toList Q) (fun _ _ _ => False) (retK T Tryd.f12.results.toList Q) (fun c H => Q (.panicked c) H)) :=
  RCode.prefix_ (T := T) (X := ext) (hint := hint12) (hole := (fun e H => m12_2 (e 1) (e 4) H (fun y4_37 H_38 => m12_1 y4_37 H_38 Q) Q)) tok xok mixed 3 (by kernel_rfl) (by kernel_rfl : codeAt _ _ = (codeAt [1, 1, 1] (bodyOf Tryd.f12))) h
    (fun e H h => RCode.join (by kernel_rfl : (codeAt [1, 1, 1] (bodyOf Tryd.f12)) = .seq (codeAt [1, 1, 1, 0] (bodyOf Tryd.f12)) (codeAt [1, 1, 1, 1] (bodyOf Tryd.f12))) ((c12_2 e H (fun y4_39 H_40 => m12_1 y4_39 H_40 Q) Q h).mono (mkK_mono (fun e H h => c12_1 e H Q h) (fun _ _ _ h => h) (fun _ _ h => h) (fun _ _ h => h))))
theorem call12 (a0 : Value) (H : Heap) (Q : Ending → Heap → Prop) (h : m12 a0 H Q) : RCalls Tryd.prog 12 [a0] H Q :=
  RCalls.intro (nt := 37) tok Tryd.func12 (by kernel_rfl) (by kernel_rfl) (by kernel_rfl) (of_decide_eq_true (by kernel_rfl)) (c12_0 (envOf [a0]) H Q h)
/-! ### 46: privity/privitylaw14.noMessages -/
def hint46 : Nat → List Nat := lookupL []
def m46_1 (x1 : Value) (H : Heap) (Q : Ending → Heap → Prop) : Prop :=
Q (.returned x1) H
theorem c46_1 (env : Env) (H : Heap) (Q : Ending → Heap → Prop) (h : m46_1 (env 1) H Q) :
    RCode Tryd.prog 12 (codeAt [1, 1, 1] (bodyOf Tryd.f46)) env H (mkK (retK T Tryd.f46.results.toList Q) (fun _ _ _ => False) (retK T Tryd.f46.results.toList Q) (fun c H => Q (.panicked c) H)) :=
  RCode.leaf_ (T := T) (X := ext) (hint := hint46) tok xok mixed (by kernel_rfl) h
def L46_3 (x1 x2 : Value) (H : Heap) (kn : Value → Heap → Prop) (Q : Ending → Heap → Prop) : Prop :=
  ∀ env : Env, env 1 = x1 → env 2 = x2 → RLoop Tryd.prog 12 (codeAt [1, 1, 0, 1, 0, 0] (bodyOf Tryd.f46)) env H (mkK (fun _ _ => False) (inK 0 (fun e H => kn (e 1) H) (fun _ _ _ => False)) (retK T Tryd.f46.results.toList Q) (fun c H => Q (.panicked c) H))
theorem cL46_3 (env : Env) (H : Heap) (kn : Value → Heap → Prop) (Q : Ending → Heap → Prop) (h : L46_3 (env 1) (env 2) H kn Q) :
    RCode Tryd.prog 12 (codeAt [1, 1, 0, 1] (bodyOf Tryd.f46)) env H (mkK (fun e H => kn (e 1) H) (fun _ _ _ => False) (retK T Tryd.f46.results.toList Q) (fun c H => Q (.panicked c) H)) :=
  RCode.blk (by kernel_rfl : (codeAt [1, 1, 0, 1] (bodyOf Tryd.f46)) = .block 0 (codeAt [1, 1, 0, 1, 0] (bodyOf Tryd.f46))) (RCode.lp (by kernel_rfl : (codeAt [1, 1, 0, 1, 0] (bodyOf Tryd.f46)) = .loop (codeAt [1, 1, 0, 1, 0, 0] (bodyOf Tryd.f46))) ((h env rfl rfl).mono (mkK_mono (fun _ _ h => h.elim) (fun _ _ _ h => h) (fun _ _ h => h) (fun _ _ h => h))))
def m46_4 (x1 x2 : Value) (H : Heap) (kn : Value → Value → Heap → Prop) (kx0 : Value → Heap → Prop) (Q : Ending → Heap → Prop) : Prop :=
oV (vInt .lss x2 (.int .i64 4)) fun t4_1 =>
condK t4_1 (
oMake ty52 52 (.int .i64 4) (.int .i64 4) H fun s_2 H_3 =>
oBuildS ty27 27 1 [((0, 1), s_2)] H_3 fun s_4 H_5 =>
oAppend ty27 27 x1 s_4 H_5 fun v_6 H_7 =>
oV (vInt .add x2 (.int .i64 1)) fun t6_8 =>
kn v_6 t6_8 H_7) (
kx0 x1 H)
theorem c46_4 (env : Env) (H : Heap) (kn : Value → Value → Heap → Prop) (kx0 : Value → Heap → Prop) (Q : Ending → Heap → Prop) (h : m46_4 (env 1) (env 2) H kn kx0 Q) :
    RCode Tryd.prog 12 (codeAt [1, 1, 0, 1, 0, 0] (bodyOf Tryd.f46)) env H (mkK (fun e H => kn (e 1) (e 2) H) (inK 0 (fun e H => kx0 (e 1) H) (fun _ _ _ => False)) (retK T Tryd.f46.results.toList Q) (fun c H => Q (.panicked c) H)) :=
  RCode.leaf_ (T := T) (X := ext) (hint := hint46) tok xok mixed (by kernel_rfl) h
theorem L46_3_round (x1 x2 : Value) (H : Heap) (kn : Value → Heap → Prop) (Q : Ending → Heap → Prop) (h : m46_4 x1 x2 H (fun y1 y2 H => L46_3 y1 y2 H kn Q) kn Q) : L46_3 x1 x2 H kn Q := by
  intro env h1 h2
  subst h1; subst h2
  exact RLoop.round ((c46_4 env H (fun y1 y2 H => L46_3 y1 y2 H kn Q) kn Q h).mono (mkK_mono (fun e H h => h e rfl rfl) (fun _ _ _ h => h) (fun _ _ h => h) (fun _ _ h => h)))
def m46_2 (x1 : Value) (H : Heap) (kn : Value → Heap → Prop) (Q : Ending → Heap → Prop) : Prop :=
L46_3 x1 (.int .i64 0) H kn Q
theorem c46_2 (env : Env) (H : Heap) (kn : Value → Heap → Prop) (Q : Ending → Heap → Prop) (h : m46_2 (env 1) H kn Q) :
    RCode Tryd.prog 12 (codeAt [1, 1, 0] (bodyOf Tryd.f46)) env H (mkK (fun e H => kn (e 1) H) (fun _ _ _ => False) (retK T Tryd.f46.results.toList Q) (fun c H => Q (.panicked c) H)) :=
  RCode.prefix_ (T := T) (X := ext) (hint := hint46) (hole := (fun e H => L46_3 (e 1) (e 2) H kn Q)) tok xok mixed 1 (by kernel_rfl) (by kernel_rfl : codeAt _ _ = (codeAt [1, 1, 0, 1] (bodyOf Tryd.f46))) h
    (fun e H h => (cL46_3 e H kn Q h))
def m46 (H : Heap) (Q : Ending → Heap → Prop) : Prop :=
m46_2 (.slice none 0 0) H (fun y1_9 H_10 => m46_1 y1_9 H_10 Q) Q
theorem c46_0 (env : Env) (H : Heap) (Q : Ending → Heap → Prop) (h : m46 H Q) :
    RCode Tryd.prog 12 (bodyOf Tryd.f46) env H (mkK (retK T Tryd.f46.results.toList Q) (fun _ _ _ => False) (retK T Tryd.f46.results.toList Q) (fun c H => Q (.panicked c) H)) :=
  RCode.prefix_ (T := T) (X := ext) (hint := hint46) (hole := (fun e H => m46_2 (e 1) H (fun y1_11 H_12 => m46_1 y1_11 H_12 Q) Q)) tok xok mixed 2 (by kernel_rfl) (by kernel_rfl : codeAt _ _ = (codeAt [1, 1] (bodyOf Tryd.f46))) h
    (fun e H h => RCode.join (by kernel_rfl : (codeAt [1, 1] (bodyOf Tryd.f46)) = .seq (codeAt [1, 1, 0] (bodyOf Tryd.f46)) (codeAt [1, 1, 1] (bodyOf Tryd.f46))) ((c46_2 e H (fun y1_13 H_14 => m46_1 y1_13 H_14 Q) Q h).mono (mkK_mono (fun e H h => c46_1 e H Q h) (fun _ _ _ h => h) (fun _ _ h => h) (fun _ _ h => h))))
theorem call46 (H : Heap) (Q : Ending → Heap → Prop) (h : m46 H Q) : RCalls Tryd.prog 46 [] H Q :=
  RCalls.intro (nt := 12) tok Tryd.func46 (by kernel_rfl) (by kernel_rfl) (by kernel_rfl) (of_decide_eq_true (by kernel_rfl)) (c46_0 (envOf []) H Q h)
/-! ### 79: (*privity/network.Net).note -/
def hint79 : Nat → List Nat := lookupL [(1, [0, 1, 2, 3, 4, 5, 6, 7, 8, 9, 10, 11, 12, 13, 14, 15, 16, 17, 18, 19, 20, 21, 22, 23, 24])]
def m79 (x0 x1 x2 x3 : Value) (H : Heap) (Q : Ending → Heap → Prop) : Prop :=
oV (vInt .neq x1 x2) fun t10_1 =>
oV (gV t10_1 true (some x3) (some undef)) fun t12_2 =>
oV (gV t10_1 true (vLen t12_2) (some undef)) fun t13_3 =>
oV (gV t10_1 true (vInt .gtr t13_3 (.int .i64 0)) (some undef)) fun t14_4 =>
oV (vPick t10_1 t14_4 (.bool false)) fun t15_5 =>
condK t15_5 (
oV (vNil x0) fun t17_6 =>
oV (vField 7 t17_6) fun t18_7 =>
oV (vLoad ty95 t18_7 H) fun t19_8 =>
oV (vNil x0) fun t22_9 =>
oV (vField 7 t22_9) fun t23_10 =>
oV (vLoad ty95 t23_10 H) fun t24_11 =>
oV (vIdxS 1 t24_11 x1) fun t26_12 =>
oV (vLoad ty49 t26_12 H) fun t27_13 =>
oV (vNil x0) fun t29_14 =>
oV (vField 6 t29_14) fun t30_15 =>
oV (vLoad ty3 t30_15 H) fun t31_16 =>
oV (vInt .add x2 (.int .i64 1)) fun t33_17 =>
oAppend ty22 22 (.slice none 0 0) x3 H fun v_18 H_19 =>
(vLoad ty3 t30_15 H_19 = some t31_16 ∧
(vLoad ty49 t26_12 H_19 = some t27_13 ∧
(vLoad ty95 t23_10 H_19 = some t24_11 ∧
(vLoad ty95 t18_7 H_19 = some t19_8 ∧
oV (vBuild ty90 [((0, 1), t31_16), ((1, 1), t33_17), ((2, 1), v_18)]) fun t36_20 =>
oBuildS ty90 90 1 [((0, 3), t36_20)] H_19 fun s_21 H_22 =>
oAppend ty90 90 t27_13 s_21 H_22 fun v_23 H_24 =>
(vLoad ty95 t18_7 H_24 = some t19_8 ∧
oV (vIdxS 1 t19_8 x1) fun t39_25 =>
oHeap (vStore ty49 t39_25 v_23 H_24) fun H_26 =>
Q (.returned (.tuple #[])) H_26)))))) (
Q (.returned (.tuple #[])) H)
theorem c79_0 (env : Env) (H : Heap) (Q : Ending → Heap → Prop) (h : m79 (env 0) (env 1) (env 2) (env 3) H Q) :
    RCode Tryd.prog 40 (bodyOf Tryd.f79) env H (mkK (retK T Tryd.f79.results.toList Q) (fun _ _ _ => False) (retK T Tryd.f79.results.toList Q) (fun c H => Q (.panicked c) H)) :=
  RCode.leaf_ (T := T) (X := ext) (hint := hint79) tok xok mixed (by kernel_rfl) h
theorem call79 (a0 a1 a2 a3 : Value) (H : Heap) (Q : Ending → Heap → Prop) (h : m79 a0 a1 a2 a3 H Q) : RCalls Tryd.prog 79 [a0, a1, a2, a3] H Q :=
  RCalls.intro (nt := 40) tok Tryd.func79 (by kernel_rfl) (by kernel_rfl) (by kernel_rfl) (of_decide_eq_true (by kernel_rfl)) (c79_0 (envOf [a0, a1, a2, a3]) H Q h)
/-! ### 109: slices.Clone[[][]uint64,[]uint64] -/
def hint109 : Nat → List Nat := lookupL []
def m109 (x0 : Value) (H : Heap) (Q : Ending → Heap → Prop) : Prop :=
oV (vNilOp .eql x0 (.slice none 0 0)) fun t4_1 =>
condK t4_1 (
Q (.returned (.slice none 0 0)) H) (
oBuildS ty52 52 0 [] H fun s_2 H_3 =>
oAppend ty52 52 s_2 x0 H_3 fun v_4 H_5 =>
Q (.returned v_4) H_5)
theorem c109_0 (env : Env) (H : Heap) (Q : Ending → Heap → Prop) (h : m109 (env 0) H Q) :
    RCode Tryd.prog 8 (bodyOf Tryd.f109) env H (mkK (retK T Tryd.f109.results.toList Q) (fun _ _ _ => False) (retK T Tryd.f109.results.toList Q) (fun c H => Q (.panicked c) H)) :=
  RCode.leaf_ (T := T) (X := ext) (hint := hint109) tok xok mixed (by kernel_rfl) h
theorem call109 (a0 : Value) (H : Heap) (Q : Ending → Heap → Prop) (h : m109 a0 H Q) : RCalls Tryd.prog 109 [a0] H Q :=
  RCalls.intro (nt := 8) tok Tryd.func109 (by kernel_rfl) (by kernel_rfl) (by kernel_rfl) (of_decide_eq_true (by kernel_rfl)) (c109_0 (envOf [a0]) H Q h)
/-! ### 145: slices.Index[[]int,int] -/
def hint145 : Nat → List Nat := lookupL []
def m145_1 (H : Heap) (Q : Ending → Heap → Prop) : Prop :=
Q (.returned (.int .i64 (-1))) H
theorem c145_1 (env : Env) (H : Heap) (Q : Ending → Heap → Prop) (h : m145_1 H Q) :
    RCode Tryd.prog 19 (codeAt [1, 1] (bodyOf Tryd.f145)) env H (mkK (retK T Tryd.f145.results.toList Q) (fun _ _ _ => False) (retK T Tryd.f145.results.toList Q) (fun c H => Q (.panicked c) H)) :=
  RCode.leaf_ (T := T) (X := ext) (hint := hint145) tok xok mixed (by kernel_rfl) h
def L145_3 (x0 x1 x7 x8 : Value) (H : Heap) (kn : Heap → Prop) (Q : Ending → Heap → Prop) : Prop :=
  ∀ env : Env, env 0 = x0 → env 1 = x1 → env 7 = x7 → env 8 = x8 → RLoop Tryd.prog 19 (codeAt [1, 0, 1, 0, 0] (bodyOf Tryd.f145)) env H (mkK (fun _ _ => False) (inK 0 (fun e H => kn H) (fun _ _ _ => False)) (retK T Tryd.f145.results.toList Q) (fun c H => Q (.panicked c) H))
theorem cL145_3 (env : Env) (H : Heap) (kn : Heap → Prop) (Q : Ending → Heap → Prop) (h : L145_3 (env 0) (env 1) (env 7) (env 8) H kn Q) :
    RCode Tryd.prog 19 (codeAt [1, 0, 1] (bodyOf Tryd.f145)) env H (mkK (fun e H => kn H) (fun _ _ _ => False) (retK T Tryd.f145.results.toList Q) (fun c H => Q (.panicked c) H)) :=
  RCode.blk (by kernel_rfl : (codeAt [1, 0, 1] (bodyOf Tryd.f145)) = .block 0 (codeAt [1, 0, 1, 0] (bodyOf Tryd.f145))) (RCode.lp (by kernel_rfl : (codeAt [1, 0, 1, 0] (bodyOf Tryd.f145)) = .loop (codeAt [1, 0, 1, 0, 0] (bodyOf Tryd.f145))) ((h env rfl rfl rfl rfl).mono (mkK_mono (fun _ _ h => h.elim) (fun _ _ _ h => h) (fun _ _ h => h) (fun _ _ h => h))))
def m145_4 (x0 x1 x7 x8 : Value) (H : Heap) (kn : Value → Value → Value → Value → Heap → Prop) (kx0 : Heap → Prop) (Q : Ending → Heap → Prop) : Prop :=
oV (vInt .lss x8 x7) fun t9_1 =>
condK t9_1 (
oV (vIdxS 1 x0 x8) fun t14_2 =>
oV (vLoad ty3 t14_2 H) fun t15_3 =>
oV (vInt .eql x1 t15_3) fun t16_4 =>
condK t16_4 (
Q (.returned x8) H) (
oV (vInt .add x8 (.int .i64 1)) fun t18_5 =>
kn x0 x1 x7 t18_5 H)) (
kx0 H)
theorem c145_4 (env : Env) (H : Heap) (kn : Value → Value → Value → Value → Heap → Prop) (kx0 : Heap → Prop) (Q : Ending → Heap → Prop) (h : m145_4 (env 0) (env 1) (env 7) (env 8) H kn kx0 Q) :
    RCode Tryd.prog 19 (codeAt [1, 0, 1, 0, 0] (bodyOf Tryd.f145)) env H (mkK (fun e H => kn (e 0) (e 1) (e 7) (e 8) H) (inK 0 (fun e H => kx0 H) (fun _ _ _ => False)) (retK T Tryd.f145.results.toList Q) (fun c H => Q (.panicked c) H)) :=
  RCode.leaf_ (T := T) (X := ext) (hint := hint145) tok xok mixed (by kernel_rfl) h
theorem L145_3_round (x0 x1 x7 x8 : Value) (H : Heap) (kn : Heap → Prop) (Q : Ending → Heap → Prop) (h : m145_4 x0 x1 x7 x8 H (fun y0 y1 y7 y8 H => L145_3 y0 y1 y7 y8 H kn Q) kn Q) : L145_3 x0 x1 x7 x8 H kn Q := by
  intro env h0 h1 h7 h8
  subst h0; subst h1; subst h7; subst h8
  exact RLoop.round ((c145_4 env H (fun y0 y1 y7 y8 H => L145_3 y0 y1 y7 y8 H kn Q) kn Q h).mono (mkK_mono (fun e H h => h e rfl rfl rfl rfl) (fun _ _ _ h => h) (fun _ _ h => h) (fun _ _ h => h)))
def m145_2 (x0 x1 : Value) (H : Heap) (kn : Heap → Prop) (Q : Ending → Heap → Prop) : Prop :=
oV (vLen x0) fun t7_6 =>
L145_3 x0 x1 t7_6 (.int .i64 0) H kn Q
theorem c145_2 (env : Env) (H : Heap) (kn : Heap → Prop) (Q : Ending → Heap → Prop) (h : m145_2 (env 0) (env 1) H kn Q) :
    RCode Tryd.prog 19 (codeAt [1, 0] (bodyOf Tryd.f145)) env H (mkK (fun e H => kn H) (fun _ _ _ => False) (retK T Tryd.f145.results.toList Q) (fun c H => Q (.panicked c) H)) :=
  RCode.prefix_ (T := T) (X := ext) (hint := hint145) (hole := (fun e H => L145_3 (e 0) (e 1) (e 7) (e 8) H kn Q)) tok xok mixed 1 (by kernel_rfl) (by kernel_rfl : codeAt _ _ = (codeAt [1, 0, 1] (bodyOf Tryd.f145))) h
    (fun e H h => (cL145_3 e H kn Q h))
def m145 (x0 x1 : Value) (H : Heap) (Q : Ending → Heap → Prop) : Prop :=
m145_2 x0 x1 H (fun H_7 => m145_1 H_7 Q) Q
theorem c145_0 (env : Env) (H : Heap) (Q : Ending → Heap → Prop) (h : m145 (env 0) (env 1) H Q) :
    RCode Tryd.prog 19 (bodyOf Tryd.f145) env H (mkK (retK T Tryd.f145.results.toList Q) (fun _ _ _ => False) (retK T Tryd.f145.results.toList Q) (fun c H => Q (.panicked c) H)) :=
  RCode.prefix_ (T := T) (X := ext) (hint := hint145) (hole := (fun e H => m145_2 (e 0) (e 1) H (fun H_8 => m145_1 H_8 Q) Q)) tok xok mixed 1 (by kernel_rfl) (by kernel_rfl : codeAt _ _ = (codeAt [1] (bodyOf Tryd.f145))) h
    (fun e H h => RCode.join (by kernel_rfl : (codeAt [1] (bodyOf Tryd.f145)) = .seq (codeAt [1, 0] (bodyOf Tryd.f145)) (codeAt [1, 1] (bodyOf Tryd.f145))) ((c145_2 e H (fun H_9 => m145_1 H_9 Q) Q h).mono (mkK_mono (fun e H h => c145_1 e H Q h) (fun _ _ _ h => h) (fun _ _ h => h) (fun _ _ h => h))))
theorem call145 (a0 a1 : Value) (H : Heap) (Q : Ending → Heap → Prop) (h : m145 a0 a1 H Q) : RCalls Tryd.prog 145 [a0, a1] H Q :=
  RCalls.intro (nt := 19) tok Tryd.func145 (by kernel_rfl) (by kernel_rfl) (by kernel_rfl) (of_decide_eq_true (by kernel_rfl)) (c145_0 (envOf [a0, a1]) H Q h)
/-! ### 134: slices.Contains[[]int,int] -/
def hint134 : Nat → List Nat := lookupL []
def m134 (x0 x1 : Value) (H : Heap) (Q : Ending → Heap → Prop) : Prop :=
oRC Tryd.prog 145 [x0, x1] H (fun c H => Q (.panicked c) H) fun v_1 H_2 =>
oV (vInt .geq v_1 (.int .i64 0)) fun t8_3 =>
Q (.returned t8_3) H_2
theorem c134_0 (env : Env) (H : Heap) (Q : Ending → Heap → Prop) (h : m134 (env 0) (env 1) H Q) :
    RCode Tryd.prog 9 (bodyOf Tryd.f134) env H (mkK (retK T Tryd.f134.results.toList Q) (fun _ _ _ => False) (retK T Tryd.f134.results.toList Q) (fun c H => Q (.panicked c) H)) :=
  RCode.leaf_ (T := T) (X := ext) (hint := hint134) tok xok mixed (by kernel_rfl) h
theorem call134 (a0 a1 : Value) (H : Heap) (Q : Ending → Heap → Prop) (h : m134 a0 a1 H Q) : RCalls Tryd.prog 134 [a0, a1] H Q :=
  RCalls.intro (nt := 9) tok Tryd.func134 (by kernel_rfl) (by kernel_rfl) (by kernel_rfl) (of_decide_eq_true (by kernel_rfl)) (c134_0 (envOf [a0, a1]) H Q h)
/-! ### 110: privity/adversary.done -/
def hint110 : Nat → List Nat := lookupL []
def m110 (x0 x1 x2 : Value) (H : Heap) (Q : Ending → Heap → Prop) : Prop :=
oNew (Value.cells x0).toList (Value.cells x0).toList.length 29 H fun i_1 H_2 =>
oNew (Value.cells x1).toList (Value.cells x1).toList.length 109 H_2 fun i_3 H_4 =>
oV (vField 0 (ptrTo i_3)) fun t7_5 =>
oV (vLoad ty3 t7_5 H_4) fun t8_6 =>
oV (vInt .eql t8_6 x2) fun t10_7 =>
oV (gV t10_7 true (vField 3 (ptrTo i_1)) (some undef)) fun t12_8 =>
oV (gV t10_7 true (vLoad ty25 t12_8 H_4) (some undef)) fun t13_9 =>
oV (gV t10_7 true (vField 1 (ptrTo i_3)) (some undef)) fun t14_10 =>
oV (gV t10_7 true (vLoad ty3 t14_10 H_4) (some undef)) fun t15_11 =>
letK (fun t16_13 H_14 =>
oV (vPick t10_7 t16_13 (.bool false)) fun t17_15 =>
Q (.returned t17_15) H_14) fun k_12 => gK t10_7 true (oRC Tryd.prog 134 [t13_9, t15_11] H_4 (fun c H => Q (.panicked c) H) fun v_16 H_17 =>
k_12 v_16 H_17) (k_12 undef H_4)
theorem c110_0 (env : Env) (H : Heap) (Q : Ending → Heap → Prop) (h : m110 (env 0) (env 1) (env 2) H Q) :
    RCode Tryd.prog 18 (bodyOf Tryd.f110) env H (mkK (retK T Tryd.f110.results.toList Q) (fun _ _ _ => False) (retK T Tryd.f110.results.toList Q) (fun c H => Q (.panicked c) H)) :=
  RCode.leaf_ (T := T) (X := ext) (hint := hint110) tok xok mixed (by kernel_rfl) h
theorem call110 (a0 a1 a2 : Value) (H : Heap) (Q : Ending → Heap → Prop) (h : m110 a0 a1 a2 H Q) : RCalls Tryd.prog 110 [a0, a1, a2] H Q :=
  RCalls.intro (nt := 18) tok Tryd.func110 (by kernel_rfl) (by kernel_rfl) (by kernel_rfl) (of_decide_eq_true (by kernel_rfl)) (c110_0 (envOf [a0, a1, a2]) H Q h)
/-! ### 152: math/bits.Len64 -/
def hint152 : Nat → List Nat := lookupL []
def m152 (x0 : Value) (H : Heap) (Q : Ending → Heap → Prop) : Prop :=
oV (vInt .geq x0 (.int .u64 4294967296)) fun t4_1 =>
condK t4_1 (
oV (vInt .shr x0 (.int .u64 32)) fun t6_2 =>
oV (vInt .geq t6_2 (.int .u64 65536)) fun t8_3 =>
condK t8_3 (
oV (vInt .shr t6_2 (.int .u64 16)) fun t10_4 =>
oV (vInt .add (.int .i64 32) (.int .i64 16)) fun t12_5 =>
oV (vInt .geq t10_4 (.int .u64 256)) fun t14_6 =>
condK t14_6 (
oV (vInt .shr t10_4 (.int .u64 8)) fun t16_7 =>
oV (vInt .add t12_5 (.int .i64 8)) fun t18_8 =>
oV (vConv (.int .u8) t16_7) fun t21_9 =>
oV (vIndexStr (.string { data := #[0, 1, 2, 2, 3, 3, 3, 3, 4, 4, 4, 4, 4, 4, 4, 4, 5, 5, 5, 5, 5, 5, 5, 5, 5, 5, 5, 5, 5, 5, 5, 5, 6, 6, 6, 6, 6, 6, 6, 6, 6, 6, 6, 6, 6, 6, 6, 6, 6, 6, 6, 6, 6, 6, 6, 6, 6, 6, 6, 6, 6, 6, 6, 6, 7, 7, 7, 7, 7, 7, 7, 7, 7, 7, 7, 7, 7, 7, 7, 7, 7, 7, 7, 7, 7, 7, 7, 7, 7, 7, 7, 7, 7, 7, 7, 7, 7, 7, 7, 7, 7, 7, 7, 7, 7, 7, 7, 7, 7, 7, 7, 7, 7, 7, 7, 7, 7, 7, 7, 7, 7, 7, 7, 7, 7, 7, 7, 7, 8, 8, 8, 8, 8, 8, 8, 8, 8, 8, 8, 8, 8, 8, 8, 8, 8, 8, 8, 8, 8, 8, 8, 8, 8, 8, 8, 8, 8, 8, 8, 8, 8, 8, 8, 8, 8, 8, 8, 8, 8, 8, 8, 8, 8, 8, 8, 8, 8, 8, 8, 8, 8, 8, 8, 8, 8, 8, 8, 8, 8, 8, 8, 8, 8, 8, 8, 8, 8, 8, 8, 8, 8, 8, 8, 8, 8, 8, 8, 8, 8, 8, 8, 8, 8, 8, 8, 8, 8, 8, 8, 8, 8, 8, 8, 8, 8, 8, 8, 8, 8, 8, 8, 8, 8, 8, 8, 8, 8, 8, 8, 8, 8, 8, 8, 8, 8, 8, 8, 8, 8, 8, 8, 8, 8, 8, 8, 8] }) t21_9) fun t22_10 =>
oV (vConv (.int .i64) t22_10) fun t23_11 =>
oV (vInt .add t18_8 t23_11) fun t24_12 =>
Q (.returned t24_12) H) (
oV (vConv (.int .u8) t10_4) fun t21_13 =>
oV (vIndexStr (.string { data := #[0, 1, 2, 2, 3, 3, 3, 3, 4, 4, 4, 4, 4, 4, 4, 4, 5, 5, 5, 5, 5, 5, 5, 5, 5, 5, 5, 5, 5, 5, 5, 5, 6, 6, 6, 6, 6, 6, 6, 6, 6, 6, 6, 6, 6, 6, 6, 6, 6, 6, 6, 6, 6, 6, 6, 6, 6, 6, 6, 6, 6, 6, 6, 6, 7, 7, 7, 7, 7, 7, 7, 7, 7, 7, 7, 7, 7, 7, 7, 7, 7, 7, 7, 7, 7, 7, 7, 7, 7, 7, 7, 7, 7, 7, 7, 7, 7, 7, 7, 7, 7, 7, 7, 7, 7, 7, 7, 7, 7, 7, 7, 7, 7, 7, 7, 7, 7, 7, 7, 7, 7, 7, 7, 7, 7, 7, 7, 7, 8, 8, 8, 8, 8, 8, 8, 8, 8, 8, 8, 8, 8, 8, 8, 8, 8, 8, 8, 8, 8, 8, 8, 8, 8, 8, 8, 8, 8, 8, 8, 8, 8, 8, 8, 8, 8, 8, 8, 8, 8, 8, 8, 8, 8, 8, 8, 8, 8, 8, 8, 8, 8, 8, 8, 8, 8, 8, 8, 8, 8, 8, 8, 8, 8, 8, 8, 8, 8, 8, 8, 8, 8, 8, 8, 8, 8, 8, 8, 8, 8, 8, 8, 8, 8, 8, 8, 8, 8, 8, 8, 8, 8, 8, 8, 8, 8, 8, 8, 8, 8, 8, 8, 8, 8, 8, 8, 8, 8, 8, 8, 8, 8, 8, 8, 8, 8, 8, 8, 8, 8, 8, 8, 8, 8, 8, 8, 8] }) t21_13) fun t22_14 =>
oV (vConv (.int .i64) t22_14) fun t23_15 =>
oV (vInt .add t12_5 t23_15) fun t24_16 =>
Q (.returned t24_16) H)) (
oV (vInt .geq t6_2 (.int .u64 256)) fun t14_17 =>
condK t14_17 (
oV (vInt .shr t6_2 (.int .u64 8)) fun t16_18 =>
oV (vInt .add (.int .i64 32) (.int .i64 8)) fun t18_19 =>
oV (vConv (.int .u8) t16_18) fun t21_20 =>
oV (vIndexStr (.string { data := #[0, 1, 2, 2, 3, 3, 3, 3, 4, 4, 4, 4, 4, 4, 4, 4, 5, 5, 5, 5, 5, 5, 5, 5, 5, 5, 5, 5, 5, 5, 5, 5, 6, 6, 6, 6, 6, 6, 6, 6, 6, 6, 6, 6, 6, 6, 6, 6, 6, 6, 6, 6, 6, 6, 6, 6, 6, 6, 6, 6, 6, 6, 6, 6, 7, 7, 7, 7, 7, 7, 7, 7, 7, 7, 7, 7, 7, 7, 7, 7, 7, 7, 7, 7, 7, 7, 7, 7, 7, 7, 7, 7, 7, 7, 7, 7, 7, 7, 7, 7, 7, 7, 7, 7, 7, 7, 7, 7, 7, 7, 7, 7, 7, 7, 7, 7, 7, 7, 7, 7, 7, 7, 7, 7, 7, 7, 7, 7, 8, 8, 8, 8, 8, 8, 8, 8, 8, 8, 8, 8, 8, 8, 8, 8, 8, 8, 8, 8, 8, 8, 8, 8, 8, 8, 8, 8, 8, 8, 8, 8, 8, 8, 8, 8, 8, 8, 8, 8, 8, 8, 8, 8, 8, 8, 8, 8, 8, 8, 8, 8, 8, 8, 8, 8, 8, 8, 8, 8, 8, 8, 8, 8, 8, 8, 8, 8, 8, 8, 8, 8, 8, 8, 8, 8, 8, 8, 8, 8, 8, 8, 8, 8, 8, 8, 8, 8, 8, 8, 8, 8, 8, 8, 8, 8, 8, 8, 8, 8, 8, 8, 8, 8, 8, 8, 8, 8, 8, 8, 8, 8, 8, 8, 8, 8, 8, 8, 8, 8, 8, 8, 8, 8, 8, 8, 8, 8] }) t21_20) fun t22_21 =>
oV (vConv (.int .i64) t22_21) fun t23_22 =>
oV (vInt .add t18_19 t23_22) fun t24_23 =>
Q (.returned t24_23) H) (
oV (vConv (.int .u8) t6_2) fun t21_24 =>
oV (vIndexStr (.string { data := #[0, 1, 2, 2, 3, 3, 3, 3, 4, 4, 4, 4, 4, 4, 4, 4, 5, 5, 5, 5, 5, 5, 5, 5, 5, 5, 5, 5, 5, 5, 5, 5, 6, 6, 6, 6, 6, 6, 6, 6, 6, 6, 6, 6, 6, 6, 6, 6, 6, 6, 6, 6, 6, 6, 6, 6, 6, 6, 6, 6, 6, 6, 6, 6, 7, 7, 7, 7, 7, 7, 7, 7, 7, 7, 7, 7, 7, 7, 7, 7, 7, 7, 7, 7, 7, 7, 7, 7, 7, 7, 7, 7, 7, 7, 7, 7, 7, 7, 7, 7, 7, 7, 7, 7, 7, 7, 7, 7, 7, 7, 7, 7, 7, 7, 7, 7, 7, 7, 7, 7, 7, 7, 7, 7, 7, 7, 7, 7, 8, 8, 8, 8, 8, 8, 8, 8, 8, 8, 8, 8, 8, 8, 8, 8, 8, 8, 8, 8, 8, 8, 8, 8, 8, 8, 8, 8, 8, 8, 8, 8, 8, 8, 8, 8, 8, 8, 8, 8, 8, 8, 8, 8, 8, 8, 8, 8, 8, 8, 8, 8, 8, 8, 8, 8, 8, 8, 8, 8, 8, 8, 8, 8, 8, 8, 8, 8, 8, 8, 8, 8, 8, 8, 8, 8, 8, 8, 8, 8, 8, 8, 8, 8, 8, 8, 8, 8, 8, 8, 8, 8, 8, 8, 8, 8, 8, 8, 8, 8, 8, 8, 8, 8, 8, 8, 8, 8, 8, 8, 8, 8, 8, 8, 8, 8, 8, 8, 8, 8, 8, 8, 8, 8, 8, 8, 8, 8] }) t21_24) fun t22_25 =>
oV (vConv (.int .i64) t22_25) fun t23_26 =>
oV (vInt .add (.int .i64 32) t23_26) fun t24_27 =>
Q (.returned t24_27) H))) (
oV (vInt .geq x0 (.int .u64 65536)) fun t8_28 =>
condK t8_28 (
oV (vInt .shr x0 (.int .u64 16)) fun t10_29 =>
oV (vInt .add (.int .i64 0) (.int .i64 16)) fun t12_30 =>
oV (vInt .geq t10_29 (.int .u64 256)) fun t14_31 =>
condK t14_31 (
oV (vInt .shr t10_29 (.int .u64 8)) fun t16_32 =>
oV (vInt .add t12_30 (.int .i64 8)) fun t18_33 =>
oV (vConv (.int .u8) t16_32) fun t21_34 =>
oV (vIndexStr (.string { data := #[0, 1, 2, 2, 3, 3, 3, 3, 4, 4, 4, 4, 4, 4, 4, 4, 5, 5, 5, 5, 5, 5, 5, 5, 5, 5, 5, 5, 5, 5, 5, 5, 6, 6, 6, 6, 6, 6, 6, 6, 6, 6, 6, 6, 6, 6, 6, 6, 6, 6, 6, 6, 6, 6, 6, 6, 6, 6, 6, 6, 6, 6, 6, 6, 7, 7, 7, 7, 7, 7, 7, 7, 7, 7, 7, 7, 7, 7, 7, 7, 7, 7, 7, 7, 7, 7, 7, 7, 7, 7, 7, 7, 7, 7, 7, 7, 7, 7, 7, 7, 7, 7, 7, 7, 7, 7, 7, 7, 7, 7, 7, 7, 7, 7, 7, 7, 7, 7, 7, 7, 7, 7, 7, 7, 7, 7, 7, 7, 8, 8, 8, 8, 8, 8, 8, 8, 8, 8, 8, 8, 8, 8, 8, 8, 8, 8, 8, 8, 8, 8, 8, 8, 8, 8, 8, 8, 8, 8, 8, 8, 8, 8, 8, 8, 8, 8, 8, 8, 8, 8, 8, 8, 8, 8, 8, 8, 8, 8, 8, 8, 8, 8, 8, 8, 8, 8, 8, 8, 8, 8, 8, 8, 8, 8, 8, 8, 8, 8, 8, 8, 8, 8, 8, 8, 8, 8, 8, 8, 8, 8, 8, 8, 8, 8, 8, 8, 8, 8, 8, 8, 8, 8, 8, 8, 8, 8, 8, 8, 8, 8, 8, 8, 8, 8, 8, 8, 8, 8, 8, 8, 8, 8, 8, 8, 8, 8, 8, 8, 8, 8, 8, 8, 8, 8, 8, 8] }) t21_34) fun t22_35 =>
oV (vConv (.int .i64) t22_35) fun t23_36 =>
oV (vInt .add t18_33 t23_36) fun t24_37 =>
Q (.returned t24_37) H) (
oV (vConv (.int .u8) t10_29) fun t21_38 =>
oV (vIndexStr (.string { data := #[0, 1, 2, 2, 3, 3, 3, 3, 4, 4, 4, 4, 4, 4, 4, 4, 5, 5, 5, 5, 5, 5, 5, 5, 5, 5, 5, 5, 5, 5, 5, 5, 6, 6, 6, 6, 6, 6, 6, 6, 6, 6, 6, 6, 6, 6, 6, 6, 6, 6, 6, 6, 6, 6, 6, 6, 6, 6, 6, 6, 6, 6, 6, 6, 7, 7, 7, 7, 7, 7, 7, 7, 7, 7, 7, 7, 7, 7, 7, 7, 7, 7, 7, 7, 7, 7, 7, 7, 7, 7, 7, 7, 7, 7, 7, 7, 7, 7, 7, 7, 7, 7, 7, 7, 7, 7, 7, 7, 7, 7, 7, 7, 7, 7, 7, 7, 7, 7, 7, 7, 7, 7, 7, 7, 7, 7, 7, 7, 8, 8, 8, 8, 8, 8, 8, 8, 8, 8, 8, 8, 8, 8, 8, 8, 8, 8, 8, 8, 8, 8, 8, 8, 8, 8, 8, 8, 8, 8, 8, 8, 8, 8, 8, 8, 8, 8, 8, 8, 8, 8, 8, 8, 8, 8, 8, 8, 8, 8, 8, 8, 8, 8, 8, 8, 8, 8, 8, 8, 8, 8, 8, 8, 8, 8, 8, 8, 8, 8, 8, 8, 8, 8, 8, 8, 8, 8, 8, 8, 8, 8, 8, 8, 8, 8, 8, 8, 8, 8, 8, 8, 8, 8, 8, 8, 8, 8, 8, 8, 8, 8, 8, 8, 8, 8, 8, 8, 8, 8, 8, 8, 8, 8, 8, 8, 8, 8, 8, 8, 8, 8, 8, 8, 8, 8, 8, 8] }) t21_38) fun t22_39 =>
oV (vConv (.int .i64) t22_39) fun t23_40 =>
oV (vInt .add t12_30 t23_40) fun t24_41 =>
Q (.returned t24_41) H)) (
oV (vInt .geq x0 (.int .u64 256)) fun t14_42 =>
condK t14_42 (
oV (vInt .shr x0 (.int .u64 8)) fun t16_43 =>
oV (vInt .add (.int .i64 0) (.int .i64 8)) fun t18_44 =>
oV (vConv (.int .u8) t16_43) fun t21_45 =>
oV (vIndexStr (.string { data := #[0, 1, 2, 2, 3, 3, 3, 3, 4, 4, 4, 4, 4, 4, 4, 4, 5, 5, 5, 5, 5, 5, 5, 5, 5, 5, 5, 5, 5, 5, 5, 5, 6, 6, 6, 6, 6, 6, 6, 6, 6, 6, 6, 6, 6, 6, 6, 6, 6, 6, 6, 6, 6, 6, 6, 6, 6, 6, 6, 6, 6, 6, 6, 6, 7, 7, 7, 7, 7, 7, 7, 7, 7, 7, 7, 7, 7, 7, 7, 7, 7, 7, 7, 7, 7, 7, 7, 7, 7, 7, 7, 7, 7, 7, 7, 7, 7, 7, 7, 7, 7, 7, 7, 7, 7, 7, 7, 7, 7, 7, 7, 7, 7, 7, 7, 7, 7, 7, 7, 7, 7, 7, 7, 7, 7, 7, 7, 7, 8, 8, 8, 8, 8, 8, 8, 8, 8, 8, 8, 8, 8, 8, 8, 8, 8, 8, 8, 8, 8, 8, 8, 8, 8, 8, 8, 8, 8, 8, 8, 8, 8, 8, 8, 8, 8, 8, 8, 8, 8, 8, 8, 8, 8, 8, 8, 8, 8, 8, 8, 8, 8, 8, 8, 8, 8, 8, 8, 8, 8, 8, 8, 8, 8, 8, 8, 8, 8, 8, 8, 8, 8, 8, 8, 8, 8, 8, 8, 8, 8, 8, 8, 8, 8, 8, 8, 8, 8, 8, 8, 8, 8, 8, 8, 8, 8, 8, 8, 8, 8, 8, 8, 8, 8, 8, 8, 8, 8, 8, 8, 8, 8, 8, 8, 8, 8, 8, 8, 8, 8, 8, 8, 8, 8, 8, 8, 8] }) t21_45) fun t22_46 =>
oV (vConv (.int .i64) t22_46) fun t23_47 =>
oV (vInt .add t18_44 t23_47) fun t24_48 =>
Q (.returned t24_48) H) (
oV (vConv (.int .u8) x0) fun t21_49 =>
oV (vIndexStr (.string { data := #[0, 1, 2, 2, 3, 3, 3, 3, 4, 4, 4, 4, 4, 4, 4, 4, 5, 5, 5, 5, 5, 5, 5, 5, 5, 5, 5, 5, 5, 5, 5, 5, 6, 6, 6, 6, 6, 6, 6, 6, 6, 6, 6, 6, 6, 6, 6, 6, 6, 6, 6, 6, 6, 6, 6, 6, 6, 6, 6, 6, 6, 6, 6, 6, 7, 7, 7, 7, 7, 7, 7, 7, 7, 7, 7, 7, 7, 7, 7, 7, 7, 7, 7, 7, 7, 7, 7, 7, 7, 7, 7, 7, 7, 7, 7, 7, 7, 7, 7, 7, 7, 7, 7, 7, 7, 7, 7, 7, 7, 7, 7, 7, 7, 7, 7, 7, 7, 7, 7, 7, 7, 7, 7, 7, 7, 7, 7, 7, 8, 8, 8, 8, 8, 8, 8, 8, 8, 8, 8, 8, 8, 8, 8, 8, 8, 8, 8, 8, 8, 8, 8, 8, 8, 8, 8, 8, 8, 8, 8, 8, 8, 8, 8, 8, 8, 8, 8, 8, 8, 8, 8, 8, 8, 8, 8, 8, 8, 8, 8, 8, 8, 8, 8, 8, 8, 8, 8, 8, 8, 8, 8, 8, 8, 8, 8, 8, 8, 8, 8, 8, 8, 8, 8, 8, 8, 8, 8, 8, 8, 8, 8, 8, 8, 8, 8, 8, 8, 8, 8, 8, 8, 8, 8, 8, 8, 8, 8, 8, 8, 8, 8, 8, 8, 8, 8, 8, 8, 8, 8, 8, 8, 8, 8, 8, 8, 8, 8, 8, 8, 8, 8, 8, 8, 8, 8, 8] }) t21_49) fun t22_50 =>
oV (vConv (.int .i64) t22_50) fun t23_51 =>
oV (vInt .add (.int .i64 0) t23_51) fun t24_52 =>
Q (.returned t24_52) H)))
theorem c152_0 (env : Env) (H : Heap) (Q : Ending → Heap → Prop) (h : m152 (env 0) H Q) :
    RCode Tryd.prog 25 (bodyOf Tryd.f152) env H (mkK (retK T Tryd.f152.results.toList Q) (fun _ _ _ => False) (retK T Tryd.f152.results.toList Q) (fun c H => Q (.panicked c) H)) :=
  RCode.leaf_ (T := T) (X := ext) (hint := hint152) tok xok mixed (by kernel_rfl) h
theorem call152 (a0 : Value) (H : Heap) (Q : Ending → Heap → Prop) (h : m152 a0 H Q) : RCalls Tryd.prog 152 [a0] H Q :=
  RCalls.intro (nt := 25) tok Tryd.func152 (by kernel_rfl) (by kernel_rfl) (by kernel_rfl) (of_decide_eq_true (by kernel_rfl)) (c152_0 (envOf [a0]) H Q h)
/-! ### 150: privity/field.width -/
def hint150 : Nat → List Nat := lookupL []
def m150 (x0 : Value) (H : Heap) (Q : Ending → Heap → Prop) : Prop :=
oRC Tryd.prog 152 [x0] H (fun c H => Q (.panicked c) H) fun v_1 H_2 =>
oV (vConv (.int .u64) v_1) fun t5_3 =>
Q (.returned t5_3) H_2
theorem c150_0 (env : Env) (H : Heap) (Q : Ending → Heap → Prop) (h : m150 (env 0) H Q) :
    RCode Tryd.prog 6 (bodyOf Tryd.f150) env H (mkK (retK T Tryd.f150.results.toList Q) (fun _ _ _ => False) (retK T Tryd.f150.results.toList Q) (fun c H => Q (.panicked c) H)) :=
  RCode.leaf_ (T := T) (X := ext) (hint := hint150) tok xok mixed (by kernel_rfl) h
theorem call150 (a0 : Value) (H : Heap) (Q : Ending → Heap → Prop) (h : m150 a0 H Q) : RCalls Tryd.prog 150 [a0] H Q :=
  RCalls.intro (nt := 6) tok Tryd.func150 (by kernel_rfl) (by kernel_rfl) (by kernel_rfl) (of_decide_eq_true (by kernel_rfl)) (c150_0 (envOf [a0]) H Q h)
/-! ### 146: privity/field.fold -/
def hint146 : Nat → List Nat := lookupL []
def m146_1 (x0 x2 : Value) (H : Heap) (Q : Ending → Heap → Prop) : Prop :=
oV (vInt .eql x2 x0) fun t46_1 =>
condK t46_1 (
Q (.returned (.int .u64 0)) H) (
Q (.returned x2) H)
theorem c146_1 (env : Env) (H : Heap) (Q : Ending → Heap → Prop) (h : m146_1 (env 0) (env 2) H Q) :
    RCode Tryd.prog 48 (codeAt [1, 1, 1] (bodyOf Tryd.f146)) env H (mkK (retK T Tryd.f146.results.toList Q) (fun _ _ _ => False) (retK T Tryd.f146.results.toList Q) (fun c H => Q (.panicked c) H)) :=
  RCode.leaf_ (T := T) (X := ext) (hint := hint146) tok xok mixed (by kernel_rfl) h
def L146_2 (x0 x1 x2 x7 : Value) (H : Heap) (kn : Value → Value → Heap → Prop) (Q : Ending → Heap → Prop) : Prop :=
  ∀ env : Env, env 0 = x0 → env 1 = x1 → env 2 = x2 → env 7 = x7 → RLoop Tryd.prog 48 (codeAt [1, 1, 0, 0, 0] (bodyOf Tryd.f146)) env H (mkK (fun _ _ => False) (inK 0 (fun e H => kn (e 0) (e 2) H) (fun _ _ _ => False)) (retK T Tryd.f146.results.toList Q) (fun c H => Q (.panicked c) H))
theorem cL146_2 (env : Env) (H : Heap) (kn : Value → Value → Heap → Prop) (Q : Ending → Heap → Prop) (h : L146_2 (env 0) (env 1) (env 2) (env 7) H kn Q) :
    RCode Tryd.prog 48 (codeAt [1, 1, 0] (bodyOf Tryd.f146)) env H (mkK (fun e H => kn (e 0) (e 2) H) (fun _ _ _ => False) (retK T Tryd.f146.results.toList Q) (fun c H => Q (.panicked c) H)) :=
  RCode.blk (by kernel_rfl : (codeAt [1, 1, 0] (bodyOf Tryd.f146)) = .block 0 (codeAt [1, 1, 0, 0] (bodyOf Tryd.f146))) (RCode.lp (by kernel_rfl : (codeAt [1, 1, 0, 0] (bodyOf Tryd.f146)) = .loop (codeAt [1, 1, 0, 0, 0] (bodyOf Tryd.f146))) ((h env rfl rfl rfl rfl).mono (mkK_mono (fun _ _ h => h.elim) (fun _ _ _ h => h) (fun _ _ h => h) (fun _ _ h => h))))
def m146_3 (x0 x1 x2 x7 : Value) (H : Heap) (kn : Value → Value → Value → Value → Heap → Prop) (kx0 : Value → Value → Heap → Prop) (Q : Ending → Heap → Prop) : Prop :=
oV (vInt .neq x1 (.int .u64 0)) fun t14_2 =>
oV (gV t14_2 false (some x2) (some undef)) fun t16_3 =>
oV (gV t14_2 false (some x0) (some undef)) fun t17_4 =>
oV (gV t14_2 false (vInt .gtr t16_3 t17_4) (some undef)) fun t18_5 =>
oV (vPick t14_2 (.bool true) t18_5) fun t19_6 =>
condK t19_6 (
oV (vInt .and x2 x0) fun t22_7 =>
oV (vInt .shr x2 x7) fun t25_8 =>
oV (vInt .sub (.int .u64 64) x7) fun t28_9 =>
oV (vInt .shl x1 t28_9) fun t29_10 =>
oV (vInt .or t25_8 t29_10) fun t30_11 =>
oV (vInt .shr x1 x7) fun t33_12 =>
oV (vAdd64 [t30_11, t22_7, (.int .u64 0)]) fun v_13 =>
oV (vExtract v_13 0) fun t38_15 =>
oV (vExtract v_13 1) fun t39_16 =>
oV (vInt .add t33_12 t39_16) fun t43_17 =>
kn x0 t43_17 t38_15 x7 H) (
kx0 x0 x2 H)
theorem c146_3 (env : Env) (H : Heap) (kn : Value → Value → Value → Value → Heap → Prop) (kx0 : Value → Value → Heap → Prop) (Q : Ending → Heap → Prop) (h : m146_3 (env 0) (env 1) (env 2) (env 7) H kn kx0 Q) :
    RCode Tryd.prog 48 (codeAt [1, 1, 0, 0, 0] (bodyOf Tryd.f146)) env H (mkK (fun e H => kn (e 0) (e 1) (e 2) (e 7) H) (inK 0 (fun e H => kx0 (e 0) (e 2) H) (fun _ _ _ => False)) (retK T Tryd.f146.results.toList Q) (fun c H => Q (.panicked c) H)) :=
  RCode.leaf_ (T := T) (X := ext) (hint := hint146) tok xok mixed (by kernel_rfl) h
theorem L146_2_round (x0 x1 x2 x7 : Value) (H : Heap) (kn : Value → Value → Heap → Prop) (Q : Ending → Heap → Prop) (h : m146_3 x0 x1 x2 x7 H (fun y0 y1 y2 y7 H => L146_2 y0 y1 y2 y7 H kn Q) kn Q) : L146_2 x0 x1 x2 x7 H kn Q := by
  intro env h0 h1 h2 h7
  subst h0; subst h1; subst h2; subst h7
  exact RLoop.round ((c146_3 env H (fun y0 y1 y2 y7 H => L146_2 y0 y1 y2 y7 H kn Q) kn Q h).mono (mkK_mono (fun e H h => h e rfl rfl rfl rfl) (fun _ _ _ h => h) (fun _ _ h => h) (fun _ _ h => h)))
def m146 (x0 x1 x2 : Value) (H : Heap) (Q : Ending → Heap → Prop) : Prop :=
oRC Tryd.prog 150 [x0] H (fun c H => Q (.panicked c) H) fun v_18 H_19 =>
L146_2 x0 x1 x2 v_18 H_19 (fun y0_20 y2_21 H_22 => m146_1 y0_20 y2_21 H_22 Q) Q
theorem c146_0 (env : Env) (H : Heap) (Q : Ending → Heap → Prop) (h : m146 (env 0) (env 1) (env 2) H Q) :
    RCode Tryd.prog 48 (bodyOf Tryd.f146) env H (mkK (retK T Tryd.f146.results.toList Q) (fun _ _ _ => False) (retK T Tryd.f146.results.toList Q) (fun c H => Q (.panicked c) H)) :=
  RCode.prefix_ (T := T) (X := ext) (hint := hint146) (hole := (fun e H => L146_2 (e 0) (e 1) (e 2) (e 7) H (fun y0_23 y2_24 H_25 => m146_1 y0_23 y2_24 H_25 Q) Q)) tok xok mixed 2 (by kernel_rfl) (by kernel_rfl : codeAt _ _ = (codeAt [1, 1] (bodyOf Tryd.f146))) h
    (fun e H h => RCode.join (by kernel_rfl : (codeAt [1, 1] (bodyOf Tryd.f146)) = .seq (codeAt [1, 1, 0] (bodyOf Tryd.f146)) (codeAt [1, 1, 1] (bodyOf Tryd.f146))) ((cL146_2 e H (fun y0_26 y2_27 H_28 => m146_1 y0_26 y2_27 H_28 Q) Q h).mono (mkK_mono (fun e H h => c146_1 e H Q h) (fun _ _ _ h => h) (fun _ _ h => h) (fun _ _ h => h))))
theorem call146 (a0 a1 a2 : Value) (H : Heap) (Q : Ending → Heap → Prop) (h : m146 a0 a1 a2 H Q) : RCalls Tryd.prog 146 [a0, a1, a2] H Q :=
  RCalls.intro (nt := 48) tok Tryd.func146 (by kernel_rfl) (by kernel_rfl) (by kernel_rfl) (of_decide_eq_true (by kernel_rfl)) (c146_0 (envOf [a0, a1, a2]) H Q h)
/-! ### 135: privity/field.Reduce -/
def hint135 : Nat → List Nat := lookupL []
def m135 (x0 x1 : Value) (H : Heap) (Q : Ending → Heap → Prop) : Prop :=
oRC Tryd.prog 146 [x0, (.int .u64 0), x1] H (fun c H => Q (.panicked c) H) fun v_1 H_2 =>
Q (.returned v_1) H_2
theorem c135_0 (env : Env) (H : Heap) (Q : Ending → Heap → Prop) (h : m135 (env 0) (env 1) H Q) :
    RCode Tryd.prog 8 (bodyOf Tryd.f135) env H (mkK (retK T Tryd.f135.results.toList Q) (fun _ _ _ => False) (retK T Tryd.f135.results.toList Q) (fun c H => Q (.panicked c) H)) :=
  RCode.leaf_ (T := T) (X := ext) (hint := hint135) tok xok mixed (by kernel_rfl) h
theorem call135 (a0 a1 : Value) (H : Heap) (Q : Ending → Heap → Prop) (h : m135 a0 a1 H Q) : RCalls Tryd.prog 135 [a0, a1] H Q :=
  RCalls.intro (nt := 8) tok Tryd.func135 (by kernel_rfl) (by kernel_rfl) (by kernel_rfl) (of_decide_eq_true (by kernel_rfl)) (c135_0 (envOf [a0, a1]) H Q h)
/-! ### 136: slices.Clone[[]uint64,uint64] -/
def hint136 : Nat → List Nat := lookupL []
def m136 (x0 : Value) (H : Heap) (Q : Ending → Heap → Prop) : Prop :=
oV (vNilOp .eql x0 (.slice none 0 0)) fun t4_1 =>
condK t4_1 (
Q (.returned (.slice none 0 0)) H) (
oBuildS ty22 22 0 [] H fun s_2 H_3 =>
oAppend ty22 22 s_2 x0 H_3 fun v_4 H_5 =>
Q (.returned v_4) H_5)
theorem c136_0 (env : Env) (H : Heap) (Q : Ending → Heap → Prop) (h : m136 (env 0) H Q) :
    RCode Tryd.prog 8 (bodyOf Tryd.f136) env H (mkK (retK T Tryd.f136.results.toList Q) (fun _ _ _ => False) (retK T Tryd.f136.results.toList Q) (fun c H => Q (.panicked c) H)) :=
  RCode.leaf_ (T := T) (X := ext) (hint := hint136) tok xok mixed (by kernel_rfl) h
theorem call136 (a0 : Value) (H : Heap) (Q : Ending → Heap → Prop) (h : m136 a0 H Q) : RCalls Tryd.prog 136 [a0] H Q :=
  RCalls.intro (nt := 8) tok Tryd.func136 (by kernel_rfl) (by kernel_rfl) (by kernel_rfl) (of_decide_eq_true (by kernel_rfl)) (c136_0 (envOf [a0]) H Q h)
/-! ### 137: privity/field.Add -/
def hint137 : Nat → List Nat := lookupL []
def m137 (x0 x1 x2 : Value) (H : Heap) (Q : Ending → Heap → Prop) : Prop :=
oV (vInt .add x1 x2) fun t10_1 =>
oRC Tryd.prog 146 [x0, (.int .u64 0), t10_1] H (fun c H => Q (.panicked c) H) fun v_2 H_3 =>
Q (.returned v_2) H_3
theorem c137_0 (env : Env) (H : Heap) (Q : Ending → Heap → Prop) (h : m137 (env 0) (env 1) (env 2) H Q) :
    RCode Tryd.prog 12 (bodyOf Tryd.f137) env H (mkK (retK T Tryd.f137.results.toList Q) (fun _ _ _ => False) (retK T Tryd.f137.results.toList Q) (fun c H => Q (.panicked c) H)) :=
  RCode.leaf_ (T := T) (X := ext) (hint := hint137) tok xok mixed (by kernel_rfl) h
theorem call137 (a0 a1 a2 : Value) (H : Heap) (Q : Ending → Heap → Prop) (h : m137 a0 a1 a2 H Q) : RCalls Tryd.prog 137 [a0, a1, a2] H Q :=
  RCalls.intro (nt := 12) tok Tryd.func137 (by kernel_rfl) (by kernel_rfl) (by kernel_rfl) (of_decide_eq_true (by kernel_rfl)) (c137_0 (envOf [a0, a1, a2]) H Q h)
/-! ### 138: privity/adversary.word -/
def hint138 : Nat → List Nat := lookupL []
def m138 (x0 x1 : Value) (H : Heap) (Q : Ending → Heap → Prop) : Prop :=
oV (vInt .lss x1 (.int .i64 0)) fun t6_1 =>
oV (gV t6_1 false (some x1) (some undef)) fun t8_2 =>
oV (gV t6_1 false (some x0) (some undef)) fun t9_3 =>
oV (gV t6_1 false (vLen t9_3) (some undef)) fun t10_4 =>
oV (gV t6_1 false (vInt .geq t8_2 t10_4) (some undef)) fun t11_5 =>
oV (vPick t6_1 (.bool true) t11_5) fun t12_6 =>
condK t12_6 (
Q (.returned (.int .u64 0)) H) (
oV (vIdxS 1 x0 x1) fun t15_7 =>
oV (vLoad ty22 t15_7 H) fun t16_8 =>
Q (.returned t16_8) H)
theorem c138_0 (env : Env) (H : Heap) (Q : Ending → Heap → Prop) (h : m138 (env 0) (env 1) H Q) :
    RCode Tryd.prog 17 (bodyOf Tryd.f138) env H (mkK (retK T Tryd.f138.results.toList Q) (fun _ _ _ => False) (retK T Tryd.f138.results.toList Q) (fun c H => Q (.panicked c) H)) :=
  RCode.leaf_ (T := T) (X := ext) (hint := hint138) tok xok mixed (by kernel_rfl) h
theorem call138 (a0 a1 : Value) (H : Heap) (Q : Ending → Heap → Prop) (h : m138 a0 a1 H Q) : RCalls Tryd.prog 138 [a0, a1] H Q :=
  RCalls.intro (nt := 17) tok Tryd.func138 (by kernel_rfl) (by kernel_rfl) (by kernel_rfl) (of_decide_eq_true (by kernel_rfl)) (c138_0 (envOf [a0, a1]) H Q h)
/-! ### 147: math/bits.Mul64 -/
def hint147 : Nat → List Nat := lookupL []
def m147 (x0 x1 : Value) (H : Heap) (Q : Ending → Heap → Prop) : Prop :=
oV (vInt .and x0 (.int .u64 4294967295)) fun t15_1 =>
oV (vInt .shr x0 (.int .u64 32)) fun t17_2 =>
oV (vInt .and x1 (.int .u64 4294967295)) fun t19_3 =>
oV (vInt .shr x1 (.int .u64 32)) fun t21_4 =>
oV (vInt .mul t15_1 t19_3) fun t24_5 =>
oV (vInt .mul t17_2 t19_3) fun t27_6 =>
oV (vInt .shr t24_5 (.int .u64 32)) fun t29_7 =>
oV (vInt .add t27_6 t29_7) fun t30_8 =>
oV (vInt .and t30_8 (.int .u64 4294967295)) fun t32_9 =>
oV (vInt .shr t30_8 (.int .u64 32)) fun t34_10 =>
oV (vInt .mul t15_1 t21_4) fun t38_11 =>
oV (vInt .add t32_9 t38_11) fun t39_12 =>
oV (vInt .mul t17_2 t21_4) fun t42_13 =>
oV (vInt .add t42_13 t34_10) fun t44_14 =>
oV (vInt .shr t39_12 (.int .u64 32)) fun t46_15 =>
oV (vInt .add t44_14 t46_15) fun t47_16 =>
oV (vInt .mul x0 x1) fun t50_17 =>
Q (.returned (.tuple #[t47_16, t50_17])) H
theorem c147_0 (env : Env) (H : Heap) (Q : Ending → Heap → Prop) (h : m147 (env 0) (env 1) H Q) :
    RCode Tryd.prog 51 (bodyOf Tryd.f147) env H (mkK (retK T Tryd.f147.results.toList Q) (fun _ _ _ => False) (retK T Tryd.f147.results.toList Q) (fun c H => Q (.panicked c) H)) :=
  RCode.leaf_ (T := T) (X := ext) (hint := hint147) tok xok mixed (by kernel_rfl) h
theorem call147 (a0 a1 : Value) (H : Heap) (Q : Ending → Heap → Prop) (h : m147 a0 a1 H Q) : RCalls Tryd.prog 147 [a0, a1] H Q :=
  RCalls.intro (nt := 51) tok Tryd.func147 (by kernel_rfl) (by kernel_rfl) (by kernel_rfl) (of_decide_eq_true (by kernel_rfl)) (c147_0 (envOf [a0, a1]) H Q h)
/-! ### 139: privity/field.Mul -/
def hint139 : Nat → List Nat := lookupL []
def m139 (x0 x1 x2 : Value) (H : Heap) (Q : Ending → Heap → Prop) : Prop :=
oRC Tryd.prog 147 [x1, x2] H (fun c H => Q (.panicked c) H) fun v_1 H_2 =>
oV (vExtract v_1 0) fun t13_3 =>
oV (vExtract v_1 1) fun t14_4 =>
oRC Tryd.prog 146 [x0, t13_3, t14_4] H_2 (fun c H => Q (.panicked c) H) fun v_5 H_6 =>
Q (.returned v_5) H_6
theorem c139_0 (env : Env) (H : Heap) (Q : Ending → Heap → Prop) (h : m139 (env 0) (env 1) (env 2) H Q) :
    RCode Tryd.prog 19 (bodyOf Tryd.f139) env H (mkK (retK T Tryd.f139.results.toList Q) (fun _ _ _ => False) (retK T Tryd.f139.results.toList Q) (fun c H => Q (.panicked c) H)) :=
  RCode.leaf_ (T := T) (X := ext) (hint := hint139) tok xok mixed (by kernel_rfl) h
theorem call139 (a0 a1 a2 : Value) (H : Heap) (Q : Ending → Heap → Prop) (h : m139 a0 a1 a2 H Q) : RCalls Tryd.prog 139 [a0, a1, a2] H Q :=
  RCalls.intro (nt := 19) tok Tryd.func139 (by kernel_rfl) (by kernel_rfl) (by kernel_rfl) (of_decide_eq_true (by kernel_rfl)) (c139_0 (envOf [a0, a1, a2]) H Q h)
/-! ### 111: privity/adversary.upon -/
def hint111 : Nat → List Nat := lookupL [(12, [0, 1, 2, 3, 4, 5, 6, 7, 8, 9, 10, 11, 12]), (17, [0, 1, 2, 3, 4, 5, 6, 7, 8, 9, 10, 11, 12, 13, 14, 15])]
def m111 (x0 x1 x2 x3 : Value) (H : Heap) (Q : Ending → Heap → Prop) : Prop :=
oNew (Value.cells x0).toList (Value.cells x0).toList.length 29 H fun i_1 H_2 =>
oNew (Value.cells x1).toList (Value.cells x1).toList.length 109 H_2 fun i_3 H_4 =>
oV (vField 4 (ptrTo i_3)) fun t12_5 =>
oV (vLoad ty3 t12_5 H_4) fun t13_6 =>
oV (vInt .eql t13_6 (.int .i64 4)) fun t14_7 =>
condK t14_7 (
Q (.returned (.slice none 0 0)) H_4) (
oV (vField 3 (ptrTo i_3)) fun t15_8 =>
oV (vLoad ty3 t15_8 H_4) fun t16_9 =>
oV (vLen x2) fun t18_10 =>
oV (vInt .geq t16_9 t18_10) fun t19_11 =>
condK t19_11 (
Q (.returned x2) H_4) (
oV (vField 0 (ptrTo i_1)) fun t21_12 =>
oV (vField 0 t21_12) fun t22_13 =>
oV (vLoad ty22 t22_13 H_4) fun t23_14 =>
oV (vField 5 (ptrTo i_3)) fun t25_15 =>
oV (vLoad ty22 t25_15 H_4) fun t26_16 =>
oRC Tryd.prog 135 [t23_14, t26_16] H_4 (fun c H => Q (.panicked c) H) fun v_17 H_18 =>
oRC Tryd.prog 136 [x2] H_18 (fun c H => Q (.panicked c) H) fun v_19 H_20 =>
oV (vField 4 (ptrTo i_3)) fun t30_21 =>
oV (vLoad ty3 t30_21 H_20) fun t31_22 =>
oV (vInt .eql t31_22 (.int .i64 1)) fun t33_23 =>
condK t33_23 (
oV (vField 3 (ptrTo i_3)) fun t35_24 =>
oV (vLoad ty3 t35_24 H_20) fun t36_25 =>
oV (vIdxS 1 v_19 t36_25) fun t38_26 =>
oHeap (vStore ty22 t38_26 v_17 H_20) fun H_27 =>
Q (.returned v_19) H_27) (
oV (vInt .eql t31_22 (.int .i64 2)) fun t40_28 =>
condK t40_28 (
oV (vField 3 (ptrTo i_3)) fun t42_29 =>
oV (vLoad ty3 t42_29 H_20) fun t43_30 =>
oV (vField 3 (ptrTo i_3)) fun t46_31 =>
oV (vLoad ty3 t46_31 H_20) fun t47_32 =>
oV (vIdxS 1 v_19 t47_32) fun t48_33 =>
oV (vLoad ty22 t48_33 H_20) fun t49_34 =>
oRC Tryd.prog 137 [t23_14, t49_34, v_17] H_20 noP fun v_35 H_36 =>
(vLoad ty3 t42_29 H_36 = some t43_30 ∧
oV (vIdxS 1 v_19 t43_30) fun t52_37 =>
oHeap (vStore ty22 t52_37 v_35 H_36) fun H_38 =>
Q (.returned v_19) H_38)) (
oV (vInt .eql t31_22 (.int .i64 3)) fun t54_39 =>
condK t54_39 (
oV (vField 3 (ptrTo i_1)) fun t55_40 =>
oV (vLoad ty25 t55_40 H_20) fun t56_41 =>
oV (vField 6 (ptrTo i_3)) fun t57_42 =>
oV (vLoad ty3 t57_42 H_20) fun t58_43 =>
oRC Tryd.prog 134 [t56_41, t58_43] H_20 (fun c H => Q (.panicked c) H) fun v_44 H_45 =>
oV (vUn .not v_44) fun t60_46 =>
condK t60_46 (
oV (vField 7 (ptrTo i_3)) fun t62_47 =>
oV (vLoad ty3 t62_47 H_45) fun t63_48 =>
oRC Tryd.prog 138 [x3, t63_48] H_45 (fun c H => Q (.panicked c) H) fun v_49 H_50 =>
oV (vField 3 (ptrTo i_3)) fun t66_51 =>
oV (vLoad ty3 t66_51 H_50) fun t67_52 =>
oV (vField 3 (ptrTo i_3)) fun t70_53 =>
oV (vLoad ty3 t70_53 H_50) fun t71_54 =>
oV (vIdxS 1 v_19 t71_54) fun t72_55 =>
oV (vLoad ty22 t72_55 H_50) fun t73_56 =>
oRC Tryd.prog 139 [t23_14, v_17, v_49] H_50 noP fun v_57 H_58 =>
(vLoad ty22 t72_55 H_58 = some t73_56 ∧
(vLoad ty3 t70_53 H_58 = some t71_54 ∧
(vLoad ty3 t66_51 H_58 = some t67_52 ∧
oRC Tryd.prog 137 [t23_14, t73_56, v_57] H_58 noP fun v_59 H_60 =>
(vLoad ty3 t66_51 H_60 = some t67_52 ∧
oV (vIdxS 1 v_19 t67_52) fun t79_61 =>
oHeap (vStore ty22 t79_61 v_59 H_60) fun H_62 =>
Q (.returned v_19) H_62))))) (
oV (vField 3 (ptrTo i_3)) fun t66_63 =>
oV (vLoad ty3 t66_63 H_45) fun t67_64 =>
oV (vField 3 (ptrTo i_3)) fun t70_65 =>
oV (vLoad ty3 t70_65 H_45) fun t71_66 =>
oV (vIdxS 1 v_19 t71_66) fun t72_67 =>
oV (vLoad ty22 t72_67 H_45) fun t73_68 =>
oRC Tryd.prog 139 [t23_14, v_17, (.int .u64 0)] H_45 noP fun v_69 H_70 =>
(vLoad ty22 t72_67 H_70 = some t73_68 ∧
(vLoad ty3 t70_65 H_70 = some t71_66 ∧
(vLoad ty3 t66_63 H_70 = some t67_64 ∧
oRC Tryd.prog 137 [t23_14, t73_68, v_69] H_70 noP fun v_71 H_72 =>
(vLoad ty3 t66_63 H_72 = some t67_64 ∧
oV (vIdxS 1 v_19 t67_64) fun t79_73 =>
oHeap (vStore ty22 t79_73 v_71 H_72) fun H_74 =>
Q (.returned v_19) H_74)))))) (
Q (.returned v_19) H_20)))))
theorem c111_0 (env : Env) (H : Heap) (Q : Ending → Heap → Prop) (h : m111 (env 0) (env 1) (env 2) (env 3) H Q) :
    RCode Tryd.prog 81 (bodyOf Tryd.f111) env H (mkK (retK T Tryd.f111.results.toList Q) (fun _ _ _ => False) (retK T Tryd.f111.results.toList Q) (fun c H => Q (.panicked c) H)) :=
  RCode.leaf_ (T := T) (X := ext) (hint := hint111) tok xok mixed (by kernel_rfl) h
theorem call111 (a0 a1 a2 a3 : Value) (H : Heap) (Q : Ending → Heap → Prop) (h : m111 a0 a1 a2 a3 H Q) : RCalls Tryd.prog 111 [a0, a1, a2, a3] H Q :=
  RCalls.intro (nt := 81) tok Tryd.func111 (by kernel_rfl) (by kernel_rfl) (by kernel_rfl) (of_decide_eq_true (by kernel_rfl)) (c111_0 (envOf [a0, a1, a2, a3]) H Q h)
/-! ### 80: privity/adversary.ApplyToMessages -/
def hint80 : Nat → List Nat := lookupL [(13, [0, 1, 2, 3, 4, 5, 6, 7, 8, 9, 10, 11]), (18, [0, 1, 2, 3, 4, 5, 6, 7, 8, 9, 10, 11, 12, 13, 14, 15, 16, 17, 18, 19, 20, 21])]
def m80_2 (x7 : Value) (H : Heap) (Q : Ending → Heap → Prop) : Prop :=
Q (.returned x7) H
theorem c80_2 (env : Env) (H : Heap) (Q : Ending → Heap → Prop) (h : m80_2 (env 7) H Q) :
    RCode Tryd.prog 107 (codeAt [1, 1, 1, 1] (bodyOf Tryd.f80)) env H (mkK (retK T Tryd.f80.results.toList Q) (fun _ _ _ => False) (retK T Tryd.f80.results.toList Q) (fun c H => Q (.panicked c) H)) :=
  RCode.leaf_ (T := T) (X := ext) (hint := hint80) tok xok mixed (by kernel_rfl) h
def L80_4 (x1 x2 x3 x7 x31 x32 x33 : Value) (H : Heap) (kn : Value → Heap → Prop) (Q : Ending → Heap → Prop) : Prop :=
  ∀ env : Env, env 1 = x1 → env 2 = x2 → env 3 = x3 → env 7 = x7 → env 31 = x31 → env 32 = x32 → env 33 = x33 → RLoop Tryd.prog 107 (codeAt [1, 1, 1, 0, 1, 0, 0] (bodyOf Tryd.f80)) env H (mkK (fun _ _ => False) (inK 2 (fun e H => kn (e 7) H) (fun _ _ _ => False)) (retK T Tryd.f80.results.toList Q) (fun c H => Q (.panicked c) H))
theorem cL80_4 (env : Env) (H : Heap) (kn : Value → Heap → Prop) (Q : Ending → Heap → Prop) (h : L80_4 (env 1) (env 2) (env 3) (env 7) (env 31) (env 32) (env 33) H kn Q) :
    RCode Tryd.prog 107 (codeAt [1, 1, 1, 0, 1] (bodyOf Tryd.f80)) env H (mkK (fun e H => kn (e 7) H) (fun _ _ _ => False) (retK T Tryd.f80.results.toList Q) (fun c H => Q (.panicked c) H)) :=
  RCode.blk (by kernel_rfl : (codeAt [1, 1, 1, 0, 1] (bodyOf Tryd.f80)) = .block 2 (codeAt [1, 1, 1, 0, 1, 0] (bodyOf Tryd.f80))) (RCode.lp (by kernel_rfl : (codeAt [1, 1, 1, 0, 1, 0] (bodyOf Tryd.f80)) = .loop (codeAt [1, 1, 1, 0, 1, 0, 0] (bodyOf Tryd.f80))) ((h env rfl rfl rfl rfl rfl rfl rfl).mono (mkK_mono (fun _ _ h => h.elim) (fun _ _ _ h => h) (fun _ _ h => h) (fun _ _ h => h))))
def m80_6 (x1 x2 x3 x7 x31 x32 x33 : Value) (H : Heap) (kn : Value → Value → Value → Value → Value → Value → Value → Heap → Prop) (kx2 : Value → Heap → Prop) (Q : Ending → Heap → Prop) : Prop :=
oV (vInt .add x33 (.int .i64 1)) fun t105_1 =>
kn x1 x2 x3 x7 x31 x32 t105_1 H
theorem c80_6 (env : Env) (H : Heap) (kn : Value → Value → Value → Value → Value → Value → Value → Heap → Prop) (kx2 : Value → Heap → Prop) (Q : Ending → Heap → Prop) (h : m80_6 (env 1) (env 2) (env 3) (env 7) (env 31) (env 32) (env 33) H kn kx2 Q) :
    RCode Tryd.prog 107 (codeAt [1, 1, 1, 0, 1, 0, 0, 1, 1, 1] (bodyOf Tryd.f80)) env H (mkK (fun e H => kn (e 1) (e 2) (e 3) (e 7) (e 31) (e 32) (e 33) H) (inK 2 (fun e H => kx2 (e 7) H) (fun _ _ _ => False)) (retK T Tryd.f80.results.toList Q) (fun c H => Q (.panicked c) H)) :=
  RCode.leaf_ (T := T) (X := ext) (hint := hint80) tok xok mixed (by kernel_rfl) h
def L80_10 (x1 x2 x3 x7 x11 x12 x31 x32 x33 x62 x63 : Value) (H : Heap) (kn : Value → Value → Value → Value → Value → Value → Value → Heap → Prop) (kx3 : Value → Value → Value → Value → Value → Value → Value → Heap → Prop) (kx2 : Value → Heap → Prop) (Q : Ending → Heap → Prop) : Prop :=
  ∀ env : Env, env 1 = x1 → env 2 = x2 → env 3 = x3 → env 7 = x7 → env 11 = x11 → env 12 = x12 → env 31 = x31 → env 32 = x32 → env 33 = x33 → env 62 = x62 → env 63 = x63 → RLoop Tryd.prog 107 (codeAt [1, 1, 1, 0, 1, 0, 0, 1, 1, 0, 0, 1, 1, 1, 1, 1, 0, 0] (bodyOf Tryd.f80)) env H (mkK (fun _ _ => False) (inK 4 (fun e H => kn (e 1) (e 2) (e 3) (e 7) (e 31) (e 32) (e 33) H) (inK 3 (fun e H => kx3 (e 1) (e 2) (e 3) (e 7) (e 31) (e 32) (e 33) H) (inK 2 (fun e H => kx2 (e 7) H) (fun _ _ _ => False)))) (retK T Tryd.f80.results.toList Q) (fun c H => Q (.panicked c) H))
theorem cL80_10 (env : Env) (H : Heap) (kn : Value → Value → Value → Value → Value → Value → Value → Heap → Prop) (kx3 : Value → Value → Value → Value → Value → Value → Value → Heap → Prop) (kx2 : Value → Heap → Prop) (Q : Ending → Heap → Prop) (h : L80_10 (env 1) (env 2) (env 3) (env 7) (env 11) (env 12) (env 31) (env 32) (env 33) (env 62) (env 63) H kn kx3 kx2 Q) :
    RCode Tryd.prog 107 (codeAt [1, 1, 1, 0, 1, 0, 0, 1, 1, 0, 0, 1, 1, 1, 1, 1] (bodyOf Tryd.f80)) env H (mkK (fun e H => kn (e 1) (e 2) (e 3) (e 7) (e 31) (e 32) (e 33) H) (inK 3 (fun e H => kx3 (e 1) (e 2) (e 3) (e 7) (e 31) (e 32) (e 33) H) (inK 2 (fun e H => kx2 (e 7) H) (fun _ _ _ => False))) (retK T Tryd.f80.results.toList Q) (fun c H => Q (.panicked c) H)) :=
  RCode.blk (by kernel_rfl : (codeAt [1, 1, 1, 0, 1, 0, 0, 1, 1, 0, 0, 1, 1, 1, 1, 1] (bodyOf Tryd.f80)) = .block 4 (codeAt [1, 1, 1, 0, 1, 0, 0, 1, 1, 0, 0, 1, 1, 1, 1, 1, 0] (bodyOf Tryd.f80))) (RCode.lp (by kernel_rfl : (codeAt [1, 1, 1, 0, 1, 0, 0, 1, 1, 0, 0, 1, 1, 1, 1, 1, 0] (bodyOf Tryd.f80)) = .loop (codeAt [1, 1, 1, 0, 1, 0, 0, 1, 1, 0, 0, 1, 1, 1, 1, 1, 0, 0] (bodyOf Tryd.f80))) ((h env rfl rfl rfl rfl rfl rfl rfl rfl rfl rfl rfl).mono (mkK_mono (fun _ _ h => h.elim) (fun _ _ _ h => h) (fun _ _ h => h) (fun _ _ h => h))))
def m80_11 (x1 x2 x3 x7 x11 x12 x31 x32 x33 x62 x63 : Value) (H : Heap) (kn : Value → Value → Value → Value → Value → Value → Value → Value → Value → Value → Value → Heap → Prop) (kx4 : Value → Value → Value → Value → Value → Value → Value → Heap → Prop) (kx3 : Value → Value → Value → Value → Value → Value → Value → Heap → Prop) (kx2 : Value → Heap → Prop) (Q : Ending → Heap → Prop) : Prop :=
oV (vInt .lss x63 x62) fun t64_2 =>
condK t64_2 (
oV (vInt .add x63 (.int .i64 1)) fun t67_3 =>
oV (vField 1 x11) fun t68_4 =>
oV (vLoad ty3 t68_4 H) fun t69_5 =>
oV (vInt .neq t67_3 t69_5) fun t70_6 =>
oV (gV t70_6 true (vField 2 x11) (some undef)) fun t72_7 =>
oV (gV t70_6 true (vLoad ty3 t72_7 H) (some undef)) fun t73_8 =>
oV (gV t70_6 true (vInt .eql t73_8 (.int .i64 0)) (some undef)) fun t74_9 =>
oV (gV t70_6 true (some t74_9) (some undef)) fun t75_10 =>
oV (gV t75_10 false (vField 2 x11) (some undef)) fun t76_11 =>
oV (gV t75_10 false (vLoad ty3 t76_11 H) (some undef)) fun t77_12 =>
oV (gV t75_10 false (some x63) (some undef)) fun t78_13 =>
oV (gV t75_10 false (vInt .add t78_13 (.int .i64 1)) (some undef)) fun t79_14 =>
oV (gV t75_10 false (vInt .eql t77_12 t79_14) (some undef)) fun t80_15 =>
oV (gV t70_6 true (vPick t75_10 (.bool true) t80_15) (some undef)) fun t81_16 =>
oV (vPick t70_6 t81_16 (.bool false)) fun t82_17 =>
condK t82_17 (
oV (vField 1 x11) fun t84_18 =>
oV (vLoad ty3 t84_18 H) fun t85_19 =>
oV (vInt .sub t85_19 (.int .i64 1)) fun t86_20 =>
oV (vIdxS 1 x7 t86_20) fun t87_21 =>
oV (vLoad ty27 t87_21 H) fun t88_22 =>
oV (vLoad ty29 x3 H) fun t90_23 =>
oV (vLoad ty109 x11 H) fun t91_24 =>
oV (vField 1 x11) fun t93_25 =>
oV (vLoad ty3 t93_25 H) fun t94_26 =>
oV (vInt .sub t94_26 (.int .i64 1)) fun t95_27 =>
oV (vIdxS 1 x7 t95_27) fun t96_28 =>
oV (vLoad ty27 t96_28 H) fun t97_29 =>
oV (vIdxS 1 t97_29 x63) fun t99_30 =>
oV (vLoad ty52 t99_30 H) fun t100_31 =>
oRC Tryd.prog 111 [t90_23, t91_24, t100_31, x12] H noP fun v_32 H_33 =>
(vLoad ty27 t87_21 H_33 = some t88_22 ∧
(vLoad ty3 t84_18 H_33 = some t85_19 ∧
oV (vIdxS 1 t88_22 x63) fun t103_34 =>
oHeap (vStore ty52 t103_34 v_32 H_33) fun H_35 =>
oV (vInt .add x63 (.int .i64 1)) fun t104_36 =>
kn x1 x2 x3 x7 x11 x12 x31 x32 x33 x62 t104_36 H_35))) (
oV (vInt .add x63 (.int .i64 1)) fun t104_37 =>
kn x1 x2 x3 x7 x11 x12 x31 x32 x33 x62 t104_37 H)) (
kx4 x1 x2 x3 x7 x31 x32 x33 H)
theorem c80_11 (env : Env) (H : Heap) (kn : Value → Value → Value → Value → Value → Value → Value → Value → Value → Value → Value → Heap → Prop) (kx4 : Value → Value → Value → Value → Value → Value → Value → Heap → Prop) (kx3 : Value → Value → Value → Value → Value → Value → Value → Heap → Prop) (kx2 : Value → Heap → Prop) (Q : Ending → Heap → Prop) (h : m80_11 (env 1) (env 2) (env 3) (env 7) (env 11) (env 12) (env 31) (env 32) (env 33) (env 62) (env 63) H kn kx4 kx3 kx2 Q) :
    RCode Tryd.prog 107 (codeAt [1, 1, 1, 0, 1, 0, 0, 1, 1, 0, 0, 1, 1, 1, 1, 1, 0, 0] (bodyOf Tryd.f80)) env H (mkK (fun e H => kn (e 1) (e 2) (e 3) (e 7) (e 11) (e 12) (e 31) (e 32) (e 33) (e 62) (e 63) H) (inK 4 (fun e H => kx4 (e 1) (e 2) (e 3) (e 7) (e 31) (e 32) (e 33) H) (inK 3 (fun e H => kx3 (e 1) (e 2) (e 3) (e 7) (e 31) (e 32) (e 33) H) (inK 2 (fun e H => kx2 (e 7) H) (fun _ _ _ => False)))) (retK T Tryd.f80.results.toList Q) (fun c H => Q (.panicked c) H)) :=
  RCode.leaf_ (T := T) (X := ext) (hint := hint80) tok xok mixed (by kernel_rfl) h
theorem L80_10_round (x1 x2 x3 x7 x11 x12 x31 x32 x33 x62 x63 : Value) (H : Heap) (kn : Value → Value → Value → Value → Value → Value → Value → Heap → Prop) (kx3 : Value → Value → Value → Value → Value → Value → Value → Heap → Prop) (kx2 : Value → Heap → Prop) (Q : Ending → Heap → Prop) (h : m80_11 x1 x2 x3 x7 x11 x12 x31 x32 x33 x62 x63 H (fun y1 y2 y3 y7 y11 y12 y31 y32 y33 y62 y63 H => L80_10 y1 y2 y3 y7 y11 y12 y31 y32 y33 y62 y63 H kn kx3 kx2 Q) kn kx3 kx2 Q) : L80_10 x1 x2 x3 x7 x11 x12 x31 x32 x33 x62 x63 H kn kx3 kx2 Q := by
  intro env h1 h2 h3 h7 h11 h12 h31 h32 h33 h62 h63
  subst h1; subst h2; subst h3; subst h7; subst h11; subst h12; subst h31; subst h32; subst h33; subst h62; subst h63
  exact RLoop.round ((c80_11 env H (fun y1 y2 y3 y7 y11 y12 y31 y32 y33 y62 y63 H => L80_10 y1 y2 y3 y7 y11 y12 y31 y32 y33 y62 y63 H kn kx3 kx2 Q) kn kx3 kx2 Q h).mono (mkK_mono (fun e H h => h e rfl rfl rfl rfl rfl rfl rfl rfl rfl rfl rfl) (fun _ _ _ h => h) (fun _ _ h => h) (fun _ _ h => h)))
def m80_9 (x1 x2 x3 x7 x11 x12 x31 x32 x33 : Value) (H : Heap) (kn : Value → Value → Value → Value → Value → Value → Value → Heap → Prop) (kx3 : Value → Value → Value → Value → Value → Value → Value → Heap → Prop) (kx2 : Value → Heap → Prop) (Q : Ending → Heap → Prop) : Prop :=
oV (vField 1 x11) fun t57_38 =>
oV (vLoad ty3 t57_38 H) fun t58_39 =>
oV (vInt .sub t58_39 (.int .i64 1)) fun t59_40 =>
oV (vIdxS 1 x7 t59_40) fun t60_41 =>
oV (vLoad ty27 t60_41 H) fun t61_42 =>
oV (vLen t61_42) fun t62_43 =>
L80_10 x1 x2 x3 x7 x11 x12 x31 x32 x33 t62_43 (.int .i64 0) H kn kx3 kx2 Q
theorem c80_9 (env : Env) (H : Heap) (kn : Value → Value → Value → Value → Value → Value → Value → Heap → Prop) (kx3 : Value → Value → Value → Value → Value → Value → Value → Heap → Prop) (kx2 : Value → Heap → Prop) (Q : Ending → Heap → Prop) (h : m80_9 (env 1) (env 2) (env 3) (env 7) (env 11) (env 12) (env 31) (env 32) (env 33) H kn kx3 kx2 Q) :
    RCode Tryd.prog 107 (codeAt [1, 1, 1, 0, 1, 0, 0, 1, 1, 0, 0, 1, 1, 1, 1] (bodyOf Tryd.f80)) env H (mkK (fun e H => kn (e 1) (e 2) (e 3) (e 7) (e 31) (e 32) (e 33) H) (inK 3 (fun e H => kx3 (e 1) (e 2) (e 3) (e 7) (e 31) (e 32) (e 33) H) (inK 2 (fun e H => kx2 (e 7) H) (fun _ _ _ => False))) (retK T Tryd.f80.results.toList Q) (fun c H => Q (.panicked c) H)) :=
  RCode.prefix_ (T := T) (X := ext) (hint := hint80) (hole := (fun e H => L80_10 (e 1) (e 2) (e 3) (e 7) (e 11) (e 12) (e 31) (e 32) (e 33) (e 62) (e 63) H kn kx3 kx2 Q)) tok xok mixed 1 (by kernel_rfl) (by kernel_rfl : codeAt _ _ = (codeAt [1, 1, 1, 0, 1, 0, 0, 1, 1, 0, 0, 1, 1, 1, 1, 1] (bodyOf Tryd.f80))) h
    (fun e H h => (cL80_10 e H kn kx3 kx2 Q h))
def m80_8 (x1 x2 x3 x7 x31 x32 x33 : Value) (H : Heap) (kn : Value → Value → Value → Value → Value → Value → Value → Heap → Prop) (kx3 : Value → Value → Value → Value → Value → Value → Value → Heap → Prop) (kx2 : Value → Heap → Prop) (Q : Ending → Heap → Prop) : Prop :=
oV (vIdxS 8 x31 x33) fun t35_44 =>
oV (vLoad ty109 t35_44 H) fun t36_45 =>
oNew (Value.cells ty109.zero).toList (Value.cells ty109.zero).toList.length 109 H fun i_46 H_47 =>
oHeap (vStore ty109 (ptrTo i_46) t36_45 H_47) fun H_48 =>
oV (vLoad ty29 x3 H_48) fun t37_49 =>
oV (vLoad ty109 (ptrTo i_46) H_48) fun t38_50 =>
oRC Tryd.prog 110 [t37_49, t38_50, x1] H_48 (fun c H => Q (.panicked c) H) fun v_51 H_52 =>
oV (vUn .not v_51) fun t41_53 =>
condK t41_53 (
kx3 x1 x2 x3 x7 x31 x32 x33 H_52) (
oV (vField 4 (ptrTo i_46)) fun t42_54 =>
oV (vLoad ty3 t42_54 H_52) fun t43_55 =>
oV (vInt .eql t43_55 (.int .i64 3)) fun t44_56 =>
condK t44_56 (
oV (vField 6 (ptrTo i_46)) fun t46_57 =>
oV (vLoad ty3 t46_57 H_52) fun t47_58 =>
oV (vInt .sub t47_58 (.int .i64 1)) fun t48_59 =>
oV (vIdxS 1 x2 t48_59) fun t49_60 =>
oV (vLoad ty27 t49_60 H_52) fun t50_61 =>
oV (vField 1 (ptrTo i_46)) fun t51_62 =>
oV (vLoad ty3 t51_62 H_52) fun t52_63 =>
oV (vInt .sub t52_63 (.int .i64 1)) fun t53_64 =>
oV (vIdxS 1 t50_61 t53_64) fun t54_65 =>
oV (vLoad ty52 t54_65 H_52) fun t55_66 =>
m80_9 x1 x2 x3 x7 (ptrTo i_46) t55_66 x31 x32 x33 H_52 kn kx3 kx2 Q) (
m80_9 x1 x2 x3 x7 (ptrTo i_46) (.slice none 0 0) x31 x32 x33 H_52 kn kx3 kx2 Q))
theorem c80_8 (env : Env) (H : Heap) (kn : Value → Value → Value → Value → Value → Value → Value → Heap → Prop) (kx3 : Value → Value → Value → Value → Value → Value → Value → Heap → Prop) (kx2 : Value → Heap → Prop) (Q : Ending → Heap → Prop) (h : m80_8 (env 1) (env 2) (env 3) (env 7) (env 31) (env 32) (env 33) H kn kx3 kx2 Q) :
    RCode Tryd.prog 107 (codeAt [1, 1, 1, 0, 1, 0, 0, 1, 1, 0, 0] (bodyOf Tryd.f80)) env H (mkK (fun e H => kn (e 1) (e 2) (e 3) (e 7) (e 31) (e 32) (e 33) H) (inK 3 (fun e H => kx3 (e 1) (e 2) (e 3) (e 7) (e 31) (e 32) (e 33) H) (inK 2 (fun e H => kx2 (e 7) H) (fun _ _ _ => False))) (retK T Tryd.f80.results.toList Q) (fun c H => Q (.panicked c) H)) :=
  RCode.prefix_ (T := T) (X := ext) (hint := hint80) (hole := (fun e H => m80_9 (e 1) (e 2) (e 3) (e 7) (e 11) (e 12) (e 31) (e 32) (e 33) H kn kx3 kx2 Q)) tok xok mixed 4 (by kernel_rfl) (by kernel_rfl : codeAt _ _ = (codeAt [1, 1, 1, 0, 1, 0, 0, 1, 1, 0, 0, 1, 1, 1, 1] (bodyOf Tryd.f80))) h
    (fun e H h => c80_9 e H kn kx3 kx2 Q h)
def m80_7 (x1 x2 x3 x7 x31 x32 x33 : Value) (H : Heap) (kn : Value → Value → Value → Value → Value → Value → Value → Heap → Prop) (kx2 : Value → Heap → Prop) (Q : Ending → Heap → Prop) : Prop :=
m80_8 x1 x2 x3 x7 x31 x32 x33 H kn kn kx2 Q
theorem c80_7 (env : Env) (H : Heap) (kn : Value → Value → Value → Value → Value → Value → Value → Heap → Prop) (kx2 : Value → Heap → Prop) (Q : Ending → Heap → Prop) (h : m80_7 (env 1) (env 2) (env 3) (env 7) (env 31) (env 32) (env 33) H kn kx2 Q) :
    RCode Tryd.prog 107 (codeAt [1, 1, 1, 0, 1, 0, 0, 1, 1, 0] (bodyOf Tryd.f80)) env H (mkK (fun e H => kn (e 1) (e 2) (e 3) (e 7) (e 31) (e 32) (e 33) H) (inK 2 (fun e H => kx2 (e 7) H) (fun _ _ _ => False)) (retK T Tryd.f80.results.toList Q) (fun c H => Q (.panicked c) H)) :=
  RCode.blk (by kernel_rfl : (codeAt [1, 1, 1, 0, 1, 0, 0, 1, 1, 0] (bodyOf Tryd.f80)) = .block 3 (codeAt [1, 1, 1, 0, 1, 0, 0, 1, 1, 0, 0] (bodyOf Tryd.f80))) (c80_8 env H kn kn kx2 Q h)
def m80_5 (x1 x2 x3 x7 x31 x32 x33 : Value) (H : Heap) (kn : Value → Value → Value → Value → Value → Value → Value → Heap → Prop) (kx2 : Value → Heap → Prop) (Q : Ending → Heap → Prop) : Prop :=
oV (vInt .lss x33 x32) fun t34_67 =>
condK t34_67 (
m80_7 x1 x2 x3 x7 x31 x32 x33 H (fun y1_68 y2_69 y3_70 y7_71 y31_72 y32_73 y33_74 H_75 => m80_6 y1_68 y2_69 y3_70 y7_71 y31_72 y32_73 y33_74 H_75 kn kx2 Q) kx2 Q) (
kx2 x7 H)
theorem c80_5 (env : Env) (H : Heap) (kn : Value → Value → Value → Value → Value → Value → Value → Heap → Prop) (kx2 : Value → Heap → Prop) (Q : Ending → Heap → Prop) (h : m80_5 (env 1) (env 2) (env 3) (env 7) (env 31) (env 32) (env 33) H kn kx2 Q) :
    RCode Tryd.prog 107 (codeAt [1, 1, 1, 0, 1, 0, 0] (bodyOf Tryd.f80)) env H (mkK (fun e H => kn (e 1) (e 2) (e 3) (e 7) (e 31) (e 32) (e 33) H) (inK 2 (fun e H => kx2 (e 7) H) (fun _ _ _ => False)) (retK T Tryd.f80.results.toList Q) (fun c H => Q (.panicked c) H)) :=
  RCode.prefix_ (T := T) (X := ext) (hint := hint80) (hole := (fun e H => m80_7 (e 1) (e 2) (e 3) (e 7) (e 31) (e 32) (e 33) H (fun y1_76 y2_77 y3_78 y7_79 y31_80 y32_81 y33_82 H_83 => m80_6 y1_76 y2_77 y3_78 y7_79 y31_80 y32_81 y33_82 H_83 kn kx2 Q) kx2 Q)) tok xok mixed 2 (by kernel_rfl) (by kernel_rfl : codeAt _ _ = (codeAt [1, 1, 1, 0, 1, 0, 0, 1, 1] (bodyOf Tryd.f80))) h
    (fun e H h => RCode.join (by kernel_rfl : (codeAt [1, 1, 1, 0, 1, 0, 0, 1, 1] (bodyOf Tryd.f80)) = .seq (codeAt [1, 1, 1, 0, 1, 0, 0, 1, 1, 0] (bodyOf Tryd.f80)) (codeAt [1, 1, 1, 0, 1, 0, 0, 1, 1, 1] (bodyOf Tryd.f80))) ((c80_7 e H (fun y1_84 y2_85 y3_86 y7_87 y31_88 y32_89 y33_90 H_91 => m80_6 y1_84 y2_85 y3_86 y7_87 y31_88 y32_89 y33_90 H_91 kn kx2 Q) kx2 Q h).mono (mkK_mono (fun e H h => c80_6 e H kn kx2 Q h) (fun _ _ _ h => h) (fun _ _ h => h) (fun _ _ h => h))))
theorem L80_4_round (x1 x2 x3 x7 x31 x32 x33 : Value) (H : Heap) (kn : Value → Heap → Prop) (Q : Ending → Heap → Prop) (h : m80_5 x1 x2 x3 x7 x31 x32 x33 H (fun y1 y2 y3 y7 y31 y32 y33 H => L80_4 y1 y2 y3 y7 y31 y32 y33 H kn Q) kn Q) : L80_4 x1 x2 x3 x7 x31 x32 x33 H kn Q := by
  intro env h1 h2 h3 h7 h31 h32 h33
  subst h1; subst h2; subst h3; subst h7; subst h31; subst h32; subst h33
  exact RLoop.round ((c80_5 env H (fun y1 y2 y3 y7 y31 y32 y33 H => L80_4 y1 y2 y3 y7 y31 y32 y33 H kn Q) kn Q h).mono (mkK_mono (fun e H h => h e rfl rfl rfl rfl rfl rfl rfl) (fun _ _ _ h => h) (fun _ _ h => h) (fun _ _ h => h)))
def m80_3 (x1 x2 x3 x7 : Value) (H : Heap) (kn : Value → Heap → Prop) (Q : Ending → Heap → Prop) : Prop :=
oV (vField 4 x3) fun t30_92 =>
oV (vLoad ty26 t30_92 H) fun t31_93 =>
oV (vLen t31_93) fun t32_94 =>
L80_4 x1 x2 x3 x7 t31_93 t32_94 (.int .i64 0) H kn Q
theorem c80_3 (env : Env) (H : Heap) (kn : Value → Heap → Prop) (Q : Ending → Heap → Prop) (h : m80_3 (env 1) (env 2) (env 3) (env 7) H kn Q) :
    RCode Tryd.prog 107 (codeAt [1, 1, 1, 0] (bodyOf Tryd.f80)) env H (mkK (fun e H => kn (e 7) H) (fun _ _ _ => False) (retK T Tryd.f80.results.toList Q) (fun c H => Q (.panicked c) H)) :=
  RCode.prefix_ (T := T) (X := ext) (hint := hint80) (hole := (fun e H => L80_4 (e 1) (e 2) (e 3) (e 7) (e 31) (e 32) (e 33) H kn Q)) tok xok mixed 1 (by kernel_rfl) (by kernel_rfl : codeAt _ _ = (codeAt [1, 1, 1, 0, 1] (bodyOf Tryd.f80))) h
    (fun e H h => (cL80_4 e H kn Q h))
def m80_1 (x1 x2 x3 x7 : Value) (H : Heap) (Q : Ending → Heap → Prop) : Prop :=
m80_3 x1 x2 x3 x7 H (fun y7_95 H_96 => m80_2 y7_95 H_96 Q) Q
theorem c80_1 (env : Env) (H : Heap) (Q : Ending → Heap → Prop) (h : m80_1 (env 1) (env 2) (env 3) (env 7) H Q) :
    RCode Tryd.prog 107 (codeAt [1, 1, 1] (bodyOf Tryd.f80)) env H (mkK (retK T Tryd.f80.results.toList Q) (fun _ _ _ => False) (retK T Tryd.f80.results.toList Q) (fun c H => Q (.panicked c) H)) :=
  RCode.join (by kernel_rfl : (codeAt [1, 1, 1] (bodyOf Tryd.f80)) = .seq (codeAt [1, 1, 1, 0] (bodyOf Tryd.f80)) (codeAt [1, 1, 1, 1] (bodyOf Tryd.f80))) ((c80_3 env H (fun y7_97 H_98 => m80_2 y7_97 H_98 Q) Q h).mono (mkK_mono (fun e H h => c80_2 e H Q h) (fun _ _ _ h => h) (fun _ _ h => h) (fun _ _ h => h)))
def L80_13 (x1 x2 x3 x7 x17 x18 x19 : Value) (H : Heap) (kn : Value → Value → Value → Value → Heap → Prop) (Q : Ending → Heap → Prop) : Prop :=
  ∀ env : Env, env 1 = x1 → env 2 = x2 → env 3 = x3 → env 7 = x7 → env 17 = x17 → env 18 = x18 → env 19 = x19 → RLoop Tryd.prog 107 (codeAt [1, 1, 0, 1, 0, 0] (bodyOf Tryd.f80)) env H (mkK (fun _ _ => False) (inK 0 (fun e H => kn (e 1) (e 2) (e 3) (e 7) H) (fun _ _ _ => False)) (retK T Tryd.f80.results.toList Q) (fun c H => Q (.panicked c) H))
theorem cL80_13 (env : Env) (H : Heap) (kn : Value → Value → Value → Value → Heap → Prop) (Q : Ending → Heap → Prop) (h : L80_13 (env 1) (env 2) (env 3) (env 7) (env 17) (env 18) (env 19) H kn Q) :
    RCode Tryd.prog 107 (codeAt [1, 1, 0, 1] (bodyOf Tryd.f80)) env H (mkK (fun e H => kn (e 1) (e 2) (e 3) (e 7) H) (fun _ _ _ => False) (retK T Tryd.f80.results.toList Q) (fun c H => Q (.panicked c) H)) :=
  RCode.blk (by kernel_rfl : (codeAt [1, 1, 0, 1] (bodyOf Tryd.f80)) = .block 0 (codeAt [1, 1, 0, 1, 0] (bodyOf Tryd.f80))) (RCode.lp (by kernel_rfl : (codeAt [1, 1, 0, 1, 0] (bodyOf Tryd.f80)) = .loop (codeAt [1, 1, 0, 1, 0, 0] (bodyOf Tryd.f80))) ((h env rfl rfl rfl rfl rfl rfl rfl).mono (mkK_mono (fun _ _ h => h.elim) (fun _ _ _ h => h) (fun _ _ h => h) (fun _ _ h => h))))
def m80_14 (x1 x2 x3 x7 x17 x18 x19 : Value) (H : Heap) (kn : Value → Value → Value → Value → Value → Value → Value → Heap → Prop) (kx0 : Value → Value → Value → Value → Heap → Prop) (Q : Ending → Heap → Prop) : Prop :=
oV (vInt .lss x19 x18) fun t20_99 =>
condK t20_99 (
oV (vIdxS 1 x17 x19) fun t22_100 =>
oV (vLoad ty27 t22_100 H) fun t23_101 =>
oRC Tryd.prog 109 [t23_101] H (fun c H => Q (.panicked c) H) fun v_102 H_103 =>
oV (vIdxS 1 x7 x19) fun t28_104 =>
oHeap (vStore ty27 t28_104 v_102 H_103) fun H_105 =>
oV (vInt .add x19 (.int .i64 1)) fun t29_106 =>
kn x1 x2 x3 x7 x17 x18 t29_106 H_105) (
kx0 x1 x2 x3 x7 H)
theorem c80_14 (env : Env) (H : Heap) (kn : Value → Value → Value → Value → Value → Value → Value → Heap → Prop) (kx0 : Value → Value → Value → Value → Heap → Prop) (Q : Ending → Heap → Prop) (h : m80_14 (env 1) (env 2) (env 3) (env 7) (env 17) (env 18) (env 19) H kn kx0 Q) :
    RCode Tryd.prog 107 (codeAt [1, 1, 0, 1, 0, 0] (bodyOf Tryd.f80)) env H (mkK (fun e H => kn (e 1) (e 2) (e 3) (e 7) (e 17) (e 18) (e 19) H) (inK 0 (fun e H => kx0 (e 1) (e 2) (e 3) (e 7) H) (fun _ _ _ => False)) (retK T Tryd.f80.results.toList Q) (fun c H => Q (.panicked c) H)) :=
  RCode.leaf_ (T := T) (X := ext) (hint := hint80) tok xok mixed (by kernel_rfl) h
theorem L80_13_round (x1 x2 x3 x7 x17 x18 x19 : Value) (H : Heap) (kn : Value → Value → Value → Value → Heap → Prop) (Q : Ending → Heap → Prop) (h : m80_14 x1 x2 x3 x7 x17 x18 x19 H (fun y1 y2 y3 y7 y17 y18 y19 H => L80_13 y1 y2 y3 y7 y17 y18 y19 H kn Q) kn Q) : L80_13 x1 x2 x3 x7 x17 x18 x19 H kn Q := by
  intro env h1 h2 h3 h7 h17 h18 h19
  subst h1; subst h2; subst h3; subst h7; subst h17; subst h18; subst h19
  exact RLoop.round ((c80_14 env H (fun y1 y2 y3 y7 y17 y18 y19 H => L80_13 y1 y2 y3 y7 y17 y18 y19 H kn Q) kn Q h).mono (mkK_mono (fun e H h => h e rfl rfl rfl rfl rfl rfl rfl) (fun _ _ _ h => h) (fun _ _ h => h) (fun _ _ h => h)))
def m80_12 (x1 x2 x3 x7 : Value) (H : Heap) (kn : Value → Value → Value → Value → Heap → Prop) (Q : Ending → Heap → Prop) : Prop :=
oV (vLen x2) fun t18_107 =>
L80_13 x1 x2 x3 x7 x2 t18_107 (.int .i64 0) H kn Q
theorem c80_12 (env : Env) (H : Heap) (kn : Value → Value → Value → Value → Heap → Prop) (Q : Ending → Heap → Prop) (h : m80_12 (env 1) (env 2) (env 3) (env 7) H kn Q) :
    RCode Tryd.prog 107 (codeAt [1, 1, 0] (bodyOf Tryd.f80)) env H (mkK (fun e H => kn (e 1) (e 2) (e 3) (e 7) H) (fun _ _ _ => False) (retK T Tryd.f80.results.toList Q) (fun c H => Q (.panicked c) H)) :=
  RCode.prefix_ (T := T) (X := ext) (hint := hint80) (hole := (fun e H => L80_13 (e 1) (e 2) (e 3) (e 7) (e 17) (e 18) (e 19) H kn Q)) tok xok mixed 1 (by kernel_rfl) (by kernel_rfl : codeAt _ _ = (codeAt [1, 1, 0, 1] (bodyOf Tryd.f80))) h
    (fun e H h => (cL80_13 e H kn Q h))
def m80 (x0 x1 x2 : Value) (H : Heap) (Q : Ending → Heap → Prop) : Prop :=
oNew (Value.cells x0).toList (Value.cells x0).toList.length 29 H fun i_108 H_109 =>
oV (vLen x2) fun t15_110 =>
oMake ty27 27 t15_110 t15_110 H_109 fun s_111 H_112 =>
m80_12 x1 x2 (ptrTo i_108) s_111 H_112 (fun y1_113 y2_114 y3_115 y7_116 H_117 => m80_1 y1_113 y2_114 y3_115 y7_116 H_117 Q) Q
theorem c80_0 (env : Env) (H : Heap) (Q : Ending → Heap → Prop) (h : m80 (env 0) (env 1) (env 2) H Q) :
    RCode Tryd.prog 107 (bodyOf Tryd.f80) env H (mkK (retK T Tryd.f80.results.toList Q) (fun _ _ _ => False) (retK T Tryd.f80.results.toList Q) (fun c H => Q (.panicked c) H)) :=
  RCode.prefix_ (T := T) (X := ext) (hint := hint80) (hole := (fun e H => m80_12 (e 1) (e 2) (e 3) (e 7) H (fun y1_118 y2_119 y3_120 y7_121 H_122 => m80_1 y1_118 y2_119 y3_120 y7_121 H_122 Q) Q)) tok xok mixed 2 (by kernel_rfl) (by kernel_rfl : codeAt _ _ = (codeAt [1, 1] (bodyOf Tryd.f80))) h
    (fun e H h => RCode.join (by kernel_rfl : (codeAt [1, 1] (bodyOf Tryd.f80)) = .seq (codeAt [1, 1, 0] (bodyOf Tryd.f80)) (codeAt [1, 1, 1] (bodyOf Tryd.f80))) ((c80_12 e H (fun y1_123 y2_124 y3_125 y7_126 H_127 => m80_1 y1_123 y2_124 y3_125 y7_126 H_127 Q) Q h).mono (mkK_mono (fun e H h => c80_1 e H Q h) (fun _ _ _ h => h) (fun _ _ h => h) (fun _ _ h => h))))
theorem call80 (a0 a1 a2 : Value) (H : Heap) (Q : Ending → Heap → Prop) (h : m80 a0 a1 a2 H Q) : RCalls Tryd.prog 80 [a0, a1, a2] H Q :=
  RCalls.intro (nt := 107) tok Tryd.func80 (by kernel_rfl) (by kernel_rfl) (by kernel_rfl) (of_decide_eq_true (by kernel_rfl)) (c80_0 (envOf [a0, a1, a2]) H Q h)
/-! ### 47: (*privity/network.Net).Send -/
def hint47 : Nat → List Nat := lookupL [(2, [0, 1, 2, 3, 4, 5, 6, 7, 8, 9, 10])]
def m47_1 (x0 x7 : Value) (H : Heap) (Q : Ending → Heap → Prop) : Prop :=
oV (vNil x0) fun t70_1 =>
oV (vField 6 t70_1) fun t71_2 =>
oV (vLoad ty3 t71_2 H) fun t72_3 =>
oV (vInt .add t72_3 (.int .i64 1)) fun t73_4 =>
oV (vNil x0) fun t74_5 =>
oV (vField 6 t74_5) fun t75_6 =>
oHeap (vStore ty3 t75_6 t73_4 H) fun H_7 =>
Q (.returned x7) H_7
theorem c47_1 (env : Env) (H : Heap) (Q : Ending → Heap → Prop) (h : m47_1 (env 0) (env 7) H Q) :
    RCode Tryd.prog 77 (codeAt [1, 1, 1, 1, 1] (bodyOf Tryd.f47)) env H (mkK (retK T Tryd.f47.results.toList Q) (fun _ _ _ => False) (retK T Tryd.f47.results.toList Q) (fun c H => Q (.panicked c) H)) :=
  RCode.leaf_ (T := T) (X := ext) (hint := hint47) tok xok mixed (by kernel_rfl) h
def L47_3 (x0 x5 x6 x7 x31 x32 : Value) (H : Heap) (kn : Value → Value → Heap → Prop) (Q : Ending → Heap → Prop) : Prop :=
  ∀ env : Env, env 0 = x0 → env 5 = x5 → env 6 = x6 → env 7 = x7 → env 31 = x31 → env 32 = x32 → RLoop Tryd.prog 77 (codeAt [1, 1, 1, 1, 0, 1, 0, 0] (bodyOf Tryd.f47)) env H (mkK (fun _ _ => False) (inK 0 (fun e H => kn (e 0) (e 7) H) (fun _ _ _ => False)) (retK T Tryd.f47.results.toList Q) (fun c H => Q (.panicked c) H))
theorem cL47_3 (env : Env) (H : Heap) (kn : Value → Value → Heap → Prop) (Q : Ending → Heap → Prop) (h : L47_3 (env 0) (env 5) (env 6) (env 7) (env 31) (env 32) H kn Q) :
    RCode Tryd.prog 77 (codeAt [1, 1, 1, 1, 0, 1] (bodyOf Tryd.f47)) env H (mkK (fun e H => kn (e 0) (e 7) H) (fun _ _ _ => False) (retK T Tryd.f47.results.toList Q) (fun c H => Q (.panicked c) H)) :=
  RCode.blk (by kernel_rfl : (codeAt [1, 1, 1, 1, 0, 1] (bodyOf Tryd.f47)) = .block 0 (codeAt [1, 1, 1, 1, 0, 1, 0] (bodyOf Tryd.f47))) (RCode.lp (by kernel_rfl : (codeAt [1, 1, 1, 1, 0, 1, 0] (bodyOf Tryd.f47)) = .loop (codeAt [1, 1, 1, 1, 0, 1, 0, 0] (bodyOf Tryd.f47))) ((h env rfl rfl rfl rfl rfl rfl).mono (mkK_mono (fun _ _ h => h.elim) (fun _ _ _ h => h) (fun _ _ h => h) (fun _ _ h => h))))
def m47_5 (x0 x5 x6 x7 x31 x32 : Value) (H : Heap) (kn : Value → Value → Value → Value → Value → Value → Heap → Prop) (kx0 : Value → Value → Heap → Prop) (Q : Ending → Heap → Prop) : Prop :=
oV (vInt .add x32 (.int .i64 1)) fun t68_8 =>
kn x0 x5 x6 x7 x31 t68_8 H
theorem c47_5 (env : Env) (H : Heap) (kn : Value → Value → Value → Value → Value → Value → Heap → Prop) (kx0 : Value → Value → Heap → Prop) (Q : Ending → Heap → Prop) (h : m47_5 (env 0) (env 5) (env 6) (env 7) (env 31) (env 32) H kn kx0 Q) :
    RCode Tryd.prog 77 (codeAt [1, 1, 1, 1, 0, 1, 0, 0, 1, 1, 1] (bodyOf Tryd.f47)) env H (mkK (fun e H => kn (e 0) (e 5) (e 6) (e 7) (e 31) (e 32) H) (inK 0 (fun e H => kx0 (e 0) (e 7) H) (fun _ _ _ => False)) (retK T Tryd.f47.results.toList Q) (fun c H => Q (.panicked c) H)) :=
  RCode.leaf_ (T := T) (X := ext) (hint := hint47) tok xok mixed (by kernel_rfl) h
def L47_8 (x0 x5 x6 x7 x8 x31 x32 x40 x41 : Value) (H : Heap) (kn : Value → Value → Value → Value → Value → Value → Heap → Prop) (kx1 : Value → Value → Value → Value → Value → Value → Heap → Prop) (kx0 : Value → Value → Heap → Prop) (Q : Ending → Heap → Prop) : Prop :=
  ∀ env : Env, env 0 = x0 → env 5 = x5 → env 6 = x6 → env 7 = x7 → env 8 = x8 → env 31 = x31 → env 32 = x32 → env 40 = x40 → env 41 = x41 → RLoop Tryd.prog 77 (codeAt [1, 1, 1, 1, 0, 1, 0, 0, 1, 1, 0, 0, 1, 1, 0, 0] (bodyOf Tryd.f47)) env H (mkK (fun _ _ => False) (inK 2 (fun e H => kn (e 0) (e 5) (e 6) (e 7) (e 31) (e 32) H) (inK 1 (fun e H => kx1 (e 0) (e 5) (e 6) (e 7) (e 31) (e 32) H) (inK 0 (fun e H => kx0 (e 0) (e 7) H) (fun _ _ _ => False)))) (retK T Tryd.f47.results.toList Q) (fun c H => Q (.panicked c) H))
theorem cL47_8 (env : Env) (H : Heap) (kn : Value → Value → Value → Value → Value → Value → Heap → Prop) (kx1 : Value → Value → Value → Value → Value → Value → Heap → Prop) (kx0 : Value → Value → Heap → Prop) (Q : Ending → Heap → Prop) (h : L47_8 (env 0) (env 5) (env 6) (env 7) (env 8) (env 31) (env 32) (env 40) (env 41) H kn kx1 kx0 Q) :
    RCode Tryd.prog 77 (codeAt [1, 1, 1, 1, 0, 1, 0, 0, 1, 1, 0, 0, 1, 1] (bodyOf Tryd.f47)) env H (mkK (fun e H => kn (e 0) (e 5) (e 6) (e 7) (e 31) (e 32) H) (inK 1 (fun e H => kx1 (e 0) (e 5) (e 6) (e 7) (e 31) (e 32) H) (inK 0 (fun e H => kx0 (e 0) (e 7) H) (fun _ _ _ => False))) (retK T Tryd.f47.results.toList Q) (fun c H => Q (.panicked c) H)) :=
  RCode.blk (by kernel_rfl : (codeAt [1, 1, 1, 1, 0, 1, 0, 0, 1, 1, 0, 0, 1, 1] (bodyOf Tryd.f47)) = .block 2 (codeAt [1, 1, 1, 1, 0, 1, 0, 0, 1, 1, 0, 0, 1, 1, 0] (bodyOf Tryd.f47))) (RCode.lp (by kernel_rfl : (codeAt [1, 1, 1, 1, 0, 1, 0, 0, 1, 1, 0, 0, 1, 1, 0] (bodyOf Tryd.f47)) = .loop (codeAt [1, 1, 1, 1, 0, 1, 0, 0, 1, 1, 0, 0, 1, 1, 0, 0] (bodyOf Tryd.f47))) ((h env rfl rfl rfl rfl rfl rfl rfl rfl rfl).mono (mkK_mono (fun _ _ h => h.elim) (fun _ _ _ h => h) (fun _ _ h => h) (fun _ _ h => h))))
def m47_9 (x0 x5 x6 x7 x8 x31 x32 x40 x41 : Value) (H : Heap) (kn : Value → Value → Value → Value → Value → Value → Value → Value → Value → Heap → Prop) (kx2 : Value → Value → Value → Value → Value → Value → Heap → Prop) (kx1 : Value → Value → Value → Value → Value → Value → Heap → Prop) (kx0 : Value → Value → Heap → Prop) (Q : Ending → Heap → Prop) : Prop :=
oV (vInt .lss x41 x40) fun t42_9 =>
condK t42_9 (
oV (vIdxS 1 x6 x41) fun t46_10 =>
oV (vLoad ty27 t46_10 H) fun t47_11 =>
oV (vIdxS 1 t47_11 x8) fun t49_12 =>
oV (vLoad ty52 t49_12 H) fun t50_13 =>
oAppend ty22 22 (.slice none 0 0) t50_13 H fun v_14 H_15 =>
oV (vIdxS 1 x7 x8) fun t56_16 =>
oV (vLoad ty27 t56_16 H_15) fun t57_17 =>
oBuildS ty52 52 1 [((0, 1), v_14)] H_15 fun s_18 H_19 =>
oAppend ty52 52 t57_17 s_18 H_19 fun v_20 H_21 =>
oV (vIdxS 1 x7 x8) fun t61_22 =>
oHeap (vStore ty27 t61_22 v_20 H_21) fun H_23 =>
oCl ext Tryd.prog x5 [x8, x41, v_14] H_23 (fun c H => Q (.panicked c) H) fun v_24 H_25 =>
oV (vInt .add x41 (.int .i64 1)) fun t67_26 =>
kn x0 x5 x6 x7 x8 x31 x32 x40 t67_26 H_25) (
kx2 x0 x5 x6 x7 x31 x32 H)
theorem c47_9 (env : Env) (H : Heap) (kn : Value → Value → Value → Value → Value → Value → Value → Value → Value → Heap → Prop) (kx2 : Value → Value → Value → Value → Value → Value → Heap → Prop) (kx1 : Value → Value → Value → Value → Value → Value → Heap → Prop) (kx0 : Value → Value → Heap → Prop) (Q : Ending → Heap → Prop) (h : m47_9 (env 0) (env 5) (env 6) (env 7) (env 8) (env 31) (env 32) (env 40) (env 41) H kn kx2 kx1 kx0 Q) :
    RCode Tryd.prog 77 (codeAt [1, 1, 1, 1, 0, 1, 0, 0, 1, 1, 0, 0, 1, 1, 0, 0] (bodyOf Tryd.f47)) env H (mkK (fun e H => kn (e 0) (e 5) (e 6) (e 7) (e 8) (e 31) (e 32) (e 40) (e 41) H) (inK 2 (fun e H => kx2 (e 0) (e 5) (e 6) (e 7) (e 31) (e 32) H) (inK 1 (fun e H => kx1 (e 0) (e 5) (e 6) (e 7) (e 31) (e 32) H) (inK 0 (fun e H => kx0 (e 0) (e 7) H) (fun _ _ _ => False)))) (retK T Tryd.f47.results.toList Q) (fun c H => Q (.panicked c) H)) :=
  RCode.leaf_ (T := T) (X := ext) (hint := hint47) tok xok mixed (by kernel_rfl) h
theorem L47_8_round (x0 x5 x6 x7 x8 x31 x32 x40 x41 : Value) (H : Heap) (kn : Value → Value → Value → Value → Value → Value → Heap → Prop) (kx1 : Value → Value → Value → Value → Value → Value → Heap → Prop) (kx0 : Value → Value → Heap → Prop) (Q : Ending → Heap → Prop) (h : m47_9 x0 x5 x6 x7 x8 x31 x32 x40 x41 H (fun y0 y5 y6 y7 y8 y31 y32 y40 y41 H => L47_8 y0 y5 y6 y7 y8 y31 y32 y40 y41 H kn kx1 kx0 Q) kn kx1 kx0 Q) : L47_8 x0 x5 x6 x7 x8 x31 x32 x40 x41 H kn kx1 kx0 Q := by
  intro env h0 h5 h6 h7 h8 h31 h32 h40 h41
  subst h0; subst h5; subst h6; subst h7; subst h8; subst h31; subst h32; subst h40; subst h41
  exact RLoop.round ((c47_9 env H (fun y0 y5 y6 y7 y8 y31 y32 y40 y41 H => L47_8 y0 y5 y6 y7 y8 y31 y32 y40 y41 H kn kx1 kx0 Q) kn kx1 kx0 Q h).mono (mkK_mono (fun e H h => h e rfl rfl rfl rfl rfl rfl rfl rfl rfl) (fun _ _ _ h => h) (fun _ _ h => h) (fun _ _ h => h)))
def m47_7 (x0 x5 x6 x7 x31 x32 : Value) (H : Heap) (kn : Value → Value → Value → Value → Value → Value → Heap → Prop) (kx1 : Value → Value → Value → Value → Value → Value → Heap → Prop) (kx0 : Value → Value → Heap → Prop) (Q : Ending → Heap → Prop) : Prop :=
oV (vNil x0) fun t36_27 =>
oV (vField 0 t36_27) fun t37_28 =>
oV (vField 0 t37_28) fun t38_29 =>
oV (vField 1 t38_29) fun t39_30 =>
oV (vLoad ty3 t39_30 H) fun t40_31 =>
L47_8 x0 x5 x6 x7 x32 x31 x32 t40_31 (.int .i64 0) H kn kx1 kx0 Q
theorem c47_7 (env : Env) (H : Heap) (kn : Value → Value → Value → Value → Value → Value → Heap → Prop) (kx1 : Value → Value → Value → Value → Value → Value → Heap → Prop) (kx0 : Value → Value → Heap → Prop) (Q : Ending → Heap → Prop) (h : m47_7 (env 0) (env 5) (env 6) (env 7) (env 31) (env 32) H kn kx1 kx0 Q) :
    RCode Tryd.prog 77 (codeAt [1, 1, 1, 1, 0, 1, 0, 0, 1, 1, 0, 0] (bodyOf Tryd.f47)) env H (mkK (fun e H => kn (e 0) (e 5) (e 6) (e 7) (e 31) (e 32) H) (inK 1 (fun e H => kx1 (e 0) (e 5) (e 6) (e 7) (e 31) (e 32) H) (inK 0 (fun e H => kx0 (e 0) (e 7) H) (fun _ _ _ => False))) (retK T Tryd.f47.results.toList Q) (fun c H => Q (.panicked c) H)) :=
  RCode.prefix_ (T := T) (X := ext) (hint := hint47) (hole := (fun e H => L47_8 (e 0) (e 5) (e 6) (e 7) (e 8) (e 31) (e 32) (e 40) (e 41) H kn kx1 kx0 Q)) tok xok mixed 2 (by kernel_rfl) (by kernel_rfl : codeAt _ _ = (codeAt [1, 1, 1, 1, 0, 1, 0, 0, 1, 1, 0, 0, 1, 1] (bodyOf Tryd.f47))) h
    (fun e H h => (cL47_8 e H kn kx1 kx0 Q h))
def m47_6 (x0 x5 x6 x7 x31 x32 : Value) (H : Heap) (kn : Value → Value → Value → Value → Value → Value → Heap → Prop) (kx0 : Value → Value → Heap → Prop) (Q : Ending → Heap → Prop) : Prop :=
m47_7 x0 x5 x6 x7 x31 x32 H kn kn kx0 Q
theorem c47_6 (env : Env) (H : Heap) (kn : Value → Value → Value → Value → Value → Value → Heap → Prop) (kx0 : Value → Value → Heap → Prop) (Q : Ending → Heap → Prop) (h : m47_6 (env 0) (env 5) (env 6) (env 7) (env 31) (env 32) H kn kx0 Q) :
    RCode Tryd.prog 77 (codeAt [1, 1, 1, 1, 0, 1, 0, 0, 1, 1, 0] (bodyOf Tryd.f47)) env H (mkK (fun e H => kn (e 0) (e 5) (e 6) (e 7) (e 31) (e 32) H) (inK 0 (fun e H => kx0 (e 0) (e 7) H) (fun _ _ _ => False)) (retK T Tryd.f47.results.toList Q) (fun c H => Q (.panicked c) H)) :=
  RCode.blk (by kernel_rfl : (codeAt [1, 1, 1, 1, 0, 1, 0, 0, 1, 1, 0] (bodyOf Tryd.f47)) = .block 1 (codeAt [1, 1, 1, 1, 0, 1, 0, 0, 1, 1, 0, 0] (bodyOf Tryd.f47))) (c47_7 env H kn kn kx0 Q h)
def m47_4 (x0 x5 x6 x7 x31 x32 : Value) (H : Heap) (kn : Value → Value → Value → Value → Value → Value → Heap → Prop) (kx0 : Value → Value → Heap → Prop) (Q : Ending → Heap → Prop) : Prop :=
oV (vInt .lss x32 x31) fun t33_32 =>
condK t33_32 (
m47_6 x0 x5 x6 x7 x31 x32 H (fun y0_33 y5_34 y6_35 y7_36 y31_37 y32_38 H_39 => m47_5 y0_33 y5_34 y6_35 y7_36 y31_37 y32_38 H_39 kn kx0 Q) kx0 Q) (
kx0 x0 x7 H)
theorem c47_4 (env : Env) (H : Heap) (kn : Value → Value → Value → Value → Value → Value → Heap → Prop) (kx0 : Value → Value → Heap → Prop) (Q : Ending → Heap → Prop) (h : m47_4 (env 0) (env 5) (env 6) (env 7) (env 31) (env 32) H kn kx0 Q) :
    RCode Tryd.prog 77 (codeAt [1, 1, 1, 1, 0, 1, 0, 0] (bodyOf Tryd.f47)) env H (mkK (fun e H => kn (e 0) (e 5) (e 6) (e 7) (e 31) (e 32) H) (inK 0 (fun e H => kx0 (e 0) (e 7) H) (fun _ _ _ => False)) (retK T Tryd.f47.results.toList Q) (fun c H => Q (.panicked c) H)) :=
  RCode.prefix_ (T := T) (X := ext) (hint := hint47) (hole := (fun e H => m47_6 (e 0) (e 5) (e 6) (e 7) (e 31) (e 32) H (fun y0_40 y5_41 y6_42 y7_43 y31_44 y32_45 H_46 => m47_5 y0_40 y5_41 y6_42 y7_43 y31_44 y32_45 H_46 kn kx0 Q) kx0 Q)) tok xok mixed 2 (by kernel_rfl) (by kernel_rfl : codeAt _ _ = (codeAt [1, 1, 1, 1, 0, 1, 0, 0, 1, 1] (bodyOf Tryd.f47))) h
    (fun e H h => RCode.join (by kernel_rfl : (codeAt [1, 1, 1, 1, 0, 1, 0, 0, 1, 1] (bodyOf Tryd.f47)) = .seq (codeAt [1, 1, 1, 1, 0, 1, 0, 0, 1, 1, 0] (bodyOf Tryd.f47)) (codeAt [1, 1, 1, 1, 0, 1, 0, 0, 1, 1, 1] (bodyOf Tryd.f47))) ((c47_6 e H (fun y0_47 y5_48 y6_49 y7_50 y31_51 y32_52 H_53 => m47_5 y0_47 y5_48 y6_49 y7_50 y31_51 y32_52 H_53 kn kx0 Q) kx0 Q h).mono (mkK_mono (fun e H h => c47_5 e H kn kx0 Q h) (fun _ _ _ h => h) (fun _ _ h => h) (fun _ _ h => h))))
theorem L47_3_round (x0 x5 x6 x7 x31 x32 : Value) (H : Heap) (kn : Value → Value → Heap → Prop) (Q : Ending → Heap → Prop) (h : m47_4 x0 x5 x6 x7 x31 x32 H (fun y0 y5 y6 y7 y31 y32 H => L47_3 y0 y5 y6 y7 y31 y32 H kn Q) kn Q) : L47_3 x0 x5 x6 x7 x31 x32 H kn Q := by
  intro env h0 h5 h6 h7 h31 h32
  subst h0; subst h5; subst h6; subst h7; subst h31; subst h32
  exact RLoop.round ((c47_4 env H (fun y0 y5 y6 y7 y31 y32 H => L47_3 y0 y5 y6 y7 y31 y32 H kn Q) kn Q h).mono (mkK_mono (fun e H h => h e rfl rfl rfl rfl rfl rfl) (fun _ _ _ h => h) (fun _ _ h => h) (fun _ _ h => h)))
def m47_2 (x0 x5 x6 x7 : Value) (H : Heap) (kn : Value → Value → Heap → Prop) (Q : Ending → Heap → Prop) : Prop :=
oV (vLen x7) fun t31_54 =>
L47_3 x0 x5 x6 x7 t31_54 (.int .i64 0) H kn Q
theorem c47_2 (env : Env) (H : Heap) (kn : Value → Value → Heap → Prop) (Q : Ending → Heap → Prop) (h : m47_2 (env 0) (env 5) (env 6) (env 7) H kn Q) :
    RCode Tryd.prog 77 (codeAt [1, 1, 1, 1, 0] (bodyOf Tryd.f47)) env H (mkK (fun e H => kn (e 0) (e 7) H) (fun _ _ _ => False) (retK T Tryd.f47.results.toList Q) (fun c H => Q (.panicked c) H)) :=
  RCode.prefix_ (T := T) (X := ext) (hint := hint47) (hole := (fun e H => L47_3 (e 0) (e 5) (e 6) (e 7) (e 31) (e 32) H kn Q)) tok xok mixed 1 (by kernel_rfl) (by kernel_rfl : codeAt _ _ = (codeAt [1, 1, 1, 1, 0, 1] (bodyOf Tryd.f47))) h
    (fun e H h => (cL47_3 e H kn Q h))
def m47 (x0 x1 : Value) (H : Heap) (Q : Ending → Heap → Prop) : Prop :=
oV (vNil x0) fun t14_55 =>
oV (vField 0 t14_55) fun t15_56 =>
oV (vLoad ty29 t15_56 H) fun t16_57 =>
oV (vNil x0) fun t18_58 =>
oV (vField 6 t18_58) fun t19_59 =>
oV (vLoad ty3 t19_59 H) fun t20_60 =>
oRC Tryd.prog 80 [t16_57, t20_60, x1] H noP fun v_61 H_62 =>
oV (vNil x0) fun t24_63 =>
oV (vField 0 t24_63) fun t25_64 =>
oV (vField 0 t25_64) fun t26_65 =>
oV (vField 1 t26_65) fun t27_66 =>
oV (vLoad ty3 t27_66 H_62) fun t28_67 =>
oMake ty27 27 t28_67 t28_67 H_62 fun s_68 H_69 =>
m47_2 x0 (.func (.func 79) #[x0] #[]) v_61 s_68 H_69 (fun y0_70 y7_71 H_72 => m47_1 y0_70 y7_71 H_72 Q) Q
theorem c47_0 (env : Env) (H : Heap) (Q : Ending → Heap → Prop) (h : m47 (env 0) (env 1) H Q) :
    RCode Tryd.prog 77 (bodyOf Tryd.f47) env H (mkK (retK T Tryd.f47.results.toList Q) (fun _ _ _ => False) (retK T Tryd.f47.results.toList Q) (fun c H => Q (.panicked c) H)) :=
  RCode.prefix_ (T := T) (X := ext) (hint := hint47) (hole := (fun e H => m47_2 (e 0) (e 5) (e 6) (e 7) H (fun y0_73 y7_74 H_75 => m47_1 y0_73 y7_74 H_75 Q) Q)) tok xok mixed 4 (by kernel_rfl) (by kernel_rfl : codeAt _ _ = (codeAt [1, 1, 1, 1] (bodyOf Tryd.f47))) h
    (fun e H h => RCode.join (by kernel_rfl : (codeAt [1, 1, 1, 1] (bodyOf Tryd.f47)) = .seq (codeAt [1, 1, 1, 1, 0] (bodyOf Tryd.f47)) (codeAt [1, 1, 1, 1, 1] (bodyOf Tryd.f47))) ((c47_2 e H (fun y0_76 y7_77 H_78 => m47_1 y0_76 y7_77 H_78 Q) Q h).mono (mkK_mono (fun e H h => c47_1 e H Q h) (fun _ _ _ h => h) (fun _ _ h => h) (fun _ _ h => h))))
theorem call47 (a0 a1 : Value) (H : Heap) (Q : Ending → Heap → Prop) (h : m47 a0 a1 H Q) : RCalls Tryd.prog 47 [a0, a1] H Q :=
  RCalls.intro (nt := 77) tok Tryd.func47 (by kernel_rfl) (by kernel_rfl) (by kernel_rfl) (of_decide_eq_true (by kernel_rfl)) (c47_0 (envOf [a0, a1]) H Q h)
/-! ### 81: privity/adversary.ApplyToBroadcasts -/
def hint81 : Nat → List Nat := lookupL [(9, [0, 1, 2, 3, 4, 5, 6, 7, 8, 9, 10, 11, 12, 13, 14, 15])]
def m81_1 (x7 : Value) (H : Heap) (Q : Ending → Heap → Prop) : Prop :=
Q (.returned x7) H
theorem c81_1 (env : Env) (H : Heap) (Q : Ending → Heap → Prop) (h : m81_1 (env 7) H Q) :
    RCode Tryd.prog 51 (codeAt [1, 1, 1] (bodyOf Tryd.f81)) env H (mkK (retK T Tryd.f81.results.toList Q) (fun _ _ _ => False) (retK T Tryd.f81.results.toList Q) (fun c H => Q (.panicked c) H)) :=
  RCode.leaf_ (T := T) (X := ext) (hint := hint81) tok xok mixed (by kernel_rfl) h
def L81_3 (x1 x2 x3 x7 x14 x15 x16 : Value) (H : Heap) (kn : Value → Heap → Prop) (Q : Ending → Heap → Prop) : Prop :=
  ∀ env : Env, env 1 = x1 → env 2 = x2 → env 3 = x3 → env 7 = x7 → env 14 = x14 → env 15 = x15 → env 16 = x16 → RLoop Tryd.prog 51 (codeAt [1, 1, 0, 1, 0, 0] (bodyOf Tryd.f81)) env H (mkK (fun _ _ => False) (inK 0 (fun e H => kn (e 7) H) (fun _ _ _ => False)) (retK T Tryd.f81.results.toList Q) (fun c H => Q (.panicked c) H))
theorem cL81_3 (env : Env) (H : Heap) (kn : Value → Heap → Prop) (Q : Ending → Heap → Prop) (h : L81_3 (env 1) (env 2) (env 3) (env 7) (env 14) (env 15) (env 16) H kn Q) :
    RCode Tryd.prog 51 (codeAt [1, 1, 0, 1] (bodyOf Tryd.f81)) env H (mkK (fun e H => kn (e 7) H) (fun _ _ _ => False) (retK T Tryd.f81.results.toList Q) (fun c H => Q (.panicked c) H)) :=
  RCode.blk (by kernel_rfl : (codeAt [1, 1, 0, 1] (bodyOf Tryd.f81)) = .block 0 (codeAt [1, 1, 0, 1, 0] (bodyOf Tryd.f81))) (RCode.lp (by kernel_rfl : (codeAt [1, 1, 0, 1, 0] (bodyOf Tryd.f81)) = .loop (codeAt [1, 1, 0, 1, 0, 0] (bodyOf Tryd.f81))) ((h env rfl rfl rfl rfl rfl rfl rfl).mono (mkK_mono (fun _ _ h => h.elim) (fun _ _ _ h => h) (fun _ _ h => h) (fun _ _ h => h))))
def m81_4 (x1 x2 x3 x7 x14 x15 x16 : Value) (H : Heap) (kn : Value → Value → Value → Value → Value → Value → Value → Heap → Prop) (kx0 : Value → Heap → Prop) (Q : Ending → Heap → Prop) : Prop :=
oV (vInt .lss x16 x15) fun t17_1 =>
condK t17_1 (
oV (vIdxS 8 x14 x16) fun t18_2 =>
oV (vLoad ty109 t18_2 H) fun t19_3 =>
oNew (Value.cells ty109.zero).toList (Value.cells ty109.zero).toList.length 109 H fun i_4 H_5 =>
oHeap (vStore ty109 (ptrTo i_4) t19_3 H_5) fun H_6 =>
oV (vLoad ty29 x3 H_6) fun t20_7 =>
oV (vLoad ty109 (ptrTo i_4) H_6) fun t21_8 =>
oRC Tryd.prog 110 [t20_7, t21_8, x1] H_6 (fun c H => Q (.panicked c) H) fun v_9 H_10 =>
oV (vUn .not v_9) fun t24_11 =>
condK t24_11 (
oV (vInt .add x16 (.int .i64 1)) fun t49_12 =>
kn x1 x2 x3 x7 x14 x15 t49_12 H_10) (
oV (vField 4 (ptrTo i_4)) fun t25_13 =>
oV (vLoad ty3 t25_13 H_10) fun t26_14 =>
oV (vInt .eql t26_14 (.int .i64 3)) fun t27_15 =>
condK t27_15 (
oV (vField 6 (ptrTo i_4)) fun t29_16 =>
oV (vLoad ty3 t29_16 H_10) fun t30_17 =>
oV (vInt .sub t30_17 (.int .i64 1)) fun t31_18 =>
oV (vIdxS 1 x2 t31_18) fun t32_19 =>
oV (vLoad ty52 t32_19 H_10) fun t33_20 =>
oV (vField 1 (ptrTo i_4)) fun t35_21 =>
oV (vLoad ty3 t35_21 H_10) fun t36_22 =>
oV (vInt .sub t36_22 (.int .i64 1)) fun t37_23 =>
oV (vLoad ty29 x3 H_10) fun t38_24 =>
oV (vLoad ty109 (ptrTo i_4) H_10) fun t39_25 =>
oV (vField 1 (ptrTo i_4)) fun t41_26 =>
oV (vLoad ty3 t41_26 H_10) fun t42_27 =>
oV (vInt .sub t42_27 (.int .i64 1)) fun t43_28 =>
oV (vIdxS 1 x7 t43_28) fun t44_29 =>
oV (vLoad ty52 t44_29 H_10) fun t45_30 =>
oRC Tryd.prog 111 [t38_24, t39_25, t45_30, t33_20] H_10 noP fun v_31 H_32 =>
(vLoad ty3 t35_21 H_32 = some t36_22 ∧
oV (vIdxS 1 x7 t37_23) fun t48_33 =>
oHeap (vStore ty52 t48_33 v_31 H_32) fun H_34 =>
oV (vInt .add x16 (.int .i64 1)) fun t49_35 =>
kn x1 x2 x3 x7 x14 x15 t49_35 H_34)) (
oV (vField 1 (ptrTo i_4)) fun t35_36 =>
oV (vLoad ty3 t35_36 H_10) fun t36_37 =>
oV (vInt .sub t36_37 (.int .i64 1)) fun t37_38 =>
oV (vLoad ty29 x3 H_10) fun t38_39 =>
oV (vLoad ty109 (ptrTo i_4) H_10) fun t39_40 =>
oV (vField 1 (ptrTo i_4)) fun t41_41 =>
oV (vLoad ty3 t41_41 H_10) fun t42_42 =>
oV (vInt .sub t42_42 (.int .i64 1)) fun t43_43 =>
oV (vIdxS 1 x7 t43_43) fun t44_44 =>
oV (vLoad ty52 t44_44 H_10) fun t45_45 =>
oRC Tryd.prog 111 [t38_39, t39_40, t45_45, (.slice none 0 0)] H_10 noP fun v_46 H_47 =>
(vLoad ty3 t35_36 H_47 = some t36_37 ∧
oV (vIdxS 1 x7 t37_38) fun t48_48 =>
oHeap (vStore ty52 t48_48 v_46 H_47) fun H_49 =>
oV (vInt .add x16 (.int .i64 1)) fun t49_50 =>
kn x1 x2 x3 x7 x14 x15 t49_50 H_49)))) (
kx0 x7 H)
theorem c81_4 (env : Env) (H : Heap) (kn : Value → Value → Value → Value → Value → Value → Value → Heap → Prop) (kx0 : Value → Heap → Prop) (Q : Ending → Heap → Prop) (h : m81_4 (env 1) (env 2) (env 3) (env 7) (env 14) (env 15) (env 16) H kn kx0 Q) :
    RCode Tryd.prog 51 (codeAt [1, 1, 0, 1, 0, 0] (bodyOf Tryd.f81)) env H (mkK (fun e H => kn (e 1) (e 2) (e 3) (e 7) (e 14) (e 15) (e 16) H) (inK 0 (fun e H => kx0 (e 7) H) (fun _ _ _ => False)) (retK T Tryd.f81.results.toList Q) (fun c H => Q (.panicked c) H)) :=
  RCode.leaf_ (T := T) (X := ext) (hint := hint81) tok xok mixed (by kernel_rfl) h
theorem L81_3_round (x1 x2 x3 x7 x14 x15 x16 : Value) (H : Heap) (kn : Value → Heap → Prop) (Q : Ending → Heap → Prop) (h : m81_4 x1 x2 x3 x7 x14 x15 x16 H (fun y1 y2 y3 y7 y14 y15 y16 H => L81_3 y1 y2 y3 y7 y14 y15 y16 H kn Q) kn Q) : L81_3 x1 x2 x3 x7 x14 x15 x16 H kn Q := by
  intro env h1 h2 h3 h7 h14 h15 h16
  subst h1; subst h2; subst h3; subst h7; subst h14; subst h15; subst h16
  exact RLoop.round ((c81_4 env H (fun y1 y2 y3 y7 y14 y15 y16 H => L81_3 y1 y2 y3 y7 y14 y15 y16 H kn Q) kn Q h).mono (mkK_mono (fun e H h => h e rfl rfl rfl rfl rfl rfl rfl) (fun _ _ _ h => h) (fun _ _ h => h) (fun _ _ h => h)))
def m81_2 (x1 x2 x3 x7 : Value) (H : Heap) (kn : Value → Heap → Prop) (Q : Ending → Heap → Prop) : Prop :=
oV (vField 4 x3) fun t13_51 =>
oV (vLoad ty26 t13_51 H) fun t14_52 =>
oV (vLen t14_52) fun t15_53 =>
L81_3 x1 x2 x3 x7 t14_52 t15_53 (.int .i64 0) H kn Q
theorem c81_2 (env : Env) (H : Heap) (kn : Value → Heap → Prop) (Q : Ending → Heap → Prop) (h : m81_2 (env 1) (env 2) (env 3) (env 7) H kn Q) :
    RCode Tryd.prog 51 (codeAt [1, 1, 0] (bodyOf Tryd.f81)) env H (mkK (fun e H => kn (e 7) H) (fun _ _ _ => False) (retK T Tryd.f81.results.toList Q) (fun c H => Q (.panicked c) H)) :=
  RCode.prefix_ (T := T) (X := ext) (hint := hint81) (hole := (fun e H => L81_3 (e 1) (e 2) (e 3) (e 7) (e 14) (e 15) (e 16) H kn Q)) tok xok mixed 1 (by kernel_rfl) (by kernel_rfl : codeAt _ _ = (codeAt [1, 1, 0, 1] (bodyOf Tryd.f81))) h
    (fun e H h => (cL81_3 e H kn Q h))
def m81 (x0 x1 x2 : Value) (H : Heap) (Q : Ending → Heap → Prop) : Prop :=
oNew (Value.cells x0).toList (Value.cells x0).toList.length 29 H fun i_54 H_55 =>
oRC Tryd.prog 109 [x2] H_55 (fun c H => Q (.panicked c) H) fun v_56 H_57 =>
m81_2 x1 x2 (ptrTo i_54) v_56 H_57 (fun y7_58 H_59 => m81_1 y7_58 H_59 Q) Q
theorem c81_0 (env : Env) (H : Heap) (Q : Ending → Heap → Prop) (h : m81 (env 0) (env 1) (env 2) H Q) :
    RCode Tryd.prog 51 (bodyOf Tryd.f81) env H (mkK (retK T Tryd.f81.results.toList Q) (fun _ _ _ => False) (retK T Tryd.f81.results.toList Q) (fun c H => Q (.panicked c) H)) :=
  RCode.prefix_ (T := T) (X := ext) (hint := hint81) (hole := (fun e H => m81_2 (e 1) (e 2) (e 3) (e 7) H (fun y7_60 H_61 => m81_1 y7_60 H_61 Q) Q)) tok xok mixed 2 (by kernel_rfl) (by kernel_rfl : codeAt _ _ = (codeAt [1, 1] (bodyOf Tryd.f81))) h
    (fun e H h => RCode.join (by kernel_rfl : (codeAt [1, 1] (bodyOf Tryd.f81)) = .seq (codeAt [1, 1, 0] (bodyOf Tryd.f81)) (codeAt [1, 1, 1] (bodyOf Tryd.f81))) ((c81_2 e H (fun y7_62 H_63 => m81_1 y7_62 H_63 Q) Q h).mono (mkK_mono (fun e H h => c81_1 e H Q h) (fun _ _ _ h => h) (fun _ _ h => h) (fun _ _ h => h))))
theorem call81 (a0 a1 a2 : Value) (H : Heap) (Q : Ending → Heap → Prop) (h : m81 a0 a1 a2 H Q) : RCalls Tryd.prog 81 [a0, a1, a2] H Q :=
  RCalls.intro (nt := 51) tok Tryd.func81 (by kernel_rfl) (by kernel_rfl) (by kernel_rfl) (of_decide_eq_true (by kernel_rfl)) (c81_0 (envOf [a0, a1, a2]) H Q h)
end Go.Proofs.YtchhpagkdaaglaaDoor.SL
