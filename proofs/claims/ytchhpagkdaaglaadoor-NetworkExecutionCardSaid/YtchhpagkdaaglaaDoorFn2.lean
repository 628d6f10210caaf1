/- PRINTED by program: for each function what its code asks of what is known, and that it suffices. Not trusted: Lean checks it. -/
import Derived.Test.YtchhpagkdaaglaaDoorTab
set_option linter.unusedVariables false
set_option linter.unusedSimpArgs false
set_option maxRecDepth 100000
namespace Go.Proofs.YtchhpagkdaaglaaDoor.SL
open Go
/-! ### 58: (*privity/privityref14.Net).Broadcast -/
def hint58 : Nat → List Nat := lookupL [(1, [0, 1, 2, 3, 4, 5, 6, 7, 8, 9, 10])]
def m58_1 (x0 x6 : Value) (H : Heap) (Q : Ending → Heap → Prop) : Prop :=
oV (vNil x0) fun t56_1 =>
oV (vField 6 t56_1) fun t57_2 =>
oV (vLoad ty3 t57_2 H) fun t58_3 =>
oV (vInt .add t58_3 (.int .i64 1)) fun t59_4 =>
oV (vNil x0) fun t60_5 =>
oV (vField 6 t60_5) fun t61_6 =>
oHeap (vStore ty3 t61_6 t59_4 H) fun H_7 =>
Q (.returned x6) H_7
theorem c58_1 (env : Env) (H : Heap) (Q : Ending → Heap → Prop) (h : m58_1 (env 0) (env 6) H Q) :
    RCode Tryd.prog 63 (codeAt [1, 1, 1, 1] (bodyOf Tryd.f58)) env H (mkK (retK T Tryd.f58.results.toList Q) (fun _ _ _ => False) (retK T Tryd.f58.results.toList Q) (fun c H => Q (.panicked c) H)) :=
  RCode.leaf_ (T := T) (X := ext) (hint := hint58) tok xok mixed (by kernel_rfl) h
def L58_3 (x0 x5 x6 x7 : Value) (H : Heap) (kn : Value → Value → Heap → Prop) (Q : Ending → Heap → Prop) : Prop :=
  ∀ env : Env, env 0 = x0 → env 5 = x5 → env 6 = x6 → env 7 = x7 → RLoop Tryd.prog 63 (codeAt [1, 1, 1, 0, 1, 0, 0] (bodyOf Tryd.f58)) env H (mkK (fun _ _ => False) (inK 0 (fun e H => kn (e 0) (e 6) H) (fun _ _ _ => False)) (retK T Tryd.f58.results.toList Q) (fun c H => Q (.panicked c) H))
theorem cL58_3 (env : Env) (H : Heap) (kn : Value → Value → Heap → Prop) (Q : Ending → Heap → Prop) (h : L58_3 (env 0) (env 5) (env 6) (env 7) H kn Q) :
    RCode Tryd.prog 63 (codeAt [1, 1, 1, 0, 1] (bodyOf Tryd.f58)) env H (mkK (fun e H => kn (e 0) (e 6) H) (fun _ _ _ => False) (retK T Tryd.f58.results.toList Q) (fun c H => Q (.panicked c) H)) :=
  RCode.blk (by kernel_rfl : (codeAt [1, 1, 1, 0, 1] (bodyOf Tryd.f58)) = .block 0 (codeAt [1, 1, 1, 0, 1, 0] (bodyOf Tryd.f58))) (RCode.lp (by kernel_rfl : (codeAt [1, 1, 1, 0, 1, 0] (bodyOf Tryd.f58)) = .loop (codeAt [1, 1, 1, 0, 1, 0, 0] (bodyOf Tryd.f58))) ((h env rfl rfl rfl rfl).mono (mkK_mono (fun _ _ h => h.elim) (fun _ _ _ h => h) (fun _ _ h => h) (fun _ _ h => h))))
def m58_5 (x0 x5 x6 x7 : Value) (H : Heap) (kn : Value → Value → Value → Value → Heap → Prop) (kx0 : Value → Value → Heap → Prop) (Q : Ending → Heap → Prop) : Prop :=
oV (vInt .add x7 (.int .i64 1)) fun t29_8 =>
kn x0 x5 x6 t29_8 H
theorem c58_5 (env : Env) (H : Heap) (kn : Value → Value → Value → Value → Heap → Prop) (kx0 : Value → Value → Heap → Prop) (Q : Ending → Heap → Prop) (h : m58_5 (env 0) (env 5) (env 6) (env 7) H kn kx0 Q) :
    RCode Tryd.prog 63 (codeAt [1, 1, 1, 0, 1, 0, 0, 1, 1] (bodyOf Tryd.f58)) env H (mkK (fun e H => kn (e 0) (e 5) (e 6) (e 7) H) (inK 0 (fun e H => kx0 (e 0) (e 6) H) (fun _ _ _ => False)) (retK T Tryd.f58.results.toList Q) (fun c H => Q (.panicked c) H)) :=
  RCode.leaf_ (T := T) (X := ext) (hint := hint58) tok xok mixed (by kernel_rfl) h
def L58_8 (x0 x5 x6 x7 x8 x9 : Value) (H : Heap) (kn : Value → Value → Value → Value → Heap → Prop) (kx1 : Value → Value → Value → Value → Heap → Prop) (kx0 : Value → Value → Heap → Prop) (Q : Ending → Heap → Prop) : Prop :=
  ∀ env : Env, env 0 = x0 → env 5 = x5 → env 6 = x6 → env 7 = x7 → env 8 = x8 → env 9 = x9 → RLoop Tryd.prog 63 (codeAt [1, 1, 1, 0, 1, 0, 0, 1, 0, 0, 1, 1, 1, 0, 0] (bodyOf Tryd.f58)) env H (mkK (fun _ _ => False) (inK 2 (fun e H => kn (e 0) (e 5) (e 6) (e 7) H) (inK 1 (fun e H => kx1 (e 0) (e 5) (e 6) (e 7) H) (inK 0 (fun e H => kx0 (e 0) (e 6) H) (fun _ _ _ => False)))) (retK T Tryd.f58.results.toList Q) (fun c H => Q (.panicked c) H))
theorem cL58_8 (env : Env) (H : Heap) (kn : Value → Value → Value → Value → Heap → Prop) (kx1 : Value → Value → Value → Value → Heap → Prop) (kx0 : Value → Value → Heap → Prop) (Q : Ending → Heap → Prop) (h : L58_8 (env 0) (env 5) (env 6) (env 7) (env 8) (env 9) H kn kx1 kx0 Q) :
    RCode Tryd.prog 63 (codeAt [1, 1, 1, 0, 1, 0, 0, 1, 0, 0, 1, 1, 1] (bodyOf Tryd.f58)) env H (mkK (fun e H => kn (e 0) (e 5) (e 6) (e 7) H) (inK 1 (fun e H => kx1 (e 0) (e 5) (e 6) (e 7) H) (inK 0 (fun e H => kx0 (e 0) (e 6) H) (fun _ _ _ => False))) (retK T Tryd.f58.results.toList Q) (fun c H => Q (.panicked c) H)) :=
  RCode.blk (by kernel_rfl : (codeAt [1, 1, 1, 0, 1, 0, 0, 1, 0, 0, 1, 1, 1] (bodyOf Tryd.f58)) = .block 2 (codeAt [1, 1, 1, 0, 1, 0, 0, 1, 0, 0, 1, 1, 1, 0] (bodyOf Tryd.f58))) (RCode.lp (by kernel_rfl : (codeAt [1, 1, 1, 0, 1, 0, 0, 1, 0, 0, 1, 1, 1, 0] (bodyOf Tryd.f58)) = .loop (codeAt [1, 1, 1, 0, 1, 0, 0, 1, 0, 0, 1, 1, 1, 0, 0] (bodyOf Tryd.f58))) ((h env rfl rfl rfl rfl rfl rfl).mono (mkK_mono (fun _ _ h => h.elim) (fun _ _ _ h => h) (fun _ _ h => h) (fun _ _ h => h))))
def m58_9 (x0 x5 x6 x7 x8 x9 : Value) (H : Heap) (kn : Value → Value → Value → Value → Value → Value → Heap → Prop) (kx2 : Value → Value → Value → Value → Heap → Prop) (kx1 : Value → Value → Value → Value → Heap → Prop) (kx0 : Value → Value → Heap → Prop) (Q : Ending → Heap → Prop) : Prop :=
oV (vNil x0) fun t42_9 =>
oV (vField 0 t42_9) fun t43_10 =>
oV (vField 0 t43_10) fun t44_11 =>
oV (vField 1 t44_11) fun t45_12 =>
oV (vLoad ty3 t45_12 H) fun t46_13 =>
oV (vInt .lss x9 t46_13) fun t47_14 =>
condK t47_14 (
oRC Tryd.prog 94 [x0, x9, x7, x8] H (fun c H => Q (.panicked c) H) fun v_15 H_16 =>
oV (vInt .add x9 (.int .i64 1)) fun t49_17 =>
kn x0 x5 x6 x7 x8 t49_17 H_16) (
kx2 x0 x5 x6 x7 H)
theorem c58_9 (env : Env) (H : Heap) (kn : Value → Value → Value → Value → Value → Value → Heap → Prop) (kx2 : Value → Value → Value → Value → Heap → Prop) (kx1 : Value → Value → Value → Value → Heap → Prop) (kx0 : Value → Value → Heap → Prop) (Q : Ending → Heap → Prop) (h : m58_9 (env 0) (env 5) (env 6) (env 7) (env 8) (env 9) H kn kx2 kx1 kx0 Q) :
    RCode Tryd.prog 63 (codeAt [1, 1, 1, 0, 1, 0, 0, 1, 0, 0, 1, 1, 1, 0, 0] (bodyOf Tryd.f58)) env H (mkK (fun e H => kn (e 0) (e 5) (e 6) (e 7) (e 8) (e 9) H) (inK 2 (fun e H => kx2 (e 0) (e 5) (e 6) (e 7) H) (inK 1 (fun e H => kx1 (e 0) (e 5) (e 6) (e 7) H) (inK 0 (fun e H => kx0 (e 0) (e 6) H) (fun _ _ _ => False)))) (retK T Tryd.f58.results.toList Q) (fun c H => Q (.panicked c) H)) :=
  RCode.leaf_ (T := T) (X := ext) (hint := hint58) tok xok mixed (by kernel_rfl) h
theorem L58_8_round (x0 x5 x6 x7 x8 x9 : Value) (H : Heap) (kn : Value → Value → Value → Value → Heap → Prop) (kx1 : Value → Value → Value → Value → Heap → Prop) (kx0 : Value → Value → Heap → Prop) (Q : Ending → Heap → Prop) (h : m58_9 x0 x5 x6 x7 x8 x9 H (fun y0 y5 y6 y7 y8 y9 H => L58_8 y0 y5 y6 y7 y8 y9 H kn kx1 kx0 Q) kn kx1 kx0 Q) : L58_8 x0 x5 x6 x7 x8 x9 H kn kx1 kx0 Q := by
  intro env h0 h5 h6 h7 h8 h9
  subst h0; subst h5; subst h6; subst h7; subst h8; subst h9
  exact RLoop.round ((c58_9 env H (fun y0 y5 y6 y7 y8 y9 H => L58_8 y0 y5 y6 y7 y8 y9 H kn kx1 kx0 Q) kn kx1 kx0 Q h).mono (mkK_mono (fun e H h => h e rfl rfl rfl rfl rfl rfl) (fun _ _ _ h => h) (fun _ _ h => h) (fun _ _ h => h)))
def m58_7 (x0 x5 x6 x7 : Value) (H : Heap) (kn : Value → Value → Value → Value → Heap → Prop) (kx1 : Value → Value → Value → Value → Heap → Prop) (kx0 : Value → Value → Heap → Prop) (Q : Ending → Heap → Prop) : Prop :=
oBuildS ty22 22 0 [] H fun s_18 H_19 =>
oV (vIdxS 1 x5 x7) fun t33_20 =>
oV (vLoad ty52 t33_20 H_19) fun t34_21 =>
oAppend ty22 22 s_18 t34_21 H_19 fun v_22 H_23 =>
oBuildS ty52 52 1 [((0, 1), v_22)] H_23 fun s_24 H_25 =>
oAppend ty52 52 x6 s_24 H_25 fun v_26 H_27 =>
L58_8 x0 x5 v_26 x7 v_22 (.int .i64 0) H_27 kn kx1 kx0 Q
theorem c58_7 (env : Env) (H : Heap) (kn : Value → Value → Value → Value → Heap → Prop) (kx1 : Value → Value → Value → Value → Heap → Prop) (kx0 : Value → Value → Heap → Prop) (Q : Ending → Heap → Prop) (h : m58_7 (env 0) (env 5) (env 6) (env 7) H kn kx1 kx0 Q) :
    RCode Tryd.prog 63 (codeAt [1, 1, 1, 0, 1, 0, 0, 1, 0, 0] (bodyOf Tryd.f58)) env H (mkK (fun e H => kn (e 0) (e 5) (e 6) (e 7) H) (inK 1 (fun e H => kx1 (e 0) (e 5) (e 6) (e 7) H) (inK 0 (fun e H => kx0 (e 0) (e 6) H) (fun _ _ _ => False))) (retK T Tryd.f58.results.toList Q) (fun c H => Q (.panicked c) H)) :=
  RCode.prefix_ (T := T) (X := ext) (hint := hint58) (hole := (fun e H => L58_8 (e 0) (e 5) (e 6) (e 7) (e 8) (e 9) H kn kx1 kx0 Q)) tok xok mixed 3 (by kernel_rfl) (by kernel_rfl : codeAt _ _ = (codeAt [1, 1, 1, 0, 1, 0, 0, 1, 0, 0, 1, 1, 1] (bodyOf Tryd.f58))) h
    (fun e H h => (cL58_8 e H kn kx1 kx0 Q h))
def m58_6 (x0 x5 x6 x7 : Value) (H : Heap) (kn : Value → Value → Value → Value → Heap → Prop) (kx0 : Value → Value → Heap → Prop) (Q : Ending → Heap → Prop) : Prop :=
m58_7 x0 x5 x6 x7 H kn kn kx0 Q
theorem c58_6 (env : Env) (H : Heap) (kn : Value → Value → Value → Value → Heap → Prop) (kx0 : Value → Value → Heap → Prop) (Q : Ending → Heap → Prop) (h : m58_6 (env 0) (env 5) (env 6) (env 7) H kn kx0 Q) :
    RCode Tryd.prog 63 (codeAt [1, 1, 1, 0, 1, 0, 0, 1, 0] (bodyOf Tryd.f58)) env H (mkK (fun e H => kn (e 0) (e 5) (e 6) (e 7) H) (inK 0 (fun e H => kx0 (e 0) (e 6) H) (fun _ _ _ => False)) (retK T Tryd.f58.results.toList Q) (fun c H => Q (.panicked c) H)) :=
  RCode.blk (by kernel_rfl : (codeAt [1, 1, 1, 0, 1, 0, 0, 1, 0] (bodyOf Tryd.f58)) = .block 1 (codeAt [1, 1, 1, 0, 1, 0, 0, 1, 0, 0] (bodyOf Tryd.f58))) (c58_7 env H kn kn kx0 Q h)
def m58_4 (x0 x5 x6 x7 : Value) (H : Heap) (kn : Value → Value → Value → Value → Heap → Prop) (kx0 : Value → Value → Heap → Prop) (Q : Ending → Heap → Prop) : Prop :=
oV (vNil x0) fun t22_28 =>
oV (vField 0 t22_28) fun t23_29 =>
oV (vField 0 t23_29) fun t24_30 =>
oV (vField 1 t24_30) fun t25_31 =>
oV (vLoad ty3 t25_31 H) fun t26_32 =>
oV (vInt .lss x7 t26_32) fun t27_33 =>
condK t27_33 (
m58_6 x0 x5 x6 x7 H (fun y0_34 y5_35 y6_36 y7_37 H_38 => m58_5 y0_34 y5_35 y6_36 y7_37 H_38 kn kx0 Q) kx0 Q) (
kx0 x0 x6 H)
theorem c58_4 (env : Env) (H : Heap) (kn : Value → Value → Value → Value → Heap → Prop) (kx0 : Value → Value → Heap → Prop) (Q : Ending → Heap → Prop) (h : m58_4 (env 0) (env 5) (env 6) (env 7) H kn kx0 Q) :
    RCode Tryd.prog 63 (codeAt [1, 1, 1, 0, 1, 0, 0] (bodyOf Tryd.f58)) env H (mkK (fun e H => kn (e 0) (e 5) (e 6) (e 7) H) (inK 0 (fun e H => kx0 (e 0) (e 6) H) (fun _ _ _ => False)) (retK T Tryd.f58.results.toList Q) (fun c H => Q (.panicked c) H)) :=
  RCode.prefix_ (T := T) (X := ext) (hint := hint58) (hole := (fun e H => m58_6 (e 0) (e 5) (e 6) (e 7) H (fun y0_39 y5_40 y6_41 y7_42 H_43 => m58_5 y0_39 y5_40 y6_41 y7_42 H_43 kn kx0 Q) kx0 Q)) tok xok mixed 1 (by kernel_rfl) (by kernel_rfl : codeAt _ _ = (codeAt [1, 1, 1, 0, 1, 0, 0, 1] (bodyOf Tryd.f58))) h
    (fun e H h => RCode.join (by kernel_rfl : (codeAt [1, 1, 1, 0, 1, 0, 0, 1] (bodyOf Tryd.f58)) = .seq (codeAt [1, 1, 1, 0, 1, 0, 0, 1, 0] (bodyOf Tryd.f58)) (codeAt [1, 1, 1, 0, 1, 0, 0, 1, 1] (bodyOf Tryd.f58))) ((c58_6 e H (fun y0_44 y5_45 y6_46 y7_47 H_48 => m58_5 y0_44 y5_45 y6_46 y7_47 H_48 kn kx0 Q) kx0 Q h).mono (mkK_mono (fun e H h => c58_5 e H kn kx0 Q h) (fun _ _ _ h => h) (fun _ _ h => h) (fun _ _ h => h))))
theorem L58_3_round (x0 x5 x6 x7 : Value) (H : Heap) (kn : Value → Value → Heap → Prop) (Q : Ending → Heap → Prop) (h : m58_4 x0 x5 x6 x7 H (fun y0 y5 y6 y7 H => L58_3 y0 y5 y6 y7 H kn Q) kn Q) : L58_3 x0 x5 x6 x7 H kn Q := by
  intro env h0 h5 h6 h7
  subst h0; subst h5; subst h6; subst h7
  exact RLoop.round ((c58_4 env H (fun y0 y5 y6 y7 H => L58_3 y0 y5 y6 y7 H kn Q) kn Q h).mono (mkK_mono (fun e H h => h e rfl rfl rfl rfl) (fun _ _ _ h => h) (fun _ _ h => h) (fun _ _ h => h)))
def m58_2 (x0 x5 x6 : Value) (H : Heap) (kn : Value → Value → Heap → Prop) (Q : Ending → Heap → Prop) : Prop :=
L58_3 x0 x5 x6 (.int .i64 0) H kn Q
theorem c58_2 (env : Env) (H : Heap) (kn : Value → Value → Heap → Prop) (Q : Ending → Heap → Prop) (h : m58_2 (env 0) (env 5) (env 6) H kn Q) :
    RCode Tryd.prog 63 (codeAt [1, 1, 1, 0] (bodyOf Tryd.f58)) env H (mkK (fun e H => kn (e 0) (e 6) H) (fun _ _ _ => False) (retK T Tryd.f58.results.toList Q) (fun c H => Q (.panicked c) H)) :=
  RCode.prefix_ (T := T) (X := ext) (hint := hint58) (hole := (fun e H => L58_3 (e 0) (e 5) (e 6) (e 7) H kn Q)) tok xok mixed 1 (by kernel_rfl) (by kernel_rfl : codeAt _ _ = (codeAt [1, 1, 1, 0, 1] (bodyOf Tryd.f58))) h
    (fun e H h => (cL58_3 e H kn Q h))
def m58 (x0 x1 : Value) (H : Heap) (Q : Ending → Heap → Prop) : Prop :=
oV (vNil x0) fun t11_49 =>
oV (vField 0 t11_49) fun t12_50 =>
oV (vLoad ty29 t12_50 H) fun t13_51 =>
oV (vNil x0) fun t15_52 =>
oV (vField 6 t15_52) fun t16_53 =>
oV (vLoad ty3 t16_53 H) fun t17_54 =>
oRC Tryd.prog 93 [t13_51, t17_54, x1] H noP fun v_55 H_56 =>
m58_2 x0 v_55 (.slice none 0 0) H_56 (fun y0_57 y6_58 H_59 => m58_1 y0_57 y6_58 H_59 Q) Q
theorem c58_0 (env : Env) (H : Heap) (Q : Ending → Heap → Prop) (h : m58 (env 0) (env 1) H Q) :
    RCode Tryd.prog 63 (bodyOf Tryd.f58) env H (mkK (retK T Tryd.f58.results.toList Q) (fun _ _ _ => False) (retK T Tryd.f58.results.toList Q) (fun c H => Q (.panicked c) H)) :=
  RCode.prefix_ (T := T) (X := ext) (hint := hint58) (hole := (fun e H => m58_2 (e 0) (e 5) (e 6) H (fun y0_60 y6_61 H_62 => m58_1 y0_60 y6_61 H_62 Q) Q)) tok xok mixed 3 (by kernel_rfl) (by kernel_rfl : codeAt _ _ = (codeAt [1, 1, 1] (bodyOf Tryd.f58))) h
    (fun e H h => RCode.join (by kernel_rfl : (codeAt [1, 1, 1] (bodyOf Tryd.f58)) = .seq (codeAt [1, 1, 1, 0] (bodyOf Tryd.f58)) (codeAt [1, 1, 1, 1] (bodyOf Tryd.f58))) ((c58_2 e H (fun y0_63 y6_64 H_65 => m58_1 y0_63 y6_64 H_65 Q) Q h).mono (mkK_mono (fun e H h => c58_1 e H Q h) (fun _ _ _ h => h) (fun _ _ h => h) (fun _ _ h => h))))
theorem call58 (a0 a1 : Value) (H : Heap) (Q : Ending → Heap → Prop) (h : m58 a0 a1 H Q) : RCalls Tryd.prog 58 [a0, a1] H Q :=
  RCalls.intro (nt := 63) tok Tryd.func58 (by kernel_rfl) (by kernel_rfl) (by kernel_rfl) (of_decide_eq_true (by kernel_rfl)) (c58_0 (envOf [a0, a1]) H Q h)
/-! ### 56: privity/privityref14.Lists -/
def hint56 : Nat → List Nat := lookupL [(6, [0, 1, 2, 3, 4, 5, 6, 7, 8, 9])]
def m56_1 (H : Heap) (Q : Ending → Heap → Prop) : Prop :=
Q (.returned (.bool true)) H
theorem c56_1 (env : Env) (H : Heap) (Q : Ending → Heap → Prop) (h : m56_1 H Q) :
    RCode Tryd.prog 27 (codeAt [1, 1, 1] (bodyOf Tryd.f56)) env H (mkK (retK T Tryd.f56.results.toList Q) (fun _ _ _ => False) (retK T Tryd.f56.results.toList Q) (fun c H => Q (.panicked c) H)) :=
  RCode.leaf_ (T := T) (X := ext) (hint := hint56) tok xok mixed (by kernel_rfl) h
def L56_3 (x0 x1 x5 : Value) (H : Heap) (kn : Heap → Prop) (Q : Ending → Heap → Prop) : Prop :=
  ∀ env : Env, env 0 = x0 → env 1 = x1 → env 5 = x5 → RLoop Tryd.prog 27 (codeAt [1, 1, 0, 1, 0, 0] (bodyOf Tryd.f56)) env H (mkK (fun _ _ => False) (inK 0 (fun e H => kn H) (fun _ _ _ => False)) (retK T Tryd.f56.results.toList Q) (fun c H => Q (.panicked c) H))
theorem cL56_3 (env : Env) (H : Heap) (kn : Heap → Prop) (Q : Ending → Heap → Prop) (h : L56_3 (env 0) (env 1) (env 5) H kn Q) :
    RCode Tryd.prog 27 (codeAt [1, 1, 0, 1] (bodyOf Tryd.f56)) env H (mkK (fun e H => kn H) (fun _ _ _ => False) (retK T Tryd.f56.results.toList Q) (fun c H => Q (.panicked c) H)) :=
  RCode.blk (by kernel_rfl : (codeAt [1, 1, 0, 1] (bodyOf Tryd.f56)) = .block 0 (codeAt [1, 1, 0, 1, 0] (bodyOf Tryd.f56))) (RCode.lp (by kernel_rfl : (codeAt [1, 1, 0, 1, 0] (bodyOf Tryd.f56)) = .loop (codeAt [1, 1, 0, 1, 0, 0] (bodyOf Tryd.f56))) ((h env rfl rfl rfl).mono (mkK_mono (fun _ _ h => h.elim) (fun _ _ _ h => h) (fun _ _ h => h) (fun _ _ h => h))))
def m56_4 (x0 x1 x5 : Value) (H : Heap) (kn : Value → Value → Value → Heap → Prop) (kx0 : Heap → Prop) (Q : Ending → Heap → Prop) : Prop :=
oV (vLen x0) fun t13_1 =>
oV (vInt .lss x5 t13_1) fun t14_2 =>
condK t14_2 (
oV (vIdxS 1 x0 x5) fun t19_3 =>
oV (vLoad ty52 t19_3 H) fun t20_4 =>
oV (vIdxS 1 x1 x5) fun t23_5 =>
oV (vLoad ty52 t23_5 H) fun t24_6 =>
oRC Tryd.prog 24 [t20_4, t24_6] H noP fun v_7 H_8 =>
oV (vUn .not v_7) fun t26_9 =>
condK t26_9 (
Q (.returned (.bool false)) H_8) (
oV (vInt .add x5 (.int .i64 1)) fun t16_10 =>
kn x0 x1 t16_10 H_8)) (
kx0 H)
theorem c56_4 (env : Env) (H : Heap) (kn : Value → Value → Value → Heap → Prop) (kx0 : Heap → Prop) (Q : Ending → Heap → Prop) (h : m56_4 (env 0) (env 1) (env 5) H kn kx0 Q) :
    RCode Tryd.prog 27 (codeAt [1, 1, 0, 1, 0, 0] (bodyOf Tryd.f56)) env H (mkK (fun e H => kn (e 0) (e 1) (e 5) H) (inK 0 (fun e H => kx0 H) (fun _ _ _ => False)) (retK T Tryd.f56.results.toList Q) (fun c H => Q (.panicked c) H)) :=
  RCode.leaf_ (T := T) (X := ext) (hint := hint56) tok xok mixed (by kernel_rfl) h
theorem L56_3_round (x0 x1 x5 : Value) (H : Heap) (kn : Heap → Prop) (Q : Ending → Heap → Prop) (h : m56_4 x0 x1 x5 H (fun y0 y1 y5 H => L56_3 y0 y1 y5 H kn Q) kn Q) : L56_3 x0 x1 x5 H kn Q := by
  intro env h0 h1 h5
  subst h0; subst h1; subst h5
  exact RLoop.round ((c56_4 env H (fun y0 y1 y5 H => L56_3 y0 y1 y5 H kn Q) kn Q h).mono (mkK_mono (fun e H h => h e rfl rfl rfl) (fun _ _ _ h => h) (fun _ _ h => h) (fun _ _ h => h)))
def m56_2 (x0 x1 : Value) (H : Heap) (kn : Heap → Prop) (Q : Ending → Heap → Prop) : Prop :=
L56_3 x0 x1 (.int .i64 0) H kn Q
theorem c56_2 (env : Env) (H : Heap) (kn : Heap → Prop) (Q : Ending → Heap → Prop) (h : m56_2 (env 0) (env 1) H kn Q) :
    RCode Tryd.prog 27 (codeAt [1, 1, 0] (bodyOf Tryd.f56)) env H (mkK (fun e H => kn H) (fun _ _ _ => False) (retK T Tryd.f56.results.toList Q) (fun c H => Q (.panicked c) H)) :=
  RCode.prefix_ (T := T) (X := ext) (hint := hint56) (hole := (fun e H => L56_3 (e 0) (e 1) (e 5) H kn Q)) tok xok mixed 1 (by kernel_rfl) (by kernel_rfl : codeAt _ _ = (codeAt [1, 1, 0, 1] (bodyOf Tryd.f56))) h
    (fun e H h => (cL56_3 e H kn Q h))
def m56 (x0 x1 : Value) (H : Heap) (Q : Ending → Heap → Prop) : Prop :=
oV (vLen x0) fun t7_11 =>
oV (vLen x1) fun t9_12 =>
oV (vInt .neq t7_11 t9_12) fun t10_13 =>
condK t10_13 (
Q (.returned (.bool false)) H) (
m56_2 x0 x1 H (fun H_14 => m56_1 H_14 Q) Q)
theorem c56_0 (env : Env) (H : Heap) (Q : Ending → Heap → Prop) (h : m56 (env 0) (env 1) H Q) :
    RCode Tryd.prog 27 (bodyOf Tryd.f56) env H (mkK (retK T Tryd.f56.results.toList Q) (fun _ _ _ => False) (retK T Tryd.f56.results.toList Q) (fun c H => Q (.panicked c) H)) :=
  RCode.prefix_ (T := T) (X := ext) (hint := hint56) (hole := (fun e H => m56_2 (e 0) (e 1) H (fun H_15 => m56_1 H_15 Q) Q)) tok xok mixed 2 (by kernel_rfl) (by kernel_rfl : codeAt _ _ = (codeAt [1, 1] (bodyOf Tryd.f56))) h
    (fun e H h => RCode.join (by kernel_rfl : (codeAt [1, 1] (bodyOf Tryd.f56)) = .seq (codeAt [1, 1, 0] (bodyOf Tryd.f56)) (codeAt [1, 1, 1] (bodyOf Tryd.f56))) ((c56_2 e H (fun H_16 => m56_1 H_16 Q) Q h).mono (mkK_mono (fun e H h => c56_1 e H Q h) (fun _ _ _ h => h) (fun _ _ h => h) (fun _ _ h => h))))
theorem call56 (a0 a1 : Value) (H : Heap) (Q : Ending → Heap → Prop) (h : m56 a0 a1 H Q) : RCalls Tryd.prog 56 [a0, a1] H Q :=
  RCalls.intro (nt := 27) tok Tryd.func56 (by kernel_rfl) (by kernel_rfl) (by kernel_rfl) (of_decide_eq_true (by kernel_rfl)) (c56_0 (envOf [a0, a1]) H Q h)
/-! ### 119: privity/privityref13.heard -/
def hint119 : Nat → List Nat := lookupL [(3, [0, 1, 2, 3, 4, 5, 6, 7, 8, 9, 10, 11])]
def m119 (x0 x1 : Value) (H : Heap) (Q : Ending → Heap → Prop) : Prop :=
oNew (Value.cells x1).toList (Value.cells x1).toList.length 109 H fun i_1 H_2 =>
oV (vField 6 (ptrTo i_1)) fun t5_3 =>
oV (vLoad ty3 t5_3 H_2) fun t6_4 =>
oV (vInt .lss t6_4 (.int .i64 1)) fun t7_5 =>
condK t7_5 (
Q (.returned (.slice none 0 0)) H_2) (
oV (vField 6 (ptrTo i_1)) fun t9_6 =>
oV (vLoad ty3 t9_6 H_2) fun t10_7 =>
oV (vInt .sub t10_7 (.int .i64 1)) fun t11_8 =>
oV (vIdxS 1 x0 t11_8) fun t12_9 =>
oV (vLoad ty27 t12_9 H_2) fun t13_10 =>
oV (vField 1 (ptrTo i_1)) fun t14_11 =>
oV (vLoad ty3 t14_11 H_2) fun t15_12 =>
oV (vInt .sub t15_12 (.int .i64 1)) fun t16_13 =>
oV (vIdxS 1 t13_10 t16_13) fun t17_14 =>
oV (vLoad ty52 t17_14 H_2) fun t18_15 =>
Q (.returned t18_15) H_2)
theorem c119_0 (env : Env) (H : Heap) (Q : Ending → Heap → Prop) (h : m119 (env 0) (env 1) H Q) :
    RCode Tryd.prog 19 (bodyOf Tryd.f119) env H (mkK (retK T Tryd.f119.results.toList Q) (fun _ _ _ => False) (retK T Tryd.f119.results.toList Q) (fun c H => Q (.panicked c) H)) :=
  RCode.leaf_ (T := T) (X := ext) (hint := hint119) tok xok mixed (by kernel_rfl) h
theorem call119 (a0 a1 : Value) (H : Heap) (Q : Ending → Heap → Prop) (h : m119 a0 a1 H Q) : RCalls Tryd.prog 119 [a0, a1] H Q :=
  RCalls.intro (nt := 19) tok Tryd.func119 (by kernel_rfl) (by kernel_rfl) (by kernel_rfl) (of_decide_eq_true (by kernel_rfl)) (c119_0 (envOf [a0, a1]) H Q h)
/-! ### 95: privity/privityref13.ApplyToMessages -/
def hint95 : Nat → List Nat := lookupL [(15, [0, 1, 2, 3, 4, 5, 6, 7, 8, 9, 10, 11, 12, 13, 14, 15, 16, 17, 18, 19, 20, 21, 22, 23, 24, 25])]
def m95_2 (x7 : Value) (H : Heap) (Q : Ending → Heap → Prop) : Prop :=
Q (.returned x7) H
theorem c95_2 (env : Env) (H : Heap) (Q : Ending → Heap → Prop) (h : m95_2 (env 7) H Q) :
    RCode Tryd.prog 98 (codeAt [1, 1, 1, 1] (bodyOf Tryd.f95)) env H (mkK (retK T Tryd.f95.results.toList Q) (fun _ _ _ => False) (retK T Tryd.f95.results.toList Q) (fun c H => Q (.panicked c) H)) :=
  RCode.leaf_ (T := T) (X := ext) (hint := hint95) tok xok mixed (by kernel_rfl) h
def L95_4 (x1 x2 x3 x7 x9 : Value) (H : Heap) (kn : Value → Heap → Prop) (Q : Ending → Heap → Prop) : Prop :=
  ∀ env : Env, env 1 = x1 → env 2 = x2 → env 3 = x3 → env 7 = x7 → env 9 = x9 → RLoop Tryd.prog 98 (codeAt [1, 1, 1, 0, 1, 0, 0] (bodyOf Tryd.f95)) env H (mkK (fun _ _ => False) (inK 2 (fun e H => kn (e 7) H) (fun _ _ _ => False)) (retK T Tryd.f95.results.toList Q) (fun c H => Q (.panicked c) H))
theorem cL95_4 (env : Env) (H : Heap) (kn : Value → Heap → Prop) (Q : Ending → Heap → Prop) (h : L95_4 (env 1) (env 2) (env 3) (env 7) (env 9) H kn Q) :
    RCode Tryd.prog 98 (codeAt [1, 1, 1, 0, 1] (bodyOf Tryd.f95)) env H (mkK (fun e H => kn (e 7) H) (fun _ _ _ => False) (retK T Tryd.f95.results.toList Q) (fun c H => Q (.panicked c) H)) :=
  RCode.blk (by kernel_rfl : (codeAt [1, 1, 1, 0, 1] (bodyOf Tryd.f95)) = .block 2 (codeAt [1, 1, 1, 0, 1, 0] (bodyOf Tryd.f95))) (RCode.lp (by kernel_rfl : (codeAt [1, 1, 1, 0, 1, 0] (bodyOf Tryd.f95)) = .loop (codeAt [1, 1, 1, 0, 1, 0, 0] (bodyOf Tryd.f95))) ((h env rfl rfl rfl rfl rfl).mono (mkK_mono (fun _ _ h => h.elim) (fun _ _ _ h => h) (fun _ _ h => h) (fun _ _ h => h))))
def m95_6 (x1 x2 x3 x7 x9 : Value) (H : Heap) (kn : Value → Value → Value → Value → Value → Heap → Prop) (kx2 : Value → Heap → Prop) (Q : Ending → Heap → Prop) : Prop :=
oV (vInt .add x9 (.int .i64 1)) fun t33_1 =>
kn x1 x2 x3 x7 t33_1 H
theorem c95_6 (env : Env) (H : Heap) (kn : Value → Value → Value → Value → Value → Heap → Prop) (kx2 : Value → Heap → Prop) (Q : Ending → Heap → Prop) (h : m95_6 (env 1) (env 2) (env 3) (env 7) (env 9) H kn kx2 Q) :
    RCode Tryd.prog 98 (codeAt [1, 1, 1, 0, 1, 0, 0, 1, 1] (bodyOf Tryd.f95)) env H (mkK (fun e H => kn (e 1) (e 2) (e 3) (e 7) (e 9) H) (inK 2 (fun e H => kx2 (e 7) H) (fun _ _ _ => False)) (retK T Tryd.f95.results.toList Q) (fun c H => Q (.panicked c) H)) :=
  RCode.leaf_ (T := T) (X := ext) (hint := hint95) tok xok mixed (by kernel_rfl) h
def L95_9 (x1 x2 x3 x7 x9 x10 x11 : Value) (H : Heap) (kn : Value → Value → Value → Value → Value → Heap → Prop) (kx3 : Value → Value → Value → Value → Value → Heap → Prop) (kx2 : Value → Heap → Prop) (Q : Ending → Heap → Prop) : Prop :=
  ∀ env : Env, env 1 = x1 → env 2 = x2 → env 3 = x3 → env 7 = x7 → env 9 = x9 → env 10 = x10 → env 11 = x11 → RLoop Tryd.prog 98 (codeAt [1, 1, 1, 0, 1, 0, 0, 1, 0, 0, 1, 1, 1, 0, 0] (bodyOf Tryd.f95)) env H (mkK (fun _ _ => False) (inK 4 (fun e H => kn (e 1) (e 2) (e 3) (e 7) (e 9) H) (inK 3 (fun e H => kx3 (e 1) (e 2) (e 3) (e 7) (e 9) H) (inK 2 (fun e H => kx2 (e 7) H) (fun _ _ _ => False)))) (retK T Tryd.f95.results.toList Q) (fun c H => Q (.panicked c) H))
theorem cL95_9 (env : Env) (H : Heap) (kn : Value → Value → Value → Value → Value → Heap → Prop) (kx3 : Value → Value → Value → Value → Value → Heap → Prop) (kx2 : Value → Heap → Prop) (Q : Ending → Heap → Prop) (h : L95_9 (env 1) (env 2) (env 3) (env 7) (env 9) (env 10) (env 11) H kn kx3 kx2 Q) :
    RCode Tryd.prog 98 (codeAt [1, 1, 1, 0, 1, 0, 0, 1, 0, 0, 1, 1, 1] (bodyOf Tryd.f95)) env H (mkK (fun e H => kn (e 1) (e 2) (e 3) (e 7) (e 9) H) (inK 3 (fun e H => kx3 (e 1) (e 2) (e 3) (e 7) (e 9) H) (inK 2 (fun e H => kx2 (e 7) H) (fun _ _ _ => False))) (retK T Tryd.f95.results.toList Q) (fun c H => Q (.panicked c) H)) :=
  RCode.blk (by kernel_rfl : (codeAt [1, 1, 1, 0, 1, 0, 0, 1, 0, 0, 1, 1, 1] (bodyOf Tryd.f95)) = .block 4 (codeAt [1, 1, 1, 0, 1, 0, 0, 1, 0, 0, 1, 1, 1, 0] (bodyOf Tryd.f95))) (RCode.lp (by kernel_rfl : (codeAt [1, 1, 1, 0, 1, 0, 0, 1, 0, 0, 1, 1, 1, 0] (bodyOf Tryd.f95)) = .loop (codeAt [1, 1, 1, 0, 1, 0, 0, 1, 0, 0, 1, 1, 1, 0, 0] (bodyOf Tryd.f95))) ((h env rfl rfl rfl rfl rfl rfl rfl).mono (mkK_mono (fun _ _ h => h.elim) (fun _ _ _ h => h) (fun _ _ h => h) (fun _ _ h => h))))
def m95_10 (x1 x2 x3 x7 x9 x10 x11 : Value) (H : Heap) (kn : Value → Value → Value → Value → Value → Value → Value → Heap → Prop) (kx4 : Value → Value → Value → Value → Value → Heap → Prop) (kx3 : Value → Value → Value → Value → Value → Heap → Prop) (kx2 : Value → Heap → Prop) (Q : Ending → Heap → Prop) : Prop :=
oV (vField 0 x3) fun t51_2 =>
oV (vField 1 t51_2) fun t52_3 =>
oV (vLoad ty3 t52_3 H) fun t53_4 =>
oV (vInt .leq x11 t53_4) fun t54_5 =>
condK t54_5 (
oV (vField 1 x10) fun t58_6 =>
oV (vLoad ty3 t58_6 H) fun t59_7 =>
oV (vInt .neq x11 t59_7) fun t60_8 =>
oV (gV t60_8 true (vField 2 x10) (some undef)) fun t62_9 =>
oV (gV t60_8 true (vLoad ty3 t62_9 H) (some undef)) fun t63_10 =>
oV (gV t60_8 true (vInt .eql t63_10 (.int .i64 0)) (some undef)) fun t64_11 =>
oV (gV t60_8 true (some t64_11) (some undef)) fun t65_12 =>
oV (gV t65_12 false (vField 2 x10) (some undef)) fun t66_13 =>
oV (gV t65_12 false (vLoad ty3 t66_13 H) (some undef)) fun t67_14 =>
oV (gV t65_12 false (some x11) (some undef)) fun t68_15 =>
oV (gV t65_12 false (vInt .eql t67_14 t68_15) (some undef)) fun t69_16 =>
oV (gV t60_8 true (vPick t65_12 (.bool true) t69_16) (some undef)) fun t70_17 =>
oV (vPick t60_8 t70_17 (.bool false)) fun t71_18 =>
condK t71_18 (
oV (vField 1 x10) fun t73_19 =>
oV (vLoad ty3 t73_19 H) fun t74_20 =>
oV (vInt .sub t74_20 (.int .i64 1)) fun t75_21 =>
oV (vIdxS 1 x7 t75_21) fun t76_22 =>
oV (vLoad ty27 t76_22 H) fun t77_23 =>
oV (vInt .sub x11 (.int .i64 1)) fun t79_24 =>
oV (vLoad ty29 x3 H) fun t80_25 =>
oV (vLoad ty109 x10 H) fun t81_26 =>
oV (vField 1 x10) fun t83_27 =>
oV (vLoad ty3 t83_27 H) fun t84_28 =>
oV (vInt .sub t84_28 (.int .i64 1)) fun t85_29 =>
oV (vIdxS 1 x7 t85_29) fun t86_30 =>
oV (vLoad ty27 t86_30 H) fun t87_31 =>
oV (vInt .sub x11 (.int .i64 1)) fun t89_32 =>
oV (vIdxS 1 t87_31 t89_32) fun t90_33 =>
oV (vLoad ty52 t90_33 H) fun t91_34 =>
oV (vLoad ty109 x10 H) fun t93_35 =>
oRC Tryd.prog 119 [x2, t93_35] H noP fun v_36 H_37 =>
(vLoad ty52 t90_33 H_37 = some t91_34 ∧
(vLoad ty27 t86_30 H_37 = some t87_31 ∧
(vLoad ty3 t83_27 H_37 = some t84_28 ∧
(vLoad ty109 x10 H_37 = some t81_26 ∧
(vLoad ty29 x3 H_37 = some t80_25 ∧
(vLoad ty27 t76_22 H_37 = some t77_23 ∧
(vLoad ty3 t73_19 H_37 = some t74_20 ∧
oRC Tryd.prog 118 [t80_25, t81_26, t91_34, v_36] H_37 noP fun v_38 H_39 =>
(vLoad ty27 t76_22 H_39 = some t77_23 ∧
(vLoad ty3 t73_19 H_39 = some t74_20 ∧
oV (vIdxS 1 t77_23 t79_24) fun t96_40 =>
oHeap (vStore ty52 t96_40 v_38 H_39) fun H_41 =>
oV (vInt .add x11 (.int .i64 1)) fun t56_42 =>
kn x1 x2 x3 x7 x9 x10 t56_42 H_41)))))))))) (
oV (vInt .add x11 (.int .i64 1)) fun t56_43 =>
kn x1 x2 x3 x7 x9 x10 t56_43 H)) (
kx4 x1 x2 x3 x7 x9 H)
theorem c95_10 (env : Env) (H : Heap) (kn : Value → Value → Value → Value → Value → Value → Value → Heap → Prop) (kx4 : Value → Value → Value → Value → Value → Heap → Prop) (kx3 : Value → Value → Value → Value → Value → Heap → Prop) (kx2 : Value → Heap → Prop) (Q : Ending → Heap → Prop) (h : m95_10 (env 1) (env 2) (env 3) (env 7) (env 9) (env 10) (env 11) H kn kx4 kx3 kx2 Q) :
    RCode Tryd.prog 98 (codeAt [1, 1, 1, 0, 1, 0, 0, 1, 0, 0, 1, 1, 1, 0, 0] (bodyOf Tryd.f95)) env H (mkK (fun e H => kn (e 1) (e 2) (e 3) (e 7) (e 9) (e 10) (e 11) H) (inK 4 (fun e H => kx4 (e 1) (e 2) (e 3) (e 7) (e 9) H) (inK 3 (fun e H => kx3 (e 1) (e 2) (e 3) (e 7) (e 9) H) (inK 2 (fun e H => kx2 (e 7) H) (fun _ _ _ => False)))) (retK T Tryd.f95.results.toList Q) (fun c H => Q (.panicked c) H)) :=
  RCode.leaf_ (T := T) (X := ext) (hint := hint95) tok xok mixed (by kernel_rfl) h
theorem L95_9_round (x1 x2 x3 x7 x9 x10 x11 : Value) (H : Heap) (kn : Value → Value → Value → Value → Value → Heap → Prop) (kx3 : Value → Value → Value → Value → Value → Heap → Prop) (kx2 : Value → Heap → Prop) (Q : Ending → Heap → Prop) (h : m95_10 x1 x2 x3 x7 x9 x10 x11 H (fun y1 y2 y3 y7 y9 y10 y11 H => L95_9 y1 y2 y3 y7 y9 y10 y11 H kn kx3 kx2 Q) kn kx3 kx2 Q) : L95_9 x1 x2 x3 x7 x9 x10 x11 H kn kx3 kx2 Q := by
  intro env h1 h2 h3 h7 h9 h10 h11
  subst h1; subst h2; subst h3; subst h7; subst h9; subst h10; subst h11
  exact RLoop.round ((c95_10 env H (fun y1 y2 y3 y7 y9 y10 y11 H => L95_9 y1 y2 y3 y7 y9 y10 y11 H kn kx3 kx2 Q) kn kx3 kx2 Q h).mono (mkK_mono (fun e H h => h e rfl rfl rfl rfl rfl rfl rfl) (fun _ _ _ h => h) (fun _ _ h => h) (fun _ _ h => h)))
def m95_8 (x1 x2 x3 x7 x9 : Value) (H : Heap) (kn : Value → Value → Value → Value → Value → Heap → Prop) (kx3 : Value → Value → Value → Value → Value → Heap → Prop) (kx2 : Value → Heap → Prop) (Q : Ending → Heap → Prop) : Prop :=
oV (vField 4 x3) fun t34_44 =>
oV (vLoad ty26 t34_44 H) fun t35_45 =>
oV (vIdxS 8 t35_45 x9) fun t37_46 =>
oV (vLoad ty109 t37_46 H) fun t38_47 =>
oNew (Value.cells ty109.zero).toList (Value.cells ty109.zero).toList.length 109 H fun i_48 H_49 =>
oHeap (vStore ty109 (ptrTo i_48) t38_47 H_49) fun H_50 =>
oV (vField 0 (ptrTo i_48)) fun t39_51 =>
oV (vLoad ty3 t39_51 H_50) fun t40_52 =>
oV (vInt .neq t40_52 x1) fun t42_53 =>
oV (gV t42_53 false (vLoad ty29 x3 H_50) (some undef)) fun t44_54 =>
oV (gV t42_53 false (vField 1 (ptrTo i_48)) (some undef)) fun t45_55 =>
oV (gV t42_53 false (vLoad ty3 t45_55 H_50) (some undef)) fun t46_56 =>
letK (fun t47_58 H_59 =>
oV (gV t42_53 false (vUn .not t47_58) (some undef)) fun t48_60 =>
oV (vPick t42_53 (.bool true) t48_60) fun t49_61 =>
condK t49_61 (
kx3 x1 x2 x3 x7 x9 H_59) (
L95_9 x1 x2 x3 x7 x9 (ptrTo i_48) (.int .i64 1) H_59 kn kx3 kx2 Q)) fun k_57 => gK t42_53 false (oRC Tryd.prog 117 [t44_54, t46_56] H_50 (fun c H => Q (.panicked c) H) fun v_62 H_63 =>
k_57 v_62 H_63) (k_57 undef H_50)
theorem c95_8 (env : Env) (H : Heap) (kn : Value → Value → Value → Value → Value → Heap → Prop) (kx3 : Value → Value → Value → Value → Value → Heap → Prop) (kx2 : Value → Heap → Prop) (Q : Ending → Heap → Prop) (h : m95_8 (env 1) (env 2) (env 3) (env 7) (env 9) H kn kx3 kx2 Q) :
    RCode Tryd.prog 98 (codeAt [1, 1, 1, 0, 1, 0, 0, 1, 0, 0] (bodyOf Tryd.f95)) env H (mkK (fun e H => kn (e 1) (e 2) (e 3) (e 7) (e 9) H) (inK 3 (fun e H => kx3 (e 1) (e 2) (e 3) (e 7) (e 9) H) (inK 2 (fun e H => kx2 (e 7) H) (fun _ _ _ => False))) (retK T Tryd.f95.results.toList Q) (fun c H => Q (.panicked c) H)) :=
  RCode.prefix_ (T := T) (X := ext) (hint := hint95) (hole := (fun e H => L95_9 (e 1) (e 2) (e 3) (e 7) (e 9) (e 10) (e 11) H kn kx3 kx2 Q)) tok xok mixed 3 (by kernel_rfl) (by kernel_rfl : codeAt _ _ = (codeAt [1, 1, 1, 0, 1, 0, 0, 1, 0, 0, 1, 1, 1] (bodyOf Tryd.f95))) h
    (fun e H h => (cL95_9 e H kn kx3 kx2 Q h))
def m95_7 (x1 x2 x3 x7 x9 : Value) (H : Heap) (kn : Value → Value → Value → Value → Value → Heap → Prop) (kx2 : Value → Heap → Prop) (Q : Ending → Heap → Prop) : Prop :=
m95_8 x1 x2 x3 x7 x9 H kn kn kx2 Q
theorem c95_7 (env : Env) (H : Heap) (kn : Value → Value → Value → Value → Value → Heap → Prop) (kx2 : Value → Heap → Prop) (Q : Ending → Heap → Prop) (h : m95_7 (env 1) (env 2) (env 3) (env 7) (env 9) H kn kx2 Q) :
    RCode Tryd.prog 98 (codeAt [1, 1, 1, 0, 1, 0, 0, 1, 0] (bodyOf Tryd.f95)) env H (mkK (fun e H => kn (e 1) (e 2) (e 3) (e 7) (e 9) H) (inK 2 (fun e H => kx2 (e 7) H) (fun _ _ _ => False)) (retK T Tryd.f95.results.toList Q) (fun c H => Q (.panicked c) H)) :=
  RCode.blk (by kernel_rfl : (codeAt [1, 1, 1, 0, 1, 0, 0, 1, 0] (bodyOf Tryd.f95)) = .block 3 (codeAt [1, 1, 1, 0, 1, 0, 0, 1, 0, 0] (bodyOf Tryd.f95))) (c95_8 env H kn kn kx2 Q h)
def m95_5 (x1 x2 x3 x7 x9 : Value) (H : Heap) (kn : Value → Value → Value → Value → Value → Heap → Prop) (kx2 : Value → Heap → Prop) (Q : Ending → Heap → Prop) : Prop :=
oV (vField 4 x3) fun t28_64 =>
oV (vLoad ty26 t28_64 H) fun t29_65 =>
oV (vLen t29_65) fun t30_66 =>
oV (vInt .lss x9 t30_66) fun t31_67 =>
condK t31_67 (
m95_7 x1 x2 x3 x7 x9 H (fun y1_68 y2_69 y3_70 y7_71 y9_72 H_73 => m95_6 y1_68 y2_69 y3_70 y7_71 y9_72 H_73 kn kx2 Q) kx2 Q) (
kx2 x7 H)
theorem c95_5 (env : Env) (H : Heap) (kn : Value → Value → Value → Value → Value → Heap → Prop) (kx2 : Value → Heap → Prop) (Q : Ending → Heap → Prop) (h : m95_5 (env 1) (env 2) (env 3) (env 7) (env 9) H kn kx2 Q) :
    RCode Tryd.prog 98 (codeAt [1, 1, 1, 0, 1, 0, 0] (bodyOf Tryd.f95)) env H (mkK (fun e H => kn (e 1) (e 2) (e 3) (e 7) (e 9) H) (inK 2 (fun e H => kx2 (e 7) H) (fun _ _ _ => False)) (retK T Tryd.f95.results.toList Q) (fun c H => Q (.panicked c) H)) :=
  RCode.prefix_ (T := T) (X := ext) (hint := hint95) (hole := (fun e H => m95_7 (e 1) (e 2) (e 3) (e 7) (e 9) H (fun y1_74 y2_75 y3_76 y7_77 y9_78 H_79 => m95_6 y1_74 y2_75 y3_76 y7_77 y9_78 H_79 kn kx2 Q) kx2 Q)) tok xok mixed 1 (by kernel_rfl) (by kernel_rfl : codeAt _ _ = (codeAt [1, 1, 1, 0, 1, 0, 0, 1] (bodyOf Tryd.f95))) h
    (fun e H h => RCode.join (by kernel_rfl : (codeAt [1, 1, 1, 0, 1, 0, 0, 1] (bodyOf Tryd.f95)) = .seq (codeAt [1, 1, 1, 0, 1, 0, 0, 1, 0] (bodyOf Tryd.f95)) (codeAt [1, 1, 1, 0, 1, 0, 0, 1, 1] (bodyOf Tryd.f95))) ((c95_7 e H (fun y1_80 y2_81 y3_82 y7_83 y9_84 H_85 => m95_6 y1_80 y2_81 y3_82 y7_83 y9_84 H_85 kn kx2 Q) kx2 Q h).mono (mkK_mono (fun e H h => c95_6 e H kn kx2 Q h) (fun _ _ _ h => h) (fun _ _ h => h) (fun _ _ h => h))))
theorem L95_4_round (x1 x2 x3 x7 x9 : Value) (H : Heap) (kn : Value → Heap → Prop) (Q : Ending → Heap → Prop) (h : m95_5 x1 x2 x3 x7 x9 H (fun y1 y2 y3 y7 y9 H => L95_4 y1 y2 y3 y7 y9 H kn Q) kn Q) : L95_4 x1 x2 x3 x7 x9 H kn Q := by
  intro env h1 h2 h3 h7 h9
  subst h1; subst h2; subst h3; subst h7; subst h9
  exact RLoop.round ((c95_5 env H (fun y1 y2 y3 y7 y9 H => L95_4 y1 y2 y3 y7 y9 H kn Q) kn Q h).mono (mkK_mono (fun e H h => h e rfl rfl rfl rfl rfl) (fun _ _ _ h => h) (fun _ _ h => h) (fun _ _ h => h)))
def m95_3 (x1 x2 x3 x7 : Value) (H : Heap) (kn : Value → Heap → Prop) (Q : Ending → Heap → Prop) : Prop :=
L95_4 x1 x2 x3 x7 (.int .i64 0) H kn Q
theorem c95_3 (env : Env) (H : Heap) (kn : Value → Heap → Prop) (Q : Ending → Heap → Prop) (h : m95_3 (env 1) (env 2) (env 3) (env 7) H kn Q) :
    RCode Tryd.prog 98 (codeAt [1, 1, 1, 0] (bodyOf Tryd.f95)) env H (mkK (fun e H => kn (e 7) H) (fun _ _ _ => False) (retK T Tryd.f95.results.toList Q) (fun c H => Q (.panicked c) H)) :=
  RCode.prefix_ (T := T) (X := ext) (hint := hint95) (hole := (fun e H => L95_4 (e 1) (e 2) (e 3) (e 7) (e 9) H kn Q)) tok xok mixed 1 (by kernel_rfl) (by kernel_rfl : codeAt _ _ = (codeAt [1, 1, 1, 0, 1] (bodyOf Tryd.f95))) h
    (fun e H h => (cL95_4 e H kn Q h))
def m95_1 (x1 x2 x3 x7 : Value) (H : Heap) (Q : Ending → Heap → Prop) : Prop :=
m95_3 x1 x2 x3 x7 H (fun y7_86 H_87 => m95_2 y7_86 H_87 Q) Q
theorem c95_1 (env : Env) (H : Heap) (Q : Ending → Heap → Prop) (h : m95_1 (env 1) (env 2) (env 3) (env 7) H Q) :
    RCode Tryd.prog 98 (codeAt [1, 1, 1] (bodyOf Tryd.f95)) env H (mkK (retK T Tryd.f95.results.toList Q) (fun _ _ _ => False) (retK T Tryd.f95.results.toList Q) (fun c H => Q (.panicked c) H)) :=
  RCode.join (by kernel_rfl : (codeAt [1, 1, 1] (bodyOf Tryd.f95)) = .seq (codeAt [1, 1, 1, 0] (bodyOf Tryd.f95)) (codeAt [1, 1, 1, 1] (bodyOf Tryd.f95))) ((c95_3 env H (fun y7_88 H_89 => m95_2 y7_88 H_89 Q) Q h).mono (mkK_mono (fun e H h => c95_2 e H Q h) (fun _ _ _ h => h) (fun _ _ h => h) (fun _ _ h => h)))
def L95_12 (x1 x2 x3 x7 x8 : Value) (H : Heap) (kn : Value → Value → Value → Value → Heap → Prop) (Q : Ending → Heap → Prop) : Prop :=
  ∀ env : Env, env 1 = x1 → env 2 = x2 → env 3 = x3 → env 7 = x7 → env 8 = x8 → RLoop Tryd.prog 98 (codeAt [1, 1, 0, 1, 0, 0] (bodyOf Tryd.f95)) env H (mkK (fun _ _ => False) (inK 0 (fun e H => kn (e 1) (e 2) (e 3) (e 7) H) (fun _ _ _ => False)) (retK T Tryd.f95.results.toList Q) (fun c H => Q (.panicked c) H))
theorem cL95_12 (env : Env) (H : Heap) (kn : Value → Value → Value → Value → Heap → Prop) (Q : Ending → Heap → Prop) (h : L95_12 (env 1) (env 2) (env 3) (env 7) (env 8) H kn Q) :
    RCode Tryd.prog 98 (codeAt [1, 1, 0, 1] (bodyOf Tryd.f95)) env H (mkK (fun e H => kn (e 1) (e 2) (e 3) (e 7) H) (fun _ _ _ => False) (retK T Tryd.f95.results.toList Q) (fun c H => Q (.panicked c) H)) :=
  RCode.blk (by kernel_rfl : (codeAt [1, 1, 0, 1] (bodyOf Tryd.f95)) = .block 0 (codeAt [1, 1, 0, 1, 0] (bodyOf Tryd.f95))) (RCode.lp (by kernel_rfl : (codeAt [1, 1, 0, 1, 0] (bodyOf Tryd.f95)) = .loop (codeAt [1, 1, 0, 1, 0, 0] (bodyOf Tryd.f95))) ((h env rfl rfl rfl rfl rfl).mono (mkK_mono (fun _ _ h => h.elim) (fun _ _ _ h => h) (fun _ _ h => h) (fun _ _ h => h))))
def m95_13 (x1 x2 x3 x7 x8 : Value) (H : Heap) (kn : Value → Value → Value → Value → Value → Heap → Prop) (kx0 : Value → Value → Value → Value → Heap → Prop) (Q : Ending → Heap → Prop) : Prop :=
oV (vLen x2) fun t14_90 =>
oV (vInt .lss x8 t14_90) fun t15_91 =>
condK t15_91 (
oBuildS ty52 52 0 [] H fun s_92 H_93 =>
oV (vIdxS 1 x2 x8) fun t22_94 =>
oV (vLoad ty27 t22_94 H_93) fun t23_95 =>
oAppend ty52 52 s_92 t23_95 H_93 fun v_96 H_97 =>
oBuildS ty27 27 1 [((0, 1), v_96)] H_97 fun s_98 H_99 =>
oAppend ty27 27 x7 s_98 H_99 fun v_100 H_101 =>
oV (vInt .add x8 (.int .i64 1)) fun t17_102 =>
kn x1 x2 x3 v_100 t17_102 H_101) (
kx0 x1 x2 x3 x7 H)
theorem c95_13 (env : Env) (H : Heap) (kn : Value → Value → Value → Value → Value → Heap → Prop) (kx0 : Value → Value → Value → Value → Heap → Prop) (Q : Ending → Heap → Prop) (h : m95_13 (env 1) (env 2) (env 3) (env 7) (env 8) H kn kx0 Q) :
    RCode Tryd.prog 98 (codeAt [1, 1, 0, 1, 0, 0] (bodyOf Tryd.f95)) env H (mkK (fun e H => kn (e 1) (e 2) (e 3) (e 7) (e 8) H) (inK 0 (fun e H => kx0 (e 1) (e 2) (e 3) (e 7) H) (fun _ _ _ => False)) (retK T Tryd.f95.results.toList Q) (fun c H => Q (.panicked c) H)) :=
  RCode.leaf_ (T := T) (X := ext) (hint := hint95) tok xok mixed (by kernel_rfl) h
theorem L95_12_round (x1 x2 x3 x7 x8 : Value) (H : Heap) (kn : Value → Value → Value → Value → Heap → Prop) (Q : Ending → Heap → Prop) (h : m95_13 x1 x2 x3 x7 x8 H (fun y1 y2 y3 y7 y8 H => L95_12 y1 y2 y3 y7 y8 H kn Q) kn Q) : L95_12 x1 x2 x3 x7 x8 H kn Q := by
  intro env h1 h2 h3 h7 h8
  subst h1; subst h2; subst h3; subst h7; subst h8
  exact RLoop.round ((c95_13 env H (fun y1 y2 y3 y7 y8 H => L95_12 y1 y2 y3 y7 y8 H kn Q) kn Q h).mono (mkK_mono (fun e H h => h e rfl rfl rfl rfl rfl) (fun _ _ _ h => h) (fun _ _ h => h) (fun _ _ h => h)))
def m95_11 (x1 x2 x3 x7 : Value) (H : Heap) (kn : Value → Value → Value → Value → Heap → Prop) (Q : Ending → Heap → Prop) : Prop :=
L95_12 x1 x2 x3 x7 (.int .i64 0) H kn Q
theorem c95_11 (env : Env) (H : Heap) (kn : Value → Value → Value → Value → Heap → Prop) (Q : Ending → Heap → Prop) (h : m95_11 (env 1) (env 2) (env 3) (env 7) H kn Q) :
    RCode Tryd.prog 98 (codeAt [1, 1, 0] (bodyOf Tryd.f95)) env H (mkK (fun e H => kn (e 1) (e 2) (e 3) (e 7) H) (fun _ _ _ => False) (retK T Tryd.f95.results.toList Q) (fun c H => Q (.panicked c) H)) :=
  RCode.prefix_ (T := T) (X := ext) (hint := hint95) (hole := (fun e H => L95_12 (e 1) (e 2) (e 3) (e 7) (e 8) H kn Q)) tok xok mixed 1 (by kernel_rfl) (by kernel_rfl : codeAt _ _ = (codeAt [1, 1, 0, 1] (bodyOf Tryd.f95))) h
    (fun e H h => (cL95_12 e H kn Q h))
def m95 (x0 x1 x2 : Value) (H : Heap) (Q : Ending → Heap → Prop) : Prop :=
oNew (Value.cells x0).toList (Value.cells x0).toList.length 29 H fun i_103 H_104 =>
m95_11 x1 x2 (ptrTo i_103) (.slice none 0 0) H_104 (fun y1_105 y2_106 y3_107 y7_108 H_109 => m95_1 y1_105 y2_106 y3_107 y7_108 H_109 Q) Q
theorem c95_0 (env : Env) (H : Heap) (Q : Ending → Heap → Prop) (h : m95 (env 0) (env 1) (env 2) H Q) :
    RCode Tryd.prog 98 (bodyOf Tryd.f95) env H (mkK (retK T Tryd.f95.results.toList Q) (fun _ _ _ => False) (retK T Tryd.f95.results.toList Q) (fun c H => Q (.panicked c) H)) :=
  RCode.prefix_ (T := T) (X := ext) (hint := hint95) (hole := (fun e H => m95_11 (e 1) (e 2) (e 3) (e 7) H (fun y1_110 y2_111 y3_112 y7_113 H_114 => m95_1 y1_110 y2_111 y3_112 y7_113 H_114 Q) Q)) tok xok mixed 2 (by kernel_rfl) (by kernel_rfl : codeAt _ _ = (codeAt [1, 1] (bodyOf Tryd.f95))) h
    (fun e H h => RCode.join (by kernel_rfl : (codeAt [1, 1] (bodyOf Tryd.f95)) = .seq (codeAt [1, 1, 0] (bodyOf Tryd.f95)) (codeAt [1, 1, 1] (bodyOf Tryd.f95))) ((c95_11 e H (fun y1_115 y2_116 y3_117 y7_118 H_119 => m95_1 y1_115 y2_116 y3_117 y7_118 H_119 Q) Q h).mono (mkK_mono (fun e H h => c95_1 e H Q h) (fun _ _ _ h => h) (fun _ _ h => h) (fun _ _ h => h))))
theorem call95 (a0 a1 a2 : Value) (H : Heap) (Q : Ending → Heap → Prop) (h : m95 a0 a1 a2 H Q) : RCalls Tryd.prog 95 [a0, a1, a2] H Q :=
  RCalls.intro (nt := 98) tok Tryd.func95 (by kernel_rfl) (by kernel_rfl) (by kernel_rfl) (of_decide_eq_true (by kernel_rfl)) (c95_0 (envOf [a0, a1, a2]) H Q h)
/-! ### 59: (*privity/privityref14.Net).Send -/
def hint59 : Nat → List Nat := lookupL [(1, [0, 1, 2, 3, 4, 5, 6, 7, 8, 9, 10])]
def m59_1 (x0 x6 : Value) (H : Heap) (Q : Ending → Heap → Prop) : Prop :=
oV (vNil x0) fun t72_1 =>
oV (vField 6 t72_1) fun t73_2 =>
oV (vLoad ty3 t73_2 H) fun t74_3 =>
oV (vInt .add t74_3 (.int .i64 1)) fun t75_4 =>
oV (vNil x0) fun t76_5 =>
oV (vField 6 t76_5) fun t77_6 =>
oHeap (vStore ty3 t77_6 t75_4 H) fun H_7 =>
Q (.returned x6) H_7
theorem c59_1 (env : Env) (H : Heap) (Q : Ending → Heap → Prop) (h : m59_1 (env 0) (env 6) H Q) :
    RCode Tryd.prog 79 (codeAt [1, 1, 1, 1] (bodyOf Tryd.f59)) env H (mkK (retK T Tryd.f59.results.toList Q) (fun _ _ _ => False) (retK T Tryd.f59.results.toList Q) (fun c H => Q (.panicked c) H)) :=
  RCode.leaf_ (T := T) (X := ext) (hint := hint59) tok xok mixed (by kernel_rfl) h
def L59_3 (x0 x5 x6 x7 : Value) (H : Heap) (kn : Value → Value → Heap → Prop) (Q : Ending → Heap → Prop) : Prop :=
  ∀ env : Env, env 0 = x0 → env 5 = x5 → env 6 = x6 → env 7 = x7 → RLoop Tryd.prog 79 (codeAt [1, 1, 1, 0, 1, 0, 0] (bodyOf Tryd.f59)) env H (mkK (fun _ _ => False) (inK 0 (fun e H => kn (e 0) (e 6) H) (fun _ _ _ => False)) (retK T Tryd.f59.results.toList Q) (fun c H => Q (.panicked c) H))
theorem cL59_3 (env : Env) (H : Heap) (kn : Value → Value → Heap → Prop) (Q : Ending → Heap → Prop) (h : L59_3 (env 0) (env 5) (env 6) (env 7) H kn Q) :
    RCode Tryd.prog 79 (codeAt [1, 1, 1, 0, 1] (bodyOf Tryd.f59)) env H (mkK (fun e H => kn (e 0) (e 6) H) (fun _ _ _ => False) (retK T Tryd.f59.results.toList Q) (fun c H => Q (.panicked c) H)) :=
  RCode.blk (by kernel_rfl : (codeAt [1, 1, 1, 0, 1] (bodyOf Tryd.f59)) = .block 0 (codeAt [1, 1, 1, 0, 1, 0] (bodyOf Tryd.f59))) (RCode.lp (by kernel_rfl : (codeAt [1, 1, 1, 0, 1, 0] (bodyOf Tryd.f59)) = .loop (codeAt [1, 1, 1, 0, 1, 0, 0] (bodyOf Tryd.f59))) ((h env rfl rfl rfl rfl).mono (mkK_mono (fun _ _ h => h.elim) (fun _ _ _ h => h) (fun _ _ h => h) (fun _ _ h => h))))
def m59_5 (x0 x5 x6 x7 : Value) (H : Heap) (kn : Value → Value → Value → Value → Heap → Prop) (kx0 : Value → Value → Heap → Prop) (Q : Ending → Heap → Prop) : Prop :=
oV (vInt .add x7 (.int .i64 1)) fun t36_8 =>
kn x0 x5 x6 t36_8 H
theorem c59_5 (env : Env) (H : Heap) (kn : Value → Value → Value → Value → Heap → Prop) (kx0 : Value → Value → Heap → Prop) (Q : Ending → Heap → Prop) (h : m59_5 (env 0) (env 5) (env 6) (env 7) H kn kx0 Q) :
    RCode Tryd.prog 79 (codeAt [1, 1, 1, 0, 1, 0, 0, 1, 1] (bodyOf Tryd.f59)) env H (mkK (fun e H => kn (e 0) (e 5) (e 6) (e 7) H) (inK 0 (fun e H => kx0 (e 0) (e 6) H) (fun _ _ _ => False)) (retK T Tryd.f59.results.toList Q) (fun c H => Q (.panicked c) H)) :=
  RCode.leaf_ (T := T) (X := ext) (hint := hint59) tok xok mixed (by kernel_rfl) h
def L59_8 (x0 x5 x6 x7 x8 : Value) (H : Heap) (kn : Value → Value → Value → Value → Heap → Prop) (kx1 : Value → Value → Value → Value → Heap → Prop) (kx0 : Value → Value → Heap → Prop) (Q : Ending → Heap → Prop) : Prop :=
  ∀ env : Env, env 0 = x0 → env 5 = x5 → env 6 = x6 → env 7 = x7 → env 8 = x8 → RLoop Tryd.prog 79 (codeAt [1, 1, 1, 0, 1, 0, 0, 1, 0, 0, 1, 0, 0] (bodyOf Tryd.f59)) env H (mkK (fun _ _ => False) (inK 2 (fun e H => kn (e 0) (e 5) (e 6) (e 7) H) (inK 1 (fun e H => kx1 (e 0) (e 5) (e 6) (e 7) H) (inK 0 (fun e H => kx0 (e 0) (e 6) H) (fun _ _ _ => False)))) (retK T Tryd.f59.results.toList Q) (fun c H => Q (.panicked c) H))
theorem cL59_8 (env : Env) (H : Heap) (kn : Value → Value → Value → Value → Heap → Prop) (kx1 : Value → Value → Value → Value → Heap → Prop) (kx0 : Value → Value → Heap → Prop) (Q : Ending → Heap → Prop) (h : L59_8 (env 0) (env 5) (env 6) (env 7) (env 8) H kn kx1 kx0 Q) :
    RCode Tryd.prog 79 (codeAt [1, 1, 1, 0, 1, 0, 0, 1, 0, 0, 1] (bodyOf Tryd.f59)) env H (mkK (fun e H => kn (e 0) (e 5) (e 6) (e 7) H) (inK 1 (fun e H => kx1 (e 0) (e 5) (e 6) (e 7) H) (inK 0 (fun e H => kx0 (e 0) (e 6) H) (fun _ _ _ => False))) (retK T Tryd.f59.results.toList Q) (fun c H => Q (.panicked c) H)) :=
  RCode.blk (by kernel_rfl : (codeAt [1, 1, 1, 0, 1, 0, 0, 1, 0, 0, 1] (bodyOf Tryd.f59)) = .block 2 (codeAt [1, 1, 1, 0, 1, 0, 0, 1, 0, 0, 1, 0] (bodyOf Tryd.f59))) (RCode.lp (by kernel_rfl : (codeAt [1, 1, 1, 0, 1, 0, 0, 1, 0, 0, 1, 0] (bodyOf Tryd.f59)) = .loop (codeAt [1, 1, 1, 0, 1, 0, 0, 1, 0, 0, 1, 0, 0] (bodyOf Tryd.f59))) ((h env rfl rfl rfl rfl rfl).mono (mkK_mono (fun _ _ h => h.elim) (fun _ _ _ h => h) (fun _ _ h => h) (fun _ _ h => h))))
def m59_9 (x0 x5 x6 x7 x8 : Value) (H : Heap) (kn : Value → Value → Value → Value → Value → Heap → Prop) (kx2 : Value → Value → Value → Value → Heap → Prop) (kx1 : Value → Value → Value → Value → Heap → Prop) (kx0 : Value → Value → Heap → Prop) (Q : Ending → Heap → Prop) : Prop :=
oV (vNil x0) fun t39_9 =>
oV (vField 0 t39_9) fun t40_10 =>
oV (vField 0 t40_10) fun t41_11 =>
oV (vField 1 t41_11) fun t42_12 =>
oV (vLoad ty3 t42_12 H) fun t43_13 =>
oV (vInt .lss x8 t43_13) fun t44_14 =>
condK t44_14 (
oBuildS ty22 22 0 [] H fun s_15 H_16 =>
oV (vIdxS 1 x5 x8) fun t50_17 =>
oV (vLoad ty27 t50_17 H_16) fun t51_18 =>
oV (vIdxS 1 t51_18 x7) fun t53_19 =>
oV (vLoad ty52 t53_19 H_16) fun t54_20 =>
oAppend ty22 22 s_15 t54_20 H_16 fun v_21 H_22 =>
oV (vIdxS 1 x6 x7) fun t60_23 =>
oV (vLoad ty27 t60_23 H_22) fun t61_24 =>
oBuildS ty52 52 1 [((0, 1), v_21)] H_22 fun s_25 H_26 =>
oAppend ty52 52 t61_24 s_25 H_26 fun v_27 H_28 =>
oV (vIdxS 1 x6 x7) fun t65_29 =>
oHeap (vStore ty27 t65_29 v_27 H_28) fun H_30 =>
oRC Tryd.prog 94 [x0, x7, x8, v_21] H_30 (fun c H => Q (.panicked c) H) fun v_31 H_32 =>
oV (vInt .add x8 (.int .i64 1)) fun t46_33 =>
kn x0 x5 x6 x7 t46_33 H_32) (
kx2 x0 x5 x6 x7 H)
theorem c59_9 (env : Env) (H : Heap) (kn : Value → Value → Value → Value → Value → Heap → Prop) (kx2 : Value → Value → Value → Value → Heap → Prop) (kx1 : Value → Value → Value → Value → Heap → Prop) (kx0 : Value → Value → Heap → Prop) (Q : Ending → Heap → Prop) (h : m59_9 (env 0) (env 5) (env 6) (env 7) (env 8) H kn kx2 kx1 kx0 Q) :
    RCode Tryd.prog 79 (codeAt [1, 1, 1, 0, 1, 0, 0, 1, 0, 0, 1, 0, 0] (bodyOf Tryd.f59)) env H (mkK (fun e H => kn (e 0) (e 5) (e 6) (e 7) (e 8) H) (inK 2 (fun e H => kx2 (e 0) (e 5) (e 6) (e 7) H) (inK 1 (fun e H => kx1 (e 0) (e 5) (e 6) (e 7) H) (inK 0 (fun e H => kx0 (e 0) (e 6) H) (fun _ _ _ => False)))) (retK T Tryd.f59.results.toList Q) (fun c H => Q (.panicked c) H)) :=
  RCode.leaf_ (T := T) (X := ext) (hint := hint59) tok xok mixed (by kernel_rfl) h
theorem L59_8_round (x0 x5 x6 x7 x8 : Value) (H : Heap) (kn : Value → Value → Value → Value → Heap → Prop) (kx1 : Value → Value → Value → Value → Heap → Prop) (kx0 : Value → Value → Heap → Prop) (Q : Ending → Heap → Prop) (h : m59_9 x0 x5 x6 x7 x8 H (fun y0 y5 y6 y7 y8 H => L59_8 y0 y5 y6 y7 y8 H kn kx1 kx0 Q) kn kx1 kx0 Q) : L59_8 x0 x5 x6 x7 x8 H kn kx1 kx0 Q := by
  intro env h0 h5 h6 h7 h8
  subst h0; subst h5; subst h6; subst h7; subst h8
  exact RLoop.round ((c59_9 env H (fun y0 y5 y6 y7 y8 H => L59_8 y0 y5 y6 y7 y8 H kn kx1 kx0 Q) kn kx1 kx0 Q h).mono (mkK_mono (fun e H h => h e rfl rfl rfl rfl rfl) (fun _ _ _ h => h) (fun _ _ h => h) (fun _ _ h => h)))
def m59_7 (x0 x5 x6 x7 : Value) (H : Heap) (kn : Value → Value → Value → Value → Heap → Prop) (kx1 : Value → Value → Value → Value → Heap → Prop) (kx0 : Value → Value → Heap → Prop) (Q : Ending → Heap → Prop) : Prop :=
L59_8 x0 x5 x6 x7 (.int .i64 0) H kn kx1 kx0 Q
theorem c59_7 (env : Env) (H : Heap) (kn : Value → Value → Value → Value → Heap → Prop) (kx1 : Value → Value → Value → Value → Heap → Prop) (kx0 : Value → Value → Heap → Prop) (Q : Ending → Heap → Prop) (h : m59_7 (env 0) (env 5) (env 6) (env 7) H kn kx1 kx0 Q) :
    RCode Tryd.prog 79 (codeAt [1, 1, 1, 0, 1, 0, 0, 1, 0, 0] (bodyOf Tryd.f59)) env H (mkK (fun e H => kn (e 0) (e 5) (e 6) (e 7) H) (inK 1 (fun e H => kx1 (e 0) (e 5) (e 6) (e 7) H) (inK 0 (fun e H => kx0 (e 0) (e 6) H) (fun _ _ _ => False))) (retK T Tryd.f59.results.toList Q) (fun c H => Q (.panicked c) H)) :=
  RCode.prefix_ (T := T) (X := ext) (hint := hint59) (hole := (fun e H => L59_8 (e 0) (e 5) (e 6) (e 7) (e 8) H kn kx1 kx0 Q)) tok xok mixed 1 (by kernel_rfl) (by kernel_rfl : codeAt _ _ = (codeAt [1, 1, 1, 0, 1, 0, 0, 1, 0, 0, 1] (bodyOf Tryd.f59))) h
    (fun e H h => (cL59_8 e H kn kx1 kx0 Q h))
def m59_6 (x0 x5 x6 x7 : Value) (H : Heap) (kn : Value → Value → Value → Value → Heap → Prop) (kx0 : Value → Value → Heap → Prop) (Q : Ending → Heap → Prop) : Prop :=
m59_7 x0 x5 x6 x7 H kn kn kx0 Q
theorem c59_6 (env : Env) (H : Heap) (kn : Value → Value → Value → Value → Heap → Prop) (kx0 : Value → Value → Heap → Prop) (Q : Ending → Heap → Prop) (h : m59_6 (env 0) (env 5) (env 6) (env 7) H kn kx0 Q) :
    RCode Tryd.prog 79 (codeAt [1, 1, 1, 0, 1, 0, 0, 1, 0] (bodyOf Tryd.f59)) env H (mkK (fun e H => kn (e 0) (e 5) (e 6) (e 7) H) (inK 0 (fun e H => kx0 (e 0) (e 6) H) (fun _ _ _ => False)) (retK T Tryd.f59.results.toList Q) (fun c H => Q (.panicked c) H)) :=
  RCode.blk (by kernel_rfl : (codeAt [1, 1, 1, 0, 1, 0, 0, 1, 0] (bodyOf Tryd.f59)) = .block 1 (codeAt [1, 1, 1, 0, 1, 0, 0, 1, 0, 0] (bodyOf Tryd.f59))) (c59_7 env H kn kn kx0 Q h)
def m59_4 (x0 x5 x6 x7 : Value) (H : Heap) (kn : Value → Value → Value → Value → Heap → Prop) (kx0 : Value → Value → Heap → Prop) (Q : Ending → Heap → Prop) : Prop :=
oV (vNil x0) fun t29_34 =>
oV (vField 0 t29_34) fun t30_35 =>
oV (vField 0 t30_35) fun t31_36 =>
oV (vField 1 t31_36) fun t32_37 =>
oV (vLoad ty3 t32_37 H) fun t33_38 =>
oV (vInt .lss x7 t33_38) fun t34_39 =>
condK t34_39 (
m59_6 x0 x5 x6 x7 H (fun y0_40 y5_41 y6_42 y7_43 H_44 => m59_5 y0_40 y5_41 y6_42 y7_43 H_44 kn kx0 Q) kx0 Q) (
kx0 x0 x6 H)
theorem c59_4 (env : Env) (H : Heap) (kn : Value → Value → Value → Value → Heap → Prop) (kx0 : Value → Value → Heap → Prop) (Q : Ending → Heap → Prop) (h : m59_4 (env 0) (env 5) (env 6) (env 7) H kn kx0 Q) :
    RCode Tryd.prog 79 (codeAt [1, 1, 1, 0, 1, 0, 0] (bodyOf Tryd.f59)) env H (mkK (fun e H => kn (e 0) (e 5) (e 6) (e 7) H) (inK 0 (fun e H => kx0 (e 0) (e 6) H) (fun _ _ _ => False)) (retK T Tryd.f59.results.toList Q) (fun c H => Q (.panicked c) H)) :=
  RCode.prefix_ (T := T) (X := ext) (hint := hint59) (hole := (fun e H => m59_6 (e 0) (e 5) (e 6) (e 7) H (fun y0_45 y5_46 y6_47 y7_48 H_49 => m59_5 y0_45 y5_46 y6_47 y7_48 H_49 kn kx0 Q) kx0 Q)) tok xok mixed 1 (by kernel_rfl) (by kernel_rfl : codeAt _ _ = (codeAt [1, 1, 1, 0, 1, 0, 0, 1] (bodyOf Tryd.f59))) h
    (fun e H h => RCode.join (by kernel_rfl : (codeAt [1, 1, 1, 0, 1, 0, 0, 1] (bodyOf Tryd.f59)) = .seq (codeAt [1, 1, 1, 0, 1, 0, 0, 1, 0] (bodyOf Tryd.f59)) (codeAt [1, 1, 1, 0, 1, 0, 0, 1, 1] (bodyOf Tryd.f59))) ((c59_6 e H (fun y0_50 y5_51 y6_52 y7_53 H_54 => m59_5 y0_50 y5_51 y6_52 y7_53 H_54 kn kx0 Q) kx0 Q h).mono (mkK_mono (fun e H h => c59_5 e H kn kx0 Q h) (fun _ _ _ h => h) (fun _ _ h => h) (fun _ _ h => h))))
theorem L59_3_round (x0 x5 x6 x7 : Value) (H : Heap) (kn : Value → Value → Heap → Prop) (Q : Ending → Heap → Prop) (h : m59_4 x0 x5 x6 x7 H (fun y0 y5 y6 y7 H => L59_3 y0 y5 y6 y7 H kn Q) kn Q) : L59_3 x0 x5 x6 x7 H kn Q := by
  intro env h0 h5 h6 h7
  subst h0; subst h5; subst h6; subst h7
  exact RLoop.round ((c59_4 env H (fun y0 y5 y6 y7 H => L59_3 y0 y5 y6 y7 H kn Q) kn Q h).mono (mkK_mono (fun e H h => h e rfl rfl rfl rfl) (fun _ _ _ h => h) (fun _ _ h => h) (fun _ _ h => h)))
def m59_2 (x0 x5 x6 : Value) (H : Heap) (kn : Value → Value → Heap → Prop) (Q : Ending → Heap → Prop) : Prop :=
L59_3 x0 x5 x6 (.int .i64 0) H kn Q
theorem c59_2 (env : Env) (H : Heap) (kn : Value → Value → Heap → Prop) (Q : Ending → Heap → Prop) (h : m59_2 (env 0) (env 5) (env 6) H kn Q) :
    RCode Tryd.prog 79 (codeAt [1, 1, 1, 0] (bodyOf Tryd.f59)) env H (mkK (fun e H => kn (e 0) (e 6) H) (fun _ _ _ => False) (retK T Tryd.f59.results.toList Q) (fun c H => Q (.panicked c) H)) :=
  RCode.prefix_ (T := T) (X := ext) (hint := hint59) (hole := (fun e H => L59_3 (e 0) (e 5) (e 6) (e 7) H kn Q)) tok xok mixed 1 (by kernel_rfl) (by kernel_rfl : codeAt _ _ = (codeAt [1, 1, 1, 0, 1] (bodyOf Tryd.f59))) h
    (fun e H h => (cL59_3 e H kn Q h))
def m59 (x0 x1 : Value) (H : Heap) (Q : Ending → Heap → Prop) : Prop :=
oV (vNil x0) fun t11_55 =>
oV (vField 0 t11_55) fun t12_56 =>
oV (vLoad ty29 t12_56 H) fun t13_57 =>
oV (vNil x0) fun t15_58 =>
oV (vField 6 t15_58) fun t16_59 =>
oV (vLoad ty3 t16_59 H) fun t17_60 =>
oRC Tryd.prog 95 [t13_57, t17_60, x1] H noP fun v_61 H_62 =>
oV (vNil x0) fun t21_63 =>
oV (vField 0 t21_63) fun t22_64 =>
oV (vField 0 t22_64) fun t23_65 =>
oV (vField 1 t23_65) fun t24_66 =>
oV (vLoad ty3 t24_66 H_62) fun t25_67 =>
oMake ty27 27 t25_67 t25_67 H_62 fun s_68 H_69 =>
m59_2 x0 v_61 s_68 H_69 (fun y0_70 y6_71 H_72 => m59_1 y0_70 y6_71 H_72 Q) Q
theorem c59_0 (env : Env) (H : Heap) (Q : Ending → Heap → Prop) (h : m59 (env 0) (env 1) H Q) :
    RCode Tryd.prog 79 (bodyOf Tryd.f59) env H (mkK (retK T Tryd.f59.results.toList Q) (fun _ _ _ => False) (retK T Tryd.f59.results.toList Q) (fun c H => Q (.panicked c) H)) :=
  RCode.prefix_ (T := T) (X := ext) (hint := hint59) (hole := (fun e H => m59_2 (e 0) (e 5) (e 6) H (fun y0_73 y6_74 H_75 => m59_1 y0_73 y6_74 H_75 Q) Q)) tok xok mixed 3 (by kernel_rfl) (by kernel_rfl : codeAt _ _ = (codeAt [1, 1, 1] (bodyOf Tryd.f59))) h
    (fun e H h => RCode.join (by kernel_rfl : (codeAt [1, 1, 1] (bodyOf Tryd.f59)) = .seq (codeAt [1, 1, 1, 0] (bodyOf Tryd.f59)) (codeAt [1, 1, 1, 1] (bodyOf Tryd.f59))) ((c59_2 e H (fun y0_76 y6_77 H_78 => m59_1 y0_76 y6_77 H_78 Q) Q h).mono (mkK_mono (fun e H h => c59_1 e H Q h) (fun _ _ _ h => h) (fun _ _ h => h) (fun _ _ h => h))))
theorem call59 (a0 a1 : Value) (H : Heap) (Q : Ending → Heap → Prop) (h : m59 a0 a1 H Q) : RCalls Tryd.prog 59 [a0, a1] H Q :=
  RCalls.intro (nt := 79) tok Tryd.func59 (by kernel_rfl) (by kernel_rfl) (by kernel_rfl) (of_decide_eq_true (by kernel_rfl)) (c59_0 (envOf [a0, a1]) H Q h)
/-! ### 15: privity/privitylaw14.sameRound -/
def hint15 : Nat → List Nat := lookupL [(2, [0, 1, 2, 5, 6, 7, 3, 4, 8, 9, 10, 11]), (3, [0, 1, 2, 4, 5, 6, 3, 7, 8, 9]), (9, [0, 1, 2, 3, 4, 5, 6, 7, 8, 9])]
def m15_1 (H : Heap) (Q : Ending → Heap → Prop) : Prop :=
Q (.returned (.bool true)) H
theorem c15_1 (env : Env) (H : Heap) (Q : Ending → Heap → Prop) (h : m15_1 H Q) :
    RCode Tryd.prog 52 (codeAt [1, 1, 1, 1, 1] (bodyOf Tryd.f15)) env H (mkK (retK T Tryd.f15.results.toList Q) (fun _ _ _ => False) (retK T Tryd.f15.results.toList Q) (fun c H => Q (.panicked c) H)) :=
  RCode.leaf_ (T := T) (X := ext) (hint := hint15) tok xok mixed (by kernel_rfl) h
def L15_3 (x7 x8 x9 : Value) (H : Heap) (kn : Heap → Prop) (Q : Ending → Heap → Prop) : Prop :=
  ∀ env : Env, env 7 = x7 → env 8 = x8 → env 9 = x9 → RLoop Tryd.prog 52 (codeAt [1, 1, 1, 1, 0, 1, 0, 0] (bodyOf Tryd.f15)) env H (mkK (fun _ _ => False) (inK 0 (fun e H => kn H) (fun _ _ _ => False)) (retK T Tryd.f15.results.toList Q) (fun c H => Q (.panicked c) H))
theorem cL15_3 (env : Env) (H : Heap) (kn : Heap → Prop) (Q : Ending → Heap → Prop) (h : L15_3 (env 7) (env 8) (env 9) H kn Q) :
    RCode Tryd.prog 52 (codeAt [1, 1, 1, 1, 0, 1] (bodyOf Tryd.f15)) env H (mkK (fun e H => kn H) (fun _ _ _ => False) (retK T Tryd.f15.results.toList Q) (fun c H => Q (.panicked c) H)) :=
  RCode.blk (by kernel_rfl : (codeAt [1, 1, 1, 1, 0, 1] (bodyOf Tryd.f15)) = .block 0 (codeAt [1, 1, 1, 1, 0, 1, 0] (bodyOf Tryd.f15))) (RCode.lp (by kernel_rfl : (codeAt [1, 1, 1, 1, 0, 1, 0] (bodyOf Tryd.f15)) = .loop (codeAt [1, 1, 1, 1, 0, 1, 0, 0] (bodyOf Tryd.f15))) ((h env rfl rfl rfl).mono (mkK_mono (fun _ _ h => h.elim) (fun _ _ _ h => h) (fun _ _ h => h) (fun _ _ h => h))))
def m15_4 (x7 x8 x9 : Value) (H : Heap) (kn : Value → Value → Value → Heap → Prop) (kx0 : Heap → Prop) (Q : Ending → Heap → Prop) : Prop :=
oV (vLen x7) fun t38_1 =>
oV (vInt .lss x9 t38_1) fun t39_2 =>
condK t39_2 (
oV (vIdxS 1 x7 x9) fun t44_3 =>
oV (vLoad ty27 t44_3 H) fun t45_4 =>
oV (vIdxS 1 x8 x9) fun t48_5 =>
oV (vLoad ty27 t48_5 H) fun t49_6 =>
oRC Tryd.prog 56 [t45_4, t49_6] H noP fun v_7 H_8 =>
oV (vUn .not v_7) fun t51_9 =>
condK t51_9 (
Q (.returned (.bool false)) H_8) (
oV (vInt .add x9 (.int .i64 1)) fun t41_10 =>
kn x7 x8 t41_10 H_8)) (
kx0 H)
theorem c15_4 (env : Env) (H : Heap) (kn : Value → Value → Value → Heap → Prop) (kx0 : Heap → Prop) (Q : Ending → Heap → Prop) (h : m15_4 (env 7) (env 8) (env 9) H kn kx0 Q) :
    RCode Tryd.prog 52 (codeAt [1, 1, 1, 1, 0, 1, 0, 0] (bodyOf Tryd.f15)) env H (mkK (fun e H => kn (e 7) (e 8) (e 9) H) (inK 0 (fun e H => kx0 H) (fun _ _ _ => False)) (retK T Tryd.f15.results.toList Q) (fun c H => Q (.panicked c) H)) :=
  RCode.leaf_ (T := T) (X := ext) (hint := hint15) tok xok mixed (by kernel_rfl) h
theorem L15_3_round (x7 x8 x9 : Value) (H : Heap) (kn : Heap → Prop) (Q : Ending → Heap → Prop) (h : m15_4 x7 x8 x9 H (fun y7 y8 y9 H => L15_3 y7 y8 y9 H kn Q) kn Q) : L15_3 x7 x8 x9 H kn Q := by
  intro env h7 h8 h9
  subst h7; subst h8; subst h9
  exact RLoop.round ((c15_4 env H (fun y7 y8 y9 H => L15_3 y7 y8 y9 H kn Q) kn Q h).mono (mkK_mono (fun e H h => h e rfl rfl rfl) (fun _ _ _ h => h) (fun _ _ h => h) (fun _ _ h => h)))
def m15_2 (x7 x8 : Value) (H : Heap) (kn : Heap → Prop) (Q : Ending → Heap → Prop) : Prop :=
L15_3 x7 x8 (.int .i64 0) H kn Q
theorem c15_2 (env : Env) (H : Heap) (kn : Heap → Prop) (Q : Ending → Heap → Prop) (h : m15_2 (env 7) (env 8) H kn Q) :
    RCode Tryd.prog 52 (codeAt [1, 1, 1, 1, 0] (bodyOf Tryd.f15)) env H (mkK (fun e H => kn H) (fun _ _ _ => False) (retK T Tryd.f15.results.toList Q) (fun c H => Q (.panicked c) H)) :=
  RCode.prefix_ (T := T) (X := ext) (hint := hint15) (hole := (fun e H => L15_3 (e 7) (e 8) (e 9) H kn Q)) tok xok mixed 1 (by kernel_rfl) (by kernel_rfl : codeAt _ _ = (codeAt [1, 1, 1, 1, 0, 1] (bodyOf Tryd.f15))) h
    (fun e H h => (cL15_3 e H kn Q h))
def m15 (x0 x1 x2 : Value) (H : Heap) (Q : Ending → Heap → Prop) : Prop :=
oNew (Value.cells x2).toList (Value.cells x2).toList.length 46 H fun i_11 H_12 =>
oV (vField 0 (ptrTo i_11)) fun t10_13 =>
oV (vLoad ty4 t10_13 H_12) fun t11_14 =>
condK t11_14 (
oV (vField 1 (ptrTo i_11)) fun t13_15 =>
oV (vLoad ty44 t13_15 H_12) fun t14_16 =>
oV (vField 1 (ptrTo i_11)) fun t18_17 =>
oV (vLoad ty44 t18_17 H_12) fun t19_18 =>
oRC Tryd.prog 57 [t14_16] H_12 noP fun v_19 H_20 =>
(vLoad ty44 t18_17 H_20 = some t19_18 ∧
oRC Tryd.prog 48 [x0, v_19] H_20 noP fun v_21 H_22 =>
(vLoad ty44 t18_17 H_22 = some t19_18 ∧
oRC Tryd.prog 57 [t19_18] H_22 noP fun v_23 H_24 =>
oRC Tryd.prog 58 [x1, v_23] H_24 noP fun v_25 H_26 =>
oRC Tryd.prog 56 [v_21, v_25] H_26 noP fun v_27 H_28 =>
Q (.returned v_27) H_28))) (
oV (vField 1 (ptrTo i_11)) fun t24_29 =>
oV (vLoad ty44 t24_29 H_12) fun t25_30 =>
oV (vField 1 (ptrTo i_11)) fun t28_31 =>
oV (vLoad ty44 t28_31 H_12) fun t29_32 =>
oRC Tryd.prog 47 [x0, t25_30] H_12 noP fun v_33 H_34 =>
(vLoad ty44 t28_31 H_34 = some t29_32 ∧
oRC Tryd.prog 59 [x1, t29_32] H_34 noP fun v_35 H_36 =>
oV (vLen v_33) fun t32_37 =>
oV (vLen v_35) fun t34_38 =>
oV (vInt .neq t32_37 t34_38) fun t35_39 =>
condK t35_39 (
Q (.returned (.bool false)) H_36) (
m15_2 v_33 v_35 H_36 (fun H_40 => m15_1 H_40 Q) Q)))
theorem c15_0 (env : Env) (H : Heap) (Q : Ending → Heap → Prop) (h : m15 (env 0) (env 1) (env 2) H Q) :
    RCode Tryd.prog 52 (bodyOf Tryd.f15) env H (mkK (retK T Tryd.f15.results.toList Q) (fun _ _ _ => False) (retK T Tryd.f15.results.toList Q) (fun c H => Q (.panicked c) H)) :=
  RCode.prefix_ (T := T) (X := ext) (hint := hint15) (hole := (fun e H => m15_2 (e 7) (e 8) H (fun H_41 => m15_1 H_41 Q) Q)) tok xok mixed 4 (by kernel_rfl) (by kernel_rfl : codeAt _ _ = (codeAt [1, 1, 1, 1] (bodyOf Tryd.f15))) h
    (fun e H h => RCode.join (by kernel_rfl : (codeAt [1, 1, 1, 1] (bodyOf Tryd.f15)) = .seq (codeAt [1, 1, 1, 1, 0] (bodyOf Tryd.f15)) (codeAt [1, 1, 1, 1, 1] (bodyOf Tryd.f15))) ((c15_2 e H (fun H_42 => m15_1 H_42 Q) Q h).mono (mkK_mono (fun e H h => c15_1 e H Q h) (fun _ _ _ h => h) (fun _ _ h => h) (fun _ _ h => h))))
theorem call15 (a0 a1 a2 : Value) (H : Heap) (Q : Ending → Heap → Prop) (h : m15 a0 a1 a2 H Q) : RCalls Tryd.prog 15 [a0, a1, a2] H Q :=
  RCalls.intro (nt := 52) tok Tryd.func15 (by kernel_rfl) (by kernel_rfl) (by kernel_rfl) (of_decide_eq_true (by kernel_rfl)) (c15_0 (envOf [a0, a1, a2]) H Q h)
/-! ### 18: (*privity/privityref14.Net).View -/
def hint18 : Nat → List Nat := lookupL []
def m18 (x0 x1 : Value) (H : Heap) (Q : Ending → Heap → Prop) : Prop :=
oBuildS ty90 90 0 [] H fun s_1 H_2 =>
oV (vNil x0) fun t7_3 =>
oV (vField 7 t7_3) fun t8_4 =>
oV (vLoad ty95 t8_4 H_2) fun t9_5 =>
oV (vInt .sub x1 (.int .i64 1)) fun t11_6 =>
oV (vIdxS 1 t9_5 t11_6) fun t12_7 =>
oV (vLoad ty49 t12_7 H_2) fun t13_8 =>
oAppend ty90 90 s_1 t13_8 H_2 fun v_9 H_10 =>
Q (.returned v_9) H_10
theorem c18_0 (env : Env) (H : Heap) (Q : Ending → Heap → Prop) (h : m18 (env 0) (env 1) H Q) :
    RCode Tryd.prog 15 (bodyOf Tryd.f18) env H (mkK (retK T Tryd.f18.results.toList Q) (fun _ _ _ => False) (retK T Tryd.f18.results.toList Q) (fun c H => Q (.panicked c) H)) :=
  RCode.leaf_ (T := T) (X := ext) (hint := hint18) tok xok mixed (by kernel_rfl) h
theorem call18 (a0 a1 : Value) (H : Heap) (Q : Ending → Heap → Prop) (h : m18 a0 a1 H Q) : RCalls Tryd.prog 18 [a0, a1] H Q :=
  RCalls.intro (nt := 15) tok Tryd.func18 (by kernel_rfl) (by kernel_rfl) (by kernel_rfl) (of_decide_eq_true (by kernel_rfl)) (c18_0 (envOf [a0, a1]) H Q h)
/-! ### 19: (*privity/network.Net).Scenario -/
def hint19 : Nat → List Nat := lookupL []
def m19 (x0 : Value) (H : Heap) (Q : Ending → Heap → Prop) : Prop :=
oNew (Value.cells ty29.zero).toList (Value.cells ty29.zero).toList.length 29 H fun i_1 H_2 =>
oV (vNil x0) fun t4_3 =>
oV (vField 0 t4_3) fun t5_4 =>
oV (vLoad ty29 t5_4 H_2) fun t6_5 =>
oHeap (vStore ty29 (ptrTo i_1) t6_5 H_2) fun H_6 =>
retM ((vLoad ty29 (ptrTo i_1) H_6).bind fun v => (some []).map (v :: ·)) Q H_6
theorem c19_0 (env : Env) (H : Heap) (Q : Ending → Heap → Prop) (h : m19 (env 0) H Q) :
    RCode Tryd.prog 7 (bodyOf Tryd.f19) env H (mkK (retK T Tryd.f19.results.toList Q) (fun _ _ _ => False) (retK T Tryd.f19.results.toList Q) (fun c H => Q (.panicked c) H)) :=
  RCode.leaf_ (T := T) (X := ext) (hint := hint19) tok xok mixed (by kernel_rfl) h
theorem call19 (a0 : Value) (H : Heap) (Q : Ending → Heap → Prop) (h : m19 a0 H Q) : RCalls Tryd.prog 19 [a0] H Q :=
  RCalls.intro (nt := 7) tok Tryd.func19 (by kernel_rfl) (by kernel_rfl) (by kernel_rfl) (of_decide_eq_true (by kernel_rfl)) (c19_0 (envOf [a0]) H Q h)
/-! ### 3: privity/privitylaw14.NetworkExecution -/
def hint3 : Nat → List Nat := lookupL [(19, [0, 2, 3, 4, 1, 5, 6, 7, 10, 11, 12, 8, 9, 13, 14, 15, 16, 20, 21, 22, 23, 17, 18, 19, 24, 25, 26])]
def m3_2 (x1 x3 : Value) (H : Heap) (Q : Ending → Heap → Prop) : Prop :=
oV (vField 6 x1) fun t68_1 =>
oV (vLoad ty30 t68_1 H) fun t69_2 =>
oV (vLen t69_2) fun t70_3 =>
oRC Tryd.prog 14 [x3] H noP fun v_4 H_5 =>
(vLoad ty30 t68_1 H_5 = some t69_2 ∧
oV (vInt .eql v_4 t70_3) fun t71_6 =>
oV (gV t71_6 true (some x3) (some undef)) fun t73_7 =>
oV (gV t71_6 true (vField 0 x1) (some undef)) fun t76_8 =>
oV (gV t71_6 true (vField 0 t76_8) (some undef)) fun t77_9 =>
oV (gV t71_6 true (vLoad ty24 t77_9 H_5) (some undef)) fun t78_10 =>
letK (fun t74_12 H_13 =>
(gV t71_6 true (vLoad ty24 t77_9 H_13) (some undef) = some t78_10 ∧
oV (gV t71_6 true (vPart true 0 3 t74_12) (some undef)) fun t75_14 =>
oV (gV t71_6 true (vAggOp 3 .eql t75_14 t78_10) (some undef)) fun t79_15 =>
oV (vPick t71_6 t79_15 (.bool false)) fun t80_16 =>
oV (gV t80_16 true (some x3) (some undef)) fun t82_17 =>
oV (gV t80_16 true (vField 0 x1) (some undef)) fun t86_18 =>
oV (gV t80_16 true (vField 4 t86_18) (some undef)) fun t87_19 =>
oV (gV t80_16 true (vLoad ty26 t87_19 H_13) (some undef)) fun t88_20 =>
oV (gV t80_16 true (vLen t88_20) (some undef)) fun t89_21 =>
letK (fun t83_23 H_24 =>
(gV t80_16 true (vLoad ty26 t87_19 H_24) (some undef) = some t88_20 ∧
oV (gV t80_16 true (vPart false 4 1 t83_23) (some undef)) fun t84_25 =>
oV (gV t80_16 true (vLen t84_25) (some undef)) fun t85_26 =>
oV (gV t80_16 true (vInt .eql t85_26 t89_21) (some undef)) fun t90_27 =>
oV (vPick t80_16 t90_27 (.bool false)) fun t91_28 =>
Q (.returned t91_28) H_24)) fun k_22 => gK t80_16 true (oRC Tryd.prog 19 [t82_17] H_13 noP fun v_29 H_30 =>
k_22 v_29 H_30) (k_22 undef H_13))) fun k_11 => gK t71_6 true (oRC Tryd.prog 19 [t73_7] H_5 noP fun v_31 H_32 =>
k_11 v_31 H_32) (k_11 undef H_5))
theorem c3_2 (env : Env) (H : Heap) (Q : Ending → Heap → Prop) (h : m3_2 (env 1) (env 3) H Q) :
    RCode Tryd.prog 92 (codeAt [1, 1, 1, 1, 1, 1, 1, 1] (bodyOf Tryd.f3)) env H (mkK (retK T Tryd.f3.results.toList Q) (fun _ _ _ => False) (retK T Tryd.f3.results.toList Q) (fun c H => Q (.panicked c) H)) :=
  RCode.leaf_ (T := T) (X := ext) (hint := hint3) tok xok mixed (by kernel_rfl) h
def L3_4 (x1 x3 x5 x8 : Value) (H : Heap) (kn : Value → Value → Heap → Prop) (Q : Ending → Heap → Prop) : Prop :=
  ∀ env : Env, env 1 = x1 → env 3 = x3 → env 5 = x5 → env 8 = x8 → RLoop Tryd.prog 92 (codeAt [1, 1, 1, 1, 1, 1, 1, 0, 1, 0, 0] (bodyOf Tryd.f3)) env H (mkK (fun _ _ => False) (inK 2 (fun e H => kn (e 1) (e 3) H) (fun _ _ _ => False)) (retK T Tryd.f3.results.toList Q) (fun c H => Q (.panicked c) H))
theorem cL3_4 (env : Env) (H : Heap) (kn : Value → Value → Heap → Prop) (Q : Ending → Heap → Prop) (h : L3_4 (env 1) (env 3) (env 5) (env 8) H kn Q) :
    RCode Tryd.prog 92 (codeAt [1, 1, 1, 1, 1, 1, 1, 0, 1] (bodyOf Tryd.f3)) env H (mkK (fun e H => kn (e 1) (e 3) H) (fun _ _ _ => False) (retK T Tryd.f3.results.toList Q) (fun c H => Q (.panicked c) H)) :=
  RCode.blk (by kernel_rfl : (codeAt [1, 1, 1, 1, 1, 1, 1, 0, 1] (bodyOf Tryd.f3)) = .block 2 (codeAt [1, 1, 1, 1, 1, 1, 1, 0, 1, 0] (bodyOf Tryd.f3))) (RCode.lp (by kernel_rfl : (codeAt [1, 1, 1, 1, 1, 1, 1, 0, 1, 0] (bodyOf Tryd.f3)) = .loop (codeAt [1, 1, 1, 1, 1, 1, 1, 0, 1, 0, 0] (bodyOf Tryd.f3))) ((h env rfl rfl rfl rfl).mono (mkK_mono (fun _ _ h => h.elim) (fun _ _ _ h => h) (fun _ _ h => h) (fun _ _ h => h))))
def m3_5 (x1 x3 x5 x8 : Value) (H : Heap) (kn : Value → Value → Value → Value → Heap → Prop) (kx2 : Value → Value → Heap → Prop) (Q : Ending → Heap → Prop) : Prop :=
oV (vField 0 x1) fun t51_33 =>
oV (vField 0 t51_33) fun t52_34 =>
oV (vField 1 t52_34) fun t53_35 =>
oV (vLoad ty3 t53_35 H) fun t54_36 =>
oV (vInt .leq x8 t54_36) fun t55_37 =>
condK t55_37 (
oRC Tryd.prog 17 [x3, x8] H (fun c H => Q (.panicked c) H) fun v_38 H_39 =>
oRC Tryd.prog 18 [x5, x8] H_39 (fun c H => Q (.panicked c) H) fun v_40 H_41 =>
oRC Tryd.prog 16 [v_38, v_40] H_41 (fun c H => Q (.panicked c) H) fun v_42 H_43 =>
oV (vUn .not v_42) fun t65_44 =>
condK t65_44 (
Q (.returned (.bool false)) H_43) (
oV (vInt .add x8 (.int .i64 1)) fun t57_45 =>
kn x1 x3 x5 t57_45 H_43)) (
kx2 x1 x3 H)
theorem c3_5 (env : Env) (H : Heap) (kn : Value → Value → Value → Value → Heap → Prop) (kx2 : Value → Value → Heap → Prop) (Q : Ending → Heap → Prop) (h : m3_5 (env 1) (env 3) (env 5) (env 8) H kn kx2 Q) :
    RCode Tryd.prog 92 (codeAt [1, 1, 1, 1, 1, 1, 1, 0, 1, 0, 0] (bodyOf Tryd.f3)) env H (mkK (fun e H => kn (e 1) (e 3) (e 5) (e 8) H) (inK 2 (fun e H => kx2 (e 1) (e 3) H) (fun _ _ _ => False)) (retK T Tryd.f3.results.toList Q) (fun c H => Q (.panicked c) H)) :=
  RCode.leaf_ (T := T) (X := ext) (hint := hint3) tok xok mixed (by kernel_rfl) h
theorem L3_4_round (x1 x3 x5 x8 : Value) (H : Heap) (kn : Value → Value → Heap → Prop) (Q : Ending → Heap → Prop) (h : m3_5 x1 x3 x5 x8 H (fun y1 y3 y5 y8 H => L3_4 y1 y3 y5 y8 H kn Q) kn Q) : L3_4 x1 x3 x5 x8 H kn Q := by
  intro env h1 h3 h5 h8
  subst h1; subst h3; subst h5; subst h8
  exact RLoop.round ((c3_5 env H (fun y1 y3 y5 y8 H => L3_4 y1 y3 y5 y8 H kn Q) kn Q h).mono (mkK_mono (fun e H h => h e rfl rfl rfl rfl) (fun _ _ _ h => h) (fun _ _ h => h) (fun _ _ h => h)))
def m3_3 (x1 x3 x5 : Value) (H : Heap) (kn : Value → Value → Heap → Prop) (Q : Ending → Heap → Prop) : Prop :=
L3_4 x1 x3 x5 (.int .i64 1) H kn Q
theorem c3_3 (env : Env) (H : Heap) (kn : Value → Value → Heap → Prop) (Q : Ending → Heap → Prop) (h : m3_3 (env 1) (env 3) (env 5) H kn Q) :
    RCode Tryd.prog 92 (codeAt [1, 1, 1, 1, 1, 1, 1, 0] (bodyOf Tryd.f3)) env H (mkK (fun e H => kn (e 1) (e 3) H) (fun _ _ _ => False) (retK T Tryd.f3.results.toList Q) (fun c H => Q (.panicked c) H)) :=
  RCode.prefix_ (T := T) (X := ext) (hint := hint3) (hole := (fun e H => L3_4 (e 1) (e 3) (e 5) (e 8) H kn Q)) tok xok mixed 1 (by kernel_rfl) (by kernel_rfl : codeAt _ _ = (codeAt [1, 1, 1, 1, 1, 1, 1, 0, 1] (bodyOf Tryd.f3))) h
    (fun e H h => (cL3_4 e H kn Q h))
def m3_1 (x1 x3 x5 : Value) (H : Heap) (Q : Ending → Heap → Prop) : Prop :=
m3_3 x1 x3 x5 H (fun y1_46 y3_47 H_48 => m3_2 y1_46 y3_47 H_48 Q) Q
theorem c3_1 (env : Env) (H : Heap) (Q : Ending → Heap → Prop) (h : m3_1 (env 1) (env 3) (env 5) H Q) :
    RCode Tryd.prog 92 (codeAt [1, 1, 1, 1, 1, 1, 1] (bodyOf Tryd.f3)) env H (mkK (retK T Tryd.f3.results.toList Q) (fun _ _ _ => False) (retK T Tryd.f3.results.toList Q) (fun c H => Q (.panicked c) H)) :=
  RCode.join (by kernel_rfl : (codeAt [1, 1, 1, 1, 1, 1, 1] (bodyOf Tryd.f3)) = .seq (codeAt [1, 1, 1, 1, 1, 1, 1, 0] (bodyOf Tryd.f3)) (codeAt [1, 1, 1, 1, 1, 1, 1, 1] (bodyOf Tryd.f3))) ((c3_3 env H (fun y1_49 y3_50 H_51 => m3_2 y1_49 y3_50 H_51 Q) Q h).mono (mkK_mono (fun e H h => c3_2 e H Q h) (fun _ _ _ h => h) (fun _ _ h => h) (fun _ _ h => h)))
def L3_7 (x1 x3 x5 x7 : Value) (H : Heap) (kn : Value → Value → Value → Heap → Prop) (Q : Ending → Heap → Prop) : Prop :=
  ∀ env : Env, env 1 = x1 → env 3 = x3 → env 5 = x5 → env 7 = x7 → RLoop Tryd.prog 92 (codeAt [1, 1, 1, 1, 1, 1, 0, 1, 0, 0] (bodyOf Tryd.f3)) env H (mkK (fun _ _ => False) (inK 0 (fun e H => kn (e 1) (e 3) (e 5) H) (fun _ _ _ => False)) (retK T Tryd.f3.results.toList Q) (fun c H => Q (.panicked c) H))
theorem cL3_7 (env : Env) (H : Heap) (kn : Value → Value → Value → Heap → Prop) (Q : Ending → Heap → Prop) (h : L3_7 (env 1) (env 3) (env 5) (env 7) H kn Q) :
    RCode Tryd.prog 92 (codeAt [1, 1, 1, 1, 1, 1, 0, 1] (bodyOf Tryd.f3)) env H (mkK (fun e H => kn (e 1) (e 3) (e 5) H) (fun _ _ _ => False) (retK T Tryd.f3.results.toList Q) (fun c H => Q (.panicked c) H)) :=
  RCode.blk (by kernel_rfl : (codeAt [1, 1, 1, 1, 1, 1, 0, 1] (bodyOf Tryd.f3)) = .block 0 (codeAt [1, 1, 1, 1, 1, 1, 0, 1, 0] (bodyOf Tryd.f3))) (RCode.lp (by kernel_rfl : (codeAt [1, 1, 1, 1, 1, 1, 0, 1, 0] (bodyOf Tryd.f3)) = .loop (codeAt [1, 1, 1, 1, 1, 1, 0, 1, 0, 0] (bodyOf Tryd.f3))) ((h env rfl rfl rfl rfl).mono (mkK_mono (fun _ _ h => h.elim) (fun _ _ _ h => h) (fun _ _ h => h) (fun _ _ h => h))))
def m3_8 (x1 x3 x5 x7 : Value) (H : Heap) (kn : Value → Value → Value → Value → Heap → Prop) (kx0 : Value → Value → Value → Heap → Prop) (Q : Ending → Heap → Prop) : Prop :=
oV (vField 6 x1) fun t29_52 =>
oV (vLoad ty30 t29_52 H) fun t30_53 =>
oV (vLen t30_53) fun t31_54 =>
oV (vInt .lss x7 t31_54) fun t32_55 =>
condK t32_55 (
oRC Tryd.prog 14 [x3] H (fun c H => Q (.panicked c) H) fun v_56 H_57 =>
oV (vInt .neq v_56 x7) fun t38_58 =>
oV (gV t38_58 false (some x3) (some undef)) fun t40_59 =>
oV (gV t38_58 false (some x5) (some undef)) fun t41_60 =>
oV (gV t38_58 false (vField 6 x1) (some undef)) fun t42_61 =>
oV (gV t38_58 false (vLoad ty30 t42_61 H_57) (some undef)) fun t43_62 =>
oV (gV t38_58 false (some x7) (some undef)) fun t44_63 =>
oV (gV t38_58 false (vIdxS 2 t43_62 t44_63) (some undef)) fun t45_64 =>
oV (gV t38_58 false (vLoad ty46 t45_64 H_57) (some undef)) fun t46_65 =>
letK (fun t47_67 H_68 =>
oV (gV t38_58 false (vUn .not t47_67) (some undef)) fun t48_69 =>
oV (vPick t38_58 (.bool true) t48_69) fun t49_70 =>
condK t49_70 (
Q (.returned (.bool false)) H_68) (
oV (vInt .add x7 (.int .i64 1)) fun t34_71 =>
kn x1 x3 x5 t34_71 H_68)) fun k_66 => gK t38_58 false (oRC Tryd.prog 15 [t40_59, t41_60, t46_65] H_57 (fun c H => Q (.panicked c) H) fun v_72 H_73 =>
k_66 v_72 H_73) (k_66 undef H_57)) (
kx0 x1 x3 x5 H)
theorem c3_8 (env : Env) (H : Heap) (kn : Value → Value → Value → Value → Heap → Prop) (kx0 : Value → Value → Value → Heap → Prop) (Q : Ending → Heap → Prop) (h : m3_8 (env 1) (env 3) (env 5) (env 7) H kn kx0 Q) :
    RCode Tryd.prog 92 (codeAt [1, 1, 1, 1, 1, 1, 0, 1, 0, 0] (bodyOf Tryd.f3)) env H (mkK (fun e H => kn (e 1) (e 3) (e 5) (e 7) H) (inK 0 (fun e H => kx0 (e 1) (e 3) (e 5) H) (fun _ _ _ => False)) (retK T Tryd.f3.results.toList Q) (fun c H => Q (.panicked c) H)) :=
  RCode.leaf_ (T := T) (X := ext) (hint := hint3) tok xok mixed (by kernel_rfl) h
theorem L3_7_round (x1 x3 x5 x7 : Value) (H : Heap) (kn : Value → Value → Value → Heap → Prop) (Q : Ending → Heap → Prop) (h : m3_8 x1 x3 x5 x7 H (fun y1 y3 y5 y7 H => L3_7 y1 y3 y5 y7 H kn Q) kn Q) : L3_7 x1 x3 x5 x7 H kn Q := by
  intro env h1 h3 h5 h7
  subst h1; subst h3; subst h5; subst h7
  exact RLoop.round ((c3_8 env H (fun y1 y3 y5 y7 H => L3_7 y1 y3 y5 y7 H kn Q) kn Q h).mono (mkK_mono (fun e H h => h e rfl rfl rfl rfl) (fun _ _ _ h => h) (fun _ _ h => h) (fun _ _ h => h)))
def m3_6 (x1 x3 x5 : Value) (H : Heap) (kn : Value → Value → Value → Heap → Prop) (Q : Ending → Heap → Prop) : Prop :=
L3_7 x1 x3 x5 (.int .i64 0) H kn Q
theorem c3_6 (env : Env) (H : Heap) (kn : Value → Value → Value → Heap → Prop) (Q : Ending → Heap → Prop) (h : m3_6 (env 1) (env 3) (env 5) H kn Q) :
    RCode Tryd.prog 92 (codeAt [1, 1, 1, 1, 1, 1, 0] (bodyOf Tryd.f3)) env H (mkK (fun e H => kn (e 1) (e 3) (e 5) H) (fun _ _ _ => False) (retK T Tryd.f3.results.toList Q) (fun c H => Q (.panicked c) H)) :=
  RCode.prefix_ (T := T) (X := ext) (hint := hint3) (hole := (fun e H => L3_7 (e 1) (e 3) (e 5) (e 7) H kn Q)) tok xok mixed 1 (by kernel_rfl) (by kernel_rfl : codeAt _ _ = (codeAt [1, 1, 1, 1, 1, 1, 0, 1] (bodyOf Tryd.f3))) h
    (fun e H h => (cL3_7 e H kn Q h))
def m3 (x0 : Value) (H : Heap) (Q : Ending → Heap → Prop) : Prop :=
oNew (Value.cells x0).toList (Value.cells x0).toList.length 32 H fun i_74 H_75 =>
oRC Tryd.prog 10 [] H_75 (fun c H => Q (.panicked c) H) fun v_76 H_77 =>
oV (vUn .not v_76) fun t10_78 =>
condK t10_78 (
Q (.returned (.bool false)) H_77) (
oV (vLoad ty32 (ptrTo i_74) H_77) fun t11_79 =>
oRC Tryd.prog 11 [t11_79] H_77 (fun c H => Q (.panicked c) H) fun v_80 H_81 =>
oV (vUn .not v_80) fun t13_82 =>
condK t13_82 (
Q (.returned (.bool true)) H_81) (
oV (vField 0 (ptrTo i_74)) fun t15_83 =>
oV (vLoad ty29 t15_83 H_81) fun t16_84 =>
oRC Tryd.prog 12 [t16_84] H_81 (fun c H => Q (.panicked c) H) fun v_85 H_86 =>
oV (vExtract v_85 0) fun t18_87 =>
oV (vExtract v_85 1) fun t19_88 =>
oV (vField 0 (ptrTo i_74)) fun t21_89 =>
oV (vLoad ty29 t21_89 H_86) fun t22_90 =>
oRC Tryd.prog 13 [t22_90] H_86 (fun c H => Q (.panicked c) H) fun v_91 H_92 =>
oV (vExtract v_91 0) fun t24_93 =>
oV (vExtract v_91 1) fun t25_94 =>
oV (vInt .neq t19_88 (.int .i64 0)) fun t27_95 =>
condK t27_95 (
Q (.returned (.bool false)) H_92) (
m3_6 (ptrTo i_74) t18_87 t24_93 H_92 (fun y1_96 y3_97 y5_98 H_99 => m3_1 y1_96 y3_97 y5_98 H_99 Q) Q)))
theorem c3_0 (env : Env) (H : Heap) (Q : Ending → Heap → Prop) (h : m3 (env 0) H Q) :
    RCode Tryd.prog 92 (bodyOf Tryd.f3) env H (mkK (retK T Tryd.f3.results.toList Q) (fun _ _ _ => False) (retK T Tryd.f3.results.toList Q) (fun c H => Q (.panicked c) H)) :=
  RCode.prefix_ (T := T) (X := ext) (hint := hint3) (hole := (fun e H => m3_6 (e 1) (e 3) (e 5) H (fun y1_100 y3_101 y5_102 H_103 => m3_1 y1_100 y3_101 y5_102 H_103 Q) Q)) tok xok mixed 6 (by kernel_rfl) (by kernel_rfl : codeAt _ _ = (codeAt [1, 1, 1, 1, 1, 1] (bodyOf Tryd.f3))) h
    (fun e H h => RCode.join (by kernel_rfl : (codeAt [1, 1, 1, 1, 1, 1] (bodyOf Tryd.f3)) = .seq (codeAt [1, 1, 1, 1, 1, 1, 0] (bodyOf Tryd.f3)) (codeAt [1, 1, 1, 1, 1, 1, 1] (bodyOf Tryd.f3))) ((c3_6 e H (fun y1_104 y3_105 y5_106 H_107 => m3_1 y1_104 y3_105 y5_106 H_107 Q) Q h).mono (mkK_mono (fun e H h => c3_1 e H Q h) (fun _ _ _ h => h) (fun _ _ h => h) (fun _ _ h => h))))
theorem call3 (a0 : Value) (H : Heap) (Q : Ending → Heap → Prop) (h : m3 a0 H Q) : RCalls Tryd.prog 3 [a0] H Q :=
  RCalls.intro (nt := 92) tok Tryd.func3 (by kernel_rfl) (by kernel_rfl) (by kernel_rfl) (of_decide_eq_true (by kernel_rfl)) (c3_0 (envOf [a0]) H Q h)
end Go.Proofs.YtchhpagkdaaglaaDoor.SL
