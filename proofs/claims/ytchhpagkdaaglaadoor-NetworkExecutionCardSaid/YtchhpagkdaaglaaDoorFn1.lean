/- PRINTED by program: for each function what its code asks of what is known, and that it suffices. Not trusted: Lean checks it. -/
import Derived.Test.YtchhpagkdaaglaaDoorTab
set_option linter.unusedVariables false
set_option linter.unusedSimpArgs false
set_option maxRecDepth 100000
namespace Go.Proofs.YtchhpagkdaaglaaDoor.SL
open Go
/-! ### 48: (*privity/network.Net).Broadcast -/
def hint48 : Nat → List Nat := lookupL [(2, [0, 1, 2, 3, 4, 5, 6, 7, 8, 9, 10])]
def m48_1 (x0 x7 : Value) (H : Heap) (Q : Ending → Heap → Prop) : Prop :=
oV (vNil x0) fun t58_1 =>
oV (vField 6 t58_1) fun t59_2 =>
oV (vLoad ty3 t59_2 H) fun t60_3 =>
oV (vInt .add t60_3 (.int .i64 1)) fun t61_4 =>
oV (vNil x0) fun t62_5 =>
oV (vField 6 t62_5) fun t63_6 =>
oHeap (vStore ty3 t63_6 t61_4 H) fun H_7 =>
Q (.returned x7) H_7
theorem c48_1 (env : Env) (H : Heap) (Q : Ending → Heap → Prop) (h : m48_1 (env 0) (env 7) H Q) :
    RCode Tryd.prog 65 (codeAt [1, 1, 1, 1, 1] (bodyOf Tryd.f48)) env H (mkK (retK T Tryd.f48.results.toList Q) (fun _ _ _ => False) (retK T Tryd.f48.results.toList Q) (fun c H => Q (.panicked c) H)) :=
  RCode.leaf_ (T := T) (X := ext) (hint := hint48) tok xok mixed (by kernel_rfl) h
def L48_3 (x0 x5 x6 x7 x30 x31 : Value) (H : Heap) (kn : Value → Value → Heap → Prop) (Q : Ending → Heap → Prop) : Prop :=
  ∀ env : Env, env 0 = x0 → env 5 = x5 → env 6 = x6 → env 7 = x7 → env 30 = x30 → env 31 = x31 → RLoop Tryd.prog 65 (codeAt [1, 1, 1, 1, 0, 1, 0, 0] (bodyOf Tryd.f48)) env H (mkK (fun _ _ => False) (inK 0 (fun e H => kn (e 0) (e 7) H) (fun _ _ _ => False)) (retK T Tryd.f48.results.toList Q) (fun c H => Q (.panicked c) H))
theorem cL48_3 (env : Env) (H : Heap) (kn : Value → Value → Heap → Prop) (Q : Ending → Heap → Prop) (h : L48_3 (env 0) (env 5) (env 6) (env 7) (env 30) (env 31) H kn Q) :
    RCode Tryd.prog 65 (codeAt [1, 1, 1, 1, 0, 1] (bodyOf Tryd.f48)) env H (mkK (fun e H => kn (e 0) (e 7) H) (fun _ _ _ => False) (retK T Tryd.f48.results.toList Q) (fun c H => Q (.panicked c) H)) :=
  RCode.blk (by kernel_rfl : (codeAt [1, 1, 1, 1, 0, 1] (bodyOf Tryd.f48)) = .block 0 (codeAt [1, 1, 1, 1, 0, 1, 0] (bodyOf Tryd.f48))) (RCode.lp (by kernel_rfl : (codeAt [1, 1, 1, 1, 0, 1, 0] (bodyOf Tryd.f48)) = .loop (codeAt [1, 1, 1, 1, 0, 1, 0, 0] (bodyOf Tryd.f48))) ((h env rfl rfl rfl rfl rfl rfl).mono (mkK_mono (fun _ _ h => h.elim) (fun _ _ _ h => h) (fun _ _ h => h) (fun _ _ h => h))))
def m48_5 (x0 x5 x6 x7 x30 x31 : Value) (H : Heap) (kn : Value → Value → Value → Value → Value → Value → Heap → Prop) (kx0 : Value → Value → Heap → Prop) (Q : Ending → Heap → Prop) : Prop :=
oV (vInt .add x31 (.int .i64 1)) fun t56_8 =>
kn x0 x5 x6 x7 x30 t56_8 H
theorem c48_5 (env : Env) (H : Heap) (kn : Value → Value → Value → Value → Value → Value → Heap → Prop) (kx0 : Value → Value → Heap → Prop) (Q : Ending → Heap → Prop) (h : m48_5 (env 0) (env 5) (env 6) (env 7) (env 30) (env 31) H kn kx0 Q) :
    RCode Tryd.prog 65 (codeAt [1, 1, 1, 1, 0, 1, 0, 0, 1, 1, 1] (bodyOf Tryd.f48)) env H (mkK (fun e H => kn (e 0) (e 5) (e 6) (e 7) (e 30) (e 31) H) (inK 0 (fun e H => kx0 (e 0) (e 7) H) (fun _ _ _ => False)) (retK T Tryd.f48.results.toList Q) (fun c H => Q (.panicked c) H)) :=
  RCode.leaf_ (T := T) (X := ext) (hint := hint48) tok xok mixed (by kernel_rfl) h
def L48_8 (x0 x5 x6 x7 x8 x30 x31 x43 x44 : Value) (H : Heap) (kn : Value → Value → Value → Value → Value → Value → Heap → Prop) (kx1 : Value → Value → Value → Value → Value → Value → Heap → Prop) (kx0 : Value → Value → Heap → Prop) (Q : Ending → Heap → Prop) : Prop :=
  ∀ env : Env, env 0 = x0 → env 5 = x5 → env 6 = x6 → env 7 = x7 → env 8 = x8 → env 30 = x30 → env 31 = x31 → env 43 = x43 → env 44 = x44 → RLoop Tryd.prog 65 (codeAt [1, 1, 1, 1, 0, 1, 0, 0, 1, 1, 0, 0, 1, 1, 1, 0, 0] (bodyOf Tryd.f48)) env H (mkK (fun _ _ => False) (inK 2 (fun e H => kn (e 0) (e 5) (e 6) (e 7) (e 30) (e 31) H) (inK 1 (fun e H => kx1 (e 0) (e 5) (e 6) (e 7) (e 30) (e 31) H) (inK 0 (fun e H => kx0 (e 0) (e 7) H) (fun _ _ _ => False)))) (retK T Tryd.f48.results.toList Q) (fun c H => Q (.panicked c) H))
theorem cL48_8 (env : Env) (H : Heap) (kn : Value → Value → Value → Value → Value → Value → Heap → Prop) (kx1 : Value → Value → Value → Value → Value → Value → Heap → Prop) (kx0 : Value → Value → Heap → Prop) (Q : Ending → Heap → Prop) (h : L48_8 (env 0) (env 5) (env 6) (env 7) (env 8) (env 30) (env 31) (env 43) (env 44) H kn kx1 kx0 Q) :
    RCode Tryd.prog 65 (codeAt [1, 1, 1, 1, 0, 1, 0, 0, 1, 1, 0, 0, 1, 1, 1] (bodyOf Tryd.f48)) env H (mkK (fun e H => kn (e 0) (e 5) (e 6) (e 7) (e 30) (e 31) H) (inK 1 (fun e H => kx1 (e 0) (e 5) (e 6) (e 7) (e 30) (e 31) H) (inK 0 (fun e H => kx0 (e 0) (e 7) H) (fun _ _ _ => False))) (retK T Tryd.f48.results.toList Q) (fun c H => Q (.panicked c) H)) :=
  RCode.blk (by kernel_rfl : (codeAt [1, 1, 1, 1, 0, 1, 0, 0, 1, 1, 0, 0, 1, 1, 1] (bodyOf Tryd.f48)) = .block 2 (codeAt [1, 1, 1, 1, 0, 1, 0, 0, 1, 1, 0, 0, 1, 1, 1, 0] (bodyOf Tryd.f48))) (RCode.lp (by kernel_rfl : (codeAt [1, 1, 1, 1, 0, 1, 0, 0, 1, 1, 0, 0, 1, 1, 1, 0] (bodyOf Tryd.f48)) = .loop (codeAt [1, 1, 1, 1, 0, 1, 0, 0, 1, 1, 0, 0, 1, 1, 1, 0, 0] (bodyOf Tryd.f48))) ((h env rfl rfl rfl rfl rfl rfl rfl rfl rfl).mono (mkK_mono (fun _ _ h => h.elim) (fun _ _ _ h => h) (fun _ _ h => h) (fun _ _ h => h))))
def m48_9 (x0 x5 x6 x7 x8 x30 x31 x43 x44 : Value) (H : Heap) (kn : Value → Value → Value → Value → Value → Value → Value → Value → Value → Heap → Prop) (kx2 : Value → Value → Value → Value → Value → Value → Heap → Prop) (kx1 : Value → Value → Value → Value → Value → Value → Heap → Prop) (kx0 : Value → Value → Heap → Prop) (Q : Ending → Heap → Prop) : Prop :=
oV (vInt .lss x44 x43) fun t45_9 =>
condK t45_9 (
oV (vIdxS 1 x7 x8) fun t52_10 =>
oV (vLoad ty52 t52_10 H) fun t53_11 =>
oCl ext Tryd.prog x5 [x44, x8, t53_11] H (fun c H => Q (.panicked c) H) fun v_12 H_13 =>
oV (vInt .add x44 (.int .i64 1)) fun t55_14 =>
kn x0 x5 x6 x7 x8 x30 x31 x43 t55_14 H_13) (
kx2 x0 x5 x6 x7 x30 x31 H)
theorem c48_9 (env : Env) (H : Heap) (kn : Value → Value → Value → Value → Value → Value → Value → Value → Value → Heap → Prop) (kx2 : Value → Value → Value → Value → Value → Value → Heap → Prop) (kx1 : Value → Value → Value → Value → Value → Value → Heap → Prop) (kx0 : Value → Value → Heap → Prop) (Q : Ending → Heap → Prop) (h : m48_9 (env 0) (env 5) (env 6) (env 7) (env 8) (env 30) (env 31) (env 43) (env 44) H kn kx2 kx1 kx0 Q) :
    RCode Tryd.prog 65 (codeAt [1, 1, 1, 1, 0, 1, 0, 0, 1, 1, 0, 0, 1, 1, 1, 0, 0] (bodyOf Tryd.f48)) env H (mkK (fun e H => kn (e 0) (e 5) (e 6) (e 7) (e 8) (e 30) (e 31) (e 43) (e 44) H) (inK 2 (fun e H => kx2 (e 0) (e 5) (e 6) (e 7) (e 30) (e 31) H) (inK 1 (fun e H => kx1 (e 0) (e 5) (e 6) (e 7) (e 30) (e 31) H) (inK 0 (fun e H => kx0 (e 0) (e 7) H) (fun _ _ _ => False)))) (retK T Tryd.f48.results.toList Q) (fun c H => Q (.panicked c) H)) :=
  RCode.leaf_ (T := T) (X := ext) (hint := hint48) tok xok mixed (by kernel_rfl) h
theorem L48_8_round (x0 x5 x6 x7 x8 x30 x31 x43 x44 : Value) (H : Heap) (kn : Value → Value → Value → Value → Value → Value → Heap → Prop) (kx1 : Value → Value → Value → Value → Value → Value → Heap → Prop) (kx0 : Value → Value → Heap → Prop) (Q : Ending → Heap → Prop) (h : m48_9 x0 x5 x6 x7 x8 x30 x31 x43 x44 H (fun y0 y5 y6 y7 y8 y30 y31 y43 y44 H => L48_8 y0 y5 y6 y7 y8 y30 y31 y43 y44 H kn kx1 kx0 Q) kn kx1 kx0 Q) : L48_8 x0 x5 x6 x7 x8 x30 x31 x43 x44 H kn kx1 kx0 Q := by
  intro env h0 h5 h6 h7 h8 h30 h31 h43 h44
  subst h0; subst h5; subst h6; subst h7; subst h8; subst h30; subst h31; subst h43; subst h44
  exact RLoop.round ((c48_9 env H (fun y0 y5 y6 y7 y8 y30 y31 y43 y44 H => L48_8 y0 y5 y6 y7 y8 y30 y31 y43 y44 H kn kx1 kx0 Q) kn kx1 kx0 Q h).mono (mkK_mono (fun e H h => h e rfl rfl rfl rfl rfl rfl rfl rfl rfl) (fun _ _ _ h => h) (fun _ _ h => h) (fun _ _ h => h)))
def m48_7 (x0 x5 x6 x7 x30 x31 : Value) (H : Heap) (kn : Value → Value → Value → Value → Value → Value → Heap → Prop) (kx1 : Value → Value → Value → Value → Value → Value → Heap → Prop) (kx0 : Value → Value → Heap → Prop) (Q : Ending → Heap → Prop) : Prop :=
oV (vIdxS 1 x6 x31) fun t38_15 =>
oV (vLoad ty52 t38_15 H) fun t39_16 =>
oAppend ty22 22 (.slice none 0 0) t39_16 H fun v_17 H_18 =>
oV (vIdxS 1 x7 x31) fun t41_19 =>
oHeap (vStore ty52 t41_19 v_17 H_18) fun H_20 =>
oV (vLen x7) fun t43_21 =>
L48_8 x0 x5 x6 x7 x31 x30 x31 t43_21 (.int .i64 0) H_20 kn kx1 kx0 Q
theorem c48_7 (env : Env) (H : Heap) (kn : Value → Value → Value → Value → Value → Value → Heap → Prop) (kx1 : Value → Value → Value → Value → Value → Value → Heap → Prop) (kx0 : Value → Value → Heap → Prop) (Q : Ending → Heap → Prop) (h : m48_7 (env 0) (env 5) (env 6) (env 7) (env 30) (env 31) H kn kx1 kx0 Q) :
    RCode Tryd.prog 65 (codeAt [1, 1, 1, 1, 0, 1, 0, 0, 1, 1, 0, 0] (bodyOf Tryd.f48)) env H (mkK (fun e H => kn (e 0) (e 5) (e 6) (e 7) (e 30) (e 31) H) (inK 1 (fun e H => kx1 (e 0) (e 5) (e 6) (e 7) (e 30) (e 31) H) (inK 0 (fun e H => kx0 (e 0) (e 7) H) (fun _ _ _ => False))) (retK T Tryd.f48.results.toList Q) (fun c H => Q (.panicked c) H)) :=
  RCode.prefix_ (T := T) (X := ext) (hint := hint48) (hole := (fun e H => L48_8 (e 0) (e 5) (e 6) (e 7) (e 8) (e 30) (e 31) (e 43) (e 44) H kn kx1 kx0 Q)) tok xok mixed 3 (by kernel_rfl) (by kernel_rfl : codeAt _ _ = (codeAt [1, 1, 1, 1, 0, 1, 0, 0, 1, 1, 0, 0, 1, 1, 1] (bodyOf Tryd.f48))) h
    (fun e H h => (cL48_8 e H kn kx1 kx0 Q h))
def m48_6 (x0 x5 x6 x7 x30 x31 : Value) (H : Heap) (kn : Value → Value → Value → Value → Value → Value → Heap → Prop) (kx0 : Value → Value → Heap → Prop) (Q : Ending → Heap → Prop) : Prop :=
m48_7 x0 x5 x6 x7 x30 x31 H kn kn kx0 Q
theorem c48_6 (env : Env) (H : Heap) (kn : Value → Value → Value → Value → Value → Value → Heap → Prop) (kx0 : Value → Value → Heap → Prop) (Q : Ending → Heap → Prop) (h : m48_6 (env 0) (env 5) (env 6) (env 7) (env 30) (env 31) H kn kx0 Q) :
    RCode Tryd.prog 65 (codeAt [1, 1, 1, 1, 0, 1, 0, 0, 1, 1, 0] (bodyOf Tryd.f48)) env H (mkK (fun e H => kn (e 0) (e 5) (e 6) (e 7) (e 30) (e 31) H) (inK 0 (fun e H => kx0 (e 0) (e 7) H) (fun _ _ _ => False)) (retK T Tryd.f48.results.toList Q) (fun c H => Q (.panicked c) H)) :=
  RCode.blk (by kernel_rfl : (codeAt [1, 1, 1, 1, 0, 1, 0, 0, 1, 1, 0] (bodyOf Tryd.f48)) = .block 1 (codeAt [1, 1, 1, 1, 0, 1, 0, 0, 1, 1, 0, 0] (bodyOf Tryd.f48))) (c48_7 env H kn kn kx0 Q h)
def m48_4 (x0 x5 x6 x7 x30 x31 : Value) (H : Heap) (kn : Value → Value → Value → Value → Value → Value → Heap → Prop) (kx0 : Value → Value → Heap → Prop) (Q : Ending → Heap → Prop) : Prop :=
oV (vInt .lss x31 x30) fun t32_22 =>
condK t32_22 (
m48_6 x0 x5 x6 x7 x30 x31 H (fun y0_23 y5_24 y6_25 y7_26 y30_27 y31_28 H_29 => m48_5 y0_23 y5_24 y6_25 y7_26 y30_27 y31_28 H_29 kn kx0 Q) kx0 Q) (
kx0 x0 x7 H)
theorem c48_4 (env : Env) (H : Heap) (kn : Value → Value → Value → Value → Value → Value → Heap → Prop) (kx0 : Value → Value → Heap → Prop) (Q : Ending → Heap → Prop) (h : m48_4 (env 0) (env 5) (env 6) (env 7) (env 30) (env 31) H kn kx0 Q) :
    RCode Tryd.prog 65 (codeAt [1, 1, 1, 1, 0, 1, 0, 0] (bodyOf Tryd.f48)) env H (mkK (fun e H => kn (e 0) (e 5) (e 6) (e 7) (e 30) (e 31) H) (inK 0 (fun e H => kx0 (e 0) (e 7) H) (fun _ _ _ => False)) (retK T Tryd.f48.results.toList Q) (fun c H => Q (.panicked c) H)) :=
  RCode.prefix_ (T := T) (X := ext) (hint := hint48) (hole := (fun e H => m48_6 (e 0) (e 5) (e 6) (e 7) (e 30) (e 31) H (fun y0_30 y5_31 y6_32 y7_33 y30_34 y31_35 H_36 => m48_5 y0_30 y5_31 y6_32 y7_33 y30_34 y31_35 H_36 kn kx0 Q) kx0 Q)) tok xok mixed 2 (by kernel_rfl) (by kernel_rfl : codeAt _ _ = (codeAt [1, 1, 1, 1, 0, 1, 0, 0, 1, 1] (bodyOf Tryd.f48))) h
    (fun e H h => RCode.join (by kernel_rfl : (codeAt [1, 1, 1, 1, 0, 1, 0, 0, 1, 1] (bodyOf Tryd.f48)) = .seq (codeAt [1, 1, 1, 1, 0, 1, 0, 0, 1, 1, 0] (bodyOf Tryd.f48)) (codeAt [1, 1, 1, 1, 0, 1, 0, 0, 1, 1, 1] (bodyOf Tryd.f48))) ((c48_6 e H (fun y0_37 y5_38 y6_39 y7_40 y30_41 y31_42 H_43 => m48_5 y0_37 y5_38 y6_39 y7_40 y30_41 y31_42 H_43 kn kx0 Q) kx0 Q h).mono (mkK_mono (fun e H h => c48_5 e H kn kx0 Q h) (fun _ _ _ h => h) (fun _ _ h => h) (fun _ _ h => h))))
theorem L48_3_round (x0 x5 x6 x7 x30 x31 : Value) (H : Heap) (kn : Value → Value → Heap → Prop) (Q : Ending → Heap → Prop) (h : m48_4 x0 x5 x6 x7 x30 x31 H (fun y0 y5 y6 y7 y30 y31 H => L48_3 y0 y5 y6 y7 y30 y31 H kn Q) kn Q) : L48_3 x0 x5 x6 x7 x30 x31 H kn Q := by
  intro env h0 h5 h6 h7 h30 h31
  subst h0; subst h5; subst h6; subst h7; subst h30; subst h31
  exact RLoop.round ((c48_4 env H (fun y0 y5 y6 y7 y30 y31 H => L48_3 y0 y5 y6 y7 y30 y31 H kn Q) kn Q h).mono (mkK_mono (fun e H h => h e rfl rfl rfl rfl rfl rfl) (fun _ _ _ h => h) (fun _ _ h => h) (fun _ _ h => h)))
def m48_2 (x0 x5 x6 x7 : Value) (H : Heap) (kn : Value → Value → Heap → Prop) (Q : Ending → Heap → Prop) : Prop :=
oV (vLen x7) fun t30_44 =>
L48_3 x0 x5 x6 x7 t30_44 (.int .i64 0) H kn Q
theorem c48_2 (env : Env) (H : Heap) (kn : Value → Value → Heap → Prop) (Q : Ending → Heap → Prop) (h : m48_2 (env 0) (env 5) (env 6) (env 7) H kn Q) :
    RCode Tryd.prog 65 (codeAt [1, 1, 1, 1, 0] (bodyOf Tryd.f48)) env H (mkK (fun e H => kn (e 0) (e 7) H) (fun _ _ _ => False) (retK T Tryd.f48.results.toList Q) (fun c H => Q (.panicked c) H)) :=
  RCode.prefix_ (T := T) (X := ext) (hint := hint48) (hole := (fun e H => L48_3 (e 0) (e 5) (e 6) (e 7) (e 30) (e 31) H kn Q)) tok xok mixed 1 (by kernel_rfl) (by kernel_rfl : codeAt _ _ = (codeAt [1, 1, 1, 1, 0, 1] (bodyOf Tryd.f48))) h
    (fun e H h => (cL48_3 e H kn Q h))
def m48 (x0 x1 : Value) (H : Heap) (Q : Ending → Heap → Prop) : Prop :=
oV (vNil x0) fun t13_45 =>
oV (vField 0 t13_45) fun t14_46 =>
oV (vLoad ty29 t14_46 H) fun t15_47 =>
oV (vNil x0) fun t17_48 =>
oV (vField 6 t17_48) fun t18_49 =>
oV (vLoad ty3 t18_49 H) fun t19_50 =>
oRC Tryd.prog 81 [t15_47, t19_50, x1] H noP fun v_51 H_52 =>
oV (vNil x0) fun t23_53 =>
oV (vField 0 t23_53) fun t24_54 =>
oV (vField 0 t24_54) fun t25_55 =>
oV (vField 1 t25_55) fun t26_56 =>
oV (vLoad ty3 t26_56 H_52) fun t27_57 =>
oMake ty52 52 t27_57 t27_57 H_52 fun s_58 H_59 =>
m48_2 x0 (.func (.func 79) #[x0] #[]) v_51 s_58 H_59 (fun y0_60 y7_61 H_62 => m48_1 y0_60 y7_61 H_62 Q) Q
theorem c48_0 (env : Env) (H : Heap) (Q : Ending → Heap → Prop) (h : m48 (env 0) (env 1) H Q) :
    RCode Tryd.prog 65 (bodyOf Tryd.f48) env H (mkK (retK T Tryd.f48.results.toList Q) (fun _ _ _ => False) (retK T Tryd.f48.results.toList Q) (fun c H => Q (.panicked c) H)) :=
  RCode.prefix_ (T := T) (X := ext) (hint := hint48) (hole := (fun e H => m48_2 (e 0) (e 5) (e 6) (e 7) H (fun y0_63 y7_64 H_65 => m48_1 y0_63 y7_64 H_65 Q) Q)) tok xok mixed 4 (by kernel_rfl) (by kernel_rfl : codeAt _ _ = (codeAt [1, 1, 1, 1] (bodyOf Tryd.f48))) h
    (fun e H h => RCode.join (by kernel_rfl : (codeAt [1, 1, 1, 1] (bodyOf Tryd.f48)) = .seq (codeAt [1, 1, 1, 1, 0] (bodyOf Tryd.f48)) (codeAt [1, 1, 1, 1, 1] (bodyOf Tryd.f48))) ((c48_2 e H (fun y0_66 y7_67 H_68 => m48_1 y0_66 y7_67 H_68 Q) Q h).mono (mkK_mono (fun e H h => c48_1 e H Q h) (fun _ _ _ h => h) (fun _ _ h => h) (fun _ _ h => h))))
theorem call48 (a0 a1 : Value) (H : Heap) (Q : Ending → Heap → Prop) (h : m48 a0 a1 H Q) : RCalls Tryd.prog 48 [a0, a1] H Q :=
  RCalls.intro (nt := 65) tok Tryd.func48 (by kernel_rfl) (by kernel_rfl) (by kernel_rfl) (of_decide_eq_true (by kernel_rfl)) (c48_0 (envOf [a0, a1]) H Q h)
/-! ### 24: privity/privityref14.Words -/
def hint24 : Nat → List Nat := lookupL [(6, [0, 1, 2, 3, 4, 5, 6, 7, 8])]
def m24_1 (H : Heap) (Q : Ending → Heap → Prop) : Prop :=
Q (.returned (.bool true)) H
theorem c24_1 (env : Env) (H : Heap) (Q : Ending → Heap → Prop) (h : m24_1 H Q) :
    RCode Tryd.prog 26 (codeAt [1, 1, 1] (bodyOf Tryd.f24)) env H (mkK (retK T Tryd.f24.results.toList Q) (fun _ _ _ => False) (retK T Tryd.f24.results.toList Q) (fun c H => Q (.panicked c) H)) :=
  RCode.leaf_ (T := T) (X := ext) (hint := hint24) tok xok mixed (by kernel_rfl) h
def L24_3 (x0 x1 x5 : Value) (H : Heap) (kn : Heap → Prop) (Q : Ending → Heap → Prop) : Prop :=
  ∀ env : Env, env 0 = x0 → env 1 = x1 → env 5 = x5 → RLoop Tryd.prog 26 (codeAt [1, 1, 0, 1, 0, 0] (bodyOf Tryd.f24)) env H (mkK (fun _ _ => False) (inK 0 (fun e H => kn H) (fun _ _ _ => False)) (retK T Tryd.f24.results.toList Q) (fun c H => Q (.panicked c) H))
theorem cL24_3 (env : Env) (H : Heap) (kn : Heap → Prop) (Q : Ending → Heap → Prop) (h : L24_3 (env 0) (env 1) (env 5) H kn Q) :
    RCode Tryd.prog 26 (codeAt [1, 1, 0, 1] (bodyOf Tryd.f24)) env H (mkK (fun e H => kn H) (fun _ _ _ => False) (retK T Tryd.f24.results.toList Q) (fun c H => Q (.panicked c) H)) :=
  RCode.blk (by kernel_rfl : (codeAt [1, 1, 0, 1] (bodyOf Tryd.f24)) = .block 0 (codeAt [1, 1, 0, 1, 0] (bodyOf Tryd.f24))) (RCode.lp (by kernel_rfl : (codeAt [1, 1, 0, 1, 0] (bodyOf Tryd.f24)) = .loop (codeAt [1, 1, 0, 1, 0, 0] (bodyOf Tryd.f24))) ((h env rfl rfl rfl).mono (mkK_mono (fun _ _ h => h.elim) (fun _ _ _ h => h) (fun _ _ h => h) (fun _ _ h => h))))
def m24_4 (x0 x1 x5 : Value) (H : Heap) (kn : Value → Value → Value → Heap → Prop) (kx0 : Heap → Prop) (Q : Ending → Heap → Prop) : Prop :=
oV (vLen x0) fun t13_1 =>
oV (vInt .lss x5 t13_1) fun t14_2 =>
condK t14_2 (
oV (vIdxS 1 x0 x5) fun t19_3 =>
oV (vLoad ty22 t19_3 H) fun t20_4 =>
oV (vIdxS 1 x1 x5) fun t23_5 =>
oV (vLoad ty22 t23_5 H) fun t24_6 =>
oV (vInt .neq t20_4 t24_6) fun t25_7 =>
condK t25_7 (
Q (.returned (.bool false)) H) (
oV (vInt .add x5 (.int .i64 1)) fun t16_8 =>
kn x0 x1 t16_8 H)) (
kx0 H)
theorem c24_4 (env : Env) (H : Heap) (kn : Value → Value → Value → Heap → Prop) (kx0 : Heap → Prop) (Q : Ending → Heap → Prop) (h : m24_4 (env 0) (env 1) (env 5) H kn kx0 Q) :
    RCode Tryd.prog 26 (codeAt [1, 1, 0, 1, 0, 0] (bodyOf Tryd.f24)) env H (mkK (fun e H => kn (e 0) (e 1) (e 5) H) (inK 0 (fun e H => kx0 H) (fun _ _ _ => False)) (retK T Tryd.f24.results.toList Q) (fun c H => Q (.panicked c) H)) :=
  RCode.leaf_ (T := T) (X := ext) (hint := hint24) tok xok mixed (by kernel_rfl) h
theorem L24_3_round (x0 x1 x5 : Value) (H : Heap) (kn : Heap → Prop) (Q : Ending → Heap → Prop) (h : m24_4 x0 x1 x5 H (fun y0 y1 y5 H => L24_3 y0 y1 y5 H kn Q) kn Q) : L24_3 x0 x1 x5 H kn Q := by
  intro env h0 h1 h5
  subst h0; subst h1; subst h5
  exact RLoop.round ((c24_4 env H (fun y0 y1 y5 H => L24_3 y0 y1 y5 H kn Q) kn Q h).mono (mkK_mono (fun e H h => h e rfl rfl rfl) (fun _ _ _ h => h) (fun _ _ h => h) (fun _ _ h => h)))
def m24_2 (x0 x1 : Value) (H : Heap) (kn : Heap → Prop) (Q : Ending → Heap → Prop) : Prop :=
L24_3 x0 x1 (.int .i64 0) H kn Q
theorem c24_2 (env : Env) (H : Heap) (kn : Heap → Prop) (Q : Ending → Heap → Prop) (h : m24_2 (env 0) (env 1) H kn Q) :
    RCode Tryd.prog 26 (codeAt [1, 1, 0] (bodyOf Tryd.f24)) env H (mkK (fun e H => kn H) (fun _ _ _ => False) (retK T Tryd.f24.results.toList Q) (fun c H => Q (.panicked c) H)) :=
  RCode.prefix_ (T := T) (X := ext) (hint := hint24) (hole := (fun e H => L24_3 (e 0) (e 1) (e 5) H kn Q)) tok xok mixed 1 (by kernel_rfl) (by kernel_rfl : codeAt _ _ = (codeAt [1, 1, 0, 1] (bodyOf Tryd.f24))) h
    (fun e H h => (cL24_3 e H kn Q h))
def m24 (x0 x1 : Value) (H : Heap) (Q : Ending → Heap → Prop) : Prop :=
oV (vLen x0) fun t7_9 =>
oV (vLen x1) fun t9_10 =>
oV (vInt .neq t7_9 t9_10) fun t10_11 =>
condK t10_11 (
Q (.returned (.bool false)) H) (
m24_2 x0 x1 H (fun H_12 => m24_1 H_12 Q) Q)
theorem c24_0 (env : Env) (H : Heap) (Q : Ending → Heap → Prop) (h : m24 (env 0) (env 1) H Q) :
    RCode Tryd.prog 26 (bodyOf Tryd.f24) env H (mkK (retK T Tryd.f24.results.toList Q) (fun _ _ _ => False) (retK T Tryd.f24.results.toList Q) (fun c H => Q (.panicked c) H)) :=
  RCode.prefix_ (T := T) (X := ext) (hint := hint24) (hole := (fun e H => m24_2 (e 0) (e 1) H (fun H_13 => m24_1 H_13 Q) Q)) tok xok mixed 2 (by kernel_rfl) (by kernel_rfl : codeAt _ _ = (codeAt [1, 1] (bodyOf Tryd.f24))) h
    (fun e H h => RCode.join (by kernel_rfl : (codeAt [1, 1] (bodyOf Tryd.f24)) = .seq (codeAt [1, 1, 0] (bodyOf Tryd.f24)) (codeAt [1, 1, 1] (bodyOf Tryd.f24))) ((c24_2 e H (fun H_14 => m24_1 H_14 Q) Q h).mono (mkK_mono (fun e H h => c24_1 e H Q h) (fun _ _ _ h => h) (fun _ _ h => h) (fun _ _ h => h))))
theorem call24 (a0 a1 : Value) (H : Heap) (Q : Ending → Heap → Prop) (h : m24 a0 a1 H Q) : RCalls Tryd.prog 24 [a0, a1] H Q :=
  RCalls.intro (nt := 26) tok Tryd.func24 (by kernel_rfl) (by kernel_rfl) (by kernel_rfl) (of_decide_eq_true (by kernel_rfl)) (c24_0 (envOf [a0, a1]) H Q h)
/-! ### 14: (*privity/network.Net).Rounds -/
def hint14 : Nat → List Nat := lookupL []
def m14 (x0 : Value) (H : Heap) (Q : Ending → Heap → Prop) : Prop :=
oV (vNil x0) fun t4_1 =>
oV (vField 6 t4_1) fun t5_2 =>
oV (vLoad ty3 t5_2 H) fun t6_3 =>
Q (.returned t6_3) H
theorem c14_0 (env : Env) (H : Heap) (Q : Ending → Heap → Prop) (h : m14 (env 0) H Q) :
    RCode Tryd.prog 7 (bodyOf Tryd.f14) env H (mkK (retK T Tryd.f14.results.toList Q) (fun _ _ _ => False) (retK T Tryd.f14.results.toList Q) (fun c H => Q (.panicked c) H)) :=
  RCode.leaf_ (T := T) (X := ext) (hint := hint14) tok xok mixed (by kernel_rfl) h
theorem call14 (a0 : Value) (H : Heap) (Q : Ending → Heap → Prop) (h : m14 a0 H Q) : RCalls Tryd.prog 14 [a0] H Q :=
  RCalls.intro (nt := 7) tok Tryd.func14 (by kernel_rfl) (by kernel_rfl) (by kernel_rfl) (of_decide_eq_true (by kernel_rfl)) (c14_0 (envOf [a0]) H Q h)
/-! ### 17: (*privity/network.Net).View -/
def hint17 : Nat → List Nat := lookupL []
def m17 (x0 x1 : Value) (H : Heap) (Q : Ending → Heap → Prop) : Prop :=
oV (vNil x0) fun t6_1 =>
oV (vField 7 t6_1) fun t7_2 =>
oV (vLoad ty95 t7_2 H) fun t8_3 =>
oV (vInt .sub x1 (.int .i64 1)) fun t10_4 =>
oV (vIdxS 1 t8_3 t10_4) fun t11_5 =>
oV (vLoad ty49 t11_5 H) fun t12_6 =>
oAppend ty90 90 (.slice none 0 0) t12_6 H fun v_7 H_8 =>
Q (.returned v_7) H_8
theorem c17_0 (env : Env) (H : Heap) (Q : Ending → Heap → Prop) (h : m17 (env 0) (env 1) H Q) :
    RCode Tryd.prog 14 (bodyOf Tryd.f17) env H (mkK (retK T Tryd.f17.results.toList Q) (fun _ _ _ => False) (retK T Tryd.f17.results.toList Q) (fun c H => Q (.panicked c) H)) :=
  RCode.leaf_ (T := T) (X := ext) (hint := hint17) tok xok mixed (by kernel_rfl) h
theorem call17 (a0 a1 : Value) (H : Heap) (Q : Ending → Heap → Prop) (h : m17 a0 a1 H Q) : RCalls Tryd.prog 17 [a0, a1] H Q :=
  RCalls.intro (nt := 14) tok Tryd.func17 (by kernel_rfl) (by kernel_rfl) (by kernel_rfl) (of_decide_eq_true (by kernel_rfl)) (c17_0 (envOf [a0, a1]) H Q h)
/-! ### 16: privity/privityref14.Views -/
def hint16 : Nat → List Nat := lookupL [(6, [0, 1, 2, 3, 4, 5, 6, 7, 8, 9, 10, 11, 12, 13, 14, 15, 16, 17, 18, 19, 20, 21, 22, 23, 24, 25, 26, 27, 28, 29, 30, 31, 32, 33, 34, 35, 36, 37])]
def m16_1 (H : Heap) (Q : Ending → Heap → Prop) : Prop :=
Q (.returned (.bool true)) H
theorem c16_1 (env : Env) (H : Heap) (Q : Ending → Heap → Prop) (h : m16_1 H Q) :
    RCode Tryd.prog 55 (codeAt [1, 1, 1] (bodyOf Tryd.f16)) env H (mkK (retK T Tryd.f16.results.toList Q) (fun _ _ _ => False) (retK T Tryd.f16.results.toList Q) (fun c H => Q (.panicked c) H)) :=
  RCode.leaf_ (T := T) (X := ext) (hint := hint16) tok xok mixed (by kernel_rfl) h
def L16_3 (x0 x1 x5 : Value) (H : Heap) (kn : Heap → Prop) (Q : Ending → Heap → Prop) : Prop :=
  ∀ env : Env, env 0 = x0 → env 1 = x1 → env 5 = x5 → RLoop Tryd.prog 55 (codeAt [1, 1, 0, 1, 0, 0] (bodyOf Tryd.f16)) env H (mkK (fun _ _ => False) (inK 0 (fun e H => kn H) (fun _ _ _ => False)) (retK T Tryd.f16.results.toList Q) (fun c H => Q (.panicked c) H))
theorem cL16_3 (env : Env) (H : Heap) (kn : Heap → Prop) (Q : Ending → Heap → Prop) (h : L16_3 (env 0) (env 1) (env 5) H kn Q) :
    RCode Tryd.prog 55 (codeAt [1, 1, 0, 1] (bodyOf Tryd.f16)) env H (mkK (fun e H => kn H) (fun _ _ _ => False) (retK T Tryd.f16.results.toList Q) (fun c H => Q (.panicked c) H)) :=
  RCode.blk (by kernel_rfl : (codeAt [1, 1, 0, 1] (bodyOf Tryd.f16)) = .block 0 (codeAt [1, 1, 0, 1, 0] (bodyOf Tryd.f16))) (RCode.lp (by kernel_rfl : (codeAt [1, 1, 0, 1, 0] (bodyOf Tryd.f16)) = .loop (codeAt [1, 1, 0, 1, 0, 0] (bodyOf Tryd.f16))) ((h env rfl rfl rfl).mono (mkK_mono (fun _ _ h => h.elim) (fun _ _ _ h => h) (fun _ _ h => h) (fun _ _ h => h))))
def m16_4 (x0 x1 x5 : Value) (H : Heap) (kn : Value → Value → Value → Heap → Prop) (kx0 : Heap → Prop) (Q : Ending → Heap → Prop) : Prop :=
oV (vLen x0) fun t13_1 =>
oV (vInt .lss x5 t13_1) fun t14_2 =>
condK t14_2 (
oV (vIdxS 3 x0 x5) fun t19_3 =>
oV (vField 0 t19_3) fun t20_4 =>
oV (vLoad ty3 t20_4 H) fun t21_5 =>
oV (vIdxS 3 x1 x5) fun t24_6 =>
oV (vField 0 t24_6) fun t25_7 =>
oV (vLoad ty3 t25_7 H) fun t26_8 =>
oV (vInt .neq t21_5 t26_8) fun t27_9 =>
oV (gV t27_9 false (some x0) (some undef)) fun t29_10 =>
oV (gV t27_9 false (some x5) (some undef)) fun t30_11 =>
oV (gV t27_9 false (vIdxS 3 t29_10 t30_11) (some undef)) fun t31_12 =>
oV (gV t27_9 false (vField 1 t31_12) (some undef)) fun t32_13 =>
oV (gV t27_9 false (vLoad ty3 t32_13 H) (some undef)) fun t33_14 =>
oV (gV t27_9 false (some x1) (some undef)) fun t34_15 =>
oV (gV t27_9 false (some x5) (some undef)) fun t35_16 =>
oV (gV t27_9 false (vIdxS 3 t34_15 t35_16) (some undef)) fun t36_17 =>
oV (gV t27_9 false (vField 1 t36_17) (some undef)) fun t37_18 =>
oV (gV t27_9 false (vLoad ty3 t37_18 H) (some undef)) fun t38_19 =>
oV (gV t27_9 false (vInt .neq t33_14 t38_19) (some undef)) fun t39_20 =>
oV (vPick t27_9 (.bool true) t39_20) fun t40_21 =>
oV (gV t40_21 false (some x0) (some undef)) fun t42_22 =>
oV (gV t40_21 false (some x5) (some undef)) fun t43_23 =>
oV (gV t40_21 false (vIdxS 3 t42_22 t43_23) (some undef)) fun t44_24 =>
oV (gV t40_21 false (vField 2 t44_24) (some undef)) fun t45_25 =>
oV (gV t40_21 false (vLoad ty52 t45_25 H) (some undef)) fun t46_26 =>
oV (gV t40_21 false (some x1) (some undef)) fun t47_27 =>
oV (gV t40_21 false (some x5) (some undef)) fun t48_28 =>
oV (gV t40_21 false (vIdxS 3 t47_27 t48_28) (some undef)) fun t49_29 =>
oV (gV t40_21 false (vField 2 t49_29) (some undef)) fun t50_30 =>
oV (gV t40_21 false (vLoad ty52 t50_30 H) (some undef)) fun t51_31 =>
letK (fun t52_33 H_34 =>
oV (gV t40_21 false (vUn .not t52_33) (some undef)) fun t53_35 =>
oV (vPick t40_21 (.bool true) t53_35) fun t54_36 =>
condK t54_36 (
Q (.returned (.bool false)) H_34) (
oV (vInt .add x5 (.int .i64 1)) fun t16_37 =>
kn x0 x1 t16_37 H_34)) fun k_32 => gK t40_21 false (oRC Tryd.prog 24 [t46_26, t51_31] H noP fun v_38 H_39 =>
k_32 v_38 H_39) (k_32 undef H)) (
kx0 H)
theorem c16_4 (env : Env) (H : Heap) (kn : Value → Value → Value → Heap → Prop) (kx0 : Heap → Prop) (Q : Ending → Heap → Prop) (h : m16_4 (env 0) (env 1) (env 5) H kn kx0 Q) :
    RCode Tryd.prog 55 (codeAt [1, 1, 0, 1, 0, 0] (bodyOf Tryd.f16)) env H (mkK (fun e H => kn (e 0) (e 1) (e 5) H) (inK 0 (fun e H => kx0 H) (fun _ _ _ => False)) (retK T Tryd.f16.results.toList Q) (fun c H => Q (.panicked c) H)) :=
  RCode.leaf_ (T := T) (X := ext) (hint := hint16) tok xok mixed (by kernel_rfl) h
theorem L16_3_round (x0 x1 x5 : Value) (H : Heap) (kn : Heap → Prop) (Q : Ending → Heap → Prop) (h : m16_4 x0 x1 x5 H (fun y0 y1 y5 H => L16_3 y0 y1 y5 H kn Q) kn Q) : L16_3 x0 x1 x5 H kn Q := by
  intro env h0 h1 h5
  subst h0; subst h1; subst h5
  exact RLoop.round ((c16_4 env H (fun y0 y1 y5 H => L16_3 y0 y1 y5 H kn Q) kn Q h).mono (mkK_mono (fun e H h => h e rfl rfl rfl) (fun _ _ _ h => h) (fun _ _ h => h) (fun _ _ h => h)))
def m16_2 (x0 x1 : Value) (H : Heap) (kn : Heap → Prop) (Q : Ending → Heap → Prop) : Prop :=
L16_3 x0 x1 (.int .i64 0) H kn Q
theorem c16_2 (env : Env) (H : Heap) (kn : Heap → Prop) (Q : Ending → Heap → Prop) (h : m16_2 (env 0) (env 1) H kn Q) :
    RCode Tryd.prog 55 (codeAt [1, 1, 0] (bodyOf Tryd.f16)) env H (mkK (fun e H => kn H) (fun _ _ _ => False) (retK T Tryd.f16.results.toList Q) (fun c H => Q (.panicked c) H)) :=
  RCode.prefix_ (T := T) (X := ext) (hint := hint16) (hole := (fun e H => L16_3 (e 0) (e 1) (e 5) H kn Q)) tok xok mixed 1 (by kernel_rfl) (by kernel_rfl : codeAt _ _ = (codeAt [1, 1, 0, 1] (bodyOf Tryd.f16))) h
    (fun e H h => (cL16_3 e H kn Q h))
def m16 (x0 x1 : Value) (H : Heap) (Q : Ending → Heap → Prop) : Prop :=
oV (vLen x0) fun t7_40 =>
oV (vLen x1) fun t9_41 =>
oV (vInt .neq t7_40 t9_41) fun t10_42 =>
condK t10_42 (
Q (.returned (.bool false)) H) (
m16_2 x0 x1 H (fun H_43 => m16_1 H_43 Q) Q)
theorem c16_0 (env : Env) (H : Heap) (Q : Ending → Heap → Prop) (h : m16 (env 0) (env 1) H Q) :
    RCode Tryd.prog 55 (bodyOf Tryd.f16) env H (mkK (retK T Tryd.f16.results.toList Q) (fun _ _ _ => False) (retK T Tryd.f16.results.toList Q) (fun c H => Q (.panicked c) H)) :=
  RCode.prefix_ (T := T) (X := ext) (hint := hint16) (hole := (fun e H => m16_2 (e 0) (e 1) H (fun H_44 => m16_1 H_44 Q) Q)) tok xok mixed 2 (by kernel_rfl) (by kernel_rfl : codeAt _ _ = (codeAt [1, 1] (bodyOf Tryd.f16))) h
    (fun e H h => RCode.join (by kernel_rfl : (codeAt [1, 1] (bodyOf Tryd.f16)) = .seq (codeAt [1, 1, 0] (bodyOf Tryd.f16)) (codeAt [1, 1, 1] (bodyOf Tryd.f16))) ((c16_2 e H (fun H_45 => m16_1 H_45 Q) Q h).mono (mkK_mono (fun e H h => c16_1 e H Q h) (fun _ _ _ h => h) (fun _ _ h => h) (fun _ _ h => h))))
theorem call16 (a0 a1 : Value) (H : Heap) (Q : Ending → Heap → Prop) (h : m16 a0 a1 H Q) : RCalls Tryd.prog 16 [a0, a1] H Q :=
  RCalls.intro (nt := 55) tok Tryd.func16 (by kernel_rfl) (by kernel_rfl) (by kernel_rfl) (of_decide_eq_true (by kernel_rfl)) (c16_0 (envOf [a0, a1]) H Q h)
/-! ### 49: privity/network.Resize -/
def hint49 : Nat → List Nat := lookupL []
def m49 (x0 x1 : Value) (H : Heap) (Q : Ending → Heap → Prop) : Prop :=
oMake ty22 22 x1 x1 H fun s_1 H_2 =>
oCopy ty22 s_1 x0 H_2 fun v_3 H_4 =>
Q (.returned s_1) H_4
theorem c49_0 (env : Env) (H : Heap) (Q : Ending → Heap → Prop) (h : m49 (env 0) (env 1) H Q) :
    RCode Tryd.prog 12 (bodyOf Tryd.f49) env H (mkK (retK T Tryd.f49.results.toList Q) (fun _ _ _ => False) (retK T Tryd.f49.results.toList Q) (fun c H => Q (.panicked c) H)) :=
  RCode.leaf_ (T := T) (X := ext) (hint := hint49) tok xok mixed (by kernel_rfl) h
theorem call49 (a0 a1 : Value) (H : Heap) (Q : Ending → Heap → Prop) (h : m49 a0 a1 H Q) : RCalls Tryd.prog 49 [a0, a1] H Q :=
  RCalls.intro (nt := 12) tok Tryd.func49 (by kernel_rfl) (by kernel_rfl) (by kernel_rfl) (of_decide_eq_true (by kernel_rfl)) (c49_0 (envOf [a0, a1]) H Q h)
/-! ### 10: privity/privitylaw14.awake -/
def hint10 : Nat → List Nat := lookupL []
def m10 (H : Heap) (Q : Ending → Heap → Prop) : Prop :=
oRC Tryd.prog 45 [] H (fun c H => Q (.panicked c) H) fun v_1 H_2 =>
oRC Tryd.prog 12 [v_1] H_2 (fun c H => Q (.panicked c) H) fun v_3 H_4 =>
oV (vExtract v_3 0) fun t11_5 =>
oV (vExtract v_3 1) fun t12_6 =>
oV (vBuild ty29 []) fun t14_7 =>
oRC Tryd.prog 12 [t14_7] H_4 (fun c H => Q (.panicked c) H) fun v_8 H_9 =>
oV (vExtract v_8 0) fun t16_10 =>
oV (vExtract v_8 1) fun t17_11 =>
oV (vInt .neq t12_6 (.int .i64 0)) fun t19_12 =>
oV (gV t19_12 false (some t17_11) (some undef)) fun t21_13 =>
oV (gV t19_12 false (vInt .neq t21_13 (.int .i64 1)) (some undef)) fun t22_14 =>
oV (vPick t19_12 (.bool true) t22_14) fun t23_15 =>
condK t23_15 (
Q (.returned (.bool false)) H_9) (
oRC Tryd.prog 46 [] H_9 (fun c H => Q (.panicked c) H) fun v_16 H_17 =>
oV (vIdxS 1 v_16 (.int .i64 1)) fun t26_18 =>
oV (vLoad ty27 t26_18 H_17) fun t27_19 =>
oBuildS ty22 22 1 [((0, 1), (.int .u64 7))] H_17 fun s_20 H_21 =>
oV (vIdxS 1 t27_19 (.int .i64 2)) fun t29_22 =>
oHeap (vStore ty52 t29_22 s_20 H_21) fun H_23 =>
oRC Tryd.prog 47 [t11_5, v_16] H_23 (fun c H => Q (.panicked c) H) fun v_24 H_25 =>
oBuildS ty22 22 1 [((0, 1), (.int .u64 1))] H_25 fun s_26 H_27 =>
oBuildS ty22 22 2 [((0, 1), (.int .u64 2)), ((1, 1), (.int .u64 3))] H_27 fun s_28 H_29 =>
oBuildS ty52 52 4 [((0, 1), s_26), ((1, 1), (.slice none 0 0)), ((2, 1), (.slice none 0 0)), ((3, 1), s_28)] H_29 fun s_30 H_31 =>
oRC Tryd.prog 48 [t11_5, s_30] H_31 (fun c H => Q (.panicked c) H) fun v_32 H_33 =>
oV (vLen v_24) fun t39_34 =>
oV (vInt .neq t39_34 (.int .i64 4)) fun t40_35 =>
oV (gV t40_35 false (some v_24) (some undef)) fun t42_36 =>
oV (gV t40_35 false (vIdxS 1 t42_36 (.int .i64 2)) (some undef)) fun t43_37 =>
oV (gV t40_35 false (vLoad ty27 t43_37 H_33) (some undef)) fun t44_38 =>
oV (gV t40_35 false (vLen t44_38) (some undef)) fun t45_39 =>
oV (gV t40_35 false (vInt .neq t45_39 (.int .i64 4)) (some undef)) fun t46_40 =>
oV (vPick t40_35 (.bool true) t46_40) fun t47_41 =>
oV (gV t47_41 false (some v_24) (some undef)) fun t49_42 =>
oV (gV t47_41 false (vIdxS 1 t49_42 (.int .i64 0)) (some undef)) fun t50_43 =>
oV (gV t47_41 false (vLoad ty27 t50_43 H_33) (some undef)) fun t51_44 =>
oV (gV t47_41 false (vLen t51_44) (some undef)) fun t52_45 =>
oV (gV t47_41 false (vInt .neq t52_45 (.int .i64 4)) (some undef)) fun t53_46 =>
oV (vPick t47_41 (.bool true) t53_46) fun t54_47 =>
oV (gV t54_47 false (some v_32) (some undef)) fun t56_48 =>
oV (gV t54_47 false (vLen t56_48) (some undef)) fun t57_49 =>
oV (gV t54_47 false (vInt .neq t57_49 (.int .i64 4)) (some undef)) fun t58_50 =>
oV (vPick t54_47 (.bool true) t58_50) fun t59_51 =>
condK t59_51 (
Q (.returned (.bool false)) H_33) (
oV (vIdxS 1 v_24 (.int .i64 2)) fun t61_52 =>
oV (vLoad ty27 t61_52 H_33) fun t62_53 =>
oV (vIdxS 1 t62_53 (.int .i64 1)) fun t63_54 =>
oV (vLoad ty52 t63_54 H_33) fun t64_55 =>
oBuildS ty22 22 1 [((0, 1), (.int .u64 7))] H_33 fun s_56 H_57 =>
oRC Tryd.prog 24 [t64_55, s_56] H_57 (fun c H => Q (.panicked c) H) fun v_58 H_59 =>
oV (gV v_58 true (some v_24) (some undef)) fun t68_60 =>
oV (gV v_58 true (vIdxS 1 t68_60 (.int .i64 0)) (some undef)) fun t69_61 =>
oV (gV v_58 true (vLoad ty27 t69_61 H_59) (some undef)) fun t70_62 =>
oV (gV v_58 true (vIdxS 1 t70_62 (.int .i64 1)) (some undef)) fun t71_63 =>
oV (gV v_58 true (vLoad ty52 t71_63 H_59) (some undef)) fun t72_64 =>
oV (gV v_58 true (vLen t72_64) (some undef)) fun t73_65 =>
oV (gV v_58 true (vInt .eql t73_65 (.int .i64 0)) (some undef)) fun t74_66 =>
oV (vPick v_58 t74_66 (.bool false)) fun t75_67 =>
oV (gV t75_67 true (some v_32) (some undef)) fun t77_68 =>
oV (gV t75_67 true (vIdxS 1 t77_68 (.int .i64 3)) (some undef)) fun t78_69 =>
oV (gV t75_67 true (vLoad ty52 t78_69 H_59) (some undef)) fun t79_70 =>
letK (fun t80_72 H_73 =>
letK (fun t81_75 H_76 =>
oV (vPick t75_67 t81_75 (.bool false)) fun t82_77 =>
oV (gV t82_77 true (some t11_5) (some undef)) fun t84_78 =>
letK (fun t85_80 H_81 =>
oV (gV t82_77 true (vInt .eql t85_80 (.int .i64 2)) (some undef)) fun t86_82 =>
oV (vPick t82_77 t86_82 (.bool false)) fun t87_83 =>
oV (gV t87_83 true (some t11_5) (some undef)) fun t89_84 =>
letK (fun t90_86 H_87 =>
letK (fun t91_89 H_90 =>
oV (gV t87_83 true (vBuild ty90 [((0, 1), (.int .i64 0)), ((1, 1), (.int .i64 2)), ((2, 1), t91_89)]) (some undef)) fun t92_91 =>
letK (fun t93_93 H_94 =>
oV (gV t87_83 true (vBuild ty90 [((0, 1), (.int .i64 1)), ((1, 1), (.int .i64 1)), ((2, 1), t93_93)]) (some undef)) fun t94_95 =>
letK (fun t95_97 H_98 =>
oV (gV t87_83 true (vBuild ty90 [((0, 1), (.int .i64 1)), ((1, 1), (.int .i64 4)), ((2, 1), t95_97)]) (some undef)) fun t96_99 =>
letK (fun t97_101 H_102 =>
letK (fun t98_104 H_105 =>
oV (vPick t87_83 t98_104 (.bool false)) fun t99_106 =>
oV (gV t99_106 true (some t11_5) (some undef)) fun t101_107 =>
letK (fun t102_109 H_110 =>
letK (fun t103_112 H_113 =>
oV (gV t99_106 true (vBuild ty90 [((0, 1), (.int .i64 1)), ((1, 1), (.int .i64 4)), ((2, 1), t103_112)]) (some undef)) fun t104_114 =>
letK (fun t105_116 H_117 =>
letK (fun t106_119 H_120 =>
oV (vPick t99_106 t106_119 (.bool false)) fun t107_121 =>
letK (fun t109_123 H_124 =>
letK (fun t110_126 H_127 =>
letK (fun t111_129 H_130 =>
letK (fun t112_132 H_133 =>
oV (vPick t107_121 t112_132 (.bool false)) fun t113_134 =>
letK (fun t115_136 H_137 =>
letK (fun t116_139 H_140 =>
letK (fun t117_142 H_143 =>
letK (fun t118_145 H_146 =>
oV (vPick t113_134 t118_145 (.bool false)) fun t119_147 =>
Q (.returned t119_147) H_146) fun k_144 => gK t113_134 true (oRC Tryd.prog 24 [t116_139, t117_142] H_143 (fun c H => Q (.panicked c) H) fun v_148 H_149 =>
k_144 v_148 H_149) (k_144 undef H_143)) fun k_141 => gK t113_134 true (oBuildS ty22 22 3 [((0, 1), (.int .u64 1)), ((1, 1), (.int .u64 0)), ((2, 1), (.int .u64 0))] H_140 fun s_150 H_151 =>
k_141 s_150 H_151) (k_141 undef H_140)) fun k_138 => gK t113_134 true (oRC Tryd.prog 49 [t115_136, (.int .i64 3)] H_137 (fun c H => Q (.panicked c) H) fun v_152 H_153 =>
k_138 v_152 H_153) (k_138 undef H_137)) fun k_135 => gK t113_134 true (oBuildS ty22 22 1 [((0, 1), (.int .u64 1))] H_133 fun s_154 H_155 =>
k_135 s_154 H_155) (k_135 undef H_133)) fun k_131 => gK t107_121 true (oRC Tryd.prog 24 [t110_126, t111_129] H_130 (fun c H => Q (.panicked c) H) fun v_156 H_157 =>
k_131 v_156 H_157) (k_131 undef H_130)) fun k_128 => gK t107_121 true (oBuildS ty22 22 2 [((0, 1), (.int .u64 1)), ((1, 1), (.int .u64 2))] H_127 fun s_158 H_159 =>
k_128 s_158 H_159) (k_128 undef H_127)) fun k_125 => gK t107_121 true (oRC Tryd.prog 49 [t109_123, (.int .i64 2)] H_124 (fun c H => Q (.panicked c) H) fun v_160 H_161 =>
k_125 v_160 H_161) (k_125 undef H_124)) fun k_122 => gK t107_121 true (oBuildS ty22 22 3 [((0, 1), (.int .u64 1)), ((1, 1), (.int .u64 2)), ((2, 1), (.int .u64 3))] H_120 fun s_162 H_163 =>
k_122 s_162 H_163) (k_122 undef H_120)) fun k_118 => gK t99_106 true (oRC Tryd.prog 16 [t102_109, t105_116] H_117 (fun c H => Q (.panicked c) H) fun v_164 H_165 =>
k_118 v_164 H_165) (k_118 undef H_117)) fun k_115 => gK t99_106 true (oBuildS ty90 90 1 [((0, 3), t104_114)] H_113 fun s_166 H_167 =>
k_115 s_166 H_167) (k_115 undef H_113)) fun k_111 => gK t99_106 true (oBuildS ty22 22 2 [((0, 1), (.int .u64 2)), ((1, 1), (.int .u64 3))] H_110 fun s_168 H_169 =>
k_111 s_168 H_169) (k_111 undef H_110)) fun k_108 => gK t99_106 true (oRC Tryd.prog 17 [t101_107, (.int .i64 1)] H_105 (fun c H => Q (.panicked c) H) fun v_170 H_171 =>
k_108 v_170 H_171) (k_108 undef H_105)) fun k_103 => gK t87_83 true (oRC Tryd.prog 16 [t90_86, t97_101] H_102 (fun c H => Q (.panicked c) H) fun v_172 H_173 =>
k_103 v_172 H_173) (k_103 undef H_102)) fun k_100 => gK t87_83 true (oBuildS ty90 90 3 [((0, 3), t92_91), ((3, 3), t94_95), ((6, 3), t96_99)] H_98 fun s_174 H_175 =>
k_100 s_174 H_175) (k_100 undef H_98)) fun k_96 => gK t87_83 true (oBuildS ty22 22 2 [((0, 1), (.int .u64 2)), ((1, 1), (.int .u64 3))] H_94 fun s_176 H_177 =>
k_96 s_176 H_177) (k_96 undef H_94)) fun k_92 => gK t87_83 true (oBuildS ty22 22 1 [((0, 1), (.int .u64 1))] H_90 fun s_178 H_179 =>
k_92 s_178 H_179) (k_92 undef H_90)) fun k_88 => gK t87_83 true (oBuildS ty22 22 1 [((0, 1), (.int .u64 7))] H_87 fun s_180 H_181 =>
k_88 s_180 H_181) (k_88 undef H_87)) fun k_85 => gK t87_83 true (oRC Tryd.prog 17 [t89_84, (.int .i64 3)] H_81 (fun c H => Q (.panicked c) H) fun v_182 H_183 =>
k_85 v_182 H_183) (k_85 undef H_81)) fun k_79 => gK t82_77 true (oRC Tryd.prog 14 [t84_78] H_76 (fun c H => Q (.panicked c) H) fun v_184 H_185 =>
k_79 v_184 H_185) (k_79 undef H_76)) fun k_74 => gK t75_67 true (oRC Tryd.prog 24 [t79_70, t80_72] H_73 (fun c H => Q (.panicked c) H) fun v_186 H_187 =>
k_74 v_186 H_187) (k_74 undef H_73)) fun k_71 => gK t75_67 true (oBuildS ty22 22 2 [((0, 1), (.int .u64 2)), ((1, 1), (.int .u64 3))] H_59 fun s_188 H_189 =>
k_71 s_188 H_189) (k_71 undef H_59)))
theorem c10_0 (env : Env) (H : Heap) (Q : Ending → Heap → Prop) (h : m10 H Q) :
    RCode Tryd.prog 120 (bodyOf Tryd.f10) env H (mkK (retK T Tryd.f10.results.toList Q) (fun _ _ _ => False) (retK T Tryd.f10.results.toList Q) (fun c H => Q (.panicked c) H)) :=
  RCode.leaf_ (T := T) (X := ext) (hint := hint10) tok xok mixed (by kernel_rfl) h
theorem call10 (H : Heap) (Q : Ending → Heap → Prop) (h : m10 H Q) : RCalls Tryd.prog 10 [] H Q :=
  RCalls.intro (nt := 120) tok Tryd.func10 (by kernel_rfl) (by kernel_rfl) (by kernel_rfl) (of_decide_eq_true (by kernel_rfl)) (c10_0 (envOf []) H Q h)
/-! ### 149: privity/privityref01.exps -/
def hint149 : Nat → List Nat := lookupL []
def m149 (H : Heap) (Q : Ending → Heap → Prop) : Prop :=
oBuildS ty3 3 7 [((0, 1), (.int .i64 5)), ((1, 1), (.int .i64 7)), ((2, 1), (.int .i64 13)), ((3, 1), (.int .i64 17)), ((4, 1), (.int .i64 19)), ((5, 1), (.int .i64 31)), ((6, 1), (.int .i64 61))] H fun s_1 H_2 =>
Q (.returned s_1) H_2
theorem c149_0 (env : Env) (H : Heap) (Q : Ending → Heap → Prop) (h : m149 H Q) :
    RCode Tryd.prog 2 (bodyOf Tryd.f149) env H (mkK (retK T Tryd.f149.results.toList Q) (fun _ _ _ => False) (retK T Tryd.f149.results.toList Q) (fun c H => Q (.panicked c) H)) :=
  RCode.leaf_ (T := T) (X := ext) (hint := hint149) tok xok mixed (by kernel_rfl) h
theorem call149 (H : Heap) (Q : Ending → Heap → Prop) (h : m149 H Q) : RCalls Tryd.prog 149 [] H Q :=
  RCalls.intro (nt := 2) tok Tryd.func149 (by kernel_rfl) (by kernel_rfl) (by kernel_rfl) (of_decide_eq_true (by kernel_rfl)) (c149_0 (envOf []) H Q h)
/-! ### 141: privity/privityref01.Exponent -/
def hint141 : Nat → List Nat := lookupL []
def m141_1 (H : Heap) (Q : Ending → Heap → Prop) : Prop :=
Q (.returned (.int .i64 0)) H
theorem c141_1 (env : Env) (H : Heap) (Q : Ending → Heap → Prop) (h : m141_1 H Q) :
    RCode Tryd.prog 25 (codeAt [1, 1, 1] (bodyOf Tryd.f141)) env H (mkK (retK T Tryd.f141.results.toList Q) (fun _ _ _ => False) (retK T Tryd.f141.results.toList Q) (fun c H => Q (.panicked c) H)) :=
  RCode.leaf_ (T := T) (X := ext) (hint := hint141) tok xok mixed (by kernel_rfl) h
def L141_3 (x0 x3 x4 : Value) (H : Heap) (kn : Heap → Prop) (Q : Ending → Heap → Prop) : Prop :=
  ∀ env : Env, env 0 = x0 → env 3 = x3 → env 4 = x4 → RLoop Tryd.prog 25 (codeAt [1, 1, 0, 1, 0, 0] (bodyOf Tryd.f141)) env H (mkK (fun _ _ => False) (inK 0 (fun e H => kn H) (fun _ _ _ => False)) (retK T Tryd.f141.results.toList Q) (fun c H => Q (.panicked c) H))
theorem cL141_3 (env : Env) (H : Heap) (kn : Heap → Prop) (Q : Ending → Heap → Prop) (h : L141_3 (env 0) (env 3) (env 4) H kn Q) :
    RCode Tryd.prog 25 (codeAt [1, 1, 0, 1] (bodyOf Tryd.f141)) env H (mkK (fun e H => kn H) (fun _ _ _ => False) (retK T Tryd.f141.results.toList Q) (fun c H => Q (.panicked c) H)) :=
  RCode.blk (by kernel_rfl : (codeAt [1, 1, 0, 1] (bodyOf Tryd.f141)) = .block 0 (codeAt [1, 1, 0, 1, 0] (bodyOf Tryd.f141))) (RCode.lp (by kernel_rfl : (codeAt [1, 1, 0, 1, 0] (bodyOf Tryd.f141)) = .loop (codeAt [1, 1, 0, 1, 0, 0] (bodyOf Tryd.f141))) ((h env rfl rfl rfl).mono (mkK_mono (fun _ _ h => h.elim) (fun _ _ _ h => h) (fun _ _ h => h) (fun _ _ h => h))))
def m141_4 (x0 x3 x4 : Value) (H : Heap) (kn : Value → Value → Value → Heap → Prop) (kx0 : Heap → Prop) (Q : Ending → Heap → Prop) : Prop :=
oV (vLen x3) fun t8_1 =>
oV (vInt .lss x4 t8_1) fun t9_2 =>
condK t9_2 (
oV (vIdxS 1 x3 x4) fun t15_3 =>
oV (vLoad ty3 t15_3 H) fun t16_4 =>
oV (vConv (.int .u64) t16_4) fun t17_5 =>
oV (vInt .shl (.int .u64 1) t17_5) fun t18_6 =>
oV (vInt .sub t18_6 (.int .u64 1)) fun t19_7 =>
oV (vInt .eql x0 t19_7) fun t20_8 =>
condK t20_8 (
oV (vIdxS 1 x3 x4) fun t23_9 =>
oV (vLoad ty3 t23_9 H) fun t24_10 =>
Q (.returned t24_10) H) (
oV (vInt .add x4 (.int .i64 1)) fun t11_11 =>
kn x0 x3 t11_11 H)) (
kx0 H)
theorem c141_4 (env : Env) (H : Heap) (kn : Value → Value → Value → Heap → Prop) (kx0 : Heap → Prop) (Q : Ending → Heap → Prop) (h : m141_4 (env 0) (env 3) (env 4) H kn kx0 Q) :
    RCode Tryd.prog 25 (codeAt [1, 1, 0, 1, 0, 0] (bodyOf Tryd.f141)) env H (mkK (fun e H => kn (e 0) (e 3) (e 4) H) (inK 0 (fun e H => kx0 H) (fun _ _ _ => False)) (retK T Tryd.f141.results.toList Q) (fun c H => Q (.panicked c) H)) :=
  RCode.leaf_ (T := T) (X := ext) (hint := hint141) tok xok mixed (by kernel_rfl) h
theorem L141_3_round (x0 x3 x4 : Value) (H : Heap) (kn : Heap → Prop) (Q : Ending → Heap → Prop) (h : m141_4 x0 x3 x4 H (fun y0 y3 y4 H => L141_3 y0 y3 y4 H kn Q) kn Q) : L141_3 x0 x3 x4 H kn Q := by
  intro env h0 h3 h4
  subst h0; subst h3; subst h4
  exact RLoop.round ((c141_4 env H (fun y0 y3 y4 H => L141_3 y0 y3 y4 H kn Q) kn Q h).mono (mkK_mono (fun e H h => h e rfl rfl rfl) (fun _ _ _ h => h) (fun _ _ h => h) (fun _ _ h => h)))
def m141_2 (x0 x3 : Value) (H : Heap) (kn : Heap → Prop) (Q : Ending → Heap → Prop) : Prop :=
L141_3 x0 x3 (.int .i64 0) H kn Q
theorem c141_2 (env : Env) (H : Heap) (kn : Heap → Prop) (Q : Ending → Heap → Prop) (h : m141_2 (env 0) (env 3) H kn Q) :
    RCode Tryd.prog 25 (codeAt [1, 1, 0] (bodyOf Tryd.f141)) env H (mkK (fun e H => kn H) (fun _ _ _ => False) (retK T Tryd.f141.results.toList Q) (fun c H => Q (.panicked c) H)) :=
  RCode.prefix_ (T := T) (X := ext) (hint := hint141) (hole := (fun e H => L141_3 (e 0) (e 3) (e 4) H kn Q)) tok xok mixed 1 (by kernel_rfl) (by kernel_rfl : codeAt _ _ = (codeAt [1, 1, 0, 1] (bodyOf Tryd.f141))) h
    (fun e H h => (cL141_3 e H kn Q h))
def m141 (x0 : Value) (H : Heap) (Q : Ending → Heap → Prop) : Prop :=
oRC Tryd.prog 149 [] H (fun c H => Q (.panicked c) H) fun v_12 H_13 =>
m141_2 x0 v_12 H_13 (fun H_14 => m141_1 H_14 Q) Q
theorem c141_0 (env : Env) (H : Heap) (Q : Ending → Heap → Prop) (h : m141 (env 0) H Q) :
    RCode Tryd.prog 25 (bodyOf Tryd.f141) env H (mkK (retK T Tryd.f141.results.toList Q) (fun _ _ _ => False) (retK T Tryd.f141.results.toList Q) (fun c H => Q (.panicked c) H)) :=
  RCode.prefix_ (T := T) (X := ext) (hint := hint141) (hole := (fun e H => m141_2 (e 0) (e 3) H (fun H_15 => m141_1 H_15 Q) Q)) tok xok mixed 2 (by kernel_rfl) (by kernel_rfl : codeAt _ _ = (codeAt [1, 1] (bodyOf Tryd.f141))) h
    (fun e H h => RCode.join (by kernel_rfl : (codeAt [1, 1] (bodyOf Tryd.f141)) = .seq (codeAt [1, 1, 0] (bodyOf Tryd.f141)) (codeAt [1, 1, 1] (bodyOf Tryd.f141))) ((c141_2 e H (fun H_16 => m141_1 H_16 Q) Q h).mono (mkK_mono (fun e H h => c141_1 e H Q h) (fun _ _ _ h => h) (fun _ _ h => h) (fun _ _ h => h))))
theorem call141 (a0 : Value) (H : Heap) (Q : Ending → Heap → Prop) (h : m141 a0 H Q) : RCalls Tryd.prog 141 [a0] H Q :=
  RCalls.intro (nt := 25) tok Tryd.func141 (by kernel_rfl) (by kernel_rfl) (by kernel_rfl) (of_decide_eq_true (by kernel_rfl)) (c141_0 (envOf [a0]) H Q h)
/-! ### 116: privity/privityref01.Supported -/
def hint116 : Nat → List Nat := lookupL []
def m116 (x0 : Value) (H : Heap) (Q : Ending → Heap → Prop) : Prop :=
oRC Tryd.prog 141 [x0] H (fun c H => Q (.panicked c) H) fun v_1 H_2 =>
oV (vInt .gtr v_1 (.int .i64 0)) fun t5_3 =>
Q (.returned t5_3) H_2
theorem c116_0 (env : Env) (H : Heap) (Q : Ending → Heap → Prop) (h : m116 (env 0) H Q) :
    RCode Tryd.prog 6 (bodyOf Tryd.f116) env H (mkK (retK T Tryd.f116.results.toList Q) (fun _ _ _ => False) (retK T Tryd.f116.results.toList Q) (fun c H => Q (.panicked c) H)) :=
  RCode.leaf_ (T := T) (X := ext) (hint := hint116) tok xok mixed (by kernel_rfl) h
theorem call116 (a0 : Value) (H : Heap) (Q : Ending → Heap → Prop) (h : m116 a0 H Q) : RCalls Tryd.prog 116 [a0] H Q :=
  RCalls.intro (nt := 6) tok Tryd.func116 (by kernel_rfl) (by kernel_rfl) (by kernel_rfl) (of_decide_eq_true (by kernel_rfl)) (c116_0 (envOf [a0]) H Q h)
/-! ### 90: privity/privityref12.Valid -/
def hint90 : Nat → List Nat := lookupL []
def m90 (x0 : Value) (H : Heap) (Q : Ending → Heap → Prop) : Prop :=
oNew (Value.cells x0).toList (Value.cells x0).toList.length 24 H fun i_1 H_2 =>
oV (vField 0 (ptrTo i_1)) fun t3_3 =>
oV (vLoad ty22 t3_3 H_2) fun t4_4 =>
oRC Tryd.prog 116 [t4_4] H_2 (fun c H => Q (.panicked c) H) fun v_5 H_6 =>
oV (gV v_5 true (vField 1 (ptrTo i_1)) (some undef)) fun t7_7 =>
oV (gV v_5 true (vLoad ty3 t7_7 H_6) (some undef)) fun t8_8 =>
oV (gV v_5 true (vInt .geq t8_8 (.int .i64 4)) (some undef)) fun t9_9 =>
oV (vPick v_5 t9_9 (.bool false)) fun t10_10 =>
oV (gV t10_10 true (vField 1 (ptrTo i_1)) (some undef)) fun t12_11 =>
oV (gV t10_10 true (vLoad ty3 t12_11 H_6) (some undef)) fun t13_12 =>
oV (gV t10_10 true (vInt .leq t13_12 (.int .i64 13)) (some undef)) fun t14_13 =>
oV (vPick t10_10 t14_13 (.bool false)) fun t15_14 =>
oV (gV t15_14 true (vField 1 (ptrTo i_1)) (some undef)) fun t17_15 =>
oV (gV t15_14 true (vLoad ty3 t17_15 H_6) (some undef)) fun t18_16 =>
oV (gV t15_14 true (vConv (.int .u64) t18_16) (some undef)) fun t19_17 =>
oV (gV t15_14 true (vField 0 (ptrTo i_1)) (some undef)) fun t20_18 =>
oV (gV t15_14 true (vLoad ty22 t20_18 H_6) (some undef)) fun t21_19 =>
oV (gV t15_14 true (vInt .lss t19_17 t21_19) (some undef)) fun t22_20 =>
oV (vPick t15_14 t22_20 (.bool false)) fun t23_21 =>
oV (gV t23_21 true (vField 2 (ptrTo i_1)) (some undef)) fun t25_22 =>
oV (gV t23_21 true (vLoad ty3 t25_22 H_6) (some undef)) fun t26_23 =>
oV (gV t23_21 true (vInt .geq t26_23 (.int .i64 1)) (some undef)) fun t27_24 =>
oV (vPick t23_21 t27_24 (.bool false)) fun t28_25 =>
oV (gV t28_25 true (vField 2 (ptrTo i_1)) (some undef)) fun t30_26 =>
oV (gV t28_25 true (vLoad ty3 t30_26 H_6) (some undef)) fun t31_27 =>
oV (gV t28_25 true (vField 1 (ptrTo i_1)) (some undef)) fun t32_28 =>
oV (gV t28_25 true (vLoad ty3 t32_28 H_6) (some undef)) fun t33_29 =>
oV (gV t28_25 true (vInt .lss t31_27 t33_29) (some undef)) fun t34_30 =>
oV (vPick t28_25 t34_30 (.bool false)) fun t35_31 =>
oV (gV t35_31 true (vField 2 (ptrTo i_1)) (some undef)) fun t37_32 =>
oV (gV t35_31 true (vLoad ty3 t37_32 H_6) (some undef)) fun t38_33 =>
oV (gV t35_31 true (vInt .mul (.int .i64 3) t38_33) (some undef)) fun t39_34 =>
oV (gV t35_31 true (vField 1 (ptrTo i_1)) (some undef)) fun t40_35 =>
oV (gV t35_31 true (vLoad ty3 t40_35 H_6) (some undef)) fun t41_36 =>
oV (gV t35_31 true (vInt .lss t39_34 t41_36) (some undef)) fun t42_37 =>
oV (vPick t35_31 t42_37 (.bool false)) fun t43_38 =>
Q (.returned t43_38) H_6
theorem c90_0 (env : Env) (H : Heap) (Q : Ending → Heap → Prop) (h : m90 (env 0) H Q) :
    RCode Tryd.prog 44 (bodyOf Tryd.f90) env H (mkK (retK T Tryd.f90.results.toList Q) (fun _ _ _ => False) (retK T Tryd.f90.results.toList Q) (fun c H => Q (.panicked c) H)) :=
  RCode.leaf_ (T := T) (X := ext) (hint := hint90) tok xok mixed (by kernel_rfl) h
theorem call90 (a0 : Value) (H : Heap) (Q : Ending → Heap → Prop) (h : m90 a0 H Q) : RCalls Tryd.prog 90 [a0] H Q :=
  RCalls.intro (nt := 44) tok Tryd.func90 (by kernel_rfl) (by kernel_rfl) (by kernel_rfl) (of_decide_eq_true (by kernel_rfl)) (c90_0 (envOf [a0]) H Q h)
/-! ### 91: privity/privityref12.ValidCoalition -/
def hint91 : Nat → List Nat := lookupL [(6, [0, 1, 2, 3, 4, 5, 6, 7, 8, 9, 10, 11, 12, 13, 14, 15, 16, 17, 18, 19, 20, 21, 22, 23, 24, 25, 26, 27, 28, 29])]
def m91_1 (H : Heap) (Q : Ending → Heap → Prop) : Prop :=
Q (.returned (.bool true)) H
theorem c91_1 (env : Env) (H : Heap) (Q : Ending → Heap → Prop) (h : m91_1 H Q) :
    RCode Tryd.prog 52 (codeAt [1, 1, 1] (bodyOf Tryd.f91)) env H (mkK (retK T Tryd.f91.results.toList Q) (fun _ _ _ => False) (retK T Tryd.f91.results.toList Q) (fun c H => Q (.panicked c) H)) :=
  RCode.leaf_ (T := T) (X := ext) (hint := hint91) tok xok mixed (by kernel_rfl) h
def L91_3 (x1 x2 x5 : Value) (H : Heap) (kn : Heap → Prop) (Q : Ending → Heap → Prop) : Prop :=
  ∀ env : Env, env 1 = x1 → env 2 = x2 → env 5 = x5 → RLoop Tryd.prog 52 (codeAt [1, 1, 0, 1, 0, 0] (bodyOf Tryd.f91)) env H (mkK (fun _ _ => False) (inK 0 (fun e H => kn H) (fun _ _ _ => False)) (retK T Tryd.f91.results.toList Q) (fun c H => Q (.panicked c) H))
theorem cL91_3 (env : Env) (H : Heap) (kn : Heap → Prop) (Q : Ending → Heap → Prop) (h : L91_3 (env 1) (env 2) (env 5) H kn Q) :
    RCode Tryd.prog 52 (codeAt [1, 1, 0, 1] (bodyOf Tryd.f91)) env H (mkK (fun e H => kn H) (fun _ _ _ => False) (retK T Tryd.f91.results.toList Q) (fun c H => Q (.panicked c) H)) :=
  RCode.blk (by kernel_rfl : (codeAt [1, 1, 0, 1] (bodyOf Tryd.f91)) = .block 0 (codeAt [1, 1, 0, 1, 0] (bodyOf Tryd.f91))) (RCode.lp (by kernel_rfl : (codeAt [1, 1, 0, 1, 0] (bodyOf Tryd.f91)) = .loop (codeAt [1, 1, 0, 1, 0, 0] (bodyOf Tryd.f91))) ((h env rfl rfl rfl).mono (mkK_mono (fun _ _ h => h.elim) (fun _ _ _ h => h) (fun _ _ h => h) (fun _ _ h => h))))
def m91_4 (x1 x2 x5 : Value) (H : Heap) (kn : Value → Value → Value → Heap → Prop) (kx0 : Heap → Prop) (Q : Ending → Heap → Prop) : Prop :=
oV (vLen x1) fun t18_1 =>
oV (vInt .lss x5 t18_1) fun t19_2 =>
condK t19_2 (
oV (vIdxS 1 x1 x5) fun t24_3 =>
oV (vLoad ty3 t24_3 H) fun t25_4 =>
oV (vInt .lss t25_4 (.int .i64 1)) fun t26_5 =>
oV (gV t26_5 false (some x1) (some undef)) fun t28_6 =>
oV (gV t26_5 false (some x5) (some undef)) fun t29_7 =>
oV (gV t26_5 false (vIdxS 1 t28_6 t29_7) (some undef)) fun t30_8 =>
oV (gV t26_5 false (vLoad ty3 t30_8 H) (some undef)) fun t31_9 =>
oV (gV t26_5 false (vField 1 x2) (some undef)) fun t32_10 =>
oV (gV t26_5 false (vLoad ty3 t32_10 H) (some undef)) fun t33_11 =>
oV (gV t26_5 false (vInt .gtr t31_9 t33_11) (some undef)) fun t34_12 =>
oV (vPick t26_5 (.bool true) t34_12) fun t35_13 =>
oV (gV t35_13 false (some x5) (some undef)) fun t37_14 =>
oV (gV t35_13 false (vInt .gtr t37_14 (.int .i64 0)) (some undef)) fun t38_15 =>
oV (gV t35_13 false (some t38_15) (some undef)) fun t39_16 =>
oV (gV t39_16 true (some x1) (some undef)) fun t40_17 =>
oV (gV t39_16 true (some x5) (some undef)) fun t41_18 =>
oV (gV t39_16 true (vIdxS 1 t40_17 t41_18) (some undef)) fun t42_19 =>
oV (gV t39_16 true (vLoad ty3 t42_19 H) (some undef)) fun t43_20 =>
oV (gV t39_16 true (some x1) (some undef)) fun t44_21 =>
oV (gV t39_16 true (some x5) (some undef)) fun t45_22 =>
oV (gV t39_16 true (vInt .sub t45_22 (.int .i64 1)) (some undef)) fun t46_23 =>
oV (gV t39_16 true (vIdxS 1 t44_21 t46_23) (some undef)) fun t47_24 =>
oV (gV t39_16 true (vLoad ty3 t47_24 H) (some undef)) fun t48_25 =>
oV (gV t39_16 true (vInt .leq t43_20 t48_25) (some undef)) fun t49_26 =>
oV (gV t35_13 false (vPick t39_16 t49_26 (.bool false)) (some undef)) fun t50_27 =>
oV (vPick t35_13 (.bool true) t50_27) fun t51_28 =>
condK t51_28 (
Q (.returned (.bool false)) H) (
oV (vInt .add x5 (.int .i64 1)) fun t21_29 =>
kn x1 x2 t21_29 H)) (
kx0 H)
theorem c91_4 (env : Env) (H : Heap) (kn : Value → Value → Value → Heap → Prop) (kx0 : Heap → Prop) (Q : Ending → Heap → Prop) (h : m91_4 (env 1) (env 2) (env 5) H kn kx0 Q) :
    RCode Tryd.prog 52 (codeAt [1, 1, 0, 1, 0, 0] (bodyOf Tryd.f91)) env H (mkK (fun e H => kn (e 1) (e 2) (e 5) H) (inK 0 (fun e H => kx0 H) (fun _ _ _ => False)) (retK T Tryd.f91.results.toList Q) (fun c H => Q (.panicked c) H)) :=
  RCode.leaf_ (T := T) (X := ext) (hint := hint91) tok xok mixed (by kernel_rfl) h
theorem L91_3_round (x1 x2 x5 : Value) (H : Heap) (kn : Heap → Prop) (Q : Ending → Heap → Prop) (h : m91_4 x1 x2 x5 H (fun y1 y2 y5 H => L91_3 y1 y2 y5 H kn Q) kn Q) : L91_3 x1 x2 x5 H kn Q := by
  intro env h1 h2 h5
  subst h1; subst h2; subst h5
  exact RLoop.round ((c91_4 env H (fun y1 y2 y5 H => L91_3 y1 y2 y5 H kn Q) kn Q h).mono (mkK_mono (fun e H h => h e rfl rfl rfl) (fun _ _ _ h => h) (fun _ _ h => h) (fun _ _ h => h)))
def m91_2 (x1 x2 : Value) (H : Heap) (kn : Heap → Prop) (Q : Ending → Heap → Prop) : Prop :=
L91_3 x1 x2 (.int .i64 0) H kn Q
theorem c91_2 (env : Env) (H : Heap) (kn : Heap → Prop) (Q : Ending → Heap → Prop) (h : m91_2 (env 1) (env 2) H kn Q) :
    RCode Tryd.prog 52 (codeAt [1, 1, 0] (bodyOf Tryd.f91)) env H (mkK (fun e H => kn H) (fun _ _ _ => False) (retK T Tryd.f91.results.toList Q) (fun c H => Q (.panicked c) H)) :=
  RCode.prefix_ (T := T) (X := ext) (hint := hint91) (hole := (fun e H => L91_3 (e 1) (e 2) (e 5) H kn Q)) tok xok mixed 1 (by kernel_rfl) (by kernel_rfl : codeAt _ _ = (codeAt [1, 1, 0, 1] (bodyOf Tryd.f91))) h
    (fun e H h => (cL91_3 e H kn Q h))
def m91 (x0 x1 : Value) (H : Heap) (Q : Ending → Heap → Prop) : Prop :=
oNew (Value.cells x0).toList (Value.cells x0).toList.length 24 H fun i_30 H_31 =>
oV (vLoad ty24 (ptrTo i_30) H_31) fun t6_32 =>
oRC Tryd.prog 90 [t6_32] H_31 (fun c H => Q (.panicked c) H) fun v_33 H_34 =>
oV (vUn .not v_33) fun t8_35 =>
oV (gV t8_35 false (some x1) (some undef)) fun t10_36 =>
oV (gV t8_35 false (vLen t10_36) (some undef)) fun t11_37 =>
oV (gV t8_35 false (vField 2 (ptrTo i_30)) (some undef)) fun t12_38 =>
oV (gV t8_35 false (vLoad ty3 t12_38 H_34) (some undef)) fun t13_39 =>
oV (gV t8_35 false (vInt .gtr t11_37 t13_39) (some undef)) fun t14_40 =>
oV (vPick t8_35 (.bool true) t14_40) fun t15_41 =>
condK t15_41 (
Q (.returned (.bool false)) H_34) (
m91_2 x1 (ptrTo i_30) H_34 (fun H_42 => m91_1 H_42 Q) Q)
theorem c91_0 (env : Env) (H : Heap) (Q : Ending → Heap → Prop) (h : m91 (env 0) (env 1) H Q) :
    RCode Tryd.prog 52 (bodyOf Tryd.f91) env H (mkK (retK T Tryd.f91.results.toList Q) (fun _ _ _ => False) (retK T Tryd.f91.results.toList Q) (fun c H => Q (.panicked c) H)) :=
  RCode.prefix_ (T := T) (X := ext) (hint := hint91) (hole := (fun e H => m91_2 (e 1) (e 2) H (fun H_43 => m91_1 H_43 Q) Q)) tok xok mixed 2 (by kernel_rfl) (by kernel_rfl : codeAt _ _ = (codeAt [1, 1] (bodyOf Tryd.f91))) h
    (fun e H h => RCode.join (by kernel_rfl : (codeAt [1, 1] (bodyOf Tryd.f91)) = .seq (codeAt [1, 1, 0] (bodyOf Tryd.f91)) (codeAt [1, 1, 1] (bodyOf Tryd.f91))) ((c91_2 e H (fun H_44 => m91_1 H_44 Q) Q h).mono (mkK_mono (fun e H h => c91_1 e H Q h) (fun _ _ _ h => h) (fun _ _ h => h) (fun _ _ h => h))))
theorem call91 (a0 a1 : Value) (H : Heap) (Q : Ending → Heap → Prop) (h : m91 a0 a1 H Q) : RCalls Tryd.prog 91 [a0, a1] H Q :=
  RCalls.intro (nt := 52) tok Tryd.func91 (by kernel_rfl) (by kernel_rfl) (by kernel_rfl) (of_decide_eq_true (by kernel_rfl)) (c91_0 (envOf [a0, a1]) H Q h)
/-! ### 92: privity/privityref12.Deviation -/
def hint92 : Nat → List Nat := lookupL []
def m92 (x0 x1 : Value) (H : Heap) (Q : Ending → Heap → Prop) : Prop :=
oNew (Value.cells x0).toList (Value.cells x0).toList.length 24 H fun i_1 H_2 =>
oNew (Value.cells x1).toList (Value.cells x1).toList.length 109 H_2 fun i_3 H_4 =>
oV (vField 0 (ptrTo i_3)) fun t5_5 =>
oV (vLoad ty3 t5_5 H_4) fun t6_6 =>
oV (vInt .geq t6_6 (.int .i64 0)) fun t7_7 =>
oV (gV t7_7 true (vField 3 (ptrTo i_3)) (some undef)) fun t9_8 =>
oV (gV t7_7 true (vLoad ty3 t9_8 H_4) (some undef)) fun t10_9 =>
oV (gV t7_7 true (vInt .geq t10_9 (.int .i64 0)) (some undef)) fun t11_10 =>
oV (vPick t7_7 t11_10 (.bool false)) fun t12_11 =>
oV (gV t12_11 true (vField 7 (ptrTo i_3)) (some undef)) fun t14_12 =>
oV (gV t12_11 true (vLoad ty3 t14_12 H_4) (some undef)) fun t15_13 =>
oV (gV t12_11 true (vInt .geq t15_13 (.int .i64 0)) (some undef)) fun t16_14 =>
oV (vPick t12_11 t16_14 (.bool false)) fun t17_15 =>
oV (gV t17_15 true (vField 1 (ptrTo i_3)) (some undef)) fun t19_16 =>
oV (gV t17_15 true (vLoad ty3 t19_16 H_4) (some undef)) fun t20_17 =>
oV (gV t17_15 true (vInt .geq t20_17 (.int .i64 1)) (some undef)) fun t21_18 =>
oV (vPick t17_15 t21_18 (.bool false)) fun t22_19 =>
oV (gV t22_19 true (vField 1 (ptrTo i_3)) (some undef)) fun t24_20 =>
oV (gV t22_19 true (vLoad ty3 t24_20 H_4) (some undef)) fun t25_21 =>
oV (gV t22_19 true (vField 1 (ptrTo i_1)) (some undef)) fun t26_22 =>
oV (gV t22_19 true (vLoad ty3 t26_22 H_4) (some undef)) fun t27_23 =>
oV (gV t22_19 true (vInt .leq t25_21 t27_23) (some undef)) fun t28_24 =>
oV (vPick t22_19 t28_24 (.bool false)) fun t29_25 =>
oV (gV t29_25 true (vField 2 (ptrTo i_3)) (some undef)) fun t31_26 =>
oV (gV t29_25 true (vLoad ty3 t31_26 H_4) (some undef)) fun t32_27 =>
oV (gV t29_25 true (vInt .geq t32_27 (.int .i64 0)) (some undef)) fun t33_28 =>
oV (vPick t29_25 t33_28 (.bool false)) fun t34_29 =>
oV (gV t34_29 true (vField 2 (ptrTo i_3)) (some undef)) fun t36_30 =>
oV (gV t34_29 true (vLoad ty3 t36_30 H_4) (some undef)) fun t37_31 =>
oV (gV t34_29 true (vField 1 (ptrTo i_1)) (some undef)) fun t38_32 =>
oV (gV t34_29 true (vLoad ty3 t38_32 H_4) (some undef)) fun t39_33 =>
oV (gV t34_29 true (vInt .leq t37_31 t39_33) (some undef)) fun t40_34 =>
oV (vPick t34_29 t40_34 (.bool false)) fun t41_35 =>
oV (gV t41_35 true (vField 4 (ptrTo i_3)) (some undef)) fun t43_36 =>
oV (gV t41_35 true (vLoad ty3 t43_36 H_4) (some undef)) fun t44_37 =>
oV (gV t41_35 true (vInt .geq t44_37 (.int .i64 1)) (some undef)) fun t45_38 =>
oV (vPick t41_35 t45_38 (.bool false)) fun t46_39 =>
oV (gV t46_39 true (vField 4 (ptrTo i_3)) (some undef)) fun t48_40 =>
oV (gV t46_39 true (vLoad ty3 t48_40 H_4) (some undef)) fun t49_41 =>
oV (gV t46_39 true (vInt .leq t49_41 (.int .i64 4)) (some undef)) fun t50_42 =>
oV (vPick t46_39 t50_42 (.bool false)) fun t51_43 =>
oV (gV t51_43 true (vField 6 (ptrTo i_3)) (some undef)) fun t53_44 =>
oV (gV t51_43 true (vLoad ty3 t53_44 H_4) (some undef)) fun t54_45 =>
oV (gV t51_43 true (vInt .geq t54_45 (.int .i64 0)) (some undef)) fun t55_46 =>
oV (vPick t51_43 t55_46 (.bool false)) fun t56_47 =>
oV (gV t56_47 true (vField 6 (ptrTo i_3)) (some undef)) fun t58_48 =>
oV (gV t56_47 true (vLoad ty3 t58_48 H_4) (some undef)) fun t59_49 =>
oV (gV t56_47 true (vField 1 (ptrTo i_1)) (some undef)) fun t60_50 =>
oV (gV t56_47 true (vLoad ty3 t60_50 H_4) (some undef)) fun t61_51 =>
oV (gV t56_47 true (vInt .leq t59_49 t61_51) (some undef)) fun t62_52 =>
oV (vPick t56_47 t62_52 (.bool false)) fun t63_53 =>
oV (gV t63_53 true (vField 4 (ptrTo i_3)) (some undef)) fun t65_54 =>
oV (gV t63_53 true (vLoad ty3 t65_54 H_4) (some undef)) fun t66_55 =>
oV (gV t63_53 true (vInt .neq t66_55 (.int .i64 3)) (some undef)) fun t67_56 =>
oV (gV t63_53 true (some t67_56) (some undef)) fun t68_57 =>
oV (gV t68_57 false (vField 6 (ptrTo i_3)) (some undef)) fun t69_58 =>
oV (gV t68_57 false (vLoad ty3 t69_58 H_4) (some undef)) fun t70_59 =>
oV (gV t68_57 false (vInt .geq t70_59 (.int .i64 1)) (some undef)) fun t71_60 =>
oV (gV t63_53 true (vPick t68_57 (.bool true) t71_60) (some undef)) fun t72_61 =>
oV (vPick t63_53 t72_61 (.bool false)) fun t73_62 =>
Q (.returned t73_62) H_4
theorem c92_0 (env : Env) (H : Heap) (Q : Ending → Heap → Prop) (h : m92 (env 0) (env 1) H Q) :
    RCode Tryd.prog 74 (bodyOf Tryd.f92) env H (mkK (retK T Tryd.f92.results.toList Q) (fun _ _ _ => False) (retK T Tryd.f92.results.toList Q) (fun c H => Q (.panicked c) H)) :=
  RCode.leaf_ (T := T) (X := ext) (hint := hint92) tok xok mixed (by kernel_rfl) h
theorem call92 (a0 a1 : Value) (H : Heap) (Q : Ending → Heap → Prop) (h : m92 a0 a1 H Q) : RCalls Tryd.prog 92 [a0, a1] H Q :=
  RCalls.intro (nt := 74) tok Tryd.func92 (by kernel_rfl) (by kernel_rfl) (by kernel_rfl) (of_decide_eq_true (by kernel_rfl)) (c92_0 (envOf [a0, a1]) H Q h)
/-! ### 65: privity/privityref05.Below -/
def hint65 : Nat → List Nat := lookupL []
def m65_1 (H : Heap) (Q : Ending → Heap → Prop) : Prop :=
Q (.returned (.bool true)) H
theorem c65_1 (env : Env) (H : Heap) (Q : Ending → Heap → Prop) (h : m65_1 H Q) :
    RCode Tryd.prog 18 (codeAt [1, 1] (bodyOf Tryd.f65)) env H (mkK (retK T Tryd.f65.results.toList Q) (fun _ _ _ => False) (retK T Tryd.f65.results.toList Q) (fun c H => Q (.panicked c) H)) :=
  RCode.leaf_ (T := T) (X := ext) (hint := hint65) tok xok mixed (by kernel_rfl) h
def L65_3 (x0 x1 x5 : Value) (H : Heap) (kn : Heap → Prop) (Q : Ending → Heap → Prop) : Prop :=
  ∀ env : Env, env 0 = x0 → env 1 = x1 → env 5 = x5 → RLoop Tryd.prog 18 (codeAt [1, 0, 1, 0, 0] (bodyOf Tryd.f65)) env H (mkK (fun _ _ => False) (inK 0 (fun e H => kn H) (fun _ _ _ => False)) (retK T Tryd.f65.results.toList Q) (fun c H => Q (.panicked c) H))
theorem cL65_3 (env : Env) (H : Heap) (kn : Heap → Prop) (Q : Ending → Heap → Prop) (h : L65_3 (env 0) (env 1) (env 5) H kn Q) :
    RCode Tryd.prog 18 (codeAt [1, 0, 1] (bodyOf Tryd.f65)) env H (mkK (fun e H => kn H) (fun _ _ _ => False) (retK T Tryd.f65.results.toList Q) (fun c H => Q (.panicked c) H)) :=
  RCode.blk (by kernel_rfl : (codeAt [1, 0, 1] (bodyOf Tryd.f65)) = .block 0 (codeAt [1, 0, 1, 0] (bodyOf Tryd.f65))) (RCode.lp (by kernel_rfl : (codeAt [1, 0, 1, 0] (bodyOf Tryd.f65)) = .loop (codeAt [1, 0, 1, 0, 0] (bodyOf Tryd.f65))) ((h env rfl rfl rfl).mono (mkK_mono (fun _ _ h => h.elim) (fun _ _ _ h => h) (fun _ _ h => h) (fun _ _ h => h))))
def m65_4 (x0 x1 x5 : Value) (H : Heap) (kn : Value → Value → Value → Heap → Prop) (kx0 : Heap → Prop) (Q : Ending → Heap → Prop) : Prop :=
oV (vLen x1) fun t8_1 =>
oV (vInt .lss x5 t8_1) fun t9_2 =>
condK t9_2 (
oV (vIdxS 1 x1 x5) fun t14_3 =>
oV (vLoad ty22 t14_3 H) fun t15_4 =>
oV (vInt .geq t15_4 x0) fun t17_5 =>
condK t17_5 (
Q (.returned (.bool false)) H) (
oV (vInt .add x5 (.int .i64 1)) fun t11_6 =>
kn x0 x1 t11_6 H)) (
kx0 H)
theorem c65_4 (env : Env) (H : Heap) (kn : Value → Value → Value → Heap → Prop) (kx0 : Heap → Prop) (Q : Ending → Heap → Prop) (h : m65_4 (env 0) (env 1) (env 5) H kn kx0 Q) :
    RCode Tryd.prog 18 (codeAt [1, 0, 1, 0, 0] (bodyOf Tryd.f65)) env H (mkK (fun e H => kn (e 0) (e 1) (e 5) H) (inK 0 (fun e H => kx0 H) (fun _ _ _ => False)) (retK T Tryd.f65.results.toList Q) (fun c H => Q (.panicked c) H)) :=
  RCode.leaf_ (T := T) (X := ext) (hint := hint65) tok xok mixed (by kernel_rfl) h
theorem L65_3_round (x0 x1 x5 : Value) (H : Heap) (kn : Heap → Prop) (Q : Ending → Heap → Prop) (h : m65_4 x0 x1 x5 H (fun y0 y1 y5 H => L65_3 y0 y1 y5 H kn Q) kn Q) : L65_3 x0 x1 x5 H kn Q := by
  intro env h0 h1 h5
  subst h0; subst h1; subst h5
  exact RLoop.round ((c65_4 env H (fun y0 y1 y5 H => L65_3 y0 y1 y5 H kn Q) kn Q h).mono (mkK_mono (fun e H h => h e rfl rfl rfl) (fun _ _ _ h => h) (fun _ _ h => h) (fun _ _ h => h)))
def m65_2 (x0 x1 : Value) (H : Heap) (kn : Heap → Prop) (Q : Ending → Heap → Prop) : Prop :=
L65_3 x0 x1 (.int .i64 0) H kn Q
theorem c65_2 (env : Env) (H : Heap) (kn : Heap → Prop) (Q : Ending → Heap → Prop) (h : m65_2 (env 0) (env 1) H kn Q) :
    RCode Tryd.prog 18 (codeAt [1, 0] (bodyOf Tryd.f65)) env H (mkK (fun e H => kn H) (fun _ _ _ => False) (retK T Tryd.f65.results.toList Q) (fun c H => Q (.panicked c) H)) :=
  RCode.prefix_ (T := T) (X := ext) (hint := hint65) (hole := (fun e H => L65_3 (e 0) (e 1) (e 5) H kn Q)) tok xok mixed 1 (by kernel_rfl) (by kernel_rfl : codeAt _ _ = (codeAt [1, 0, 1] (bodyOf Tryd.f65))) h
    (fun e H h => (cL65_3 e H kn Q h))
def m65 (x0 x1 : Value) (H : Heap) (Q : Ending → Heap → Prop) : Prop :=
m65_2 x0 x1 H (fun H_7 => m65_1 H_7 Q) Q
theorem c65_0 (env : Env) (H : Heap) (Q : Ending → Heap → Prop) (h : m65 (env 0) (env 1) H Q) :
    RCode Tryd.prog 18 (bodyOf Tryd.f65) env H (mkK (retK T Tryd.f65.results.toList Q) (fun _ _ _ => False) (retK T Tryd.f65.results.toList Q) (fun c H => Q (.panicked c) H)) :=
  RCode.prefix_ (T := T) (X := ext) (hint := hint65) (hole := (fun e H => m65_2 (e 0) (e 1) H (fun H_8 => m65_1 H_8 Q) Q)) tok xok mixed 1 (by kernel_rfl) (by kernel_rfl : codeAt _ _ = (codeAt [1] (bodyOf Tryd.f65))) h
    (fun e H h => RCode.join (by kernel_rfl : (codeAt [1] (bodyOf Tryd.f65)) = .seq (codeAt [1, 0] (bodyOf Tryd.f65)) (codeAt [1, 1] (bodyOf Tryd.f65))) ((c65_2 e H (fun H_9 => m65_1 H_9 Q) Q h).mono (mkK_mono (fun e H h => c65_1 e H Q h) (fun _ _ _ h => h) (fun _ _ h => h) (fun _ _ h => h))))
theorem call65 (a0 a1 : Value) (H : Heap) (Q : Ending → Heap → Prop) (h : m65 a0 a1 H Q) : RCalls Tryd.prog 65 [a0, a1] H Q :=
  RCalls.intro (nt := 18) tok Tryd.func65 (by kernel_rfl) (by kernel_rfl) (by kernel_rfl) (of_decide_eq_true (by kernel_rfl)) (c65_0 (envOf [a0, a1]) H Q h)
/-! ### 54: privity/privityref12.ValidScenario -/
def hint54 : Nat → List Nat := lookupL [(6, [0, 1, 2, 3, 4, 5, 6, 7, 8]), (11, [0, 1, 2, 3, 4, 5, 6, 7, 8, 9])]
def m54_2 (H : Heap) (Q : Ending → Heap → Prop) : Prop :=
Q (.returned (.bool true)) H
theorem c54_2 (env : Env) (H : Heap) (Q : Ending → Heap → Prop) (h : m54_2 H Q) :
    RCode Tryd.prog 59 (codeAt [1, 1, 1, 1] (bodyOf Tryd.f54)) env H (mkK (retK T Tryd.f54.results.toList Q) (fun _ _ _ => False) (retK T Tryd.f54.results.toList Q) (fun c H => Q (.panicked c) H)) :=
  RCode.leaf_ (T := T) (X := ext) (hint := hint54) tok xok mixed (by kernel_rfl) h
def L54_4 (x1 x4 : Value) (H : Heap) (kn : Heap → Prop) (Q : Ending → Heap → Prop) : Prop :=
  ∀ env : Env, env 1 = x1 → env 4 = x4 → RLoop Tryd.prog 59 (codeAt [1, 1, 1, 0, 1, 0, 0] (bodyOf Tryd.f54)) env H (mkK (fun _ _ => False) (inK 2 (fun e H => kn H) (fun _ _ _ => False)) (retK T Tryd.f54.results.toList Q) (fun c H => Q (.panicked c) H))
theorem cL54_4 (env : Env) (H : Heap) (kn : Heap → Prop) (Q : Ending → Heap → Prop) (h : L54_4 (env 1) (env 4) H kn Q) :
    RCode Tryd.prog 59 (codeAt [1, 1, 1, 0, 1] (bodyOf Tryd.f54)) env H (mkK (fun e H => kn H) (fun _ _ _ => False) (retK T Tryd.f54.results.toList Q) (fun c H => Q (.panicked c) H)) :=
  RCode.blk (by kernel_rfl : (codeAt [1, 1, 1, 0, 1] (bodyOf Tryd.f54)) = .block 2 (codeAt [1, 1, 1, 0, 1, 0] (bodyOf Tryd.f54))) (RCode.lp (by kernel_rfl : (codeAt [1, 1, 1, 0, 1, 0] (bodyOf Tryd.f54)) = .loop (codeAt [1, 1, 1, 0, 1, 0, 0] (bodyOf Tryd.f54))) ((h env rfl rfl).mono (mkK_mono (fun _ _ h => h.elim) (fun _ _ _ h => h) (fun _ _ h => h) (fun _ _ h => h))))
def m54_5 (x1 x4 : Value) (H : Heap) (kn : Value → Value → Heap → Prop) (kx2 : Heap → Prop) (Q : Ending → Heap → Prop) : Prop :=
oV (vField 5 x1) fun t43_1 =>
oV (vLoad ty27 t43_1 H) fun t44_2 =>
oV (vLen t44_2) fun t45_3 =>
oV (vInt .lss x4 t45_3) fun t46_4 =>
condK t46_4 (
oV (vField 0 x1) fun t49_5 =>
oV (vField 0 t49_5) fun t50_6 =>
oV (vLoad ty22 t50_6 H) fun t51_7 =>
oV (vField 5 x1) fun t52_8 =>
oV (vLoad ty27 t52_8 H) fun t53_9 =>
oV (vIdxS 1 t53_9 x4) fun t55_10 =>
oV (vLoad ty52 t55_10 H) fun t56_11 =>
oRC Tryd.prog 65 [t51_7, t56_11] H noP fun v_12 H_13 =>
oV (vUn .not v_12) fun t58_14 =>
condK t58_14 (
Q (.returned (.bool false)) H_13) (
oV (vInt .add x4 (.int .i64 1)) fun t48_15 =>
kn x1 t48_15 H_13)) (
kx2 H)
theorem c54_5 (env : Env) (H : Heap) (kn : Value → Value → Heap → Prop) (kx2 : Heap → Prop) (Q : Ending → Heap → Prop) (h : m54_5 (env 1) (env 4) H kn kx2 Q) :
    RCode Tryd.prog 59 (codeAt [1, 1, 1, 0, 1, 0, 0] (bodyOf Tryd.f54)) env H (mkK (fun e H => kn (e 1) (e 4) H) (inK 2 (fun e H => kx2 H) (fun _ _ _ => False)) (retK T Tryd.f54.results.toList Q) (fun c H => Q (.panicked c) H)) :=
  RCode.leaf_ (T := T) (X := ext) (hint := hint54) tok xok mixed (by kernel_rfl) h
theorem L54_4_round (x1 x4 : Value) (H : Heap) (kn : Heap → Prop) (Q : Ending → Heap → Prop) (h : m54_5 x1 x4 H (fun y1 y4 H => L54_4 y1 y4 H kn Q) kn Q) : L54_4 x1 x4 H kn Q := by
  intro env h1 h4
  subst h1; subst h4
  exact RLoop.round ((c54_5 env H (fun y1 y4 H => L54_4 y1 y4 H kn Q) kn Q h).mono (mkK_mono (fun e H h => h e rfl rfl) (fun _ _ _ h => h) (fun _ _ h => h) (fun _ _ h => h)))
def m54_3 (x1 : Value) (H : Heap) (kn : Heap → Prop) (Q : Ending → Heap → Prop) : Prop :=
L54_4 x1 (.int .i64 0) H kn Q
theorem c54_3 (env : Env) (H : Heap) (kn : Heap → Prop) (Q : Ending → Heap → Prop) (h : m54_3 (env 1) H kn Q) :
    RCode Tryd.prog 59 (codeAt [1, 1, 1, 0] (bodyOf Tryd.f54)) env H (mkK (fun e H => kn H) (fun _ _ _ => False) (retK T Tryd.f54.results.toList Q) (fun c H => Q (.panicked c) H)) :=
  RCode.prefix_ (T := T) (X := ext) (hint := hint54) (hole := (fun e H => L54_4 (e 1) (e 4) H kn Q)) tok xok mixed 1 (by kernel_rfl) (by kernel_rfl : codeAt _ _ = (codeAt [1, 1, 1, 0, 1] (bodyOf Tryd.f54))) h
    (fun e H h => (cL54_4 e H kn Q h))
def m54_1 (x1 : Value) (H : Heap) (Q : Ending → Heap → Prop) : Prop :=
m54_3 x1 H (fun H_16 => m54_2 H_16 Q) Q
theorem c54_1 (env : Env) (H : Heap) (Q : Ending → Heap → Prop) (h : m54_1 (env 1) H Q) :
    RCode Tryd.prog 59 (codeAt [1, 1, 1] (bodyOf Tryd.f54)) env H (mkK (retK T Tryd.f54.results.toList Q) (fun _ _ _ => False) (retK T Tryd.f54.results.toList Q) (fun c H => Q (.panicked c) H)) :=
  RCode.join (by kernel_rfl : (codeAt [1, 1, 1] (bodyOf Tryd.f54)) = .seq (codeAt [1, 1, 1, 0] (bodyOf Tryd.f54)) (codeAt [1, 1, 1, 1] (bodyOf Tryd.f54))) ((c54_3 env H (fun H_17 => m54_2 H_17 Q) Q h).mono (mkK_mono (fun e H h => c54_2 e H Q h) (fun _ _ _ h => h) (fun _ _ h => h) (fun _ _ h => h)))
def L54_7 (x1 x3 : Value) (H : Heap) (kn : Value → Heap → Prop) (Q : Ending → Heap → Prop) : Prop :=
  ∀ env : Env, env 1 = x1 → env 3 = x3 → RLoop Tryd.prog 59 (codeAt [1, 1, 0, 1, 0, 0] (bodyOf Tryd.f54)) env H (mkK (fun _ _ => False) (inK 0 (fun e H => kn (e 1) H) (fun _ _ _ => False)) (retK T Tryd.f54.results.toList Q) (fun c H => Q (.panicked c) H))
theorem cL54_7 (env : Env) (H : Heap) (kn : Value → Heap → Prop) (Q : Ending → Heap → Prop) (h : L54_7 (env 1) (env 3) H kn Q) :
    RCode Tryd.prog 59 (codeAt [1, 1, 0, 1] (bodyOf Tryd.f54)) env H (mkK (fun e H => kn (e 1) H) (fun _ _ _ => False) (retK T Tryd.f54.results.toList Q) (fun c H => Q (.panicked c) H)) :=
  RCode.blk (by kernel_rfl : (codeAt [1, 1, 0, 1] (bodyOf Tryd.f54)) = .block 0 (codeAt [1, 1, 0, 1, 0] (bodyOf Tryd.f54))) (RCode.lp (by kernel_rfl : (codeAt [1, 1, 0, 1, 0] (bodyOf Tryd.f54)) = .loop (codeAt [1, 1, 0, 1, 0, 0] (bodyOf Tryd.f54))) ((h env rfl rfl).mono (mkK_mono (fun _ _ h => h.elim) (fun _ _ _ h => h) (fun _ _ h => h) (fun _ _ h => h))))
def m54_8 (x1 x3 : Value) (H : Heap) (kn : Value → Value → Heap → Prop) (kx0 : Value → Heap → Prop) (Q : Ending → Heap → Prop) : Prop :=
oV (vField 4 x1) fun t27_18 =>
oV (vLoad ty26 t27_18 H) fun t28_19 =>
oV (vLen t28_19) fun t29_20 =>
oV (vInt .lss x3 t29_20) fun t30_21 =>
condK t30_21 (
oV (vField 0 x1) fun t33_22 =>
oV (vLoad ty24 t33_22 H) fun t34_23 =>
oV (vField 4 x1) fun t35_24 =>
oV (vLoad ty26 t35_24 H) fun t36_25 =>
oV (vIdxS 8 t36_25 x3) fun t38_26 =>
oV (vLoad ty109 t38_26 H) fun t39_27 =>
oRC Tryd.prog 92 [t34_23, t39_27] H noP fun v_28 H_29 =>
oV (vUn .not v_28) fun t41_30 =>
condK t41_30 (
Q (.returned (.bool false)) H_29) (
oV (vInt .add x3 (.int .i64 1)) fun t32_31 =>
kn x1 t32_31 H_29)) (
kx0 x1 H)
theorem c54_8 (env : Env) (H : Heap) (kn : Value → Value → Heap → Prop) (kx0 : Value → Heap → Prop) (Q : Ending → Heap → Prop) (h : m54_8 (env 1) (env 3) H kn kx0 Q) :
    RCode Tryd.prog 59 (codeAt [1, 1, 0, 1, 0, 0] (bodyOf Tryd.f54)) env H (mkK (fun e H => kn (e 1) (e 3) H) (inK 0 (fun e H => kx0 (e 1) H) (fun _ _ _ => False)) (retK T Tryd.f54.results.toList Q) (fun c H => Q (.panicked c) H)) :=
  RCode.leaf_ (T := T) (X := ext) (hint := hint54) tok xok mixed (by kernel_rfl) h
theorem L54_7_round (x1 x3 : Value) (H : Heap) (kn : Value → Heap → Prop) (Q : Ending → Heap → Prop) (h : m54_8 x1 x3 H (fun y1 y3 H => L54_7 y1 y3 H kn Q) kn Q) : L54_7 x1 x3 H kn Q := by
  intro env h1 h3
  subst h1; subst h3
  exact RLoop.round ((c54_8 env H (fun y1 y3 H => L54_7 y1 y3 H kn Q) kn Q h).mono (mkK_mono (fun e H h => h e rfl rfl) (fun _ _ _ h => h) (fun _ _ h => h) (fun _ _ h => h)))
def m54_6 (x1 : Value) (H : Heap) (kn : Value → Heap → Prop) (Q : Ending → Heap → Prop) : Prop :=
L54_7 x1 (.int .i64 0) H kn Q
theorem c54_6 (env : Env) (H : Heap) (kn : Value → Heap → Prop) (Q : Ending → Heap → Prop) (h : m54_6 (env 1) H kn Q) :
    RCode Tryd.prog 59 (codeAt [1, 1, 0] (bodyOf Tryd.f54)) env H (mkK (fun e H => kn (e 1) H) (fun _ _ _ => False) (retK T Tryd.f54.results.toList Q) (fun c H => Q (.panicked c) H)) :=
  RCode.prefix_ (T := T) (X := ext) (hint := hint54) (hole := (fun e H => L54_7 (e 1) (e 3) H kn Q)) tok xok mixed 1 (by kernel_rfl) (by kernel_rfl : codeAt _ _ = (codeAt [1, 1, 0, 1] (bodyOf Tryd.f54))) h
    (fun e H h => (cL54_7 e H kn Q h))
def m54 (x0 : Value) (H : Heap) (Q : Ending → Heap → Prop) : Prop :=
oNew (Value.cells x0).toList (Value.cells x0).toList.length 29 H fun i_32 H_33 =>
oV (vField 0 (ptrTo i_32)) fun t5_34 =>
oV (vLoad ty24 t5_34 H_33) fun t6_35 =>
oRC Tryd.prog 90 [t6_35] H_33 (fun c H => Q (.panicked c) H) fun v_36 H_37 =>
oV (vUn .not v_36) fun t8_38 =>
oV (gV t8_38 false (vField 0 (ptrTo i_32)) (some undef)) fun t10_39 =>
oV (gV t8_38 false (vLoad ty24 t10_39 H_37) (some undef)) fun t11_40 =>
oV (gV t8_38 false (vField 3 (ptrTo i_32)) (some undef)) fun t12_41 =>
oV (gV t8_38 false (vLoad ty25 t12_41 H_37) (some undef)) fun t13_42 =>
letK (fun t14_44 H_45 =>
oV (gV t8_38 false (vUn .not t14_44) (some undef)) fun t15_46 =>
oV (vPick t8_38 (.bool true) t15_46) fun t16_47 =>
oV (gV t16_47 false (vField 5 (ptrTo i_32)) (some undef)) fun t18_48 =>
oV (gV t16_47 false (vLoad ty27 t18_48 H_45) (some undef)) fun t19_49 =>
oV (gV t16_47 false (vLen t19_49) (some undef)) fun t20_50 =>
oV (gV t16_47 false (vField 0 (ptrTo i_32)) (some undef)) fun t21_51 =>
oV (gV t16_47 false (vField 1 t21_51) (some undef)) fun t22_52 =>
oV (gV t16_47 false (vLoad ty3 t22_52 H_45) (some undef)) fun t23_53 =>
oV (gV t16_47 false (vInt .neq t20_50 t23_53) (some undef)) fun t24_54 =>
oV (vPick t16_47 (.bool true) t24_54) fun t25_55 =>
condK t25_55 (
Q (.returned (.bool false)) H_45) (
m54_6 (ptrTo i_32) H_45 (fun y1_56 H_57 => m54_1 y1_56 H_57 Q) Q)) fun k_43 => gK t8_38 false (oRC Tryd.prog 91 [t11_40, t13_42] H_37 (fun c H => Q (.panicked c) H) fun v_58 H_59 =>
k_43 v_58 H_59) (k_43 undef H_37)
theorem c54_0 (env : Env) (H : Heap) (Q : Ending → Heap → Prop) (h : m54 (env 0) H Q) :
    RCode Tryd.prog 59 (bodyOf Tryd.f54) env H (mkK (retK T Tryd.f54.results.toList Q) (fun _ _ _ => False) (retK T Tryd.f54.results.toList Q) (fun c H => Q (.panicked c) H)) :=
  RCode.prefix_ (T := T) (X := ext) (hint := hint54) (hole := (fun e H => m54_6 (e 1) H (fun y1_60 H_61 => m54_1 y1_60 H_61 Q) Q)) tok xok mixed 2 (by kernel_rfl) (by kernel_rfl : codeAt _ _ = (codeAt [1, 1] (bodyOf Tryd.f54))) h
    (fun e H h => RCode.join (by kernel_rfl : (codeAt [1, 1] (bodyOf Tryd.f54)) = .seq (codeAt [1, 1, 0] (bodyOf Tryd.f54)) (codeAt [1, 1, 1] (bodyOf Tryd.f54))) ((c54_6 e H (fun y1_62 H_63 => m54_1 y1_62 H_63 Q) Q h).mono (mkK_mono (fun e H h => c54_1 e H Q h) (fun _ _ _ h => h) (fun _ _ h => h) (fun _ _ h => h))))
theorem call54 (a0 : Value) (H : Heap) (Q : Ending → Heap → Prop) (h : m54 a0 H Q) : RCalls Tryd.prog 54 [a0] H Q :=
  RCalls.intro (nt := 59) tok Tryd.func54 (by kernel_rfl) (by kernel_rfl) (by kernel_rfl) (of_decide_eq_true (by kernel_rfl)) (c54_0 (envOf [a0]) H Q h)
/-! ### 50: privity/privityref14.Fair -/
def hint50 : Nat → List Nat := lookupL []
def m50_1 (x3 : Value) (H : Heap) (Q : Ending → Heap → Prop) : Prop :=
oV (vLoad ty29 x3 H) fun t40_1 =>
oRC Tryd.prog 54 [t40_1] H (fun c H => Q (.panicked c) H) fun v_2 H_3 =>
Q (.returned v_2) H_3
theorem c50_1 (env : Env) (H : Heap) (Q : Ending → Heap → Prop) (h : m50_1 (env 3) H Q) :
    RCode Tryd.prog 42 (codeAt [1, 1, 1] (bodyOf Tryd.f50)) env H (mkK (retK T Tryd.f50.results.toList Q) (fun _ _ _ => False) (retK T Tryd.f50.results.toList Q) (fun c H => Q (.panicked c) H)) :=
  RCode.leaf_ (T := T) (X := ext) (hint := hint50) tok xok mixed (by kernel_rfl) h
def L50_3 (x2 x3 x7 : Value) (H : Heap) (kn : Value → Heap → Prop) (Q : Ending → Heap → Prop) : Prop :=
  ∀ env : Env, env 2 = x2 → env 3 = x3 → env 7 = x7 → RLoop Tryd.prog 42 (codeAt [1, 1, 0, 1, 0, 0] (bodyOf Tryd.f50)) env H (mkK (fun _ _ => False) (inK 0 (fun e H => kn (e 3) H) (fun _ _ _ => False)) (retK T Tryd.f50.results.toList Q) (fun c H => Q (.panicked c) H))
theorem cL50_3 (env : Env) (H : Heap) (kn : Value → Heap → Prop) (Q : Ending → Heap → Prop) (h : L50_3 (env 2) (env 3) (env 7) H kn Q) :
    RCode Tryd.prog 42 (codeAt [1, 1, 0, 1] (bodyOf Tryd.f50)) env H (mkK (fun e H => kn (e 3) H) (fun _ _ _ => False) (retK T Tryd.f50.results.toList Q) (fun c H => Q (.panicked c) H)) :=
  RCode.blk (by kernel_rfl : (codeAt [1, 1, 0, 1] (bodyOf Tryd.f50)) = .block 0 (codeAt [1, 1, 0, 1, 0] (bodyOf Tryd.f50))) (RCode.lp (by kernel_rfl : (codeAt [1, 1, 0, 1, 0] (bodyOf Tryd.f50)) = .loop (codeAt [1, 1, 0, 1, 0, 0] (bodyOf Tryd.f50))) ((h env rfl rfl rfl).mono (mkK_mono (fun _ _ h => h.elim) (fun _ _ _ h => h) (fun _ _ h => h) (fun _ _ h => h))))
def m50_4 (x2 x3 x7 : Value) (H : Heap) (kn : Value → Value → Value → Heap → Prop) (kx0 : Value → Heap → Prop) (Q : Ending → Heap → Prop) : Prop :=
oV (vField 5 x3) fun t26_4 =>
oV (vLoad ty27 t26_4 H) fun t27_5 =>
oV (vLen t27_5) fun t28_6 =>
oV (vInt .lss x7 t28_6) fun t29_7 =>
condK t29_7 (
oV (vField 5 x3) fun t32_8 =>
oV (vLoad ty27 t32_8 H) fun t33_9 =>
oV (vIdxS 1 t33_9 x7) fun t35_10 =>
oV (vLoad ty52 t35_10 H) fun t36_11 =>
oV (vLen t36_11) fun t37_12 =>
oV (vInt .gtr t37_12 x2) fun t39_13 =>
condK t39_13 (
Q (.returned (.bool false)) H) (
oV (vInt .add x7 (.int .i64 1)) fun t31_14 =>
kn x2 x3 t31_14 H)) (
kx0 x3 H)
theorem c50_4 (env : Env) (H : Heap) (kn : Value → Value → Value → Heap → Prop) (kx0 : Value → Heap → Prop) (Q : Ending → Heap → Prop) (h : m50_4 (env 2) (env 3) (env 7) H kn kx0 Q) :
    RCode Tryd.prog 42 (codeAt [1, 1, 0, 1, 0, 0] (bodyOf Tryd.f50)) env H (mkK (fun e H => kn (e 2) (e 3) (e 7) H) (inK 0 (fun e H => kx0 (e 3) H) (fun _ _ _ => False)) (retK T Tryd.f50.results.toList Q) (fun c H => Q (.panicked c) H)) :=
  RCode.leaf_ (T := T) (X := ext) (hint := hint50) tok xok mixed (by kernel_rfl) h
theorem L50_3_round (x2 x3 x7 : Value) (H : Heap) (kn : Value → Heap → Prop) (Q : Ending → Heap → Prop) (h : m50_4 x2 x3 x7 H (fun y2 y3 y7 H => L50_3 y2 y3 y7 H kn Q) kn Q) : L50_3 x2 x3 x7 H kn Q := by
  intro env h2 h3 h7
  subst h2; subst h3; subst h7
  exact RLoop.round ((c50_4 env H (fun y2 y3 y7 H => L50_3 y2 y3 y7 H kn Q) kn Q h).mono (mkK_mono (fun e H h => h e rfl rfl rfl) (fun _ _ _ h => h) (fun _ _ h => h) (fun _ _ h => h)))
def m50_2 (x2 x3 : Value) (H : Heap) (kn : Value → Heap → Prop) (Q : Ending → Heap → Prop) : Prop :=
L50_3 x2 x3 (.int .i64 0) H kn Q
theorem c50_2 (env : Env) (H : Heap) (kn : Value → Heap → Prop) (Q : Ending → Heap → Prop) (h : m50_2 (env 2) (env 3) H kn Q) :
    RCode Tryd.prog 42 (codeAt [1, 1, 0] (bodyOf Tryd.f50)) env H (mkK (fun e H => kn (e 3) H) (fun _ _ _ => False) (retK T Tryd.f50.results.toList Q) (fun c H => Q (.panicked c) H)) :=
  RCode.prefix_ (T := T) (X := ext) (hint := hint50) (hole := (fun e H => L50_3 (e 2) (e 3) (e 7) H kn Q)) tok xok mixed 1 (by kernel_rfl) (by kernel_rfl : codeAt _ _ = (codeAt [1, 1, 0, 1] (bodyOf Tryd.f50))) h
    (fun e H h => (cL50_3 e H kn Q h))
def m50 (x0 x1 x2 : Value) (H : Heap) (Q : Ending → Heap → Prop) : Prop :=
oNew (Value.cells x0).toList (Value.cells x0).toList.length 29 H fun i_15 H_16 =>
oV (vField 4 (ptrTo i_15)) fun t8_17 =>
oV (vLoad ty26 t8_17 H_16) fun t9_18 =>
oV (vLen t9_18) fun t10_19 =>
oV (vInt .gtr t10_19 x1) fun t12_20 =>
oV (gV t12_20 false (vField 5 (ptrTo i_15)) (some undef)) fun t14_21 =>
oV (gV t12_20 false (vLoad ty27 t14_21 H_16) (some undef)) fun t15_22 =>
oV (gV t12_20 false (vLen t15_22) (some undef)) fun t16_23 =>
oV (gV t12_20 false (vInt .gtr t16_23 (.int .i64 13)) (some undef)) fun t17_24 =>
oV (vPick t12_20 (.bool true) t17_24) fun t18_25 =>
oV (gV t18_25 false (vField 3 (ptrTo i_15)) (some undef)) fun t20_26 =>
oV (gV t18_25 false (vLoad ty25 t20_26 H_16) (some undef)) fun t21_27 =>
oV (gV t18_25 false (vLen t21_27) (some undef)) fun t22_28 =>
oV (gV t18_25 false (vInt .gtr t22_28 (.int .i64 13)) (some undef)) fun t23_29 =>
oV (vPick t18_25 (.bool true) t23_29) fun t24_30 =>
condK t24_30 (
Q (.returned (.bool false)) H_16) (
m50_2 x2 (ptrTo i_15) H_16 (fun y3_31 H_32 => m50_1 y3_31 H_32 Q) Q)
theorem c50_0 (env : Env) (H : Heap) (Q : Ending → Heap → Prop) (h : m50 (env 0) (env 1) (env 2) H Q) :
    RCode Tryd.prog 42 (bodyOf Tryd.f50) env H (mkK (retK T Tryd.f50.results.toList Q) (fun _ _ _ => False) (retK T Tryd.f50.results.toList Q) (fun c H => Q (.panicked c) H)) :=
  RCode.prefix_ (T := T) (X := ext) (hint := hint50) (hole := (fun e H => m50_2 (e 2) (e 3) H (fun y3_33 H_34 => m50_1 y3_33 H_34 Q) Q)) tok xok mixed 2 (by kernel_rfl) (by kernel_rfl : codeAt _ _ = (codeAt [1, 1] (bodyOf Tryd.f50))) h
    (fun e H h => RCode.join (by kernel_rfl : (codeAt [1, 1] (bodyOf Tryd.f50)) = .seq (codeAt [1, 1, 0] (bodyOf Tryd.f50)) (codeAt [1, 1, 1] (bodyOf Tryd.f50))) ((c50_2 e H (fun y3_35 H_36 => m50_1 y3_35 H_36 Q) Q h).mono (mkK_mono (fun e H h => c50_1 e H Q h) (fun _ _ _ h => h) (fun _ _ h => h) (fun _ _ h => h))))
theorem call50 (a0 a1 a2 : Value) (H : Heap) (Q : Ending → Heap → Prop) (h : m50 a0 a1 a2 H Q) : RCalls Tryd.prog 50 [a0, a1, a2] H Q :=
  RCalls.intro (nt := 42) tok Tryd.func50 (by kernel_rfl) (by kernel_rfl) (by kernel_rfl) (of_decide_eq_true (by kernel_rfl)) (c50_0 (envOf [a0, a1, a2]) H Q h)
/-! ### 51: privity/privityref14.Below -/
def hint51 : Nat → List Nat := lookupL []
def m51_1 (H : Heap) (Q : Ending → Heap → Prop) : Prop :=
Q (.returned (.bool true)) H
theorem c51_1 (env : Env) (H : Heap) (Q : Ending → Heap → Prop) (h : m51_1 H Q) :
    RCode Tryd.prog 40 (codeAt [1, 1] (bodyOf Tryd.f51)) env H (mkK (retK T Tryd.f51.results.toList Q) (fun _ _ _ => False) (retK T Tryd.f51.results.toList Q) (fun c H => Q (.panicked c) H)) :=
  RCode.leaf_ (T := T) (X := ext) (hint := hint51) tok xok mixed (by kernel_rfl) h
def L51_3 (x0 x1 x2 x7 : Value) (H : Heap) (kn : Heap → Prop) (Q : Ending → Heap → Prop) : Prop :=
  ∀ env : Env, env 0 = x0 → env 1 = x1 → env 2 = x2 → env 7 = x7 → RLoop Tryd.prog 40 (codeAt [1, 0, 1, 0, 0] (bodyOf Tryd.f51)) env H (mkK (fun _ _ => False) (inK 0 (fun e H => kn H) (fun _ _ _ => False)) (retK T Tryd.f51.results.toList Q) (fun c H => Q (.panicked c) H))
theorem cL51_3 (env : Env) (H : Heap) (kn : Heap → Prop) (Q : Ending → Heap → Prop) (h : L51_3 (env 0) (env 1) (env 2) (env 7) H kn Q) :
    RCode Tryd.prog 40 (codeAt [1, 0, 1] (bodyOf Tryd.f51)) env H (mkK (fun e H => kn H) (fun _ _ _ => False) (retK T Tryd.f51.results.toList Q) (fun c H => Q (.panicked c) H)) :=
  RCode.blk (by kernel_rfl : (codeAt [1, 0, 1] (bodyOf Tryd.f51)) = .block 0 (codeAt [1, 0, 1, 0] (bodyOf Tryd.f51))) (RCode.lp (by kernel_rfl : (codeAt [1, 0, 1, 0] (bodyOf Tryd.f51)) = .loop (codeAt [1, 0, 1, 0, 0] (bodyOf Tryd.f51))) ((h env rfl rfl rfl rfl).mono (mkK_mono (fun _ _ h => h.elim) (fun _ _ _ h => h) (fun _ _ h => h) (fun _ _ h => h))))
def m51_5 (x0 x1 x2 x7 : Value) (H : Heap) (kn : Value → Value → Value → Value → Heap → Prop) (kx0 : Heap → Prop) (Q : Ending → Heap → Prop) : Prop :=
oV (vInt .add x7 (.int .i64 1)) fun t14_1 =>
kn x0 x1 x2 t14_1 H
theorem c51_5 (env : Env) (H : Heap) (kn : Value → Value → Value → Value → Heap → Prop) (kx0 : Heap → Prop) (Q : Ending → Heap → Prop) (h : m51_5 (env 0) (env 1) (env 2) (env 7) H kn kx0 Q) :
    RCode Tryd.prog 40 (codeAt [1, 0, 1, 0, 0, 1, 1] (bodyOf Tryd.f51)) env H (mkK (fun e H => kn (e 0) (e 1) (e 2) (e 7) H) (inK 0 (fun e H => kx0 H) (fun _ _ _ => False)) (retK T Tryd.f51.results.toList Q) (fun c H => Q (.panicked c) H)) :=
  RCode.leaf_ (T := T) (X := ext) (hint := hint51) tok xok mixed (by kernel_rfl) h
def L51_8 (x0 x1 x2 x7 x8 : Value) (H : Heap) (kn : Value → Value → Value → Value → Heap → Prop) (kx1 : Value → Value → Value → Value → Heap → Prop) (kx0 : Heap → Prop) (Q : Ending → Heap → Prop) : Prop :=
  ∀ env : Env, env 0 = x0 → env 1 = x1 → env 2 = x2 → env 7 = x7 → env 8 = x8 → RLoop Tryd.prog 40 (codeAt [1, 0, 1, 0, 0, 1, 0, 0, 1, 1, 0, 0] (bodyOf Tryd.f51)) env H (mkK (fun _ _ => False) (inK 2 (fun e H => kn (e 0) (e 1) (e 2) (e 7) H) (inK 1 (fun e H => kx1 (e 0) (e 1) (e 2) (e 7) H) (inK 0 (fun e H => kx0 H) (fun _ _ _ => False)))) (retK T Tryd.f51.results.toList Q) (fun c H => Q (.panicked c) H))
theorem cL51_8 (env : Env) (H : Heap) (kn : Value → Value → Value → Value → Heap → Prop) (kx1 : Value → Value → Value → Value → Heap → Prop) (kx0 : Heap → Prop) (Q : Ending → Heap → Prop) (h : L51_8 (env 0) (env 1) (env 2) (env 7) (env 8) H kn kx1 kx0 Q) :
    RCode Tryd.prog 40 (codeAt [1, 0, 1, 0, 0, 1, 0, 0, 1, 1] (bodyOf Tryd.f51)) env H (mkK (fun e H => kn (e 0) (e 1) (e 2) (e 7) H) (inK 1 (fun e H => kx1 (e 0) (e 1) (e 2) (e 7) H) (inK 0 (fun e H => kx0 H) (fun _ _ _ => False))) (retK T Tryd.f51.results.toList Q) (fun c H => Q (.panicked c) H)) :=
  RCode.blk (by kernel_rfl : (codeAt [1, 0, 1, 0, 0, 1, 0, 0, 1, 1] (bodyOf Tryd.f51)) = .block 2 (codeAt [1, 0, 1, 0, 0, 1, 0, 0, 1, 1, 0] (bodyOf Tryd.f51))) (RCode.lp (by kernel_rfl : (codeAt [1, 0, 1, 0, 0, 1, 0, 0, 1, 1, 0] (bodyOf Tryd.f51)) = .loop (codeAt [1, 0, 1, 0, 0, 1, 0, 0, 1, 1, 0, 0] (bodyOf Tryd.f51))) ((h env rfl rfl rfl rfl rfl).mono (mkK_mono (fun _ _ h => h.elim) (fun _ _ _ h => h) (fun _ _ h => h) (fun _ _ h => h))))
def m51_9 (x0 x1 x2 x7 x8 : Value) (H : Heap) (kn : Value → Value → Value → Value → Value → Heap → Prop) (kx2 : Value → Value → Value → Value → Heap → Prop) (kx1 : Value → Value → Value → Value → Heap → Prop) (kx0 : Heap → Prop) (Q : Ending → Heap → Prop) : Prop :=
oV (vIdxS 1 x1 x7) fun t25_2 =>
oV (vLoad ty52 t25_2 H) fun t26_3 =>
oV (vLen t26_3) fun t27_4 =>
oV (vInt .lss x8 t27_4) fun t28_5 =>
condK t28_5 (
oV (vIdxS 1 x1 x7) fun t33_6 =>
oV (vLoad ty52 t33_6 H) fun t34_7 =>
oV (vIdxS 1 t34_7 x8) fun t36_8 =>
oV (vLoad ty22 t36_8 H) fun t37_9 =>
oV (vInt .geq t37_9 x0) fun t39_10 =>
condK t39_10 (
Q (.returned (.bool false)) H) (
oV (vInt .add x8 (.int .i64 1)) fun t30_11 =>
kn x0 x1 x2 x7 t30_11 H)) (
kx2 x0 x1 x2 x7 H)
theorem c51_9 (env : Env) (H : Heap) (kn : Value → Value → Value → Value → Value → Heap → Prop) (kx2 : Value → Value → Value → Value → Heap → Prop) (kx1 : Value → Value → Value → Value → Heap → Prop) (kx0 : Heap → Prop) (Q : Ending → Heap → Prop) (h : m51_9 (env 0) (env 1) (env 2) (env 7) (env 8) H kn kx2 kx1 kx0 Q) :
    RCode Tryd.prog 40 (codeAt [1, 0, 1, 0, 0, 1, 0, 0, 1, 1, 0, 0] (bodyOf Tryd.f51)) env H (mkK (fun e H => kn (e 0) (e 1) (e 2) (e 7) (e 8) H) (inK 2 (fun e H => kx2 (e 0) (e 1) (e 2) (e 7) H) (inK 1 (fun e H => kx1 (e 0) (e 1) (e 2) (e 7) H) (inK 0 (fun e H => kx0 H) (fun _ _ _ => False)))) (retK T Tryd.f51.results.toList Q) (fun c H => Q (.panicked c) H)) :=
  RCode.leaf_ (T := T) (X := ext) (hint := hint51) tok xok mixed (by kernel_rfl) h
theorem L51_8_round (x0 x1 x2 x7 x8 : Value) (H : Heap) (kn : Value → Value → Value → Value → Heap → Prop) (kx1 : Value → Value → Value → Value → Heap → Prop) (kx0 : Heap → Prop) (Q : Ending → Heap → Prop) (h : m51_9 x0 x1 x2 x7 x8 H (fun y0 y1 y2 y7 y8 H => L51_8 y0 y1 y2 y7 y8 H kn kx1 kx0 Q) kn kx1 kx0 Q) : L51_8 x0 x1 x2 x7 x8 H kn kx1 kx0 Q := by
  intro env h0 h1 h2 h7 h8
  subst h0; subst h1; subst h2; subst h7; subst h8
  exact RLoop.round ((c51_9 env H (fun y0 y1 y2 y7 y8 H => L51_8 y0 y1 y2 y7 y8 H kn kx1 kx0 Q) kn kx1 kx0 Q h).mono (mkK_mono (fun e H h => h e rfl rfl rfl rfl rfl) (fun _ _ _ h => h) (fun _ _ h => h) (fun _ _ h => h)))
def m51_7 (x0 x1 x2 x7 : Value) (H : Heap) (kn : Value → Value → Value → Value → Heap → Prop) (kx1 : Value → Value → Value → Value → Heap → Prop) (kx0 : Heap → Prop) (Q : Ending → Heap → Prop) : Prop :=
oV (vIdxS 1 x1 x7) fun t17_12 =>
oV (vLoad ty52 t17_12 H) fun t18_13 =>
oV (vLen t18_13) fun t19_14 =>
oV (vInt .gtr t19_14 x2) fun t21_15 =>
condK t21_15 (
Q (.returned (.bool false)) H) (
L51_8 x0 x1 x2 x7 (.int .i64 0) H kn kx1 kx0 Q)
theorem c51_7 (env : Env) (H : Heap) (kn : Value → Value → Value → Value → Heap → Prop) (kx1 : Value → Value → Value → Value → Heap → Prop) (kx0 : Heap → Prop) (Q : Ending → Heap → Prop) (h : m51_7 (env 0) (env 1) (env 2) (env 7) H kn kx1 kx0 Q) :
    RCode Tryd.prog 40 (codeAt [1, 0, 1, 0, 0, 1, 0, 0] (bodyOf Tryd.f51)) env H (mkK (fun e H => kn (e 0) (e 1) (e 2) (e 7) H) (inK 1 (fun e H => kx1 (e 0) (e 1) (e 2) (e 7) H) (inK 0 (fun e H => kx0 H) (fun _ _ _ => False))) (retK T Tryd.f51.results.toList Q) (fun c H => Q (.panicked c) H)) :=
  RCode.prefix_ (T := T) (X := ext) (hint := hint51) (hole := (fun e H => L51_8 (e 0) (e 1) (e 2) (e 7) (e 8) H kn kx1 kx0 Q)) tok xok mixed 2 (by kernel_rfl) (by kernel_rfl : codeAt _ _ = (codeAt [1, 0, 1, 0, 0, 1, 0, 0, 1, 1] (bodyOf Tryd.f51))) h
    (fun e H h => (cL51_8 e H kn kx1 kx0 Q h))
def m51_6 (x0 x1 x2 x7 : Value) (H : Heap) (kn : Value → Value → Value → Value → Heap → Prop) (kx0 : Heap → Prop) (Q : Ending → Heap → Prop) : Prop :=
m51_7 x0 x1 x2 x7 H kn kn kx0 Q
theorem c51_6 (env : Env) (H : Heap) (kn : Value → Value → Value → Value → Heap → Prop) (kx0 : Heap → Prop) (Q : Ending → Heap → Prop) (h : m51_6 (env 0) (env 1) (env 2) (env 7) H kn kx0 Q) :
    RCode Tryd.prog 40 (codeAt [1, 0, 1, 0, 0, 1, 0] (bodyOf Tryd.f51)) env H (mkK (fun e H => kn (e 0) (e 1) (e 2) (e 7) H) (inK 0 (fun e H => kx0 H) (fun _ _ _ => False)) (retK T Tryd.f51.results.toList Q) (fun c H => Q (.panicked c) H)) :=
  RCode.blk (by kernel_rfl : (codeAt [1, 0, 1, 0, 0, 1, 0] (bodyOf Tryd.f51)) = .block 1 (codeAt [1, 0, 1, 0, 0, 1, 0, 0] (bodyOf Tryd.f51))) (c51_7 env H kn kn kx0 Q h)
def m51_4 (x0 x1 x2 x7 : Value) (H : Heap) (kn : Value → Value → Value → Value → Heap → Prop) (kx0 : Heap → Prop) (Q : Ending → Heap → Prop) : Prop :=
oV (vLen x1) fun t11_16 =>
oV (vInt .lss x7 t11_16) fun t12_17 =>
condK t12_17 (
m51_6 x0 x1 x2 x7 H (fun y0_18 y1_19 y2_20 y7_21 H_22 => m51_5 y0_18 y1_19 y2_20 y7_21 H_22 kn kx0 Q) kx0 Q) (
kx0 H)
theorem c51_4 (env : Env) (H : Heap) (kn : Value → Value → Value → Value → Heap → Prop) (kx0 : Heap → Prop) (Q : Ending → Heap → Prop) (h : m51_4 (env 0) (env 1) (env 2) (env 7) H kn kx0 Q) :
    RCode Tryd.prog 40 (codeAt [1, 0, 1, 0, 0] (bodyOf Tryd.f51)) env H (mkK (fun e H => kn (e 0) (e 1) (e 2) (e 7) H) (inK 0 (fun e H => kx0 H) (fun _ _ _ => False)) (retK T Tryd.f51.results.toList Q) (fun c H => Q (.panicked c) H)) :=
  RCode.prefix_ (T := T) (X := ext) (hint := hint51) (hole := (fun e H => m51_6 (e 0) (e 1) (e 2) (e 7) H (fun y0_23 y1_24 y2_25 y7_26 H_27 => m51_5 y0_23 y1_24 y2_25 y7_26 H_27 kn kx0 Q) kx0 Q)) tok xok mixed 1 (by kernel_rfl) (by kernel_rfl : codeAt _ _ = (codeAt [1, 0, 1, 0, 0, 1] (bodyOf Tryd.f51))) h
    (fun e H h => RCode.join (by kernel_rfl : (codeAt [1, 0, 1, 0, 0, 1] (bodyOf Tryd.f51)) = .seq (codeAt [1, 0, 1, 0, 0, 1, 0] (bodyOf Tryd.f51)) (codeAt [1, 0, 1, 0, 0, 1, 1] (bodyOf Tryd.f51))) ((c51_6 e H (fun y0_28 y1_29 y2_30 y7_31 H_32 => m51_5 y0_28 y1_29 y2_30 y7_31 H_32 kn kx0 Q) kx0 Q h).mono (mkK_mono (fun e H h => c51_5 e H kn kx0 Q h) (fun _ _ _ h => h) (fun _ _ h => h) (fun _ _ h => h))))
theorem L51_3_round (x0 x1 x2 x7 : Value) (H : Heap) (kn : Heap → Prop) (Q : Ending → Heap → Prop) (h : m51_4 x0 x1 x2 x7 H (fun y0 y1 y2 y7 H => L51_3 y0 y1 y2 y7 H kn Q) kn Q) : L51_3 x0 x1 x2 x7 H kn Q := by
  intro env h0 h1 h2 h7
  subst h0; subst h1; subst h2; subst h7
  exact RLoop.round ((c51_4 env H (fun y0 y1 y2 y7 H => L51_3 y0 y1 y2 y7 H kn Q) kn Q h).mono (mkK_mono (fun e H h => h e rfl rfl rfl rfl) (fun _ _ _ h => h) (fun _ _ h => h) (fun _ _ h => h)))
def m51_2 (x0 x1 x2 : Value) (H : Heap) (kn : Heap → Prop) (Q : Ending → Heap → Prop) : Prop :=
L51_3 x0 x1 x2 (.int .i64 0) H kn Q
theorem c51_2 (env : Env) (H : Heap) (kn : Heap → Prop) (Q : Ending → Heap → Prop) (h : m51_2 (env 0) (env 1) (env 2) H kn Q) :
    RCode Tryd.prog 40 (codeAt [1, 0] (bodyOf Tryd.f51)) env H (mkK (fun e H => kn H) (fun _ _ _ => False) (retK T Tryd.f51.results.toList Q) (fun c H => Q (.panicked c) H)) :=
  RCode.prefix_ (T := T) (X := ext) (hint := hint51) (hole := (fun e H => L51_3 (e 0) (e 1) (e 2) (e 7) H kn Q)) tok xok mixed 1 (by kernel_rfl) (by kernel_rfl : codeAt _ _ = (codeAt [1, 0, 1] (bodyOf Tryd.f51))) h
    (fun e H h => (cL51_3 e H kn Q h))
def m51 (x0 x1 x2 : Value) (H : Heap) (Q : Ending → Heap → Prop) : Prop :=
m51_2 x0 x1 x2 H (fun H_33 => m51_1 H_33 Q) Q
theorem c51_0 (env : Env) (H : Heap) (Q : Ending → Heap → Prop) (h : m51 (env 0) (env 1) (env 2) H Q) :
    RCode Tryd.prog 40 (bodyOf Tryd.f51) env H (mkK (retK T Tryd.f51.results.toList Q) (fun _ _ _ => False) (retK T Tryd.f51.results.toList Q) (fun c H => Q (.panicked c) H)) :=
  RCode.prefix_ (T := T) (X := ext) (hint := hint51) (hole := (fun e H => m51_2 (e 0) (e 1) (e 2) H (fun H_34 => m51_1 H_34 Q) Q)) tok xok mixed 1 (by kernel_rfl) (by kernel_rfl : codeAt _ _ = (codeAt [1] (bodyOf Tryd.f51))) h
    (fun e H h => RCode.join (by kernel_rfl : (codeAt [1] (bodyOf Tryd.f51)) = .seq (codeAt [1, 0] (bodyOf Tryd.f51)) (codeAt [1, 1] (bodyOf Tryd.f51))) ((c51_2 e H (fun H_35 => m51_1 H_35 Q) Q h).mono (mkK_mono (fun e H h => c51_1 e H Q h) (fun _ _ _ h => h) (fun _ _ h => h) (fun _ _ h => h))))
theorem call51 (a0 a1 a2 : Value) (H : Heap) (Q : Ending → Heap → Prop) (h : m51 a0 a1 a2 H Q) : RCalls Tryd.prog 51 [a0, a1, a2] H Q :=
  RCalls.intro (nt := 40) tok Tryd.func51 (by kernel_rfl) (by kernel_rfl) (by kernel_rfl) (of_decide_eq_true (by kernel_rfl)) (c51_0 (envOf [a0, a1, a2]) H Q h)
/-! ### 11: privity/privitylaw14.fair -/
def hint11 : Nat → List Nat := lookupL [(6, [0, 1, 2, 3, 4, 5, 6, 7, 8, 9, 10, 11]), (11, [0, 1, 2, 3, 4, 5, 6, 7, 8, 9, 10, 11, 12, 13, 14, 15, 16, 17, 18, 19, 20, 21, 22, 23, 24, 25, 26, 27, 28, 29, 30, 31])]
def m11_1 (H : Heap) (Q : Ending → Heap → Prop) : Prop :=
Q (.returned (.bool true)) H
theorem c11_1 (env : Env) (H : Heap) (Q : Ending → Heap → Prop) (h : m11_1 H Q) :
    RCode Tryd.prog 77 (codeAt [1, 1, 1] (bodyOf Tryd.f11)) env H (mkK (retK T Tryd.f11.results.toList Q) (fun _ _ _ => False) (retK T Tryd.f11.results.toList Q) (fun c H => Q (.panicked c) H)) :=
  RCode.leaf_ (T := T) (X := ext) (hint := hint11) tok xok mixed (by kernel_rfl) h
def L11_3 (x1 x3 : Value) (H : Heap) (kn : Heap → Prop) (Q : Ending → Heap → Prop) : Prop :=
  ∀ env : Env, env 1 = x1 → env 3 = x3 → RLoop Tryd.prog 77 (codeAt [1, 1, 0, 1, 0, 0] (bodyOf Tryd.f11)) env H (mkK (fun _ _ => False) (inK 0 (fun e H => kn H) (fun _ _ _ => False)) (retK T Tryd.f11.results.toList Q) (fun c H => Q (.panicked c) H))
theorem cL11_3 (env : Env) (H : Heap) (kn : Heap → Prop) (Q : Ending → Heap → Prop) (h : L11_3 (env 1) (env 3) H kn Q) :
    RCode Tryd.prog 77 (codeAt [1, 1, 0, 1] (bodyOf Tryd.f11)) env H (mkK (fun e H => kn H) (fun _ _ _ => False) (retK T Tryd.f11.results.toList Q) (fun c H => Q (.panicked c) H)) :=
  RCode.blk (by kernel_rfl : (codeAt [1, 1, 0, 1] (bodyOf Tryd.f11)) = .block 0 (codeAt [1, 1, 0, 1, 0] (bodyOf Tryd.f11))) (RCode.lp (by kernel_rfl : (codeAt [1, 1, 0, 1, 0] (bodyOf Tryd.f11)) = .loop (codeAt [1, 1, 0, 1, 0, 0] (bodyOf Tryd.f11))) ((h env rfl rfl).mono (mkK_mono (fun _ _ h => h.elim) (fun _ _ _ h => h) (fun _ _ h => h) (fun _ _ h => h))))
def m11_5 (x1 x3 : Value) (H : Heap) (kn : Value → Value → Heap → Prop) (kx0 : Heap → Prop) (Q : Ending → Heap → Prop) : Prop :=
oV (vInt .add x3 (.int .i64 1)) fun t21_1 =>
kn x1 t21_1 H
theorem c11_5 (env : Env) (H : Heap) (kn : Value → Value → Heap → Prop) (kx0 : Heap → Prop) (Q : Ending → Heap → Prop) (h : m11_5 (env 1) (env 3) H kn kx0 Q) :
    RCode Tryd.prog 77 (codeAt [1, 1, 0, 1, 0, 0, 1, 1] (bodyOf Tryd.f11)) env H (mkK (fun e H => kn (e 1) (e 3) H) (inK 0 (fun e H => kx0 H) (fun _ _ _ => False)) (retK T Tryd.f11.results.toList Q) (fun c H => Q (.panicked c) H)) :=
  RCode.leaf_ (T := T) (X := ext) (hint := hint11) tok xok mixed (by kernel_rfl) h
def L11_8 (x1 x3 x4 : Value) (H : Heap) (kn : Value → Value → Heap → Prop) (kx1 : Value → Value → Heap → Prop) (kx0 : Heap → Prop) (Q : Ending → Heap → Prop) : Prop :=
  ∀ env : Env, env 1 = x1 → env 3 = x3 → env 4 = x4 → RLoop Tryd.prog 77 (codeAt [1, 1, 0, 1, 0, 0, 1, 0, 0, 1, 1, 0, 0] (bodyOf Tryd.f11)) env H (mkK (fun _ _ => False) (inK 2 (fun e H => kn (e 1) (e 3) H) (inK 1 (fun e H => kx1 (e 1) (e 3) H) (inK 0 (fun e H => kx0 H) (fun _ _ _ => False)))) (retK T Tryd.f11.results.toList Q) (fun c H => Q (.panicked c) H))
theorem cL11_8 (env : Env) (H : Heap) (kn : Value → Value → Heap → Prop) (kx1 : Value → Value → Heap → Prop) (kx0 : Heap → Prop) (Q : Ending → Heap → Prop) (h : L11_8 (env 1) (env 3) (env 4) H kn kx1 kx0 Q) :
    RCode Tryd.prog 77 (codeAt [1, 1, 0, 1, 0, 0, 1, 0, 0, 1, 1] (bodyOf Tryd.f11)) env H (mkK (fun e H => kn (e 1) (e 3) H) (inK 1 (fun e H => kx1 (e 1) (e 3) H) (inK 0 (fun e H => kx0 H) (fun _ _ _ => False))) (retK T Tryd.f11.results.toList Q) (fun c H => Q (.panicked c) H)) :=
  RCode.blk (by kernel_rfl : (codeAt [1, 1, 0, 1, 0, 0, 1, 0, 0, 1, 1] (bodyOf Tryd.f11)) = .block 2 (codeAt [1, 1, 0, 1, 0, 0, 1, 0, 0, 1, 1, 0] (bodyOf Tryd.f11))) (RCode.lp (by kernel_rfl : (codeAt [1, 1, 0, 1, 0, 0, 1, 0, 0, 1, 1, 0] (bodyOf Tryd.f11)) = .loop (codeAt [1, 1, 0, 1, 0, 0, 1, 0, 0, 1, 1, 0, 0] (bodyOf Tryd.f11))) ((h env rfl rfl rfl).mono (mkK_mono (fun _ _ h => h.elim) (fun _ _ _ h => h) (fun _ _ h => h) (fun _ _ h => h))))
def m11_9 (x1 x3 x4 : Value) (H : Heap) (kn : Value → Value → Value → Heap → Prop) (kx2 : Value → Value → Heap → Prop) (kx1 : Value → Value → Heap → Prop) (kx0 : Heap → Prop) (Q : Ending → Heap → Prop) : Prop :=
oV (vField 6 x1) fun t35_2 =>
oV (vLoad ty30 t35_2 H) fun t36_3 =>
oV (vIdxS 2 t36_3 x3) fun t38_4 =>
oV (vField 1 t38_4) fun t39_5 =>
oV (vLoad ty44 t39_5 H) fun t40_6 =>
oV (vLen t40_6) fun t41_7 =>
oV (vInt .lss x4 t41_7) fun t42_8 =>
condK t42_8 (
oV (vField 6 x1) fun t45_9 =>
oV (vLoad ty30 t45_9 H) fun t46_10 =>
oV (vIdxS 2 t46_10 x3) fun t48_11 =>
oV (vField 1 t48_11) fun t49_12 =>
oV (vLoad ty44 t49_12 H) fun t50_13 =>
oV (vIdxS 1 t50_13 x4) fun t52_14 =>
oV (vLoad ty27 t52_14 H) fun t53_15 =>
oV (vLen t53_15) fun t54_16 =>
oV (vField 0 x1) fun t55_17 =>
oV (vField 0 t55_17) fun t56_18 =>
oV (vField 1 t56_18) fun t57_19 =>
oV (vLoad ty3 t57_19 H) fun t58_20 =>
oV (vInt .neq t54_16 t58_20) fun t59_21 =>
oV (gV t59_21 false (vField 0 x1) (some undef)) fun t61_22 =>
oV (gV t59_21 false (vField 0 t61_22) (some undef)) fun t62_23 =>
oV (gV t59_21 false (vField 0 t62_23) (some undef)) fun t63_24 =>
oV (gV t59_21 false (vLoad ty22 t63_24 H) (some undef)) fun t64_25 =>
oV (gV t59_21 false (vField 6 x1) (some undef)) fun t65_26 =>
oV (gV t59_21 false (vLoad ty30 t65_26 H) (some undef)) fun t66_27 =>
oV (gV t59_21 false (some x3) (some undef)) fun t67_28 =>
oV (gV t59_21 false (vIdxS 2 t66_27 t67_28) (some undef)) fun t68_29 =>
oV (gV t59_21 false (vField 1 t68_29) (some undef)) fun t69_30 =>
oV (gV t59_21 false (vLoad ty44 t69_30 H) (some undef)) fun t70_31 =>
oV (gV t59_21 false (some x4) (some undef)) fun t71_32 =>
oV (gV t59_21 false (vIdxS 1 t70_31 t71_32) (some undef)) fun t72_33 =>
oV (gV t59_21 false (vLoad ty27 t72_33 H) (some undef)) fun t73_34 =>
letK (fun t74_36 H_37 =>
oV (gV t59_21 false (vUn .not t74_36) (some undef)) fun t75_38 =>
oV (vPick t59_21 (.bool true) t75_38) fun t76_39 =>
condK t76_39 (
Q (.returned (.bool false)) H_37) (
oV (vInt .add x4 (.int .i64 1)) fun t44_40 =>
kn x1 x3 t44_40 H_37)) fun k_35 => gK t59_21 false (oRC Tryd.prog 51 [t64_25, t73_34, (.int .i64 8)] H noP fun v_41 H_42 =>
k_35 v_41 H_42) (k_35 undef H)) (
kx2 x1 x3 H)
theorem c11_9 (env : Env) (H : Heap) (kn : Value → Value → Value → Heap → Prop) (kx2 : Value → Value → Heap → Prop) (kx1 : Value → Value → Heap → Prop) (kx0 : Heap → Prop) (Q : Ending → Heap → Prop) (h : m11_9 (env 1) (env 3) (env 4) H kn kx2 kx1 kx0 Q) :
    RCode Tryd.prog 77 (codeAt [1, 1, 0, 1, 0, 0, 1, 0, 0, 1, 1, 0, 0] (bodyOf Tryd.f11)) env H (mkK (fun e H => kn (e 1) (e 3) (e 4) H) (inK 2 (fun e H => kx2 (e 1) (e 3) H) (inK 1 (fun e H => kx1 (e 1) (e 3) H) (inK 0 (fun e H => kx0 H) (fun _ _ _ => False)))) (retK T Tryd.f11.results.toList Q) (fun c H => Q (.panicked c) H)) :=
  RCode.leaf_ (T := T) (X := ext) (hint := hint11) tok xok mixed (by kernel_rfl) h
theorem L11_8_round (x1 x3 x4 : Value) (H : Heap) (kn : Value → Value → Heap → Prop) (kx1 : Value → Value → Heap → Prop) (kx0 : Heap → Prop) (Q : Ending → Heap → Prop) (h : m11_9 x1 x3 x4 H (fun y1 y3 y4 H => L11_8 y1 y3 y4 H kn kx1 kx0 Q) kn kx1 kx0 Q) : L11_8 x1 x3 x4 H kn kx1 kx0 Q := by
  intro env h1 h3 h4
  subst h1; subst h3; subst h4
  exact RLoop.round ((c11_9 env H (fun y1 y3 y4 H => L11_8 y1 y3 y4 H kn kx1 kx0 Q) kn kx1 kx0 Q h).mono (mkK_mono (fun e H h => h e rfl rfl rfl) (fun _ _ _ h => h) (fun _ _ h => h) (fun _ _ h => h)))
def m11_7 (x1 x3 : Value) (H : Heap) (kn : Value → Value → Heap → Prop) (kx1 : Value → Value → Heap → Prop) (kx0 : Heap → Prop) (Q : Ending → Heap → Prop) : Prop :=
oV (vField 6 x1) fun t22_43 =>
oV (vLoad ty30 t22_43 H) fun t23_44 =>
oV (vIdxS 2 t23_44 x3) fun t25_45 =>
oV (vField 1 t25_45) fun t26_46 =>
oV (vLoad ty44 t26_46 H) fun t27_47 =>
oV (vLen t27_47) fun t28_48 =>
oV (vField 0 x1) fun t29_49 =>
oV (vField 0 t29_49) fun t30_50 =>
oV (vField 1 t30_50) fun t31_51 =>
oV (vLoad ty3 t31_51 H) fun t32_52 =>
oV (vInt .neq t28_48 t32_52) fun t33_53 =>
condK t33_53 (
Q (.returned (.bool false)) H) (
L11_8 x1 x3 (.int .i64 0) H kn kx1 kx0 Q)
theorem c11_7 (env : Env) (H : Heap) (kn : Value → Value → Heap → Prop) (kx1 : Value → Value → Heap → Prop) (kx0 : Heap → Prop) (Q : Ending → Heap → Prop) (h : m11_7 (env 1) (env 3) H kn kx1 kx0 Q) :
    RCode Tryd.prog 77 (codeAt [1, 1, 0, 1, 0, 0, 1, 0, 0] (bodyOf Tryd.f11)) env H (mkK (fun e H => kn (e 1) (e 3) H) (inK 1 (fun e H => kx1 (e 1) (e 3) H) (inK 0 (fun e H => kx0 H) (fun _ _ _ => False))) (retK T Tryd.f11.results.toList Q) (fun c H => Q (.panicked c) H)) :=
  RCode.prefix_ (T := T) (X := ext) (hint := hint11) (hole := (fun e H => L11_8 (e 1) (e 3) (e 4) H kn kx1 kx0 Q)) tok xok mixed 2 (by kernel_rfl) (by kernel_rfl : codeAt _ _ = (codeAt [1, 1, 0, 1, 0, 0, 1, 0, 0, 1, 1] (bodyOf Tryd.f11))) h
    (fun e H h => (cL11_8 e H kn kx1 kx0 Q h))
def m11_6 (x1 x3 : Value) (H : Heap) (kn : Value → Value → Heap → Prop) (kx0 : Heap → Prop) (Q : Ending → Heap → Prop) : Prop :=
m11_7 x1 x3 H kn kn kx0 Q
theorem c11_6 (env : Env) (H : Heap) (kn : Value → Value → Heap → Prop) (kx0 : Heap → Prop) (Q : Ending → Heap → Prop) (h : m11_6 (env 1) (env 3) H kn kx0 Q) :
    RCode Tryd.prog 77 (codeAt [1, 1, 0, 1, 0, 0, 1, 0] (bodyOf Tryd.f11)) env H (mkK (fun e H => kn (e 1) (e 3) H) (inK 0 (fun e H => kx0 H) (fun _ _ _ => False)) (retK T Tryd.f11.results.toList Q) (fun c H => Q (.panicked c) H)) :=
  RCode.blk (by kernel_rfl : (codeAt [1, 1, 0, 1, 0, 0, 1, 0] (bodyOf Tryd.f11)) = .block 1 (codeAt [1, 1, 0, 1, 0, 0, 1, 0, 0] (bodyOf Tryd.f11))) (c11_7 env H kn kn kx0 Q h)
def m11_4 (x1 x3 : Value) (H : Heap) (kn : Value → Value → Heap → Prop) (kx0 : Heap → Prop) (Q : Ending → Heap → Prop) : Prop :=
oV (vField 6 x1) fun t16_54 =>
oV (vLoad ty30 t16_54 H) fun t17_55 =>
oV (vLen t17_55) fun t18_56 =>
oV (vInt .lss x3 t18_56) fun t19_57 =>
condK t19_57 (
m11_6 x1 x3 H (fun y1_58 y3_59 H_60 => m11_5 y1_58 y3_59 H_60 kn kx0 Q) kx0 Q) (
kx0 H)
theorem c11_4 (env : Env) (H : Heap) (kn : Value → Value → Heap → Prop) (kx0 : Heap → Prop) (Q : Ending → Heap → Prop) (h : m11_4 (env 1) (env 3) H kn kx0 Q) :
    RCode Tryd.prog 77 (codeAt [1, 1, 0, 1, 0, 0] (bodyOf Tryd.f11)) env H (mkK (fun e H => kn (e 1) (e 3) H) (inK 0 (fun e H => kx0 H) (fun _ _ _ => False)) (retK T Tryd.f11.results.toList Q) (fun c H => Q (.panicked c) H)) :=
  RCode.prefix_ (T := T) (X := ext) (hint := hint11) (hole := (fun e H => m11_6 (e 1) (e 3) H (fun y1_61 y3_62 H_63 => m11_5 y1_61 y3_62 H_63 kn kx0 Q) kx0 Q)) tok xok mixed 1 (by kernel_rfl) (by kernel_rfl : codeAt _ _ = (codeAt [1, 1, 0, 1, 0, 0, 1] (bodyOf Tryd.f11))) h
    (fun e H h => RCode.join (by kernel_rfl : (codeAt [1, 1, 0, 1, 0, 0, 1] (bodyOf Tryd.f11)) = .seq (codeAt [1, 1, 0, 1, 0, 0, 1, 0] (bodyOf Tryd.f11)) (codeAt [1, 1, 0, 1, 0, 0, 1, 1] (bodyOf Tryd.f11))) ((c11_6 e H (fun y1_64 y3_65 H_66 => m11_5 y1_64 y3_65 H_66 kn kx0 Q) kx0 Q h).mono (mkK_mono (fun e H h => c11_5 e H kn kx0 Q h) (fun _ _ _ h => h) (fun _ _ h => h) (fun _ _ h => h))))
theorem L11_3_round (x1 x3 : Value) (H : Heap) (kn : Heap → Prop) (Q : Ending → Heap → Prop) (h : m11_4 x1 x3 H (fun y1 y3 H => L11_3 y1 y3 H kn Q) kn Q) : L11_3 x1 x3 H kn Q := by
  intro env h1 h3
  subst h1; subst h3
  exact RLoop.round ((c11_4 env H (fun y1 y3 H => L11_3 y1 y3 H kn Q) kn Q h).mono (mkK_mono (fun e H h => h e rfl rfl) (fun _ _ _ h => h) (fun _ _ h => h) (fun _ _ h => h)))
def m11_2 (x1 : Value) (H : Heap) (kn : Heap → Prop) (Q : Ending → Heap → Prop) : Prop :=
L11_3 x1 (.int .i64 0) H kn Q
theorem c11_2 (env : Env) (H : Heap) (kn : Heap → Prop) (Q : Ending → Heap → Prop) (h : m11_2 (env 1) H kn Q) :
    RCode Tryd.prog 77 (codeAt [1, 1, 0] (bodyOf Tryd.f11)) env H (mkK (fun e H => kn H) (fun _ _ _ => False) (retK T Tryd.f11.results.toList Q) (fun c H => Q (.panicked c) H)) :=
  RCode.prefix_ (T := T) (X := ext) (hint := hint11) (hole := (fun e H => L11_3 (e 1) (e 3) H kn Q)) tok xok mixed 1 (by kernel_rfl) (by kernel_rfl : codeAt _ _ = (codeAt [1, 1, 0, 1] (bodyOf Tryd.f11))) h
    (fun e H h => (cL11_3 e H kn Q h))
def m11 (x0 : Value) (H : Heap) (Q : Ending → Heap → Prop) : Prop :=
oNew (Value.cells x0).toList (Value.cells x0).toList.length 32 H fun i_67 H_68 =>
oV (vField 0 (ptrTo i_67)) fun t5_69 =>
oV (vLoad ty29 t5_69 H_68) fun t6_70 =>
oRC Tryd.prog 50 [t6_70, (.int .i64 8), (.int .i64 20)] H_68 (fun c H => Q (.panicked c) H) fun v_71 H_72 =>
oV (vUn .not v_71) fun t8_73 =>
oV (gV t8_73 false (vField 6 (ptrTo i_67)) (some undef)) fun t10_74 =>
oV (gV t8_73 false (vLoad ty30 t10_74 H_72) (some undef)) fun t11_75 =>
oV (gV t8_73 false (vLen t11_75) (some undef)) fun t12_76 =>
oV (gV t8_73 false (vInt .gtr t12_76 (.int .i64 5)) (some undef)) fun t13_77 =>
oV (vPick t8_73 (.bool true) t13_77) fun t14_78 =>
condK t14_78 (
Q (.returned (.bool false)) H_72) (
m11_2 (ptrTo i_67) H_72 (fun H_79 => m11_1 H_79 Q) Q)
theorem c11_0 (env : Env) (H : Heap) (Q : Ending → Heap → Prop) (h : m11 (env 0) H Q) :
    RCode Tryd.prog 77 (bodyOf Tryd.f11) env H (mkK (retK T Tryd.f11.results.toList Q) (fun _ _ _ => False) (retK T Tryd.f11.results.toList Q) (fun c H => Q (.panicked c) H)) :=
  RCode.prefix_ (T := T) (X := ext) (hint := hint11) (hole := (fun e H => m11_2 (e 1) H (fun H_80 => m11_1 H_80 Q) Q)) tok xok mixed 2 (by kernel_rfl) (by kernel_rfl : codeAt _ _ = (codeAt [1, 1] (bodyOf Tryd.f11))) h
    (fun e H h => RCode.join (by kernel_rfl : (codeAt [1, 1] (bodyOf Tryd.f11)) = .seq (codeAt [1, 1, 0] (bodyOf Tryd.f11)) (codeAt [1, 1, 1] (bodyOf Tryd.f11))) ((c11_2 e H (fun H_81 => m11_1 H_81 Q) Q h).mono (mkK_mono (fun e H h => c11_1 e H Q h) (fun _ _ _ h => h) (fun _ _ h => h) (fun _ _ h => h))))
theorem call11 (a0 : Value) (H : Heap) (Q : Ending → Heap → Prop) (h : m11 a0 H Q) : RCalls Tryd.prog 11 [a0] H Q :=
  RCalls.intro (nt := 77) tok Tryd.func11 (by kernel_rfl) (by kernel_rfl) (by kernel_rfl) (of_decide_eq_true (by kernel_rfl)) (c11_0 (envOf [a0]) H Q h)
/-! ### 55: privity/privityref11.New -/
def hint55 : Nat → List Nat := lookupL []
def m55 (x0 : Value) (H : Heap) (Q : Ending → Heap → Prop) : Prop :=
oBuildS ty22 22 0 [] H fun s_1 H_2 =>
oAppend ty22 22 s_1 x0 H_2 fun v_3 H_4 =>
oV (vBuild ty139 [((0, 1), v_3)]) fun t6_5 =>
oNew (Value.cells t6_5).toList (Value.cells t6_5).toList.length 139 H_4 fun i_6 H_7 =>
Q (.returned (ptrTo i_6)) H_7
theorem c55_0 (env : Env) (H : Heap) (Q : Ending → Heap → Prop) (h : m55 (env 0) H Q) :
    RCode Tryd.prog 8 (bodyOf Tryd.f55) env H (mkK (retK T Tryd.f55.results.toList Q) (fun _ _ _ => False) (retK T Tryd.f55.results.toList Q) (fun c H => Q (.panicked c) H)) :=
  RCode.leaf_ (T := T) (X := ext) (hint := hint55) tok xok mixed (by kernel_rfl) h
theorem call55 (a0 : Value) (H : Heap) (Q : Ending → Heap → Prop) (h : m55 a0 H Q) : RCalls Tryd.prog 55 [a0] H Q :=
  RCalls.intro (nt := 8) tok Tryd.func55 (by kernel_rfl) (by kernel_rfl) (by kernel_rfl) (of_decide_eq_true (by kernel_rfl)) (c55_0 (envOf [a0]) H Q h)
/-! ### 13: privity/privityref14.New -/
def hint13 : Nat → List Nat := lookupL [(3, [0, 1, 2, 3, 4, 5, 6, 7]), (7, [0, 1, 2, 3, 4, 5, 6, 7, 8, 9, 10, 11, 12, 13, 14, 15])]
def m13_1 (x4 : Value) (H : Heap) (Q : Ending → Heap → Prop) : Prop :=
Q (.returned (.tuple #[x4, (.int .i64 0)])) H
theorem c13_1 (env : Env) (H : Heap) (Q : Ending → Heap → Prop) (h : m13_1 (env 4) H Q) :
    RCode Tryd.prog 39 (codeAt [1, 1, 1, 1] (bodyOf Tryd.f13)) env H (mkK (retK T Tryd.f13.results.toList Q) (fun _ _ _ => False) (retK T Tryd.f13.results.toList Q) (fun c H => Q (.panicked c) H)) :=
  RCode.leaf_ (T := T) (X := ext) (hint := hint13) tok xok mixed (by kernel_rfl) h
def L13_3 (x1 x4 x5 : Value) (H : Heap) (kn : Value → Heap → Prop) (Q : Ending → Heap → Prop) : Prop :=
  ∀ env : Env, env 1 = x1 → env 4 = x4 → env 5 = x5 → RLoop Tryd.prog 39 (codeAt [1, 1, 1, 0, 1, 0, 0] (bodyOf Tryd.f13)) env H (mkK (fun _ _ => False) (inK 0 (fun e H => kn (e 4) H) (fun _ _ _ => False)) (retK T Tryd.f13.results.toList Q) (fun c H => Q (.panicked c) H))
theorem cL13_3 (env : Env) (H : Heap) (kn : Value → Heap → Prop) (Q : Ending → Heap → Prop) (h : L13_3 (env 1) (env 4) (env 5) H kn Q) :
    RCode Tryd.prog 39 (codeAt [1, 1, 1, 0, 1] (bodyOf Tryd.f13)) env H (mkK (fun e H => kn (e 4) H) (fun _ _ _ => False) (retK T Tryd.f13.results.toList Q) (fun c H => Q (.panicked c) H)) :=
  RCode.blk (by kernel_rfl : (codeAt [1, 1, 1, 0, 1] (bodyOf Tryd.f13)) = .block 0 (codeAt [1, 1, 1, 0, 1, 0] (bodyOf Tryd.f13))) (RCode.lp (by kernel_rfl : (codeAt [1, 1, 1, 0, 1, 0] (bodyOf Tryd.f13)) = .loop (codeAt [1, 1, 1, 0, 1, 0, 0] (bodyOf Tryd.f13))) ((h env rfl rfl rfl).mono (mkK_mono (fun _ _ h => h.elim) (fun _ _ _ h => h) (fun _ _ h => h) (fun _ _ h => h))))
def m13_4 (x1 x4 x5 : Value) (H : Heap) (kn : Value → Value → Value → Heap → Prop) (kx0 : Value → Heap → Prop) (Q : Ending → Heap → Prop) : Prop :=
oV (vField 0 x1) fun t17_1 =>
oV (vField 1 t17_1) fun t18_2 =>
oV (vLoad ty3 t18_2 H) fun t19_3 =>
oV (vInt .lss x5 t19_3) fun t20_4 =>
condK t20_4 (
oV (vNil x4) fun t25_5 =>
oV (vField 8 t25_5) fun t26_6 =>
oV (vLoad ty101 t26_6 H) fun t27_7 =>
oV (vField 5 x1) fun t28_8 =>
oV (vLoad ty27 t28_8 H) fun t29_9 =>
oV (vIdxS 1 t29_9 x5) fun t31_10 =>
oV (vLoad ty52 t31_10 H) fun t32_11 =>
oRC Tryd.prog 55 [t32_11] H noP fun v_12 H_13 =>
(vLoad ty101 t26_6 H_13 = some t27_7 ∧
oBuildS ty104 104 1 [((0, 1), v_12)] H_13 fun s_14 H_15 =>
oAppend ty104 104 t27_7 s_14 H_15 fun v_16 H_17 =>
oV (vNil x4) fun t36_18 =>
oV (vField 8 t36_18) fun t37_19 =>
oHeap (vStore ty101 t37_19 v_16 H_17) fun H_20 =>
oV (vInt .add x5 (.int .i64 1)) fun t22_21 =>
kn x1 x4 t22_21 H_20)) (
kx0 x4 H)
theorem c13_4 (env : Env) (H : Heap) (kn : Value → Value → Value → Heap → Prop) (kx0 : Value → Heap → Prop) (Q : Ending → Heap → Prop) (h : m13_4 (env 1) (env 4) (env 5) H kn kx0 Q) :
    RCode Tryd.prog 39 (codeAt [1, 1, 1, 0, 1, 0, 0] (bodyOf Tryd.f13)) env H (mkK (fun e H => kn (e 1) (e 4) (e 5) H) (inK 0 (fun e H => kx0 (e 4) H) (fun _ _ _ => False)) (retK T Tryd.f13.results.toList Q) (fun c H => Q (.panicked c) H)) :=
  RCode.leaf_ (T := T) (X := ext) (hint := hint13) tok xok mixed (by kernel_rfl) h
theorem L13_3_round (x1 x4 x5 : Value) (H : Heap) (kn : Value → Heap → Prop) (Q : Ending → Heap → Prop) (h : m13_4 x1 x4 x5 H (fun y1 y4 y5 H => L13_3 y1 y4 y5 H kn Q) kn Q) : L13_3 x1 x4 x5 H kn Q := by
  intro env h1 h4 h5
  subst h1; subst h4; subst h5
  exact RLoop.round ((c13_4 env H (fun y1 y4 y5 H => L13_3 y1 y4 y5 H kn Q) kn Q h).mono (mkK_mono (fun e H h => h e rfl rfl rfl) (fun _ _ _ h => h) (fun _ _ h => h) (fun _ _ h => h)))
def m13_2 (x1 x4 : Value) (H : Heap) (kn : Value → Heap → Prop) (Q : Ending → Heap → Prop) : Prop :=
L13_3 x1 x4 (.int .i64 0) H kn Q
theorem c13_2 (env : Env) (H : Heap) (kn : Value → Heap → Prop) (Q : Ending → Heap → Prop) (h : m13_2 (env 1) (env 4) H kn Q) :
    RCode Tryd.prog 39 (codeAt [1, 1, 1, 0] (bodyOf Tryd.f13)) env H (mkK (fun e H => kn (e 4) H) (fun _ _ _ => False) (retK T Tryd.f13.results.toList Q) (fun c H => Q (.panicked c) H)) :=
  RCode.prefix_ (T := T) (X := ext) (hint := hint13) (hole := (fun e H => L13_3 (e 1) (e 4) (e 5) H kn Q)) tok xok mixed 1 (by kernel_rfl) (by kernel_rfl : codeAt _ _ = (codeAt [1, 1, 1, 0, 1] (bodyOf Tryd.f13))) h
    (fun e H h => (cL13_3 e H kn Q h))
def m13 (x0 : Value) (H : Heap) (Q : Ending → Heap → Prop) : Prop :=
oNew (Value.cells x0).toList (Value.cells x0).toList.length 29 H fun i_22 H_23 =>
oV (vLoad ty29 (ptrTo i_22) H_23) fun t6_24 =>
oRC Tryd.prog 54 [t6_24] H_23 (fun c H => Q (.panicked c) H) fun v_25 H_26 =>
oV (vUn .not v_25) fun t8_27 =>
condK t8_27 (
Q (.returned (.tuple #[(.pointer none), (.int .i64 1)])) H_26) (
oV (vLoad ty29 (ptrTo i_22) H_26) fun t9_28 =>
oV (vField 0 (ptrTo i_22)) fun t10_29 =>
oV (vField 1 t10_29) fun t11_30 =>
oV (vLoad ty3 t11_30 H_26) fun t12_31 =>
oMake ty49 49 t12_31 t12_31 H_26 fun s_32 H_33 =>
oV (vBuild ty103 [((0, 6), t9_28), ((7, 1), s_32)]) fun t14_34 =>
oNew (Value.cells t14_34).toList (Value.cells t14_34).toList.length 103 H_33 fun i_35 H_36 =>
m13_2 (ptrTo i_22) (ptrTo i_35) H_36 (fun y4_37 H_38 => m13_1 y4_37 H_38 Q) Q)
theorem c13_0 (env : Env) (H : Heap) (Q : Ending → Heap → Prop) (h : m13 (env 0) H Q) :
    RCode Tryd.prog 39 (bodyOf Tryd.f13) env H (mkK (retK T Tryd.f13.results.toList Q) (fun _ _ _ => False) (retK T Tryd.f13.results.toList Q) (fun c H => Q (.panicked c) H)) :=
  RCode.prefix_ (T := T) (X := ext) (hint := hint13) (hole := (fun e H => m13_2 (e 1) (e 4) H (fun y4_39 H_40 => m13_1 y4_39 H_40 Q) Q)) tok xok mixed 3 (by kernel_rfl) (by kernel_rfl : codeAt _ _ = (codeAt [1, 1, 1] (bodyOf Tryd.f13))) h
    (fun e H h => RCode.join (by kernel_rfl : (codeAt [1, 1, 1] (bodyOf Tryd.f13)) = .seq (codeAt [1, 1, 1, 0] (bodyOf Tryd.f13)) (codeAt [1, 1, 1, 1] (bodyOf Tryd.f13))) ((c13_2 e H (fun y4_41 H_42 => m13_1 y4_41 H_42 Q) Q h).mono (mkK_mono (fun e H h => c13_1 e H Q h) (fun _ _ _ h => h) (fun _ _ h => h) (fun _ _ h => h))))
theorem call13 (a0 : Value) (H : Heap) (Q : Ending → Heap → Prop) (h : m13 a0 H Q) : RCalls Tryd.prog 13 [a0] H Q :=
  RCalls.intro (nt := 39) tok Tryd.func13 (by kernel_rfl) (by kernel_rfl) (by kernel_rfl) (of_decide_eq_true (by kernel_rfl)) (c13_0 (envOf [a0]) H Q h)
/-! ### 57: privity/privitylaw14.broadcasts -/
def hint57 : Nat → List Nat := lookupL []
def m57_1 (x3 : Value) (H : Heap) (Q : Ending → Heap → Prop) : Prop :=
Q (.returned x3) H
theorem c57_1 (env : Env) (H : Heap) (Q : Ending → Heap → Prop) (h : m57_1 (env 3) H Q) :
    RCode Tryd.prog 21 (codeAt [1, 1, 1] (bodyOf Tryd.f57)) env H (mkK (retK T Tryd.f57.results.toList Q) (fun _ _ _ => False) (retK T Tryd.f57.results.toList Q) (fun c H => Q (.panicked c) H)) :=
  RCode.leaf_ (T := T) (X := ext) (hint := hint57) tok xok mixed (by kernel_rfl) h
def L57_3 (x0 x3 x4 : Value) (H : Heap) (kn : Value → Heap → Prop) (Q : Ending → Heap → Prop) : Prop :=
  ∀ env : Env, env 0 = x0 → env 3 = x3 → env 4 = x4 → RLoop Tryd.prog 21 (codeAt [1, 1, 0, 1, 0, 0] (bodyOf Tryd.f57)) env H (mkK (fun _ _ => False) (inK 0 (fun e H => kn (e 3) H) (fun _ _ _ => False)) (retK T Tryd.f57.results.toList Q) (fun c H => Q (.panicked c) H))
theorem cL57_3 (env : Env) (H : Heap) (kn : Value → Heap → Prop) (Q : Ending → Heap → Prop) (h : L57_3 (env 0) (env 3) (env 4) H kn Q) :
    RCode Tryd.prog 21 (codeAt [1, 1, 0, 1] (bodyOf Tryd.f57)) env H (mkK (fun e H => kn (e 3) H) (fun _ _ _ => False) (retK T Tryd.f57.results.toList Q) (fun c H => Q (.panicked c) H)) :=
  RCode.blk (by kernel_rfl : (codeAt [1, 1, 0, 1] (bodyOf Tryd.f57)) = .block 0 (codeAt [1, 1, 0, 1, 0] (bodyOf Tryd.f57))) (RCode.lp (by kernel_rfl : (codeAt [1, 1, 0, 1, 0] (bodyOf Tryd.f57)) = .loop (codeAt [1, 1, 0, 1, 0, 0] (bodyOf Tryd.f57))) ((h env rfl rfl rfl).mono (mkK_mono (fun _ _ h => h.elim) (fun _ _ _ h => h) (fun _ _ h => h) (fun _ _ h => h))))
def m57_4 (x0 x3 x4 : Value) (H : Heap) (kn : Value → Value → Value → Heap → Prop) (kx0 : Value → Heap → Prop) (Q : Ending → Heap → Prop) : Prop :=
oV (vLen x0) fun t7_1 =>
oV (vInt .lss x4 t7_1) fun t8_2 =>
condK t8_2 (
oV (vIdxS 1 x0 x4) fun t14_3 =>
oV (vLoad ty27 t14_3 H) fun t15_4 =>
oV (vIdxS 1 t15_4 (.int .i64 0)) fun t16_5 =>
oV (vLoad ty52 t16_5 H) fun t17_6 =>
oBuildS ty52 52 1 [((0, 1), t17_6)] H fun s_7 H_8 =>
oAppend ty52 52 x3 s_7 H_8 fun v_9 H_10 =>
oV (vInt .add x4 (.int .i64 1)) fun t10_11 =>
kn x0 v_9 t10_11 H_10) (
kx0 x3 H)
theorem c57_4 (env : Env) (H : Heap) (kn : Value → Value → Value → Heap → Prop) (kx0 : Value → Heap → Prop) (Q : Ending → Heap → Prop) (h : m57_4 (env 0) (env 3) (env 4) H kn kx0 Q) :
    RCode Tryd.prog 21 (codeAt [1, 1, 0, 1, 0, 0] (bodyOf Tryd.f57)) env H (mkK (fun e H => kn (e 0) (e 3) (e 4) H) (inK 0 (fun e H => kx0 (e 3) H) (fun _ _ _ => False)) (retK T Tryd.f57.results.toList Q) (fun c H => Q (.panicked c) H)) :=
  RCode.leaf_ (T := T) (X := ext) (hint := hint57) tok xok mixed (by kernel_rfl) h
theorem L57_3_round (x0 x3 x4 : Value) (H : Heap) (kn : Value → Heap → Prop) (Q : Ending → Heap → Prop) (h : m57_4 x0 x3 x4 H (fun y0 y3 y4 H => L57_3 y0 y3 y4 H kn Q) kn Q) : L57_3 x0 x3 x4 H kn Q := by
  intro env h0 h3 h4
  subst h0; subst h3; subst h4
  exact RLoop.round ((c57_4 env H (fun y0 y3 y4 H => L57_3 y0 y3 y4 H kn Q) kn Q h).mono (mkK_mono (fun e H h => h e rfl rfl rfl) (fun _ _ _ h => h) (fun _ _ h => h) (fun _ _ h => h)))
def m57_2 (x0 x3 : Value) (H : Heap) (kn : Value → Heap → Prop) (Q : Ending → Heap → Prop) : Prop :=
L57_3 x0 x3 (.int .i64 0) H kn Q
theorem c57_2 (env : Env) (H : Heap) (kn : Value → Heap → Prop) (Q : Ending → Heap → Prop) (h : m57_2 (env 0) (env 3) H kn Q) :
    RCode Tryd.prog 21 (codeAt [1, 1, 0] (bodyOf Tryd.f57)) env H (mkK (fun e H => kn (e 3) H) (fun _ _ _ => False) (retK T Tryd.f57.results.toList Q) (fun c H => Q (.panicked c) H)) :=
  RCode.prefix_ (T := T) (X := ext) (hint := hint57) (hole := (fun e H => L57_3 (e 0) (e 3) (e 4) H kn Q)) tok xok mixed 1 (by kernel_rfl) (by kernel_rfl : codeAt _ _ = (codeAt [1, 1, 0, 1] (bodyOf Tryd.f57))) h
    (fun e H h => (cL57_3 e H kn Q h))
def m57 (x0 : Value) (H : Heap) (Q : Ending → Heap → Prop) : Prop :=
m57_2 x0 (.slice none 0 0) H (fun y3_12 H_13 => m57_1 y3_12 H_13 Q) Q
theorem c57_0 (env : Env) (H : Heap) (Q : Ending → Heap → Prop) (h : m57 (env 0) H Q) :
    RCode Tryd.prog 21 (bodyOf Tryd.f57) env H (mkK (retK T Tryd.f57.results.toList Q) (fun _ _ _ => False) (retK T Tryd.f57.results.toList Q) (fun c H => Q (.panicked c) H)) :=
  RCode.prefix_ (T := T) (X := ext) (hint := hint57) (hole := (fun e H => m57_2 (e 0) (e 3) H (fun y3_14 H_15 => m57_1 y3_14 H_15 Q) Q)) tok xok mixed 2 (by kernel_rfl) (by kernel_rfl : codeAt _ _ = (codeAt [1, 1] (bodyOf Tryd.f57))) h
    (fun e H h => RCode.join (by kernel_rfl : (codeAt [1, 1] (bodyOf Tryd.f57)) = .seq (codeAt [1, 1, 0] (bodyOf Tryd.f57)) (codeAt [1, 1, 1] (bodyOf Tryd.f57))) ((c57_2 e H (fun y3_16 H_17 => m57_1 y3_16 H_17 Q) Q h).mono (mkK_mono (fun e H h => c57_1 e H Q h) (fun _ _ _ h => h) (fun _ _ h => h) (fun _ _ h => h))))
theorem call57 (a0 : Value) (H : Heap) (Q : Ending → Heap → Prop) (h : m57 a0 H Q) : RCalls Tryd.prog 57 [a0] H Q :=
  RCalls.intro (nt := 21) tok Tryd.func57 (by kernel_rfl) (by kernel_rfl) (by kernel_rfl) (of_decide_eq_true (by kernel_rfl)) (c57_0 (envOf [a0]) H Q h)
/-! ### 117: privity/privityref13.bad -/
def hint117 : Nat → List Nat := lookupL []
def m117_1 (H : Heap) (Q : Ending → Heap → Prop) : Prop :=
Q (.returned (.bool false)) H
theorem c117_1 (env : Env) (H : Heap) (Q : Ending → Heap → Prop) (h : m117_1 H Q) :
    RCode Tryd.prog 20 (codeAt [1, 1] (bodyOf Tryd.f117)) env H (mkK (retK T Tryd.f117.results.toList Q) (fun _ _ _ => False) (retK T Tryd.f117.results.toList Q) (fun c H => Q (.panicked c) H)) :=
  RCode.leaf_ (T := T) (X := ext) (hint := hint117) tok xok mixed (by kernel_rfl) h
def L117_3 (x1 x2 x5 : Value) (H : Heap) (kn : Heap → Prop) (Q : Ending → Heap → Prop) : Prop :=
  ∀ env : Env, env 1 = x1 → env 2 = x2 → env 5 = x5 → RLoop Tryd.prog 20 (codeAt [1, 0, 1, 0, 0] (bodyOf Tryd.f117)) env H (mkK (fun _ _ => False) (inK 0 (fun e H => kn H) (fun _ _ _ => False)) (retK T Tryd.f117.results.toList Q) (fun c H => Q (.panicked c) H))
theorem cL117_3 (env : Env) (H : Heap) (kn : Heap → Prop) (Q : Ending → Heap → Prop) (h : L117_3 (env 1) (env 2) (env 5) H kn Q) :
    RCode Tryd.prog 20 (codeAt [1, 0, 1] (bodyOf Tryd.f117)) env H (mkK (fun e H => kn H) (fun _ _ _ => False) (retK T Tryd.f117.results.toList Q) (fun c H => Q (.panicked c) H)) :=
  RCode.blk (by kernel_rfl : (codeAt [1, 0, 1] (bodyOf Tryd.f117)) = .block 0 (codeAt [1, 0, 1, 0] (bodyOf Tryd.f117))) (RCode.lp (by kernel_rfl : (codeAt [1, 0, 1, 0] (bodyOf Tryd.f117)) = .loop (codeAt [1, 0, 1, 0, 0] (bodyOf Tryd.f117))) ((h env rfl rfl rfl).mono (mkK_mono (fun _ _ h => h.elim) (fun _ _ _ h => h) (fun _ _ h => h) (fun _ _ h => h))))
def m117_4 (x1 x2 x5 : Value) (H : Heap) (kn : Value → Value → Value → Heap → Prop) (kx0 : Heap → Prop) (Q : Ending → Heap → Prop) : Prop :=
oV (vField 3 x2) fun t7_1 =>
oV (vLoad ty25 t7_1 H) fun t8_2 =>
oV (vLen t8_2) fun t9_3 =>
oV (vInt .lss x5 t9_3) fun t10_4 =>
condK t10_4 (
oV (vField 3 x2) fun t13_5 =>
oV (vLoad ty25 t13_5 H) fun t14_6 =>
oV (vIdxS 1 t14_6 x5) fun t16_7 =>
oV (vLoad ty3 t16_7 H) fun t17_8 =>
oV (vInt .eql t17_8 x1) fun t19_9 =>
condK t19_9 (
Q (.returned (.bool true)) H) (
oV (vInt .add x5 (.int .i64 1)) fun t12_10 =>
kn x1 x2 t12_10 H)) (
kx0 H)
theorem c117_4 (env : Env) (H : Heap) (kn : Value → Value → Value → Heap → Prop) (kx0 : Heap → Prop) (Q : Ending → Heap → Prop) (h : m117_4 (env 1) (env 2) (env 5) H kn kx0 Q) :
    RCode Tryd.prog 20 (codeAt [1, 0, 1, 0, 0] (bodyOf Tryd.f117)) env H (mkK (fun e H => kn (e 1) (e 2) (e 5) H) (inK 0 (fun e H => kx0 H) (fun _ _ _ => False)) (retK T Tryd.f117.results.toList Q) (fun c H => Q (.panicked c) H)) :=
  RCode.leaf_ (T := T) (X := ext) (hint := hint117) tok xok mixed (by kernel_rfl) h
theorem L117_3_round (x1 x2 x5 : Value) (H : Heap) (kn : Heap → Prop) (Q : Ending → Heap → Prop) (h : m117_4 x1 x2 x5 H (fun y1 y2 y5 H => L117_3 y1 y2 y5 H kn Q) kn Q) : L117_3 x1 x2 x5 H kn Q := by
  intro env h1 h2 h5
  subst h1; subst h2; subst h5
  exact RLoop.round ((c117_4 env H (fun y1 y2 y5 H => L117_3 y1 y2 y5 H kn Q) kn Q h).mono (mkK_mono (fun e H h => h e rfl rfl rfl) (fun _ _ _ h => h) (fun _ _ h => h) (fun _ _ h => h)))
def m117_2 (x1 x2 : Value) (H : Heap) (kn : Heap → Prop) (Q : Ending → Heap → Prop) : Prop :=
L117_3 x1 x2 (.int .i64 0) H kn Q
theorem c117_2 (env : Env) (H : Heap) (kn : Heap → Prop) (Q : Ending → Heap → Prop) (h : m117_2 (env 1) (env 2) H kn Q) :
    RCode Tryd.prog 20 (codeAt [1, 0] (bodyOf Tryd.f117)) env H (mkK (fun e H => kn H) (fun _ _ _ => False) (retK T Tryd.f117.results.toList Q) (fun c H => Q (.panicked c) H)) :=
  RCode.prefix_ (T := T) (X := ext) (hint := hint117) (hole := (fun e H => L117_3 (e 1) (e 2) (e 5) H kn Q)) tok xok mixed 1 (by kernel_rfl) (by kernel_rfl : codeAt _ _ = (codeAt [1, 0, 1] (bodyOf Tryd.f117))) h
    (fun e H h => (cL117_3 e H kn Q h))
def m117 (x0 x1 : Value) (H : Heap) (Q : Ending → Heap → Prop) : Prop :=
oNew (Value.cells x0).toList (Value.cells x0).toList.length 29 H fun i_11 H_12 =>
m117_2 x1 (ptrTo i_11) H_12 (fun H_13 => m117_1 H_13 Q) Q
theorem c117_0 (env : Env) (H : Heap) (Q : Ending → Heap → Prop) (h : m117 (env 0) (env 1) H Q) :
    RCode Tryd.prog 20 (bodyOf Tryd.f117) env H (mkK (retK T Tryd.f117.results.toList Q) (fun _ _ _ => False) (retK T Tryd.f117.results.toList Q) (fun c H => Q (.panicked c) H)) :=
  RCode.prefix_ (T := T) (X := ext) (hint := hint117) (hole := (fun e H => m117_2 (e 1) (e 2) H (fun H_14 => m117_1 H_14 Q) Q)) tok xok mixed 1 (by kernel_rfl) (by kernel_rfl : codeAt _ _ = (codeAt [1] (bodyOf Tryd.f117))) h
    (fun e H h => RCode.join (by kernel_rfl : (codeAt [1] (bodyOf Tryd.f117)) = .seq (codeAt [1, 0] (bodyOf Tryd.f117)) (codeAt [1, 1] (bodyOf Tryd.f117))) ((c117_2 e H (fun H_15 => m117_1 H_15 Q) Q h).mono (mkK_mono (fun e H h => c117_1 e H Q h) (fun _ _ _ h => h) (fun _ _ h => h) (fun _ _ h => h))))
theorem call117 (a0 a1 : Value) (H : Heap) (Q : Ending → Heap → Prop) (h : m117 a0 a1 H Q) : RCalls Tryd.prog 117 [a0, a1] H Q :=
  RCalls.intro (nt := 20) tok Tryd.func117 (by kernel_rfl) (by kernel_rfl) (by kernel_rfl) (of_decide_eq_true (by kernel_rfl)) (c117_0 (envOf [a0, a1]) H Q h)
/-! ### 75: privity/privityref01.Add -/
def hint75 : Nat → List Nat := lookupL []
def m75 (x0 x1 x2 : Value) (H : Heap) (Q : Ending → Heap → Prop) : Prop :=
oV (vInt .add x1 x2) fun t9_1 =>
oV (vInt .rem t9_1 x0) fun t11_2 =>
Q (.returned t11_2) H
theorem c75_0 (env : Env) (H : Heap) (Q : Ending → Heap → Prop) (h : m75 (env 0) (env 1) (env 2) H Q) :
    RCode Tryd.prog 12 (bodyOf Tryd.f75) env H (mkK (retK T Tryd.f75.results.toList Q) (fun _ _ _ => False) (retK T Tryd.f75.results.toList Q) (fun c H => Q (.panicked c) H)) :=
  RCode.leaf_ (T := T) (X := ext) (hint := hint75) tok xok mixed (by kernel_rfl) h
theorem call75 (a0 a1 a2 : Value) (H : Heap) (Q : Ending → Heap → Prop) (h : m75 a0 a1 a2 H Q) : RCalls Tryd.prog 75 [a0, a1, a2] H Q :=
  RCalls.intro (nt := 12) tok Tryd.func75 (by kernel_rfl) (by kernel_rfl) (by kernel_rfl) (of_decide_eq_true (by kernel_rfl)) (c75_0 (envOf [a0, a1, a2]) H Q h)
/-! ### 142: privity/privityref13.word -/
def hint142 : Nat → List Nat := lookupL []
def m142 (x0 x1 : Value) (H : Heap) (Q : Ending → Heap → Prop) : Prop :=
oV (vInt .lss x1 (.int .i64 0)) fun t6_1 =>
oV (gV t6_1 false (some x1) (some undef)) fun t8_2 =>
oV (gV t6_1 false (some x0) (some undef)) fun t9_3 =>
oV (gV t6_1 false (vLen t9_3) (some undef)) fun t10_4 =>
oV (gV t6_1 false (vInt .geq t8_2 t10_4) (some undef)) fun t11_5 =>
oV (vPick t6_1 (.bool true) t11_5) fun t12_6 =>
condK t12_6 (
Q (.returned (.int .u64 0)) H) (
oV (vIdxS 1 x0 x1) fun t15_7 =>
oV (vLoad ty22 t15_7 H) fun t16_8 =>
Q (.returned t16_8) H)
theorem c142_0 (env : Env) (H : Heap) (Q : Ending → Heap → Prop) (h : m142 (env 0) (env 1) H Q) :
    RCode Tryd.prog 17 (bodyOf Tryd.f142) env H (mkK (retK T Tryd.f142.results.toList Q) (fun _ _ _ => False) (retK T Tryd.f142.results.toList Q) (fun c H => Q (.panicked c) H)) :=
  RCode.leaf_ (T := T) (X := ext) (hint := hint142) tok xok mixed (by kernel_rfl) h
theorem call142 (a0 a1 : Value) (H : Heap) (Q : Ending → Heap → Prop) (h : m142 a0 a1 H Q) : RCalls Tryd.prog 142 [a0, a1] H Q :=
  RCalls.intro (nt := 17) tok Tryd.func142 (by kernel_rfl) (by kernel_rfl) (by kernel_rfl) (of_decide_eq_true (by kernel_rfl)) (c142_0 (envOf [a0, a1]) H Q h)
/-! ### 76: privity/privityref01.Mul -/
def hint76 : Nat → List Nat := lookupL []
def m76_1 (x12 : Value) (H : Heap) (Q : Ending → Heap → Prop) : Prop :=
Q (.returned x12) H
theorem c76_1 (env : Env) (H : Heap) (Q : Ending → Heap → Prop) (h : m76_1 (env 12) H Q) :
    RCode Tryd.prog 94 (codeAt [1, 1, 1, 1, 1] (bodyOf Tryd.f76)) env H (mkK (retK T Tryd.f76.results.toList Q) (fun _ _ _ => False) (retK T Tryd.f76.results.toList Q) (fun c H => Q (.panicked c) H)) :=
  RCode.leaf_ (T := T) (X := ext) (hint := hint76) tok xok mixed (by kernel_rfl) h
def L76_2 (x0 x1 x2 x12 : Value) (H : Heap) (kn : Value → Heap → Prop) (Q : Ending → Heap → Prop) : Prop :=
  ∀ env : Env, env 0 = x0 → env 1 = x1 → env 2 = x2 → env 12 = x12 → RLoop Tryd.prog 94 (codeAt [1, 1, 1, 1, 0, 0, 0] (bodyOf Tryd.f76)) env H (mkK (fun _ _ => False) (inK 0 (fun e H => kn (e 12) H) (fun _ _ _ => False)) (retK T Tryd.f76.results.toList Q) (fun c H => Q (.panicked c) H))
theorem cL76_2 (env : Env) (H : Heap) (kn : Value → Heap → Prop) (Q : Ending → Heap → Prop) (h : L76_2 (env 0) (env 1) (env 2) (env 12) H kn Q) :
    RCode Tryd.prog 94 (codeAt [1, 1, 1, 1, 0] (bodyOf Tryd.f76)) env H (mkK (fun e H => kn (e 12) H) (fun _ _ _ => False) (retK T Tryd.f76.results.toList Q) (fun c H => Q (.panicked c) H)) :=
  RCode.blk (by kernel_rfl : (codeAt [1, 1, 1, 1, 0] (bodyOf Tryd.f76)) = .block 0 (codeAt [1, 1, 1, 1, 0, 0] (bodyOf Tryd.f76))) (RCode.lp (by kernel_rfl : (codeAt [1, 1, 1, 1, 0, 0] (bodyOf Tryd.f76)) = .loop (codeAt [1, 1, 1, 1, 0, 0, 0] (bodyOf Tryd.f76))) ((h env rfl rfl rfl rfl).mono (mkK_mono (fun _ _ h => h.elim) (fun _ _ _ h => h) (fun _ _ h => h) (fun _ _ h => h))))
def m76_3 (x0 x1 x2 x12 : Value) (H : Heap) (kn : Value → Value → Value → Value → Heap → Prop) (kx0 : Value → Heap → Prop) (Q : Ending → Heap → Prop) : Prop :=
oV (vInt .gtr x2 (.int .u64 0)) fun t77_1 =>
condK t77_1 (
oV (vInt .rem x2 (.int .u64 2)) fun t79_2 =>
oV (vInt .eql t79_2 (.int .u64 1)) fun t80_3 =>
condK t80_3 (
oV (vInt .add x12 x1) fun t83_4 =>
oV (vInt .rem t83_4 x0) fun t85_5 =>
oV (vInt .add x1 x1) fun t88_6 =>
oV (vInt .rem t88_6 x0) fun t90_7 =>
oV (vInt .quo x2 (.int .u64 2)) fun t92_8 =>
kn x0 t90_7 t92_8 t85_5 H) (
oV (vInt .add x1 x1) fun t88_9 =>
oV (vInt .rem t88_9 x0) fun t90_10 =>
oV (vInt .quo x2 (.int .u64 2)) fun t92_11 =>
kn x0 t90_10 t92_11 x12 H)) (
kx0 x12 H)
theorem c76_3 (env : Env) (H : Heap) (kn : Value → Value → Value → Value → Heap → Prop) (kx0 : Value → Heap → Prop) (Q : Ending → Heap → Prop) (h : m76_3 (env 0) (env 1) (env 2) (env 12) H kn kx0 Q) :
    RCode Tryd.prog 94 (codeAt [1, 1, 1, 1, 0, 0, 0] (bodyOf Tryd.f76)) env H (mkK (fun e H => kn (e 0) (e 1) (e 2) (e 12) H) (inK 0 (fun e H => kx0 (e 12) H) (fun _ _ _ => False)) (retK T Tryd.f76.results.toList Q) (fun c H => Q (.panicked c) H)) :=
  RCode.leaf_ (T := T) (X := ext) (hint := hint76) tok xok mixed (by kernel_rfl) h
theorem L76_2_round (x0 x1 x2 x12 : Value) (H : Heap) (kn : Value → Heap → Prop) (Q : Ending → Heap → Prop) (h : m76_3 x0 x1 x2 x12 H (fun y0 y1 y2 y12 H => L76_2 y0 y1 y2 y12 H kn Q) kn Q) : L76_2 x0 x1 x2 x12 H kn Q := by
  intro env h0 h1 h2 h12
  subst h0; subst h1; subst h2; subst h12
  exact RLoop.round ((c76_3 env H (fun y0 y1 y2 y12 H => L76_2 y0 y1 y2 y12 H kn Q) kn Q h).mono (mkK_mono (fun e H h => h e rfl rfl rfl rfl) (fun _ _ _ h => h) (fun _ _ h => h) (fun _ _ h => h)))
def m76 (x0 x1 x2 : Value) (H : Heap) (Q : Ending → Heap → Prop) : Prop :=
oV (vInt .gtr x0 (.int .u64 0)) fun t14_12 =>
oV (gV t14_12 true (some x0) (some undef)) fun t16_13 =>
oV (gV t14_12 true (vInt .lss t16_13 (.int .u64 2147483648)) (some undef)) fun t17_14 =>
oV (vPick t14_12 t17_14 (.bool false)) fun t18_15 =>
oV (gV t18_15 true (some x1) (some undef)) fun t20_16 =>
oV (gV t18_15 true (vInt .lss t20_16 (.int .u64 2147483648)) (some undef)) fun t21_17 =>
oV (vPick t18_15 t21_17 (.bool false)) fun t22_18 =>
oV (gV t22_18 true (some x2) (some undef)) fun t24_19 =>
oV (gV t22_18 true (vInt .lss t24_19 (.int .u64 2147483648)) (some undef)) fun t25_20 =>
oV (vPick t22_18 t25_20 (.bool false)) fun t26_21 =>
condK t26_21 (
oV (vInt .mul x1 x2) fun t29_22 =>
oV (vInt .rem t29_22 x0) fun t31_23 =>
Q (.returned t31_23) H) (
oV (vInt .eql x0 (.int .u64 2305843009213693951)) fun t33_24 =>
oV (gV t33_24 true (some x1) (some undef)) fun t35_25 =>
oV (gV t33_24 true (some x0) (some undef)) fun t36_26 =>
oV (gV t33_24 true (vInt .lss t35_25 t36_26) (some undef)) fun t37_27 =>
oV (vPick t33_24 t37_27 (.bool false)) fun t38_28 =>
oV (gV t38_28 true (some x2) (some undef)) fun t40_29 =>
oV (gV t38_28 true (some x0) (some undef)) fun t41_30 =>
oV (gV t38_28 true (vInt .lss t40_29 t41_30) (some undef)) fun t42_31 =>
oV (vPick t38_28 t42_31 (.bool false)) fun t43_32 =>
condK t43_32 (
oV (vInt .shr x1 (.int .u64 31)) fun t45_33 =>
oV (vInt .rem x1 (.int .u64 2147483648)) fun t47_34 =>
oV (vInt .shr x2 (.int .u64 31)) fun t49_35 =>
oV (vInt .rem x2 (.int .u64 2147483648)) fun t51_36 =>
oV (vInt .mul t45_33 t51_36) fun t54_37 =>
oV (vInt .mul t47_34 t49_35) fun t57_38 =>
oV (vInt .add t54_37 t57_38) fun t58_39 =>
oV (vInt .mul (.int .u64 2) t45_33) fun t60_40 =>
oV (vInt .mul t60_40 t49_35) fun t62_41 =>
oV (vInt .shr t58_39 (.int .u64 30)) fun t64_42 =>
oV (vInt .add t62_41 t64_42) fun t65_43 =>
oV (vInt .rem t58_39 (.int .u64 1073741824)) fun t67_44 =>
oV (vInt .shl t67_44 (.int .u64 31)) fun t68_45 =>
oV (vInt .add t65_43 t68_45) fun t69_46 =>
oV (vInt .mul t47_34 t51_36) fun t72_47 =>
oV (vInt .add t69_46 t72_47) fun t73_48 =>
oV (vInt .rem t73_48 x0) fun t75_49 =>
Q (.returned t75_49) H) (
L76_2 x0 x1 x2 (.int .u64 0) H (fun y12_50 H_51 => m76_1 y12_50 H_51 Q) Q))
theorem c76_0 (env : Env) (H : Heap) (Q : Ending → Heap → Prop) (h : m76 (env 0) (env 1) (env 2) H Q) :
    RCode Tryd.prog 94 (bodyOf Tryd.f76) env H (mkK (retK T Tryd.f76.results.toList Q) (fun _ _ _ => False) (retK T Tryd.f76.results.toList Q) (fun c H => Q (.panicked c) H)) :=
  RCode.prefix_ (T := T) (X := ext) (hint := hint76) (hole := (fun e H => L76_2 (e 0) (e 1) (e 2) (e 12) H (fun y12_52 H_53 => m76_1 y12_52 H_53 Q) Q)) tok xok mixed 4 (by kernel_rfl) (by kernel_rfl : codeAt _ _ = (codeAt [1, 1, 1, 1] (bodyOf Tryd.f76))) h
    (fun e H h => RCode.join (by kernel_rfl : (codeAt [1, 1, 1, 1] (bodyOf Tryd.f76)) = .seq (codeAt [1, 1, 1, 1, 0] (bodyOf Tryd.f76)) (codeAt [1, 1, 1, 1, 1] (bodyOf Tryd.f76))) ((cL76_2 e H (fun y12_54 H_55 => m76_1 y12_54 H_55 Q) Q h).mono (mkK_mono (fun e H h => c76_1 e H Q h) (fun _ _ _ h => h) (fun _ _ h => h) (fun _ _ h => h))))
theorem call76 (a0 a1 a2 : Value) (H : Heap) (Q : Ending → Heap → Prop) (h : m76 a0 a1 a2 H Q) : RCalls Tryd.prog 76 [a0, a1, a2] H Q :=
  RCalls.intro (nt := 94) tok Tryd.func76 (by kernel_rfl) (by kernel_rfl) (by kernel_rfl) (of_decide_eq_true (by kernel_rfl)) (c76_0 (envOf [a0, a1, a2]) H Q h)
/-! ### 118: privity/privityref13.told -/
def hint118 : Nat → List Nat := lookupL [(12, [0, 1, 2, 3, 4, 5, 6, 7, 8, 9, 10, 11, 12]), (15, [0, 1, 2, 3, 4, 5, 6, 7, 8, 9, 10, 11, 12, 13, 15, 14, 16, 17, 18, 19, 20])]
def m118 (x0 x1 x2 x3 : Value) (H : Heap) (Q : Ending → Heap → Prop) : Prop :=
oNew (Value.cells x0).toList (Value.cells x0).toList.length 29 H fun i_1 H_2 =>
oNew (Value.cells x1).toList (Value.cells x1).toList.length 109 H_2 fun i_3 H_4 =>
oV (vField 4 (ptrTo i_3)) fun t12_5 =>
oV (vLoad ty3 t12_5 H_4) fun t13_6 =>
oV (vInt .eql t13_6 (.int .i64 4)) fun t14_7 =>
condK t14_7 (
Q (.returned (.slice none 0 0)) H_4) (
oV (vField 3 (ptrTo i_3)) fun t15_8 =>
oV (vLoad ty3 t15_8 H_4) fun t16_9 =>
oV (vInt .lss t16_9 (.int .i64 0)) fun t17_10 =>
oV (gV t17_10 false (vField 3 (ptrTo i_3)) (some undef)) fun t19_11 =>
oV (gV t17_10 false (vLoad ty3 t19_11 H_4) (some undef)) fun t20_12 =>
oV (gV t17_10 false (some x2) (some undef)) fun t21_13 =>
oV (gV t17_10 false (vLen t21_13) (some undef)) fun t22_14 =>
oV (gV t17_10 false (vInt .geq t20_12 t22_14) (some undef)) fun t23_15 =>
oV (vPick t17_10 (.bool true) t23_15) fun t24_16 =>
condK t24_16 (
Q (.returned x2) H_4) (
oV (vField 0 (ptrTo i_1)) fun t26_17 =>
oV (vField 0 t26_17) fun t27_18 =>
oV (vLoad ty22 t27_18 H_4) fun t28_19 =>
oBuildS ty22 22 0 [] H_4 fun s_20 H_21 =>
oAppend ty22 22 s_20 x2 H_21 fun v_22 H_23 =>
oV (vField 5 (ptrTo i_3)) fun t32_24 =>
oV (vLoad ty22 t32_24 H_23) fun t33_25 =>
oV (vInt .rem t33_25 t28_19) fun t35_26 =>
oV (vField 4 (ptrTo i_3)) fun t36_27 =>
oV (vLoad ty3 t36_27 H_23) fun t37_28 =>
oV (vInt .eql t37_28 (.int .i64 1)) fun t39_29 =>
condK t39_29 (
oV (vField 3 (ptrTo i_3)) fun t41_30 =>
oV (vLoad ty3 t41_30 H_23) fun t42_31 =>
oV (vIdxS 1 v_22 t42_31) fun t44_32 =>
oHeap (vStore ty22 t44_32 t35_26 H_23) fun H_33 =>
Q (.returned v_22) H_33) (
oV (vInt .eql t37_28 (.int .i64 2)) fun t46_34 =>
condK t46_34 (
oV (vField 3 (ptrTo i_3)) fun t48_35 =>
oV (vLoad ty3 t48_35 H_23) fun t49_36 =>
oV (vField 3 (ptrTo i_3)) fun t52_37 =>
oV (vLoad ty3 t52_37 H_23) fun t53_38 =>
oV (vIdxS 1 v_22 t53_38) fun t54_39 =>
oV (vLoad ty22 t54_39 H_23) fun t55_40 =>
oRC Tryd.prog 75 [t28_19, t55_40, t35_26] H_23 noP fun v_41 H_42 =>
(vLoad ty3 t48_35 H_42 = some t49_36 ∧
oV (vIdxS 1 v_22 t49_36) fun t58_43 =>
oHeap (vStore ty22 t58_43 v_41 H_42) fun H_44 =>
Q (.returned v_22) H_44)) (
oV (vInt .eql t37_28 (.int .i64 3)) fun t60_45 =>
condK t60_45 (
oV (vLoad ty29 (ptrTo i_1) H_23) fun t61_46 =>
oV (vField 6 (ptrTo i_3)) fun t62_47 =>
oV (vLoad ty3 t62_47 H_23) fun t63_48 =>
oRC Tryd.prog 117 [t61_46, t63_48] H_23 (fun c H => Q (.panicked c) H) fun v_49 H_50 =>
oV (vUn .not v_49) fun t65_51 =>
condK t65_51 (
oV (vField 3 (ptrTo i_3)) fun t67_52 =>
oV (vLoad ty3 t67_52 H_50) fun t68_53 =>
oV (vField 3 (ptrTo i_3)) fun t71_54 =>
oV (vLoad ty3 t71_54 H_50) fun t72_55 =>
oV (vIdxS 1 v_22 t72_55) fun t73_56 =>
oV (vLoad ty22 t73_56 H_50) fun t74_57 =>
oV (vField 7 (ptrTo i_3)) fun t78_58 =>
oV (vLoad ty3 t78_58 H_50) fun t79_59 =>
oRC Tryd.prog 142 [x3, t79_59] H_50 noP fun v_60 H_61 =>
(vLoad ty22 t73_56 H_61 = some t74_57 ∧
(vLoad ty3 t71_54 H_61 = some t72_55 ∧
(vLoad ty3 t67_52 H_61 = some t68_53 ∧
oV (vInt .rem v_60 t28_19) fun t82_62 =>
oRC Tryd.prog 76 [t28_19, t35_26, t82_62] H_61 noP fun v_63 H_64 =>
(vLoad ty22 t73_56 H_64 = some t74_57 ∧
(vLoad ty3 t71_54 H_64 = some t72_55 ∧
(vLoad ty3 t67_52 H_64 = some t68_53 ∧
oRC Tryd.prog 75 [t28_19, t74_57, v_63] H_64 noP fun v_65 H_66 =>
(vLoad ty3 t67_52 H_66 = some t68_53 ∧
oV (vIdxS 1 v_22 t68_53) fun t85_67 =>
oHeap (vStore ty22 t85_67 v_65 H_66) fun H_68 =>
Q (.returned v_22) H_68)))))))) (
Q (.returned v_22) H_50)) (
Q (.returned v_22) H_23)))))
theorem c118_0 (env : Env) (H : Heap) (Q : Ending → Heap → Prop) (h : m118 (env 0) (env 1) (env 2) (env 3) H Q) :
    RCode Tryd.prog 87 (bodyOf Tryd.f118) env H (mkK (retK T Tryd.f118.results.toList Q) (fun _ _ _ => False) (retK T Tryd.f118.results.toList Q) (fun c H => Q (.panicked c) H)) :=
  RCode.leaf_ (T := T) (X := ext) (hint := hint118) tok xok mixed (by kernel_rfl) h
theorem call118 (a0 a1 a2 a3 : Value) (H : Heap) (Q : Ending → Heap → Prop) (h : m118 a0 a1 a2 a3 H Q) : RCalls Tryd.prog 118 [a0, a1, a2, a3] H Q :=
  RCalls.intro (nt := 87) tok Tryd.func118 (by kernel_rfl) (by kernel_rfl) (by kernel_rfl) (of_decide_eq_true (by kernel_rfl)) (c118_0 (envOf [a0, a1, a2, a3]) H Q h)
/-! ### 93: privity/privityref13.ApplyToBroadcasts -/
def hint93 : Nat → List Nat := lookupL [(10, [0, 1, 2, 3, 4, 5, 6, 7, 8, 9, 10, 11, 12, 13, 14, 15])]
def m93_1 (x7 : Value) (H : Heap) (Q : Ending → Heap → Prop) : Prop :=
Q (.returned x7) H
theorem c93_1 (env : Env) (H : Heap) (Q : Ending → Heap → Prop) (h : m93_1 (env 7) H Q) :
    RCode Tryd.prog 61 (codeAt [1, 1, 1] (bodyOf Tryd.f93)) env H (mkK (retK T Tryd.f93.results.toList Q) (fun _ _ _ => False) (retK T Tryd.f93.results.toList Q) (fun c H => Q (.panicked c) H)) :=
  RCode.leaf_ (T := T) (X := ext) (hint := hint93) tok xok mixed (by kernel_rfl) h
def L93_3 (x1 x2 x3 x7 x8 : Value) (H : Heap) (kn : Value → Heap → Prop) (Q : Ending → Heap → Prop) : Prop :=
  ∀ env : Env, env 1 = x1 → env 2 = x2 → env 3 = x3 → env 7 = x7 → env 8 = x8 → RLoop Tryd.prog 61 (codeAt [1, 1, 0, 1, 0, 0] (bodyOf Tryd.f93)) env H (mkK (fun _ _ => False) (inK 0 (fun e H => kn (e 7) H) (fun _ _ _ => False)) (retK T Tryd.f93.results.toList Q) (fun c H => Q (.panicked c) H))
theorem cL93_3 (env : Env) (H : Heap) (kn : Value → Heap → Prop) (Q : Ending → Heap → Prop) (h : L93_3 (env 1) (env 2) (env 3) (env 7) (env 8) H kn Q) :
    RCode Tryd.prog 61 (codeAt [1, 1, 0, 1] (bodyOf Tryd.f93)) env H (mkK (fun e H => kn (e 7) H) (fun _ _ _ => False) (retK T Tryd.f93.results.toList Q) (fun c H => Q (.panicked c) H)) :=
  RCode.blk (by kernel_rfl : (codeAt [1, 1, 0, 1] (bodyOf Tryd.f93)) = .block 0 (codeAt [1, 1, 0, 1, 0] (bodyOf Tryd.f93))) (RCode.lp (by kernel_rfl : (codeAt [1, 1, 0, 1, 0] (bodyOf Tryd.f93)) = .loop (codeAt [1, 1, 0, 1, 0, 0] (bodyOf Tryd.f93))) ((h env rfl rfl rfl rfl rfl).mono (mkK_mono (fun _ _ h => h.elim) (fun _ _ _ h => h) (fun _ _ h => h) (fun _ _ h => h))))
def m93_4 (x1 x2 x3 x7 x8 : Value) (H : Heap) (kn : Value → Value → Value → Value → Value → Heap → Prop) (kx0 : Value → Heap → Prop) (Q : Ending → Heap → Prop) : Prop :=
oV (vField 4 x3) fun t15_1 =>
oV (vLoad ty26 t15_1 H) fun t16_2 =>
oV (vLen t16_2) fun t17_3 =>
oV (vInt .lss x8 t17_3) fun t18_4 =>
condK t18_4 (
oV (vField 4 x3) fun t21_5 =>
oV (vLoad ty26 t21_5 H) fun t22_6 =>
oV (vIdxS 8 t22_6 x8) fun t24_7 =>
oV (vLoad ty109 t24_7 H) fun t25_8 =>
oNew (Value.cells ty109.zero).toList (Value.cells ty109.zero).toList.length 109 H fun i_9 H_10 =>
oHeap (vStore ty109 (ptrTo i_9) t25_8 H_10) fun H_11 =>
oV (vField 0 (ptrTo i_9)) fun t26_12 =>
oV (vLoad ty3 t26_12 H_11) fun t27_13 =>
oV (vInt .eql t27_13 x1) fun t29_14 =>
oV (gV t29_14 true (vLoad ty29 x3 H_11) (some undef)) fun t31_15 =>
oV (gV t29_14 true (vField 1 (ptrTo i_9)) (some undef)) fun t32_16 =>
oV (gV t29_14 true (vLoad ty3 t32_16 H_11) (some undef)) fun t33_17 =>
letK (fun t34_19 H_20 =>
oV (vPick t29_14 t34_19 (.bool false)) fun t35_21 =>
condK t35_21 (
oV (vField 6 (ptrTo i_9)) fun t36_22 =>
oV (vLoad ty3 t36_22 H_20) fun t37_23 =>
oV (vInt .geq t37_23 (.int .i64 1)) fun t38_24 =>
condK t38_24 (
oV (vField 6 (ptrTo i_9)) fun t40_25 =>
oV (vLoad ty3 t40_25 H_20) fun t41_26 =>
oV (vInt .sub t41_26 (.int .i64 1)) fun t42_27 =>
oV (vIdxS 1 x2 t42_27) fun t43_28 =>
oV (vLoad ty52 t43_28 H_20) fun t44_29 =>
oV (vField 1 (ptrTo i_9)) fun t46_30 =>
oV (vLoad ty3 t46_30 H_20) fun t47_31 =>
oV (vInt .sub t47_31 (.int .i64 1)) fun t48_32 =>
oV (vLoad ty29 x3 H_20) fun t49_33 =>
oV (vLoad ty109 (ptrTo i_9) H_20) fun t50_34 =>
oV (vField 1 (ptrTo i_9)) fun t52_35 =>
oV (vLoad ty3 t52_35 H_20) fun t53_36 =>
oV (vInt .sub t53_36 (.int .i64 1)) fun t54_37 =>
oV (vIdxS 1 x7 t54_37) fun t55_38 =>
oV (vLoad ty52 t55_38 H_20) fun t56_39 =>
oRC Tryd.prog 118 [t49_33, t50_34, t56_39, t44_29] H_20 noP fun v_40 H_41 =>
(vLoad ty3 t46_30 H_41 = some t47_31 ∧
oV (vIdxS 1 x7 t48_32) fun t59_42 =>
oHeap (vStore ty52 t59_42 v_40 H_41) fun H_43 =>
oV (vInt .add x8 (.int .i64 1)) fun t20_44 =>
kn x1 x2 x3 x7 t20_44 H_43)) (
oV (vField 1 (ptrTo i_9)) fun t46_45 =>
oV (vLoad ty3 t46_45 H_20) fun t47_46 =>
oV (vInt .sub t47_46 (.int .i64 1)) fun t48_47 =>
oV (vLoad ty29 x3 H_20) fun t49_48 =>
oV (vLoad ty109 (ptrTo i_9) H_20) fun t50_49 =>
oV (vField 1 (ptrTo i_9)) fun t52_50 =>
oV (vLoad ty3 t52_50 H_20) fun t53_51 =>
oV (vInt .sub t53_51 (.int .i64 1)) fun t54_52 =>
oV (vIdxS 1 x7 t54_52) fun t55_53 =>
oV (vLoad ty52 t55_53 H_20) fun t56_54 =>
oRC Tryd.prog 118 [t49_48, t50_49, t56_54, (.slice none 0 0)] H_20 noP fun v_55 H_56 =>
(vLoad ty3 t46_45 H_56 = some t47_46 ∧
oV (vIdxS 1 x7 t48_47) fun t59_57 =>
oHeap (vStore ty52 t59_57 v_55 H_56) fun H_58 =>
oV (vInt .add x8 (.int .i64 1)) fun t20_59 =>
kn x1 x2 x3 x7 t20_59 H_58))) (
oV (vInt .add x8 (.int .i64 1)) fun t20_60 =>
kn x1 x2 x3 x7 t20_60 H_20)) fun k_18 => gK t29_14 true (oRC Tryd.prog 117 [t31_15, t33_17] H_11 (fun c H => Q (.panicked c) H) fun v_61 H_62 =>
k_18 v_61 H_62) (k_18 undef H_11)) (
kx0 x7 H)
theorem c93_4 (env : Env) (H : Heap) (kn : Value → Value → Value → Value → Value → Heap → Prop) (kx0 : Value → Heap → Prop) (Q : Ending → Heap → Prop) (h : m93_4 (env 1) (env 2) (env 3) (env 7) (env 8) H kn kx0 Q) :
    RCode Tryd.prog 61 (codeAt [1, 1, 0, 1, 0, 0] (bodyOf Tryd.f93)) env H (mkK (fun e H => kn (e 1) (e 2) (e 3) (e 7) (e 8) H) (inK 0 (fun e H => kx0 (e 7) H) (fun _ _ _ => False)) (retK T Tryd.f93.results.toList Q) (fun c H => Q (.panicked c) H)) :=
  RCode.leaf_ (T := T) (X := ext) (hint := hint93) tok xok mixed (by kernel_rfl) h
theorem L93_3_round (x1 x2 x3 x7 x8 : Value) (H : Heap) (kn : Value → Heap → Prop) (Q : Ending → Heap → Prop) (h : m93_4 x1 x2 x3 x7 x8 H (fun y1 y2 y3 y7 y8 H => L93_3 y1 y2 y3 y7 y8 H kn Q) kn Q) : L93_3 x1 x2 x3 x7 x8 H kn Q := by
  intro env h1 h2 h3 h7 h8
  subst h1; subst h2; subst h3; subst h7; subst h8
  exact RLoop.round ((c93_4 env H (fun y1 y2 y3 y7 y8 H => L93_3 y1 y2 y3 y7 y8 H kn Q) kn Q h).mono (mkK_mono (fun e H h => h e rfl rfl rfl rfl rfl) (fun _ _ _ h => h) (fun _ _ h => h) (fun _ _ h => h)))
def m93_2 (x1 x2 x3 x7 : Value) (H : Heap) (kn : Value → Heap → Prop) (Q : Ending → Heap → Prop) : Prop :=
L93_3 x1 x2 x3 x7 (.int .i64 0) H kn Q
theorem c93_2 (env : Env) (H : Heap) (kn : Value → Heap → Prop) (Q : Ending → Heap → Prop) (h : m93_2 (env 1) (env 2) (env 3) (env 7) H kn Q) :
    RCode Tryd.prog 61 (codeAt [1, 1, 0] (bodyOf Tryd.f93)) env H (mkK (fun e H => kn (e 7) H) (fun _ _ _ => False) (retK T Tryd.f93.results.toList Q) (fun c H => Q (.panicked c) H)) :=
  RCode.prefix_ (T := T) (X := ext) (hint := hint93) (hole := (fun e H => L93_3 (e 1) (e 2) (e 3) (e 7) (e 8) H kn Q)) tok xok mixed 1 (by kernel_rfl) (by kernel_rfl : codeAt _ _ = (codeAt [1, 1, 0, 1] (bodyOf Tryd.f93))) h
    (fun e H h => (cL93_3 e H kn Q h))
def m93 (x0 x1 x2 : Value) (H : Heap) (Q : Ending → Heap → Prop) : Prop :=
oNew (Value.cells x0).toList (Value.cells x0).toList.length 29 H fun i_63 H_64 =>
oBuildS ty52 52 0 [] H_64 fun s_65 H_66 =>
oAppend ty52 52 s_65 x2 H_66 fun v_67 H_68 =>
m93_2 x1 x2 (ptrTo i_63) v_67 H_68 (fun y7_69 H_70 => m93_1 y7_69 H_70 Q) Q
theorem c93_0 (env : Env) (H : Heap) (Q : Ending → Heap → Prop) (h : m93 (env 0) (env 1) (env 2) H Q) :
    RCode Tryd.prog 61 (bodyOf Tryd.f93) env H (mkK (retK T Tryd.f93.results.toList Q) (fun _ _ _ => False) (retK T Tryd.f93.results.toList Q) (fun c H => Q (.panicked c) H)) :=
  RCode.prefix_ (T := T) (X := ext) (hint := hint93) (hole := (fun e H => m93_2 (e 1) (e 2) (e 3) (e 7) H (fun y7_71 H_72 => m93_1 y7_71 H_72 Q) Q)) tok xok mixed 2 (by kernel_rfl) (by kernel_rfl : codeAt _ _ = (codeAt [1, 1] (bodyOf Tryd.f93))) h
    (fun e H h => RCode.join (by kernel_rfl : (codeAt [1, 1] (bodyOf Tryd.f93)) = .seq (codeAt [1, 1, 0] (bodyOf Tryd.f93)) (codeAt [1, 1, 1] (bodyOf Tryd.f93))) ((c93_2 e H (fun y7_73 H_74 => m93_1 y7_73 H_74 Q) Q h).mono (mkK_mono (fun e H h => c93_1 e H Q h) (fun _ _ _ h => h) (fun _ _ h => h) (fun _ _ h => h))))
theorem call93 (a0 a1 a2 : Value) (H : Heap) (Q : Ending → Heap → Prop) (h : m93 a0 a1 a2 H Q) : RCalls Tryd.prog 93 [a0, a1, a2] H Q :=
  RCalls.intro (nt := 61) tok Tryd.func93 (by kernel_rfl) (by kernel_rfl) (by kernel_rfl) (of_decide_eq_true (by kernel_rfl)) (c93_0 (envOf [a0, a1, a2]) H Q h)
/-! ### 94: (*privity/privityref14.Net).hear -/
def hint94 : Nat → List Nat := lookupL [(1, [0, 1, 2, 3, 4, 5, 6, 7, 8, 9, 10, 11, 12, 13, 14, 15, 16, 17, 18, 19, 20, 21, 22, 23])]
def m94 (x0 x1 x2 x3 : Value) (H : Heap) (Q : Ending → Heap → Prop) : Prop :=
oV (vInt .neq x2 x1) fun t10_1 =>
oV (gV t10_1 true (some x3) (some undef)) fun t12_2 =>
oV (gV t10_1 true (vLen t12_2) (some undef)) fun t13_3 =>
oV (gV t10_1 true (vInt .gtr t13_3 (.int .i64 0)) (some undef)) fun t14_4 =>
oV (vPick t10_1 t14_4 (.bool false)) fun t15_5 =>
condK t15_5 (
oV (vNil x0) fun t17_6 =>
oV (vField 7 t17_6) fun t18_7 =>
oV (vLoad ty95 t18_7 H) fun t19_8 =>
oV (vNil x0) fun t22_9 =>
oV (vField 7 t22_9) fun t23_10 =>
oV (vLoad ty95 t23_10 H) fun t24_11 =>
oV (vIdxS 1 t24_11 x1) fun t26_12 =>
oV (vLoad ty49 t26_12 H) fun t27_13 =>
oV (vNil x0) fun t29_14 =>
oV (vField 6 t29_14) fun t30_15 =>
oV (vLoad ty3 t30_15 H) fun t31_16 =>
oV (vInt .add x2 (.int .i64 1)) fun t33_17 =>
oV (vBuild ty90 [((0, 1), t31_16), ((1, 1), t33_17), ((2, 1), x3)]) fun t35_18 =>
oBuildS ty90 90 1 [((0, 3), t35_18)] H fun s_19 H_20 =>
oAppend ty90 90 t27_13 s_19 H_20 fun v_21 H_22 =>
(vLoad ty95 t18_7 H_22 = some t19_8 ∧
oV (vIdxS 1 t19_8 x1) fun t38_23 =>
oHeap (vStore ty49 t38_23 v_21 H_22) fun H_24 =>
Q (.returned (.tuple #[])) H_24)) (
Q (.returned (.tuple #[])) H)
theorem c94_0 (env : Env) (H : Heap) (Q : Ending → Heap → Prop) (h : m94 (env 0) (env 1) (env 2) (env 3) H Q) :
    RCode Tryd.prog 39 (bodyOf Tryd.f94) env H (mkK (retK T Tryd.f94.results.toList Q) (fun _ _ _ => False) (retK T Tryd.f94.results.toList Q) (fun c H => Q (.panicked c) H)) :=
  RCode.leaf_ (T := T) (X := ext) (hint := hint94) tok xok mixed (by kernel_rfl) h
theorem call94 (a0 a1 a2 a3 : Value) (H : Heap) (Q : Ending → Heap → Prop) (h : m94 a0 a1 a2 a3 H Q) : RCalls Tryd.prog 94 [a0, a1, a2, a3] H Q :=
  RCalls.intro (nt := 39) tok Tryd.func94 (by kernel_rfl) (by kernel_rfl) (by kernel_rfl) (of_decide_eq_true (by kernel_rfl)) (c94_0 (envOf [a0, a1, a2, a3]) H Q h)
end Go.Proofs.YtchhpagkdaaglaaDoor.SL
