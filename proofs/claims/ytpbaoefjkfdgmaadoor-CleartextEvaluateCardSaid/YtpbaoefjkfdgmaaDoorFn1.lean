/- PRINTED by program: for each function what its code asks of what is known, and that it suffices. Not trusted: Lean checks it. -/
import Derived.Test.YtpbaoefjkfdgmaaDoorTab
set_option linter.unusedVariables false
set_option linter.unusedSimpArgs false
set_option maxRecDepth 100000
namespace Go.Proofs.YtpbaoefjkfdgmaaDoor.SL
open Go
/-! ### 14: privity/privityref33.Fits -/
def hint14 : Nat → List Nat := lookupL [(9, [0, 1, 2, 3, 4, 5, 6, 7, 8, 9]), (14, [0, 1, 2, 3, 4, 5, 6, 7, 8, 9])]
def m14_2 (H : Heap) (Q : Ending → Heap → Prop) : Prop :=
Q (.returned (.bool true)) H
theorem c14_2 (env : Env) (H : Heap) (Q : Ending → Heap → Prop) (h : m14_2 H Q) :
    RCode Tryd.prog 68 (codeAt [1, 1, 1] (bodyOf Tryd.f14)) env H (mkK (retK T Tryd.f14.results.toList Q) (fun _ _ _ => False) (retK T Tryd.f14.results.toList Q) (fun c H => Q (.panicked c) H)) :=
  RCode.leaf_ (T := T) (X := ext) (hint := hint14) tok xok mixed (by kernel_rfl) h
def L14_4 (x1 x2 x6 : Value) (H : Heap) (kn : Heap → Prop) (Q : Ending → Heap → Prop) : Prop :=
  ∀ env : Env, env 1 = x1 → env 2 = x2 → env 6 = x6 → RLoop Tryd.prog 68 (codeAt [1, 1, 0, 1, 0, 0] (bodyOf Tryd.f14)) env H (mkK (fun _ _ => False) (inK 2 (fun e H => kn H) (fun _ _ _ => False)) (retK T Tryd.f14.results.toList Q) (fun c H => Q (.panicked c) H))
theorem cL14_4 (env : Env) (H : Heap) (kn : Heap → Prop) (Q : Ending → Heap → Prop) (h : L14_4 (env 1) (env 2) (env 6) H kn Q) :
    RCode Tryd.prog 68 (codeAt [1, 1, 0, 1] (bodyOf Tryd.f14)) env H (mkK (fun e H => kn H) (fun _ _ _ => False) (retK T Tryd.f14.results.toList Q) (fun c H => Q (.panicked c) H)) :=
  RCode.blk (by kernel_rfl : (codeAt [1, 1, 0, 1] (bodyOf Tryd.f14)) = .block 2 (codeAt [1, 1, 0, 1, 0] (bodyOf Tryd.f14))) (RCode.lp (by kernel_rfl : (codeAt [1, 1, 0, 1, 0] (bodyOf Tryd.f14)) = .loop (codeAt [1, 1, 0, 1, 0, 0] (bodyOf Tryd.f14))) ((h env rfl rfl rfl).mono (mkK_mono (fun _ _ h => h.elim) (fun _ _ _ h => h) (fun _ _ h => h) (fun _ _ h => h))))
def m14_6 (x1 x2 x6 : Value) (H : Heap) (kn : Value → Value → Value → Heap → Prop) (kx2 : Heap → Prop) (Q : Ending → Heap → Prop) : Prop :=
oV (vInt .add x6 (.int .i64 1)) fun t38_1 =>
kn x1 x2 t38_1 H
theorem c14_6 (env : Env) (H : Heap) (kn : Value → Value → Value → Heap → Prop) (kx2 : Heap → Prop) (Q : Ending → Heap → Prop) (h : m14_6 (env 1) (env 2) (env 6) H kn kx2 Q) :
    RCode Tryd.prog 68 (codeAt [1, 1, 0, 1, 0, 0, 1, 1] (bodyOf Tryd.f14)) env H (mkK (fun e H => kn (e 1) (e 2) (e 6) H) (inK 2 (fun e H => kx2 H) (fun _ _ _ => False)) (retK T Tryd.f14.results.toList Q) (fun c H => Q (.panicked c) H)) :=
  RCode.leaf_ (T := T) (X := ext) (hint := hint14) tok xok mixed (by kernel_rfl) h
def L14_9 (x1 x2 x6 x7 : Value) (H : Heap) (kn : Value → Value → Value → Heap → Prop) (kx3 : Value → Value → Value → Heap → Prop) (kx2 : Heap → Prop) (Q : Ending → Heap → Prop) : Prop :=
  ∀ env : Env, env 1 = x1 → env 2 = x2 → env 6 = x6 → env 7 = x7 → RLoop Tryd.prog 68 (codeAt [1, 1, 0, 1, 0, 0, 1, 0, 0, 1, 1, 0, 0] (bodyOf Tryd.f14)) env H (mkK (fun _ _ => False) (inK 4 (fun e H => kn (e 1) (e 2) (e 6) H) (inK 3 (fun e H => kx3 (e 1) (e 2) (e 6) H) (inK 2 (fun e H => kx2 H) (fun _ _ _ => False)))) (retK T Tryd.f14.results.toList Q) (fun c H => Q (.panicked c) H))
theorem cL14_9 (env : Env) (H : Heap) (kn : Value → Value → Value → Heap → Prop) (kx3 : Value → Value → Value → Heap → Prop) (kx2 : Heap → Prop) (Q : Ending → Heap → Prop) (h : L14_9 (env 1) (env 2) (env 6) (env 7) H kn kx3 kx2 Q) :
    RCode Tryd.prog 68 (codeAt [1, 1, 0, 1, 0, 0, 1, 0, 0, 1, 1] (bodyOf Tryd.f14)) env H (mkK (fun e H => kn (e 1) (e 2) (e 6) H) (inK 3 (fun e H => kx3 (e 1) (e 2) (e 6) H) (inK 2 (fun e H => kx2 H) (fun _ _ _ => False))) (retK T Tryd.f14.results.toList Q) (fun c H => Q (.panicked c) H)) :=
  RCode.blk (by kernel_rfl : (codeAt [1, 1, 0, 1, 0, 0, 1, 0, 0, 1, 1] (bodyOf Tryd.f14)) = .block 4 (codeAt [1, 1, 0, 1, 0, 0, 1, 0, 0, 1, 1, 0] (bodyOf Tryd.f14))) (RCode.lp (by kernel_rfl : (codeAt [1, 1, 0, 1, 0, 0, 1, 0, 0, 1, 1, 0] (bodyOf Tryd.f14)) = .loop (codeAt [1, 1, 0, 1, 0, 0, 1, 0, 0, 1, 1, 0, 0] (bodyOf Tryd.f14))) ((h env rfl rfl rfl rfl).mono (mkK_mono (fun _ _ h => h.elim) (fun _ _ _ h => h) (fun _ _ h => h) (fun _ _ h => h))))
def m14_10 (x1 x2 x6 x7 : Value) (H : Heap) (kn : Value → Value → Value → Value → Heap → Prop) (kx4 : Value → Value → Value → Heap → Prop) (kx3 : Value → Value → Value → Heap → Prop) (kx2 : Heap → Prop) (Q : Ending → Heap → Prop) : Prop :=
oV (vIdxS 1 x1 x6) fun t52_2 =>
oV (vLoad ty30 t52_2 H) fun t53_3 =>
oV (vLen t53_3) fun t54_4 =>
oV (vInt .lss x7 t54_4) fun t55_5 =>
condK t55_5 (
oV (vIdxS 1 x1 x6) fun t60_6 =>
oV (vLoad ty30 t60_6 H) fun t61_7 =>
oV (vIdxS 1 t61_7 x7) fun t63_8 =>
oV (vLoad ty22 t63_8 H) fun t64_9 =>
oV (vField 0 x2) fun t65_10 =>
oV (vLoad ty22 t65_10 H) fun t66_11 =>
oV (vInt .geq t64_9 t66_11) fun t67_12 =>
condK t67_12 (
Q (.returned (.bool false)) H) (
oV (vInt .add x7 (.int .i64 1)) fun t57_13 =>
kn x1 x2 x6 t57_13 H)) (
kx4 x1 x2 x6 H)
theorem c14_10 (env : Env) (H : Heap) (kn : Value → Value → Value → Value → Heap → Prop) (kx4 : Value → Value → Value → Heap → Prop) (kx3 : Value → Value → Value → Heap → Prop) (kx2 : Heap → Prop) (Q : Ending → Heap → Prop) (h : m14_10 (env 1) (env 2) (env 6) (env 7) H kn kx4 kx3 kx2 Q) :
    RCode Tryd.prog 68 (codeAt [1, 1, 0, 1, 0, 0, 1, 0, 0, 1, 1, 0, 0] (bodyOf Tryd.f14)) env H (mkK (fun e H => kn (e 1) (e 2) (e 6) (e 7) H) (inK 4 (fun e H => kx4 (e 1) (e 2) (e 6) H) (inK 3 (fun e H => kx3 (e 1) (e 2) (e 6) H) (inK 2 (fun e H => kx2 H) (fun _ _ _ => False)))) (retK T Tryd.f14.results.toList Q) (fun c H => Q (.panicked c) H)) :=
  RCode.leaf_ (T := T) (X := ext) (hint := hint14) tok xok mixed (by kernel_rfl) h
theorem L14_9_round (x1 x2 x6 x7 : Value) (H : Heap) (kn : Value → Value → Value → Heap → Prop) (kx3 : Value → Value → Value → Heap → Prop) (kx2 : Heap → Prop) (Q : Ending → Heap → Prop) (h : m14_10 x1 x2 x6 x7 H (fun y1 y2 y6 y7 H => L14_9 y1 y2 y6 y7 H kn kx3 kx2 Q) kn kx3 kx2 Q) : L14_9 x1 x2 x6 x7 H kn kx3 kx2 Q := by
  intro env h1 h2 h6 h7
  subst h1; subst h2; subst h6; subst h7
  exact RLoop.round ((c14_10 env H (fun y1 y2 y6 y7 H => L14_9 y1 y2 y6 y7 H kn kx3 kx2 Q) kn kx3 kx2 Q h).mono (mkK_mono (fun e H h => h e rfl rfl rfl rfl) (fun _ _ _ h => h) (fun _ _ h => h) (fun _ _ h => h)))
def m14_8 (x1 x2 x6 : Value) (H : Heap) (kn : Value → Value → Value → Heap → Prop) (kx3 : Value → Value → Value → Heap → Prop) (kx2 : Heap → Prop) (Q : Ending → Heap → Prop) : Prop :=
oV (vIdxS 1 x1 x6) fun t41_14 =>
oV (vLoad ty30 t41_14 H) fun t42_15 =>
oV (vLen t42_15) fun t43_16 =>
oV (vLoad ty26 x2 H) fun t44_17 =>
oV (vInt .add x6 (.int .i64 1)) fun t46_18 =>
oRC Tryd.prog 25 [t44_17, t46_18] H noP fun v_19 H_20 =>
(vLoad ty30 t41_14 H_20 = some t42_15 ∧
oV (vInt .neq t43_16 v_19) fun t48_21 =>
condK t48_21 (
Q (.returned (.bool false)) H_20) (
L14_9 x1 x2 x6 (.int .i64 0) H_20 kn kx3 kx2 Q))
theorem c14_8 (env : Env) (H : Heap) (kn : Value → Value → Value → Heap → Prop) (kx3 : Value → Value → Value → Heap → Prop) (kx2 : Heap → Prop) (Q : Ending → Heap → Prop) (h : m14_8 (env 1) (env 2) (env 6) H kn kx3 kx2 Q) :
    RCode Tryd.prog 68 (codeAt [1, 1, 0, 1, 0, 0, 1, 0, 0] (bodyOf Tryd.f14)) env H (mkK (fun e H => kn (e 1) (e 2) (e 6) H) (inK 3 (fun e H => kx3 (e 1) (e 2) (e 6) H) (inK 2 (fun e H => kx2 H) (fun _ _ _ => False))) (retK T Tryd.f14.results.toList Q) (fun c H => Q (.panicked c) H)) :=
  RCode.prefix_ (T := T) (X := ext) (hint := hint14) (hole := (fun e H => L14_9 (e 1) (e 2) (e 6) (e 7) H kn kx3 kx2 Q)) tok xok mixed 2 (by kernel_rfl) (by kernel_rfl : codeAt _ _ = (codeAt [1, 1, 0, 1, 0, 0, 1, 0, 0, 1, 1] (bodyOf Tryd.f14))) h
    (fun e H h => (cL14_9 e H kn kx3 kx2 Q h))
def m14_7 (x1 x2 x6 : Value) (H : Heap) (kn : Value → Value → Value → Heap → Prop) (kx2 : Heap → Prop) (Q : Ending → Heap → Prop) : Prop :=
m14_8 x1 x2 x6 H kn kn kx2 Q
theorem c14_7 (env : Env) (H : Heap) (kn : Value → Value → Value → Heap → Prop) (kx2 : Heap → Prop) (Q : Ending → Heap → Prop) (h : m14_7 (env 1) (env 2) (env 6) H kn kx2 Q) :
    RCode Tryd.prog 68 (codeAt [1, 1, 0, 1, 0, 0, 1, 0] (bodyOf Tryd.f14)) env H (mkK (fun e H => kn (e 1) (e 2) (e 6) H) (inK 2 (fun e H => kx2 H) (fun _ _ _ => False)) (retK T Tryd.f14.results.toList Q) (fun c H => Q (.panicked c) H)) :=
  RCode.blk (by kernel_rfl : (codeAt [1, 1, 0, 1, 0, 0, 1, 0] (bodyOf Tryd.f14)) = .block 3 (codeAt [1, 1, 0, 1, 0, 0, 1, 0, 0] (bodyOf Tryd.f14))) (c14_8 env H kn kn kx2 Q h)
def m14_5 (x1 x2 x6 : Value) (H : Heap) (kn : Value → Value → Value → Heap → Prop) (kx2 : Heap → Prop) (Q : Ending → Heap → Prop) : Prop :=
oV (vLen x1) fun t35_22 =>
oV (vInt .lss x6 t35_22) fun t36_23 =>
condK t36_23 (
m14_7 x1 x2 x6 H (fun y1_24 y2_25 y6_26 H_27 => m14_6 y1_24 y2_25 y6_26 H_27 kn kx2 Q) kx2 Q) (
kx2 H)
theorem c14_5 (env : Env) (H : Heap) (kn : Value → Value → Value → Heap → Prop) (kx2 : Heap → Prop) (Q : Ending → Heap → Prop) (h : m14_5 (env 1) (env 2) (env 6) H kn kx2 Q) :
    RCode Tryd.prog 68 (codeAt [1, 1, 0, 1, 0, 0] (bodyOf Tryd.f14)) env H (mkK (fun e H => kn (e 1) (e 2) (e 6) H) (inK 2 (fun e H => kx2 H) (fun _ _ _ => False)) (retK T Tryd.f14.results.toList Q) (fun c H => Q (.panicked c) H)) :=
  RCode.prefix_ (T := T) (X := ext) (hint := hint14) (hole := (fun e H => m14_7 (e 1) (e 2) (e 6) H (fun y1_28 y2_29 y6_30 H_31 => m14_6 y1_28 y2_29 y6_30 H_31 kn kx2 Q) kx2 Q)) tok xok mixed 1 (by kernel_rfl) (by kernel_rfl : codeAt _ _ = (codeAt [1, 1, 0, 1, 0, 0, 1] (bodyOf Tryd.f14))) h
    (fun e H h => RCode.join (by kernel_rfl : (codeAt [1, 1, 0, 1, 0, 0, 1] (bodyOf Tryd.f14)) = .seq (codeAt [1, 1, 0, 1, 0, 0, 1, 0] (bodyOf Tryd.f14)) (codeAt [1, 1, 0, 1, 0, 0, 1, 1] (bodyOf Tryd.f14))) ((c14_7 e H (fun y1_32 y2_33 y6_34 H_35 => m14_6 y1_32 y2_33 y6_34 H_35 kn kx2 Q) kx2 Q h).mono (mkK_mono (fun e H h => c14_6 e H kn kx2 Q h) (fun _ _ _ h => h) (fun _ _ h => h) (fun _ _ h => h))))
theorem L14_4_round (x1 x2 x6 : Value) (H : Heap) (kn : Heap → Prop) (Q : Ending → Heap → Prop) (h : m14_5 x1 x2 x6 H (fun y1 y2 y6 H => L14_4 y1 y2 y6 H kn Q) kn Q) : L14_4 x1 x2 x6 H kn Q := by
  intro env h1 h2 h6
  subst h1; subst h2; subst h6
  exact RLoop.round ((c14_5 env H (fun y1 y2 y6 H => L14_4 y1 y2 y6 H kn Q) kn Q h).mono (mkK_mono (fun e H h => h e rfl rfl rfl) (fun _ _ _ h => h) (fun _ _ h => h) (fun _ _ h => h)))
def m14_3 (x1 x2 : Value) (H : Heap) (kn : Heap → Prop) (Q : Ending → Heap → Prop) : Prop :=
L14_4 x1 x2 (.int .i64 0) H kn Q
theorem c14_3 (env : Env) (H : Heap) (kn : Heap → Prop) (Q : Ending → Heap → Prop) (h : m14_3 (env 1) (env 2) H kn Q) :
    RCode Tryd.prog 68 (codeAt [1, 1, 0] (bodyOf Tryd.f14)) env H (mkK (fun e H => kn H) (fun _ _ _ => False) (retK T Tryd.f14.results.toList Q) (fun c H => Q (.panicked c) H)) :=
  RCode.prefix_ (T := T) (X := ext) (hint := hint14) (hole := (fun e H => L14_4 (e 1) (e 2) (e 6) H kn Q)) tok xok mixed 1 (by kernel_rfl) (by kernel_rfl : codeAt _ _ = (codeAt [1, 1, 0, 1] (bodyOf Tryd.f14))) h
    (fun e H h => (cL14_4 e H kn Q h))
def m14_1 (x1 x2 : Value) (H : Heap) (Q : Ending → Heap → Prop) : Prop :=
m14_3 x1 x2 H (fun H_36 => m14_2 H_36 Q) Q
theorem c14_1 (env : Env) (H : Heap) (Q : Ending → Heap → Prop) (h : m14_1 (env 1) (env 2) H Q) :
    RCode Tryd.prog 68 (codeAt [1, 1] (bodyOf Tryd.f14)) env H (mkK (retK T Tryd.f14.results.toList Q) (fun _ _ _ => False) (retK T Tryd.f14.results.toList Q) (fun c H => Q (.panicked c) H)) :=
  RCode.join (by kernel_rfl : (codeAt [1, 1] (bodyOf Tryd.f14)) = .seq (codeAt [1, 1, 0] (bodyOf Tryd.f14)) (codeAt [1, 1, 1] (bodyOf Tryd.f14))) ((c14_3 env H (fun H_37 => m14_2 H_37 Q) Q h).mono (mkK_mono (fun e H h => c14_2 e H Q h) (fun _ _ _ h => h) (fun _ _ h => h) (fun _ _ h => h)))
def L14_12 (x1 x2 x5 : Value) (H : Heap) (kn : Value → Value → Heap → Prop) (Q : Ending → Heap → Prop) : Prop :=
  ∀ env : Env, env 1 = x1 → env 2 = x2 → env 5 = x5 → RLoop Tryd.prog 68 (codeAt [1, 0, 1, 0, 0] (bodyOf Tryd.f14)) env H (mkK (fun _ _ => False) (inK 0 (fun e H => kn (e 1) (e 2) H) (fun _ _ _ => False)) (retK T Tryd.f14.results.toList Q) (fun c H => Q (.panicked c) H))
theorem cL14_12 (env : Env) (H : Heap) (kn : Value → Value → Heap → Prop) (Q : Ending → Heap → Prop) (h : L14_12 (env 1) (env 2) (env 5) H kn Q) :
    RCode Tryd.prog 68 (codeAt [1, 0, 1] (bodyOf Tryd.f14)) env H (mkK (fun e H => kn (e 1) (e 2) H) (fun _ _ _ => False) (retK T Tryd.f14.results.toList Q) (fun c H => Q (.panicked c) H)) :=
  RCode.blk (by kernel_rfl : (codeAt [1, 0, 1] (bodyOf Tryd.f14)) = .block 0 (codeAt [1, 0, 1, 0] (bodyOf Tryd.f14))) (RCode.lp (by kernel_rfl : (codeAt [1, 0, 1, 0] (bodyOf Tryd.f14)) = .loop (codeAt [1, 0, 1, 0, 0] (bodyOf Tryd.f14))) ((h env rfl rfl rfl).mono (mkK_mono (fun _ _ h => h.elim) (fun _ _ _ h => h) (fun _ _ h => h) (fun _ _ h => h))))
def m14_13 (x1 x2 x5 : Value) (H : Heap) (kn : Value → Value → Value → Heap → Prop) (kx0 : Value → Value → Heap → Prop) (Q : Ending → Heap → Prop) : Prop :=
oV (vField 1 x2) fun t9_38 =>
oV (vLoad ty23 t9_38 H) fun t10_39 =>
oV (vLen t10_39) fun t11_40 =>
oV (vInt .lss x5 t11_40) fun t12_41 =>
condK t12_41 (
oV (vField 1 x2) fun t15_42 =>
oV (vLoad ty23 t15_42 H) fun t16_43 =>
oV (vIdxS 5 t16_43 x5) fun t18_44 =>
oV (vField 0 t18_44) fun t19_45 =>
oV (vLoad ty3 t19_45 H) fun t20_46 =>
oV (vInt .eql t20_46 (.int .i64 1)) fun t21_47 =>
oV (gV t21_47 true (vField 1 x2) (some undef)) fun t23_48 =>
oV (gV t21_47 true (vLoad ty23 t23_48 H) (some undef)) fun t24_49 =>
oV (gV t21_47 true (some x5) (some undef)) fun t25_50 =>
oV (gV t21_47 true (vIdxS 5 t24_49 t25_50) (some undef)) fun t26_51 =>
oV (gV t21_47 true (vField 1 t26_51) (some undef)) fun t27_52 =>
oV (gV t21_47 true (vLoad ty3 t27_52 H) (some undef)) fun t28_53 =>
oV (gV t21_47 true (some x1) (some undef)) fun t29_54 =>
oV (gV t21_47 true (vLen t29_54) (some undef)) fun t30_55 =>
oV (gV t21_47 true (vInt .gtr t28_53 t30_55) (some undef)) fun t31_56 =>
oV (vPick t21_47 t31_56 (.bool false)) fun t32_57 =>
condK t32_57 (
Q (.returned (.bool false)) H) (
oV (vInt .add x5 (.int .i64 1)) fun t14_58 =>
kn x1 x2 t14_58 H)) (
kx0 x1 x2 H)
theorem c14_13 (env : Env) (H : Heap) (kn : Value → Value → Value → Heap → Prop) (kx0 : Value → Value → Heap → Prop) (Q : Ending → Heap → Prop) (h : m14_13 (env 1) (env 2) (env 5) H kn kx0 Q) :
    RCode Tryd.prog 68 (codeAt [1, 0, 1, 0, 0] (bodyOf Tryd.f14)) env H (mkK (fun e H => kn (e 1) (e 2) (e 5) H) (inK 0 (fun e H => kx0 (e 1) (e 2) H) (fun _ _ _ => False)) (retK T Tryd.f14.results.toList Q) (fun c H => Q (.panicked c) H)) :=
  RCode.leaf_ (T := T) (X := ext) (hint := hint14) tok xok mixed (by kernel_rfl) h
theorem L14_12_round (x1 x2 x5 : Value) (H : Heap) (kn : Value → Value → Heap → Prop) (Q : Ending → Heap → Prop) (h : m14_13 x1 x2 x5 H (fun y1 y2 y5 H => L14_12 y1 y2 y5 H kn Q) kn Q) : L14_12 x1 x2 x5 H kn Q := by
  intro env h1 h2 h5
  subst h1; subst h2; subst h5
  exact RLoop.round ((c14_13 env H (fun y1 y2 y5 H => L14_12 y1 y2 y5 H kn Q) kn Q h).mono (mkK_mono (fun e H h => h e rfl rfl rfl) (fun _ _ _ h => h) (fun _ _ h => h) (fun _ _ h => h)))
def m14_11 (x1 x2 : Value) (H : Heap) (kn : Value → Value → Heap → Prop) (Q : Ending → Heap → Prop) : Prop :=
L14_12 x1 x2 (.int .i64 0) H kn Q
theorem c14_11 (env : Env) (H : Heap) (kn : Value → Value → Heap → Prop) (Q : Ending → Heap → Prop) (h : m14_11 (env 1) (env 2) H kn Q) :
    RCode Tryd.prog 68 (codeAt [1, 0] (bodyOf Tryd.f14)) env H (mkK (fun e H => kn (e 1) (e 2) H) (fun _ _ _ => False) (retK T Tryd.f14.results.toList Q) (fun c H => Q (.panicked c) H)) :=
  RCode.prefix_ (T := T) (X := ext) (hint := hint14) (hole := (fun e H => L14_12 (e 1) (e 2) (e 5) H kn Q)) tok xok mixed 1 (by kernel_rfl) (by kernel_rfl : codeAt _ _ = (codeAt [1, 0, 1] (bodyOf Tryd.f14))) h
    (fun e H h => (cL14_12 e H kn Q h))
def m14 (x0 x1 : Value) (H : Heap) (Q : Ending → Heap → Prop) : Prop :=
oNew (Value.cells x0).toList (Value.cells x0).toList.length 26 H fun i_59 H_60 =>
m14_11 x1 (ptrTo i_59) H_60 (fun y1_61 y2_62 H_63 => m14_1 y1_61 y2_62 H_63 Q) Q
theorem c14_0 (env : Env) (H : Heap) (Q : Ending → Heap → Prop) (h : m14 (env 0) (env 1) H Q) :
    RCode Tryd.prog 68 (bodyOf Tryd.f14) env H (mkK (retK T Tryd.f14.results.toList Q) (fun _ _ _ => False) (retK T Tryd.f14.results.toList Q) (fun c H => Q (.panicked c) H)) :=
  RCode.prefix_ (T := T) (X := ext) (hint := hint14) (hole := (fun e H => m14_11 (e 1) (e 2) H (fun y1_64 y2_65 H_66 => m14_1 y1_64 y2_65 H_66 Q) Q)) tok xok mixed 1 (by kernel_rfl) (by kernel_rfl : codeAt _ _ = (codeAt [1] (bodyOf Tryd.f14))) h
    (fun e H h => RCode.join (by kernel_rfl : (codeAt [1] (bodyOf Tryd.f14)) = .seq (codeAt [1, 0] (bodyOf Tryd.f14)) (codeAt [1, 1] (bodyOf Tryd.f14))) ((c14_11 e H (fun y1_67 y2_68 H_69 => m14_1 y1_67 y2_68 H_69 Q) Q h).mono (mkK_mono (fun e H h => c14_1 e H Q h) (fun _ _ _ h => h) (fun _ _ h => h) (fun _ _ h => h))))
theorem call14 (a0 a1 : Value) (H : Heap) (Q : Ending → Heap → Prop) (h : m14 a0 a1 H Q) : RCalls Tryd.prog 14 [a0, a1] H Q :=
  RCalls.intro (nt := 68) tok Tryd.func14 (by kernel_rfl) (by kernel_rfl) (by kernel_rfl) (of_decide_eq_true (by kernel_rfl)) (c14_0 (envOf [a0, a1]) H Q h)
/-! ### 15: privity/privityref33.Counts -/
def hint15 : Nat → List Nat := lookupL [(8, [0, 1, 2, 3, 4, 5, 6, 7, 8, 9, 10, 11, 12, 13, 14, 15, 16, 17, 18, 19])]
def m15_2 (x9 : Value) (H : Heap) (Q : Ending → Heap → Prop) : Prop :=
Q (.returned x9) H
theorem c15_2 (env : Env) (H : Heap) (Q : Ending → Heap → Prop) (h : m15_2 (env 9) H Q) :
    RCode Tryd.prog 92 (codeAt [1, 1, 1, 1, 1, 1] (bodyOf Tryd.f15)) env H (mkK (retK T Tryd.f15.results.toList Q) (fun _ _ _ => False) (retK T Tryd.f15.results.toList Q) (fun c H => Q (.panicked c) H)) :=
  RCode.leaf_ (T := T) (X := ext) (hint := hint15) tok xok mixed (by kernel_rfl) h
def L15_4 (x1 x6 x9 x10 : Value) (H : Heap) (kn : Value → Heap → Prop) (Q : Ending → Heap → Prop) : Prop :=
  ∀ env : Env, env 1 = x1 → env 6 = x6 → env 9 = x9 → env 10 = x10 → RLoop Tryd.prog 92 (codeAt [1, 1, 1, 1, 1, 0, 1, 0, 0] (bodyOf Tryd.f15)) env H (mkK (fun _ _ => False) (inK 2 (fun e H => kn (e 9) H) (fun _ _ _ => False)) (retK T Tryd.f15.results.toList Q) (fun c H => Q (.panicked c) H))
theorem cL15_4 (env : Env) (H : Heap) (kn : Value → Heap → Prop) (Q : Ending → Heap → Prop) (h : L15_4 (env 1) (env 6) (env 9) (env 10) H kn Q) :
    RCode Tryd.prog 92 (codeAt [1, 1, 1, 1, 1, 0, 1] (bodyOf Tryd.f15)) env H (mkK (fun e H => kn (e 9) H) (fun _ _ _ => False) (retK T Tryd.f15.results.toList Q) (fun c H => Q (.panicked c) H)) :=
  RCode.blk (by kernel_rfl : (codeAt [1, 1, 1, 1, 1, 0, 1] (bodyOf Tryd.f15)) = .block 2 (codeAt [1, 1, 1, 1, 1, 0, 1, 0] (bodyOf Tryd.f15))) (RCode.lp (by kernel_rfl : (codeAt [1, 1, 1, 1, 1, 0, 1, 0] (bodyOf Tryd.f15)) = .loop (codeAt [1, 1, 1, 1, 1, 0, 1, 0, 0] (bodyOf Tryd.f15))) ((h env rfl rfl rfl rfl).mono (mkK_mono (fun _ _ h => h.elim) (fun _ _ _ h => h) (fun _ _ h => h) (fun _ _ h => h))))
def m15_5 (x1 x6 x9 x10 : Value) (H : Heap) (kn : Value → Value → Value → Value → Heap → Prop) (kx2 : Value → Heap → Prop) (Q : Ending → Heap → Prop) : Prop :=
oV (vLen x1) fun t67_1 =>
oV (vInt .lss x10 t67_1) fun t68_2 =>
condK t68_2 (
oV (vIdxS 1 x6 x10) fun t73_3 =>
oV (vLoad ty4 t73_3 H) fun t74_4 =>
condK t74_4 (
oV (vIdxS 1 x1 x10) fun t78_5 =>
oV (vLoad ty30 t78_5 H) fun t79_6 =>
oV (vLen t79_6) fun t80_7 =>
oMake ty22 22 t80_7 t80_7 H fun s_8 H_9 =>
oBuildS ty30 30 1 [((0, 1), s_8)] H_9 fun s_10 H_11 =>
oAppend ty30 30 x9 s_10 H_11 fun v_12 H_13 =>
oV (vInt .add x10 (.int .i64 1)) fun t70_14 =>
kn x1 x6 v_12 t70_14 H_13) (
oV (vIdxS 1 x1 x10) fun t87_15 =>
oV (vLoad ty30 t87_15 H) fun t88_16 =>
oBuildS ty30 30 1 [((0, 1), t88_16)] H fun s_17 H_18 =>
oAppend ty30 30 x9 s_17 H_18 fun v_19 H_20 =>
oV (vInt .add x10 (.int .i64 1)) fun t70_21 =>
kn x1 x6 v_19 t70_21 H_20)) (
kx2 x9 H)
theorem c15_5 (env : Env) (H : Heap) (kn : Value → Value → Value → Value → Heap → Prop) (kx2 : Value → Heap → Prop) (Q : Ending → Heap → Prop) (h : m15_5 (env 1) (env 6) (env 9) (env 10) H kn kx2 Q) :
    RCode Tryd.prog 92 (codeAt [1, 1, 1, 1, 1, 0, 1, 0, 0] (bodyOf Tryd.f15)) env H (mkK (fun e H => kn (e 1) (e 6) (e 9) (e 10) H) (inK 2 (fun e H => kx2 (e 9) H) (fun _ _ _ => False)) (retK T Tryd.f15.results.toList Q) (fun c H => Q (.panicked c) H)) :=
  RCode.leaf_ (T := T) (X := ext) (hint := hint15) tok xok mixed (by kernel_rfl) h
theorem L15_4_round (x1 x6 x9 x10 : Value) (H : Heap) (kn : Value → Heap → Prop) (Q : Ending → Heap → Prop) (h : m15_5 x1 x6 x9 x10 H (fun y1 y6 y9 y10 H => L15_4 y1 y6 y9 y10 H kn Q) kn Q) : L15_4 x1 x6 x9 x10 H kn Q := by
  intro env h1 h6 h9 h10
  subst h1; subst h6; subst h9; subst h10
  exact RLoop.round ((c15_5 env H (fun y1 y6 y9 y10 H => L15_4 y1 y6 y9 y10 H kn Q) kn Q h).mono (mkK_mono (fun e H h => h e rfl rfl rfl rfl) (fun _ _ _ h => h) (fun _ _ h => h) (fun _ _ h => h)))
def m15_3 (x1 x6 x9 : Value) (H : Heap) (kn : Value → Heap → Prop) (Q : Ending → Heap → Prop) : Prop :=
L15_4 x1 x6 x9 (.int .i64 0) H kn Q
theorem c15_3 (env : Env) (H : Heap) (kn : Value → Heap → Prop) (Q : Ending → Heap → Prop) (h : m15_3 (env 1) (env 6) (env 9) H kn Q) :
    RCode Tryd.prog 92 (codeAt [1, 1, 1, 1, 1, 0] (bodyOf Tryd.f15)) env H (mkK (fun e H => kn (e 9) H) (fun _ _ _ => False) (retK T Tryd.f15.results.toList Q) (fun c H => Q (.panicked c) H)) :=
  RCode.prefix_ (T := T) (X := ext) (hint := hint15) (hole := (fun e H => L15_4 (e 1) (e 6) (e 9) (e 10) H kn Q)) tok xok mixed 1 (by kernel_rfl) (by kernel_rfl : codeAt _ _ = (codeAt [1, 1, 1, 1, 1, 0, 1] (bodyOf Tryd.f15))) h
    (fun e H h => (cL15_4 e H kn Q h))
def m15_1 (x1 x6 : Value) (H : Heap) (Q : Ending → Heap → Prop) : Prop :=
m15_3 x1 x6 (.slice none 0 0) H (fun y9_22 H_23 => m15_2 y9_22 H_23 Q) Q
theorem c15_1 (env : Env) (H : Heap) (Q : Ending → Heap → Prop) (h : m15_1 (env 1) (env 6) H Q) :
    RCode Tryd.prog 92 (codeAt [1, 1, 1, 1] (bodyOf Tryd.f15)) env H (mkK (retK T Tryd.f15.results.toList Q) (fun _ _ _ => False) (retK T Tryd.f15.results.toList Q) (fun c H => Q (.panicked c) H)) :=
  RCode.prefix_ (T := T) (X := ext) (hint := hint15) (hole := (fun e H => m15_3 (e 1) (e 6) (e 9) H (fun y9_24 H_25 => m15_2 y9_24 H_25 Q) Q)) tok xok mixed 1 (by kernel_rfl) (by kernel_rfl : codeAt _ _ = (codeAt [1, 1, 1, 1, 1] (bodyOf Tryd.f15))) h
    (fun e H h => RCode.join (by kernel_rfl : (codeAt [1, 1, 1, 1, 1] (bodyOf Tryd.f15)) = .seq (codeAt [1, 1, 1, 1, 1, 0] (bodyOf Tryd.f15)) (codeAt [1, 1, 1, 1, 1, 1] (bodyOf Tryd.f15))) ((c15_3 e H (fun y9_26 H_27 => m15_2 y9_26 H_27 Q) Q h).mono (mkK_mono (fun e H h => c15_2 e H Q h) (fun _ _ _ h => h) (fun _ _ h => h) (fun _ _ h => h))))
def L15_7 (x1 x2 x5 x6 x7 : Value) (H : Heap) (kn : Value → Value → Heap → Prop) (Q : Ending → Heap → Prop) : Prop :=
  ∀ env : Env, env 1 = x1 → env 2 = x2 → env 5 = x5 → env 6 = x6 → env 7 = x7 → RLoop Tryd.prog 92 (codeAt [1, 1, 1, 0, 1, 0, 0] (bodyOf Tryd.f15)) env H (mkK (fun _ _ => False) (inK 0 (fun e H => kn (e 1) (e 6) H) (fun _ _ _ => False)) (retK T Tryd.f15.results.toList Q) (fun c H => Q (.panicked c) H))
theorem cL15_7 (env : Env) (H : Heap) (kn : Value → Value → Heap → Prop) (Q : Ending → Heap → Prop) (h : L15_7 (env 1) (env 2) (env 5) (env 6) (env 7) H kn Q) :
    RCode Tryd.prog 92 (codeAt [1, 1, 1, 0, 1] (bodyOf Tryd.f15)) env H (mkK (fun e H => kn (e 1) (e 6) H) (fun _ _ _ => False) (retK T Tryd.f15.results.toList Q) (fun c H => Q (.panicked c) H)) :=
  RCode.blk (by kernel_rfl : (codeAt [1, 1, 1, 0, 1] (bodyOf Tryd.f15)) = .block 0 (codeAt [1, 1, 1, 0, 1, 0] (bodyOf Tryd.f15))) (RCode.lp (by kernel_rfl : (codeAt [1, 1, 1, 0, 1, 0] (bodyOf Tryd.f15)) = .loop (codeAt [1, 1, 1, 0, 1, 0, 0] (bodyOf Tryd.f15))) ((h env rfl rfl rfl rfl rfl).mono (mkK_mono (fun _ _ h => h.elim) (fun _ _ _ h => h) (fun _ _ h => h) (fun _ _ h => h))))
def m15_8 (x1 x2 x5 x6 x7 : Value) (H : Heap) (kn : Value → Value → Value → Value → Value → Heap → Prop) (kx0 : Value → Value → Heap → Prop) (Q : Ending → Heap → Prop) : Prop :=
oV (vField 1 x2) fun t18_28 =>
oV (vLoad ty23 t18_28 H) fun t19_29 =>
oV (vLen t19_29) fun t20_30 =>
oV (vInt .lss x7 t20_30) fun t21_31 =>
condK t21_31 (
oV (vField 1 x2) fun t24_32 =>
oV (vLoad ty23 t24_32 H) fun t25_33 =>
oV (vIdxS 5 t25_33 x7) fun t27_34 =>
oV (vLoad ty37 t27_34 H) fun t28_35 =>
oNew (Value.cells ty37.zero).toList (Value.cells ty37.zero).toList.length 37 H fun i_36 H_37 =>
oHeap (vStore ty37 (ptrTo i_36) t28_35 H_37) fun H_38 =>
oV (vField 0 (ptrTo i_36)) fun t29_39 =>
oV (vLoad ty3 t29_39 H_38) fun t30_40 =>
oV (vInt .neq t30_40 (.int .i64 1)) fun t31_41 =>
condK t31_41 (
oV (vInt .add x7 (.int .i64 1)) fun t23_42 =>
kn x1 x2 x5 x6 t23_42 H_38) (
oV (vField 4 (ptrTo i_36)) fun t32_43 =>
oV (vLoad ty22 t32_43 H_38) fun t33_44 =>
oV (vInt .eql t33_44 (.int .u64 1)) fun t34_45 =>
oV (gV t34_45 true (some x1) (some undef)) fun t36_46 =>
oV (gV t34_45 true (vField 1 (ptrTo i_36)) (some undef)) fun t37_47 =>
oV (gV t34_45 true (vLoad ty3 t37_47 H_38) (some undef)) fun t38_48 =>
oV (gV t34_45 true (vInt .sub t38_48 (.int .i64 1)) (some undef)) fun t39_49 =>
oV (gV t34_45 true (vIdxS 1 t36_46 t39_49) (some undef)) fun t40_50 =>
oV (gV t34_45 true (vLoad ty30 t40_50 H_38) (some undef)) fun t41_51 =>
oV (gV t34_45 true (some x5) (some undef)) fun t42_52 =>
oV (gV t34_45 true (vField 1 (ptrTo i_36)) (some undef)) fun t43_53 =>
oV (gV t34_45 true (vLoad ty3 t43_53 H_38) (some undef)) fun t44_54 =>
oV (gV t34_45 true (vInt .sub t44_54 (.int .i64 1)) (some undef)) fun t45_55 =>
oV (gV t34_45 true (vIdxS 1 t42_52 t45_55) (some undef)) fun t46_56 =>
oV (gV t34_45 true (vLoad ty3 t46_56 H_38) (some undef)) fun t47_57 =>
oV (gV t34_45 true (vIdxS 1 t41_51 t47_57) (some undef)) fun t48_58 =>
oV (gV t34_45 true (vLoad ty22 t48_58 H_38) (some undef)) fun t49_59 =>
oV (gV t34_45 true (vInt .gtr t49_59 (.int .u64 1)) (some undef)) fun t50_60 =>
oV (vPick t34_45 t50_60 (.bool false)) fun t51_61 =>
condK t51_61 (
oV (vField 1 (ptrTo i_36)) fun t53_62 =>
oV (vLoad ty3 t53_62 H_38) fun t54_63 =>
oV (vInt .sub t54_63 (.int .i64 1)) fun t55_64 =>
oV (vIdxS 1 x6 t55_64) fun t56_65 =>
oHeap (vStore ty4 t56_65 (.bool true) H_38) fun H_66 =>
oV (vField 1 (ptrTo i_36)) fun t58_67 =>
oV (vLoad ty3 t58_67 H_66) fun t59_68 =>
oV (vInt .sub t59_68 (.int .i64 1)) fun t60_69 =>
oV (vIdxS 1 x5 t60_69) fun t61_70 =>
oV (vLoad ty3 t61_70 H_66) fun t62_71 =>
oV (vInt .add t62_71 (.int .i64 1)) fun t63_72 =>
oV (vIdxS 1 x5 t60_69) fun t64_73 =>
oHeap (vStore ty3 t64_73 t63_72 H_66) fun H_74 =>
oV (vInt .add x7 (.int .i64 1)) fun t23_75 =>
kn x1 x2 x5 x6 t23_75 H_74) (
oV (vField 1 (ptrTo i_36)) fun t58_76 =>
oV (vLoad ty3 t58_76 H_38) fun t59_77 =>
oV (vInt .sub t59_77 (.int .i64 1)) fun t60_78 =>
oV (vIdxS 1 x5 t60_78) fun t61_79 =>
oV (vLoad ty3 t61_79 H_38) fun t62_80 =>
oV (vInt .add t62_80 (.int .i64 1)) fun t63_81 =>
oV (vIdxS 1 x5 t60_78) fun t64_82 =>
oHeap (vStore ty3 t64_82 t63_81 H_38) fun H_83 =>
oV (vInt .add x7 (.int .i64 1)) fun t23_84 =>
kn x1 x2 x5 x6 t23_84 H_83))) (
kx0 x1 x6 H)
theorem c15_8 (env : Env) (H : Heap) (kn : Value → Value → Value → Value → Value → Heap → Prop) (kx0 : Value → Value → Heap → Prop) (Q : Ending → Heap → Prop) (h : m15_8 (env 1) (env 2) (env 5) (env 6) (env 7) H kn kx0 Q) :
    RCode Tryd.prog 92 (codeAt [1, 1, 1, 0, 1, 0, 0] (bodyOf Tryd.f15)) env H (mkK (fun e H => kn (e 1) (e 2) (e 5) (e 6) (e 7) H) (inK 0 (fun e H => kx0 (e 1) (e 6) H) (fun _ _ _ => False)) (retK T Tryd.f15.results.toList Q) (fun c H => Q (.panicked c) H)) :=
  RCode.leaf_ (T := T) (X := ext) (hint := hint15) tok xok mixed (by kernel_rfl) h
theorem L15_7_round (x1 x2 x5 x6 x7 : Value) (H : Heap) (kn : Value → Value → Heap → Prop) (Q : Ending → Heap → Prop) (h : m15_8 x1 x2 x5 x6 x7 H (fun y1 y2 y5 y6 y7 H => L15_7 y1 y2 y5 y6 y7 H kn Q) kn Q) : L15_7 x1 x2 x5 x6 x7 H kn Q := by
  intro env h1 h2 h5 h6 h7
  subst h1; subst h2; subst h5; subst h6; subst h7
  exact RLoop.round ((c15_8 env H (fun y1 y2 y5 y6 y7 H => L15_7 y1 y2 y5 y6 y7 H kn Q) kn Q h).mono (mkK_mono (fun e H h => h e rfl rfl rfl rfl rfl) (fun _ _ _ h => h) (fun _ _ h => h) (fun _ _ h => h)))
def m15_6 (x1 x2 x5 x6 : Value) (H : Heap) (kn : Value → Value → Heap → Prop) (Q : Ending → Heap → Prop) : Prop :=
L15_7 x1 x2 x5 x6 (.int .i64 0) H kn Q
theorem c15_6 (env : Env) (H : Heap) (kn : Value → Value → Heap → Prop) (Q : Ending → Heap → Prop) (h : m15_6 (env 1) (env 2) (env 5) (env 6) H kn Q) :
    RCode Tryd.prog 92 (codeAt [1, 1, 1, 0] (bodyOf Tryd.f15)) env H (mkK (fun e H => kn (e 1) (e 6) H) (fun _ _ _ => False) (retK T Tryd.f15.results.toList Q) (fun c H => Q (.panicked c) H)) :=
  RCode.prefix_ (T := T) (X := ext) (hint := hint15) (hole := (fun e H => L15_7 (e 1) (e 2) (e 5) (e 6) (e 7) H kn Q)) tok xok mixed 1 (by kernel_rfl) (by kernel_rfl : codeAt _ _ = (codeAt [1, 1, 1, 0, 1] (bodyOf Tryd.f15))) h
    (fun e H h => (cL15_7 e H kn Q h))
def m15 (x0 x1 : Value) (H : Heap) (Q : Ending → Heap → Prop) : Prop :=
oNew (Value.cells x0).toList (Value.cells x0).toList.length 26 H fun i_85 H_86 =>
oV (vLen x1) fun t12_87 =>
oMake ty3 3 t12_87 t12_87 H_86 fun s_88 H_89 =>
oV (vLen x1) fun t15_90 =>
oMake ty4 4 t15_90 t15_90 H_89 fun s_91 H_92 =>
m15_6 x1 (ptrTo i_85) s_88 s_91 H_92 (fun y1_93 y6_94 H_95 => m15_1 y1_93 y6_94 H_95 Q) Q
theorem c15_0 (env : Env) (H : Heap) (Q : Ending → Heap → Prop) (h : m15 (env 0) (env 1) H Q) :
    RCode Tryd.prog 92 (bodyOf Tryd.f15) env H (mkK (retK T Tryd.f15.results.toList Q) (fun _ _ _ => False) (retK T Tryd.f15.results.toList Q) (fun c H => Q (.panicked c) H)) :=
  RCode.prefix_ (T := T) (X := ext) (hint := hint15) (hole := (fun e H => m15_6 (e 1) (e 2) (e 5) (e 6) H (fun y1_96 y6_97 H_98 => m15_1 y1_96 y6_97 H_98 Q) Q)) tok xok mixed 3 (by kernel_rfl) (by kernel_rfl : codeAt _ _ = (codeAt [1, 1, 1] (bodyOf Tryd.f15))) h
    (fun e H h => RCode.join (by kernel_rfl : (codeAt [1, 1, 1] (bodyOf Tryd.f15)) = .seq (codeAt [1, 1, 1, 0] (bodyOf Tryd.f15)) (codeAt [1, 1, 1, 1] (bodyOf Tryd.f15))) ((c15_6 e H (fun y1_99 y6_100 H_101 => m15_1 y1_99 y6_100 H_101 Q) Q h).mono (mkK_mono (fun e H h => c15_1 e H Q h) (fun _ _ _ h => h) (fun _ _ h => h) (fun _ _ h => h))))
theorem call15 (a0 a1 : Value) (H : Heap) (Q : Ending → Heap → Prop) (h : m15 a0 a1 H Q) : RCalls Tryd.prog 15 [a0, a1] H Q :=
  RCalls.intro (nt := 92) tok Tryd.func15 (by kernel_rfl) (by kernel_rfl) (by kernel_rfl) (of_decide_eq_true (by kernel_rfl)) (c15_0 (envOf [a0, a1]) H Q h)
/-! ### 16: privity/privityref01.Add -/
def hint16 : Nat → List Nat := lookupL []
def m16 (x0 x1 x2 : Value) (H : Heap) (Q : Ending → Heap → Prop) : Prop :=
oV (vInt .add x1 x2) fun t9_1 =>
oV (vInt .rem t9_1 x0) fun t11_2 =>
Q (.returned t11_2) H
theorem c16_0 (env : Env) (H : Heap) (Q : Ending → Heap → Prop) (h : m16 (env 0) (env 1) (env 2) H Q) :
    RCode Tryd.prog 12 (bodyOf Tryd.f16) env H (mkK (retK T Tryd.f16.results.toList Q) (fun _ _ _ => False) (retK T Tryd.f16.results.toList Q) (fun c H => Q (.panicked c) H)) :=
  RCode.leaf_ (T := T) (X := ext) (hint := hint16) tok xok mixed (by kernel_rfl) h
theorem call16 (a0 a1 a2 : Value) (H : Heap) (Q : Ending → Heap → Prop) (h : m16 a0 a1 a2 H Q) : RCalls Tryd.prog 16 [a0, a1, a2] H Q :=
  RCalls.intro (nt := 12) tok Tryd.func16 (by kernel_rfl) (by kernel_rfl) (by kernel_rfl) (of_decide_eq_true (by kernel_rfl)) (c16_0 (envOf [a0, a1, a2]) H Q h)
/-! ### 17: privity/privityref01.Sub -/
def hint17 : Nat → List Nat := lookupL []
def m17 (x0 x1 x2 : Value) (H : Heap) (Q : Ending → Heap → Prop) : Prop :=
oV (vInt .add x1 x0) fun t9_1 =>
oV (vInt .sub t9_1 x2) fun t11_2 =>
oV (vInt .rem t11_2 x0) fun t13_3 =>
Q (.returned t13_3) H
theorem c17_0 (env : Env) (H : Heap) (Q : Ending → Heap → Prop) (h : m17 (env 0) (env 1) (env 2) H Q) :
    RCode Tryd.prog 14 (bodyOf Tryd.f17) env H (mkK (retK T Tryd.f17.results.toList Q) (fun _ _ _ => False) (retK T Tryd.f17.results.toList Q) (fun c H => Q (.panicked c) H)) :=
  RCode.leaf_ (T := T) (X := ext) (hint := hint17) tok xok mixed (by kernel_rfl) h
theorem call17 (a0 a1 a2 : Value) (H : Heap) (Q : Ending → Heap → Prop) (h : m17 a0 a1 a2 H Q) : RCalls Tryd.prog 17 [a0, a1, a2] H Q :=
  RCalls.intro (nt := 14) tok Tryd.func17 (by kernel_rfl) (by kernel_rfl) (by kernel_rfl) (of_decide_eq_true (by kernel_rfl)) (c17_0 (envOf [a0, a1, a2]) H Q h)
/-! ### 18: privity/privityref01.Mul -/
def hint18 : Nat → List Nat := lookupL []
def m18_1 (x12 : Value) (H : Heap) (Q : Ending → Heap → Prop) : Prop :=
Q (.returned x12) H
theorem c18_1 (env : Env) (H : Heap) (Q : Ending → Heap → Prop) (h : m18_1 (env 12) H Q) :
    RCode Tryd.prog 94 (codeAt [1, 1, 1, 1, 1] (bodyOf Tryd.f18)) env H (mkK (retK T Tryd.f18.results.toList Q) (fun _ _ _ => False) (retK T Tryd.f18.results.toList Q) (fun c H => Q (.panicked c) H)) :=
  RCode.leaf_ (T := T) (X := ext) (hint := hint18) tok xok mixed (by kernel_rfl) h
def L18_2 (x0 x1 x2 x12 : Value) (H : Heap) (kn : Value → Heap → Prop) (Q : Ending → Heap → Prop) : Prop :=
  ∀ env : Env, env 0 = x0 → env 1 = x1 → env 2 = x2 → env 12 = x12 → RLoop Tryd.prog 94 (codeAt [1, 1, 1, 1, 0, 0, 0] (bodyOf Tryd.f18)) env H (mkK (fun _ _ => False) (inK 0 (fun e H => kn (e 12) H) (fun _ _ _ => False)) (retK T Tryd.f18.results.toList Q) (fun c H => Q (.panicked c) H))
theorem cL18_2 (env : Env) (H : Heap) (kn : Value → Heap → Prop) (Q : Ending → Heap → Prop) (h : L18_2 (env 0) (env 1) (env 2) (env 12) H kn Q) :
    RCode Tryd.prog 94 (codeAt [1, 1, 1, 1, 0] (bodyOf Tryd.f18)) env H (mkK (fun e H => kn (e 12) H) (fun _ _ _ => False) (retK T Tryd.f18.results.toList Q) (fun c H => Q (.panicked c) H)) :=
  RCode.blk (by kernel_rfl : (codeAt [1, 1, 1, 1, 0] (bodyOf Tryd.f18)) = .block 0 (codeAt [1, 1, 1, 1, 0, 0] (bodyOf Tryd.f18))) (RCode.lp (by kernel_rfl : (codeAt [1, 1, 1, 1, 0, 0] (bodyOf Tryd.f18)) = .loop (codeAt [1, 1, 1, 1, 0, 0, 0] (bodyOf Tryd.f18))) ((h env rfl rfl rfl rfl).mono (mkK_mono (fun _ _ h => h.elim) (fun _ _ _ h => h) (fun _ _ h => h) (fun _ _ h => h))))
def m18_3 (x0 x1 x2 x12 : Value) (H : Heap) (kn : Value → Value → Value → Value → Heap → Prop) (kx0 : Value → Heap → Prop) (Q : Ending → Heap → Prop) : Prop :=
oV (vInt .gtr x2 (.int .u64 0)) fun t77_1 =>
condK t77_1 (
oV (vInt .rem x2 (.int .u64 2)) fun t79_2 =>
oV (vInt .eql t79_2 (.int .u64 1)) fun t80_3 =>
condK t80_3 (
oV (vInt .add x12 x1) fun t83_4 =>
oV (vInt .rem t83_4 x0) fun t85_5 =>
oV (vInt .add x1 x1) fun t88_6 =>
oV (vInt .rem t88_6 x0) fun t90_7 =>
oV (vInt .quo x2 (.int .u64 2)) fun t92_8 =>
kn x0 t90_7 t92_8 t85_5 H) (
oV (vInt .add x1 x1) fun t88_9 =>
oV (vInt .rem t88_9 x0) fun t90_10 =>
oV (vInt .quo x2 (.int .u64 2)) fun t92_11 =>
kn x0 t90_10 t92_11 x12 H)) (
kx0 x12 H)
theorem c18_3 (env : Env) (H : Heap) (kn : Value → Value → Value → Value → Heap → Prop) (kx0 : Value → Heap → Prop) (Q : Ending → Heap → Prop) (h : m18_3 (env 0) (env 1) (env 2) (env 12) H kn kx0 Q) :
    RCode Tryd.prog 94 (codeAt [1, 1, 1, 1, 0, 0, 0] (bodyOf Tryd.f18)) env H (mkK (fun e H => kn (e 0) (e 1) (e 2) (e 12) H) (inK 0 (fun e H => kx0 (e 12) H) (fun _ _ _ => False)) (retK T Tryd.f18.results.toList Q) (fun c H => Q (.panicked c) H)) :=
  RCode.leaf_ (T := T) (X := ext) (hint := hint18) tok xok mixed (by kernel_rfl) h
theorem L18_2_round (x0 x1 x2 x12 : Value) (H : Heap) (kn : Value → Heap → Prop) (Q : Ending → Heap → Prop) (h : m18_3 x0 x1 x2 x12 H (fun y0 y1 y2 y12 H => L18_2 y0 y1 y2 y12 H kn Q) kn Q) : L18_2 x0 x1 x2 x12 H kn Q := by
  intro env h0 h1 h2 h12
  subst h0; subst h1; subst h2; subst h12
  exact RLoop.round ((c18_3 env H (fun y0 y1 y2 y12 H => L18_2 y0 y1 y2 y12 H kn Q) kn Q h).mono (mkK_mono (fun e H h => h e rfl rfl rfl rfl) (fun _ _ _ h => h) (fun _ _ h => h) (fun _ _ h => h)))
def m18 (x0 x1 x2 : Value) (H : Heap) (Q : Ending → Heap → Prop) : Prop :=
oV (vInt .gtr x0 (.int .u64 0)) fun t14_12 =>
oV (gV t14_12 true (some x0) (some undef)) fun t16_13 =>
oV (gV t14_12 true (vInt .lss t16_13 (.int .u64 2147483648)) (some undef)) fun t17_14 =>
oV (vPick t14_12 t17_14 (.bool false)) fun t18_15 =>
oV (gV t18_15 true (some x1) (some undef)) fun t20_16 =>
oV (gV t18_15 true (vInt .lss t20_16 (.int .u64 2147483648)) (some undef)) fun t21_17 =>
oV (vPick t18_15 t21_17 (.bool false)) fun t22_18 =>
oV (gV t22_18 true (some x2) (some undef)) fun t24_19 =>
oV (gV t22_18 true (vInt .lss t24_19 (.int .u64 2147483648)) (some undef)) fun t25_20 =>
oV (vPick t22_18 t25_20 (.bool false)) fun t26_21 =>
condK t26_21 (
oV (vInt .mul x1 x2) fun t29_22 =>
oV (vInt .rem t29_22 x0) fun t31_23 =>
Q (.returned t31_23) H) (
oV (vInt .eql x0 (.int .u64 2305843009213693951)) fun t33_24 =>
oV (gV t33_24 true (some x1) (some undef)) fun t35_25 =>
oV (gV t33_24 true (some x0) (some undef)) fun t36_26 =>
oV (gV t33_24 true (vInt .lss t35_25 t36_26) (some undef)) fun t37_27 =>
oV (vPick t33_24 t37_27 (.bool false)) fun t38_28 =>
oV (gV t38_28 true (some x2) (some undef)) fun t40_29 =>
oV (gV t38_28 true (some x0) (some undef)) fun t41_30 =>
oV (gV t38_28 true (vInt .lss t40_29 t41_30) (some undef)) fun t42_31 =>
oV (vPick t38_28 t42_31 (.bool false)) fun t43_32 =>
condK t43_32 (
oV (vInt .shr x1 (.int .u64 31)) fun t45_33 =>
oV (vInt .rem x1 (.int .u64 2147483648)) fun t47_34 =>
oV (vInt .shr x2 (.int .u64 31)) fun t49_35 =>
oV (vInt .rem x2 (.int .u64 2147483648)) fun t51_36 =>
oV (vInt .mul t45_33 t51_36) fun t54_37 =>
oV (vInt .mul t47_34 t49_35) fun t57_38 =>
oV (vInt .add t54_37 t57_38) fun t58_39 =>
oV (vInt .mul (.int .u64 2) t45_33) fun t60_40 =>
oV (vInt .mul t60_40 t49_35) fun t62_41 =>
oV (vInt .shr t58_39 (.int .u64 30)) fun t64_42 =>
oV (vInt .add t62_41 t64_42) fun t65_43 =>
oV (vInt .rem t58_39 (.int .u64 1073741824)) fun t67_44 =>
oV (vInt .shl t67_44 (.int .u64 31)) fun t68_45 =>
oV (vInt .add t65_43 t68_45) fun t69_46 =>
oV (vInt .mul t47_34 t51_36) fun t72_47 =>
oV (vInt .add t69_46 t72_47) fun t73_48 =>
oV (vInt .rem t73_48 x0) fun t75_49 =>
Q (.returned t75_49) H) (
L18_2 x0 x1 x2 (.int .u64 0) H (fun y12_50 H_51 => m18_1 y12_50 H_51 Q) Q))
theorem c18_0 (env : Env) (H : Heap) (Q : Ending → Heap → Prop) (h : m18 (env 0) (env 1) (env 2) H Q) :
    RCode Tryd.prog 94 (bodyOf Tryd.f18) env H (mkK (retK T Tryd.f18.results.toList Q) (fun _ _ _ => False) (retK T Tryd.f18.results.toList Q) (fun c H => Q (.panicked c) H)) :=
  RCode.prefix_ (T := T) (X := ext) (hint := hint18) (hole := (fun e H => L18_2 (e 0) (e 1) (e 2) (e 12) H (fun y12_52 H_53 => m18_1 y12_52 H_53 Q) Q)) tok xok mixed 4 (by kernel_rfl) (by kernel_rfl : codeAt _ _ = (codeAt [1, 1, 1, 1] (bodyOf Tryd.f18))) h
    (fun e H h => RCode.join (by kernel_rfl : (codeAt [1, 1, 1, 1] (bodyOf Tryd.f18)) = .seq (codeAt [1, 1, 1, 1, 0] (bodyOf Tryd.f18)) (codeAt [1, 1, 1, 1, 1] (bodyOf Tryd.f18))) ((cL18_2 e H (fun y12_54 H_55 => m18_1 y12_54 H_55 Q) Q h).mono (mkK_mono (fun e H h => c18_1 e H Q h) (fun _ _ _ h => h) (fun _ _ h => h) (fun _ _ h => h))))
theorem call18 (a0 a1 a2 : Value) (H : Heap) (Q : Ending → Heap → Prop) (h : m18 a0 a1 a2 H Q) : RCalls Tryd.prog 18 [a0, a1, a2] H Q :=
  RCalls.intro (nt := 94) tok Tryd.func18 (by kernel_rfl) (by kernel_rfl) (by kernel_rfl) (of_decide_eq_true (by kernel_rfl)) (c18_0 (envOf [a0, a1, a2]) H Q h)
/-! ### 7: privity/privityref33.EvaluateGates -/
def hint7 : Nat → List Nat := lookupL [(13, [0, 1, 2, 3, 4, 5, 6, 7, 8, 9, 10, 11, 12, 13, 14]), (16, [0, 1, 2, 3, 4, 5, 6, 7, 8, 9, 10, 11, 12, 13]), (18, [0, 1, 2, 3, 4, 5, 6, 7, 8, 9, 10, 11, 12, 13]), (20, [0, 1, 2, 3, 4, 5, 6, 7, 8, 9, 10]), (22, [0, 1, 2, 3, 4, 5, 6, 7, 8, 9, 10, 11, 12, 13])]
def m7_1 (x8 : Value) (H : Heap) (Q : Ending → Heap → Prop) : Prop :=
Q (.returned (.tuple #[x8, (.int .i64 0)])) H
theorem c7_1 (env : Env) (H : Heap) (Q : Ending → Heap → Prop) (h : m7_1 (env 8) H Q) :
    RCode Tryd.prog 129 (codeAt [1, 1, 1, 1, 1, 1] (bodyOf Tryd.f7)) env H (mkK (retK T Tryd.f7.results.toList Q) (fun _ _ _ => False) (retK T Tryd.f7.results.toList Q) (fun c H => Q (.panicked c) H)) :=
  RCode.leaf_ (T := T) (X := ext) (hint := hint7) tok xok mixed (by kernel_rfl) h
def L7_3 (x2 x6 x7 x8 x9 : Value) (H : Heap) (kn : Value → Heap → Prop) (Q : Ending → Heap → Prop) : Prop :=
  ∀ env : Env, env 2 = x2 → env 6 = x6 → env 7 = x7 → env 8 = x8 → env 9 = x9 → RLoop Tryd.prog 129 (codeAt [1, 1, 1, 1, 1, 0, 1, 0, 0] (bodyOf Tryd.f7)) env H (mkK (fun _ _ => False) (inK 0 (fun e H => kn (e 8) H) (fun _ _ _ => False)) (retK T Tryd.f7.results.toList Q) (fun c H => Q (.panicked c) H))
theorem cL7_3 (env : Env) (H : Heap) (kn : Value → Heap → Prop) (Q : Ending → Heap → Prop) (h : L7_3 (env 2) (env 6) (env 7) (env 8) (env 9) H kn Q) :
    RCode Tryd.prog 129 (codeAt [1, 1, 1, 1, 1, 0, 1] (bodyOf Tryd.f7)) env H (mkK (fun e H => kn (e 8) H) (fun _ _ _ => False) (retK T Tryd.f7.results.toList Q) (fun c H => Q (.panicked c) H)) :=
  RCode.blk (by kernel_rfl : (codeAt [1, 1, 1, 1, 1, 0, 1] (bodyOf Tryd.f7)) = .block 0 (codeAt [1, 1, 1, 1, 1, 0, 1, 0] (bodyOf Tryd.f7))) (RCode.lp (by kernel_rfl : (codeAt [1, 1, 1, 1, 1, 0, 1, 0] (bodyOf Tryd.f7)) = .loop (codeAt [1, 1, 1, 1, 1, 0, 1, 0, 0] (bodyOf Tryd.f7))) ((h env rfl rfl rfl rfl rfl).mono (mkK_mono (fun _ _ h => h.elim) (fun _ _ _ h => h) (fun _ _ h => h) (fun _ _ h => h))))
def m7_4 (x2 x6 x7 x8 x9 : Value) (H : Heap) (kn : Value → Value → Value → Value → Value → Heap → Prop) (kx0 : Value → Heap → Prop) (Q : Ending → Heap → Prop) : Prop :=
oV (vField 1 x2) fun t28_1 =>
oV (vLoad ty23 t28_1 H) fun t29_2 =>
oV (vLen t29_2) fun t30_3 =>
oV (vInt .lss x9 t30_3) fun t31_4 =>
condK t31_4 (
oV (vField 1 x2) fun t34_5 =>
oV (vLoad ty23 t34_5 H) fun t35_6 =>
oV (vIdxS 5 t35_6 x9) fun t37_7 =>
oV (vLoad ty37 t37_7 H) fun t38_8 =>
oNew (Value.cells ty37.zero).toList (Value.cells ty37.zero).toList.length 37 H fun i_9 H_10 =>
oHeap (vStore ty37 (ptrTo i_9) t38_8 H_10) fun H_11 =>
oV (vField 4 (ptrTo i_9)) fun t39_12 =>
oV (vLoad ty22 t39_12 H_11) fun t40_13 =>
oV (vField 0 (ptrTo i_9)) fun t41_14 =>
oV (vLoad ty3 t41_14 H_11) fun t42_15 =>
oV (vInt .eql t42_15 (.int .i64 1)) fun t44_16 =>
condK t44_16 (
oV (vField 1 (ptrTo i_9)) fun t46_17 =>
oV (vLoad ty3 t46_17 H_11) fun t47_18 =>
oV (vInt .sub t47_18 (.int .i64 1)) fun t48_19 =>
oV (vIdxS 1 x6 t48_19) fun t49_20 =>
oV (vLoad ty30 t49_20 H_11) fun t50_21 =>
oV (vField 1 (ptrTo i_9)) fun t52_22 =>
oV (vLoad ty3 t52_22 H_11) fun t53_23 =>
oV (vInt .sub t53_23 (.int .i64 1)) fun t54_24 =>
oV (vIdxS 1 x7 t54_24) fun t55_25 =>
oV (vLoad ty3 t55_25 H_11) fun t56_26 =>
oV (vIdxS 1 t50_21 t56_26) fun t57_27 =>
oV (vLoad ty22 t57_27 H_11) fun t58_28 =>
oV (vField 1 (ptrTo i_9)) fun t60_29 =>
oV (vLoad ty3 t60_29 H_11) fun t61_30 =>
oV (vInt .sub t61_30 (.int .i64 1)) fun t62_31 =>
oV (vIdxS 1 x7 t62_31) fun t63_32 =>
oV (vLoad ty3 t63_32 H_11) fun t64_33 =>
oV (vInt .add t64_33 (.int .i64 1)) fun t65_34 =>
oV (vIdxS 1 x7 t62_31) fun t66_35 =>
oHeap (vStore ty3 t66_35 t65_34 H_11) fun H_36 =>
oBuildS ty22 22 1 [((0, 1), t58_28)] H_36 fun s_37 H_38 =>
oAppend ty22 22 x8 s_37 H_38 fun v_39 H_40 =>
oV (vInt .add x9 (.int .i64 1)) fun t33_41 =>
kn x2 x6 x7 v_39 t33_41 H_40) (
oV (vInt .eql t42_15 (.int .i64 3)) fun t68_42 =>
condK t68_42 (
oV (vField 0 x2) fun t69_43 =>
oV (vLoad ty22 t69_43 H_11) fun t70_44 =>
oV (vField 2 (ptrTo i_9)) fun t72_45 =>
oV (vLoad ty3 t72_45 H_11) fun t73_46 =>
oV (vIdxS 1 x8 t73_46) fun t74_47 =>
oV (vLoad ty22 t74_47 H_11) fun t75_48 =>
oV (vField 3 (ptrTo i_9)) fun t77_49 =>
oV (vLoad ty3 t77_49 H_11) fun t78_50 =>
oV (vIdxS 1 x8 t78_50) fun t79_51 =>
oV (vLoad ty22 t79_51 H_11) fun t80_52 =>
oRC Tryd.prog 16 [t70_44, t75_48, t80_52] H_11 noP fun v_53 H_54 =>
oBuildS ty22 22 1 [((0, 1), v_53)] H_54 fun s_55 H_56 =>
oAppend ty22 22 x8 s_55 H_56 fun v_57 H_58 =>
oV (vInt .add x9 (.int .i64 1)) fun t33_59 =>
kn x2 x6 x7 v_57 t33_59 H_58) (
oV (vInt .eql t42_15 (.int .i64 4)) fun t83_60 =>
condK t83_60 (
oV (vField 0 x2) fun t84_61 =>
oV (vLoad ty22 t84_61 H_11) fun t85_62 =>
oV (vField 2 (ptrTo i_9)) fun t87_63 =>
oV (vLoad ty3 t87_63 H_11) fun t88_64 =>
oV (vIdxS 1 x8 t88_64) fun t89_65 =>
oV (vLoad ty22 t89_65 H_11) fun t90_66 =>
oV (vField 3 (ptrTo i_9)) fun t92_67 =>
oV (vLoad ty3 t92_67 H_11) fun t93_68 =>
oV (vIdxS 1 x8 t93_68) fun t94_69 =>
oV (vLoad ty22 t94_69 H_11) fun t95_70 =>
oRC Tryd.prog 17 [t85_62, t90_66, t95_70] H_11 noP fun v_71 H_72 =>
oBuildS ty22 22 1 [((0, 1), v_71)] H_72 fun s_73 H_74 =>
oAppend ty22 22 x8 s_73 H_74 fun v_75 H_76 =>
oV (vInt .add x9 (.int .i64 1)) fun t33_77 =>
kn x2 x6 x7 v_75 t33_77 H_76) (
oV (vInt .eql t42_15 (.int .i64 5)) fun t98_78 =>
condK t98_78 (
oV (vField 0 x2) fun t99_79 =>
oV (vLoad ty22 t99_79 H_11) fun t100_80 =>
oV (vField 4 (ptrTo i_9)) fun t101_81 =>
oV (vLoad ty22 t101_81 H_11) fun t102_82 =>
oV (vField 2 (ptrTo i_9)) fun t104_83 =>
oV (vLoad ty3 t104_83 H_11) fun t105_84 =>
oV (vIdxS 1 x8 t105_84) fun t106_85 =>
oV (vLoad ty22 t106_85 H_11) fun t107_86 =>
oRC Tryd.prog 18 [t100_80, t102_82, t107_86] H_11 noP fun v_87 H_88 =>
oBuildS ty22 22 1 [((0, 1), v_87)] H_88 fun s_89 H_90 =>
oAppend ty22 22 x8 s_89 H_90 fun v_91 H_92 =>
oV (vInt .add x9 (.int .i64 1)) fun t33_93 =>
kn x2 x6 x7 v_91 t33_93 H_92) (
oV (vInt .eql t42_15 (.int .i64 6)) fun t110_94 =>
condK t110_94 (
oV (vField 0 x2) fun t111_95 =>
oV (vLoad ty22 t111_95 H_11) fun t112_96 =>
oV (vField 2 (ptrTo i_9)) fun t114_97 =>
oV (vLoad ty3 t114_97 H_11) fun t115_98 =>
oV (vIdxS 1 x8 t115_98) fun t116_99 =>
oV (vLoad ty22 t116_99 H_11) fun t117_100 =>
oV (vField 3 (ptrTo i_9)) fun t119_101 =>
oV (vLoad ty3 t119_101 H_11) fun t120_102 =>
oV (vIdxS 1 x8 t120_102) fun t121_103 =>
oV (vLoad ty22 t121_103 H_11) fun t122_104 =>
oRC Tryd.prog 18 [t112_96, t117_100, t122_104] H_11 noP fun v_105 H_106 =>
oBuildS ty22 22 1 [((0, 1), v_105)] H_106 fun s_107 H_108 =>
oAppend ty22 22 x8 s_107 H_108 fun v_109 H_110 =>
oV (vInt .add x9 (.int .i64 1)) fun t33_111 =>
kn x2 x6 x7 v_109 t33_111 H_110) (
oBuildS ty22 22 1 [((0, 1), t40_13)] H_11 fun s_112 H_113 =>
oAppend ty22 22 x8 s_112 H_113 fun v_114 H_115 =>
oV (vInt .add x9 (.int .i64 1)) fun t33_116 =>
kn x2 x6 x7 v_114 t33_116 H_115)))))) (
kx0 x8 H)
theorem c7_4 (env : Env) (H : Heap) (kn : Value → Value → Value → Value → Value → Heap → Prop) (kx0 : Value → Heap → Prop) (Q : Ending → Heap → Prop) (h : m7_4 (env 2) (env 6) (env 7) (env 8) (env 9) H kn kx0 Q) :
    RCode Tryd.prog 129 (codeAt [1, 1, 1, 1, 1, 0, 1, 0, 0] (bodyOf Tryd.f7)) env H (mkK (fun e H => kn (e 2) (e 6) (e 7) (e 8) (e 9) H) (inK 0 (fun e H => kx0 (e 8) H) (fun _ _ _ => False)) (retK T Tryd.f7.results.toList Q) (fun c H => Q (.panicked c) H)) :=
  RCode.leaf_ (T := T) (X := ext) (hint := hint7) tok xok mixed (by kernel_rfl) h
theorem L7_3_round (x2 x6 x7 x8 x9 : Value) (H : Heap) (kn : Value → Heap → Prop) (Q : Ending → Heap → Prop) (h : m7_4 x2 x6 x7 x8 x9 H (fun y2 y6 y7 y8 y9 H => L7_3 y2 y6 y7 y8 y9 H kn Q) kn Q) : L7_3 x2 x6 x7 x8 x9 H kn Q := by
  intro env h2 h6 h7 h8 h9
  subst h2; subst h6; subst h7; subst h8; subst h9
  exact RLoop.round ((c7_4 env H (fun y2 y6 y7 y8 y9 H => L7_3 y2 y6 y7 y8 y9 H kn Q) kn Q h).mono (mkK_mono (fun e H h => h e rfl rfl rfl rfl rfl) (fun _ _ _ h => h) (fun _ _ h => h) (fun _ _ h => h)))
def m7_2 (x2 x6 x7 x8 : Value) (H : Heap) (kn : Value → Heap → Prop) (Q : Ending → Heap → Prop) : Prop :=
L7_3 x2 x6 x7 x8 (.int .i64 0) H kn Q
theorem c7_2 (env : Env) (H : Heap) (kn : Value → Heap → Prop) (Q : Ending → Heap → Prop) (h : m7_2 (env 2) (env 6) (env 7) (env 8) H kn Q) :
    RCode Tryd.prog 129 (codeAt [1, 1, 1, 1, 1, 0] (bodyOf Tryd.f7)) env H (mkK (fun e H => kn (e 8) H) (fun _ _ _ => False) (retK T Tryd.f7.results.toList Q) (fun c H => Q (.panicked c) H)) :=
  RCode.prefix_ (T := T) (X := ext) (hint := hint7) (hole := (fun e H => L7_3 (e 2) (e 6) (e 7) (e 8) (e 9) H kn Q)) tok xok mixed 1 (by kernel_rfl) (by kernel_rfl : codeAt _ _ = (codeAt [1, 1, 1, 1, 1, 0, 1] (bodyOf Tryd.f7))) h
    (fun e H h => (cL7_3 e H kn Q h))
def m7 (x0 x1 : Value) (H : Heap) (Q : Ending → Heap → Prop) : Prop :=
oNew (Value.cells x0).toList (Value.cells x0).toList.length 26 H fun i_117 H_118 =>
oV (vLoad ty26 (ptrTo i_117) H_118) fun t12_119 =>
oRC Tryd.prog 13 [t12_119] H_118 (fun c H => Q (.panicked c) H) fun v_120 H_121 =>
oV (vUn .not v_120) fun t14_122 =>
oV (gV t14_122 false (vLoad ty26 (ptrTo i_117) H_121) (some undef)) fun t16_123 =>
oV (gV t14_122 false (some x1) (some undef)) fun t17_124 =>
letK (fun t18_126 H_127 =>
oV (gV t14_122 false (vUn .not t18_126) (some undef)) fun t19_128 =>
oV (vPick t14_122 (.bool true) t19_128) fun t20_129 =>
condK t20_129 (
Q (.returned (.tuple #[(.slice none 0 0), (.int .i64 1)])) H_127) (
oV (vLoad ty26 (ptrTo i_117) H_127) fun t21_130 =>
oRC Tryd.prog 15 [t21_130, x1] H_127 (fun c H => Q (.panicked c) H) fun v_131 H_132 =>
oV (vLen v_131) fun t25_133 =>
oMake ty3 3 t25_133 t25_133 H_132 fun s_134 H_135 =>
m7_2 (ptrTo i_117) v_131 s_134 (.slice none 0 0) H_135 (fun y8_136 H_137 => m7_1 y8_136 H_137 Q) Q)) fun k_125 => gK t14_122 false (oRC Tryd.prog 14 [t16_123, t17_124] H_121 (fun c H => Q (.panicked c) H) fun v_138 H_139 =>
k_125 v_138 H_139) (k_125 undef H_121)
theorem c7_0 (env : Env) (H : Heap) (Q : Ending → Heap → Prop) (h : m7 (env 0) (env 1) H Q) :
    RCode Tryd.prog 129 (bodyOf Tryd.f7) env H (mkK (retK T Tryd.f7.results.toList Q) (fun _ _ _ => False) (retK T Tryd.f7.results.toList Q) (fun c H => Q (.panicked c) H)) :=
  RCode.prefix_ (T := T) (X := ext) (hint := hint7) (hole := (fun e H => m7_2 (e 2) (e 6) (e 7) (e 8) H (fun y8_140 H_141 => m7_1 y8_140 H_141 Q) Q)) tok xok mixed 5 (by kernel_rfl) (by kernel_rfl : codeAt _ _ = (codeAt [1, 1, 1, 1, 1] (bodyOf Tryd.f7))) h
    (fun e H h => RCode.join (by kernel_rfl : (codeAt [1, 1, 1, 1, 1] (bodyOf Tryd.f7)) = .seq (codeAt [1, 1, 1, 1, 1, 0] (bodyOf Tryd.f7)) (codeAt [1, 1, 1, 1, 1, 1] (bodyOf Tryd.f7))) ((c7_2 e H (fun y8_142 H_143 => m7_1 y8_142 H_143 Q) Q h).mono (mkK_mono (fun e H h => c7_1 e H Q h) (fun _ _ _ h => h) (fun _ _ h => h) (fun _ _ h => h))))
theorem call7 (a0 a1 : Value) (H : Heap) (Q : Ending → Heap → Prop) (h : m7 a0 a1 H Q) : RCalls Tryd.prog 7 [a0, a1] H Q :=
  RCalls.intro (nt := 129) tok Tryd.func7 (by kernel_rfl) (by kernel_rfl) (by kernel_rfl) (of_decide_eq_true (by kernel_rfl)) (c7_0 (envOf [a0, a1]) H Q h)
/-! ### 9: privity/privityref33.Evaluate -/
def hint9 : Nat → List Nat := lookupL []
def m9_1 (x8 : Value) (H : Heap) (Q : Ending → Heap → Prop) : Prop :=
Q (.returned (.tuple #[x8, (.int .i64 0)])) H
theorem c9_1 (env : Env) (H : Heap) (Q : Ending → Heap → Prop) (h : m9_1 (env 8) H Q) :
    RCode Tryd.prog 38 (codeAt [1, 1, 1, 1, 1] (bodyOf Tryd.f9)) env H (mkK (retK T Tryd.f9.results.toList Q) (fun _ _ _ => False) (retK T Tryd.f9.results.toList Q) (fun c H => Q (.panicked c) H)) :=
  RCode.leaf_ (T := T) (X := ext) (hint := hint9) tok xok mixed (by kernel_rfl) h
def L9_3 (x2 x6 x8 x9 : Value) (H : Heap) (kn : Value → Heap → Prop) (Q : Ending → Heap → Prop) : Prop :=
  ∀ env : Env, env 2 = x2 → env 6 = x6 → env 8 = x8 → env 9 = x9 → RLoop Tryd.prog 38 (codeAt [1, 1, 1, 1, 0, 1, 0, 0] (bodyOf Tryd.f9)) env H (mkK (fun _ _ => False) (inK 0 (fun e H => kn (e 8) H) (fun _ _ _ => False)) (retK T Tryd.f9.results.toList Q) (fun c H => Q (.panicked c) H))
theorem cL9_3 (env : Env) (H : Heap) (kn : Value → Heap → Prop) (Q : Ending → Heap → Prop) (h : L9_3 (env 2) (env 6) (env 8) (env 9) H kn Q) :
    RCode Tryd.prog 38 (codeAt [1, 1, 1, 1, 0, 1] (bodyOf Tryd.f9)) env H (mkK (fun e H => kn (e 8) H) (fun _ _ _ => False) (retK T Tryd.f9.results.toList Q) (fun c H => Q (.panicked c) H)) :=
  RCode.blk (by kernel_rfl : (codeAt [1, 1, 1, 1, 0, 1] (bodyOf Tryd.f9)) = .block 0 (codeAt [1, 1, 1, 1, 0, 1, 0] (bodyOf Tryd.f9))) (RCode.lp (by kernel_rfl : (codeAt [1, 1, 1, 1, 0, 1, 0] (bodyOf Tryd.f9)) = .loop (codeAt [1, 1, 1, 1, 0, 1, 0, 0] (bodyOf Tryd.f9))) ((h env rfl rfl rfl rfl).mono (mkK_mono (fun _ _ h => h.elim) (fun _ _ _ h => h) (fun _ _ h => h) (fun _ _ h => h))))
def m9_4 (x2 x6 x8 x9 : Value) (H : Heap) (kn : Value → Value → Value → Value → Heap → Prop) (kx0 : Value → Heap → Prop) (Q : Ending → Heap → Prop) : Prop :=
oV (vField 2 x2) fun t20_1 =>
oV (vLoad ty24 t20_1 H) fun t21_2 =>
oV (vLen t21_2) fun t22_3 =>
oV (vInt .lss x9 t22_3) fun t23_4 =>
condK t23_4 (
oV (vField 2 x2) fun t28_5 =>
oV (vLoad ty24 t28_5 H) fun t29_6 =>
oV (vIdxS 1 t29_6 x9) fun t31_7 =>
oV (vLoad ty3 t31_7 H) fun t32_8 =>
oV (vIdxS 1 x6 t32_8) fun t33_9 =>
oV (vLoad ty22 t33_9 H) fun t34_10 =>
oBuildS ty22 22 1 [((0, 1), t34_10)] H fun s_11 H_12 =>
oAppend ty22 22 x8 s_11 H_12 fun v_13 H_14 =>
oV (vInt .add x9 (.int .i64 1)) fun t25_15 =>
kn x2 x6 v_13 t25_15 H_14) (
kx0 x8 H)
theorem c9_4 (env : Env) (H : Heap) (kn : Value → Value → Value → Value → Heap → Prop) (kx0 : Value → Heap → Prop) (Q : Ending → Heap → Prop) (h : m9_4 (env 2) (env 6) (env 8) (env 9) H kn kx0 Q) :
    RCode Tryd.prog 38 (codeAt [1, 1, 1, 1, 0, 1, 0, 0] (bodyOf Tryd.f9)) env H (mkK (fun e H => kn (e 2) (e 6) (e 8) (e 9) H) (inK 0 (fun e H => kx0 (e 8) H) (fun _ _ _ => False)) (retK T Tryd.f9.results.toList Q) (fun c H => Q (.panicked c) H)) :=
  RCode.leaf_ (T := T) (X := ext) (hint := hint9) tok xok mixed (by kernel_rfl) h
theorem L9_3_round (x2 x6 x8 x9 : Value) (H : Heap) (kn : Value → Heap → Prop) (Q : Ending → Heap → Prop) (h : m9_4 x2 x6 x8 x9 H (fun y2 y6 y8 y9 H => L9_3 y2 y6 y8 y9 H kn Q) kn Q) : L9_3 x2 x6 x8 x9 H kn Q := by
  intro env h2 h6 h8 h9
  subst h2; subst h6; subst h8; subst h9
  exact RLoop.round ((c9_4 env H (fun y2 y6 y8 y9 H => L9_3 y2 y6 y8 y9 H kn Q) kn Q h).mono (mkK_mono (fun e H h => h e rfl rfl rfl rfl) (fun _ _ _ h => h) (fun _ _ h => h) (fun _ _ h => h)))
def m9_2 (x2 x6 x8 : Value) (H : Heap) (kn : Value → Heap → Prop) (Q : Ending → Heap → Prop) : Prop :=
L9_3 x2 x6 x8 (.int .i64 0) H kn Q
theorem c9_2 (env : Env) (H : Heap) (kn : Value → Heap → Prop) (Q : Ending → Heap → Prop) (h : m9_2 (env 2) (env 6) (env 8) H kn Q) :
    RCode Tryd.prog 38 (codeAt [1, 1, 1, 1, 0] (bodyOf Tryd.f9)) env H (mkK (fun e H => kn (e 8) H) (fun _ _ _ => False) (retK T Tryd.f9.results.toList Q) (fun c H => Q (.panicked c) H)) :=
  RCode.prefix_ (T := T) (X := ext) (hint := hint9) (hole := (fun e H => L9_3 (e 2) (e 6) (e 8) (e 9) H kn Q)) tok xok mixed 1 (by kernel_rfl) (by kernel_rfl : codeAt _ _ = (codeAt [1, 1, 1, 1, 0, 1] (bodyOf Tryd.f9))) h
    (fun e H h => (cL9_3 e H kn Q h))
def m9 (x0 x1 : Value) (H : Heap) (Q : Ending → Heap → Prop) : Prop :=
oNew (Value.cells x0).toList (Value.cells x0).toList.length 26 H fun i_16 H_17 =>
oV (vLoad ty26 (ptrTo i_16) H_17) fun t11_18 =>
oRC Tryd.prog 7 [t11_18, x1] H_17 (fun c H => Q (.panicked c) H) fun v_19 H_20 =>
oV (vExtract v_19 0) fun t14_21 =>
oV (vExtract v_19 1) fun t15_22 =>
oV (vInt .neq t15_22 (.int .i64 0)) fun t17_23 =>
condK t17_23 (
Q (.returned (.tuple #[(.slice none 0 0), t15_22])) H_20) (
m9_2 (ptrTo i_16) t14_21 (.slice none 0 0) H_20 (fun y8_24 H_25 => m9_1 y8_24 H_25 Q) Q)
theorem c9_0 (env : Env) (H : Heap) (Q : Ending → Heap → Prop) (h : m9 (env 0) (env 1) H Q) :
    RCode Tryd.prog 38 (bodyOf Tryd.f9) env H (mkK (retK T Tryd.f9.results.toList Q) (fun _ _ _ => False) (retK T Tryd.f9.results.toList Q) (fun c H => Q (.panicked c) H)) :=
  RCode.prefix_ (T := T) (X := ext) (hint := hint9) (hole := (fun e H => m9_2 (e 2) (e 6) (e 8) H (fun y8_26 H_27 => m9_1 y8_26 H_27 Q) Q)) tok xok mixed 4 (by kernel_rfl) (by kernel_rfl : codeAt _ _ = (codeAt [1, 1, 1, 1] (bodyOf Tryd.f9))) h
    (fun e H h => RCode.join (by kernel_rfl : (codeAt [1, 1, 1, 1] (bodyOf Tryd.f9)) = .seq (codeAt [1, 1, 1, 1, 0] (bodyOf Tryd.f9)) (codeAt [1, 1, 1, 1, 1] (bodyOf Tryd.f9))) ((c9_2 e H (fun y8_28 H_29 => m9_1 y8_28 H_29 Q) Q h).mono (mkK_mono (fun e H h => c9_1 e H Q h) (fun _ _ _ h => h) (fun _ _ h => h) (fun _ _ h => h))))
theorem call9 (a0 a1 : Value) (H : Heap) (Q : Ending → Heap → Prop) (h : m9 a0 a1 H Q) : RCalls Tryd.prog 9 [a0, a1] H Q :=
  RCalls.intro (nt := 38) tok Tryd.func9 (by kernel_rfl) (by kernel_rfl) (by kernel_rfl) (of_decide_eq_true (by kernel_rfl)) (c9_0 (envOf [a0, a1]) H Q h)
/-! ### 3: privity/privitylaw33.CleartextEvaluate -/
def hint3 : Nat → List Nat := lookupL []
def m3 (x0 x1 : Value) (H : Heap) (Q : Ending → Heap → Prop) : Prop :=
oNew (Value.cells x0).toList (Value.cells x0).toList.length 26 H fun i_1 H_2 =>
oV (vLoad ty26 (ptrTo i_1) H_2) fun t13_3 =>
oRC Tryd.prog 4 [t13_3, x1, (.int .i64 60)] H_2 (fun c H => Q (.panicked c) H) fun v_4 H_5 =>
oV (vUn .not v_4) fun t16_6 =>
condK t16_6 (
oRC Tryd.prog 5 [] H_5 (fun c H => Q (.panicked c) H) fun v_7 H_8 =>
Q (.returned v_7) H_8) (
oV (vLoad ty26 (ptrTo i_1) H_5) fun t19_9 =>
oRC Tryd.prog 6 [t19_9, x1] H_5 (fun c H => Q (.panicked c) H) fun v_10 H_11 =>
oV (vExtract v_10 0) fun t22_12 =>
oV (vExtract v_10 1) fun t23_13 =>
oV (vLoad ty26 (ptrTo i_1) H_11) fun t25_14 =>
oRC Tryd.prog 7 [t25_14, x1] H_11 (fun c H => Q (.panicked c) H) fun v_15 H_16 =>
oV (vExtract v_15 0) fun t28_17 =>
oV (vExtract v_15 1) fun t29_18 =>
oV (vLoad ty26 (ptrTo i_1) H_16) fun t31_19 =>
oRC Tryd.prog 8 [t31_19, x1] H_16 (fun c H => Q (.panicked c) H) fun v_20 H_21 =>
oV (vExtract v_20 0) fun t34_22 =>
oV (vExtract v_20 1) fun t35_23 =>
oV (vLoad ty26 (ptrTo i_1) H_21) fun t37_24 =>
oRC Tryd.prog 9 [t37_24, x1] H_21 (fun c H => Q (.panicked c) H) fun v_25 H_26 =>
oV (vExtract v_25 0) fun t40_27 =>
oV (vExtract v_25 1) fun t41_28 =>
oRC Tryd.prog 5 [] H_26 (fun c H => Q (.panicked c) H) fun v_29 H_30 =>
oV (gV v_29 true (some t23_13) (some undef)) fun t44_31 =>
oV (gV v_29 true (some t29_18) (some undef)) fun t45_32 =>
oV (gV v_29 true (vInt .eql t44_31 t45_32) (some undef)) fun t46_33 =>
oV (vPick v_29 t46_33 (.bool false)) fun t47_34 =>
oV (gV t47_34 true (some t35_23) (some undef)) fun t49_35 =>
oV (gV t47_34 true (some t41_28) (some undef)) fun t50_36 =>
oV (gV t47_34 true (vInt .eql t49_35 t50_36) (some undef)) fun t51_37 =>
oV (vPick t47_34 t51_37 (.bool false)) fun t52_38 =>
oV (gV t52_38 true (some t22_12) (some undef)) fun t54_39 =>
oV (gV t52_38 true (some t28_17) (some undef)) fun t55_40 =>
letK (fun t56_42 H_43 =>
oV (vPick t52_38 t56_42 (.bool false)) fun t57_44 =>
oV (gV t57_44 true (some t34_22) (some undef)) fun t59_45 =>
oV (gV t57_44 true (some t40_27) (some undef)) fun t60_46 =>
letK (fun t61_48 H_49 =>
oV (vPick t57_44 t61_48 (.bool false)) fun t62_50 =>
Q (.returned t62_50) H_49) fun k_47 => gK t57_44 true (oRC Tryd.prog 10 [t59_45, t60_46] H_43 (fun c H => Q (.panicked c) H) fun v_51 H_52 =>
k_47 v_51 H_52) (k_47 undef H_43)) fun k_41 => gK t52_38 true (oRC Tryd.prog 10 [t54_39, t55_40] H_30 (fun c H => Q (.panicked c) H) fun v_53 H_54 =>
k_41 v_53 H_54) (k_41 undef H_30))
theorem c3_0 (env : Env) (H : Heap) (Q : Ending → Heap → Prop) (h : m3 (env 0) (env 1) H Q) :
    RCode Tryd.prog 63 (bodyOf Tryd.f3) env H (mkK (retK T Tryd.f3.results.toList Q) (fun _ _ _ => False) (retK T Tryd.f3.results.toList Q) (fun c H => Q (.panicked c) H)) :=
  RCode.leaf_ (T := T) (X := ext) (hint := hint3) tok xok mixed (by kernel_rfl) h
theorem call3 (a0 a1 : Value) (H : Heap) (Q : Ending → Heap → Prop) (h : m3 a0 a1 H Q) : RCalls Tryd.prog 3 [a0, a1] H Q :=
  RCalls.intro (nt := 63) tok Tryd.func3 (by kernel_rfl) (by kernel_rfl) (by kernel_rfl) (of_decide_eq_true (by kernel_rfl)) (c3_0 (envOf [a0, a1]) H Q h)
end Go.Proofs.YtpbaoefjkfdgmaaDoor.SL
