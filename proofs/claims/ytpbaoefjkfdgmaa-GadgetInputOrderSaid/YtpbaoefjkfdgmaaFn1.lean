/- PRINTED by program: for each function what its code asks of what is known, and that it suffices. Not trusted: Lean checks it. -/
import Derived.Test.YtpbaoefjkfdgmaaTab
set_option linter.unusedVariables false
set_option linter.unusedSimpArgs false
set_option maxRecDepth 100000
namespace Go.Proofs.Ytpbaoefjkfdgmaa.SL
open Go
/-! ### 24: privity/privityref05.Below -/
def hint24 : Nat → List Nat := lookupL []
def m24_1 (H : Heap) (Q : Ending → Heap → Prop) : Prop :=
Q (.returned (.bool true)) H
theorem c24_1 (env : Env) (H : Heap) (Q : Ending → Heap → Prop) (h : m24_1 H Q) :
    RCode Try.prog 18 (codeAt [1, 1] (bodyOf Try.f24)) env H (mkK (retK T Try.f24.results.toList Q) (fun _ _ _ => False) (retK T Try.f24.results.toList Q) (fun c H => Q (.panicked c) H)) :=
  RCode.leaf_ (T := T) (X := ext) (hint := hint24) tok xok mixed (by kernel_rfl) h
def L24_3 (x0 x1 x5 : Value) (H : Heap) (kn : Heap → Prop) (Q : Ending → Heap → Prop) : Prop :=
  ∀ env : Env, env 0 = x0 → env 1 = x1 → env 5 = x5 → RLoop Try.prog 18 (codeAt [1, 0, 1, 0, 0] (bodyOf Try.f24)) env H (mkK (fun _ _ => False) (inK 0 (fun e H => kn H) (fun _ _ _ => False)) (retK T Try.f24.results.toList Q) (fun c H => Q (.panicked c) H))
theorem cL24_3 (env : Env) (H : Heap) (kn : Heap → Prop) (Q : Ending → Heap → Prop) (h : L24_3 (env 0) (env 1) (env 5) H kn Q) :
    RCode Try.prog 18 (codeAt [1, 0, 1] (bodyOf Try.f24)) env H (mkK (fun e H => kn H) (fun _ _ _ => False) (retK T Try.f24.results.toList Q) (fun c H => Q (.panicked c) H)) :=
  RCode.blk (by kernel_rfl : (codeAt [1, 0, 1] (bodyOf Try.f24)) = .block 0 (codeAt [1, 0, 1, 0] (bodyOf Try.f24))) (RCode.lp (by kernel_rfl : (codeAt [1, 0, 1, 0] (bodyOf Try.f24)) = .loop (codeAt [1, 0, 1, 0, 0] (bodyOf Try.f24))) ((h env rfl rfl rfl).mono (mkK_mono (fun _ _ h => h.elim) (fun _ _ _ h => h) (fun _ _ h => h) (fun _ _ h => h))))
def m24_4 (x0 x1 x5 : Value) (H : Heap) (kn : Value → Value → Value → Heap → Prop) (kx0 : Heap → Prop) (Q : Ending → Heap → Prop) : Prop :=
oV (vLen x1) fun t8_1 =>
oV (vInt .lss x5 t8_1) fun t9_2 =>
condK t9_2 (
oV (vIdxS 1 x1 x5) fun t14_3 =>
oV (vLoad ty22 t14_3 H) fun t15_4 =>
oV (vInt .geq t15_4 x0) fun t17_5 =>
condK t17_5 (
Q (.returned (.bool false)) H) (
oV (vInt .add x5 (.int .i64 1)) fun t11_6 =>
kn x0 x1 t11_6 H)) (
kx0 H)
theorem c24_4 (env : Env) (H : Heap) (kn : Value → Value → Value → Heap → Prop) (kx0 : Heap → Prop) (Q : Ending → Heap → Prop) (h : m24_4 (env 0) (env 1) (env 5) H kn kx0 Q) :
    RCode Try.prog 18 (codeAt [1, 0, 1, 0, 0] (bodyOf Try.f24)) env H (mkK (fun e H => kn (e 0) (e 1) (e 5) H) (inK 0 (fun e H => kx0 H) (fun _ _ _ => False)) (retK T Try.f24.results.toList Q) (fun c H => Q (.panicked c) H)) :=
  RCode.leaf_ (T := T) (X := ext) (hint := hint24) tok xok mixed (by kernel_rfl) h
theorem L24_3_round (x0 x1 x5 : Value) (H : Heap) (kn : Heap → Prop) (Q : Ending → Heap → Prop) (h : m24_4 x0 x1 x5 H (fun y0 y1 y5 H => L24_3 y0 y1 y5 H kn Q) kn Q) : L24_3 x0 x1 x5 H kn Q := by
  intro env h0 h1 h5
  subst h0; subst h1; subst h5
  exact RLoop.round ((c24_4 env H (fun y0 y1 y5 H => L24_3 y0 y1 y5 H kn Q) kn Q h).mono (mkK_mono (fun e H h => h e rfl rfl rfl) (fun _ _ _ h => h) (fun _ _ h => h) (fun _ _ h => h)))
def m24_2 (x0 x1 : Value) (H : Heap) (kn : Heap → Prop) (Q : Ending → Heap → Prop) : Prop :=
L24_3 x0 x1 (.int .i64 0) H kn Q
theorem c24_2 (env : Env) (H : Heap) (kn : Heap → Prop) (Q : Ending → Heap → Prop) (h : m24_2 (env 0) (env 1) H kn Q) :
    RCode Try.prog 18 (codeAt [1, 0] (bodyOf Try.f24)) env H (mkK (fun e H => kn H) (fun _ _ _ => False) (retK T Try.f24.results.toList Q) (fun c H => Q (.panicked c) H)) :=
  RCode.prefix_ (T := T) (X := ext) (hint := hint24) (hole := (fun e H => L24_3 (e 0) (e 1) (e 5) H kn Q)) tok xok mixed 1 (by kernel_rfl) (by kernel_rfl : codeAt _ _ = (codeAt [1, 0, 1] (bodyOf Try.f24))) h
    (fun e H h => (cL24_3 e H kn Q h))
def m24 (x0 x1 : Value) (H : Heap) (Q : Ending → Heap → Prop) : Prop :=
m24_2 x0 x1 H (fun H_7 => m24_1 H_7 Q) Q
theorem c24_0 (env : Env) (H : Heap) (Q : Ending → Heap → Prop) (h : m24 (env 0) (env 1) H Q) :
    RCode Try.prog 18 (bodyOf Try.f24) env H (mkK (retK T Try.f24.results.toList Q) (fun _ _ _ => False) (retK T Try.f24.results.toList Q) (fun c H => Q (.panicked c) H)) :=
  RCode.prefix_ (T := T) (X := ext) (hint := hint24) (hole := (fun e H => m24_2 (e 0) (e 1) H (fun H_8 => m24_1 H_8 Q) Q)) tok xok mixed 1 (by kernel_rfl) (by kernel_rfl : codeAt _ _ = (codeAt [1] (bodyOf Try.f24))) h
    (fun e H h => RCode.join (by kernel_rfl : (codeAt [1] (bodyOf Try.f24)) = .seq (codeAt [1, 0] (bodyOf Try.f24)) (codeAt [1, 1] (bodyOf Try.f24))) ((c24_2 e H (fun H_9 => m24_1 H_9 Q) Q h).mono (mkK_mono (fun e H h => c24_1 e H Q h) (fun _ _ _ h => h) (fun _ _ h => h) (fun _ _ h => h))))
theorem call24 (a0 a1 : Value) (H : Heap) (Q : Ending → Heap → Prop) (h : m24 a0 a1 H Q) : RCalls Try.prog 24 [a0, a1] H Q :=
  RCalls.intro (nt := 18) tok Try.func24 (by kernel_rfl) (by kernel_rfl) (by kernel_rfl) (of_decide_eq_true (by kernel_rfl)) (c24_0 (envOf [a0, a1]) H Q h)
/-! ### 4: privity/privitylaw34.GadgetInputOrder -/
def hint4 : Nat → List Nat := lookupL [(15, [0, 1, 2, 3, 4, 5, 6, 7, 8, 9, 10, 11, 12, 13, 14, 15])]
def m4_2 (x1 x2 x8 x13 x14 : Value) (H : Heap) (Q : Ending → Heap → Prop) : Prop :=
oV (vLen x1) fun t106_1 =>
oV (vInt .eql x14 t106_1) fun t107_2 =>
oV (gV t107_2 true (vLoad ty40 x13 H) (some undef)) fun t109_3 =>
oV (gV t107_2 true (some x8) (some undef)) fun t110_4 =>
oV (gV t107_2 true (some x2) (some undef)) fun t111_5 =>
letK (fun t112_7 H_8 =>
oV (vPick t107_2 t112_7 (.bool false)) fun t113_9 =>
Q (.returned t113_9) H_8) fun k_6 => gK t107_2 true (oRC Try.prog 22 [t109_3, t110_4, t111_5] H (fun c H => Q (.panicked c) H) fun v_10 H_11 =>
k_6 v_10 H_11) (k_6 undef H)
theorem c4_2 (env : Env) (H : Heap) (Q : Ending → Heap → Prop) (h : m4_2 (env 1) (env 2) (env 8) (env 13) (env 14) H Q) :
    RCode Try.prog 114 (codeAt [1, 1, 1, 1, 1, 1, 1, 1, 1, 1] (bodyOf Try.f4)) env H (mkK (retK T Try.f4.results.toList Q) (fun _ _ _ => False) (retK T Try.f4.results.toList Q) (fun c H => Q (.panicked c) H)) :=
  RCode.leaf_ (T := T) (X := ext) (hint := hint4) tok xok mixed (by kernel_rfl) h
def L4_4 (x1 x2 x8 x13 x14 x15 : Value) (H : Heap) (kn : Value → Value → Value → Value → Value → Heap → Prop) (Q : Ending → Heap → Prop) : Prop :=
  ∀ env : Env, env 1 = x1 → env 2 = x2 → env 8 = x8 → env 13 = x13 → env 14 = x14 → env 15 = x15 → RLoop Try.prog 114 (codeAt [1, 1, 1, 1, 1, 1, 1, 1, 1, 0, 1, 0, 0] (bodyOf Try.f4)) env H (mkK (fun _ _ => False) (inK 2 (fun e H => kn (e 1) (e 2) (e 8) (e 13) (e 14) H) (fun _ _ _ => False)) (retK T Try.f4.results.toList Q) (fun c H => Q (.panicked c) H))
theorem cL4_4 (env : Env) (H : Heap) (kn : Value → Value → Value → Value → Value → Heap → Prop) (Q : Ending → Heap → Prop) (h : L4_4 (env 1) (env 2) (env 8) (env 13) (env 14) (env 15) H kn Q) :
    RCode Try.prog 114 (codeAt [1, 1, 1, 1, 1, 1, 1, 1, 1, 0, 1] (bodyOf Try.f4)) env H (mkK (fun e H => kn (e 1) (e 2) (e 8) (e 13) (e 14) H) (fun _ _ _ => False) (retK T Try.f4.results.toList Q) (fun c H => Q (.panicked c) H)) :=
  RCode.blk (by kernel_rfl : (codeAt [1, 1, 1, 1, 1, 1, 1, 1, 1, 0, 1] (bodyOf Try.f4)) = .block 2 (codeAt [1, 1, 1, 1, 1, 1, 1, 1, 1, 0, 1, 0] (bodyOf Try.f4))) (RCode.lp (by kernel_rfl : (codeAt [1, 1, 1, 1, 1, 1, 1, 1, 1, 0, 1, 0] (bodyOf Try.f4)) = .loop (codeAt [1, 1, 1, 1, 1, 1, 1, 1, 1, 0, 1, 0, 0] (bodyOf Try.f4))) ((h env rfl rfl rfl rfl rfl rfl).mono (mkK_mono (fun _ _ h => h.elim) (fun _ _ _ h => h) (fun _ _ h => h) (fun _ _ h => h))))
def m4_5 (x1 x2 x8 x13 x14 x15 : Value) (H : Heap) (kn : Value → Value → Value → Value → Value → Value → Heap → Prop) (kx2 : Value → Value → Value → Value → Value → Heap → Prop) (Q : Ending → Heap → Prop) : Prop :=
oV (vField 1 x13) fun t89_12 =>
oV (vLoad ty37 t89_12 H) fun t90_13 =>
oV (vLen t90_13) fun t91_14 =>
oV (vInt .lss x15 t91_14) fun t92_15 =>
condK t92_15 (
oV (vField 1 x13) fun t95_16 =>
oV (vLoad ty37 t95_16 H) fun t96_17 =>
oV (vIdxS 5 t96_17 x15) fun t98_18 =>
oV (vField 0 t98_18) fun t99_19 =>
oV (vLoad ty3 t99_19 H) fun t100_20 =>
oV (vInt .eql t100_20 (.int .i64 1)) fun t101_21 =>
condK t101_21 (
oV (vInt .add x14 (.int .i64 1)) fun t103_22 =>
oV (vInt .add x15 (.int .i64 1)) fun t94_23 =>
kn x1 x2 x8 x13 t103_22 t94_23 H) (
oV (vInt .add x15 (.int .i64 1)) fun t94_24 =>
kn x1 x2 x8 x13 x14 t94_24 H)) (
kx2 x1 x2 x8 x13 x14 H)
theorem c4_5 (env : Env) (H : Heap) (kn : Value → Value → Value → Value → Value → Value → Heap → Prop) (kx2 : Value → Value → Value → Value → Value → Heap → Prop) (Q : Ending → Heap → Prop) (h : m4_5 (env 1) (env 2) (env 8) (env 13) (env 14) (env 15) H kn kx2 Q) :
    RCode Try.prog 114 (codeAt [1, 1, 1, 1, 1, 1, 1, 1, 1, 0, 1, 0, 0] (bodyOf Try.f4)) env H (mkK (fun e H => kn (e 1) (e 2) (e 8) (e 13) (e 14) (e 15) H) (inK 2 (fun e H => kx2 (e 1) (e 2) (e 8) (e 13) (e 14) H) (fun _ _ _ => False)) (retK T Try.f4.results.toList Q) (fun c H => Q (.panicked c) H)) :=
  RCode.leaf_ (T := T) (X := ext) (hint := hint4) tok xok mixed (by kernel_rfl) h
theorem L4_4_round (x1 x2 x8 x13 x14 x15 : Value) (H : Heap) (kn : Value → Value → Value → Value → Value → Heap → Prop) (Q : Ending → Heap → Prop) (h : m4_5 x1 x2 x8 x13 x14 x15 H (fun y1 y2 y8 y13 y14 y15 H => L4_4 y1 y2 y8 y13 y14 y15 H kn Q) kn Q) : L4_4 x1 x2 x8 x13 x14 x15 H kn Q := by
  intro env h1 h2 h8 h13 h14 h15
  subst h1; subst h2; subst h8; subst h13; subst h14; subst h15
  exact RLoop.round ((c4_5 env H (fun y1 y2 y8 y13 y14 y15 H => L4_4 y1 y2 y8 y13 y14 y15 H kn Q) kn Q h).mono (mkK_mono (fun e H h => h e rfl rfl rfl rfl rfl rfl) (fun _ _ _ h => h) (fun _ _ h => h) (fun _ _ h => h)))
def m4_3 (x1 x2 x8 x13 x14 : Value) (H : Heap) (kn : Value → Value → Value → Value → Value → Heap → Prop) (Q : Ending → Heap → Prop) : Prop :=
L4_4 x1 x2 x8 x13 x14 (.int .i64 0) H kn Q
theorem c4_3 (env : Env) (H : Heap) (kn : Value → Value → Value → Value → Value → Heap → Prop) (Q : Ending → Heap → Prop) (h : m4_3 (env 1) (env 2) (env 8) (env 13) (env 14) H kn Q) :
    RCode Try.prog 114 (codeAt [1, 1, 1, 1, 1, 1, 1, 1, 1, 0] (bodyOf Try.f4)) env H (mkK (fun e H => kn (e 1) (e 2) (e 8) (e 13) (e 14) H) (fun _ _ _ => False) (retK T Try.f4.results.toList Q) (fun c H => Q (.panicked c) H)) :=
  RCode.prefix_ (T := T) (X := ext) (hint := hint4) (hole := (fun e H => L4_4 (e 1) (e 2) (e 8) (e 13) (e 14) (e 15) H kn Q)) tok xok mixed 1 (by kernel_rfl) (by kernel_rfl : codeAt _ _ = (codeAt [1, 1, 1, 1, 1, 1, 1, 1, 1, 0, 1] (bodyOf Try.f4))) h
    (fun e H h => (cL4_4 e H kn Q h))
def m4_1 (x1 x2 x7 x8 : Value) (H : Heap) (Q : Ending → Heap → Prop) : Prop :=
oRC Try.prog 23 [x7] H (fun c H => Q (.panicked c) H) fun v_25 H_26 =>
oNew (Value.cells ty40.zero).toList (Value.cells ty40.zero).toList.length 40 H_26 fun i_27 H_28 =>
oHeap (vStore ty40 (ptrTo i_27) v_25 H_28) fun H_29 =>
m4_3 x1 x2 x8 (ptrTo i_27) (.int .i64 0) H_29 (fun y1_30 y2_31 y8_32 y13_33 y14_34 H_35 => m4_2 y1_30 y2_31 y8_32 y13_33 y14_34 H_35 Q) Q
theorem c4_1 (env : Env) (H : Heap) (Q : Ending → Heap → Prop) (h : m4_1 (env 1) (env 2) (env 7) (env 8) H Q) :
    RCode Try.prog 114 (codeAt [1, 1, 1, 1, 1, 1, 1] (bodyOf Try.f4)) env H (mkK (retK T Try.f4.results.toList Q) (fun _ _ _ => False) (retK T Try.f4.results.toList Q) (fun c H => Q (.panicked c) H)) :=
  RCode.prefix_ (T := T) (X := ext) (hint := hint4) (hole := (fun e H => m4_3 (e 1) (e 2) (e 8) (e 13) (e 14) H (fun y1_36 y2_37 y8_38 y13_39 y14_40 H_41 => m4_2 y1_36 y2_37 y8_38 y13_39 y14_40 H_41 Q) Q)) tok xok mixed 2 (by kernel_rfl) (by kernel_rfl : codeAt _ _ = (codeAt [1, 1, 1, 1, 1, 1, 1, 1, 1] (bodyOf Try.f4))) h
    (fun e H h => RCode.join (by kernel_rfl : (codeAt [1, 1, 1, 1, 1, 1, 1, 1, 1] (bodyOf Try.f4)) = .seq (codeAt [1, 1, 1, 1, 1, 1, 1, 1, 1, 0] (bodyOf Try.f4)) (codeAt [1, 1, 1, 1, 1, 1, 1, 1, 1, 1] (bodyOf Try.f4))) ((c4_3 e H (fun y1_42 y2_43 y8_44 y13_45 y14_46 H_47 => m4_2 y1_42 y2_43 y8_44 y13_45 y14_46 H_47 Q) Q h).mono (mkK_mono (fun e H h => c4_2 e H Q h) (fun _ _ _ h => h) (fun _ _ h => h) (fun _ _ h => h))))
def L4_7 (x1 x2 x7 x8 x9 x10 : Value) (H : Heap) (kn : Value → Value → Value → Value → Heap → Prop) (Q : Ending → Heap → Prop) : Prop :=
  ∀ env : Env, env 1 = x1 → env 2 = x2 → env 7 = x7 → env 8 = x8 → env 9 = x9 → env 10 = x10 → RLoop Try.prog 114 (codeAt [1, 1, 1, 1, 1, 1, 0, 1, 0, 0] (bodyOf Try.f4)) env H (mkK (fun _ _ => False) (inK 0 (fun e H => kn (e 1) (e 2) (e 7) (e 8) H) (fun _ _ _ => False)) (retK T Try.f4.results.toList Q) (fun c H => Q (.panicked c) H))
theorem cL4_7 (env : Env) (H : Heap) (kn : Value → Value → Value → Value → Heap → Prop) (Q : Ending → Heap → Prop) (h : L4_7 (env 1) (env 2) (env 7) (env 8) (env 9) (env 10) H kn Q) :
    RCode Try.prog 114 (codeAt [1, 1, 1, 1, 1, 1, 0, 1] (bodyOf Try.f4)) env H (mkK (fun e H => kn (e 1) (e 2) (e 7) (e 8) H) (fun _ _ _ => False) (retK T Try.f4.results.toList Q) (fun c H => Q (.panicked c) H)) :=
  RCode.blk (by kernel_rfl : (codeAt [1, 1, 1, 1, 1, 1, 0, 1] (bodyOf Try.f4)) = .block 0 (codeAt [1, 1, 1, 1, 1, 1, 0, 1, 0] (bodyOf Try.f4))) (RCode.lp (by kernel_rfl : (codeAt [1, 1, 1, 1, 1, 1, 0, 1, 0] (bodyOf Try.f4)) = .loop (codeAt [1, 1, 1, 1, 1, 1, 0, 1, 0, 0] (bodyOf Try.f4))) ((h env rfl rfl rfl rfl rfl rfl).mono (mkK_mono (fun _ _ h => h.elim) (fun _ _ _ h => h) (fun _ _ h => h) (fun _ _ h => h))))
def m4_8 (x1 x2 x7 x8 x9 x10 : Value) (H : Heap) (kn : Value → Value → Value → Value → Value → Value → Heap → Prop) (kx0 : Value → Value → Value → Value → Heap → Prop) (Q : Ending → Heap → Prop) : Prop :=
oV (vLen x1) fun t46_48 =>
oV (vInt .lss x10 t46_48) fun t47_49 =>
condK t47_49 (
oV (vIdxS 1 x1 x10) fun t52_50 =>
oV (vLoad ty5 t52_50 H) fun t53_51 =>
oV (vConv (.int .i64) t53_51) fun t54_52 =>
oV (vInt .rem t54_52 (.int .i64 13)) fun t55_53 =>
oV (vInt .add (.int .i64 1) t55_53) fun t56_54 =>
oRC Try.prog 13 [x7, t56_54, (.bool false)] H (fun c H => Q (.panicked c) H) fun v_55 H_56 =>
oRC Try.prog 15 [x7, x9, v_55] H_56 (fun c H => Q (.panicked c) H) fun v_57 H_58 =>
oRC Try.prog 19 [x7, (.int .u64 1)] H_58 (fun c H => Q (.panicked c) H) fun v_59 H_60 =>
oRC Try.prog 17 [x7, v_57, v_59] H_60 (fun c H => Q (.panicked c) H) fun v_61 H_62 =>
oRC Try.prog 14 [x7, v_55] H_62 (fun c H => Q (.panicked c) H) fun v_63 H_64 =>
oV (vInt .sub t56_54 (.int .i64 1)) fun t73_65 =>
oV (vInt .sub t56_54 (.int .i64 1)) fun t76_66 =>
oV (vIdxS 1 x8 t76_66) fun t77_67 =>
oV (vLoad ty35 t77_67 H_64) fun t78_68 =>
oV (vIdxS 1 x2 x10) fun t81_69 =>
oV (vLoad ty22 t81_69 H_64) fun t82_70 =>
oBuildS ty22 22 1 [((0, 1), t82_70)] H_64 fun s_71 H_72 =>
oAppend ty22 22 t78_68 s_71 H_72 fun v_73 H_74 =>
oV (vIdxS 1 x8 t73_65) fun t85_75 =>
oHeap (vStore ty35 t85_75 v_73 H_74) fun H_76 =>
oV (vInt .add x10 (.int .i64 1)) fun t49_77 =>
kn x1 x2 x7 x8 v_61 t49_77 H_76) (
kx0 x1 x2 x7 x8 H)
theorem c4_8 (env : Env) (H : Heap) (kn : Value → Value → Value → Value → Value → Value → Heap → Prop) (kx0 : Value → Value → Value → Value → Heap → Prop) (Q : Ending → Heap → Prop) (h : m4_8 (env 1) (env 2) (env 7) (env 8) (env 9) (env 10) H kn kx0 Q) :
    RCode Try.prog 114 (codeAt [1, 1, 1, 1, 1, 1, 0, 1, 0, 0] (bodyOf Try.f4)) env H (mkK (fun e H => kn (e 1) (e 2) (e 7) (e 8) (e 9) (e 10) H) (inK 0 (fun e H => kx0 (e 1) (e 2) (e 7) (e 8) H) (fun _ _ _ => False)) (retK T Try.f4.results.toList Q) (fun c H => Q (.panicked c) H)) :=
  RCode.leaf_ (T := T) (X := ext) (hint := hint4) tok xok mixed (by kernel_rfl) h
theorem L4_7_round (x1 x2 x7 x8 x9 x10 : Value) (H : Heap) (kn : Value → Value → Value → Value → Heap → Prop) (Q : Ending → Heap → Prop) (h : m4_8 x1 x2 x7 x8 x9 x10 H (fun y1 y2 y7 y8 y9 y10 H => L4_7 y1 y2 y7 y8 y9 y10 H kn Q) kn Q) : L4_7 x1 x2 x7 x8 x9 x10 H kn Q := by
  intro env h1 h2 h7 h8 h9 h10
  subst h1; subst h2; subst h7; subst h8; subst h9; subst h10
  exact RLoop.round ((c4_8 env H (fun y1 y2 y7 y8 y9 y10 H => L4_7 y1 y2 y7 y8 y9 y10 H kn Q) kn Q h).mono (mkK_mono (fun e H h => h e rfl rfl rfl rfl rfl rfl) (fun _ _ _ h => h) (fun _ _ h => h) (fun _ _ h => h)))
def m4_6 (x1 x2 x7 x8 x9 : Value) (H : Heap) (kn : Value → Value → Value → Value → Heap → Prop) (Q : Ending → Heap → Prop) : Prop :=
L4_7 x1 x2 x7 x8 x9 (.int .i64 0) H kn Q
theorem c4_6 (env : Env) (H : Heap) (kn : Value → Value → Value → Value → Heap → Prop) (Q : Ending → Heap → Prop) (h : m4_6 (env 1) (env 2) (env 7) (env 8) (env 9) H kn Q) :
    RCode Try.prog 114 (codeAt [1, 1, 1, 1, 1, 1, 0] (bodyOf Try.f4)) env H (mkK (fun e H => kn (e 1) (e 2) (e 7) (e 8) H) (fun _ _ _ => False) (retK T Try.f4.results.toList Q) (fun c H => Q (.panicked c) H)) :=
  RCode.prefix_ (T := T) (X := ext) (hint := hint4) (hole := (fun e H => L4_7 (e 1) (e 2) (e 7) (e 8) (e 9) (e 10) H kn Q)) tok xok mixed 1 (by kernel_rfl) (by kernel_rfl : codeAt _ _ = (codeAt [1, 1, 1, 1, 1, 1, 0, 1] (bodyOf Try.f4))) h
    (fun e H h => (cL4_7 e H kn Q h))
def m4 (x0 x1 x2 : Value) (H : Heap) (Q : Ending → Heap → Prop) : Prop :=
oRC Try.prog 10 [] H (fun c H => Q (.panicked c) H) fun v_78 H_79 =>
oV (vUn .not v_78) fun t17_80 =>
condK t17_80 (
Q (.returned (.bool false)) H_79) (
oRC Try.prog 11 [x0] H_79 (fun c H => Q (.panicked c) H) fun v_81 H_82 =>
oV (vUn .not v_81) fun t20_83 =>
oV (gV t20_83 false (some x1) (some undef)) fun t22_84 =>
oV (gV t20_83 false (vLen t22_84) (some undef)) fun t23_85 =>
oV (gV t20_83 false (vInt .gtr t23_85 (.int .i64 20)) (some undef)) fun t24_86 =>
oV (vPick t20_83 (.bool true) t24_86) fun t25_87 =>
oV (gV t25_87 false (some x2) (some undef)) fun t27_88 =>
oV (gV t25_87 false (vLen t27_88) (some undef)) fun t28_89 =>
oV (gV t25_87 false (some x1) (some undef)) fun t29_90 =>
oV (gV t25_87 false (vLen t29_90) (some undef)) fun t30_91 =>
oV (gV t25_87 false (vInt .neq t28_89 t30_91) (some undef)) fun t31_92 =>
oV (vPick t25_87 (.bool true) t31_92) fun t32_93 =>
oV (gV t32_93 false (some x0) (some undef)) fun t34_94 =>
oV (gV t32_93 false (some x2) (some undef)) fun t35_95 =>
letK (fun t36_97 H_98 =>
oV (gV t32_93 false (vUn .not t36_97) (some undef)) fun t37_99 =>
oV (vPick t32_93 (.bool true) t37_99) fun t38_100 =>
condK t38_100 (
Q (.returned (.bool true)) H_98) (
oRC Try.prog 12 [x0] H_98 (fun c H => Q (.panicked c) H) fun v_101 H_102 =>
oMake ty35 35 (.int .i64 13) (.int .i64 13) H_102 fun s_103 H_104 =>
oRC Try.prog 19 [v_101, (.int .u64 0)] H_104 (fun c H => Q (.panicked c) H) fun v_105 H_106 =>
m4_6 x1 x2 v_101 s_103 v_105 H_106 (fun y1_107 y2_108 y7_109 y8_110 H_111 => m4_1 y1_107 y2_108 y7_109 y8_110 H_111 Q) Q)) fun k_96 => gK t32_93 false (oRC Try.prog 24 [t34_94, t35_95] H_82 (fun c H => Q (.panicked c) H) fun v_112 H_113 =>
k_96 v_112 H_113) (k_96 undef H_82))
theorem c4_0 (env : Env) (H : Heap) (Q : Ending → Heap → Prop) (h : m4 (env 0) (env 1) (env 2) H Q) :
    RCode Try.prog 114 (bodyOf Try.f4) env H (mkK (retK T Try.f4.results.toList Q) (fun _ _ _ => False) (retK T Try.f4.results.toList Q) (fun c H => Q (.panicked c) H)) :=
  RCode.prefix_ (T := T) (X := ext) (hint := hint4) (hole := (fun e H => m4_6 (e 1) (e 2) (e 7) (e 8) (e 9) H (fun y1_114 y2_115 y7_116 y8_117 H_118 => m4_1 y1_114 y2_115 y7_116 y8_117 H_118 Q) Q)) tok xok mixed 6 (by kernel_rfl) (by kernel_rfl : codeAt _ _ = (codeAt [1, 1, 1, 1, 1, 1] (bodyOf Try.f4))) h
    (fun e H h => RCode.join (by kernel_rfl : (codeAt [1, 1, 1, 1, 1, 1] (bodyOf Try.f4)) = .seq (codeAt [1, 1, 1, 1, 1, 1, 0] (bodyOf Try.f4)) (codeAt [1, 1, 1, 1, 1, 1, 1] (bodyOf Try.f4))) ((c4_6 e H (fun y1_119 y2_120 y7_121 y8_122 H_123 => m4_1 y1_119 y2_120 y7_121 y8_122 H_123 Q) Q h).mono (mkK_mono (fun e H h => c4_1 e H Q h) (fun _ _ _ h => h) (fun _ _ h => h) (fun _ _ h => h))))
theorem call4 (a0 a1 a2 : Value) (H : Heap) (Q : Ending → Heap → Prop) (h : m4 a0 a1 a2 H Q) : RCalls Try.prog 4 [a0, a1, a2] H Q :=
  RCalls.intro (nt := 114) tok Try.func4 (by kernel_rfl) (by kernel_rfl) (by kernel_rfl) (of_decide_eq_true (by kernel_rfl)) (c4_0 (envOf [a0, a1, a2]) H Q h)
/-! ### 25: privity/privityref32.Equal -/
def hint25 : Nat → List Nat := lookupL [(6, [0, 1, 2, 3, 4, 5, 6, 7, 8, 9, 10]), (11, [0, 1, 2, 3, 4, 5, 6, 7, 8, 9, 10])]
def m25_2 (H : Heap) (Q : Ending → Heap → Prop) : Prop :=
Q (.returned (.bool true)) H
theorem c25_2 (env : Env) (H : Heap) (Q : Ending → Heap → Prop) (h : m25_2 H Q) :
    RCode Try.prog 66 (codeAt [1, 1, 1, 1] (bodyOf Try.f25)) env H (mkK (retK T Try.f25.results.toList Q) (fun _ _ _ => False) (retK T Try.f25.results.toList Q) (fun c H => Q (.panicked c) H)) :=
  RCode.leaf_ (T := T) (X := ext) (hint := hint25) tok xok mixed (by kernel_rfl) h
def L25_4 (x2 x3 x6 : Value) (H : Heap) (kn : Heap → Prop) (Q : Ending → Heap → Prop) : Prop :=
  ∀ env : Env, env 2 = x2 → env 3 = x3 → env 6 = x6 → RLoop Try.prog 66 (codeAt [1, 1, 1, 0, 1, 0, 0] (bodyOf Try.f25)) env H (mkK (fun _ _ => False) (inK 2 (fun e H => kn H) (fun _ _ _ => False)) (retK T Try.f25.results.toList Q) (fun c H => Q (.panicked c) H))
theorem cL25_4 (env : Env) (H : Heap) (kn : Heap → Prop) (Q : Ending → Heap → Prop) (h : L25_4 (env 2) (env 3) (env 6) H kn Q) :
    RCode Try.prog 66 (codeAt [1, 1, 1, 0, 1] (bodyOf Try.f25)) env H (mkK (fun e H => kn H) (fun _ _ _ => False) (retK T Try.f25.results.toList Q) (fun c H => Q (.panicked c) H)) :=
  RCode.blk (by kernel_rfl : (codeAt [1, 1, 1, 0, 1] (bodyOf Try.f25)) = .block 2 (codeAt [1, 1, 1, 0, 1, 0] (bodyOf Try.f25))) (RCode.lp (by kernel_rfl : (codeAt [1, 1, 1, 0, 1, 0] (bodyOf Try.f25)) = .loop (codeAt [1, 1, 1, 0, 1, 0, 0] (bodyOf Try.f25))) ((h env rfl rfl rfl).mono (mkK_mono (fun _ _ h => h.elim) (fun _ _ _ h => h) (fun _ _ h => h) (fun _ _ h => h))))
def m25_5 (x2 x3 x6 : Value) (H : Heap) (kn : Value → Value → Value → Heap → Prop) (kx2 : Heap → Prop) (Q : Ending → Heap → Prop) : Prop :=
oV (vField 2 x2) fun t49_1 =>
oV (vLoad ty38 t49_1 H) fun t50_2 =>
oV (vLen t50_2) fun t51_3 =>
oV (vInt .lss x6 t51_3) fun t52_4 =>
condK t52_4 (
oV (vField 2 x2) fun t55_5 =>
oV (vLoad ty38 t55_5 H) fun t56_6 =>
oV (vIdxS 1 t56_6 x6) fun t58_7 =>
oV (vLoad ty3 t58_7 H) fun t59_8 =>
oV (vField 2 x3) fun t60_9 =>
oV (vLoad ty38 t60_9 H) fun t61_10 =>
oV (vIdxS 1 t61_10 x6) fun t63_11 =>
oV (vLoad ty3 t63_11 H) fun t64_12 =>
oV (vInt .neq t59_8 t64_12) fun t65_13 =>
condK t65_13 (
Q (.returned (.bool false)) H) (
oV (vInt .add x6 (.int .i64 1)) fun t54_14 =>
kn x2 x3 t54_14 H)) (
kx2 H)
theorem c25_5 (env : Env) (H : Heap) (kn : Value → Value → Value → Heap → Prop) (kx2 : Heap → Prop) (Q : Ending → Heap → Prop) (h : m25_5 (env 2) (env 3) (env 6) H kn kx2 Q) :
    RCode Try.prog 66 (codeAt [1, 1, 1, 0, 1, 0, 0] (bodyOf Try.f25)) env H (mkK (fun e H => kn (e 2) (e 3) (e 6) H) (inK 2 (fun e H => kx2 H) (fun _ _ _ => False)) (retK T Try.f25.results.toList Q) (fun c H => Q (.panicked c) H)) :=
  RCode.leaf_ (T := T) (X := ext) (hint := hint25) tok xok mixed (by kernel_rfl) h
theorem L25_4_round (x2 x3 x6 : Value) (H : Heap) (kn : Heap → Prop) (Q : Ending → Heap → Prop) (h : m25_5 x2 x3 x6 H (fun y2 y3 y6 H => L25_4 y2 y3 y6 H kn Q) kn Q) : L25_4 x2 x3 x6 H kn Q := by
  intro env h2 h3 h6
  subst h2; subst h3; subst h6
  exact RLoop.round ((c25_5 env H (fun y2 y3 y6 H => L25_4 y2 y3 y6 H kn Q) kn Q h).mono (mkK_mono (fun e H h => h e rfl rfl rfl) (fun _ _ _ h => h) (fun _ _ h => h) (fun _ _ h => h)))
def m25_3 (x2 x3 : Value) (H : Heap) (kn : Heap → Prop) (Q : Ending → Heap → Prop) : Prop :=
L25_4 x2 x3 (.int .i64 0) H kn Q
theorem c25_3 (env : Env) (H : Heap) (kn : Heap → Prop) (Q : Ending → Heap → Prop) (h : m25_3 (env 2) (env 3) H kn Q) :
    RCode Try.prog 66 (codeAt [1, 1, 1, 0] (bodyOf Try.f25)) env H (mkK (fun e H => kn H) (fun _ _ _ => False) (retK T Try.f25.results.toList Q) (fun c H => Q (.panicked c) H)) :=
  RCode.prefix_ (T := T) (X := ext) (hint := hint25) (hole := (fun e H => L25_4 (e 2) (e 3) (e 6) H kn Q)) tok xok mixed 1 (by kernel_rfl) (by kernel_rfl : codeAt _ _ = (codeAt [1, 1, 1, 0, 1] (bodyOf Try.f25))) h
    (fun e H h => (cL25_4 e H kn Q h))
def m25_1 (x2 x3 : Value) (H : Heap) (Q : Ending → Heap → Prop) : Prop :=
m25_3 x2 x3 H (fun H_15 => m25_2 H_15 Q) Q
theorem c25_1 (env : Env) (H : Heap) (Q : Ending → Heap → Prop) (h : m25_1 (env 2) (env 3) H Q) :
    RCode Try.prog 66 (codeAt [1, 1, 1] (bodyOf Try.f25)) env H (mkK (retK T Try.f25.results.toList Q) (fun _ _ _ => False) (retK T Try.f25.results.toList Q) (fun c H => Q (.panicked c) H)) :=
  RCode.join (by kernel_rfl : (codeAt [1, 1, 1] (bodyOf Try.f25)) = .seq (codeAt [1, 1, 1, 0] (bodyOf Try.f25)) (codeAt [1, 1, 1, 1] (bodyOf Try.f25))) ((c25_3 env H (fun H_16 => m25_2 H_16 Q) Q h).mono (mkK_mono (fun e H h => c25_2 e H Q h) (fun _ _ _ h => h) (fun _ _ h => h) (fun _ _ h => h)))
def L25_7 (x2 x3 x5 : Value) (H : Heap) (kn : Value → Value → Heap → Prop) (Q : Ending → Heap → Prop) : Prop :=
  ∀ env : Env, env 2 = x2 → env 3 = x3 → env 5 = x5 → RLoop Try.prog 66 (codeAt [1, 1, 0, 1, 0, 0] (bodyOf Try.f25)) env H (mkK (fun _ _ => False) (inK 0 (fun e H => kn (e 2) (e 3) H) (fun _ _ _ => False)) (retK T Try.f25.results.toList Q) (fun c H => Q (.panicked c) H))
theorem cL25_7 (env : Env) (H : Heap) (kn : Value → Value → Heap → Prop) (Q : Ending → Heap → Prop) (h : L25_7 (env 2) (env 3) (env 5) H kn Q) :
    RCode Try.prog 66 (codeAt [1, 1, 0, 1] (bodyOf Try.f25)) env H (mkK (fun e H => kn (e 2) (e 3) H) (fun _ _ _ => False) (retK T Try.f25.results.toList Q) (fun c H => Q (.panicked c) H)) :=
  RCode.blk (by kernel_rfl : (codeAt [1, 1, 0, 1] (bodyOf Try.f25)) = .block 0 (codeAt [1, 1, 0, 1, 0] (bodyOf Try.f25))) (RCode.lp (by kernel_rfl : (codeAt [1, 1, 0, 1, 0] (bodyOf Try.f25)) = .loop (codeAt [1, 1, 0, 1, 0, 0] (bodyOf Try.f25))) ((h env rfl rfl rfl).mono (mkK_mono (fun _ _ h => h.elim) (fun _ _ _ h => h) (fun _ _ h => h) (fun _ _ h => h))))
def m25_8 (x2 x3 x5 : Value) (H : Heap) (kn : Value → Value → Value → Heap → Prop) (kx0 : Value → Value → Heap → Prop) (Q : Ending → Heap → Prop) : Prop :=
oV (vField 1 x2) fun t31_17 =>
oV (vLoad ty37 t31_17 H) fun t32_18 =>
oV (vLen t32_18) fun t33_19 =>
oV (vInt .lss x5 t33_19) fun t34_20 =>
condK t34_20 (
oV (vField 1 x2) fun t37_21 =>
oV (vLoad ty37 t37_21 H) fun t38_22 =>
oV (vIdxS 5 t38_22 x5) fun t40_23 =>
oV (vLoad ty47 t40_23 H) fun t41_24 =>
oV (vField 1 x3) fun t42_25 =>
oV (vLoad ty37 t42_25 H) fun t43_26 =>
oV (vIdxS 5 t43_26 x5) fun t45_27 =>
oV (vLoad ty47 t45_27 H) fun t46_28 =>
oV (vAggOp 5 .neq t41_24 t46_28) fun t47_29 =>
condK t47_29 (
Q (.returned (.bool false)) H) (
oV (vInt .add x5 (.int .i64 1)) fun t36_30 =>
kn x2 x3 t36_30 H)) (
kx0 x2 x3 H)
theorem c25_8 (env : Env) (H : Heap) (kn : Value → Value → Value → Heap → Prop) (kx0 : Value → Value → Heap → Prop) (Q : Ending → Heap → Prop) (h : m25_8 (env 2) (env 3) (env 5) H kn kx0 Q) :
    RCode Try.prog 66 (codeAt [1, 1, 0, 1, 0, 0] (bodyOf Try.f25)) env H (mkK (fun e H => kn (e 2) (e 3) (e 5) H) (inK 0 (fun e H => kx0 (e 2) (e 3) H) (fun _ _ _ => False)) (retK T Try.f25.results.toList Q) (fun c H => Q (.panicked c) H)) :=
  RCode.leaf_ (T := T) (X := ext) (hint := hint25) tok xok mixed (by kernel_rfl) h
theorem L25_7_round (x2 x3 x5 : Value) (H : Heap) (kn : Value → Value → Heap → Prop) (Q : Ending → Heap → Prop) (h : m25_8 x2 x3 x5 H (fun y2 y3 y5 H => L25_7 y2 y3 y5 H kn Q) kn Q) : L25_7 x2 x3 x5 H kn Q := by
  intro env h2 h3 h5
  subst h2; subst h3; subst h5
  exact RLoop.round ((c25_8 env H (fun y2 y3 y5 H => L25_7 y2 y3 y5 H kn Q) kn Q h).mono (mkK_mono (fun e H h => h e rfl rfl rfl) (fun _ _ _ h => h) (fun _ _ h => h) (fun _ _ h => h)))
def m25_6 (x2 x3 : Value) (H : Heap) (kn : Value → Value → Heap → Prop) (Q : Ending → Heap → Prop) : Prop :=
L25_7 x2 x3 (.int .i64 0) H kn Q
theorem c25_6 (env : Env) (H : Heap) (kn : Value → Value → Heap → Prop) (Q : Ending → Heap → Prop) (h : m25_6 (env 2) (env 3) H kn Q) :
    RCode Try.prog 66 (codeAt [1, 1, 0] (bodyOf Try.f25)) env H (mkK (fun e H => kn (e 2) (e 3) H) (fun _ _ _ => False) (retK T Try.f25.results.toList Q) (fun c H => Q (.panicked c) H)) :=
  RCode.prefix_ (T := T) (X := ext) (hint := hint25) (hole := (fun e H => L25_7 (e 2) (e 3) (e 5) H kn Q)) tok xok mixed 1 (by kernel_rfl) (by kernel_rfl : codeAt _ _ = (codeAt [1, 1, 0, 1] (bodyOf Try.f25))) h
    (fun e H h => (cL25_7 e H kn Q h))
def m25 (x0 x1 : Value) (H : Heap) (Q : Ending → Heap → Prop) : Prop :=
oNew (Value.cells x0).toList (Value.cells x0).toList.length 40 H fun i_31 H_32 =>
oNew (Value.cells x1).toList (Value.cells x1).toList.length 40 H_32 fun i_33 H_34 =>
oV (vField 0 (ptrTo i_31)) fun t7_35 =>
oV (vLoad ty22 t7_35 H_34) fun t8_36 =>
oV (vField 0 (ptrTo i_33)) fun t9_37 =>
oV (vLoad ty22 t9_37 H_34) fun t10_38 =>
oV (vInt .neq t8_36 t10_38) fun t11_39 =>
oV (gV t11_39 false (vField 1 (ptrTo i_31)) (some undef)) fun t13_40 =>
oV (gV t11_39 false (vLoad ty37 t13_40 H_34) (some undef)) fun t14_41 =>
oV (gV t11_39 false (vLen t14_41) (some undef)) fun t15_42 =>
oV (gV t11_39 false (vField 1 (ptrTo i_33)) (some undef)) fun t16_43 =>
oV (gV t11_39 false (vLoad ty37 t16_43 H_34) (some undef)) fun t17_44 =>
oV (gV t11_39 false (vLen t17_44) (some undef)) fun t18_45 =>
oV (gV t11_39 false (vInt .neq t15_42 t18_45) (some undef)) fun t19_46 =>
oV (vPick t11_39 (.bool true) t19_46) fun t20_47 =>
oV (gV t20_47 false (vField 2 (ptrTo i_31)) (some undef)) fun t22_48 =>
oV (gV t20_47 false (vLoad ty38 t22_48 H_34) (some undef)) fun t23_49 =>
oV (gV t20_47 false (vLen t23_49) (some undef)) fun t24_50 =>
oV (gV t20_47 false (vField 2 (ptrTo i_33)) (some undef)) fun t25_51 =>
oV (gV t20_47 false (vLoad ty38 t25_51 H_34) (some undef)) fun t26_52 =>
oV (gV t20_47 false (vLen t26_52) (some undef)) fun t27_53 =>
oV (gV t20_47 false (vInt .neq t24_50 t27_53) (some undef)) fun t28_54 =>
oV (vPick t20_47 (.bool true) t28_54) fun t29_55 =>
condK t29_55 (
Q (.returned (.bool false)) H_34) (
m25_6 (ptrTo i_31) (ptrTo i_33) H_34 (fun y2_56 y3_57 H_58 => m25_1 y2_56 y3_57 H_58 Q) Q)
theorem c25_0 (env : Env) (H : Heap) (Q : Ending → Heap → Prop) (h : m25 (env 0) (env 1) H Q) :
    RCode Try.prog 66 (bodyOf Try.f25) env H (mkK (retK T Try.f25.results.toList Q) (fun _ _ _ => False) (retK T Try.f25.results.toList Q) (fun c H => Q (.panicked c) H)) :=
  RCode.prefix_ (T := T) (X := ext) (hint := hint25) (hole := (fun e H => m25_6 (e 2) (e 3) H (fun y2_59 y3_60 H_61 => m25_1 y2_59 y3_60 H_61 Q) Q)) tok xok mixed 2 (by kernel_rfl) (by kernel_rfl : codeAt _ _ = (codeAt [1, 1] (bodyOf Try.f25))) h
    (fun e H h => RCode.join (by kernel_rfl : (codeAt [1, 1] (bodyOf Try.f25)) = .seq (codeAt [1, 1, 0] (bodyOf Try.f25)) (codeAt [1, 1, 1] (bodyOf Try.f25))) ((c25_6 e H (fun y2_62 y3_63 H_64 => m25_1 y2_62 y3_63 H_64 Q) Q h).mono (mkK_mono (fun e H h => c25_1 e H Q h) (fun _ _ _ h => h) (fun _ _ h => h) (fun _ _ h => h))))
theorem call25 (a0 a1 : Value) (H : Heap) (Q : Ending → Heap → Prop) (h : m25 a0 a1 H Q) : RCalls Try.prog 25 [a0, a1] H Q :=
  RCalls.intro (nt := 66) tok Try.func25 (by kernel_rfl) (by kernel_rfl) (by kernel_rfl) (of_decide_eq_true (by kernel_rfl)) (c25_0 (envOf [a0, a1]) H Q h)
/-! ### 5: privity/privitylaw34.GadgetCircuitSnapshots -/
def hint5 : Nat → List Nat := lookupL [(16, [0, 1, 2, 3, 4, 5, 6, 7, 8, 9, 10, 11, 12, 13, 14, 15, 16, 17, 19, 20, 21, 22, 23, 18, 24, 25, 26, 27, 28])]
def m5 (x0 x1 : Value) (H : Heap) (Q : Ending → Heap → Prop) : Prop :=
oNew (Value.cells x1).toList (Value.cells x1).toList.length 23 H fun i_1 H_2 =>
oRC Try.prog 10 [] H_2 (fun c H => Q (.panicked c) H) fun v_3 H_4 =>
oV (vUn .not v_3) fun t13_5 =>
condK t13_5 (
Q (.returned (.bool false)) H_4) (
oRC Try.prog 11 [x0] H_4 (fun c H => Q (.panicked c) H) fun v_6 H_7 =>
oV (vUn .not v_6) fun t16_8 =>
oV (gV t16_8 false (vIdxA 2 1 (ptrTo i_1) (.int .i64 0)) (some undef)) fun t18_9 =>
oV (gV t16_8 false (vLoad ty22 t18_9 H_7) (some undef)) fun t19_10 =>
oV (gV t16_8 false (some x0) (some undef)) fun t20_11 =>
oV (gV t16_8 false (vInt .geq t19_10 t20_11) (some undef)) fun t21_12 =>
oV (vPick t16_8 (.bool true) t21_12) fun t22_13 =>
oV (gV t22_13 false (vIdxA 2 1 (ptrTo i_1) (.int .i64 1)) (some undef)) fun t24_14 =>
oV (gV t22_13 false (vLoad ty22 t24_14 H_7) (some undef)) fun t25_15 =>
oV (gV t22_13 false (some x0) (some undef)) fun t26_16 =>
oV (gV t22_13 false (vInt .geq t25_15 t26_16) (some undef)) fun t27_17 =>
oV (vPick t22_13 (.bool true) t27_17) fun t28_18 =>
condK t28_18 (
Q (.returned (.bool true)) H_7) (
oRC Try.prog 12 [x0] H_7 (fun c H => Q (.panicked c) H) fun v_19 H_20 =>
oRC Try.prog 13 [v_19, (.int .i64 1), (.bool false)] H_20 (fun c H => Q (.panicked c) H) fun v_21 H_22 =>
oRC Try.prog 13 [v_19, (.int .i64 2), (.bool false)] H_22 (fun c H => Q (.panicked c) H) fun v_23 H_24 =>
oRC Try.prog 15 [v_19, v_21, v_23] H_24 (fun c H => Q (.panicked c) H) fun v_25 H_26 =>
oRC Try.prog 14 [v_19, v_25] H_26 (fun c H => Q (.panicked c) H) fun v_27 H_28 =>
oRC Try.prog 23 [v_19] H_28 (fun c H => Q (.panicked c) H) fun v_29 H_30 =>
oNew (Value.cells ty40.zero).toList (Value.cells ty40.zero).toList.length 40 H_30 fun i_31 H_32 =>
oHeap (vStore ty40 (ptrTo i_31) v_29 H_32) fun H_33 =>
oBuildS ty47 47 0 [] H_33 fun s_34 H_35 =>
oV (vField 1 (ptrTo i_31)) fun t44_36 =>
oV (vLoad ty37 t44_36 H_35) fun t45_37 =>
oAppend ty47 47 s_34 t45_37 H_35 fun v_38 H_39 =>
oRC Try.prog 17 [v_19, v_21, v_23] H_39 (fun c H => Q (.panicked c) H) fun v_40 H_41 =>
oRC Try.prog 14 [v_19, v_40] H_41 (fun c H => Q (.panicked c) H) fun v_42 H_43 =>
oRC Try.prog 23 [v_19] H_43 (fun c H => Q (.panicked c) H) fun v_44 H_45 =>
oNew (Value.cells ty40.zero).toList (Value.cells ty40.zero).toList.length 40 H_45 fun i_46 H_47 =>
oHeap (vStore ty40 (ptrTo i_46) v_44 H_47) fun H_48 =>
oV (vLoad ty40 (ptrTo i_31) H_48) fun t55_49 =>
oV (vField 2 (ptrTo i_31)) fun t58_50 =>
oV (vLoad ty38 t58_50 H_48) fun t59_51 =>
oV (vBuild ty40 [((0, 1), x0), ((1, 1), v_38), ((2, 1), t59_51)]) fun t60_52 =>
oRC Try.prog 25 [t55_49, t60_52] H_48 (fun c H => Q (.panicked c) H) fun v_53 H_54 =>
oV (vUn .not v_53) fun t62_55 =>
oV (gV t62_55 false (vField 2 (ptrTo i_31)) (some undef)) fun t64_56 =>
oV (gV t62_55 false (vLoad ty38 t64_56 H_54) (some undef)) fun t65_57 =>
oV (gV t62_55 false (vLen t65_57) (some undef)) fun t66_58 =>
oV (gV t62_55 false (vInt .neq t66_58 (.int .i64 1)) (some undef)) fun t67_59 =>
oV (vPick t62_55 (.bool true) t67_59) fun t68_60 =>
condK t68_60 (
Q (.returned (.bool false)) H_54) (
oV (vIdxA 2 1 (ptrTo i_1) (.int .i64 0)) fun t69_61 =>
oV (vLoad ty22 t69_61 H_54) fun t70_62 =>
oBuildS ty22 22 1 [((0, 1), t70_62)] H_54 fun s_63 H_64 =>
oV (vIdxA 2 1 (ptrTo i_1) (.int .i64 1)) fun t72_65 =>
oV (vLoad ty22 t72_65 H_64) fun t73_66 =>
oBuildS ty22 22 1 [((0, 1), t73_66)] H_64 fun s_67 H_68 =>
oBuildS ty35 35 2 [((0, 1), s_63), ((1, 1), s_67)] H_68 fun s_69 H_70 =>
oV (vLoad ty40 (ptrTo i_31) H_70) fun t76_71 =>
oV (vIdxA 2 1 (ptrTo i_1) (.int .i64 0)) fun t79_72 =>
oV (vLoad ty22 t79_72 H_70) fun t80_73 =>
oV (vIdxA 2 1 (ptrTo i_1) (.int .i64 1)) fun t81_74 =>
oV (vLoad ty22 t81_74 H_70) fun t82_75 =>
oRC Try.prog 20 [x0, (.int .i64 0), t80_73, t82_75, (.int .u64 0)] H_70 noP fun v_76 H_77 =>
(vLoad ty40 (ptrTo i_31) H_77 = some t76_71 ∧
oBuildS ty22 22 1 [((0, 1), v_76)] H_77 fun s_78 H_79 =>
oRC Try.prog 22 [t76_71, s_69, s_78] H_79 noP fun v_80 H_81 =>
oV (gV v_80 true (vLoad ty40 (ptrTo i_46) H_81) (some undef)) fun t87_82 =>
oV (gV v_80 true (some s_69) (some undef)) fun t88_83 =>
oV (gV v_80 true (some x0) (some undef)) fun t89_84 =>
oV (gV v_80 true (vIdxA 2 1 (ptrTo i_1) (.int .i64 0)) (some undef)) fun t90_85 =>
oV (gV v_80 true (vLoad ty22 t90_85 H_81) (some undef)) fun t91_86 =>
oV (gV v_80 true (vIdxA 2 1 (ptrTo i_1) (.int .i64 1)) (some undef)) fun t92_87 =>
oV (gV v_80 true (vLoad ty22 t92_87 H_81) (some undef)) fun t93_88 =>
oV (gV v_80 true (some x0) (some undef)) fun t95_89 =>
oV (gV v_80 true (vIdxA 2 1 (ptrTo i_1) (.int .i64 0)) (some undef)) fun t96_90 =>
oV (gV v_80 true (vLoad ty22 t96_90 H_81) (some undef)) fun t97_91 =>
oV (gV v_80 true (vIdxA 2 1 (ptrTo i_1) (.int .i64 1)) (some undef)) fun t98_92 =>
oV (gV v_80 true (vLoad ty22 t98_92 H_81) (some undef)) fun t99_93 =>
letK (fun t94_95 H_96 =>
(gV v_80 true (vLoad ty22 t98_92 H_96) (some undef) = some t99_93 ∧
(gV v_80 true (vLoad ty22 t96_90 H_96) (some undef) = some t97_91 ∧
(gV v_80 true (vLoad ty40 (ptrTo i_46) H_96) (some undef) = some t87_82 ∧
letK (fun t100_98 H_99 =>
(gV v_80 true (vLoad ty40 (ptrTo i_46) H_99) (some undef) = some t87_82 ∧
letK (fun t101_101 H_102 =>
letK (fun t102_104 H_105 =>
oV (vPick v_80 t102_104 (.bool false)) fun t103_106 =>
Q (.returned t103_106) H_105) fun k_103 => gK v_80 true (oRC Try.prog 22 [t87_82, t88_83, t101_101] H_102 noP fun v_107 H_108 =>
k_103 v_107 H_108) (k_103 undef H_102)) fun k_100 => gK v_80 true (oBuildS ty22 22 2 [((0, 1), t94_95), ((1, 1), t100_98)] H_99 fun s_109 H_110 =>
k_100 s_109 H_110) (k_100 undef H_99))) fun k_97 => gK v_80 true (oRC Try.prog 20 [t95_89, (.int .i64 2), t97_91, t99_93, (.int .u64 0)] H_96 noP fun v_111 H_112 =>
k_97 v_111 H_112) (k_97 undef H_96))))) fun k_94 => gK v_80 true (oRC Try.prog 20 [t89_84, (.int .i64 0), t91_86, t93_88, (.int .u64 0)] H_81 noP fun v_113 H_114 =>
k_94 v_113 H_114) (k_94 undef H_81)))))
theorem c5_0 (env : Env) (H : Heap) (Q : Ending → Heap → Prop) (h : m5 (env 0) (env 1) H Q) :
    RCode Try.prog 104 (bodyOf Try.f5) env H (mkK (retK T Try.f5.results.toList Q) (fun _ _ _ => False) (retK T Try.f5.results.toList Q) (fun c H => Q (.panicked c) H)) :=
  RCode.leaf_ (T := T) (X := ext) (hint := hint5) tok xok mixed (by kernel_rfl) h
theorem call5 (a0 a1 : Value) (H : Heap) (Q : Ending → Heap → Prop) (h : m5 a0 a1 H Q) : RCalls Try.prog 5 [a0, a1] H Q :=
  RCalls.intro (nt := 104) tok Try.func5 (by kernel_rfl) (by kernel_rfl) (by kernel_rfl) (of_decide_eq_true (by kernel_rfl)) (c5_0 (envOf [a0, a1]) H Q h)
/-! ### 26: privity/privitylaw34.ins -/
def hint26 : Nat → List Nat := lookupL []
def m26_1 (x7 : Value) (H : Heap) (Q : Ending → Heap → Prop) : Prop :=
Q (.returned x7) H
theorem c26_1 (env : Env) (H : Heap) (Q : Ending → Heap → Prop) (h : m26_1 (env 7) H Q) :
    RCode Try.prog 21 (codeAt [1, 1, 1] (bodyOf Try.f26)) env H (mkK (retK T Try.f26.results.toList Q) (fun _ _ _ => False) (retK T Try.f26.results.toList Q) (fun c H => Q (.panicked c) H)) :=
  RCode.leaf_ (T := T) (X := ext) (hint := hint26) tok xok mixed (by kernel_rfl) h
def L26_3 (x0 x1 x2 x7 x8 : Value) (H : Heap) (kn : Value → Heap → Prop) (Q : Ending → Heap → Prop) : Prop :=
  ∀ env : Env, env 0 = x0 → env 1 = x1 → env 2 = x2 → env 7 = x7 → env 8 = x8 → RLoop Try.prog 21 (codeAt [1, 1, 0, 1, 0, 0] (bodyOf Try.f26)) env H (mkK (fun _ _ => False) (inK 0 (fun e H => kn (e 7) H) (fun _ _ _ => False)) (retK T Try.f26.results.toList Q) (fun c H => Q (.panicked c) H))
theorem cL26_3 (env : Env) (H : Heap) (kn : Value → Heap → Prop) (Q : Ending → Heap → Prop) (h : L26_3 (env 0) (env 1) (env 2) (env 7) (env 8) H kn Q) :
    RCode Try.prog 21 (codeAt [1, 1, 0, 1] (bodyOf Try.f26)) env H (mkK (fun e H => kn (e 7) H) (fun _ _ _ => False) (retK T Try.f26.results.toList Q) (fun c H => Q (.panicked c) H)) :=
  RCode.blk (by kernel_rfl : (codeAt [1, 1, 0, 1] (bodyOf Try.f26)) = .block 0 (codeAt [1, 1, 0, 1, 0] (bodyOf Try.f26))) (RCode.lp (by kernel_rfl : (codeAt [1, 1, 0, 1, 0] (bodyOf Try.f26)) = .loop (codeAt [1, 1, 0, 1, 0, 0] (bodyOf Try.f26))) ((h env rfl rfl rfl rfl rfl).mono (mkK_mono (fun _ _ h => h.elim) (fun _ _ _ h => h) (fun _ _ h => h) (fun _ _ h => h))))
def m26_4 (x0 x1 x2 x7 x8 : Value) (H : Heap) (kn : Value → Value → Value → Value → Value → Heap → Prop) (kx0 : Value → Heap → Prop) (Q : Ending → Heap → Prop) : Prop :=
oV (vInt .lss x8 x2) fun t11_1 =>
condK t11_1 (
oRC Try.prog 13 [x0, x1, (.bool true)] H (fun c H => Q (.panicked c) H) fun v_2 H_3 =>
oBuildS ty3 3 1 [((0, 1), v_2)] H_3 fun s_4 H_5 =>
oAppend ty3 3 x7 s_4 H_5 fun v_6 H_7 =>
oV (vInt .add x8 (.int .i64 1)) fun t13_8 =>
kn x0 x1 x2 v_6 t13_8 H_7) (
kx0 x7 H)
theorem c26_4 (env : Env) (H : Heap) (kn : Value → Value → Value → Value → Value → Heap → Prop) (kx0 : Value → Heap → Prop) (Q : Ending → Heap → Prop) (h : m26_4 (env 0) (env 1) (env 2) (env 7) (env 8) H kn kx0 Q) :
    RCode Try.prog 21 (codeAt [1, 1, 0, 1, 0, 0] (bodyOf Try.f26)) env H (mkK (fun e H => kn (e 0) (e 1) (e 2) (e 7) (e 8) H) (inK 0 (fun e H => kx0 (e 7) H) (fun _ _ _ => False)) (retK T Try.f26.results.toList Q) (fun c H => Q (.panicked c) H)) :=
  RCode.leaf_ (T := T) (X := ext) (hint := hint26) tok xok mixed (by kernel_rfl) h
theorem L26_3_round (x0 x1 x2 x7 x8 : Value) (H : Heap) (kn : Value → Heap → Prop) (Q : Ending → Heap → Prop) (h : m26_4 x0 x1 x2 x7 x8 H (fun y0 y1 y2 y7 y8 H => L26_3 y0 y1 y2 y7 y8 H kn Q) kn Q) : L26_3 x0 x1 x2 x7 x8 H kn Q := by
  intro env h0 h1 h2 h7 h8
  subst h0; subst h1; subst h2; subst h7; subst h8
  exact RLoop.round ((c26_4 env H (fun y0 y1 y2 y7 y8 H => L26_3 y0 y1 y2 y7 y8 H kn Q) kn Q h).mono (mkK_mono (fun e H h => h e rfl rfl rfl rfl rfl) (fun _ _ _ h => h) (fun _ _ h => h) (fun _ _ h => h)))
def m26_2 (x0 x1 x2 x7 : Value) (H : Heap) (kn : Value → Heap → Prop) (Q : Ending → Heap → Prop) : Prop :=
L26_3 x0 x1 x2 x7 (.int .i64 0) H kn Q
theorem c26_2 (env : Env) (H : Heap) (kn : Value → Heap → Prop) (Q : Ending → Heap → Prop) (h : m26_2 (env 0) (env 1) (env 2) (env 7) H kn Q) :
    RCode Try.prog 21 (codeAt [1, 1, 0] (bodyOf Try.f26)) env H (mkK (fun e H => kn (e 7) H) (fun _ _ _ => False) (retK T Try.f26.results.toList Q) (fun c H => Q (.panicked c) H)) :=
  RCode.prefix_ (T := T) (X := ext) (hint := hint26) (hole := (fun e H => L26_3 (e 0) (e 1) (e 2) (e 7) (e 8) H kn Q)) tok xok mixed 1 (by kernel_rfl) (by kernel_rfl : codeAt _ _ = (codeAt [1, 1, 0, 1] (bodyOf Try.f26))) h
    (fun e H h => (cL26_3 e H kn Q h))
def m26 (x0 x1 x2 : Value) (H : Heap) (Q : Ending → Heap → Prop) : Prop :=
m26_2 x0 x1 x2 (.slice none 0 0) H (fun y7_9 H_10 => m26_1 y7_9 H_10 Q) Q
theorem c26_0 (env : Env) (H : Heap) (Q : Ending → Heap → Prop) (h : m26 (env 0) (env 1) (env 2) H Q) :
    RCode Try.prog 21 (bodyOf Try.f26) env H (mkK (retK T Try.f26.results.toList Q) (fun _ _ _ => False) (retK T Try.f26.results.toList Q) (fun c H => Q (.panicked c) H)) :=
  RCode.prefix_ (T := T) (X := ext) (hint := hint26) (hole := (fun e H => m26_2 (e 0) (e 1) (e 2) (e 7) H (fun y7_11 H_12 => m26_1 y7_11 H_12 Q) Q)) tok xok mixed 2 (by kernel_rfl) (by kernel_rfl : codeAt _ _ = (codeAt [1, 1] (bodyOf Try.f26))) h
    (fun e H h => RCode.join (by kernel_rfl : (codeAt [1, 1] (bodyOf Try.f26)) = .seq (codeAt [1, 1, 0] (bodyOf Try.f26)) (codeAt [1, 1, 1] (bodyOf Try.f26))) ((c26_2 e H (fun y7_13 H_14 => m26_1 y7_13 H_14 Q) Q h).mono (mkK_mono (fun e H h => c26_1 e H Q h) (fun _ _ _ h => h) (fun _ _ h => h) (fun _ _ h => h))))
theorem call26 (a0 a1 a2 : Value) (H : Heap) (Q : Ending → Heap → Prop) (h : m26 a0 a1 a2 H Q) : RCalls Try.prog 26 [a0, a1, a2] H Q :=
  RCalls.intro (nt := 21) tok Try.func26 (by kernel_rfl) (by kernel_rfl) (by kernel_rfl) (of_decide_eq_true (by kernel_rfl)) (c26_0 (envOf [a0, a1, a2]) H Q h)
/-! ### 27: privity/privityref34.Words -/
def hint27 : Nat → List Nat := lookupL []
def m27_1 (x3 : Value) (H : Heap) (Q : Ending → Heap → Prop) : Prop :=
Q (.returned x3) H
theorem c27_1 (env : Env) (H : Heap) (Q : Ending → Heap → Prop) (h : m27_1 (env 3) H Q) :
    RCode Try.prog 22 (codeAt [1, 1, 1] (bodyOf Try.f27)) env H (mkK (retK T Try.f27.results.toList Q) (fun _ _ _ => False) (retK T Try.f27.results.toList Q) (fun c H => Q (.panicked c) H)) :=
  RCode.leaf_ (T := T) (X := ext) (hint := hint27) tok xok mixed (by kernel_rfl) h
def L27_3 (x0 x3 x4 : Value) (H : Heap) (kn : Value → Heap → Prop) (Q : Ending → Heap → Prop) : Prop :=
  ∀ env : Env, env 0 = x0 → env 3 = x3 → env 4 = x4 → RLoop Try.prog 22 (codeAt [1, 1, 0, 1, 0, 0] (bodyOf Try.f27)) env H (mkK (fun _ _ => False) (inK 0 (fun e H => kn (e 3) H) (fun _ _ _ => False)) (retK T Try.f27.results.toList Q) (fun c H => Q (.panicked c) H))
theorem cL27_3 (env : Env) (H : Heap) (kn : Value → Heap → Prop) (Q : Ending → Heap → Prop) (h : L27_3 (env 0) (env 3) (env 4) H kn Q) :
    RCode Try.prog 22 (codeAt [1, 1, 0, 1] (bodyOf Try.f27)) env H (mkK (fun e H => kn (e 3) H) (fun _ _ _ => False) (retK T Try.f27.results.toList Q) (fun c H => Q (.panicked c) H)) :=
  RCode.blk (by kernel_rfl : (codeAt [1, 1, 0, 1] (bodyOf Try.f27)) = .block 0 (codeAt [1, 1, 0, 1, 0] (bodyOf Try.f27))) (RCode.lp (by kernel_rfl : (codeAt [1, 1, 0, 1, 0] (bodyOf Try.f27)) = .loop (codeAt [1, 1, 0, 1, 0, 0] (bodyOf Try.f27))) ((h env rfl rfl rfl).mono (mkK_mono (fun _ _ h => h.elim) (fun _ _ _ h => h) (fun _ _ h => h) (fun _ _ h => h))))
def m27_4 (x0 x3 x4 : Value) (H : Heap) (kn : Value → Value → Value → Heap → Prop) (kx0 : Value → Heap → Prop) (Q : Ending → Heap → Prop) : Prop :=
oV (vLen x0) fun t7_1 =>
oV (vInt .lss x4 t7_1) fun t8_2 =>
condK t8_2 (
oV (vIdxS 1 x0 x4) fun t13_3 =>
oV (vLoad ty4 t13_3 H) fun t14_4 =>
condK t14_4 (
oBuildS ty22 22 1 [((0, 1), (.int .u64 1))] H fun s_5 H_6 =>
oAppend ty22 22 x3 s_5 H_6 fun v_7 H_8 =>
oV (vInt .add x4 (.int .i64 1)) fun t10_9 =>
kn x0 v_7 t10_9 H_8) (
oBuildS ty22 22 1 [((0, 1), (.int .u64 0))] H fun s_10 H_11 =>
oAppend ty22 22 x3 s_10 H_11 fun v_12 H_13 =>
oV (vInt .add x4 (.int .i64 1)) fun t10_14 =>
kn x0 v_12 t10_14 H_13)) (
kx0 x3 H)
theorem c27_4 (env : Env) (H : Heap) (kn : Value → Value → Value → Heap → Prop) (kx0 : Value → Heap → Prop) (Q : Ending → Heap → Prop) (h : m27_4 (env 0) (env 3) (env 4) H kn kx0 Q) :
    RCode Try.prog 22 (codeAt [1, 1, 0, 1, 0, 0] (bodyOf Try.f27)) env H (mkK (fun e H => kn (e 0) (e 3) (e 4) H) (inK 0 (fun e H => kx0 (e 3) H) (fun _ _ _ => False)) (retK T Try.f27.results.toList Q) (fun c H => Q (.panicked c) H)) :=
  RCode.leaf_ (T := T) (X := ext) (hint := hint27) tok xok mixed (by kernel_rfl) h
theorem L27_3_round (x0 x3 x4 : Value) (H : Heap) (kn : Value → Heap → Prop) (Q : Ending → Heap → Prop) (h : m27_4 x0 x3 x4 H (fun y0 y3 y4 H => L27_3 y0 y3 y4 H kn Q) kn Q) : L27_3 x0 x3 x4 H kn Q := by
  intro env h0 h3 h4
  subst h0; subst h3; subst h4
  exact RLoop.round ((c27_4 env H (fun y0 y3 y4 H => L27_3 y0 y3 y4 H kn Q) kn Q h).mono (mkK_mono (fun e H h => h e rfl rfl rfl) (fun _ _ _ h => h) (fun _ _ h => h) (fun _ _ h => h)))
def m27_2 (x0 x3 : Value) (H : Heap) (kn : Value → Heap → Prop) (Q : Ending → Heap → Prop) : Prop :=
L27_3 x0 x3 (.int .i64 0) H kn Q
theorem c27_2 (env : Env) (H : Heap) (kn : Value → Heap → Prop) (Q : Ending → Heap → Prop) (h : m27_2 (env 0) (env 3) H kn Q) :
    RCode Try.prog 22 (codeAt [1, 1, 0] (bodyOf Try.f27)) env H (mkK (fun e H => kn (e 3) H) (fun _ _ _ => False) (retK T Try.f27.results.toList Q) (fun c H => Q (.panicked c) H)) :=
  RCode.prefix_ (T := T) (X := ext) (hint := hint27) (hole := (fun e H => L27_3 (e 0) (e 3) (e 4) H kn Q)) tok xok mixed 1 (by kernel_rfl) (by kernel_rfl : codeAt _ _ = (codeAt [1, 1, 0, 1] (bodyOf Try.f27))) h
    (fun e H h => (cL27_3 e H kn Q h))
def m27 (x0 : Value) (H : Heap) (Q : Ending → Heap → Prop) : Prop :=
m27_2 x0 (.slice none 0 0) H (fun y3_15 H_16 => m27_1 y3_15 H_16 Q) Q
theorem c27_0 (env : Env) (H : Heap) (Q : Ending → Heap → Prop) (h : m27 (env 0) H Q) :
    RCode Try.prog 22 (bodyOf Try.f27) env H (mkK (retK T Try.f27.results.toList Q) (fun _ _ _ => False) (retK T Try.f27.results.toList Q) (fun c H => Q (.panicked c) H)) :=
  RCode.prefix_ (T := T) (X := ext) (hint := hint27) (hole := (fun e H => m27_2 (e 0) (e 3) H (fun y3_17 H_18 => m27_1 y3_17 H_18 Q) Q)) tok xok mixed 2 (by kernel_rfl) (by kernel_rfl : codeAt _ _ = (codeAt [1, 1] (bodyOf Try.f27))) h
    (fun e H h => RCode.join (by kernel_rfl : (codeAt [1, 1] (bodyOf Try.f27)) = .seq (codeAt [1, 1, 0] (bodyOf Try.f27)) (codeAt [1, 1, 1] (bodyOf Try.f27))) ((c27_2 e H (fun y3_19 H_20 => m27_1 y3_19 H_20 Q) Q h).mono (mkK_mono (fun e H h => c27_1 e H Q h) (fun _ _ _ h => h) (fun _ _ h => h) (fun _ _ h => h))))
theorem call27 (a0 : Value) (H : Heap) (Q : Ending → Heap → Prop) (h : m27 a0 H Q) : RCalls Try.prog 27 [a0] H Q :=
  RCalls.intro (nt := 22) tok Try.func27 (by kernel_rfl) (by kernel_rfl) (by kernel_rfl) (of_decide_eq_true (by kernel_rfl)) (c27_0 (envOf [a0]) H Q h)
/-! ### 28: (*privity/gadget.Builder).Not -/
def hint28 : Nat → List Nat := lookupL []
def m28 (x0 x1 : Value) (H : Heap) (Q : Ending → Heap → Prop) : Prop :=
oRC Try.prog 19 [x0, (.int .u64 1)] H (fun c H => Q (.panicked c) H) fun v_1 H_2 =>
oRC Try.prog 16 [x0, v_1, x1] H_2 (fun c H => Q (.panicked c) H) fun v_3 H_4 =>
Q (.returned v_3) H_4
theorem c28_0 (env : Env) (H : Heap) (Q : Ending → Heap → Prop) (h : m28 (env 0) (env 1) H Q) :
    RCode Try.prog 10 (bodyOf Try.f28) env H (mkK (retK T Try.f28.results.toList Q) (fun _ _ _ => False) (retK T Try.f28.results.toList Q) (fun c H => Q (.panicked c) H)) :=
  RCode.leaf_ (T := T) (X := ext) (hint := hint28) tok xok mixed (by kernel_rfl) h
theorem call28 (a0 a1 : Value) (H : Heap) (Q : Ending → Heap → Prop) (h : m28 a0 a1 H Q) : RCalls Try.prog 28 [a0, a1] H Q :=
  RCalls.intro (nt := 10) tok Try.func28 (by kernel_rfl) (by kernel_rfl) (by kernel_rfl) (of_decide_eq_true (by kernel_rfl)) (c28_0 (envOf [a0, a1]) H Q h)
/-! ### 29: (*privity/gadget.Builder).And -/
def hint29 : Nat → List Nat := lookupL []
def m29 (x0 x1 x2 : Value) (H : Heap) (Q : Ending → Heap → Prop) : Prop :=
oRC Try.prog 17 [x0, x1, x2] H (fun c H => Q (.panicked c) H) fun v_1 H_2 =>
Q (.returned v_1) H_2
theorem c29_0 (env : Env) (H : Heap) (Q : Ending → Heap → Prop) (h : m29 (env 0) (env 1) (env 2) H Q) :
    RCode Try.prog 11 (bodyOf Try.f29) env H (mkK (retK T Try.f29.results.toList Q) (fun _ _ _ => False) (retK T Try.f29.results.toList Q) (fun c H => Q (.panicked c) H)) :=
  RCode.leaf_ (T := T) (X := ext) (hint := hint29) tok xok mixed (by kernel_rfl) h
theorem call29 (a0 a1 a2 : Value) (H : Heap) (Q : Ending → Heap → Prop) (h : m29 a0 a1 a2 H Q) : RCalls Try.prog 29 [a0, a1, a2] H Q :=
  RCalls.intro (nt := 11) tok Try.func29 (by kernel_rfl) (by kernel_rfl) (by kernel_rfl) (of_decide_eq_true (by kernel_rfl)) (c29_0 (envOf [a0, a1, a2]) H Q h)
/-! ### 32: (*privity/gadget.Builder).Select -/
def hint32 : Nat → List Nat := lookupL []
def m32 (x0 x1 x2 x3 : Value) (H : Heap) (Q : Ending → Heap → Prop) : Prop :=
oRC Try.prog 16 [x0, x2, x3] H (fun c H => Q (.panicked c) H) fun v_1 H_2 =>
oRC Try.prog 17 [x0, x1, v_1] H_2 (fun c H => Q (.panicked c) H) fun v_3 H_4 =>
oRC Try.prog 15 [x0, x3, v_3] H_4 (fun c H => Q (.panicked c) H) fun v_5 H_6 =>
Q (.returned v_5) H_6
theorem c32_0 (env : Env) (H : Heap) (Q : Ending → Heap → Prop) (h : m32 (env 0) (env 1) (env 2) (env 3) H Q) :
    RCode Try.prog 19 (bodyOf Try.f32) env H (mkK (retK T Try.f32.results.toList Q) (fun _ _ _ => False) (retK T Try.f32.results.toList Q) (fun c H => Q (.panicked c) H)) :=
  RCode.leaf_ (T := T) (X := ext) (hint := hint32) tok xok mixed (by kernel_rfl) h
theorem call32 (a0 a1 a2 a3 : Value) (H : Heap) (Q : Ending → Heap → Prop) (h : m32 a0 a1 a2 a3 H Q) : RCalls Try.prog 32 [a0, a1, a2, a3] H Q :=
  RCalls.intro (nt := 19) tok Try.func32 (by kernel_rfl) (by kernel_rfl) (by kernel_rfl) (of_decide_eq_true (by kernel_rfl)) (c32_0 (envOf [a0, a1, a2, a3]) H Q h)
/-! ### 33: privity/privityref34.Muls -/
def hint33 : Nat → List Nat := lookupL []
def m33_1 (x3 : Value) (H : Heap) (Q : Ending → Heap → Prop) : Prop :=
Q (.returned x3) H
theorem c33_1 (env : Env) (H : Heap) (Q : Ending → Heap → Prop) (h : m33_1 (env 3) H Q) :
    RCode Try.prog 22 (codeAt [1, 1, 1] (bodyOf Try.f33)) env H (mkK (retK T Try.f33.results.toList Q) (fun _ _ _ => False) (retK T Try.f33.results.toList Q) (fun c H => Q (.panicked c) H)) :=
  RCode.leaf_ (T := T) (X := ext) (hint := hint33) tok xok mixed (by kernel_rfl) h
def L33_3 (x1 x3 x4 : Value) (H : Heap) (kn : Value → Heap → Prop) (Q : Ending → Heap → Prop) : Prop :=
  ∀ env : Env, env 1 = x1 → env 3 = x3 → env 4 = x4 → RLoop Try.prog 22 (codeAt [1, 1, 0, 1, 0, 0] (bodyOf Try.f33)) env H (mkK (fun _ _ => False) (inK 0 (fun e H => kn (e 3) H) (fun _ _ _ => False)) (retK T Try.f33.results.toList Q) (fun c H => Q (.panicked c) H))
theorem cL33_3 (env : Env) (H : Heap) (kn : Value → Heap → Prop) (Q : Ending → Heap → Prop) (h : L33_3 (env 1) (env 3) (env 4) H kn Q) :
    RCode Try.prog 22 (codeAt [1, 1, 0, 1] (bodyOf Try.f33)) env H (mkK (fun e H => kn (e 3) H) (fun _ _ _ => False) (retK T Try.f33.results.toList Q) (fun c H => Q (.panicked c) H)) :=
  RCode.blk (by kernel_rfl : (codeAt [1, 1, 0, 1] (bodyOf Try.f33)) = .block 0 (codeAt [1, 1, 0, 1, 0] (bodyOf Try.f33))) (RCode.lp (by kernel_rfl : (codeAt [1, 1, 0, 1, 0] (bodyOf Try.f33)) = .loop (codeAt [1, 1, 0, 1, 0, 0] (bodyOf Try.f33))) ((h env rfl rfl rfl).mono (mkK_mono (fun _ _ h => h.elim) (fun _ _ _ h => h) (fun _ _ h => h) (fun _ _ h => h))))
def m33_4 (x1 x3 x4 : Value) (H : Heap) (kn : Value → Value → Value → Heap → Prop) (kx0 : Value → Heap → Prop) (Q : Ending → Heap → Prop) : Prop :=
oV (vField 1 x1) fun t6_1 =>
oV (vLoad ty37 t6_1 H) fun t7_2 =>
oV (vLen t7_2) fun t8_3 =>
oV (vInt .lss x4 t8_3) fun t9_4 =>
condK t9_4 (
oV (vField 1 x1) fun t12_5 =>
oV (vLoad ty37 t12_5 H) fun t13_6 =>
oV (vIdxS 5 t13_6 x4) fun t15_7 =>
oV (vField 0 t15_7) fun t16_8 =>
oV (vLoad ty3 t16_8 H) fun t17_9 =>
oV (vInt .eql t17_9 (.int .i64 6)) fun t18_10 =>
condK t18_10 (
oV (vInt .add x3 (.int .i64 1)) fun t20_11 =>
oV (vInt .add x4 (.int .i64 1)) fun t11_12 =>
kn x1 t20_11 t11_12 H) (
oV (vInt .add x4 (.int .i64 1)) fun t11_13 =>
kn x1 x3 t11_13 H)) (
kx0 x3 H)
theorem c33_4 (env : Env) (H : Heap) (kn : Value → Value → Value → Heap → Prop) (kx0 : Value → Heap → Prop) (Q : Ending → Heap → Prop) (h : m33_4 (env 1) (env 3) (env 4) H kn kx0 Q) :
    RCode Try.prog 22 (codeAt [1, 1, 0, 1, 0, 0] (bodyOf Try.f33)) env H (mkK (fun e H => kn (e 1) (e 3) (e 4) H) (inK 0 (fun e H => kx0 (e 3) H) (fun _ _ _ => False)) (retK T Try.f33.results.toList Q) (fun c H => Q (.panicked c) H)) :=
  RCode.leaf_ (T := T) (X := ext) (hint := hint33) tok xok mixed (by kernel_rfl) h
theorem L33_3_round (x1 x3 x4 : Value) (H : Heap) (kn : Value → Heap → Prop) (Q : Ending → Heap → Prop) (h : m33_4 x1 x3 x4 H (fun y1 y3 y4 H => L33_3 y1 y3 y4 H kn Q) kn Q) : L33_3 x1 x3 x4 H kn Q := by
  intro env h1 h3 h4
  subst h1; subst h3; subst h4
  exact RLoop.round ((c33_4 env H (fun y1 y3 y4 H => L33_3 y1 y3 y4 H kn Q) kn Q h).mono (mkK_mono (fun e H h => h e rfl rfl rfl) (fun _ _ _ h => h) (fun _ _ h => h) (fun _ _ h => h)))
def m33_2 (x1 x3 : Value) (H : Heap) (kn : Value → Heap → Prop) (Q : Ending → Heap → Prop) : Prop :=
L33_3 x1 x3 (.int .i64 0) H kn Q
theorem c33_2 (env : Env) (H : Heap) (kn : Value → Heap → Prop) (Q : Ending → Heap → Prop) (h : m33_2 (env 1) (env 3) H kn Q) :
    RCode Try.prog 22 (codeAt [1, 1, 0] (bodyOf Try.f33)) env H (mkK (fun e H => kn (e 3) H) (fun _ _ _ => False) (retK T Try.f33.results.toList Q) (fun c H => Q (.panicked c) H)) :=
  RCode.prefix_ (T := T) (X := ext) (hint := hint33) (hole := (fun e H => L33_3 (e 1) (e 3) (e 4) H kn Q)) tok xok mixed 1 (by kernel_rfl) (by kernel_rfl : codeAt _ _ = (codeAt [1, 1, 0, 1] (bodyOf Try.f33))) h
    (fun e H h => (cL33_3 e H kn Q h))
def m33 (x0 : Value) (H : Heap) (Q : Ending → Heap → Prop) : Prop :=
oNew (Value.cells x0).toList (Value.cells x0).toList.length 40 H fun i_14 H_15 =>
m33_2 (ptrTo i_14) (.int .i64 0) H_15 (fun y3_16 H_17 => m33_1 y3_16 H_17 Q) Q
theorem c33_0 (env : Env) (H : Heap) (Q : Ending → Heap → Prop) (h : m33 (env 0) H Q) :
    RCode Try.prog 22 (bodyOf Try.f33) env H (mkK (retK T Try.f33.results.toList Q) (fun _ _ _ => False) (retK T Try.f33.results.toList Q) (fun c H => Q (.panicked c) H)) :=
  RCode.prefix_ (T := T) (X := ext) (hint := hint33) (hole := (fun e H => m33_2 (e 1) (e 3) H (fun y3_18 H_19 => m33_1 y3_18 H_19 Q) Q)) tok xok mixed 2 (by kernel_rfl) (by kernel_rfl : codeAt _ _ = (codeAt [1, 1] (bodyOf Try.f33))) h
    (fun e H h => RCode.join (by kernel_rfl : (codeAt [1, 1] (bodyOf Try.f33)) = .seq (codeAt [1, 1, 0] (bodyOf Try.f33)) (codeAt [1, 1, 1] (bodyOf Try.f33))) ((c33_2 e H (fun y3_20 H_21 => m33_1 y3_20 H_21 Q) Q h).mono (mkK_mono (fun e H h => c33_1 e H Q h) (fun _ _ _ h => h) (fun _ _ h => h) (fun _ _ h => h))))
theorem call33 (a0 : Value) (H : Heap) (Q : Ending → Heap → Prop) (h : m33 a0 H Q) : RCalls Try.prog 33 [a0] H Q :=
  RCalls.intro (nt := 22) tok Try.func33 (by kernel_rfl) (by kernel_rfl) (by kernel_rfl) (of_decide_eq_true (by kernel_rfl)) (c33_0 (envOf [a0]) H Q h)
/-! ### 6: privity/privitylaw34.GadgetBooleanGates -/
def hint6 : Nat → List Nat := lookupL [(11, [0, 1, 2, 3, 4, 5, 6, 7, 8, 9]), (12, [0, 1, 2, 3, 4, 5, 6, 7, 8, 9]), (13, [0, 1, 2, 3, 4, 5, 6, 7, 8, 9]), (15, [0, 1, 2, 3, 5, 6, 7, 8, 9, 10, 11, 13, 14, 15, 16, 17, 18, 19, 21, 22, 23, 24, 25, 26, 27, 29, 30, 31, 32, 33, 34, 35, 36, 4, 12, 20, 28, 37, 38, 39]), (16, [0, 2, 3, 4, 5, 6, 9, 1, 7, 8, 10, 11, 12, 13, 14, 15, 16, 17])]
def m6 (x0 x1 x2 : Value) (H : Heap) (Q : Ending → Heap → Prop) : Prop :=
oNew (Value.cells x1).toList (Value.cells x1).toList.length 51 H fun i_1 H_2 =>
oNew (Value.cells x2).toList (Value.cells x2).toList.length 23 H_2 fun i_3 H_4 =>
oRC Try.prog 10 [] H_4 (fun c H => Q (.panicked c) H) fun v_5 H_6 =>
oV (vUn .not v_5) fun t14_7 =>
condK t14_7 (
Q (.returned (.bool false)) H_6) (
oRC Try.prog 11 [x0] H_6 (fun c H => Q (.panicked c) H) fun v_8 H_9 =>
oV (vUn .not v_8) fun t17_10 =>
oV (gV t17_10 false (vIdxA 2 1 (ptrTo i_3) (.int .i64 0)) (some undef)) fun t19_11 =>
oV (gV t17_10 false (vLoad ty22 t19_11 H_9) (some undef)) fun t20_12 =>
oV (gV t17_10 false (some x0) (some undef)) fun t21_13 =>
oV (gV t17_10 false (vInt .geq t20_12 t21_13) (some undef)) fun t22_14 =>
oV (vPick t17_10 (.bool true) t22_14) fun t23_15 =>
oV (gV t23_15 false (vIdxA 2 1 (ptrTo i_3) (.int .i64 1)) (some undef)) fun t25_16 =>
oV (gV t23_15 false (vLoad ty22 t25_16 H_9) (some undef)) fun t26_17 =>
oV (gV t23_15 false (some x0) (some undef)) fun t27_18 =>
oV (gV t23_15 false (vInt .geq t26_17 t27_18) (some undef)) fun t28_19 =>
oV (vPick t23_15 (.bool true) t28_19) fun t29_20 =>
condK t29_20 (
Q (.returned (.bool true)) H_9) (
oRC Try.prog 12 [x0] H_9 (fun c H => Q (.panicked c) H) fun v_21 H_22 =>
oRC Try.prog 26 [v_21, (.int .i64 1), (.int .i64 3)] H_22 (fun c H => Q (.panicked c) H) fun v_23 H_24 =>
oRC Try.prog 13 [v_21, (.int .i64 2), (.bool false)] H_24 (fun c H => Q (.panicked c) H) fun v_25 H_26 =>
oRC Try.prog 13 [v_21, (.int .i64 2), (.bool false)] H_26 (fun c H => Q (.panicked c) H) fun v_27 H_28 =>
oV (vIdxA 3 1 (ptrTo i_1) (.int .i64 0)) fun t38_29 =>
oV (vLoad ty4 t38_29 H_28) fun t39_30 =>
oV (vIdxA 3 1 (ptrTo i_1) (.int .i64 1)) fun t40_31 =>
oV (vLoad ty4 t40_31 H_28) fun t41_32 =>
oV (vIdxA 3 1 (ptrTo i_1) (.int .i64 2)) fun t42_33 =>
oV (vLoad ty4 t42_33 H_28) fun t43_34 =>
oBuildS ty4 4 3 [((0, 1), t39_30), ((1, 1), t41_32), ((2, 1), t43_34)] H_28 fun s_35 H_36 =>
oRC Try.prog 27 [s_35] H_36 (fun c H => Q (.panicked c) H) fun v_37 H_38 =>
oV (vIdxS 1 v_23 (.int .i64 0)) fun t49_39 =>
oV (vLoad ty3 t49_39 H_38) fun t50_40 =>
oRC Try.prog 28 [v_21, t50_40] H_38 (fun c H => Q (.panicked c) H) fun v_41 H_42 =>
oRC Try.prog 14 [v_21, v_41] H_42 (fun c H => Q (.panicked c) H) fun v_43 H_44 =>
oV (vIdxS 1 v_23 (.int .i64 0)) fun t56_45 =>
oV (vLoad ty3 t56_45 H_44) fun t57_46 =>
oV (vIdxS 1 v_23 (.int .i64 1)) fun t59_47 =>
oV (vLoad ty3 t59_47 H_44) fun t60_48 =>
oRC Try.prog 29 [v_21, t57_46, t60_48] H_44 noP fun v_49 H_50 =>
oRC Try.prog 14 [v_21, v_49] H_50 noP fun v_51 H_52 =>
oV (vIdxS 1 v_23 (.int .i64 0)) fun t66_53 =>
oV (vLoad ty3 t66_53 H_52) fun t67_54 =>
oV (vIdxS 1 v_23 (.int .i64 1)) fun t69_55 =>
oV (vLoad ty3 t69_55 H_52) fun t70_56 =>
oRC Try.prog 30 [v_21, t67_54, t70_56] H_52 noP fun v_57 H_58 =>
oRC Try.prog 14 [v_21, v_57] H_58 noP fun v_59 H_60 =>
oV (vIdxS 1 v_23 (.int .i64 0)) fun t76_61 =>
oV (vLoad ty3 t76_61 H_60) fun t77_62 =>
oV (vIdxS 1 v_23 (.int .i64 1)) fun t79_63 =>
oV (vLoad ty3 t79_63 H_60) fun t80_64 =>
oRC Try.prog 31 [v_21, t77_62, t80_64] H_60 noP fun v_65 H_66 =>
oRC Try.prog 14 [v_21, v_65] H_66 noP fun v_67 H_68 =>
oV (vIdxS 1 v_23 (.int .i64 2)) fun t86_69 =>
oV (vLoad ty3 t86_69 H_68) fun t87_70 =>
oRC Try.prog 32 [v_21, t87_70, v_25, v_27] H_68 (fun c H => Q (.panicked c) H) fun v_71 H_72 =>
oRC Try.prog 14 [v_21, v_71] H_72 (fun c H => Q (.panicked c) H) fun v_73 H_74 =>
oV (vIdxS 1 v_37 (.int .i64 0)) fun t94_75 =>
oV (vLoad ty22 t94_75 H_74) fun t95_76 =>
oV (vIdxS 1 v_37 (.int .i64 0)) fun t99_77 =>
oV (vLoad ty22 t99_77 H_74) fun t100_78 =>
oV (vIdxS 1 v_37 (.int .i64 1)) fun t102_79 =>
oV (vLoad ty22 t102_79 H_74) fun t103_80 =>
oV (vIdxS 1 v_37 (.int .i64 0)) fun t107_81 =>
oV (vLoad ty22 t107_81 H_74) fun t108_82 =>
oV (vIdxS 1 v_37 (.int .i64 1)) fun t110_83 =>
oV (vLoad ty22 t110_83 H_74) fun t111_84 =>
oV (vIdxS 1 v_37 (.int .i64 0)) fun t115_85 =>
oV (vLoad ty22 t115_85 H_74) fun t116_86 =>
oV (vIdxS 1 v_37 (.int .i64 1)) fun t118_87 =>
oV (vLoad ty22 t118_87 H_74) fun t119_88 =>
oV (vIdxA 2 1 (ptrTo i_3) (.int .i64 0)) fun t122_89 =>
oV (vLoad ty22 t122_89 H_74) fun t123_90 =>
oV (vIdxA 2 1 (ptrTo i_3) (.int .i64 1)) fun t124_91 =>
oV (vLoad ty22 t124_91 H_74) fun t125_92 =>
oV (vIdxS 1 v_37 (.int .i64 2)) fun t127_93 =>
oV (vLoad ty22 t127_93 H_74) fun t128_94 =>
oRC Try.prog 20 [x0, (.int .i64 3), t95_76, (.int .u64 0), (.int .u64 0)] H_74 noP fun v_95 H_96 =>
(vLoad ty22 t127_93 H_96 = some t128_94 ∧
(vLoad ty22 t124_91 H_96 = some t125_92 ∧
(vLoad ty22 t122_89 H_96 = some t123_90 ∧
(vLoad ty22 t118_87 H_96 = some t119_88 ∧
(vLoad ty22 t115_85 H_96 = some t116_86 ∧
(vLoad ty22 t110_83 H_96 = some t111_84 ∧
(vLoad ty22 t107_81 H_96 = some t108_82 ∧
(vLoad ty22 t102_79 H_96 = some t103_80 ∧
(vLoad ty22 t99_77 H_96 = some t100_78 ∧
oRC Try.prog 20 [x0, (.int .i64 4), t100_78, t103_80, (.int .u64 0)] H_96 noP fun v_97 H_98 =>
(vLoad ty22 t127_93 H_98 = some t128_94 ∧
(vLoad ty22 t124_91 H_98 = some t125_92 ∧
(vLoad ty22 t122_89 H_98 = some t123_90 ∧
(vLoad ty22 t118_87 H_98 = some t119_88 ∧
(vLoad ty22 t115_85 H_98 = some t116_86 ∧
(vLoad ty22 t110_83 H_98 = some t111_84 ∧
(vLoad ty22 t107_81 H_98 = some t108_82 ∧
oRC Try.prog 20 [x0, (.int .i64 5), t108_82, t111_84, (.int .u64 0)] H_98 noP fun v_99 H_100 =>
(vLoad ty22 t127_93 H_100 = some t128_94 ∧
(vLoad ty22 t124_91 H_100 = some t125_92 ∧
(vLoad ty22 t122_89 H_100 = some t123_90 ∧
(vLoad ty22 t118_87 H_100 = some t119_88 ∧
(vLoad ty22 t115_85 H_100 = some t116_86 ∧
oRC Try.prog 20 [x0, (.int .i64 6), t116_86, t119_88, (.int .u64 0)] H_100 noP fun v_101 H_102 =>
(vLoad ty22 t127_93 H_102 = some t128_94 ∧
(vLoad ty22 t124_91 H_102 = some t125_92 ∧
(vLoad ty22 t122_89 H_102 = some t123_90 ∧
oRC Try.prog 20 [x0, (.int .i64 7), t123_90, t125_92, t128_94] H_102 noP fun v_103 H_104 =>
oBuildS ty22 22 5 [((0, 1), v_95), ((1, 1), v_97), ((2, 1), v_99), ((3, 1), v_101), ((4, 1), v_103)] H_104 fun s_105 H_106 =>
oV (vIdxA 2 1 (ptrTo i_3) (.int .i64 0)) fun t134_107 =>
oV (vLoad ty22 t134_107 H_106) fun t135_108 =>
oV (vIdxA 2 1 (ptrTo i_3) (.int .i64 1)) fun t136_109 =>
oV (vLoad ty22 t136_109 H_106) fun t137_110 =>
oRC Try.prog 23 [v_21] H_106 noP fun v_111 H_112 =>
(vLoad ty22 t136_109 H_112 = some t137_110 ∧
(vLoad ty22 t134_107 H_112 = some t135_108 ∧
oBuildS ty22 22 2 [((0, 1), t135_108), ((1, 1), t137_110)] H_112 fun s_113 H_114 =>
oBuildS ty35 35 2 [((0, 1), v_37), ((1, 1), s_113)] H_114 fun s_115 H_116 =>
oRC Try.prog 22 [v_111, s_115, s_105] H_116 noP fun v_117 H_118 =>
oV (gV v_117 true (some v_21) (some undef)) fun t143_119 =>
letK (fun t144_121 H_122 =>
letK (fun t145_124 H_125 =>
oV (gV v_117 true (vInt .leq t145_124 (.int .i64 4)) (some undef)) fun t146_126 =>
oV (vPick v_117 t146_126 (.bool false)) fun t147_127 =>
Q (.returned t147_127) H_125) fun k_123 => gK v_117 true (oRC Try.prog 33 [t144_121] H_122 noP fun v_128 H_129 =>
k_123 v_128 H_129) (k_123 undef H_122)) fun k_120 => gK v_117 true (oRC Try.prog 23 [t143_119] H_118 noP fun v_130 H_131 =>
k_120 v_130 H_131) (k_120 undef H_118)))))))))))))))))))))))))))))
theorem c6_0 (env : Env) (H : Heap) (Q : Ending → Heap → Prop) (h : m6 (env 0) (env 1) (env 2) H Q) :
    RCode Try.prog 148 (bodyOf Try.f6) env H (mkK (retK T Try.f6.results.toList Q) (fun _ _ _ => False) (retK T Try.f6.results.toList Q) (fun c H => Q (.panicked c) H)) :=
  RCode.leaf_ (T := T) (X := ext) (hint := hint6) tok xok mixed (by kernel_rfl) h
theorem call6 (a0 a1 a2 : Value) (H : Heap) (Q : Ending → Heap → Prop) (h : m6 a0 a1 a2 H Q) : RCalls Try.prog 6 [a0, a1, a2] H Q :=
  RCalls.intro (nt := 148) tok Try.func6 (by kernel_rfl) (by kernel_rfl) (by kernel_rfl) (of_decide_eq_true (by kernel_rfl)) (c6_0 (envOf [a0, a1, a2]) H Q h)
/-! ### 58: (*privity/gadget.Builder).less -/
def hint58 : Nat → List Nat := lookupL []
def m58 (x0 x1 x2 x3 : Value) (H : Heap) (Q : Ending → Heap → Prop) : Prop :=
oRC Try.prog 31 [x0, x1, x2] H (fun c H => Q (.panicked c) H) fun v_1 H_2 =>
oRC Try.prog 32 [x0, v_1, x2, x3] H_2 (fun c H => Q (.panicked c) H) fun v_3 H_4 =>
Q (.returned (.tuple #[v_1, v_3])) H_4
theorem c58_0 (env : Env) (H : Heap) (Q : Ending → Heap → Prop) (h : m58 (env 0) (env 1) (env 2) (env 3) H Q) :
    RCode Try.prog 21 (bodyOf Try.f58) env H (mkK (retK T Try.f58.results.toList Q) (fun _ _ _ => False) (retK T Try.f58.results.toList Q) (fun c H => Q (.panicked c) H)) :=
  RCode.leaf_ (T := T) (X := ext) (hint := hint58) tok xok mixed (by kernel_rfl) h
theorem call58 (a0 a1 a2 a3 : Value) (H : Heap) (Q : Ending → Heap → Prop) (h : m58 a0 a1 a2 a3 H Q) : RCalls Try.prog 58 [a0, a1, a2, a3] H Q :=
  RCalls.intro (nt := 21) tok Try.func58 (by kernel_rfl) (by kernel_rfl) (by kernel_rfl) (of_decide_eq_true (by kernel_rfl)) (c58_0 (envOf [a0, a1, a2, a3]) H Q h)
/-! ### 72: (*privity/gadget.Builder).pairs$1 -/
def hint72 : Nat → List Nat := lookupL []
def m72 (x0 x1 x2 x3 : Value) (H : Heap) (Q : Ending → Heap → Prop) : Prop :=
oV (vLen x0) fun t9_1 =>
oV (vInt .lss x1 t9_1) fun t10_2 =>
condK t10_2 (
oV (vIdxS 1 x0 x1) fun t13_3 =>
oV (vLoad ty3 t13_3 H) fun t14_4 =>
Q (.returned t14_4) H) (
oV (vLoad ty3 x2 H) fun t15_5 =>
oV (vInt .lss t15_5 (.int .i64 0)) fun t16_6 =>
condK t16_6 (
oV (vLoad ty26 x3 H) fun t17_7 =>
oRC Try.prog 19 [t17_7, (.int .u64 0)] H (fun c H => Q (.panicked c) H) fun v_8 H_9 =>
oHeap (vStore ty3 x2 v_8 H_9) fun H_10 =>
oV (vLoad ty3 x2 H_10) fun t19_11 =>
Q (.returned t19_11) H_10) (
oV (vLoad ty3 x2 H) fun t19_12 =>
Q (.returned t19_12) H))
theorem c72_0 (env : Env) (H : Heap) (Q : Ending → Heap → Prop) (h : m72 (env 0) (env 1) (env 2) (env 3) H Q) :
    RCode Try.prog 20 (bodyOf Try.f72) env H (mkK (retK T Try.f72.results.toList Q) (fun _ _ _ => False) (retK T Try.f72.results.toList Q) (fun c H => Q (.panicked c) H)) :=
  RCode.leaf_ (T := T) (X := ext) (hint := hint72) tok xok mixed (by kernel_rfl) h
theorem call72 (a0 a1 a2 a3 : Value) (H : Heap) (Q : Ending → Heap → Prop) (h : m72 a0 a1 a2 a3 H Q) : RCalls Try.prog 72 [a0, a1, a2, a3] H Q :=
  RCalls.intro (nt := 20) tok Try.func72 (by kernel_rfl) (by kernel_rfl) (by kernel_rfl) (of_decide_eq_true (by kernel_rfl)) (c72_0 (envOf [a0, a1, a2, a3]) H Q h)
/-! ### 57: (*privity/gadget.Builder).pairs -/
def hint57 : Nat → List Nat := lookupL []
def m57_1 (x3 x14 : Value) (H : Heap) (Q : Ending → Heap → Prop) : Prop :=
Q (.returned (.tuple #[x14, x3])) H
theorem c57_1 (env : Env) (H : Heap) (Q : Ending → Heap → Prop) (h : m57_1 (env 3) (env 14) H Q) :
    RCode Try.prog 47 (codeAt [1, 1, 1, 1, 1] (bodyOf Try.f57)) env H (mkK (retK T Try.f57.results.toList Q) (fun _ _ _ => False) (retK T Try.f57.results.toList Q) (fun c H => Q (.panicked c) H)) :=
  RCode.leaf_ (T := T) (X := ext) (hint := hint57) tok xok mixed (by kernel_rfl) h
def L57_3 (x1 x2 x3 x4 x13 x14 x22 x23 : Value) (H : Heap) (kn : Value → Value → Heap → Prop) (Q : Ending → Heap → Prop) : Prop :=
  ∀ env : Env, env 1 = x1 → env 2 = x2 → env 3 = x3 → env 4 = x4 → env 13 = x13 → env 14 = x14 → env 22 = x22 → env 23 = x23 → RLoop Try.prog 47 (codeAt [1, 1, 1, 1, 0, 1, 0, 0] (bodyOf Try.f57)) env H (mkK (fun _ _ => False) (inK 0 (fun e H => kn (e 3) (e 14) H) (fun _ _ _ => False)) (retK T Try.f57.results.toList Q) (fun c H => Q (.panicked c) H))
theorem cL57_3 (env : Env) (H : Heap) (kn : Value → Value → Heap → Prop) (Q : Ending → Heap → Prop) (h : L57_3 (env 1) (env 2) (env 3) (env 4) (env 13) (env 14) (env 22) (env 23) H kn Q) :
    RCode Try.prog 47 (codeAt [1, 1, 1, 1, 0, 1] (bodyOf Try.f57)) env H (mkK (fun e H => kn (e 3) (e 14) H) (fun _ _ _ => False) (retK T Try.f57.results.toList Q) (fun c H => Q (.panicked c) H)) :=
  RCode.blk (by kernel_rfl : (codeAt [1, 1, 1, 1, 0, 1] (bodyOf Try.f57)) = .block 0 (codeAt [1, 1, 1, 1, 0, 1, 0] (bodyOf Try.f57))) (RCode.lp (by kernel_rfl : (codeAt [1, 1, 1, 1, 0, 1, 0] (bodyOf Try.f57)) = .loop (codeAt [1, 1, 1, 1, 0, 1, 0, 0] (bodyOf Try.f57))) ((h env rfl rfl rfl rfl rfl rfl rfl rfl).mono (mkK_mono (fun _ _ h => h.elim) (fun _ _ _ h => h) (fun _ _ h => h) (fun _ _ h => h))))
def m57_4 (x1 x2 x3 x4 x13 x14 x22 x23 : Value) (H : Heap) (kn : Value → Value → Value → Value → Value → Value → Value → Value → Heap → Prop) (kx0 : Value → Value → Heap → Prop) (Q : Ending → Heap → Prop) : Prop :=
oV (vInt .lss x23 x22) fun t24_1 =>
condK t24_1 (
oCl ext Try.prog x13 [x1, x23] H (fun c H => Q (.panicked c) H) fun v_2 H_3 =>
oCl ext Try.prog x13 [x2, x23] H_3 (fun c H => Q (.panicked c) H) fun v_4 H_5 =>
oCl ext Try.prog x4 [v_2, v_4, x3] H_5 (fun c H => Q (.panicked c) H) fun v_6 H_7 =>
oV (vExtract v_6 0) fun t38_8 =>
oV (vExtract v_6 1) fun t39_9 =>
oBuildS ty3 3 1 [((0, 1), t38_8)] H_7 fun s_10 H_11 =>
oAppend ty3 3 x14 s_10 H_11 fun v_12 H_13 =>
oV (vInt .add x23 (.int .i64 1)) fun t44_14 =>
kn x1 x2 t39_9 x4 x13 v_12 x22 t44_14 H_13) (
kx0 x3 x14 H)
theorem c57_4 (env : Env) (H : Heap) (kn : Value → Value → Value → Value → Value → Value → Value → Value → Heap → Prop) (kx0 : Value → Value → Heap → Prop) (Q : Ending → Heap → Prop) (h : m57_4 (env 1) (env 2) (env 3) (env 4) (env 13) (env 14) (env 22) (env 23) H kn kx0 Q) :
    RCode Try.prog 47 (codeAt [1, 1, 1, 1, 0, 1, 0, 0] (bodyOf Try.f57)) env H (mkK (fun e H => kn (e 1) (e 2) (e 3) (e 4) (e 13) (e 14) (e 22) (e 23) H) (inK 0 (fun e H => kx0 (e 3) (e 14) H) (fun _ _ _ => False)) (retK T Try.f57.results.toList Q) (fun c H => Q (.panicked c) H)) :=
  RCode.leaf_ (T := T) (X := ext) (hint := hint57) tok xok mixed (by kernel_rfl) h
theorem L57_3_round (x1 x2 x3 x4 x13 x14 x22 x23 : Value) (H : Heap) (kn : Value → Value → Heap → Prop) (Q : Ending → Heap → Prop) (h : m57_4 x1 x2 x3 x4 x13 x14 x22 x23 H (fun y1 y2 y3 y4 y13 y14 y22 y23 H => L57_3 y1 y2 y3 y4 y13 y14 y22 y23 H kn Q) kn Q) : L57_3 x1 x2 x3 x4 x13 x14 x22 x23 H kn Q := by
  intro env h1 h2 h3 h4 h13 h14 h22 h23
  subst h1; subst h2; subst h3; subst h4; subst h13; subst h14; subst h22; subst h23
  exact RLoop.round ((c57_4 env H (fun y1 y2 y3 y4 y13 y14 y22 y23 H => L57_3 y1 y2 y3 y4 y13 y14 y22 y23 H kn Q) kn Q h).mono (mkK_mono (fun e H h => h e rfl rfl rfl rfl rfl rfl rfl rfl) (fun _ _ _ h => h) (fun _ _ h => h) (fun _ _ h => h)))
def m57_2 (x1 x2 x3 x4 x13 x14 : Value) (H : Heap) (kn : Value → Value → Heap → Prop) (Q : Ending → Heap → Prop) : Prop :=
oV (vLen x1) fun t19_15 =>
oV (vLen x2) fun t21_16 =>
oV (vMax t19_15 t21_16) fun t22_17 =>
L57_3 x1 x2 x3 x4 x13 x14 t22_17 (.int .i64 0) H kn Q
theorem c57_2 (env : Env) (H : Heap) (kn : Value → Value → Heap → Prop) (Q : Ending → Heap → Prop) (h : m57_2 (env 1) (env 2) (env 3) (env 4) (env 13) (env 14) H kn Q) :
    RCode Try.prog 47 (codeAt [1, 1, 1, 1, 0] (bodyOf Try.f57)) env H (mkK (fun e H => kn (e 3) (e 14) H) (fun _ _ _ => False) (retK T Try.f57.results.toList Q) (fun c H => Q (.panicked c) H)) :=
  RCode.prefix_ (T := T) (X := ext) (hint := hint57) (hole := (fun e H => L57_3 (e 1) (e 2) (e 3) (e 4) (e 13) (e 14) (e 22) (e 23) H kn Q)) tok xok mixed 1 (by kernel_rfl) (by kernel_rfl : codeAt _ _ = (codeAt [1, 1, 1, 1, 0, 1] (bodyOf Try.f57))) h
    (fun e H h => (cL57_3 e H kn Q h))
def m57 (x0 x1 x2 x3 x4 : Value) (H : Heap) (Q : Ending → Heap → Prop) : Prop :=
oNew (Value.cells x0).toList (Value.cells x0).toList.length 26 H fun i_18 H_19 =>
oNew (Value.cells ty3.zero).toList (Value.cells ty3.zero).toList.length 3 H_19 fun i_20 H_21 =>
oHeap (vStore ty3 (ptrTo i_20) (.int .i64 (-1)) H_21) fun H_22 =>
m57_2 x1 x2 x3 x4 (.func (.func 72) #[] #[(ptrTo i_20), (ptrTo i_18)]) (.slice none 0 0) H_22 (fun y3_23 y14_24 H_25 => m57_1 y3_23 y14_24 H_25 Q) Q
theorem c57_0 (env : Env) (H : Heap) (Q : Ending → Heap → Prop) (h : m57 (env 0) (env 1) (env 2) (env 3) (env 4) H Q) :
    RCode Try.prog 47 (bodyOf Try.f57) env H (mkK (retK T Try.f57.results.toList Q) (fun _ _ _ => False) (retK T Try.f57.results.toList Q) (fun c H => Q (.panicked c) H)) :=
  RCode.prefix_ (T := T) (X := ext) (hint := hint57) (hole := (fun e H => m57_2 (e 1) (e 2) (e 3) (e 4) (e 13) (e 14) H (fun y3_26 y14_27 H_28 => m57_1 y3_26 y14_27 H_28 Q) Q)) tok xok mixed 4 (by kernel_rfl) (by kernel_rfl : codeAt _ _ = (codeAt [1, 1, 1, 1] (bodyOf Try.f57))) h
    (fun e H h => RCode.join (by kernel_rfl : (codeAt [1, 1, 1, 1] (bodyOf Try.f57)) = .seq (codeAt [1, 1, 1, 1, 0] (bodyOf Try.f57)) (codeAt [1, 1, 1, 1, 1] (bodyOf Try.f57))) ((c57_2 e H (fun y3_29 y14_30 H_31 => m57_1 y3_29 y14_30 H_31 Q) Q h).mono (mkK_mono (fun e H h => c57_1 e H Q h) (fun _ _ _ h => h) (fun _ _ h => h) (fun _ _ h => h))))
theorem call57 (a0 a1 a2 a3 a4 : Value) (H : Heap) (Q : Ending → Heap → Prop) (h : m57 a0 a1 a2 a3 a4 H Q) : RCalls Try.prog 57 [a0, a1, a2, a3, a4] H Q :=
  RCalls.intro (nt := 47) tok Try.func57 (by kernel_rfl) (by kernel_rfl) (by kernel_rfl) (of_decide_eq_true (by kernel_rfl)) (c57_0 (envOf [a0, a1, a2, a3, a4]) H Q h)
/-! ### 34: (*privity/gadget.Builder).Less -/
def hint34 : Nat → List Nat := lookupL []
def m34 (x0 x1 x2 : Value) (H : Heap) (Q : Ending → Heap → Prop) : Prop :=
oRC Try.prog 19 [x0, (.int .u64 0)] H (fun c H => Q (.panicked c) H) fun v_1 H_2 =>
oRC Try.prog 57 [x0, x1, x2, v_1, (.func (.func 58) #[x0] #[])] H_2 (fun c H => Q (.panicked c) H) fun v_3 H_4 =>
oV (vExtract v_3 0) fun t18_5 =>
oV (vExtract v_3 1) fun t19_6 =>
Q (.returned t19_6) H_4
theorem c34_0 (env : Env) (H : Heap) (Q : Ending → Heap → Prop) (h : m34 (env 0) (env 1) (env 2) H Q) :
    RCode Try.prog 21 (bodyOf Try.f34) env H (mkK (retK T Try.f34.results.toList Q) (fun _ _ _ => False) (retK T Try.f34.results.toList Q) (fun c H => Q (.panicked c) H)) :=
  RCode.leaf_ (T := T) (X := ext) (hint := hint34) tok xok mixed (by kernel_rfl) h
theorem call34 (a0 a1 a2 : Value) (H : Heap) (Q : Ending → Heap → Prop) (h : m34 a0 a1 a2 H Q) : RCalls Try.prog 34 [a0, a1, a2] H Q :=
  RCalls.intro (nt := 21) tok Try.func34 (by kernel_rfl) (by kernel_rfl) (by kernel_rfl) (of_decide_eq_true (by kernel_rfl)) (c34_0 (envOf [a0, a1, a2]) H Q h)
/-! ### 59: (*privity/gadget.Builder).like -/
def hint59 : Nat → List Nat := lookupL []
def m59 (x0 x1 x2 x3 : Value) (H : Heap) (Q : Ending → Heap → Prop) : Prop :=
oRC Try.prog 31 [x0, x1, x2] H (fun c H => Q (.panicked c) H) fun v_1 H_2 =>
oRC Try.prog 28 [x0, v_1] H_2 (fun c H => Q (.panicked c) H) fun v_3 H_4 =>
oRC Try.prog 17 [x0, x3, v_3] H_4 (fun c H => Q (.panicked c) H) fun v_5 H_6 =>
Q (.returned (.tuple #[v_1, v_5])) H_6
theorem c59_0 (env : Env) (H : Heap) (Q : Ending → Heap → Prop) (h : m59 (env 0) (env 1) (env 2) (env 3) H Q) :
    RCode Try.prog 22 (bodyOf Try.f59) env H (mkK (retK T Try.f59.results.toList Q) (fun _ _ _ => False) (retK T Try.f59.results.toList Q) (fun c H => Q (.panicked c) H)) :=
  RCode.leaf_ (T := T) (X := ext) (hint := hint59) tok xok mixed (by kernel_rfl) h
theorem call59 (a0 a1 a2 a3 : Value) (H : Heap) (Q : Ending → Heap → Prop) (h : m59 a0 a1 a2 a3 H Q) : RCalls Try.prog 59 [a0, a1, a2, a3] H Q :=
  RCalls.intro (nt := 22) tok Try.func59 (by kernel_rfl) (by kernel_rfl) (by kernel_rfl) (of_decide_eq_true (by kernel_rfl)) (c59_0 (envOf [a0, a1, a2, a3]) H Q h)
/-! ### 35: (*privity/gadget.Builder).Equal -/
def hint35 : Nat → List Nat := lookupL []
def m35 (x0 x1 x2 : Value) (H : Heap) (Q : Ending → Heap → Prop) : Prop :=
oRC Try.prog 19 [x0, (.int .u64 1)] H (fun c H => Q (.panicked c) H) fun v_1 H_2 =>
oRC Try.prog 57 [x0, x1, x2, v_1, (.func (.func 59) #[x0] #[])] H_2 (fun c H => Q (.panicked c) H) fun v_3 H_4 =>
oV (vExtract v_3 0) fun t18_5 =>
oV (vExtract v_3 1) fun t19_6 =>
Q (.returned t19_6) H_4
theorem c35_0 (env : Env) (H : Heap) (Q : Ending → Heap → Prop) (h : m35 (env 0) (env 1) (env 2) H Q) :
    RCode Try.prog 21 (bodyOf Try.f35) env H (mkK (retK T Try.f35.results.toList Q) (fun _ _ _ => False) (retK T Try.f35.results.toList Q) (fun c H => Q (.panicked c) H)) :=
  RCode.leaf_ (T := T) (X := ext) (hint := hint35) tok xok mixed (by kernel_rfl) h
theorem call35 (a0 a1 a2 : Value) (H : Heap) (Q : Ending → Heap → Prop) (h : m35 a0 a1 a2 H Q) : RCalls Try.prog 35 [a0, a1, a2] H Q :=
  RCalls.intro (nt := 21) tok Try.func35 (by kernel_rfl) (by kernel_rfl) (by kernel_rfl) (of_decide_eq_true (by kernel_rfl)) (c35_0 (envOf [a0, a1, a2]) H Q h)
/-! ### 61: privity/privityref02.bit -/
def hint61 : Nat → List Nat := lookupL []
def m61 (x0 x1 : Value) (H : Heap) (Q : Ending → Heap → Prop) : Prop :=
oV (vLen x0) fun t7_1 =>
oV (vInt .lss x1 t7_1) fun t8_2 =>
condK t8_2 (
oV (vIdxS 1 x0 x1) fun t11_3 =>
oV (vLoad ty22 t11_3 H) fun t12_4 =>
Q (.returned t12_4) H) (
Q (.returned (.int .u64 0)) H)
theorem c61_0 (env : Env) (H : Heap) (Q : Ending → Heap → Prop) (h : m61 (env 0) (env 1) H Q) :
    RCode Try.prog 13 (bodyOf Try.f61) env H (mkK (retK T Try.f61.results.toList Q) (fun _ _ _ => False) (retK T Try.f61.results.toList Q) (fun c H => Q (.panicked c) H)) :=
  RCode.leaf_ (T := T) (X := ext) (hint := hint61) tok xok mixed (by kernel_rfl) h
theorem call61 (a0 a1 : Value) (H : Heap) (Q : Ending → Heap → Prop) (h : m61 a0 a1 H Q) : RCalls Try.prog 61 [a0, a1] H Q :=
  RCalls.intro (nt := 13) tok Try.func61 (by kernel_rfl) (by kernel_rfl) (by kernel_rfl) (of_decide_eq_true (by kernel_rfl)) (c61_0 (envOf [a0, a1]) H Q h)
/-! ### 37: privity/privityref02.Less -/
def hint37 : Nat → List Nat := lookupL []
def m37_1 (x5 : Value) (H : Heap) (Q : Ending → Heap → Prop) : Prop :=
Q (.returned x5) H
theorem c37_1 (env : Env) (H : Heap) (Q : Ending → Heap → Prop) (h : m37_1 (env 5) H Q) :
    RCode Try.prog 32 (codeAt [1, 1, 1] (bodyOf Try.f37)) env H (mkK (retK T Try.f37.results.toList Q) (fun _ _ _ => False) (retK T Try.f37.results.toList Q) (fun c H => Q (.panicked c) H)) :=
  RCode.leaf_ (T := T) (X := ext) (hint := hint37) tok xok mixed (by kernel_rfl) h
def L37_3 (x0 x1 x5 x6 : Value) (H : Heap) (kn : Value → Heap → Prop) (Q : Ending → Heap → Prop) : Prop :=
  ∀ env : Env, env 0 = x0 → env 1 = x1 → env 5 = x5 → env 6 = x6 → RLoop Try.prog 32 (codeAt [1, 1, 0, 1, 0, 0] (bodyOf Try.f37)) env H (mkK (fun _ _ => False) (inK 0 (fun e H => kn (e 5) H) (fun _ _ _ => False)) (retK T Try.f37.results.toList Q) (fun c H => Q (.panicked c) H))
theorem cL37_3 (env : Env) (H : Heap) (kn : Value → Heap → Prop) (Q : Ending → Heap → Prop) (h : L37_3 (env 0) (env 1) (env 5) (env 6) H kn Q) :
    RCode Try.prog 32 (codeAt [1, 1, 0, 1] (bodyOf Try.f37)) env H (mkK (fun e H => kn (e 5) H) (fun _ _ _ => False) (retK T Try.f37.results.toList Q) (fun c H => Q (.panicked c) H)) :=
  RCode.blk (by kernel_rfl : (codeAt [1, 1, 0, 1] (bodyOf Try.f37)) = .block 0 (codeAt [1, 1, 0, 1, 0] (bodyOf Try.f37))) (RCode.lp (by kernel_rfl : (codeAt [1, 1, 0, 1, 0] (bodyOf Try.f37)) = .loop (codeAt [1, 1, 0, 1, 0, 0] (bodyOf Try.f37))) ((h env rfl rfl rfl rfl).mono (mkK_mono (fun _ _ h => h.elim) (fun _ _ _ h => h) (fun _ _ h => h) (fun _ _ h => h))))
def m37_4 (x0 x1 x5 x6 : Value) (H : Heap) (kn : Value → Value → Value → Value → Heap → Prop) (kx0 : Value → Heap → Prop) (Q : Ending → Heap → Prop) : Prop :=
oV (vLen x0) fun t11_1 =>
oV (vInt .lss x6 t11_1) fun t12_2 =>
oV (gV t12_2 false (some x6) (some undef)) fun t14_3 =>
oV (gV t12_2 false (some x1) (some undef)) fun t15_4 =>
oV (gV t12_2 false (vLen t15_4) (some undef)) fun t16_5 =>
oV (gV t12_2 false (vInt .lss t14_3 t16_5) (some undef)) fun t17_6 =>
oV (vPick t12_2 (.bool true) t17_6) fun t18_7 =>
condK t18_7 (
oRC Try.prog 61 [x0, x6] H (fun c H => Q (.panicked c) H) fun v_8 H_9 =>
oRC Try.prog 61 [x1, x6] H_9 (fun c H => Q (.panicked c) H) fun v_10 H_11 =>
oV (vInt .neq v_8 v_10) fun t29_12 =>
condK t29_12 (
oV (vInt .add x6 (.int .i64 1)) fun t20_13 =>
kn x0 x1 v_10 t20_13 H_11) (
oV (vInt .add x6 (.int .i64 1)) fun t20_14 =>
kn x0 x1 x5 t20_14 H_11)) (
kx0 x5 H)
theorem c37_4 (env : Env) (H : Heap) (kn : Value → Value → Value → Value → Heap → Prop) (kx0 : Value → Heap → Prop) (Q : Ending → Heap → Prop) (h : m37_4 (env 0) (env 1) (env 5) (env 6) H kn kx0 Q) :
    RCode Try.prog 32 (codeAt [1, 1, 0, 1, 0, 0] (bodyOf Try.f37)) env H (mkK (fun e H => kn (e 0) (e 1) (e 5) (e 6) H) (inK 0 (fun e H => kx0 (e 5) H) (fun _ _ _ => False)) (retK T Try.f37.results.toList Q) (fun c H => Q (.panicked c) H)) :=
  RCode.leaf_ (T := T) (X := ext) (hint := hint37) tok xok mixed (by kernel_rfl) h
theorem L37_3_round (x0 x1 x5 x6 : Value) (H : Heap) (kn : Value → Heap → Prop) (Q : Ending → Heap → Prop) (h : m37_4 x0 x1 x5 x6 H (fun y0 y1 y5 y6 H => L37_3 y0 y1 y5 y6 H kn Q) kn Q) : L37_3 x0 x1 x5 x6 H kn Q := by
  intro env h0 h1 h5 h6
  subst h0; subst h1; subst h5; subst h6
  exact RLoop.round ((c37_4 env H (fun y0 y1 y5 y6 H => L37_3 y0 y1 y5 y6 H kn Q) kn Q h).mono (mkK_mono (fun e H h => h e rfl rfl rfl rfl) (fun _ _ _ h => h) (fun _ _ h => h) (fun _ _ h => h)))
def m37_2 (x0 x1 x5 : Value) (H : Heap) (kn : Value → Heap → Prop) (Q : Ending → Heap → Prop) : Prop :=
L37_3 x0 x1 x5 (.int .i64 0) H kn Q
theorem c37_2 (env : Env) (H : Heap) (kn : Value → Heap → Prop) (Q : Ending → Heap → Prop) (h : m37_2 (env 0) (env 1) (env 5) H kn Q) :
    RCode Try.prog 32 (codeAt [1, 1, 0] (bodyOf Try.f37)) env H (mkK (fun e H => kn (e 5) H) (fun _ _ _ => False) (retK T Try.f37.results.toList Q) (fun c H => Q (.panicked c) H)) :=
  RCode.prefix_ (T := T) (X := ext) (hint := hint37) (hole := (fun e H => L37_3 (e 0) (e 1) (e 5) (e 6) H kn Q)) tok xok mixed 1 (by kernel_rfl) (by kernel_rfl : codeAt _ _ = (codeAt [1, 1, 0, 1] (bodyOf Try.f37))) h
    (fun e H h => (cL37_3 e H kn Q h))
def m37 (x0 x1 : Value) (H : Heap) (Q : Ending → Heap → Prop) : Prop :=
m37_2 x0 x1 (.int .u64 0) H (fun y5_15 H_16 => m37_1 y5_15 H_16 Q) Q
theorem c37_0 (env : Env) (H : Heap) (Q : Ending → Heap → Prop) (h : m37 (env 0) (env 1) H Q) :
    RCode Try.prog 32 (bodyOf Try.f37) env H (mkK (retK T Try.f37.results.toList Q) (fun _ _ _ => False) (retK T Try.f37.results.toList Q) (fun c H => Q (.panicked c) H)) :=
  RCode.prefix_ (T := T) (X := ext) (hint := hint37) (hole := (fun e H => m37_2 (e 0) (e 1) (e 5) H (fun y5_17 H_18 => m37_1 y5_17 H_18 Q) Q)) tok xok mixed 2 (by kernel_rfl) (by kernel_rfl : codeAt _ _ = (codeAt [1, 1] (bodyOf Try.f37))) h
    (fun e H h => RCode.join (by kernel_rfl : (codeAt [1, 1] (bodyOf Try.f37)) = .seq (codeAt [1, 1, 0] (bodyOf Try.f37)) (codeAt [1, 1, 1] (bodyOf Try.f37))) ((c37_2 e H (fun y5_19 H_20 => m37_1 y5_19 H_20 Q) Q h).mono (mkK_mono (fun e H h => c37_1 e H Q h) (fun _ _ _ h => h) (fun _ _ h => h) (fun _ _ h => h))))
theorem call37 (a0 a1 : Value) (H : Heap) (Q : Ending → Heap → Prop) (h : m37 a0 a1 H Q) : RCalls Try.prog 37 [a0, a1] H Q :=
  RCalls.intro (nt := 32) tok Try.func37 (by kernel_rfl) (by kernel_rfl) (by kernel_rfl) (of_decide_eq_true (by kernel_rfl)) (c37_0 (envOf [a0, a1]) H Q h)
/-! ### 38: privity/privityref02.Equal -/
def hint38 : Nat → List Nat := lookupL []
def m38_1 (H : Heap) (Q : Ending → Heap → Prop) : Prop :=
Q (.returned (.int .u64 1)) H
theorem c38_1 (env : Env) (H : Heap) (Q : Ending → Heap → Prop) (h : m38_1 H Q) :
    RCode Try.prog 25 (codeAt [1, 1] (bodyOf Try.f38)) env H (mkK (retK T Try.f38.results.toList Q) (fun _ _ _ => False) (retK T Try.f38.results.toList Q) (fun c H => Q (.panicked c) H)) :=
  RCode.leaf_ (T := T) (X := ext) (hint := hint38) tok xok mixed (by kernel_rfl) h
def L38_3 (x0 x1 x5 : Value) (H : Heap) (kn : Heap → Prop) (Q : Ending → Heap → Prop) : Prop :=
  ∀ env : Env, env 0 = x0 → env 1 = x1 → env 5 = x5 → RLoop Try.prog 25 (codeAt [1, 0, 1, 0, 0] (bodyOf Try.f38)) env H (mkK (fun _ _ => False) (inK 0 (fun e H => kn H) (fun _ _ _ => False)) (retK T Try.f38.results.toList Q) (fun c H => Q (.panicked c) H))
theorem cL38_3 (env : Env) (H : Heap) (kn : Heap → Prop) (Q : Ending → Heap → Prop) (h : L38_3 (env 0) (env 1) (env 5) H kn Q) :
    RCode Try.prog 25 (codeAt [1, 0, 1] (bodyOf Try.f38)) env H (mkK (fun e H => kn H) (fun _ _ _ => False) (retK T Try.f38.results.toList Q) (fun c H => Q (.panicked c) H)) :=
  RCode.blk (by kernel_rfl : (codeAt [1, 0, 1] (bodyOf Try.f38)) = .block 0 (codeAt [1, 0, 1, 0] (bodyOf Try.f38))) (RCode.lp (by kernel_rfl : (codeAt [1, 0, 1, 0] (bodyOf Try.f38)) = .loop (codeAt [1, 0, 1, 0, 0] (bodyOf Try.f38))) ((h env rfl rfl rfl).mono (mkK_mono (fun _ _ h => h.elim) (fun _ _ _ h => h) (fun _ _ h => h) (fun _ _ h => h))))
def m38_4 (x0 x1 x5 : Value) (H : Heap) (kn : Value → Value → Value → Heap → Prop) (kx0 : Heap → Prop) (Q : Ending → Heap → Prop) : Prop :=
oV (vLen x0) fun t8_1 =>
oV (vInt .lss x5 t8_1) fun t9_2 =>
oV (gV t9_2 false (some x5) (some undef)) fun t11_3 =>
oV (gV t9_2 false (some x1) (some undef)) fun t12_4 =>
oV (gV t9_2 false (vLen t12_4) (some undef)) fun t13_5 =>
oV (gV t9_2 false (vInt .lss t11_3 t13_5) (some undef)) fun t14_6 =>
oV (vPick t9_2 (.bool true) t14_6) fun t15_7 =>
condK t15_7 (
oRC Try.prog 61 [x0, x5] H (fun c H => Q (.panicked c) H) fun v_8 H_9 =>
oRC Try.prog 61 [x1, x5] H_9 (fun c H => Q (.panicked c) H) fun v_10 H_11 =>
oV (vInt .neq v_8 v_10) fun t24_12 =>
condK t24_12 (
Q (.returned (.int .u64 0)) H_11) (
oV (vInt .add x5 (.int .i64 1)) fun t17_13 =>
kn x0 x1 t17_13 H_11)) (
kx0 H)
theorem c38_4 (env : Env) (H : Heap) (kn : Value → Value → Value → Heap → Prop) (kx0 : Heap → Prop) (Q : Ending → Heap → Prop) (h : m38_4 (env 0) (env 1) (env 5) H kn kx0 Q) :
    RCode Try.prog 25 (codeAt [1, 0, 1, 0, 0] (bodyOf Try.f38)) env H (mkK (fun e H => kn (e 0) (e 1) (e 5) H) (inK 0 (fun e H => kx0 H) (fun _ _ _ => False)) (retK T Try.f38.results.toList Q) (fun c H => Q (.panicked c) H)) :=
  RCode.leaf_ (T := T) (X := ext) (hint := hint38) tok xok mixed (by kernel_rfl) h
theorem L38_3_round (x0 x1 x5 : Value) (H : Heap) (kn : Heap → Prop) (Q : Ending → Heap → Prop) (h : m38_4 x0 x1 x5 H (fun y0 y1 y5 H => L38_3 y0 y1 y5 H kn Q) kn Q) : L38_3 x0 x1 x5 H kn Q := by
  intro env h0 h1 h5
  subst h0; subst h1; subst h5
  exact RLoop.round ((c38_4 env H (fun y0 y1 y5 H => L38_3 y0 y1 y5 H kn Q) kn Q h).mono (mkK_mono (fun e H h => h e rfl rfl rfl) (fun _ _ _ h => h) (fun _ _ h => h) (fun _ _ h => h)))
def m38_2 (x0 x1 : Value) (H : Heap) (kn : Heap → Prop) (Q : Ending → Heap → Prop) : Prop :=
L38_3 x0 x1 (.int .i64 0) H kn Q
theorem c38_2 (env : Env) (H : Heap) (kn : Heap → Prop) (Q : Ending → Heap → Prop) (h : m38_2 (env 0) (env 1) H kn Q) :
    RCode Try.prog 25 (codeAt [1, 0] (bodyOf Try.f38)) env H (mkK (fun e H => kn H) (fun _ _ _ => False) (retK T Try.f38.results.toList Q) (fun c H => Q (.panicked c) H)) :=
  RCode.prefix_ (T := T) (X := ext) (hint := hint38) (hole := (fun e H => L38_3 (e 0) (e 1) (e 5) H kn Q)) tok xok mixed 1 (by kernel_rfl) (by kernel_rfl : codeAt _ _ = (codeAt [1, 0, 1] (bodyOf Try.f38))) h
    (fun e H h => (cL38_3 e H kn Q h))
def m38 (x0 x1 : Value) (H : Heap) (Q : Ending → Heap → Prop) : Prop :=
m38_2 x0 x1 H (fun H_14 => m38_1 H_14 Q) Q
theorem c38_0 (env : Env) (H : Heap) (Q : Ending → Heap → Prop) (h : m38 (env 0) (env 1) H Q) :
    RCode Try.prog 25 (bodyOf Try.f38) env H (mkK (retK T Try.f38.results.toList Q) (fun _ _ _ => False) (retK T Try.f38.results.toList Q) (fun c H => Q (.panicked c) H)) :=
  RCode.prefix_ (T := T) (X := ext) (hint := hint38) (hole := (fun e H => m38_2 (e 0) (e 1) H (fun H_15 => m38_1 H_15 Q) Q)) tok xok mixed 1 (by kernel_rfl) (by kernel_rfl : codeAt _ _ = (codeAt [1] (bodyOf Try.f38))) h
    (fun e H h => RCode.join (by kernel_rfl : (codeAt [1] (bodyOf Try.f38)) = .seq (codeAt [1, 0] (bodyOf Try.f38)) (codeAt [1, 1] (bodyOf Try.f38))) ((c38_2 e H (fun H_16 => m38_1 H_16 Q) Q h).mono (mkK_mono (fun e H h => c38_1 e H Q h) (fun _ _ _ h => h) (fun _ _ h => h) (fun _ _ h => h))))
theorem call38 (a0 a1 : Value) (H : Heap) (Q : Ending → Heap → Prop) (h : m38 a0 a1 H Q) : RCalls Try.prog 38 [a0, a1] H Q :=
  RCalls.intro (nt := 25) tok Try.func38 (by kernel_rfl) (by kernel_rfl) (by kernel_rfl) (of_decide_eq_true (by kernel_rfl)) (c38_0 (envOf [a0, a1]) H Q h)
/-! ### 39: privity/privityref34.Number -/
def hint39 : Nat → List Nat := lookupL [(5, [0, 1, 2, 3, 5, 6, 7, 8, 4, 9, 10])]
def m39_1 (x5 : Value) (H : Heap) (Q : Ending → Heap → Prop) : Prop :=
Q (.returned x5) H
theorem c39_1 (env : Env) (H : Heap) (Q : Ending → Heap → Prop) (h : m39_1 (env 5) H Q) :
    RCode Try.prog 25 (codeAt [1, 1, 1] (bodyOf Try.f39)) env H (mkK (retK T Try.f39.results.toList Q) (fun _ _ _ => False) (retK T Try.f39.results.toList Q) (fun c H => Q (.panicked c) H)) :=
  RCode.leaf_ (T := T) (X := ext) (hint := hint39) tok xok mixed (by kernel_rfl) h
def L39_3 (x0 x1 x5 x6 : Value) (H : Heap) (kn : Value → Heap → Prop) (Q : Ending → Heap → Prop) : Prop :=
  ∀ env : Env, env 0 = x0 → env 1 = x1 → env 5 = x5 → env 6 = x6 → RLoop Try.prog 25 (codeAt [1, 1, 0, 1, 0, 0] (bodyOf Try.f39)) env H (mkK (fun _ _ => False) (inK 0 (fun e H => kn (e 5) H) (fun _ _ _ => False)) (retK T Try.f39.results.toList Q) (fun c H => Q (.panicked c) H))
theorem cL39_3 (env : Env) (H : Heap) (kn : Value → Heap → Prop) (Q : Ending → Heap → Prop) (h : L39_3 (env 0) (env 1) (env 5) (env 6) H kn Q) :
    RCode Try.prog 25 (codeAt [1, 1, 0, 1] (bodyOf Try.f39)) env H (mkK (fun e H => kn (e 5) H) (fun _ _ _ => False) (retK T Try.f39.results.toList Q) (fun c H => Q (.panicked c) H)) :=
  RCode.blk (by kernel_rfl : (codeAt [1, 1, 0, 1] (bodyOf Try.f39)) = .block 0 (codeAt [1, 1, 0, 1, 0] (bodyOf Try.f39))) (RCode.lp (by kernel_rfl : (codeAt [1, 1, 0, 1, 0] (bodyOf Try.f39)) = .loop (codeAt [1, 1, 0, 1, 0, 0] (bodyOf Try.f39))) ((h env rfl rfl rfl rfl).mono (mkK_mono (fun _ _ h => h.elim) (fun _ _ _ h => h) (fun _ _ h => h) (fun _ _ h => h))))
def m39_4 (x0 x1 x5 x6 : Value) (H : Heap) (kn : Value → Value → Value → Value → Heap → Prop) (kx0 : Value → Heap → Prop) (Q : Ending → Heap → Prop) : Prop :=
oV (vInt .geq x6 (.int .i64 0)) fun t11_1 =>
condK t11_1 (
oV (vIdxS 1 x1 x6) fun t21_2 =>
oV (vLoad ty22 t21_2 H) fun t22_3 =>
oRC Try.prog 51 [x0, x5, x5] H noP fun v_4 H_5 =>
(vLoad ty22 t21_2 H_5 = some t22_3 ∧
oRC Try.prog 51 [x0, v_4, t22_3] H_5 noP fun v_6 H_7 =>
oV (vInt .sub x6 (.int .i64 1)) fun t13_8 =>
kn x0 x1 v_6 t13_8 H_7)) (
kx0 x5 H)
theorem c39_4 (env : Env) (H : Heap) (kn : Value → Value → Value → Value → Heap → Prop) (kx0 : Value → Heap → Prop) (Q : Ending → Heap → Prop) (h : m39_4 (env 0) (env 1) (env 5) (env 6) H kn kx0 Q) :
    RCode Try.prog 25 (codeAt [1, 1, 0, 1, 0, 0] (bodyOf Try.f39)) env H (mkK (fun e H => kn (e 0) (e 1) (e 5) (e 6) H) (inK 0 (fun e H => kx0 (e 5) H) (fun _ _ _ => False)) (retK T Try.f39.results.toList Q) (fun c H => Q (.panicked c) H)) :=
  RCode.leaf_ (T := T) (X := ext) (hint := hint39) tok xok mixed (by kernel_rfl) h
theorem L39_3_round (x0 x1 x5 x6 : Value) (H : Heap) (kn : Value → Heap → Prop) (Q : Ending → Heap → Prop) (h : m39_4 x0 x1 x5 x6 H (fun y0 y1 y5 y6 H => L39_3 y0 y1 y5 y6 H kn Q) kn Q) : L39_3 x0 x1 x5 x6 H kn Q := by
  intro env h0 h1 h5 h6
  subst h0; subst h1; subst h5; subst h6
  exact RLoop.round ((c39_4 env H (fun y0 y1 y5 y6 H => L39_3 y0 y1 y5 y6 H kn Q) kn Q h).mono (mkK_mono (fun e H h => h e rfl rfl rfl rfl) (fun _ _ _ h => h) (fun _ _ h => h) (fun _ _ h => h)))
def m39_2 (x0 x1 x5 : Value) (H : Heap) (kn : Value → Heap → Prop) (Q : Ending → Heap → Prop) : Prop :=
oV (vLen x1) fun t8_9 =>
oV (vInt .sub t8_9 (.int .i64 1)) fun t9_10 =>
L39_3 x0 x1 x5 t9_10 H kn Q
theorem c39_2 (env : Env) (H : Heap) (kn : Value → Heap → Prop) (Q : Ending → Heap → Prop) (h : m39_2 (env 0) (env 1) (env 5) H kn Q) :
    RCode Try.prog 25 (codeAt [1, 1, 0] (bodyOf Try.f39)) env H (mkK (fun e H => kn (e 5) H) (fun _ _ _ => False) (retK T Try.f39.results.toList Q) (fun c H => Q (.panicked c) H)) :=
  RCode.prefix_ (T := T) (X := ext) (hint := hint39) (hole := (fun e H => L39_3 (e 0) (e 1) (e 5) (e 6) H kn Q)) tok xok mixed 1 (by kernel_rfl) (by kernel_rfl : codeAt _ _ = (codeAt [1, 1, 0, 1] (bodyOf Try.f39))) h
    (fun e H h => (cL39_3 e H kn Q h))
def m39 (x0 x1 : Value) (H : Heap) (Q : Ending → Heap → Prop) : Prop :=
m39_2 x0 x1 (.int .u64 0) H (fun y5_11 H_12 => m39_1 y5_11 H_12 Q) Q
theorem c39_0 (env : Env) (H : Heap) (Q : Ending → Heap → Prop) (h : m39 (env 0) (env 1) H Q) :
    RCode Try.prog 25 (bodyOf Try.f39) env H (mkK (retK T Try.f39.results.toList Q) (fun _ _ _ => False) (retK T Try.f39.results.toList Q) (fun c H => Q (.panicked c) H)) :=
  RCode.prefix_ (T := T) (X := ext) (hint := hint39) (hole := (fun e H => m39_2 (e 0) (e 1) (e 5) H (fun y5_13 H_14 => m39_1 y5_13 H_14 Q) Q)) tok xok mixed 2 (by kernel_rfl) (by kernel_rfl : codeAt _ _ = (codeAt [1, 1] (bodyOf Try.f39))) h
    (fun e H h => RCode.join (by kernel_rfl : (codeAt [1, 1] (bodyOf Try.f39)) = .seq (codeAt [1, 1, 0] (bodyOf Try.f39)) (codeAt [1, 1, 1] (bodyOf Try.f39))) ((c39_2 e H (fun y5_15 H_16 => m39_1 y5_15 H_16 Q) Q h).mono (mkK_mono (fun e H h => c39_1 e H Q h) (fun _ _ _ h => h) (fun _ _ h => h) (fun _ _ h => h))))
theorem call39 (a0 a1 : Value) (H : Heap) (Q : Ending → Heap → Prop) (h : m39 a0 a1 H Q) : RCalls Try.prog 39 [a0, a1] H Q :=
  RCalls.intro (nt := 25) tok Try.func39 (by kernel_rfl) (by kernel_rfl) (by kernel_rfl) (of_decide_eq_true (by kernel_rfl)) (c39_0 (envOf [a0, a1]) H Q h)
/-! ### 7: privity/privitylaw34.GadgetComparisons -/
def hint7 : Nat → List Nat := lookupL []
def m7 (x0 x1 x2 : Value) (H : Heap) (Q : Ending → Heap → Prop) : Prop :=
oRC Try.prog 10 [] H (fun c H => Q (.panicked c) H) fun v_1 H_2 =>
oV (vUn .not v_1) fun t13_3 =>
condK t13_3 (
Q (.returned (.bool false)) H_2) (
oRC Try.prog 11 [x0] H_2 (fun c H => Q (.panicked c) H) fun v_4 H_5 =>
oV (vUn .not v_4) fun t16_6 =>
oV (gV t16_6 false (some x1) (some undef)) fun t18_7 =>
oV (gV t16_6 false (vLen t18_7) (some undef)) fun t19_8 =>
oV (gV t16_6 false (vInt .gtr t19_8 (.int .i64 12)) (some undef)) fun t20_9 =>
oV (vPick t16_6 (.bool true) t20_9) fun t21_10 =>
oV (gV t21_10 false (some x2) (some undef)) fun t23_11 =>
oV (gV t21_10 false (vLen t23_11) (some undef)) fun t24_12 =>
oV (gV t21_10 false (vInt .gtr t24_12 (.int .i64 12)) (some undef)) fun t25_13 =>
oV (vPick t21_10 (.bool true) t25_13) fun t26_14 =>
condK t26_14 (
Q (.returned (.bool true)) H_5) (
oRC Try.prog 27 [x1] H_5 (fun c H => Q (.panicked c) H) fun v_15 H_16 =>
oRC Try.prog 27 [x2] H_16 (fun c H => Q (.panicked c) H) fun v_17 H_18 =>
oRC Try.prog 12 [x0] H_18 (fun c H => Q (.panicked c) H) fun v_19 H_20 =>
oV (vLen x1) fun t35_21 =>
oRC Try.prog 26 [v_19, (.int .i64 1), t35_21] H_20 (fun c H => Q (.panicked c) H) fun v_22 H_23 =>
oV (vLen x2) fun t39_24 =>
oRC Try.prog 26 [v_19, (.int .i64 2), t39_24] H_23 (fun c H => Q (.panicked c) H) fun v_25 H_26 =>
oRC Try.prog 34 [v_19, v_22, v_25] H_26 (fun c H => Q (.panicked c) H) fun v_27 H_28 =>
oRC Try.prog 14 [v_19, v_27] H_28 (fun c H => Q (.panicked c) H) fun v_29 H_30 =>
oRC Try.prog 35 [v_19, v_22, v_25] H_30 (fun c H => Q (.panicked c) H) fun v_31 H_32 =>
oRC Try.prog 14 [v_19, v_31] H_32 (fun c H => Q (.panicked c) H) fun v_33 H_34 =>
oRC Try.prog 36 [v_19, v_22] H_34 (fun c H => Q (.panicked c) H) fun v_35 H_36 =>
oRC Try.prog 14 [v_19, v_35] H_36 (fun c H => Q (.panicked c) H) fun v_37 H_38 =>
oRC Try.prog 23 [v_19] H_38 (fun c H => Q (.panicked c) H) fun v_39 H_40 =>
oBuildS ty35 35 2 [((0, 1), v_15), ((1, 1), v_17)] H_40 fun s_41 H_42 =>
oRC Try.prog 37 [v_15, v_17] H_42 (fun c H => Q (.panicked c) H) fun v_43 H_44 =>
oRC Try.prog 38 [v_15, v_17] H_44 (fun c H => Q (.panicked c) H) fun v_45 H_46 =>
oRC Try.prog 39 [x0, v_15] H_46 (fun c H => Q (.panicked c) H) fun v_47 H_48 =>
oBuildS ty22 22 3 [((0, 1), v_43), ((1, 1), v_45), ((2, 1), v_47)] H_48 fun s_49 H_50 =>
oRC Try.prog 22 [v_39, s_41, s_49] H_50 (fun c H => Q (.panicked c) H) fun v_51 H_52 =>
Q (.returned v_51) H_52))
theorem c7_0 (env : Env) (H : Heap) (Q : Ending → Heap → Prop) (h : m7 (env 0) (env 1) (env 2) H Q) :
    RCode Try.prog 74 (bodyOf Try.f7) env H (mkK (retK T Try.f7.results.toList Q) (fun _ _ _ => False) (retK T Try.f7.results.toList Q) (fun c H => Q (.panicked c) H)) :=
  RCode.leaf_ (T := T) (X := ext) (hint := hint7) tok xok mixed (by kernel_rfl) h
theorem call7 (a0 a1 a2 : Value) (H : Heap) (Q : Ending → Heap → Prop) (h : m7 a0 a1 a2 H Q) : RCalls Try.prog 7 [a0, a1, a2] H Q :=
  RCalls.intro (nt := 74) tok Try.func7 (by kernel_rfl) (by kernel_rfl) (by kernel_rfl) (of_decide_eq_true (by kernel_rfl)) (c7_0 (envOf [a0, a1, a2]) H Q h)
/-! ### 62: (*privity/gadget.Builder).adder -/
def hint62 : Nat → List Nat := lookupL []
def m62 (x0 x1 x2 x3 : Value) (H : Heap) (Q : Ending → Heap → Prop) : Prop :=
oRC Try.prog 17 [x0, x1, x2] H (fun c H => Q (.panicked c) H) fun v_1 H_2 =>
oRC Try.prog 56 [x0, x1, x2, v_1] H_2 (fun c H => Q (.panicked c) H) fun v_3 H_4 =>
oRC Try.prog 17 [x0, v_3, x3] H_4 (fun c H => Q (.panicked c) H) fun v_5 H_6 =>
oRC Try.prog 56 [x0, v_3, x3, v_5] H_6 (fun c H => Q (.panicked c) H) fun v_7 H_8 =>
oRC Try.prog 15 [x0, v_1, v_5] H_8 (fun c H => Q (.panicked c) H) fun v_9 H_10 =>
Q (.returned (.tuple #[v_7, v_9])) H_10
theorem c62_0 (env : Env) (H : Heap) (Q : Ending → Heap → Prop) (h : m62 (env 0) (env 1) (env 2) (env 3) H Q) :
    RCode Try.prog 35 (bodyOf Try.f62) env H (mkK (retK T Try.f62.results.toList Q) (fun _ _ _ => False) (retK T Try.f62.results.toList Q) (fun c H => Q (.panicked c) H)) :=
  RCode.leaf_ (T := T) (X := ext) (hint := hint62) tok xok mixed (by kernel_rfl) h
theorem call62 (a0 a1 a2 a3 : Value) (H : Heap) (Q : Ending → Heap → Prop) (h : m62 a0 a1 a2 a3 H Q) : RCalls Try.prog 62 [a0, a1, a2, a3] H Q :=
  RCalls.intro (nt := 35) tok Try.func62 (by kernel_rfl) (by kernel_rfl) (by kernel_rfl) (of_decide_eq_true (by kernel_rfl)) (c62_0 (envOf [a0, a1, a2, a3]) H Q h)
/-! ### 40: (*privity/gadget.Builder).AddBits -/
def hint40 : Nat → List Nat := lookupL []
def m40 (x0 x1 x2 : Value) (H : Heap) (Q : Ending → Heap → Prop) : Prop :=
oRC Try.prog 19 [x0, (.int .u64 0)] H (fun c H => Q (.panicked c) H) fun v_1 H_2 =>
oRC Try.prog 57 [x0, x1, x2, v_1, (.func (.func 62) #[x0] #[])] H_2 (fun c H => Q (.panicked c) H) fun v_3 H_4 =>
oV (vExtract v_3 0) fun t18_5 =>
oV (vExtract v_3 1) fun t19_6 =>
oBuildS ty3 3 1 [((0, 1), t19_6)] H_4 fun s_7 H_8 =>
oAppend ty3 3 t18_5 s_7 H_8 fun v_9 H_10 =>
Q (.returned v_9) H_10
theorem c40_0 (env : Env) (H : Heap) (Q : Ending → Heap → Prop) (h : m40 (env 0) (env 1) (env 2) H Q) :
    RCode Try.prog 24 (bodyOf Try.f40) env H (mkK (retK T Try.f40.results.toList Q) (fun _ _ _ => False) (retK T Try.f40.results.toList Q) (fun c H => Q (.panicked c) H)) :=
  RCode.leaf_ (T := T) (X := ext) (hint := hint40) tok xok mixed (by kernel_rfl) h
theorem call40 (a0 a1 a2 : Value) (H : Heap) (Q : Ending → Heap → Prop) (h : m40 a0 a1 a2 H Q) : RCalls Try.prog 40 [a0, a1, a2] H Q :=
  RCalls.intro (nt := 24) tok Try.func40 (by kernel_rfl) (by kernel_rfl) (by kernel_rfl) (of_decide_eq_true (by kernel_rfl)) (c40_0 (envOf [a0, a1, a2]) H Q h)
/-! ### 63: (*privity/gadget.Builder).taker -/
def hint63 : Nat → List Nat := lookupL []
def m63 (x0 x1 x2 x3 : Value) (H : Heap) (Q : Ending → Heap → Prop) : Prop :=
oRC Try.prog 17 [x0, x1, x2] H (fun c H => Q (.panicked c) H) fun v_1 H_2 =>
oRC Try.prog 56 [x0, x1, x2, v_1] H_2 (fun c H => Q (.panicked c) H) fun v_3 H_4 =>
oRC Try.prog 17 [x0, v_3, x3] H_4 (fun c H => Q (.panicked c) H) fun v_5 H_6 =>
oRC Try.prog 56 [x0, v_3, x3, v_5] H_6 (fun c H => Q (.panicked c) H) fun v_7 H_8 =>
oRC Try.prog 16 [x0, x2, v_1] H_8 (fun c H => Q (.panicked c) H) fun v_9 H_10 =>
oRC Try.prog 16 [x0, x3, v_5] H_10 (fun c H => Q (.panicked c) H) fun v_11 H_12 =>
oRC Try.prog 15 [x0, v_9, v_11] H_12 (fun c H => Q (.panicked c) H) fun v_13 H_14 =>
Q (.returned (.tuple #[v_7, v_13])) H_14
theorem c63_0 (env : Env) (H : Heap) (Q : Ending → Heap → Prop) (h : m63 (env 0) (env 1) (env 2) (env 3) H Q) :
    RCode Try.prog 41 (bodyOf Try.f63) env H (mkK (retK T Try.f63.results.toList Q) (fun _ _ _ => False) (retK T Try.f63.results.toList Q) (fun c H => Q (.panicked c) H)) :=
  RCode.leaf_ (T := T) (X := ext) (hint := hint63) tok xok mixed (by kernel_rfl) h
theorem call63 (a0 a1 a2 a3 : Value) (H : Heap) (Q : Ending → Heap → Prop) (h : m63 a0 a1 a2 a3 H Q) : RCalls Try.prog 63 [a0, a1, a2, a3] H Q :=
  RCalls.intro (nt := 41) tok Try.func63 (by kernel_rfl) (by kernel_rfl) (by kernel_rfl) (of_decide_eq_true (by kernel_rfl)) (c63_0 (envOf [a0, a1, a2, a3]) H Q h)
/-! ### 41: (*privity/gadget.Builder).SubBits -/
def hint41 : Nat → List Nat := lookupL []
def m41_1 (x10 : Value) (H : Heap) (Q : Ending → Heap → Prop) : Prop :=
Q (.returned x10) H
theorem c41_1 (env : Env) (H : Heap) (Q : Ending → Heap → Prop) (h : m41_1 (env 10) H Q) :
    RCode Try.prog 43 (codeAt [1, 1, 1, 1, 1] (bodyOf Try.f41)) env H (mkK (retK T Try.f41.results.toList Q) (fun _ _ _ => False) (retK T Try.f41.results.toList Q) (fun c H => Q (.panicked c) H)) :=
  RCode.leaf_ (T := T) (X := ext) (hint := hint41) tok xok mixed (by kernel_rfl) h
def L41_3 (x0 x7 x9 x10 x27 x28 : Value) (H : Heap) (kn : Value → Heap → Prop) (Q : Ending → Heap → Prop) : Prop :=
  ∀ env : Env, env 0 = x0 → env 7 = x7 → env 9 = x9 → env 10 = x10 → env 27 = x27 → env 28 = x28 → RLoop Try.prog 43 (codeAt [1, 1, 1, 1, 0, 1, 0, 0] (bodyOf Try.f41)) env H (mkK (fun _ _ => False) (inK 0 (fun e H => kn (e 10) H) (fun _ _ _ => False)) (retK T Try.f41.results.toList Q) (fun c H => Q (.panicked c) H))
theorem cL41_3 (env : Env) (H : Heap) (kn : Value → Heap → Prop) (Q : Ending → Heap → Prop) (h : L41_3 (env 0) (env 7) (env 9) (env 10) (env 27) (env 28) H kn Q) :
    RCode Try.prog 43 (codeAt [1, 1, 1, 1, 0, 1] (bodyOf Try.f41)) env H (mkK (fun e H => kn (e 10) H) (fun _ _ _ => False) (retK T Try.f41.results.toList Q) (fun c H => Q (.panicked c) H)) :=
  RCode.blk (by kernel_rfl : (codeAt [1, 1, 1, 1, 0, 1] (bodyOf Try.f41)) = .block 0 (codeAt [1, 1, 1, 1, 0, 1, 0] (bodyOf Try.f41))) (RCode.lp (by kernel_rfl : (codeAt [1, 1, 1, 1, 0, 1, 0] (bodyOf Try.f41)) = .loop (codeAt [1, 1, 1, 1, 0, 1, 0, 0] (bodyOf Try.f41))) ((h env rfl rfl rfl rfl rfl rfl).mono (mkK_mono (fun _ _ h => h.elim) (fun _ _ _ h => h) (fun _ _ h => h) (fun _ _ h => h))))
def m41_4 (x0 x7 x9 x10 x27 x28 : Value) (H : Heap) (kn : Value → Value → Value → Value → Value → Value → Heap → Prop) (kx0 : Value → Heap → Prop) (Q : Ending → Heap → Prop) : Prop :=
oV (vInt .lss x28 x27) fun t29_1 =>
condK t29_1 (
oV (vIdxS 1 x7 x28) fun t35_2 =>
oV (vLoad ty3 t35_2 H) fun t36_3 =>
oRC Try.prog 17 [x0, t36_3, x9] H (fun c H => Q (.panicked c) H) fun v_4 H_5 =>
oBuildS ty3 3 1 [((0, 1), v_4)] H_5 fun s_6 H_7 =>
oAppend ty3 3 x10 s_6 H_7 fun v_8 H_9 =>
oV (vInt .add x28 (.int .i64 1)) fun t41_10 =>
kn x0 x7 x9 v_8 x27 t41_10 H_9) (
kx0 x10 H)
theorem c41_4 (env : Env) (H : Heap) (kn : Value → Value → Value → Value → Value → Value → Heap → Prop) (kx0 : Value → Heap → Prop) (Q : Ending → Heap → Prop) (h : m41_4 (env 0) (env 7) (env 9) (env 10) (env 27) (env 28) H kn kx0 Q) :
    RCode Try.prog 43 (codeAt [1, 1, 1, 1, 0, 1, 0, 0] (bodyOf Try.f41)) env H (mkK (fun e H => kn (e 0) (e 7) (e 9) (e 10) (e 27) (e 28) H) (inK 0 (fun e H => kx0 (e 10) H) (fun _ _ _ => False)) (retK T Try.f41.results.toList Q) (fun c H => Q (.panicked c) H)) :=
  RCode.leaf_ (T := T) (X := ext) (hint := hint41) tok xok mixed (by kernel_rfl) h
theorem L41_3_round (x0 x7 x9 x10 x27 x28 : Value) (H : Heap) (kn : Value → Heap → Prop) (Q : Ending → Heap → Prop) (h : m41_4 x0 x7 x9 x10 x27 x28 H (fun y0 y7 y9 y10 y27 y28 H => L41_3 y0 y7 y9 y10 y27 y28 H kn Q) kn Q) : L41_3 x0 x7 x9 x10 x27 x28 H kn Q := by
  intro env h0 h7 h9 h10 h27 h28
  subst h0; subst h7; subst h9; subst h10; subst h27; subst h28
  exact RLoop.round ((c41_4 env H (fun y0 y7 y9 y10 y27 y28 H => L41_3 y0 y7 y9 y10 y27 y28 H kn Q) kn Q h).mono (mkK_mono (fun e H h => h e rfl rfl rfl rfl rfl rfl) (fun _ _ _ h => h) (fun _ _ h => h) (fun _ _ h => h)))
def m41_2 (x0 x1 x7 x9 x10 : Value) (H : Heap) (kn : Value → Heap → Prop) (Q : Ending → Heap → Prop) : Prop :=
oV (vLen x1) fun t27_11 =>
L41_3 x0 x7 x9 x10 t27_11 (.int .i64 0) H kn Q
theorem c41_2 (env : Env) (H : Heap) (kn : Value → Heap → Prop) (Q : Ending → Heap → Prop) (h : m41_2 (env 0) (env 1) (env 7) (env 9) (env 10) H kn Q) :
    RCode Try.prog 43 (codeAt [1, 1, 1, 1, 0] (bodyOf Try.f41)) env H (mkK (fun e H => kn (e 10) H) (fun _ _ _ => False) (retK T Try.f41.results.toList Q) (fun c H => Q (.panicked c) H)) :=
  RCode.prefix_ (T := T) (X := ext) (hint := hint41) (hole := (fun e H => L41_3 (e 0) (e 7) (e 9) (e 10) (e 27) (e 28) H kn Q)) tok xok mixed 1 (by kernel_rfl) (by kernel_rfl : codeAt _ _ = (codeAt [1, 1, 1, 1, 0, 1] (bodyOf Try.f41))) h
    (fun e H h => (cL41_3 e H kn Q h))
def m41 (x0 x1 x2 : Value) (H : Heap) (Q : Ending → Heap → Prop) : Prop :=
oRC Try.prog 19 [x0, (.int .u64 0)] H (fun c H => Q (.panicked c) H) fun v_12 H_13 =>
oRC Try.prog 57 [x0, x1, x2, v_12, (.func (.func 63) #[x0] #[])] H_13 (fun c H => Q (.panicked c) H) fun v_14 H_15 =>
oV (vExtract v_14 0) fun t21_16 =>
oV (vExtract v_14 1) fun t22_17 =>
oRC Try.prog 28 [x0, t22_17] H_15 (fun c H => Q (.panicked c) H) fun v_18 H_19 =>
m41_2 x0 x1 t21_16 v_18 (.slice none 0 0) H_19 (fun y10_20 H_21 => m41_1 y10_20 H_21 Q) Q
theorem c41_0 (env : Env) (H : Heap) (Q : Ending → Heap → Prop) (h : m41 (env 0) (env 1) (env 2) H Q) :
    RCode Try.prog 43 (bodyOf Try.f41) env H (mkK (retK T Try.f41.results.toList Q) (fun _ _ _ => False) (retK T Try.f41.results.toList Q) (fun c H => Q (.panicked c) H)) :=
  RCode.prefix_ (T := T) (X := ext) (hint := hint41) (hole := (fun e H => m41_2 (e 0) (e 1) (e 7) (e 9) (e 10) H (fun y10_22 H_23 => m41_1 y10_22 H_23 Q) Q)) tok xok mixed 4 (by kernel_rfl) (by kernel_rfl : codeAt _ _ = (codeAt [1, 1, 1, 1] (bodyOf Try.f41))) h
    (fun e H h => RCode.join (by kernel_rfl : (codeAt [1, 1, 1, 1] (bodyOf Try.f41)) = .seq (codeAt [1, 1, 1, 1, 0] (bodyOf Try.f41)) (codeAt [1, 1, 1, 1, 1] (bodyOf Try.f41))) ((c41_2 e H (fun y10_24 H_25 => m41_1 y10_24 H_25 Q) Q h).mono (mkK_mono (fun e H h => c41_1 e H Q h) (fun _ _ _ h => h) (fun _ _ h => h) (fun _ _ h => h))))
theorem call41 (a0 a1 a2 : Value) (H : Heap) (Q : Ending → Heap → Prop) (h : m41 a0 a1 a2 H Q) : RCalls Try.prog 41 [a0, a1, a2] H Q :=
  RCalls.intro (nt := 43) tok Try.func41 (by kernel_rfl) (by kernel_rfl) (by kernel_rfl) (of_decide_eq_true (by kernel_rfl)) (c41_0 (envOf [a0, a1, a2]) H Q h)
/-! ### 42: (*privity/gadget.Builder).MulBits -/
def hint42 : Nat → List Nat := lookupL [(15, [0, 1, 2, 4, 5, 6, 7, 8, 3, 9, 10, 11])]
def m42_2 (x7 x13 : Value) (H : Heap) (Q : Ending → Heap → Prop) : Prop :=
oV (vSlice 1 x7 none (some x13) none) fun t75_1 =>
Q (.returned t75_1) H
theorem c42_2 (env : Env) (H : Heap) (Q : Ending → Heap → Prop) (h : m42_2 (env 7) (env 13) H Q) :
    RCode Try.prog 76 (codeAt [1, 1, 1, 1, 1] (bodyOf Try.f42)) env H (mkK (retK T Try.f42.results.toList Q) (fun _ _ _ => False) (retK T Try.f42.results.toList Q) (fun c H => Q (.panicked c) H)) :=
  RCode.leaf_ (T := T) (X := ext) (hint := hint42) tok xok mixed (by kernel_rfl) h
def L42_3 (x0 x7 x13 : Value) (H : Heap) (kn : Value → Value → Heap → Prop) (Q : Ending → Heap → Prop) : Prop :=
  ∀ env : Env, env 0 = x0 → env 7 = x7 → env 13 = x13 → RLoop Try.prog 76 (codeAt [1, 1, 1, 1, 0, 0, 0] (bodyOf Try.f42)) env H (mkK (fun _ _ => False) (inK 6 (fun e H => kn (e 7) (e 13) H) (fun _ _ _ => False)) (retK T Try.f42.results.toList Q) (fun c H => Q (.panicked c) H))
theorem cL42_3 (env : Env) (H : Heap) (kn : Value → Value → Heap → Prop) (Q : Ending → Heap → Prop) (h : L42_3 (env 0) (env 7) (env 13) H kn Q) :
    RCode Try.prog 76 (codeAt [1, 1, 1, 1, 0] (bodyOf Try.f42)) env H (mkK (fun e H => kn (e 7) (e 13) H) (fun _ _ _ => False) (retK T Try.f42.results.toList Q) (fun c H => Q (.panicked c) H)) :=
  RCode.blk (by kernel_rfl : (codeAt [1, 1, 1, 1, 0] (bodyOf Try.f42)) = .block 6 (codeAt [1, 1, 1, 1, 0, 0] (bodyOf Try.f42))) (RCode.lp (by kernel_rfl : (codeAt [1, 1, 1, 1, 0, 0] (bodyOf Try.f42)) = .loop (codeAt [1, 1, 1, 1, 0, 0, 0] (bodyOf Try.f42))) ((h env rfl rfl rfl).mono (mkK_mono (fun _ _ h => h.elim) (fun _ _ _ h => h) (fun _ _ h => h) (fun _ _ h => h))))
def m42_4 (x0 x7 x13 : Value) (H : Heap) (kn : Value → Value → Value → Heap → Prop) (kx6 : Value → Value → Heap → Prop) (Q : Ending → Heap → Prop) : Prop :=
oV (vLen x7) fun t65_2 =>
oV (vInt .lss t65_2 x13) fun t67_3 =>
condK t67_3 (
oRC Try.prog 19 [x0, (.int .u64 0)] H (fun c H => Q (.panicked c) H) fun v_4 H_5 =>
oBuildS ty3 3 1 [((0, 1), v_4)] H_5 fun s_6 H_7 =>
oAppend ty3 3 x7 s_6 H_7 fun v_8 H_9 =>
kn x0 v_8 x13 H_9) (
kx6 x7 x13 H)
theorem c42_4 (env : Env) (H : Heap) (kn : Value → Value → Value → Heap → Prop) (kx6 : Value → Value → Heap → Prop) (Q : Ending → Heap → Prop) (h : m42_4 (env 0) (env 7) (env 13) H kn kx6 Q) :
    RCode Try.prog 76 (codeAt [1, 1, 1, 1, 0, 0, 0] (bodyOf Try.f42)) env H (mkK (fun e H => kn (e 0) (e 7) (e 13) H) (inK 6 (fun e H => kx6 (e 7) (e 13) H) (fun _ _ _ => False)) (retK T Try.f42.results.toList Q) (fun c H => Q (.panicked c) H)) :=
  RCode.leaf_ (T := T) (X := ext) (hint := hint42) tok xok mixed (by kernel_rfl) h
theorem L42_3_round (x0 x7 x13 : Value) (H : Heap) (kn : Value → Value → Heap → Prop) (Q : Ending → Heap → Prop) (h : m42_4 x0 x7 x13 H (fun y0 y7 y13 H => L42_3 y0 y7 y13 H kn Q) kn Q) : L42_3 x0 x7 x13 H kn Q := by
  intro env h0 h7 h13
  subst h0; subst h7; subst h13
  exact RLoop.round ((c42_4 env H (fun y0 y7 y13 H => L42_3 y0 y7 y13 H kn Q) kn Q h).mono (mkK_mono (fun e H h => h e rfl rfl rfl) (fun _ _ _ h => h) (fun _ _ h => h) (fun _ _ h => h)))
def m42_1 (x0 x1 x2 x7 : Value) (H : Heap) (Q : Ending → Heap → Prop) : Prop :=
oV (vLen x1) fun t60_10 =>
oV (vLen x2) fun t62_11 =>
oV (vInt .add t60_10 t62_11) fun t63_12 =>
L42_3 x0 x7 t63_12 H (fun y7_13 y13_14 H_15 => m42_2 y7_13 y13_14 H_15 Q) Q
theorem c42_1 (env : Env) (H : Heap) (Q : Ending → Heap → Prop) (h : m42_1 (env 0) (env 1) (env 2) (env 7) H Q) :
    RCode Try.prog 76 (codeAt [1, 1, 1] (bodyOf Try.f42)) env H (mkK (retK T Try.f42.results.toList Q) (fun _ _ _ => False) (retK T Try.f42.results.toList Q) (fun c H => Q (.panicked c) H)) :=
  RCode.prefix_ (T := T) (X := ext) (hint := hint42) (hole := (fun e H => L42_3 (e 0) (e 7) (e 13) H (fun y7_16 y13_17 H_18 => m42_2 y7_16 y13_17 H_18 Q) Q)) tok xok mixed 1 (by kernel_rfl) (by kernel_rfl : codeAt _ _ = (codeAt [1, 1, 1, 1] (bodyOf Try.f42))) h
    (fun e H h => RCode.join (by kernel_rfl : (codeAt [1, 1, 1, 1] (bodyOf Try.f42)) = .seq (codeAt [1, 1, 1, 1, 0] (bodyOf Try.f42)) (codeAt [1, 1, 1, 1, 1] (bodyOf Try.f42))) ((cL42_3 e H (fun y7_19 y13_20 H_21 => m42_2 y7_19 y13_20 H_21 Q) Q h).mono (mkK_mono (fun e H h => c42_2 e H Q h) (fun _ _ _ h => h) (fun _ _ h => h) (fun _ _ h => h))))
def L42_6 (x0 x1 x2 x7 x14 x15 x16 : Value) (H : Heap) (kn : Value → Value → Value → Value → Heap → Prop) (Q : Ending → Heap → Prop) : Prop :=
  ∀ env : Env, env 0 = x0 → env 1 = x1 → env 2 = x2 → env 7 = x7 → env 14 = x14 → env 15 = x15 → env 16 = x16 → RLoop Try.prog 76 (codeAt [1, 1, 0, 1, 0, 0] (bodyOf Try.f42)) env H (mkK (fun _ _ => False) (inK 0 (fun e H => kn (e 0) (e 1) (e 2) (e 7) H) (fun _ _ _ => False)) (retK T Try.f42.results.toList Q) (fun c H => Q (.panicked c) H))
theorem cL42_6 (env : Env) (H : Heap) (kn : Value → Value → Value → Value → Heap → Prop) (Q : Ending → Heap → Prop) (h : L42_6 (env 0) (env 1) (env 2) (env 7) (env 14) (env 15) (env 16) H kn Q) :
    RCode Try.prog 76 (codeAt [1, 1, 0, 1] (bodyOf Try.f42)) env H (mkK (fun e H => kn (e 0) (e 1) (e 2) (e 7) H) (fun _ _ _ => False) (retK T Try.f42.results.toList Q) (fun c H => Q (.panicked c) H)) :=
  RCode.blk (by kernel_rfl : (codeAt [1, 1, 0, 1] (bodyOf Try.f42)) = .block 0 (codeAt [1, 1, 0, 1, 0] (bodyOf Try.f42))) (RCode.lp (by kernel_rfl : (codeAt [1, 1, 0, 1, 0] (bodyOf Try.f42)) = .loop (codeAt [1, 1, 0, 1, 0, 0] (bodyOf Try.f42))) ((h env rfl rfl rfl rfl rfl rfl rfl).mono (mkK_mono (fun _ _ h => h.elim) (fun _ _ _ h => h) (fun _ _ h => h) (fun _ _ h => h))))
def m42_8 (x0 x1 x2 x7 x14 x15 x16 : Value) (H : Heap) (kn : Value → Value → Value → Value → Value → Value → Value → Heap → Prop) (kx0 : Value → Value → Value → Value → Heap → Prop) (Q : Ending → Heap → Prop) : Prop :=
oV (vInt .add x16 (.int .i64 1)) fun t58_22 =>
kn x0 x1 x2 x7 x14 x15 t58_22 H
theorem c42_8 (env : Env) (H : Heap) (kn : Value → Value → Value → Value → Value → Value → Value → Heap → Prop) (kx0 : Value → Value → Value → Value → Heap → Prop) (Q : Ending → Heap → Prop) (h : m42_8 (env 0) (env 1) (env 2) (env 7) (env 14) (env 15) (env 16) H kn kx0 Q) :
    RCode Try.prog 76 (codeAt [1, 1, 0, 1, 0, 0, 1, 1, 1] (bodyOf Try.f42)) env H (mkK (fun e H => kn (e 0) (e 1) (e 2) (e 7) (e 14) (e 15) (e 16) H) (inK 0 (fun e H => kx0 (e 0) (e 1) (e 2) (e 7) H) (fun _ _ _ => False)) (retK T Try.f42.results.toList Q) (fun c H => Q (.panicked c) H)) :=
  RCode.leaf_ (T := T) (X := ext) (hint := hint42) tok xok mixed (by kernel_rfl) h
def m42_12 (x0 x1 x2 x7 x8 x10 x14 x15 x16 : Value) (H : Heap) (kn : Value → Value → Value → Value → Value → Value → Value → Heap → Prop) (kx1 : Value → Value → Value → Value → Value → Value → Value → Heap → Prop) (kx0 : Value → Value → Value → Value → Heap → Prop) (Q : Ending → Heap → Prop) : Prop :=
oV (vSlice 1 x7 none (some x8) none) fun t49_23 =>
oV (vSlice 1 x7 (some x8) none none) fun t54_24 =>
oRC Try.prog 55 [t49_23] H noP fun v_25 H_26 =>
oRC Try.prog 40 [x0, t54_24, x10] H_26 noP fun v_27 H_28 =>
oAppend ty3 3 v_25 v_27 H_28 fun v_29 H_30 =>
kn x0 x1 x2 v_29 x14 x15 x16 H_30
theorem c42_12 (env : Env) (H : Heap) (kn : Value → Value → Value → Value → Value → Value → Value → Heap → Prop) (kx1 : Value → Value → Value → Value → Value → Value → Value → Heap → Prop) (kx0 : Value → Value → Value → Value → Heap → Prop) (Q : Ending → Heap → Prop) (h : m42_12 (env 0) (env 1) (env 2) (env 7) (env 8) (env 10) (env 14) (env 15) (env 16) H kn kx1 kx0 Q) :
    RCode Try.prog 76 (codeAt [1, 1, 0, 1, 0, 0, 1, 1, 0, 0, 1, 1, 1, 1, 1] (bodyOf Try.f42)) env H (mkK (fun e H => kn (e 0) (e 1) (e 2) (e 7) (e 14) (e 15) (e 16) H) (inK 1 (fun e H => kx1 (e 0) (e 1) (e 2) (e 7) (e 14) (e 15) (e 16) H) (inK 0 (fun e H => kx0 (e 0) (e 1) (e 2) (e 7) H) (fun _ _ _ => False))) (retK T Try.f42.results.toList Q) (fun c H => Q (.panicked c) H)) :=
  RCode.leaf_ (T := T) (X := ext) (hint := hint42) tok xok mixed (by kernel_rfl) h
def L42_13 (x0 x1 x2 x7 x8 x10 x14 x15 x16 : Value) (H : Heap) (kn : Value → Value → Value → Value → Value → Value → Value → Value → Value → Heap → Prop) (kx1 : Value → Value → Value → Value → Value → Value → Value → Heap → Prop) (kx0 : Value → Value → Value → Value → Heap → Prop) (Q : Ending → Heap → Prop) : Prop :=
  ∀ env : Env, env 0 = x0 → env 1 = x1 → env 2 = x2 → env 7 = x7 → env 8 = x8 → env 10 = x10 → env 14 = x14 → env 15 = x15 → env 16 = x16 → RLoop Try.prog 76 (codeAt [1, 1, 0, 1, 0, 0, 1, 1, 0, 0, 1, 1, 1, 1, 0, 0, 0] (bodyOf Try.f42)) env H (mkK (fun _ _ => False) (inK 4 (fun e H => kn (e 0) (e 1) (e 2) (e 7) (e 8) (e 10) (e 14) (e 15) (e 16) H) (inK 1 (fun e H => kx1 (e 0) (e 1) (e 2) (e 7) (e 14) (e 15) (e 16) H) (inK 0 (fun e H => kx0 (e 0) (e 1) (e 2) (e 7) H) (fun _ _ _ => False)))) (retK T Try.f42.results.toList Q) (fun c H => Q (.panicked c) H))
theorem cL42_13 (env : Env) (H : Heap) (kn : Value → Value → Value → Value → Value → Value → Value → Value → Value → Heap → Prop) (kx1 : Value → Value → Value → Value → Value → Value → Value → Heap → Prop) (kx0 : Value → Value → Value → Value → Heap → Prop) (Q : Ending → Heap → Prop) (h : L42_13 (env 0) (env 1) (env 2) (env 7) (env 8) (env 10) (env 14) (env 15) (env 16) H kn kx1 kx0 Q) :
    RCode Try.prog 76 (codeAt [1, 1, 0, 1, 0, 0, 1, 1, 0, 0, 1, 1, 1, 1, 0] (bodyOf Try.f42)) env H (mkK (fun e H => kn (e 0) (e 1) (e 2) (e 7) (e 8) (e 10) (e 14) (e 15) (e 16) H) (inK 1 (fun e H => kx1 (e 0) (e 1) (e 2) (e 7) (e 14) (e 15) (e 16) H) (inK 0 (fun e H => kx0 (e 0) (e 1) (e 2) (e 7) H) (fun _ _ _ => False))) (retK T Try.f42.results.toList Q) (fun c H => Q (.panicked c) H)) :=
  RCode.blk (by kernel_rfl : (codeAt [1, 1, 0, 1, 0, 0, 1, 1, 0, 0, 1, 1, 1, 1, 0] (bodyOf Try.f42)) = .block 4 (codeAt [1, 1, 0, 1, 0, 0, 1, 1, 0, 0, 1, 1, 1, 1, 0, 0] (bodyOf Try.f42))) (RCode.lp (by kernel_rfl : (codeAt [1, 1, 0, 1, 0, 0, 1, 1, 0, 0, 1, 1, 1, 1, 0, 0] (bodyOf Try.f42)) = .loop (codeAt [1, 1, 0, 1, 0, 0, 1, 1, 0, 0, 1, 1, 1, 1, 0, 0, 0] (bodyOf Try.f42))) ((h env rfl rfl rfl rfl rfl rfl rfl rfl rfl).mono (mkK_mono (fun _ _ h => h.elim) (fun _ _ _ h => h) (fun _ _ h => h) (fun _ _ h => h))))
def m42_14 (x0 x1 x2 x7 x8 x10 x14 x15 x16 : Value) (H : Heap) (kn : Value → Value → Value → Value → Value → Value → Value → Value → Value → Heap → Prop) (kx4 : Value → Value → Value → Value → Value → Value → Value → Value → Value → Heap → Prop) (kx1 : Value → Value → Value → Value → Value → Value → Value → Heap → Prop) (kx0 : Value → Value → Value → Value → Heap → Prop) (Q : Ending → Heap → Prop) : Prop :=
oV (vLen x7) fun t39_31 =>
oV (vInt .lss t39_31 x8) fun t41_32 =>
condK t41_32 (
oRC Try.prog 19 [x0, (.int .u64 0)] H (fun c H => Q (.panicked c) H) fun v_33 H_34 =>
oBuildS ty3 3 1 [((0, 1), v_33)] H_34 fun s_35 H_36 =>
oAppend ty3 3 x7 s_35 H_36 fun v_37 H_38 =>
kn x0 x1 x2 v_37 x8 x10 x14 x15 x16 H_38) (
kx4 x0 x1 x2 x7 x8 x10 x14 x15 x16 H)
theorem c42_14 (env : Env) (H : Heap) (kn : Value → Value → Value → Value → Value → Value → Value → Value → Value → Heap → Prop) (kx4 : Value → Value → Value → Value → Value → Value → Value → Value → Value → Heap → Prop) (kx1 : Value → Value → Value → Value → Value → Value → Value → Heap → Prop) (kx0 : Value → Value → Value → Value → Heap → Prop) (Q : Ending → Heap → Prop) (h : m42_14 (env 0) (env 1) (env 2) (env 7) (env 8) (env 10) (env 14) (env 15) (env 16) H kn kx4 kx1 kx0 Q) :
    RCode Try.prog 76 (codeAt [1, 1, 0, 1, 0, 0, 1, 1, 0, 0, 1, 1, 1, 1, 0, 0, 0] (bodyOf Try.f42)) env H (mkK (fun e H => kn (e 0) (e 1) (e 2) (e 7) (e 8) (e 10) (e 14) (e 15) (e 16) H) (inK 4 (fun e H => kx4 (e 0) (e 1) (e 2) (e 7) (e 8) (e 10) (e 14) (e 15) (e 16) H) (inK 1 (fun e H => kx1 (e 0) (e 1) (e 2) (e 7) (e 14) (e 15) (e 16) H) (inK 0 (fun e H => kx0 (e 0) (e 1) (e 2) (e 7) H) (fun _ _ _ => False)))) (retK T Try.f42.results.toList Q) (fun c H => Q (.panicked c) H)) :=
  RCode.leaf_ (T := T) (X := ext) (hint := hint42) tok xok mixed (by kernel_rfl) h
theorem L42_13_round (x0 x1 x2 x7 x8 x10 x14 x15 x16 : Value) (H : Heap) (kn : Value → Value → Value → Value → Value → Value → Value → Value → Value → Heap → Prop) (kx1 : Value → Value → Value → Value → Value → Value → Value → Heap → Prop) (kx0 : Value → Value → Value → Value → Heap → Prop) (Q : Ending → Heap → Prop) (h : m42_14 x0 x1 x2 x7 x8 x10 x14 x15 x16 H (fun y0 y1 y2 y7 y8 y10 y14 y15 y16 H => L42_13 y0 y1 y2 y7 y8 y10 y14 y15 y16 H kn kx1 kx0 Q) kn kx1 kx0 Q) : L42_13 x0 x1 x2 x7 x8 x10 x14 x15 x16 H kn kx1 kx0 Q := by
  intro env h0 h1 h2 h7 h8 h10 h14 h15 h16
  subst h0; subst h1; subst h2; subst h7; subst h8; subst h10; subst h14; subst h15; subst h16
  exact RLoop.round ((c42_14 env H (fun y0 y1 y2 y7 y8 y10 y14 y15 y16 H => L42_13 y0 y1 y2 y7 y8 y10 y14 y15 y16 H kn kx1 kx0 Q) kn kx1 kx0 Q h).mono (mkK_mono (fun e H h => h e rfl rfl rfl rfl rfl rfl rfl rfl rfl) (fun _ _ _ h => h) (fun _ _ h => h) (fun _ _ h => h)))
def m42_11 (x0 x1 x2 x7 x8 x10 x14 x15 x16 : Value) (H : Heap) (kn : Value → Value → Value → Value → Value → Value → Value → Heap → Prop) (kx1 : Value → Value → Value → Value → Value → Value → Value → Heap → Prop) (kx0 : Value → Value → Value → Value → Heap → Prop) (Q : Ending → Heap → Prop) : Prop :=
oV (vInt .eql x8 (.int .i64 0)) fun t36_39 =>
condK t36_39 (
kx1 x0 x1 x2 x10 x14 x15 x16 H) (
L42_13 x0 x1 x2 x7 x8 x10 x14 x15 x16 H (fun y0_40 y1_41 y2_42 y7_43 y8_44 y10_45 y14_46 y15_47 y16_48 H_49 => m42_12 y0_40 y1_41 y2_42 y7_43 y8_44 y10_45 y14_46 y15_47 y16_48 H_49 kn kx1 kx0 Q) kx1 kx0 Q)
theorem c42_11 (env : Env) (H : Heap) (kn : Value → Value → Value → Value → Value → Value → Value → Heap → Prop) (kx1 : Value → Value → Value → Value → Value → Value → Value → Heap → Prop) (kx0 : Value → Value → Value → Value → Heap → Prop) (Q : Ending → Heap → Prop) (h : m42_11 (env 0) (env 1) (env 2) (env 7) (env 8) (env 10) (env 14) (env 15) (env 16) H kn kx1 kx0 Q) :
    RCode Try.prog 76 (codeAt [1, 1, 0, 1, 0, 0, 1, 1, 0, 0, 1, 1, 1] (bodyOf Try.f42)) env H (mkK (fun e H => kn (e 0) (e 1) (e 2) (e 7) (e 14) (e 15) (e 16) H) (inK 1 (fun e H => kx1 (e 0) (e 1) (e 2) (e 7) (e 14) (e 15) (e 16) H) (inK 0 (fun e H => kx0 (e 0) (e 1) (e 2) (e 7) H) (fun _ _ _ => False))) (retK T Try.f42.results.toList Q) (fun c H => Q (.panicked c) H)) :=
  RCode.prefix_ (T := T) (X := ext) (hint := hint42) (hole := (fun e H => L42_13 (e 0) (e 1) (e 2) (e 7) (e 8) (e 10) (e 14) (e 15) (e 16) H (fun y0_50 y1_51 y2_52 y7_53 y8_54 y10_55 y14_56 y15_57 y16_58 H_59 => m42_12 y0_50 y1_51 y2_52 y7_53 y8_54 y10_55 y14_56 y15_57 y16_58 H_59 kn kx1 kx0 Q) kx1 kx0 Q)) tok xok mixed 1 (by kernel_rfl) (by kernel_rfl : codeAt _ _ = (codeAt [1, 1, 0, 1, 0, 0, 1, 1, 0, 0, 1, 1, 1, 1] (bodyOf Try.f42))) h
    (fun e H h => RCode.join (by kernel_rfl : (codeAt [1, 1, 0, 1, 0, 0, 1, 1, 0, 0, 1, 1, 1, 1] (bodyOf Try.f42)) = .seq (codeAt [1, 1, 0, 1, 0, 0, 1, 1, 0, 0, 1, 1, 1, 1, 0] (bodyOf Try.f42)) (codeAt [1, 1, 0, 1, 0, 0, 1, 1, 0, 0, 1, 1, 1, 1, 1] (bodyOf Try.f42))) ((cL42_13 e H (fun y0_60 y1_61 y2_62 y7_63 y8_64 y10_65 y14_66 y15_67 y16_68 H_69 => m42_12 y0_60 y1_61 y2_62 y7_63 y8_64 y10_65 y14_66 y15_67 y16_68 H_69 kn kx1 kx0 Q) kx1 kx0 Q h).mono (mkK_mono (fun e H h => c42_12 e H kn kx1 kx0 Q h) (fun _ _ _ h => h) (fun _ _ h => h) (fun _ _ h => h))))
def L42_16 (x0 x1 x2 x7 x8 x9 x10 x14 x15 x16 x21 x22 x23 : Value) (H : Heap) (kn : Value → Value → Value → Value → Value → Value → Value → Value → Value → Heap → Prop) (kx1 : Value → Value → Value → Value → Value → Value → Value → Heap → Prop) (kx0 : Value → Value → Value → Value → Heap → Prop) (Q : Ending → Heap → Prop) : Prop :=
  ∀ env : Env, env 0 = x0 → env 1 = x1 → env 2 = x2 → env 7 = x7 → env 8 = x8 → env 9 = x9 → env 10 = x10 → env 14 = x14 → env 15 = x15 → env 16 = x16 → env 21 = x21 → env 22 = x22 → env 23 = x23 → RLoop Try.prog 76 (codeAt [1, 1, 0, 1, 0, 0, 1, 1, 0, 0, 1, 1, 0, 1, 0, 0] (bodyOf Try.f42)) env H (mkK (fun _ _ => False) (inK 2 (fun e H => kn (e 0) (e 1) (e 2) (e 7) (e 8) (e 10) (e 14) (e 15) (e 16) H) (inK 1 (fun e H => kx1 (e 0) (e 1) (e 2) (e 7) (e 14) (e 15) (e 16) H) (inK 0 (fun e H => kx0 (e 0) (e 1) (e 2) (e 7) H) (fun _ _ _ => False)))) (retK T Try.f42.results.toList Q) (fun c H => Q (.panicked c) H))
theorem cL42_16 (env : Env) (H : Heap) (kn : Value → Value → Value → Value → Value → Value → Value → Value → Value → Heap → Prop) (kx1 : Value → Value → Value → Value → Value → Value → Value → Heap → Prop) (kx0 : Value → Value → Value → Value → Heap → Prop) (Q : Ending → Heap → Prop) (h : L42_16 (env 0) (env 1) (env 2) (env 7) (env 8) (env 9) (env 10) (env 14) (env 15) (env 16) (env 21) (env 22) (env 23) H kn kx1 kx0 Q) :
    RCode Try.prog 76 (codeAt [1, 1, 0, 1, 0, 0, 1, 1, 0, 0, 1, 1, 0, 1] (bodyOf Try.f42)) env H (mkK (fun e H => kn (e 0) (e 1) (e 2) (e 7) (e 8) (e 10) (e 14) (e 15) (e 16) H) (inK 1 (fun e H => kx1 (e 0) (e 1) (e 2) (e 7) (e 14) (e 15) (e 16) H) (inK 0 (fun e H => kx0 (e 0) (e 1) (e 2) (e 7) H) (fun _ _ _ => False))) (retK T Try.f42.results.toList Q) (fun c H => Q (.panicked c) H)) :=
  RCode.blk (by kernel_rfl : (codeAt [1, 1, 0, 1, 0, 0, 1, 1, 0, 0, 1, 1, 0, 1] (bodyOf Try.f42)) = .block 2 (codeAt [1, 1, 0, 1, 0, 0, 1, 1, 0, 0, 1, 1, 0, 1, 0] (bodyOf Try.f42))) (RCode.lp (by kernel_rfl : (codeAt [1, 1, 0, 1, 0, 0, 1, 1, 0, 0, 1, 1, 0, 1, 0] (bodyOf Try.f42)) = .loop (codeAt [1, 1, 0, 1, 0, 0, 1, 1, 0, 0, 1, 1, 0, 1, 0, 0] (bodyOf Try.f42))) ((h env rfl rfl rfl rfl rfl rfl rfl rfl rfl rfl rfl rfl rfl).mono (mkK_mono (fun _ _ h => h.elim) (fun _ _ _ h => h) (fun _ _ h => h) (fun _ _ h => h))))
def m42_17 (x0 x1 x2 x7 x8 x9 x10 x14 x15 x16 x21 x22 x23 : Value) (H : Heap) (kn : Value → Value → Value → Value → Value → Value → Value → Value → Value → Value → Value → Value → Value → Heap → Prop) (kx2 : Value → Value → Value → Value → Value → Value → Value → Value → Value → Heap → Prop) (kx1 : Value → Value → Value → Value → Value → Value → Value → Heap → Prop) (kx0 : Value → Value → Value → Value → Heap → Prop) (Q : Ending → Heap → Prop) : Prop :=
oV (vInt .lss x23 x22) fun t24_70 =>
condK t24_70 (
oV (vIdxS 1 x21 x23) fun t25_71 =>
oV (vLoad ty3 t25_71 H) fun t26_72 =>
oRC Try.prog 17 [x0, t26_72, x9] H (fun c H => Q (.panicked c) H) fun v_73 H_74 =>
oBuildS ty3 3 1 [((0, 1), v_73)] H_74 fun s_75 H_76 =>
oAppend ty3 3 x10 s_75 H_76 fun v_77 H_78 =>
oV (vInt .add x23 (.int .i64 1)) fun t34_79 =>
kn x0 x1 x2 x7 x8 x9 v_77 x14 x15 x16 x21 x22 t34_79 H_78) (
kx2 x0 x1 x2 x7 x8 x10 x14 x15 x16 H)
theorem c42_17 (env : Env) (H : Heap) (kn : Value → Value → Value → Value → Value → Value → Value → Value → Value → Value → Value → Value → Value → Heap → Prop) (kx2 : Value → Value → Value → Value → Value → Value → Value → Value → Value → Heap → Prop) (kx1 : Value → Value → Value → Value → Value → Value → Value → Heap → Prop) (kx0 : Value → Value → Value → Value → Heap → Prop) (Q : Ending → Heap → Prop) (h : m42_17 (env 0) (env 1) (env 2) (env 7) (env 8) (env 9) (env 10) (env 14) (env 15) (env 16) (env 21) (env 22) (env 23) H kn kx2 kx1 kx0 Q) :
    RCode Try.prog 76 (codeAt [1, 1, 0, 1, 0, 0, 1, 1, 0, 0, 1, 1, 0, 1, 0, 0] (bodyOf Try.f42)) env H (mkK (fun e H => kn (e 0) (e 1) (e 2) (e 7) (e 8) (e 9) (e 10) (e 14) (e 15) (e 16) (e 21) (e 22) (e 23) H) (inK 2 (fun e H => kx2 (e 0) (e 1) (e 2) (e 7) (e 8) (e 10) (e 14) (e 15) (e 16) H) (inK 1 (fun e H => kx1 (e 0) (e 1) (e 2) (e 7) (e 14) (e 15) (e 16) H) (inK 0 (fun e H => kx0 (e 0) (e 1) (e 2) (e 7) H) (fun _ _ _ => False)))) (retK T Try.f42.results.toList Q) (fun c H => Q (.panicked c) H)) :=
  RCode.leaf_ (T := T) (X := ext) (hint := hint42) tok xok mixed (by kernel_rfl) h
theorem L42_16_round (x0 x1 x2 x7 x8 x9 x10 x14 x15 x16 x21 x22 x23 : Value) (H : Heap) (kn : Value → Value → Value → Value → Value → Value → Value → Value → Value → Heap → Prop) (kx1 : Value → Value → Value → Value → Value → Value → Value → Heap → Prop) (kx0 : Value → Value → Value → Value → Heap → Prop) (Q : Ending → Heap → Prop) (h : m42_17 x0 x1 x2 x7 x8 x9 x10 x14 x15 x16 x21 x22 x23 H (fun y0 y1 y2 y7 y8 y9 y10 y14 y15 y16 y21 y22 y23 H => L42_16 y0 y1 y2 y7 y8 y9 y10 y14 y15 y16 y21 y22 y23 H kn kx1 kx0 Q) kn kx1 kx0 Q) : L42_16 x0 x1 x2 x7 x8 x9 x10 x14 x15 x16 x21 x22 x23 H kn kx1 kx0 Q := by
  intro env h0 h1 h2 h7 h8 h9 h10 h14 h15 h16 h21 h22 h23
  subst h0; subst h1; subst h2; subst h7; subst h8; subst h9; subst h10; subst h14; subst h15; subst h16; subst h21; subst h22; subst h23
  exact RLoop.round ((c42_17 env H (fun y0 y1 y2 y7 y8 y9 y10 y14 y15 y16 y21 y22 y23 H => L42_16 y0 y1 y2 y7 y8 y9 y10 y14 y15 y16 y21 y22 y23 H kn kx1 kx0 Q) kn kx1 kx0 Q h).mono (mkK_mono (fun e H h => h e rfl rfl rfl rfl rfl rfl rfl rfl rfl rfl rfl rfl rfl) (fun _ _ _ h => h) (fun _ _ h => h) (fun _ _ h => h)))
def m42_15 (x0 x1 x2 x7 x8 x9 x10 x14 x15 x16 : Value) (H : Heap) (kn : Value → Value → Value → Value → Value → Value → Value → Value → Value → Heap → Prop) (kx1 : Value → Value → Value → Value → Value → Value → Value → Heap → Prop) (kx0 : Value → Value → Value → Value → Heap → Prop) (Q : Ending → Heap → Prop) : Prop :=
oV (vLen x1) fun t22_80 =>
L42_16 x0 x1 x2 x7 x8 x9 x10 x14 x15 x16 x1 t22_80 (.int .i64 0) H kn kx1 kx0 Q
theorem c42_15 (env : Env) (H : Heap) (kn : Value → Value → Value → Value → Value → Value → Value → Value → Value → Heap → Prop) (kx1 : Value → Value → Value → Value → Value → Value → Value → Heap → Prop) (kx0 : Value → Value → Value → Value → Heap → Prop) (Q : Ending → Heap → Prop) (h : m42_15 (env 0) (env 1) (env 2) (env 7) (env 8) (env 9) (env 10) (env 14) (env 15) (env 16) H kn kx1 kx0 Q) :
    RCode Try.prog 76 (codeAt [1, 1, 0, 1, 0, 0, 1, 1, 0, 0, 1, 1, 0] (bodyOf Try.f42)) env H (mkK (fun e H => kn (e 0) (e 1) (e 2) (e 7) (e 8) (e 10) (e 14) (e 15) (e 16) H) (inK 1 (fun e H => kx1 (e 0) (e 1) (e 2) (e 7) (e 14) (e 15) (e 16) H) (inK 0 (fun e H => kx0 (e 0) (e 1) (e 2) (e 7) H) (fun _ _ _ => False))) (retK T Try.f42.results.toList Q) (fun c H => Q (.panicked c) H)) :=
  RCode.prefix_ (T := T) (X := ext) (hint := hint42) (hole := (fun e H => L42_16 (e 0) (e 1) (e 2) (e 7) (e 8) (e 9) (e 10) (e 14) (e 15) (e 16) (e 21) (e 22) (e 23) H kn kx1 kx0 Q)) tok xok mixed 1 (by kernel_rfl) (by kernel_rfl : codeAt _ _ = (codeAt [1, 1, 0, 1, 0, 0, 1, 1, 0, 0, 1, 1, 0, 1] (bodyOf Try.f42))) h
    (fun e H h => (cL42_16 e H kn kx1 kx0 Q h))
def m42_10 (x0 x1 x2 x7 x14 x15 x16 : Value) (H : Heap) (kn : Value → Value → Value → Value → Value → Value → Value → Heap → Prop) (kx1 : Value → Value → Value → Value → Value → Value → Value → Heap → Prop) (kx0 : Value → Value → Value → Value → Heap → Prop) (Q : Ending → Heap → Prop) : Prop :=
oV (vIdxS 1 x14 x16) fun t19_81 =>
oV (vLoad ty3 t19_81 H) fun t20_82 =>
m42_15 x0 x1 x2 x7 x16 t20_82 (.slice none 0 0) x14 x15 x16 H (fun y0_83 y1_84 y2_85 y7_86 y8_87 y10_88 y14_89 y15_90 y16_91 H_92 => m42_11 y0_83 y1_84 y2_85 y7_86 y8_87 y10_88 y14_89 y15_90 y16_91 H_92 kn kx1 kx0 Q) kx1 kx0 Q
theorem c42_10 (env : Env) (H : Heap) (kn : Value → Value → Value → Value → Value → Value → Value → Heap → Prop) (kx1 : Value → Value → Value → Value → Value → Value → Value → Heap → Prop) (kx0 : Value → Value → Value → Value → Heap → Prop) (Q : Ending → Heap → Prop) (h : m42_10 (env 0) (env 1) (env 2) (env 7) (env 14) (env 15) (env 16) H kn kx1 kx0 Q) :
    RCode Try.prog 76 (codeAt [1, 1, 0, 1, 0, 0, 1, 1, 0, 0] (bodyOf Try.f42)) env H (mkK (fun e H => kn (e 0) (e 1) (e 2) (e 7) (e 14) (e 15) (e 16) H) (inK 1 (fun e H => kx1 (e 0) (e 1) (e 2) (e 7) (e 14) (e 15) (e 16) H) (inK 0 (fun e H => kx0 (e 0) (e 1) (e 2) (e 7) H) (fun _ _ _ => False))) (retK T Try.f42.results.toList Q) (fun c H => Q (.panicked c) H)) :=
  RCode.prefix_ (T := T) (X := ext) (hint := hint42) (hole := (fun e H => m42_15 (e 0) (e 1) (e 2) (e 7) (e 8) (e 9) (e 10) (e 14) (e 15) (e 16) H (fun y0_93 y1_94 y2_95 y7_96 y8_97 y10_98 y14_99 y15_100 y16_101 H_102 => m42_11 y0_93 y1_94 y2_95 y7_96 y8_97 y10_98 y14_99 y15_100 y16_101 H_102 kn kx1 kx0 Q) kx1 kx0 Q)) tok xok mixed 2 (by kernel_rfl) (by kernel_rfl : codeAt _ _ = (codeAt [1, 1, 0, 1, 0, 0, 1, 1, 0, 0, 1, 1] (bodyOf Try.f42))) h
    (fun e H h => RCode.join (by kernel_rfl : (codeAt [1, 1, 0, 1, 0, 0, 1, 1, 0, 0, 1, 1] (bodyOf Try.f42)) = .seq (codeAt [1, 1, 0, 1, 0, 0, 1, 1, 0, 0, 1, 1, 0] (bodyOf Try.f42)) (codeAt [1, 1, 0, 1, 0, 0, 1, 1, 0, 0, 1, 1, 1] (bodyOf Try.f42))) ((c42_15 e H (fun y0_103 y1_104 y2_105 y7_106 y8_107 y10_108 y14_109 y15_110 y16_111 H_112 => m42_11 y0_103 y1_104 y2_105 y7_106 y8_107 y10_108 y14_109 y15_110 y16_111 H_112 kn kx1 kx0 Q) kx1 kx0 Q h).mono (mkK_mono (fun e H h => c42_11 e H kn kx1 kx0 Q h) (fun _ _ _ h => h) (fun _ _ h => h) (fun _ _ h => h))))
def m42_9 (x0 x1 x2 x7 x14 x15 x16 : Value) (H : Heap) (kn : Value → Value → Value → Value → Value → Value → Value → Heap → Prop) (kx0 : Value → Value → Value → Value → Heap → Prop) (Q : Ending → Heap → Prop) : Prop :=
m42_10 x0 x1 x2 x7 x14 x15 x16 H kn kn kx0 Q
theorem c42_9 (env : Env) (H : Heap) (kn : Value → Value → Value → Value → Value → Value → Value → Heap → Prop) (kx0 : Value → Value → Value → Value → Heap → Prop) (Q : Ending → Heap → Prop) (h : m42_9 (env 0) (env 1) (env 2) (env 7) (env 14) (env 15) (env 16) H kn kx0 Q) :
    RCode Try.prog 76 (codeAt [1, 1, 0, 1, 0, 0, 1, 1, 0] (bodyOf Try.f42)) env H (mkK (fun e H => kn (e 0) (e 1) (e 2) (e 7) (e 14) (e 15) (e 16) H) (inK 0 (fun e H => kx0 (e 0) (e 1) (e 2) (e 7) H) (fun _ _ _ => False)) (retK T Try.f42.results.toList Q) (fun c H => Q (.panicked c) H)) :=
  RCode.blk (by kernel_rfl : (codeAt [1, 1, 0, 1, 0, 0, 1, 1, 0] (bodyOf Try.f42)) = .block 1 (codeAt [1, 1, 0, 1, 0, 0, 1, 1, 0, 0] (bodyOf Try.f42))) (c42_10 env H kn kn kx0 Q h)
def m42_7 (x0 x1 x2 x7 x14 x15 x16 : Value) (H : Heap) (kn : Value → Value → Value → Value → Value → Value → Value → Heap → Prop) (kx0 : Value → Value → Value → Value → Heap → Prop) (Q : Ending → Heap → Prop) : Prop :=
oV (vInt .lss x16 x15) fun t17_113 =>
condK t17_113 (
m42_9 x0 x1 x2 x7 x14 x15 x16 H (fun y0_114 y1_115 y2_116 y7_117 y14_118 y15_119 y16_120 H_121 => m42_8 y0_114 y1_115 y2_116 y7_117 y14_118 y15_119 y16_120 H_121 kn kx0 Q) kx0 Q) (
kx0 x0 x1 x2 x7 H)
theorem c42_7 (env : Env) (H : Heap) (kn : Value → Value → Value → Value → Value → Value → Value → Heap → Prop) (kx0 : Value → Value → Value → Value → Heap → Prop) (Q : Ending → Heap → Prop) (h : m42_7 (env 0) (env 1) (env 2) (env 7) (env 14) (env 15) (env 16) H kn kx0 Q) :
    RCode Try.prog 76 (codeAt [1, 1, 0, 1, 0, 0] (bodyOf Try.f42)) env H (mkK (fun e H => kn (e 0) (e 1) (e 2) (e 7) (e 14) (e 15) (e 16) H) (inK 0 (fun e H => kx0 (e 0) (e 1) (e 2) (e 7) H) (fun _ _ _ => False)) (retK T Try.f42.results.toList Q) (fun c H => Q (.panicked c) H)) :=
  RCode.prefix_ (T := T) (X := ext) (hint := hint42) (hole := (fun e H => m42_9 (e 0) (e 1) (e 2) (e 7) (e 14) (e 15) (e 16) H (fun y0_122 y1_123 y2_124 y7_125 y14_126 y15_127 y16_128 H_129 => m42_8 y0_122 y1_123 y2_124 y7_125 y14_126 y15_127 y16_128 H_129 kn kx0 Q) kx0 Q)) tok xok mixed 2 (by kernel_rfl) (by kernel_rfl : codeAt _ _ = (codeAt [1, 1, 0, 1, 0, 0, 1, 1] (bodyOf Try.f42))) h
    (fun e H h => RCode.join (by kernel_rfl : (codeAt [1, 1, 0, 1, 0, 0, 1, 1] (bodyOf Try.f42)) = .seq (codeAt [1, 1, 0, 1, 0, 0, 1, 1, 0] (bodyOf Try.f42)) (codeAt [1, 1, 0, 1, 0, 0, 1, 1, 1] (bodyOf Try.f42))) ((c42_9 e H (fun y0_130 y1_131 y2_132 y7_133 y14_134 y15_135 y16_136 H_137 => m42_8 y0_130 y1_131 y2_132 y7_133 y14_134 y15_135 y16_136 H_137 kn kx0 Q) kx0 Q h).mono (mkK_mono (fun e H h => c42_8 e H kn kx0 Q h) (fun _ _ _ h => h) (fun _ _ h => h) (fun _ _ h => h))))
theorem L42_6_round (x0 x1 x2 x7 x14 x15 x16 : Value) (H : Heap) (kn : Value → Value → Value → Value → Heap → Prop) (Q : Ending → Heap → Prop) (h : m42_7 x0 x1 x2 x7 x14 x15 x16 H (fun y0 y1 y2 y7 y14 y15 y16 H => L42_6 y0 y1 y2 y7 y14 y15 y16 H kn Q) kn Q) : L42_6 x0 x1 x2 x7 x14 x15 x16 H kn Q := by
  intro env h0 h1 h2 h7 h14 h15 h16
  subst h0; subst h1; subst h2; subst h7; subst h14; subst h15; subst h16
  exact RLoop.round ((c42_7 env H (fun y0 y1 y2 y7 y14 y15 y16 H => L42_6 y0 y1 y2 y7 y14 y15 y16 H kn Q) kn Q h).mono (mkK_mono (fun e H h => h e rfl rfl rfl rfl rfl rfl rfl) (fun _ _ _ h => h) (fun _ _ h => h) (fun _ _ h => h)))
def m42_5 (x0 x1 x2 x7 : Value) (H : Heap) (kn : Value → Value → Value → Value → Heap → Prop) (Q : Ending → Heap → Prop) : Prop :=
oV (vLen x2) fun t15_138 =>
L42_6 x0 x1 x2 x7 x2 t15_138 (.int .i64 0) H kn Q
theorem c42_5 (env : Env) (H : Heap) (kn : Value → Value → Value → Value → Heap → Prop) (Q : Ending → Heap → Prop) (h : m42_5 (env 0) (env 1) (env 2) (env 7) H kn Q) :
    RCode Try.prog 76 (codeAt [1, 1, 0] (bodyOf Try.f42)) env H (mkK (fun e H => kn (e 0) (e 1) (e 2) (e 7) H) (fun _ _ _ => False) (retK T Try.f42.results.toList Q) (fun c H => Q (.panicked c) H)) :=
  RCode.prefix_ (T := T) (X := ext) (hint := hint42) (hole := (fun e H => L42_6 (e 0) (e 1) (e 2) (e 7) (e 14) (e 15) (e 16) H kn Q)) tok xok mixed 1 (by kernel_rfl) (by kernel_rfl : codeAt _ _ = (codeAt [1, 1, 0, 1] (bodyOf Try.f42))) h
    (fun e H h => (cL42_6 e H kn Q h))
def m42 (x0 x1 x2 : Value) (H : Heap) (Q : Ending → Heap → Prop) : Prop :=
m42_5 x0 x1 x2 (.slice none 0 0) H (fun y0_139 y1_140 y2_141 y7_142 H_143 => m42_1 y0_139 y1_140 y2_141 y7_142 H_143 Q) Q
theorem c42_0 (env : Env) (H : Heap) (Q : Ending → Heap → Prop) (h : m42 (env 0) (env 1) (env 2) H Q) :
    RCode Try.prog 76 (bodyOf Try.f42) env H (mkK (retK T Try.f42.results.toList Q) (fun _ _ _ => False) (retK T Try.f42.results.toList Q) (fun c H => Q (.panicked c) H)) :=
  RCode.prefix_ (T := T) (X := ext) (hint := hint42) (hole := (fun e H => m42_5 (e 0) (e 1) (e 2) (e 7) H (fun y0_144 y1_145 y2_146 y7_147 H_148 => m42_1 y0_144 y1_145 y2_146 y7_147 H_148 Q) Q)) tok xok mixed 2 (by kernel_rfl) (by kernel_rfl : codeAt _ _ = (codeAt [1, 1] (bodyOf Try.f42))) h
    (fun e H h => RCode.join (by kernel_rfl : (codeAt [1, 1] (bodyOf Try.f42)) = .seq (codeAt [1, 1, 0] (bodyOf Try.f42)) (codeAt [1, 1, 1] (bodyOf Try.f42))) ((c42_5 e H (fun y0_149 y1_150 y2_151 y7_152 H_153 => m42_1 y0_149 y1_150 y2_151 y7_152 H_153 Q) Q h).mono (mkK_mono (fun e H h => c42_1 e H Q h) (fun _ _ _ h => h) (fun _ _ h => h) (fun _ _ h => h))))
theorem call42 (a0 a1 a2 : Value) (H : Heap) (Q : Ending → Heap → Prop) (h : m42 a0 a1 a2 H Q) : RCalls Try.prog 42 [a0, a1, a2] H Q :=
  RCalls.intro (nt := 76) tok Try.func42 (by kernel_rfl) (by kernel_rfl) (by kernel_rfl) (of_decide_eq_true (by kernel_rfl)) (c42_0 (envOf [a0, a1, a2]) H Q h)
/-! ### 64: privity/privityref02.Add -/
def hint64 : Nat → List Nat := lookupL []
def m64_1 (x5 x6 : Value) (H : Heap) (Q : Ending → Heap → Prop) : Prop :=
oBuildS ty22 22 1 [((0, 1), x6)] H fun s_1 H_2 =>
oAppend ty22 22 x5 s_1 H_2 fun v_3 H_4 =>
Q (.returned v_3) H_4
theorem c64_1 (env : Env) (H : Heap) (Q : Ending → Heap → Prop) (h : m64_1 (env 5) (env 6) H Q) :
    RCode Try.prog 41 (codeAt [1, 1, 1, 1] (bodyOf Try.f64)) env H (mkK (retK T Try.f64.results.toList Q) (fun _ _ _ => False) (retK T Try.f64.results.toList Q) (fun c H => Q (.panicked c) H)) :=
  RCode.leaf_ (T := T) (X := ext) (hint := hint64) tok xok mixed (by kernel_rfl) h
def L64_3 (x0 x1 x5 x6 x7 : Value) (H : Heap) (kn : Value → Value → Heap → Prop) (Q : Ending → Heap → Prop) : Prop :=
  ∀ env : Env, env 0 = x0 → env 1 = x1 → env 5 = x5 → env 6 = x6 → env 7 = x7 → RLoop Try.prog 41 (codeAt [1, 1, 1, 0, 1, 0, 0] (bodyOf Try.f64)) env H (mkK (fun _ _ => False) (inK 0 (fun e H => kn (e 5) (e 6) H) (fun _ _ _ => False)) (retK T Try.f64.results.toList Q) (fun c H => Q (.panicked c) H))
theorem cL64_3 (env : Env) (H : Heap) (kn : Value → Value → Heap → Prop) (Q : Ending → Heap → Prop) (h : L64_3 (env 0) (env 1) (env 5) (env 6) (env 7) H kn Q) :
    RCode Try.prog 41 (codeAt [1, 1, 1, 0, 1] (bodyOf Try.f64)) env H (mkK (fun e H => kn (e 5) (e 6) H) (fun _ _ _ => False) (retK T Try.f64.results.toList Q) (fun c H => Q (.panicked c) H)) :=
  RCode.blk (by kernel_rfl : (codeAt [1, 1, 1, 0, 1] (bodyOf Try.f64)) = .block 0 (codeAt [1, 1, 1, 0, 1, 0] (bodyOf Try.f64))) (RCode.lp (by kernel_rfl : (codeAt [1, 1, 1, 0, 1, 0] (bodyOf Try.f64)) = .loop (codeAt [1, 1, 1, 0, 1, 0, 0] (bodyOf Try.f64))) ((h env rfl rfl rfl rfl rfl).mono (mkK_mono (fun _ _ h => h.elim) (fun _ _ _ h => h) (fun _ _ h => h) (fun _ _ h => h))))
def m64_4 (x0 x1 x5 x6 x7 : Value) (H : Heap) (kn : Value → Value → Value → Value → Value → Heap → Prop) (kx0 : Value → Value → Heap → Prop) (Q : Ending → Heap → Prop) : Prop :=
oV (vLen x0) fun t11_5 =>
oV (vInt .lss x7 t11_5) fun t12_6 =>
oV (gV t12_6 false (some x7) (some undef)) fun t14_7 =>
oV (gV t12_6 false (some x1) (some undef)) fun t15_8 =>
oV (gV t12_6 false (vLen t15_8) (some undef)) fun t16_9 =>
oV (gV t12_6 false (vInt .lss t14_7 t16_9) (some undef)) fun t17_10 =>
oV (vPick t12_6 (.bool true) t17_10) fun t18_11 =>
condK t18_11 (
oRC Try.prog 61 [x0, x7] H (fun c H => Q (.panicked c) H) fun v_12 H_13 =>
oRC Try.prog 61 [x1, x7] H_13 (fun c H => Q (.panicked c) H) fun v_14 H_15 =>
oV (vInt .add v_12 v_14) fun t27_16 =>
oV (vInt .add t27_16 x6) fun t29_17 =>
oV (vInt .rem t29_17 (.int .u64 2)) fun t32_18 =>
oBuildS ty22 22 1 [((0, 1), t32_18)] H_15 fun s_19 H_20 =>
oAppend ty22 22 x5 s_19 H_20 fun v_21 H_22 =>
oV (vInt .quo t29_17 (.int .u64 2)) fun t36_23 =>
oV (vInt .add x7 (.int .i64 1)) fun t20_24 =>
kn x0 x1 v_21 t36_23 t20_24 H_22) (
kx0 x5 x6 H)
theorem c64_4 (env : Env) (H : Heap) (kn : Value → Value → Value → Value → Value → Heap → Prop) (kx0 : Value → Value → Heap → Prop) (Q : Ending → Heap → Prop) (h : m64_4 (env 0) (env 1) (env 5) (env 6) (env 7) H kn kx0 Q) :
    RCode Try.prog 41 (codeAt [1, 1, 1, 0, 1, 0, 0] (bodyOf Try.f64)) env H (mkK (fun e H => kn (e 0) (e 1) (e 5) (e 6) (e 7) H) (inK 0 (fun e H => kx0 (e 5) (e 6) H) (fun _ _ _ => False)) (retK T Try.f64.results.toList Q) (fun c H => Q (.panicked c) H)) :=
  RCode.leaf_ (T := T) (X := ext) (hint := hint64) tok xok mixed (by kernel_rfl) h
theorem L64_3_round (x0 x1 x5 x6 x7 : Value) (H : Heap) (kn : Value → Value → Heap → Prop) (Q : Ending → Heap → Prop) (h : m64_4 x0 x1 x5 x6 x7 H (fun y0 y1 y5 y6 y7 H => L64_3 y0 y1 y5 y6 y7 H kn Q) kn Q) : L64_3 x0 x1 x5 x6 x7 H kn Q := by
  intro env h0 h1 h5 h6 h7
  subst h0; subst h1; subst h5; subst h6; subst h7
  exact RLoop.round ((c64_4 env H (fun y0 y1 y5 y6 y7 H => L64_3 y0 y1 y5 y6 y7 H kn Q) kn Q h).mono (mkK_mono (fun e H h => h e rfl rfl rfl rfl rfl) (fun _ _ _ h => h) (fun _ _ h => h) (fun _ _ h => h)))
def m64_2 (x0 x1 x5 x6 : Value) (H : Heap) (kn : Value → Value → Heap → Prop) (Q : Ending → Heap → Prop) : Prop :=
L64_3 x0 x1 x5 x6 (.int .i64 0) H kn Q
theorem c64_2 (env : Env) (H : Heap) (kn : Value → Value → Heap → Prop) (Q : Ending → Heap → Prop) (h : m64_2 (env 0) (env 1) (env 5) (env 6) H kn Q) :
    RCode Try.prog 41 (codeAt [1, 1, 1, 0] (bodyOf Try.f64)) env H (mkK (fun e H => kn (e 5) (e 6) H) (fun _ _ _ => False) (retK T Try.f64.results.toList Q) (fun c H => Q (.panicked c) H)) :=
  RCode.prefix_ (T := T) (X := ext) (hint := hint64) (hole := (fun e H => L64_3 (e 0) (e 1) (e 5) (e 6) (e 7) H kn Q)) tok xok mixed 1 (by kernel_rfl) (by kernel_rfl : codeAt _ _ = (codeAt [1, 1, 1, 0, 1] (bodyOf Try.f64))) h
    (fun e H h => (cL64_3 e H kn Q h))
def m64 (x0 x1 : Value) (H : Heap) (Q : Ending → Heap → Prop) : Prop :=
m64_2 x0 x1 (.slice none 0 0) (.int .u64 0) H (fun y5_25 y6_26 H_27 => m64_1 y5_25 y6_26 H_27 Q) Q
theorem c64_0 (env : Env) (H : Heap) (Q : Ending → Heap → Prop) (h : m64 (env 0) (env 1) H Q) :
    RCode Try.prog 41 (bodyOf Try.f64) env H (mkK (retK T Try.f64.results.toList Q) (fun _ _ _ => False) (retK T Try.f64.results.toList Q) (fun c H => Q (.panicked c) H)) :=
  RCode.prefix_ (T := T) (X := ext) (hint := hint64) (hole := (fun e H => m64_2 (e 0) (e 1) (e 5) (e 6) H (fun y5_28 y6_29 H_30 => m64_1 y5_28 y6_29 H_30 Q) Q)) tok xok mixed 3 (by kernel_rfl) (by kernel_rfl : codeAt _ _ = (codeAt [1, 1, 1] (bodyOf Try.f64))) h
    (fun e H h => RCode.join (by kernel_rfl : (codeAt [1, 1, 1] (bodyOf Try.f64)) = .seq (codeAt [1, 1, 1, 0] (bodyOf Try.f64)) (codeAt [1, 1, 1, 1] (bodyOf Try.f64))) ((c64_2 e H (fun y5_31 y6_32 H_33 => m64_1 y5_31 y6_32 H_33 Q) Q h).mono (mkK_mono (fun e H h => c64_1 e H Q h) (fun _ _ _ h => h) (fun _ _ h => h) (fun _ _ h => h))))
theorem call64 (a0 a1 : Value) (H : Heap) (Q : Ending → Heap → Prop) (h : m64 a0 a1 H Q) : RCalls Try.prog 64 [a0, a1] H Q :=
  RCalls.intro (nt := 41) tok Try.func64 (by kernel_rfl) (by kernel_rfl) (by kernel_rfl) (of_decide_eq_true (by kernel_rfl)) (c64_0 (envOf [a0, a1]) H Q h)
/-! ### 65: privity/privityref02.SaturatingSub -/
def hint65 : Nat → List Nat := lookupL []
def m65_1 (x5 : Value) (H : Heap) (Q : Ending → Heap → Prop) : Prop :=
Q (.returned x5) H
theorem c65_1 (env : Env) (H : Heap) (Q : Ending → Heap → Prop) (h : m65_1 (env 5) H Q) :
    RCode Try.prog 43 (codeAt [1, 1, 1, 1, 1] (bodyOf Try.f65)) env H (mkK (retK T Try.f65.results.toList Q) (fun _ _ _ => False) (retK T Try.f65.results.toList Q) (fun c H => Q (.panicked c) H)) :=
  RCode.leaf_ (T := T) (X := ext) (hint := hint65) tok xok mixed (by kernel_rfl) h
def L65_3 (x0 x1 x5 x6 x7 x8 : Value) (H : Heap) (kn : Value → Heap → Prop) (Q : Ending → Heap → Prop) : Prop :=
  ∀ env : Env, env 0 = x0 → env 1 = x1 → env 5 = x5 → env 6 = x6 → env 7 = x7 → env 8 = x8 → RLoop Try.prog 43 (codeAt [1, 1, 1, 1, 0, 1, 0, 0] (bodyOf Try.f65)) env H (mkK (fun _ _ => False) (inK 0 (fun e H => kn (e 5) H) (fun _ _ _ => False)) (retK T Try.f65.results.toList Q) (fun c H => Q (.panicked c) H))
theorem cL65_3 (env : Env) (H : Heap) (kn : Value → Heap → Prop) (Q : Ending → Heap → Prop) (h : L65_3 (env 0) (env 1) (env 5) (env 6) (env 7) (env 8) H kn Q) :
    RCode Try.prog 43 (codeAt [1, 1, 1, 1, 0, 1] (bodyOf Try.f65)) env H (mkK (fun e H => kn (e 5) H) (fun _ _ _ => False) (retK T Try.f65.results.toList Q) (fun c H => Q (.panicked c) H)) :=
  RCode.blk (by kernel_rfl : (codeAt [1, 1, 1, 1, 0, 1] (bodyOf Try.f65)) = .block 0 (codeAt [1, 1, 1, 1, 0, 1, 0] (bodyOf Try.f65))) (RCode.lp (by kernel_rfl : (codeAt [1, 1, 1, 1, 0, 1, 0] (bodyOf Try.f65)) = .loop (codeAt [1, 1, 1, 1, 0, 1, 0, 0] (bodyOf Try.f65))) ((h env rfl rfl rfl rfl rfl rfl).mono (mkK_mono (fun _ _ h => h.elim) (fun _ _ _ h => h) (fun _ _ h => h) (fun _ _ h => h))))
def m65_4 (x0 x1 x5 x6 x7 x8 : Value) (H : Heap) (kn : Value → Value → Value → Value → Value → Value → Heap → Prop) (kx0 : Value → Heap → Prop) (Q : Ending → Heap → Prop) : Prop :=
oV (vLen x0) fun t16_1 =>
oV (vInt .lss x8 t16_1) fun t17_2 =>
condK t17_2 (
oRC Try.prog 61 [x0, x8] H (fun c H => Q (.panicked c) H) fun v_3 H_4 =>
oV (vInt .add (.int .u64 2) v_3) fun t23_5 =>
oRC Try.prog 61 [x1, x8] H_4 (fun c H => Q (.panicked c) H) fun v_6 H_7 =>
oV (vInt .sub t23_5 v_6) fun t27_8 =>
oV (vInt .sub t27_8 x7) fun t29_9 =>
oV (vInt .quo t29_9 (.int .u64 2)) fun t31_10 =>
oV (vInt .sub (.int .u64 1) t31_10) fun t32_11 =>
condK x6 (
oBuildS ty22 22 1 [((0, 1), (.int .u64 0))] H_7 fun s_12 H_13 =>
oAppend ty22 22 x5 s_12 H_13 fun v_14 H_15 =>
oV (vInt .add x8 (.int .i64 1)) fun t19_16 =>
kn x0 x1 v_14 x6 t32_11 t19_16 H_15) (
oV (vInt .rem t29_9 (.int .u64 2)) fun t39_17 =>
oBuildS ty22 22 1 [((0, 1), t39_17)] H_7 fun s_18 H_19 =>
oAppend ty22 22 x5 s_18 H_19 fun v_20 H_21 =>
oV (vInt .add x8 (.int .i64 1)) fun t19_22 =>
kn x0 x1 v_20 x6 t32_11 t19_22 H_21)) (
kx0 x5 H)
theorem c65_4 (env : Env) (H : Heap) (kn : Value → Value → Value → Value → Value → Value → Heap → Prop) (kx0 : Value → Heap → Prop) (Q : Ending → Heap → Prop) (h : m65_4 (env 0) (env 1) (env 5) (env 6) (env 7) (env 8) H kn kx0 Q) :
    RCode Try.prog 43 (codeAt [1, 1, 1, 1, 0, 1, 0, 0] (bodyOf Try.f65)) env H (mkK (fun e H => kn (e 0) (e 1) (e 5) (e 6) (e 7) (e 8) H) (inK 0 (fun e H => kx0 (e 5) H) (fun _ _ _ => False)) (retK T Try.f65.results.toList Q) (fun c H => Q (.panicked c) H)) :=
  RCode.leaf_ (T := T) (X := ext) (hint := hint65) tok xok mixed (by kernel_rfl) h
theorem L65_3_round (x0 x1 x5 x6 x7 x8 : Value) (H : Heap) (kn : Value → Heap → Prop) (Q : Ending → Heap → Prop) (h : m65_4 x0 x1 x5 x6 x7 x8 H (fun y0 y1 y5 y6 y7 y8 H => L65_3 y0 y1 y5 y6 y7 y8 H kn Q) kn Q) : L65_3 x0 x1 x5 x6 x7 x8 H kn Q := by
  intro env h0 h1 h5 h6 h7 h8
  subst h0; subst h1; subst h5; subst h6; subst h7; subst h8
  exact RLoop.round ((c65_4 env H (fun y0 y1 y5 y6 y7 y8 H => L65_3 y0 y1 y5 y6 y7 y8 H kn Q) kn Q h).mono (mkK_mono (fun e H h => h e rfl rfl rfl rfl rfl rfl) (fun _ _ _ h => h) (fun _ _ h => h) (fun _ _ h => h)))
def m65_2 (x0 x1 x5 x6 x7 : Value) (H : Heap) (kn : Value → Heap → Prop) (Q : Ending → Heap → Prop) : Prop :=
L65_3 x0 x1 x5 x6 x7 (.int .i64 0) H kn Q
theorem c65_2 (env : Env) (H : Heap) (kn : Value → Heap → Prop) (Q : Ending → Heap → Prop) (h : m65_2 (env 0) (env 1) (env 5) (env 6) (env 7) H kn Q) :
    RCode Try.prog 43 (codeAt [1, 1, 1, 1, 0] (bodyOf Try.f65)) env H (mkK (fun e H => kn (e 5) H) (fun _ _ _ => False) (retK T Try.f65.results.toList Q) (fun c H => Q (.panicked c) H)) :=
  RCode.prefix_ (T := T) (X := ext) (hint := hint65) (hole := (fun e H => L65_3 (e 0) (e 1) (e 5) (e 6) (e 7) (e 8) H kn Q)) tok xok mixed 1 (by kernel_rfl) (by kernel_rfl : codeAt _ _ = (codeAt [1, 1, 1, 1, 0, 1] (bodyOf Try.f65))) h
    (fun e H h => (cL65_3 e H kn Q h))
def m65 (x0 x1 : Value) (H : Heap) (Q : Ending → Heap → Prop) : Prop :=
oRC Try.prog 37 [x0, x1] H (fun c H => Q (.panicked c) H) fun v_23 H_24 =>
oV (vInt .eql v_23 (.int .u64 1)) fun t13_25 =>
m65_2 x0 x1 (.slice none 0 0) t13_25 (.int .u64 0) H_24 (fun y5_26 H_27 => m65_1 y5_26 H_27 Q) Q
theorem c65_0 (env : Env) (H : Heap) (Q : Ending → Heap → Prop) (h : m65 (env 0) (env 1) H Q) :
    RCode Try.prog 43 (bodyOf Try.f65) env H (mkK (retK T Try.f65.results.toList Q) (fun _ _ _ => False) (retK T Try.f65.results.toList Q) (fun c H => Q (.panicked c) H)) :=
  RCode.prefix_ (T := T) (X := ext) (hint := hint65) (hole := (fun e H => m65_2 (e 0) (e 1) (e 5) (e 6) (e 7) H (fun y5_28 H_29 => m65_1 y5_28 H_29 Q) Q)) tok xok mixed 4 (by kernel_rfl) (by kernel_rfl : codeAt _ _ = (codeAt [1, 1, 1, 1] (bodyOf Try.f65))) h
    (fun e H h => RCode.join (by kernel_rfl : (codeAt [1, 1, 1, 1] (bodyOf Try.f65)) = .seq (codeAt [1, 1, 1, 1, 0] (bodyOf Try.f65)) (codeAt [1, 1, 1, 1, 1] (bodyOf Try.f65))) ((c65_2 e H (fun y5_30 H_31 => m65_1 y5_30 H_31 Q) Q h).mono (mkK_mono (fun e H h => c65_1 e H Q h) (fun _ _ _ h => h) (fun _ _ h => h) (fun _ _ h => h))))
theorem call65 (a0 a1 : Value) (H : Heap) (Q : Ending → Heap → Prop) (h : m65 a0 a1 H Q) : RCalls Try.prog 65 [a0, a1] H Q :=
  RCalls.intro (nt := 43) tok Try.func65 (by kernel_rfl) (by kernel_rfl) (by kernel_rfl) (of_decide_eq_true (by kernel_rfl)) (c65_0 (envOf [a0, a1]) H Q h)
end Go.Proofs.Ytpbaoefjkfdgmaa.SL
