/- PRINTED by program: for each function what its code asks of what is known, and that it suffices. Not trusted: Lean checks it. -/
import Derived.Test.YtchhpagkdaaglaaTab
set_option linter.unusedVariables false
set_option linter.unusedSimpArgs false
set_option maxRecDepth 100000
namespace Go.Proofs.Ytchhpagkdaaglaa.SL
open Go
/-! ### 11: privity/adversary.ApplyToMessages -/
def hint11 : Nat → List Nat := lookupL [(13, [0, 1, 2, 3, 4, 5, 6, 7, 8, 9, 10, 11]), (18, [0, 1, 2, 3, 4, 5, 6, 7, 8, 9, 10, 11, 12, 13, 14, 15, 16, 17, 18, 19, 20, 21])]
def m11_2 (x7 : Value) (H : Heap) (Q : Ending → Heap → Prop) : Prop :=
Q (.returned x7) H
theorem c11_2 (env : Env) (H : Heap) (Q : Ending → Heap → Prop) (h : m11_2 (env 7) H Q) :
    RCode Try.prog 107 (codeAt [1, 1, 1, 1] (bodyOf Try.f11)) env H (mkK (retK T Try.f11.results.toList Q) (fun _ _ _ => False) (retK T Try.f11.results.toList Q) (fun c H => Q (.panicked c) H)) :=
  RCode.leaf_ (T := T) (X := ext) (hint := hint11) tok xok mixed (by kernel_rfl) h
def L11_4 (x1 x2 x3 x7 x31 x32 x33 : Value) (H : Heap) (kn : Value → Heap → Prop) (Q : Ending → Heap → Prop) : Prop :=
  ∀ env : Env, env 1 = x1 → env 2 = x2 → env 3 = x3 → env 7 = x7 → env 31 = x31 → env 32 = x32 → env 33 = x33 → RLoop Try.prog 107 (codeAt [1, 1, 1, 0, 1, 0, 0] (bodyOf Try.f11)) env H (mkK (fun _ _ => False) (inK 2 (fun e H => kn (e 7) H) (fun _ _ _ => False)) (retK T Try.f11.results.toList Q) (fun c H => Q (.panicked c) H))
theorem cL11_4 (env : Env) (H : Heap) (kn : Value → Heap → Prop) (Q : Ending → Heap → Prop) (h : L11_4 (env 1) (env 2) (env 3) (env 7) (env 31) (env 32) (env 33) H kn Q) :
    RCode Try.prog 107 (codeAt [1, 1, 1, 0, 1] (bodyOf Try.f11)) env H (mkK (fun e H => kn (e 7) H) (fun _ _ _ => False) (retK T Try.f11.results.toList Q) (fun c H => Q (.panicked c) H)) :=
  RCode.blk (by kernel_rfl : (codeAt [1, 1, 1, 0, 1] (bodyOf Try.f11)) = .block 2 (codeAt [1, 1, 1, 0, 1, 0] (bodyOf Try.f11))) (RCode.lp (by kernel_rfl : (codeAt [1, 1, 1, 0, 1, 0] (bodyOf Try.f11)) = .loop (codeAt [1, 1, 1, 0, 1, 0, 0] (bodyOf Try.f11))) ((h env rfl rfl rfl rfl rfl rfl rfl).mono (mkK_mono (fun _ _ h => h.elim) (fun _ _ _ h => h) (fun _ _ h => h) (fun _ _ h => h))))
def m11_6 (x1 x2 x3 x7 x31 x32 x33 : Value) (H : Heap) (kn : Value → Value → Value → Value → Value → Value → Value → Heap → Prop) (kx2 : Value → Heap → Prop) (Q : Ending → Heap → Prop) : Prop :=
oV (vInt .add x33 (.int .i64 1)) fun t105_1 =>
kn x1 x2 x3 x7 x31 x32 t105_1 H
theorem c11_6 (env : Env) (H : Heap) (kn : Value → Value → Value → Value → Value → Value → Value → Heap → Prop) (kx2 : Value → Heap → Prop) (Q : Ending → Heap → Prop) (h : m11_6 (env 1) (env 2) (env 3) (env 7) (env 31) (env 32) (env 33) H kn kx2 Q) :
    RCode Try.prog 107 (codeAt [1, 1, 1, 0, 1, 0, 0, 1, 1, 1] (bodyOf Try.f11)) env H (mkK (fun e H => kn (e 1) (e 2) (e 3) (e 7) (e 31) (e 32) (e 33) H) (inK 2 (fun e H => kx2 (e 7) H) (fun _ _ _ => False)) (retK T Try.f11.results.toList Q) (fun c H => Q (.panicked c) H)) :=
  RCode.leaf_ (T := T) (X := ext) (hint := hint11) tok xok mixed (by kernel_rfl) h
def L11_10 (x1 x2 x3 x7 x11 x12 x31 x32 x33 x62 x63 : Value) (H : Heap) (kn : Value → Value → Value → Value → Value → Value → Value → Heap → Prop) (kx3 : Value → Value → Value → Value → Value → Value → Value → Heap → Prop) (kx2 : Value → Heap → Prop) (Q : Ending → Heap → Prop) : Prop :=
  ∀ env : Env, env 1 = x1 → env 2 = x2 → env 3 = x3 → env 7 = x7 → env 11 = x11 → env 12 = x12 → env 31 = x31 → env 32 = x32 → env 33 = x33 → env 62 = x62 → env 63 = x63 → RLoop Try.prog 107 (codeAt [1, 1, 1, 0, 1, 0, 0, 1, 1, 0, 0, 1, 1, 1, 1, 1, 0, 0] (bodyOf Try.f11)) env H (mkK (fun _ _ => False) (inK 4 (fun e H => kn (e 1) (e 2) (e 3) (e 7) (e 31) (e 32) (e 33) H) (inK 3 (fun e H => kx3 (e 1) (e 2) (e 3) (e 7) (e 31) (e 32) (e 33) H) (inK 2 (fun e H => kx2 (e 7) H) (fun _ _ _ => False)))) (retK T Try.f11.results.toList Q) (fun c H => Q (.panicked c) H))
theorem cL11_10 (env : Env) (H : Heap) (kn : Value → Value → Value → Value → Value → Value → Value → Heap → Prop) (kx3 : Value → Value → Value → Value → Value → Value → Value → Heap → Prop) (kx2 : Value → Heap → Prop) (Q : Ending → Heap → Prop) (h : L11_10 (env 1) (env 2) (env 3) (env 7) (env 11) (env 12) (env 31) (env 32) (env 33) (env 62) (env 63) H kn kx3 kx2 Q) :
    RCode Try.prog 107 (codeAt [1, 1, 1, 0, 1, 0, 0, 1, 1, 0, 0, 1, 1, 1, 1, 1] (bodyOf Try.f11)) env H (mkK (fun e H => kn (e 1) (e 2) (e 3) (e 7) (e 31) (e 32) (e 33) H) (inK 3 (fun e H => kx3 (e 1) (e 2) (e 3) (e 7) (e 31) (e 32) (e 33) H) (inK 2 (fun e H => kx2 (e 7) H) (fun _ _ _ => False))) (retK T Try.f11.results.toList Q) (fun c H => Q (.panicked c) H)) :=
  RCode.blk (by kernel_rfl : (codeAt [1, 1, 1, 0, 1, 0, 0, 1, 1, 0, 0, 1, 1, 1, 1, 1] (bodyOf Try.f11)) = .block 4 (codeAt [1, 1, 1, 0, 1, 0, 0, 1, 1, 0, 0, 1, 1, 1, 1, 1, 0] (bodyOf Try.f11))) (RCode.lp (by kernel_rfl : (codeAt [1, 1, 1, 0, 1, 0, 0, 1, 1, 0, 0, 1, 1, 1, 1, 1, 0] (bodyOf Try.f11)) = .loop (codeAt [1, 1, 1, 0, 1, 0, 0, 1, 1, 0, 0, 1, 1, 1, 1, 1, 0, 0] (bodyOf Try.f11))) ((h env rfl rfl rfl rfl rfl rfl rfl rfl rfl rfl rfl).mono (mkK_mono (fun _ _ h => h.elim) (fun _ _ _ h => h) (fun _ _ h => h) (fun _ _ h => h))))
def m11_11 (x1 x2 x3 x7 x11 x12 x31 x32 x33 x62 x63 : Value) (H : Heap) (kn : Value → Value → Value → Value → Value → Value → Value → Value → Value → Value → Value → Heap → Prop) (kx4 : Value → Value → Value → Value → Value → Value → Value → Heap → Prop) (kx3 : Value → Value → Value → Value → Value → Value → Value → Heap → Prop) (kx2 : Value → Heap → Prop) (Q : Ending → Heap → Prop) : Prop :=
oV (vInt .lss x63 x62) fun t64_2 =>
condK t64_2 (
oV (vInt .add x63 (.int .i64 1)) fun t67_3 =>
oV (vField 1 x11) fun t68_4 =>
oV (vLoad ty3 t68_4 H) fun t69_5 =>
oV (vInt .neq t67_3 t69_5) fun t70_6 =>
oV (gV t70_6 true (vField 2 x11) (some undef)) fun t72_7 =>
oV (gV t70_6 true (vLoad ty3 t72_7 H) (some undef)) fun t73_8 =>
oV (gV t70_6 true (vInt .eql t73_8 (.int .i64 0)) (some undef)) fun t74_9 =>
oV (gV t70_6 true (some t74_9) (some undef)) fun t75_10 =>
oV (gV t75_10 false (vField 2 x11) (some undef)) fun t76_11 =>
oV (gV t75_10 false (vLoad ty3 t76_11 H) (some undef)) fun t77_12 =>
oV (gV t75_10 false (some x63) (some undef)) fun t78_13 =>
oV (gV t75_10 false (vInt .add t78_13 (.int .i64 1)) (some undef)) fun t79_14 =>
oV (gV t75_10 false (vInt .eql t77_12 t79_14) (some undef)) fun t80_15 =>
oV (gV t70_6 true (vPick t75_10 (.bool true) t80_15) (some undef)) fun t81_16 =>
oV (vPick t70_6 t81_16 (.bool false)) fun t82_17 =>
condK t82_17 (
oV (vField 1 x11) fun t84_18 =>
oV (vLoad ty3 t84_18 H) fun t85_19 =>
oV (vInt .sub t85_19 (.int .i64 1)) fun t86_20 =>
oV (vIdxS 1 x7 t86_20) fun t87_21 =>
oV (vLoad ty27 t87_21 H) fun t88_22 =>
oV (vLoad ty29 x3 H) fun t90_23 =>
oV (vLoad ty44 x11 H) fun t91_24 =>
oV (vField 1 x11) fun t93_25 =>
oV (vLoad ty3 t93_25 H) fun t94_26 =>
oV (vInt .sub t94_26 (.int .i64 1)) fun t95_27 =>
oV (vIdxS 1 x7 t95_27) fun t96_28 =>
oV (vLoad ty27 t96_28 H) fun t97_29 =>
oV (vIdxS 1 t97_29 x63) fun t99_30 =>
oV (vLoad ty41 t99_30 H) fun t100_31 =>
oRC Try.prog 18 [t90_23, t91_24, t100_31, x12] H noP fun v_32 H_33 =>
(vLoad ty27 t87_21 H_33 = some t88_22 ∧
(vLoad ty3 t84_18 H_33 = some t85_19 ∧
oV (vIdxS 1 t88_22 x63) fun t103_34 =>
oHeap (vStore ty41 t103_34 v_32 H_33) fun H_35 =>
oV (vInt .add x63 (.int .i64 1)) fun t104_36 =>
kn x1 x2 x3 x7 x11 x12 x31 x32 x33 x62 t104_36 H_35))) (
oV (vInt .add x63 (.int .i64 1)) fun t104_37 =>
kn x1 x2 x3 x7 x11 x12 x31 x32 x33 x62 t104_37 H)) (
kx4 x1 x2 x3 x7 x31 x32 x33 H)
theorem c11_11 (env : Env) (H : Heap) (kn : Value → Value → Value → Value → Value → Value → Value → Value → Value → Value → Value → Heap → Prop) (kx4 : Value → Value → Value → Value → Value → Value → Value → Heap → Prop) (kx3 : Value → Value → Value → Value → Value → Value → Value → Heap → Prop) (kx2 : Value → Heap → Prop) (Q : Ending → Heap → Prop) (h : m11_11 (env 1) (env 2) (env 3) (env 7) (env 11) (env 12) (env 31) (env 32) (env 33) (env 62) (env 63) H kn kx4 kx3 kx2 Q) :
    RCode Try.prog 107 (codeAt [1, 1, 1, 0, 1, 0, 0, 1, 1, 0, 0, 1, 1, 1, 1, 1, 0, 0] (bodyOf Try.f11)) env H (mkK (fun e H => kn (e 1) (e 2) (e 3) (e 7) (e 11) (e 12) (e 31) (e 32) (e 33) (e 62) (e 63) H) (inK 4 (fun e H => kx4 (e 1) (e 2) (e 3) (e 7) (e 31) (e 32) (e 33) H) (inK 3 (fun e H => kx3 (e 1) (e 2) (e 3) (e 7) (e 31) (e 32) (e 33) H) (inK 2 (fun e H => kx2 (e 7) H) (fun _ _ _ => False)))) (retK T Try.f11.results.toList Q) (fun c H => Q (.panicked c) H)) :=
  RCode.leaf_ (T := T) (X := ext) (hint := hint11) tok xok mixed (by kernel_rfl) h
theorem L11_10_round (x1 x2 x3 x7 x11 x12 x31 x32 x33 x62 x63 : Value) (H : Heap) (kn : Value → Value → Value → Value → Value → Value → Value → Heap → Prop) (kx3 : Value → Value → Value → Value → Value → Value → Value → Heap → Prop) (kx2 : Value → Heap → Prop) (Q : Ending → Heap → Prop) (h : m11_11 x1 x2 x3 x7 x11 x12 x31 x32 x33 x62 x63 H (fun y1 y2 y3 y7 y11 y12 y31 y32 y33 y62 y63 H => L11_10 y1 y2 y3 y7 y11 y12 y31 y32 y33 y62 y63 H kn kx3 kx2 Q) kn kx3 kx2 Q) : L11_10 x1 x2 x3 x7 x11 x12 x31 x32 x33 x62 x63 H kn kx3 kx2 Q := by
  intro env h1 h2 h3 h7 h11 h12 h31 h32 h33 h62 h63
  subst h1; subst h2; subst h3; subst h7; subst h11; subst h12; subst h31; subst h32; subst h33; subst h62; subst h63
  exact RLoop.round ((c11_11 env H (fun y1 y2 y3 y7 y11 y12 y31 y32 y33 y62 y63 H => L11_10 y1 y2 y3 y7 y11 y12 y31 y32 y33 y62 y63 H kn kx3 kx2 Q) kn kx3 kx2 Q h).mono (mkK_mono (fun e H h => h e rfl rfl rfl rfl rfl rfl rfl rfl rfl rfl rfl) (fun _ _ _ h => h) (fun _ _ h => h) (fun _ _ h => h)))
def m11_9 (x1 x2 x3 x7 x11 x12 x31 x32 x33 : Value) (H : Heap) (kn : Value → Value → Value → Value → Value → Value → Value → Heap → Prop) (kx3 : Value → Value → Value → Value → Value → Value → Value → Heap → Prop) (kx2 : Value → Heap → Prop) (Q : Ending → Heap → Prop) : Prop :=
oV (vField 1 x11) fun t57_38 =>
oV (vLoad ty3 t57_38 H) fun t58_39 =>
oV (vInt .sub t58_39 (.int .i64 1)) fun t59_40 =>
oV (vIdxS 1 x7 t59_40) fun t60_41 =>
oV (vLoad ty27 t60_41 H) fun t61_42 =>
oV (vLen t61_42) fun t62_43 =>
L11_10 x1 x2 x3 x7 x11 x12 x31 x32 x33 t62_43 (.int .i64 0) H kn kx3 kx2 Q
theorem c11_9 (env : Env) (H : Heap) (kn : Value → Value → Value → Value → Value → Value → Value → Heap → Prop) (kx3 : Value → Value → Value → Value → Value → Value → Value → Heap → Prop) (kx2 : Value → Heap → Prop) (Q : Ending → Heap → Prop) (h : m11_9 (env 1) (env 2) (env 3) (env 7) (env 11) (env 12) (env 31) (env 32) (env 33) H kn kx3 kx2 Q) :
    RCode Try.prog 107 (codeAt [1, 1, 1, 0, 1, 0, 0, 1, 1, 0, 0, 1, 1, 1, 1] (bodyOf Try.f11)) env H (mkK (fun e H => kn (e 1) (e 2) (e 3) (e 7) (e 31) (e 32) (e 33) H) (inK 3 (fun e H => kx3 (e 1) (e 2) (e 3) (e 7) (e 31) (e 32) (e 33) H) (inK 2 (fun e H => kx2 (e 7) H) (fun _ _ _ => False))) (retK T Try.f11.results.toList Q) (fun c H => Q (.panicked c) H)) :=
  RCode.prefix_ (T := T) (X := ext) (hint := hint11) (hole := (fun e H => L11_10 (e 1) (e 2) (e 3) (e 7) (e 11) (e 12) (e 31) (e 32) (e 33) (e 62) (e 63) H kn kx3 kx2 Q)) tok xok mixed 1 (by kernel_rfl) (by kernel_rfl : codeAt _ _ = (codeAt [1, 1, 1, 0, 1, 0, 0, 1, 1, 0, 0, 1, 1, 1, 1, 1] (bodyOf Try.f11))) h
    (fun e H h => (cL11_10 e H kn kx3 kx2 Q h))
def m11_8 (x1 x2 x3 x7 x31 x32 x33 : Value) (H : Heap) (kn : Value → Value → Value → Value → Value → Value → Value → Heap → Prop) (kx3 : Value → Value → Value → Value → Value → Value → Value → Heap → Prop) (kx2 : Value → Heap → Prop) (Q : Ending → Heap → Prop) : Prop :=
oV (vIdxS 8 x31 x33) fun t35_44 =>
oV (vLoad ty44 t35_44 H) fun t36_45 =>
oNew (Value.cells ty44.zero).toList (Value.cells ty44.zero).toList.length 44 H fun i_46 H_47 =>
oHeap (vStore ty44 (ptrTo i_46) t36_45 H_47) fun H_48 =>
oV (vLoad ty29 x3 H_48) fun t37_49 =>
oV (vLoad ty44 (ptrTo i_46) H_48) fun t38_50 =>
oRC Try.prog 17 [t37_49, t38_50, x1] H_48 (fun c H => Q (.panicked c) H) fun v_51 H_52 =>
oV (vUn .not v_51) fun t41_53 =>
condK t41_53 (
kx3 x1 x2 x3 x7 x31 x32 x33 H_52) (
oV (vField 4 (ptrTo i_46)) fun t42_54 =>
oV (vLoad ty3 t42_54 H_52) fun t43_55 =>
oV (vInt .eql t43_55 (.int .i64 3)) fun t44_56 =>
condK t44_56 (
oV (vField 6 (ptrTo i_46)) fun t46_57 =>
oV (vLoad ty3 t46_57 H_52) fun t47_58 =>
oV (vInt .sub t47_58 (.int .i64 1)) fun t48_59 =>
oV (vIdxS 1 x2 t48_59) fun t49_60 =>
oV (vLoad ty27 t49_60 H_52) fun t50_61 =>
oV (vField 1 (ptrTo i_46)) fun t51_62 =>
oV (vLoad ty3 t51_62 H_52) fun t52_63 =>
oV (vInt .sub t52_63 (.int .i64 1)) fun t53_64 =>
oV (vIdxS 1 t50_61 t53_64) fun t54_65 =>
oV (vLoad ty41 t54_65 H_52) fun t55_66 =>
m11_9 x1 x2 x3 x7 (ptrTo i_46) t55_66 x31 x32 x33 H_52 kn kx3 kx2 Q) (
m11_9 x1 x2 x3 x7 (ptrTo i_46) (.slice none 0 0) x31 x32 x33 H_52 kn kx3 kx2 Q))
theorem c11_8 (env : Env) (H : Heap) (kn : Value → Value → Value → Value → Value → Value → Value → Heap → Prop) (kx3 : Value → Value → Value → Value → Value → Value → Value → Heap → Prop) (kx2 : Value → Heap → Prop) (Q : Ending → Heap → Prop) (h : m11_8 (env 1) (env 2) (env 3) (env 7) (env 31) (env 32) (env 33) H kn kx3 kx2 Q) :
    RCode Try.prog 107 (codeAt [1, 1, 1, 0, 1, 0, 0, 1, 1, 0, 0] (bodyOf Try.f11)) env H (mkK (fun e H => kn (e 1) (e 2) (e 3) (e 7) (e 31) (e 32) (e 33) H) (inK 3 (fun e H => kx3 (e 1) (e 2) (e 3) (e 7) (e 31) (e 32) (e 33) H) (inK 2 (fun e H => kx2 (e 7) H) (fun _ _ _ => False))) (retK T Try.f11.results.toList Q) (fun c H => Q (.panicked c) H)) :=
  RCode.prefix_ (T := T) (X := ext) (hint := hint11) (hole := (fun e H => m11_9 (e 1) (e 2) (e 3) (e 7) (e 11) (e 12) (e 31) (e 32) (e 33) H kn kx3 kx2 Q)) tok xok mixed 4 (by kernel_rfl) (by kernel_rfl : codeAt _ _ = (codeAt [1, 1, 1, 0, 1, 0, 0, 1, 1, 0, 0, 1, 1, 1, 1] (bodyOf Try.f11))) h
    (fun e H h => c11_9 e H kn kx3 kx2 Q h)
def m11_7 (x1 x2 x3 x7 x31 x32 x33 : Value) (H : Heap) (kn : Value → Value → Value → Value → Value → Value → Value → Heap → Prop) (kx2 : Value → Heap → Prop) (Q : Ending → Heap → Prop) : Prop :=
m11_8 x1 x2 x3 x7 x31 x32 x33 H kn kn kx2 Q
theorem c11_7 (env : Env) (H : Heap) (kn : Value → Value → Value → Value → Value → Value → Value → Heap → Prop) (kx2 : Value → Heap → Prop) (Q : Ending → Heap → Prop) (h : m11_7 (env 1) (env 2) (env 3) (env 7) (env 31) (env 32) (env 33) H kn kx2 Q) :
    RCode Try.prog 107 (codeAt [1, 1, 1, 0, 1, 0, 0, 1, 1, 0] (bodyOf Try.f11)) env H (mkK (fun e H => kn (e 1) (e 2) (e 3) (e 7) (e 31) (e 32) (e 33) H) (inK 2 (fun e H => kx2 (e 7) H) (fun _ _ _ => False)) (retK T Try.f11.results.toList Q) (fun c H => Q (.panicked c) H)) :=
  RCode.blk (by kernel_rfl : (codeAt [1, 1, 1, 0, 1, 0, 0, 1, 1, 0] (bodyOf Try.f11)) = .block 3 (codeAt [1, 1, 1, 0, 1, 0, 0, 1, 1, 0, 0] (bodyOf Try.f11))) (c11_8 env H kn kn kx2 Q h)
def m11_5 (x1 x2 x3 x7 x31 x32 x33 : Value) (H : Heap) (kn : Value → Value → Value → Value → Value → Value → Value → Heap → Prop) (kx2 : Value → Heap → Prop) (Q : Ending → Heap → Prop) : Prop :=
oV (vInt .lss x33 x32) fun t34_67 =>
condK t34_67 (
m11_7 x1 x2 x3 x7 x31 x32 x33 H (fun y1_68 y2_69 y3_70 y7_71 y31_72 y32_73 y33_74 H_75 => m11_6 y1_68 y2_69 y3_70 y7_71 y31_72 y32_73 y33_74 H_75 kn kx2 Q) kx2 Q) (
kx2 x7 H)
theorem c11_5 (env : Env) (H : Heap) (kn : Value → Value → Value → Value → Value → Value → Value → Heap → Prop) (kx2 : Value → Heap → Prop) (Q : Ending → Heap → Prop) (h : m11_5 (env 1) (env 2) (env 3) (env 7) (env 31) (env 32) (env 33) H kn kx2 Q) :
    RCode Try.prog 107 (codeAt [1, 1, 1, 0, 1, 0, 0] (bodyOf Try.f11)) env H (mkK (fun e H => kn (e 1) (e 2) (e 3) (e 7) (e 31) (e 32) (e 33) H) (inK 2 (fun e H => kx2 (e 7) H) (fun _ _ _ => False)) (retK T Try.f11.results.toList Q) (fun c H => Q (.panicked c) H)) :=
  RCode.prefix_ (T := T) (X := ext) (hint := hint11) (hole := (fun e H => m11_7 (e 1) (e 2) (e 3) (e 7) (e 31) (e 32) (e 33) H (fun y1_76 y2_77 y3_78 y7_79 y31_80 y32_81 y33_82 H_83 => m11_6 y1_76 y2_77 y3_78 y7_79 y31_80 y32_81 y33_82 H_83 kn kx2 Q) kx2 Q)) tok xok mixed 2 (by kernel_rfl) (by kernel_rfl : codeAt _ _ = (codeAt [1, 1, 1, 0, 1, 0, 0, 1, 1] (bodyOf Try.f11))) h
    (fun e H h => RCode.join (by kernel_rfl : (codeAt [1, 1, 1, 0, 1, 0, 0, 1, 1] (bodyOf Try.f11)) = .seq (codeAt [1, 1, 1, 0, 1, 0, 0, 1, 1, 0] (bodyOf Try.f11)) (codeAt [1, 1, 1, 0, 1, 0, 0, 1, 1, 1] (bodyOf Try.f11))) ((c11_7 e H (fun y1_84 y2_85 y3_86 y7_87 y31_88 y32_89 y33_90 H_91 => m11_6 y1_84 y2_85 y3_86 y7_87 y31_88 y32_89 y33_90 H_91 kn kx2 Q) kx2 Q h).mono (mkK_mono (fun e H h => c11_6 e H kn kx2 Q h) (fun _ _ _ h => h) (fun _ _ h => h) (fun _ _ h => h))))
theorem L11_4_round (x1 x2 x3 x7 x31 x32 x33 : Value) (H : Heap) (kn : Value → Heap → Prop) (Q : Ending → Heap → Prop) (h : m11_5 x1 x2 x3 x7 x31 x32 x33 H (fun y1 y2 y3 y7 y31 y32 y33 H => L11_4 y1 y2 y3 y7 y31 y32 y33 H kn Q) kn Q) : L11_4 x1 x2 x3 x7 x31 x32 x33 H kn Q := by
  intro env h1 h2 h3 h7 h31 h32 h33
  subst h1; subst h2; subst h3; subst h7; subst h31; subst h32; subst h33
  exact RLoop.round ((c11_5 env H (fun y1 y2 y3 y7 y31 y32 y33 H => L11_4 y1 y2 y3 y7 y31 y32 y33 H kn Q) kn Q h).mono (mkK_mono (fun e H h => h e rfl rfl rfl rfl rfl rfl rfl) (fun _ _ _ h => h) (fun _ _ h => h) (fun _ _ h => h)))
def m11_3 (x1 x2 x3 x7 : Value) (H : Heap) (kn : Value → Heap → Prop) (Q : Ending → Heap → Prop) : Prop :=
oV (vField 4 x3) fun t30_92 =>
oV (vLoad ty26 t30_92 H) fun t31_93 =>
oV (vLen t31_93) fun t32_94 =>
L11_4 x1 x2 x3 x7 t31_93 t32_94 (.int .i64 0) H kn Q
theorem c11_3 (env : Env) (H : Heap) (kn : Value → Heap → Prop) (Q : Ending → Heap → Prop) (h : m11_3 (env 1) (env 2) (env 3) (env 7) H kn Q) :
    RCode Try.prog 107 (codeAt [1, 1, 1, 0] (bodyOf Try.f11)) env H (mkK (fun e H => kn (e 7) H) (fun _ _ _ => False) (retK T Try.f11.results.toList Q) (fun c H => Q (.panicked c) H)) :=
  RCode.prefix_ (T := T) (X := ext) (hint := hint11) (hole := (fun e H => L11_4 (e 1) (e 2) (e 3) (e 7) (e 31) (e 32) (e 33) H kn Q)) tok xok mixed 1 (by kernel_rfl) (by kernel_rfl : codeAt _ _ = (codeAt [1, 1, 1, 0, 1] (bodyOf Try.f11))) h
    (fun e H h => (cL11_4 e H kn Q h))
def m11_1 (x1 x2 x3 x7 : Value) (H : Heap) (Q : Ending → Heap → Prop) : Prop :=
m11_3 x1 x2 x3 x7 H (fun y7_95 H_96 => m11_2 y7_95 H_96 Q) Q
theorem c11_1 (env : Env) (H : Heap) (Q : Ending → Heap → Prop) (h : m11_1 (env 1) (env 2) (env 3) (env 7) H Q) :
    RCode Try.prog 107 (codeAt [1, 1, 1] (bodyOf Try.f11)) env H (mkK (retK T Try.f11.results.toList Q) (fun _ _ _ => False) (retK T Try.f11.results.toList Q) (fun c H => Q (.panicked c) H)) :=
  RCode.join (by kernel_rfl : (codeAt [1, 1, 1] (bodyOf Try.f11)) = .seq (codeAt [1, 1, 1, 0] (bodyOf Try.f11)) (codeAt [1, 1, 1, 1] (bodyOf Try.f11))) ((c11_3 env H (fun y7_97 H_98 => m11_2 y7_97 H_98 Q) Q h).mono (mkK_mono (fun e H h => c11_2 e H Q h) (fun _ _ _ h => h) (fun _ _ h => h) (fun _ _ h => h)))
def L11_13 (x1 x2 x3 x7 x17 x18 x19 : Value) (H : Heap) (kn : Value → Value → Value → Value → Heap → Prop) (Q : Ending → Heap → Prop) : Prop :=
  ∀ env : Env, env 1 = x1 → env 2 = x2 → env 3 = x3 → env 7 = x7 → env 17 = x17 → env 18 = x18 → env 19 = x19 → RLoop Try.prog 107 (codeAt [1, 1, 0, 1, 0, 0] (bodyOf Try.f11)) env H (mkK (fun _ _ => False) (inK 0 (fun e H => kn (e 1) (e 2) (e 3) (e 7) H) (fun _ _ _ => False)) (retK T Try.f11.results.toList Q) (fun c H => Q (.panicked c) H))
theorem cL11_13 (env : Env) (H : Heap) (kn : Value → Value → Value → Value → Heap → Prop) (Q : Ending → Heap → Prop) (h : L11_13 (env 1) (env 2) (env 3) (env 7) (env 17) (env 18) (env 19) H kn Q) :
    RCode Try.prog 107 (codeAt [1, 1, 0, 1] (bodyOf Try.f11)) env H (mkK (fun e H => kn (e 1) (e 2) (e 3) (e 7) H) (fun _ _ _ => False) (retK T Try.f11.results.toList Q) (fun c H => Q (.panicked c) H)) :=
  RCode.blk (by kernel_rfl : (codeAt [1, 1, 0, 1] (bodyOf Try.f11)) = .block 0 (codeAt [1, 1, 0, 1, 0] (bodyOf Try.f11))) (RCode.lp (by kernel_rfl : (codeAt [1, 1, 0, 1, 0] (bodyOf Try.f11)) = .loop (codeAt [1, 1, 0, 1, 0, 0] (bodyOf Try.f11))) ((h env rfl rfl rfl rfl rfl rfl rfl).mono (mkK_mono (fun _ _ h => h.elim) (fun _ _ _ h => h) (fun _ _ h => h) (fun _ _ h => h))))
def m11_14 (x1 x2 x3 x7 x17 x18 x19 : Value) (H : Heap) (kn : Value → Value → Value → Value → Value → Value → Value → Heap → Prop) (kx0 : Value → Value → Value → Value → Heap → Prop) (Q : Ending → Heap → Prop) : Prop :=
oV (vInt .lss x19 x18) fun t20_99 =>
condK t20_99 (
oV (vIdxS 1 x17 x19) fun t22_100 =>
oV (vLoad ty27 t22_100 H) fun t23_101 =>
oRC Try.prog 16 [t23_101] H (fun c H => Q (.panicked c) H) fun v_102 H_103 =>
oV (vIdxS 1 x7 x19) fun t28_104 =>
oHeap (vStore ty27 t28_104 v_102 H_103) fun H_105 =>
oV (vInt .add x19 (.int .i64 1)) fun t29_106 =>
kn x1 x2 x3 x7 x17 x18 t29_106 H_105) (
kx0 x1 x2 x3 x7 H)
theorem c11_14 (env : Env) (H : Heap) (kn : Value → Value → Value → Value → Value → Value → Value → Heap → Prop) (kx0 : Value → Value → Value → Value → Heap → Prop) (Q : Ending → Heap → Prop) (h : m11_14 (env 1) (env 2) (env 3) (env 7) (env 17) (env 18) (env 19) H kn kx0 Q) :
    RCode Try.prog 107 (codeAt [1, 1, 0, 1, 0, 0] (bodyOf Try.f11)) env H (mkK (fun e H => kn (e 1) (e 2) (e 3) (e 7) (e 17) (e 18) (e 19) H) (inK 0 (fun e H => kx0 (e 1) (e 2) (e 3) (e 7) H) (fun _ _ _ => False)) (retK T Try.f11.results.toList Q) (fun c H => Q (.panicked c) H)) :=
  RCode.leaf_ (T := T) (X := ext) (hint := hint11) tok xok mixed (by kernel_rfl) h
theorem L11_13_round (x1 x2 x3 x7 x17 x18 x19 : Value) (H : Heap) (kn : Value → Value → Value → Value → Heap → Prop) (Q : Ending → Heap → Prop) (h : m11_14 x1 x2 x3 x7 x17 x18 x19 H (fun y1 y2 y3 y7 y17 y18 y19 H => L11_13 y1 y2 y3 y7 y17 y18 y19 H kn Q) kn Q) : L11_13 x1 x2 x3 x7 x17 x18 x19 H kn Q := by
  intro env h1 h2 h3 h7 h17 h18 h19
  subst h1; subst h2; subst h3; subst h7; subst h17; subst h18; subst h19
  exact RLoop.round ((c11_14 env H (fun y1 y2 y3 y7 y17 y18 y19 H => L11_13 y1 y2 y3 y7 y17 y18 y19 H kn Q) kn Q h).mono (mkK_mono (fun e H h => h e rfl rfl rfl rfl rfl rfl rfl) (fun _ _ _ h => h) (fun _ _ h => h) (fun _ _ h => h)))
def m11_12 (x1 x2 x3 x7 : Value) (H : Heap) (kn : Value → Value → Value → Value → Heap → Prop) (Q : Ending → Heap → Prop) : Prop :=
oV (vLen x2) fun t18_107 =>
L11_13 x1 x2 x3 x7 x2 t18_107 (.int .i64 0) H kn Q
theorem c11_12 (env : Env) (H : Heap) (kn : Value → Value → Value → Value → Heap → Prop) (Q : Ending → Heap → Prop) (h : m11_12 (env 1) (env 2) (env 3) (env 7) H kn Q) :
    RCode Try.prog 107 (codeAt [1, 1, 0] (bodyOf Try.f11)) env H (mkK (fun e H => kn (e 1) (e 2) (e 3) (e 7) H) (fun _ _ _ => False) (retK T Try.f11.results.toList Q) (fun c H => Q (.panicked c) H)) :=
  RCode.prefix_ (T := T) (X := ext) (hint := hint11) (hole := (fun e H => L11_13 (e 1) (e 2) (e 3) (e 7) (e 17) (e 18) (e 19) H kn Q)) tok xok mixed 1 (by kernel_rfl) (by kernel_rfl : codeAt _ _ = (codeAt [1, 1, 0, 1] (bodyOf Try.f11))) h
    (fun e H h => (cL11_13 e H kn Q h))
def m11 (x0 x1 x2 : Value) (H : Heap) (Q : Ending → Heap → Prop) : Prop :=
oNew (Value.cells x0).toList (Value.cells x0).toList.length 29 H fun i_108 H_109 =>
oV (vLen x2) fun t15_110 =>
oMake ty27 27 t15_110 t15_110 H_109 fun s_111 H_112 =>
m11_12 x1 x2 (ptrTo i_108) s_111 H_112 (fun y1_113 y2_114 y3_115 y7_116 H_117 => m11_1 y1_113 y2_114 y3_115 y7_116 H_117 Q) Q
theorem c11_0 (env : Env) (H : Heap) (Q : Ending → Heap → Prop) (h : m11 (env 0) (env 1) (env 2) H Q) :
    RCode Try.prog 107 (bodyOf Try.f11) env H (mkK (retK T Try.f11.results.toList Q) (fun _ _ _ => False) (retK T Try.f11.results.toList Q) (fun c H => Q (.panicked c) H)) :=
  RCode.prefix_ (T := T) (X := ext) (hint := hint11) (hole := (fun e H => m11_12 (e 1) (e 2) (e 3) (e 7) H (fun y1_118 y2_119 y3_120 y7_121 H_122 => m11_1 y1_118 y2_119 y3_120 y7_121 H_122 Q) Q)) tok xok mixed 2 (by kernel_rfl) (by kernel_rfl : codeAt _ _ = (codeAt [1, 1] (bodyOf Try.f11))) h
    (fun e H h => RCode.join (by kernel_rfl : (codeAt [1, 1] (bodyOf Try.f11)) = .seq (codeAt [1, 1, 0] (bodyOf Try.f11)) (codeAt [1, 1, 1] (bodyOf Try.f11))) ((c11_12 e H (fun y1_123 y2_124 y3_125 y7_126 H_127 => m11_1 y1_123 y2_124 y3_125 y7_126 H_127 Q) Q h).mono (mkK_mono (fun e H h => c11_1 e H Q h) (fun _ _ _ h => h) (fun _ _ h => h) (fun _ _ h => h))))
theorem call11 (a0 a1 a2 : Value) (H : Heap) (Q : Ending → Heap → Prop) (h : m11 a0 a1 a2 H Q) : RCalls Try.prog 11 [a0, a1, a2] H Q :=
  RCalls.intro (nt := 107) tok Try.func11 (by kernel_rfl) (by kernel_rfl) (by kernel_rfl) (of_decide_eq_true (by kernel_rfl)) (c11_0 (envOf [a0, a1, a2]) H Q h)
/-! ### 21: privity/privityref13.heard -/
def hint21 : Nat → List Nat := lookupL [(3, [0, 1, 2, 3, 4, 5, 6, 7, 8, 9, 10, 11])]
def m21 (x0 x1 : Value) (H : Heap) (Q : Ending → Heap → Prop) : Prop :=
oNew (Value.cells x1).toList (Value.cells x1).toList.length 44 H fun i_1 H_2 =>
oV (vField 6 (ptrTo i_1)) fun t5_3 =>
oV (vLoad ty3 t5_3 H_2) fun t6_4 =>
oV (vInt .lss t6_4 (.int .i64 1)) fun t7_5 =>
condK t7_5 (
Q (.returned (.slice none 0 0)) H_2) (
oV (vField 6 (ptrTo i_1)) fun t9_6 =>
oV (vLoad ty3 t9_6 H_2) fun t10_7 =>
oV (vInt .sub t10_7 (.int .i64 1)) fun t11_8 =>
oV (vIdxS 1 x0 t11_8) fun t12_9 =>
oV (vLoad ty27 t12_9 H_2) fun t13_10 =>
oV (vField 1 (ptrTo i_1)) fun t14_11 =>
oV (vLoad ty3 t14_11 H_2) fun t15_12 =>
oV (vInt .sub t15_12 (.int .i64 1)) fun t16_13 =>
oV (vIdxS 1 t13_10 t16_13) fun t17_14 =>
oV (vLoad ty41 t17_14 H_2) fun t18_15 =>
Q (.returned t18_15) H_2)
theorem c21_0 (env : Env) (H : Heap) (Q : Ending → Heap → Prop) (h : m21 (env 0) (env 1) H Q) :
    RCode Try.prog 19 (bodyOf Try.f21) env H (mkK (retK T Try.f21.results.toList Q) (fun _ _ _ => False) (retK T Try.f21.results.toList Q) (fun c H => Q (.panicked c) H)) :=
  RCode.leaf_ (T := T) (X := ext) (hint := hint21) tok xok mixed (by kernel_rfl) h
theorem call21 (a0 a1 : Value) (H : Heap) (Q : Ending → Heap → Prop) (h : m21 a0 a1 H Q) : RCalls Try.prog 21 [a0, a1] H Q :=
  RCalls.intro (nt := 19) tok Try.func21 (by kernel_rfl) (by kernel_rfl) (by kernel_rfl) (of_decide_eq_true (by kernel_rfl)) (c21_0 (envOf [a0, a1]) H Q h)
/-! ### 12: privity/privityref13.ApplyToMessages -/
def hint12 : Nat → List Nat := lookupL [(15, [0, 1, 2, 3, 4, 5, 6, 7, 8, 9, 10, 11, 12, 13, 14, 15, 16, 17, 18, 19, 20, 21, 22, 23, 24, 25])]
def m12_2 (x7 : Value) (H : Heap) (Q : Ending → Heap → Prop) : Prop :=
Q (.returned x7) H
theorem c12_2 (env : Env) (H : Heap) (Q : Ending → Heap → Prop) (h : m12_2 (env 7) H Q) :
    RCode Try.prog 98 (codeAt [1, 1, 1, 1] (bodyOf Try.f12)) env H (mkK (retK T Try.f12.results.toList Q) (fun _ _ _ => False) (retK T Try.f12.results.toList Q) (fun c H => Q (.panicked c) H)) :=
  RCode.leaf_ (T := T) (X := ext) (hint := hint12) tok xok mixed (by kernel_rfl) h
def L12_4 (x1 x2 x3 x7 x9 : Value) (H : Heap) (kn : Value → Heap → Prop) (Q : Ending → Heap → Prop) : Prop :=
  ∀ env : Env, env 1 = x1 → env 2 = x2 → env 3 = x3 → env 7 = x7 → env 9 = x9 → RLoop Try.prog 98 (codeAt [1, 1, 1, 0, 1, 0, 0] (bodyOf Try.f12)) env H (mkK (fun _ _ => False) (inK 2 (fun e H => kn (e 7) H) (fun _ _ _ => False)) (retK T Try.f12.results.toList Q) (fun c H => Q (.panicked c) H))
theorem cL12_4 (env : Env) (H : Heap) (kn : Value → Heap → Prop) (Q : Ending → Heap → Prop) (h : L12_4 (env 1) (env 2) (env 3) (env 7) (env 9) H kn Q) :
    RCode Try.prog 98 (codeAt [1, 1, 1, 0, 1] (bodyOf Try.f12)) env H (mkK (fun e H => kn (e 7) H) (fun _ _ _ => False) (retK T Try.f12.results.toList Q) (fun c H => Q (.panicked c) H)) :=
  RCode.blk (by kernel_rfl : (codeAt [1, 1, 1, 0, 1] (bodyOf Try.f12)) = .block 2 (codeAt [1, 1, 1, 0, 1, 0] (bodyOf Try.f12))) (RCode.lp (by kernel_rfl : (codeAt [1, 1, 1, 0, 1, 0] (bodyOf Try.f12)) = .loop (codeAt [1, 1, 1, 0, 1, 0, 0] (bodyOf Try.f12))) ((h env rfl rfl rfl rfl rfl).mono (mkK_mono (fun _ _ h => h.elim) (fun _ _ _ h => h) (fun _ _ h => h) (fun _ _ h => h))))
def m12_6 (x1 x2 x3 x7 x9 : Value) (H : Heap) (kn : Value → Value → Value → Value → Value → Heap → Prop) (kx2 : Value → Heap → Prop) (Q : Ending → Heap → Prop) : Prop :=
oV (vInt .add x9 (.int .i64 1)) fun t33_1 =>
kn x1 x2 x3 x7 t33_1 H
theorem c12_6 (env : Env) (H : Heap) (kn : Value → Value → Value → Value → Value → Heap → Prop) (kx2 : Value → Heap → Prop) (Q : Ending → Heap → Prop) (h : m12_6 (env 1) (env 2) (env 3) (env 7) (env 9) H kn kx2 Q) :
    RCode Try.prog 98 (codeAt [1, 1, 1, 0, 1, 0, 0, 1, 1] (bodyOf Try.f12)) env H (mkK (fun e H => kn (e 1) (e 2) (e 3) (e 7) (e 9) H) (inK 2 (fun e H => kx2 (e 7) H) (fun _ _ _ => False)) (retK T Try.f12.results.toList Q) (fun c H => Q (.panicked c) H)) :=
  RCode.leaf_ (T := T) (X := ext) (hint := hint12) tok xok mixed (by kernel_rfl) h
def L12_9 (x1 x2 x3 x7 x9 x10 x11 : Value) (H : Heap) (kn : Value → Value → Value → Value → Value → Heap → Prop) (kx3 : Value → Value → Value → Value → Value → Heap → Prop) (kx2 : Value → Heap → Prop) (Q : Ending → Heap → Prop) : Prop :=
  ∀ env : Env, env 1 = x1 → env 2 = x2 → env 3 = x3 → env 7 = x7 → env 9 = x9 → env 10 = x10 → env 11 = x11 → RLoop Try.prog 98 (codeAt [1, 1, 1, 0, 1, 0, 0, 1, 0, 0, 1, 1, 1, 0, 0] (bodyOf Try.f12)) env H (mkK (fun _ _ => False) (inK 4 (fun e H => kn (e 1) (e 2) (e 3) (e 7) (e 9) H) (inK 3 (fun e H => kx3 (e 1) (e 2) (e 3) (e 7) (e 9) H) (inK 2 (fun e H => kx2 (e 7) H) (fun _ _ _ => False)))) (retK T Try.f12.results.toList Q) (fun c H => Q (.panicked c) H))
theorem cL12_9 (env : Env) (H : Heap) (kn : Value → Value → Value → Value → Value → Heap → Prop) (kx3 : Value → Value → Value → Value → Value → Heap → Prop) (kx2 : Value → Heap → Prop) (Q : Ending → Heap → Prop) (h : L12_9 (env 1) (env 2) (env 3) (env 7) (env 9) (env 10) (env 11) H kn kx3 kx2 Q) :
    RCode Try.prog 98 (codeAt [1, 1, 1, 0, 1, 0, 0, 1, 0, 0, 1, 1, 1] (bodyOf Try.f12)) env H (mkK (fun e H => kn (e 1) (e 2) (e 3) (e 7) (e 9) H) (inK 3 (fun e H => kx3 (e 1) (e 2) (e 3) (e 7) (e 9) H) (inK 2 (fun e H => kx2 (e 7) H) (fun _ _ _ => False))) (retK T Try.f12.results.toList Q) (fun c H => Q (.panicked c) H)) :=
  RCode.blk (by kernel_rfl : (codeAt [1, 1, 1, 0, 1, 0, 0, 1, 0, 0, 1, 1, 1] (bodyOf Try.f12)) = .block 4 (codeAt [1, 1, 1, 0, 1, 0, 0, 1, 0, 0, 1, 1, 1, 0] (bodyOf Try.f12))) (RCode.lp (by kernel_rfl : (codeAt [1, 1, 1, 0, 1, 0, 0, 1, 0, 0, 1, 1, 1, 0] (bodyOf Try.f12)) = .loop (codeAt [1, 1, 1, 0, 1, 0, 0, 1, 0, 0, 1, 1, 1, 0, 0] (bodyOf Try.f12))) ((h env rfl rfl rfl rfl rfl rfl rfl).mono (mkK_mono (fun _ _ h => h.elim) (fun _ _ _ h => h) (fun _ _ h => h) (fun _ _ h => h))))
def m12_10 (x1 x2 x3 x7 x9 x10 x11 : Value) (H : Heap) (kn : Value → Value → Value → Value → Value → Value → Value → Heap → Prop) (kx4 : Value → Value → Value → Value → Value → Heap → Prop) (kx3 : Value → Value → Value → Value → Value → Heap → Prop) (kx2 : Value → Heap → Prop) (Q : Ending → Heap → Prop) : Prop :=
oV (vField 0 x3) fun t51_2 =>
oV (vField 1 t51_2) fun t52_3 =>
oV (vLoad ty3 t52_3 H) fun t53_4 =>
oV (vInt .leq x11 t53_4) fun t54_5 =>
condK t54_5 (
oV (vField 1 x10) fun t58_6 =>
oV (vLoad ty3 t58_6 H) fun t59_7 =>
oV (vInt .neq x11 t59_7) fun t60_8 =>
oV (gV t60_8 true (vField 2 x10) (some undef)) fun t62_9 =>
oV (gV t60_8 true (vLoad ty3 t62_9 H) (some undef)) fun t63_10 =>
oV (gV t60_8 true (vInt .eql t63_10 (.int .i64 0)) (some undef)) fun t64_11 =>
oV (gV t60_8 true (some t64_11) (some undef)) fun t65_12 =>
oV (gV t65_12 false (vField 2 x10) (some undef)) fun t66_13 =>
oV (gV t65_12 false (vLoad ty3 t66_13 H) (some undef)) fun t67_14 =>
oV (gV t65_12 false (some x11) (some undef)) fun t68_15 =>
oV (gV t65_12 false (vInt .eql t67_14 t68_15) (some undef)) fun t69_16 =>
oV (gV t60_8 true (vPick t65_12 (.bool true) t69_16) (some undef)) fun t70_17 =>
oV (vPick t60_8 t70_17 (.bool false)) fun t71_18 =>
condK t71_18 (
oV (vField 1 x10) fun t73_19 =>
oV (vLoad ty3 t73_19 H) fun t74_20 =>
oV (vInt .sub t74_20 (.int .i64 1)) fun t75_21 =>
oV (vIdxS 1 x7 t75_21) fun t76_22 =>
oV (vLoad ty27 t76_22 H) fun t77_23 =>
oV (vInt .sub x11 (.int .i64 1)) fun t79_24 =>
oV (vLoad ty29 x3 H) fun t80_25 =>
oV (vLoad ty44 x10 H) fun t81_26 =>
oV (vField 1 x10) fun t83_27 =>
oV (vLoad ty3 t83_27 H) fun t84_28 =>
oV (vInt .sub t84_28 (.int .i64 1)) fun t85_29 =>
oV (vIdxS 1 x7 t85_29) fun t86_30 =>
oV (vLoad ty27 t86_30 H) fun t87_31 =>
oV (vInt .sub x11 (.int .i64 1)) fun t89_32 =>
oV (vIdxS 1 t87_31 t89_32) fun t90_33 =>
oV (vLoad ty41 t90_33 H) fun t91_34 =>
oV (vLoad ty44 x10 H) fun t93_35 =>
oRC Try.prog 21 [x2, t93_35] H noP fun v_36 H_37 =>
(vLoad ty41 t90_33 H_37 = some t91_34 ∧
(vLoad ty27 t86_30 H_37 = some t87_31 ∧
(vLoad ty3 t83_27 H_37 = some t84_28 ∧
(vLoad ty44 x10 H_37 = some t81_26 ∧
(vLoad ty29 x3 H_37 = some t80_25 ∧
(vLoad ty27 t76_22 H_37 = some t77_23 ∧
(vLoad ty3 t73_19 H_37 = some t74_20 ∧
oRC Try.prog 20 [t80_25, t81_26, t91_34, v_36] H_37 noP fun v_38 H_39 =>
(vLoad ty27 t76_22 H_39 = some t77_23 ∧
(vLoad ty3 t73_19 H_39 = some t74_20 ∧
oV (vIdxS 1 t77_23 t79_24) fun t96_40 =>
oHeap (vStore ty41 t96_40 v_38 H_39) fun H_41 =>
oV (vInt .add x11 (.int .i64 1)) fun t56_42 =>
kn x1 x2 x3 x7 x9 x10 t56_42 H_41)))))))))) (
oV (vInt .add x11 (.int .i64 1)) fun t56_43 =>
kn x1 x2 x3 x7 x9 x10 t56_43 H)) (
kx4 x1 x2 x3 x7 x9 H)
theorem c12_10 (env : Env) (H : Heap) (kn : Value → Value → Value → Value → Value → Value → Value → Heap → Prop) (kx4 : Value → Value → Value → Value → Value → Heap → Prop) (kx3 : Value → Value → Value → Value → Value → Heap → Prop) (kx2 : Value → Heap → Prop) (Q : Ending → Heap → Prop) (h : m12_10 (env 1) (env 2) (env 3) (env 7) (env 9) (env 10) (env 11) H kn kx4 kx3 kx2 Q) :
    RCode Try.prog 98 (codeAt [1, 1, 1, 0, 1, 0, 0, 1, 0, 0, 1, 1, 1, 0, 0] (bodyOf Try.f12)) env H (mkK (fun e H => kn (e 1) (e 2) (e 3) (e 7) (e 9) (e 10) (e 11) H) (inK 4 (fun e H => kx4 (e 1) (e 2) (e 3) (e 7) (e 9) H) (inK 3 (fun e H => kx3 (e 1) (e 2) (e 3) (e 7) (e 9) H) (inK 2 (fun e H => kx2 (e 7) H) (fun _ _ _ => False)))) (retK T Try.f12.results.toList Q) (fun c H => Q (.panicked c) H)) :=
  RCode.leaf_ (T := T) (X := ext) (hint := hint12) tok xok mixed (by kernel_rfl) h
theorem L12_9_round (x1 x2 x3 x7 x9 x10 x11 : Value) (H : Heap) (kn : Value → Value → Value → Value → Value → Heap → Prop) (kx3 : Value → Value → Value → Value → Value → Heap → Prop) (kx2 : Value → Heap → Prop) (Q : Ending → Heap → Prop) (h : m12_10 x1 x2 x3 x7 x9 x10 x11 H (fun y1 y2 y3 y7 y9 y10 y11 H => L12_9 y1 y2 y3 y7 y9 y10 y11 H kn kx3 kx2 Q) kn kx3 kx2 Q) : L12_9 x1 x2 x3 x7 x9 x10 x11 H kn kx3 kx2 Q := by
  intro env h1 h2 h3 h7 h9 h10 h11
  subst h1; subst h2; subst h3; subst h7; subst h9; subst h10; subst h11
  exact RLoop.round ((c12_10 env H (fun y1 y2 y3 y7 y9 y10 y11 H => L12_9 y1 y2 y3 y7 y9 y10 y11 H kn kx3 kx2 Q) kn kx3 kx2 Q h).mono (mkK_mono (fun e H h => h e rfl rfl rfl rfl rfl rfl rfl) (fun _ _ _ h => h) (fun _ _ h => h) (fun _ _ h => h)))
def m12_8 (x1 x2 x3 x7 x9 : Value) (H : Heap) (kn : Value → Value → Value → Value → Value → Heap → Prop) (kx3 : Value → Value → Value → Value → Value → Heap → Prop) (kx2 : Value → Heap → Prop) (Q : Ending → Heap → Prop) : Prop :=
oV (vField 4 x3) fun t34_44 =>
oV (vLoad ty26 t34_44 H) fun t35_45 =>
oV (vIdxS 8 t35_45 x9) fun t37_46 =>
oV (vLoad ty44 t37_46 H) fun t38_47 =>
oNew (Value.cells ty44.zero).toList (Value.cells ty44.zero).toList.length 44 H fun i_48 H_49 =>
oHeap (vStore ty44 (ptrTo i_48) t38_47 H_49) fun H_50 =>
oV (vField 0 (ptrTo i_48)) fun t39_51 =>
oV (vLoad ty3 t39_51 H_50) fun t40_52 =>
oV (vInt .neq t40_52 x1) fun t42_53 =>
oV (gV t42_53 false (vLoad ty29 x3 H_50) (some undef)) fun t44_54 =>
oV (gV t42_53 false (vField 1 (ptrTo i_48)) (some undef)) fun t45_55 =>
oV (gV t42_53 false (vLoad ty3 t45_55 H_50) (some undef)) fun t46_56 =>
letK (fun t47_58 H_59 =>
oV (gV t42_53 false (vUn .not t47_58) (some undef)) fun t48_60 =>
oV (vPick t42_53 (.bool true) t48_60) fun t49_61 =>
condK t49_61 (
kx3 x1 x2 x3 x7 x9 H_59) (
L12_9 x1 x2 x3 x7 x9 (ptrTo i_48) (.int .i64 1) H_59 kn kx3 kx2 Q)) fun k_57 => gK t42_53 false (oRC Try.prog 19 [t44_54, t46_56] H_50 (fun c H => Q (.panicked c) H) fun v_62 H_63 =>
k_57 v_62 H_63) (k_57 undef H_50)
theorem c12_8 (env : Env) (H : Heap) (kn : Value → Value → Value → Value → Value → Heap → Prop) (kx3 : Value → Value → Value → Value → Value → Heap → Prop) (kx2 : Value → Heap → Prop) (Q : Ending → Heap → Prop) (h : m12_8 (env 1) (env 2) (env 3) (env 7) (env 9) H kn kx3 kx2 Q) :
    RCode Try.prog 98 (codeAt [1, 1, 1, 0, 1, 0, 0, 1, 0, 0] (bodyOf Try.f12)) env H (mkK (fun e H => kn (e 1) (e 2) (e 3) (e 7) (e 9) H) (inK 3 (fun e H => kx3 (e 1) (e 2) (e 3) (e 7) (e 9) H) (inK 2 (fun e H => kx2 (e 7) H) (fun _ _ _ => False))) (retK T Try.f12.results.toList Q) (fun c H => Q (.panicked c) H)) :=
  RCode.prefix_ (T := T) (X := ext) (hint := hint12) (hole := (fun e H => L12_9 (e 1) (e 2) (e 3) (e 7) (e 9) (e 10) (e 11) H kn kx3 kx2 Q)) tok xok mixed 3 (by kernel_rfl) (by kernel_rfl : codeAt _ _ = (codeAt [1, 1, 1, 0, 1, 0, 0, 1, 0, 0, 1, 1, 1] (bodyOf Try.f12))) h
    (fun e H h => (cL12_9 e H kn kx3 kx2 Q h))
def m12_7 (x1 x2 x3 x7 x9 : Value) (H : Heap) (kn : Value → Value → Value → Value → Value → Heap → Prop) (kx2 : Value → Heap → Prop) (Q : Ending → Heap → Prop) : Prop :=
m12_8 x1 x2 x3 x7 x9 H kn kn kx2 Q
theorem c12_7 (env : Env) (H : Heap) (kn : Value → Value → Value → Value → Value → Heap → Prop) (kx2 : Value → Heap → Prop) (Q : Ending → Heap → Prop) (h : m12_7 (env 1) (env 2) (env 3) (env 7) (env 9) H kn kx2 Q) :
    RCode Try.prog 98 (codeAt [1, 1, 1, 0, 1, 0, 0, 1, 0] (bodyOf Try.f12)) env H (mkK (fun e H => kn (e 1) (e 2) (e 3) (e 7) (e 9) H) (inK 2 (fun e H => kx2 (e 7) H) (fun _ _ _ => False)) (retK T Try.f12.results.toList Q) (fun c H => Q (.panicked c) H)) :=
  RCode.blk (by kernel_rfl : (codeAt [1, 1, 1, 0, 1, 0, 0, 1, 0] (bodyOf Try.f12)) = .block 3 (codeAt [1, 1, 1, 0, 1, 0, 0, 1, 0, 0] (bodyOf Try.f12))) (c12_8 env H kn kn kx2 Q h)
def m12_5 (x1 x2 x3 x7 x9 : Value) (H : Heap) (kn : Value → Value → Value → Value → Value → Heap → Prop) (kx2 : Value → Heap → Prop) (Q : Ending → Heap → Prop) : Prop :=
oV (vField 4 x3) fun t28_64 =>
oV (vLoad ty26 t28_64 H) fun t29_65 =>
oV (vLen t29_65) fun t30_66 =>
oV (vInt .lss x9 t30_66) fun t31_67 =>
condK t31_67 (
m12_7 x1 x2 x3 x7 x9 H (fun y1_68 y2_69 y3_70 y7_71 y9_72 H_73 => m12_6 y1_68 y2_69 y3_70 y7_71 y9_72 H_73 kn kx2 Q) kx2 Q) (
kx2 x7 H)
theorem c12_5 (env : Env) (H : Heap) (kn : Value → Value → Value → Value → Value → Heap → Prop) (kx2 : Value → Heap → Prop) (Q : Ending → Heap → Prop) (h : m12_5 (env 1) (env 2) (env 3) (env 7) (env 9) H kn kx2 Q) :
    RCode Try.prog 98 (codeAt [1, 1, 1, 0, 1, 0, 0] (bodyOf Try.f12)) env H (mkK (fun e H => kn (e 1) (e 2) (e 3) (e 7) (e 9) H) (inK 2 (fun e H => kx2 (e 7) H) (fun _ _ _ => False)) (retK T Try.f12.results.toList Q) (fun c H => Q (.panicked c) H)) :=
  RCode.prefix_ (T := T) (X := ext) (hint := hint12) (hole := (fun e H => m12_7 (e 1) (e 2) (e 3) (e 7) (e 9) H (fun y1_74 y2_75 y3_76 y7_77 y9_78 H_79 => m12_6 y1_74 y2_75 y3_76 y7_77 y9_78 H_79 kn kx2 Q) kx2 Q)) tok xok mixed 1 (by kernel_rfl) (by kernel_rfl : codeAt _ _ = (codeAt [1, 1, 1, 0, 1, 0, 0, 1] (bodyOf Try.f12))) h
    (fun e H h => RCode.join (by kernel_rfl : (codeAt [1, 1, 1, 0, 1, 0, 0, 1] (bodyOf Try.f12)) = .seq (codeAt [1, 1, 1, 0, 1, 0, 0, 1, 0] (bodyOf Try.f12)) (codeAt [1, 1, 1, 0, 1, 0, 0, 1, 1] (bodyOf Try.f12))) ((c12_7 e H (fun y1_80 y2_81 y3_82 y7_83 y9_84 H_85 => m12_6 y1_80 y2_81 y3_82 y7_83 y9_84 H_85 kn kx2 Q) kx2 Q h).mono (mkK_mono (fun e H h => c12_6 e H kn kx2 Q h) (fun _ _ _ h => h) (fun _ _ h => h) (fun _ _ h => h))))
theorem L12_4_round (x1 x2 x3 x7 x9 : Value) (H : Heap) (kn : Value → Heap → Prop) (Q : Ending → Heap → Prop) (h : m12_5 x1 x2 x3 x7 x9 H (fun y1 y2 y3 y7 y9 H => L12_4 y1 y2 y3 y7 y9 H kn Q) kn Q) : L12_4 x1 x2 x3 x7 x9 H kn Q := by
  intro env h1 h2 h3 h7 h9
  subst h1; subst h2; subst h3; subst h7; subst h9
  exact RLoop.round ((c12_5 env H (fun y1 y2 y3 y7 y9 H => L12_4 y1 y2 y3 y7 y9 H kn Q) kn Q h).mono (mkK_mono (fun e H h => h e rfl rfl rfl rfl rfl) (fun _ _ _ h => h) (fun _ _ h => h) (fun _ _ h => h)))
def m12_3 (x1 x2 x3 x7 : Value) (H : Heap) (kn : Value → Heap → Prop) (Q : Ending → Heap → Prop) : Prop :=
L12_4 x1 x2 x3 x7 (.int .i64 0) H kn Q
theorem c12_3 (env : Env) (H : Heap) (kn : Value → Heap → Prop) (Q : Ending → Heap → Prop) (h : m12_3 (env 1) (env 2) (env 3) (env 7) H kn Q) :
    RCode Try.prog 98 (codeAt [1, 1, 1, 0] (bodyOf Try.f12)) env H (mkK (fun e H => kn (e 7) H) (fun _ _ _ => False) (retK T Try.f12.results.toList Q) (fun c H => Q (.panicked c) H)) :=
  RCode.prefix_ (T := T) (X := ext) (hint := hint12) (hole := (fun e H => L12_4 (e 1) (e 2) (e 3) (e 7) (e 9) H kn Q)) tok xok mixed 1 (by kernel_rfl) (by kernel_rfl : codeAt _ _ = (codeAt [1, 1, 1, 0, 1] (bodyOf Try.f12))) h
    (fun e H h => (cL12_4 e H kn Q h))
def m12_1 (x1 x2 x3 x7 : Value) (H : Heap) (Q : Ending → Heap → Prop) : Prop :=
m12_3 x1 x2 x3 x7 H (fun y7_86 H_87 => m12_2 y7_86 H_87 Q) Q
theorem c12_1 (env : Env) (H : Heap) (Q : Ending → Heap → Prop) (h : m12_1 (env 1) (env 2) (env 3) (env 7) H Q) :
    RCode Try.prog 98 (codeAt [1, 1, 1] (bodyOf Try.f12)) env H (mkK (retK T Try.f12.results.toList Q) (fun _ _ _ => False) (retK T Try.f12.results.toList Q) (fun c H => Q (.panicked c) H)) :=
  RCode.join (by kernel_rfl : (codeAt [1, 1, 1] (bodyOf Try.f12)) = .seq (codeAt [1, 1, 1, 0] (bodyOf Try.f12)) (codeAt [1, 1, 1, 1] (bodyOf Try.f12))) ((c12_3 env H (fun y7_88 H_89 => m12_2 y7_88 H_89 Q) Q h).mono (mkK_mono (fun e H h => c12_2 e H Q h) (fun _ _ _ h => h) (fun _ _ h => h) (fun _ _ h => h)))
def L12_12 (x1 x2 x3 x7 x8 : Value) (H : Heap) (kn : Value → Value → Value → Value → Heap → Prop) (Q : Ending → Heap → Prop) : Prop :=
  ∀ env : Env, env 1 = x1 → env 2 = x2 → env 3 = x3 → env 7 = x7 → env 8 = x8 → RLoop Try.prog 98 (codeAt [1, 1, 0, 1, 0, 0] (bodyOf Try.f12)) env H (mkK (fun _ _ => False) (inK 0 (fun e H => kn (e 1) (e 2) (e 3) (e 7) H) (fun _ _ _ => False)) (retK T Try.f12.results.toList Q) (fun c H => Q (.panicked c) H))
theorem cL12_12 (env : Env) (H : Heap) (kn : Value → Value → Value → Value → Heap → Prop) (Q : Ending → Heap → Prop) (h : L12_12 (env 1) (env 2) (env 3) (env 7) (env 8) H kn Q) :
    RCode Try.prog 98 (codeAt [1, 1, 0, 1] (bodyOf Try.f12)) env H (mkK (fun e H => kn (e 1) (e 2) (e 3) (e 7) H) (fun _ _ _ => False) (retK T Try.f12.results.toList Q) (fun c H => Q (.panicked c) H)) :=
  RCode.blk (by kernel_rfl : (codeAt [1, 1, 0, 1] (bodyOf Try.f12)) = .block 0 (codeAt [1, 1, 0, 1, 0] (bodyOf Try.f12))) (RCode.lp (by kernel_rfl : (codeAt [1, 1, 0, 1, 0] (bodyOf Try.f12)) = .loop (codeAt [1, 1, 0, 1, 0, 0] (bodyOf Try.f12))) ((h env rfl rfl rfl rfl rfl).mono (mkK_mono (fun _ _ h => h.elim) (fun _ _ _ h => h) (fun _ _ h => h) (fun _ _ h => h))))
def m12_13 (x1 x2 x3 x7 x8 : Value) (H : Heap) (kn : Value → Value → Value → Value → Value → Heap → Prop) (kx0 : Value → Value → Value → Value → Heap → Prop) (Q : Ending → Heap → Prop) : Prop :=
oV (vLen x2) fun t14_90 =>
oV (vInt .lss x8 t14_90) fun t15_91 =>
condK t15_91 (
oBuildS ty41 41 0 [] H fun s_92 H_93 =>
oV (vIdxS 1 x2 x8) fun t22_94 =>
oV (vLoad ty27 t22_94 H_93) fun t23_95 =>
oAppend ty41 41 s_92 t23_95 H_93 fun v_96 H_97 =>
oBuildS ty27 27 1 [((0, 1), v_96)] H_97 fun s_98 H_99 =>
oAppend ty27 27 x7 s_98 H_99 fun v_100 H_101 =>
oV (vInt .add x8 (.int .i64 1)) fun t17_102 =>
kn x1 x2 x3 v_100 t17_102 H_101) (
kx0 x1 x2 x3 x7 H)
theorem c12_13 (env : Env) (H : Heap) (kn : Value → Value → Value → Value → Value → Heap → Prop) (kx0 : Value → Value → Value → Value → Heap → Prop) (Q : Ending → Heap → Prop) (h : m12_13 (env 1) (env 2) (env 3) (env 7) (env 8) H kn kx0 Q) :
    RCode Try.prog 98 (codeAt [1, 1, 0, 1, 0, 0] (bodyOf Try.f12)) env H (mkK (fun e H => kn (e 1) (e 2) (e 3) (e 7) (e 8) H) (inK 0 (fun e H => kx0 (e 1) (e 2) (e 3) (e 7) H) (fun _ _ _ => False)) (retK T Try.f12.results.toList Q) (fun c H => Q (.panicked c) H)) :=
  RCode.leaf_ (T := T) (X := ext) (hint := hint12) tok xok mixed (by kernel_rfl) h
theorem L12_12_round (x1 x2 x3 x7 x8 : Value) (H : Heap) (kn : Value → Value → Value → Value → Heap → Prop) (Q : Ending → Heap → Prop) (h : m12_13 x1 x2 x3 x7 x8 H (fun y1 y2 y3 y7 y8 H => L12_12 y1 y2 y3 y7 y8 H kn Q) kn Q) : L12_12 x1 x2 x3 x7 x8 H kn Q := by
  intro env h1 h2 h3 h7 h8
  subst h1; subst h2; subst h3; subst h7; subst h8
  exact RLoop.round ((c12_13 env H (fun y1 y2 y3 y7 y8 H => L12_12 y1 y2 y3 y7 y8 H kn Q) kn Q h).mono (mkK_mono (fun e H h => h e rfl rfl rfl rfl rfl) (fun _ _ _ h => h) (fun _ _ h => h) (fun _ _ h => h)))
def m12_11 (x1 x2 x3 x7 : Value) (H : Heap) (kn : Value → Value → Value → Value → Heap → Prop) (Q : Ending → Heap → Prop) : Prop :=
L12_12 x1 x2 x3 x7 (.int .i64 0) H kn Q
theorem c12_11 (env : Env) (H : Heap) (kn : Value → Value → Value → Value → Heap → Prop) (Q : Ending → Heap → Prop) (h : m12_11 (env 1) (env 2) (env 3) (env 7) H kn Q) :
    RCode Try.prog 98 (codeAt [1, 1, 0] (bodyOf Try.f12)) env H (mkK (fun e H => kn (e 1) (e 2) (e 3) (e 7) H) (fun _ _ _ => False) (retK T Try.f12.results.toList Q) (fun c H => Q (.panicked c) H)) :=
  RCode.prefix_ (T := T) (X := ext) (hint := hint12) (hole := (fun e H => L12_12 (e 1) (e 2) (e 3) (e 7) (e 8) H kn Q)) tok xok mixed 1 (by kernel_rfl) (by kernel_rfl : codeAt _ _ = (codeAt [1, 1, 0, 1] (bodyOf Try.f12))) h
    (fun e H h => (cL12_12 e H kn Q h))
def m12 (x0 x1 x2 : Value) (H : Heap) (Q : Ending → Heap → Prop) : Prop :=
oNew (Value.cells x0).toList (Value.cells x0).toList.length 29 H fun i_103 H_104 =>
m12_11 x1 x2 (ptrTo i_103) (.slice none 0 0) H_104 (fun y1_105 y2_106 y3_107 y7_108 H_109 => m12_1 y1_105 y2_106 y3_107 y7_108 H_109 Q) Q
theorem c12_0 (env : Env) (H : Heap) (Q : Ending → Heap → Prop) (h : m12 (env 0) (env 1) (env 2) H Q) :
    RCode Try.prog 98 (bodyOf Try.f12) env H (mkK (retK T Try.f12.results.toList Q) (fun _ _ _ => False) (retK T Try.f12.results.toList Q) (fun c H => Q (.panicked c) H)) :=
  RCode.prefix_ (T := T) (X := ext) (hint := hint12) (hole := (fun e H => m12_11 (e 1) (e 2) (e 3) (e 7) H (fun y1_110 y2_111 y3_112 y7_113 H_114 => m12_1 y1_110 y2_111 y3_112 y7_113 H_114 Q) Q)) tok xok mixed 2 (by kernel_rfl) (by kernel_rfl : codeAt _ _ = (codeAt [1, 1] (bodyOf Try.f12))) h
    (fun e H h => RCode.join (by kernel_rfl : (codeAt [1, 1] (bodyOf Try.f12)) = .seq (codeAt [1, 1, 0] (bodyOf Try.f12)) (codeAt [1, 1, 1] (bodyOf Try.f12))) ((c12_11 e H (fun y1_115 y2_116 y3_117 y7_118 H_119 => m12_1 y1_115 y2_116 y3_117 y7_118 H_119 Q) Q h).mono (mkK_mono (fun e H h => c12_1 e H Q h) (fun _ _ _ h => h) (fun _ _ h => h) (fun _ _ h => h))))
theorem call12 (a0 a1 a2 : Value) (H : Heap) (Q : Ending → Heap → Prop) (h : m12 a0 a1 a2 H Q) : RCalls Try.prog 12 [a0, a1, a2] H Q :=
  RCalls.intro (nt := 98) tok Try.func12 (by kernel_rfl) (by kernel_rfl) (by kernel_rfl) (of_decide_eq_true (by kernel_rfl)) (c12_0 (envOf [a0, a1, a2]) H Q h)
/-! ### 10: privity/privityref13.SameAll -/
def hint10 : Nat → List Nat := lookupL [(6, [0, 1, 2, 3, 4, 5, 6, 7, 8, 9])]
def m10_1 (H : Heap) (Q : Ending → Heap → Prop) : Prop :=
Q (.returned (.bool true)) H
theorem c10_1 (env : Env) (H : Heap) (Q : Ending → Heap → Prop) (h : m10_1 H Q) :
    RCode Try.prog 27 (codeAt [1, 1, 1] (bodyOf Try.f10)) env H (mkK (retK T Try.f10.results.toList Q) (fun _ _ _ => False) (retK T Try.f10.results.toList Q) (fun c H => Q (.panicked c) H)) :=
  RCode.leaf_ (T := T) (X := ext) (hint := hint10) tok xok mixed (by kernel_rfl) h
def L10_3 (x0 x1 x5 : Value) (H : Heap) (kn : Heap → Prop) (Q : Ending → Heap → Prop) : Prop :=
  ∀ env : Env, env 0 = x0 → env 1 = x1 → env 5 = x5 → RLoop Try.prog 27 (codeAt [1, 1, 0, 1, 0, 0] (bodyOf Try.f10)) env H (mkK (fun _ _ => False) (inK 0 (fun e H => kn H) (fun _ _ _ => False)) (retK T Try.f10.results.toList Q) (fun c H => Q (.panicked c) H))
theorem cL10_3 (env : Env) (H : Heap) (kn : Heap → Prop) (Q : Ending → Heap → Prop) (h : L10_3 (env 0) (env 1) (env 5) H kn Q) :
    RCode Try.prog 27 (codeAt [1, 1, 0, 1] (bodyOf Try.f10)) env H (mkK (fun e H => kn H) (fun _ _ _ => False) (retK T Try.f10.results.toList Q) (fun c H => Q (.panicked c) H)) :=
  RCode.blk (by kernel_rfl : (codeAt [1, 1, 0, 1] (bodyOf Try.f10)) = .block 0 (codeAt [1, 1, 0, 1, 0] (bodyOf Try.f10))) (RCode.lp (by kernel_rfl : (codeAt [1, 1, 0, 1, 0] (bodyOf Try.f10)) = .loop (codeAt [1, 1, 0, 1, 0, 0] (bodyOf Try.f10))) ((h env rfl rfl rfl).mono (mkK_mono (fun _ _ h => h.elim) (fun _ _ _ h => h) (fun _ _ h => h) (fun _ _ h => h))))
def m10_4 (x0 x1 x5 : Value) (H : Heap) (kn : Value → Value → Value → Heap → Prop) (kx0 : Heap → Prop) (Q : Ending → Heap → Prop) : Prop :=
oV (vLen x0) fun t13_1 =>
oV (vInt .lss x5 t13_1) fun t14_2 =>
condK t14_2 (
oV (vIdxS 1 x0 x5) fun t19_3 =>
oV (vLoad ty27 t19_3 H) fun t20_4 =>
oV (vIdxS 1 x1 x5) fun t23_5 =>
oV (vLoad ty27 t23_5 H) fun t24_6 =>
oRC Try.prog 7 [t20_4, t24_6] H noP fun v_7 H_8 =>
oV (vUn .not v_7) fun t26_9 =>
condK t26_9 (
Q (.returned (.bool false)) H_8) (
oV (vInt .add x5 (.int .i64 1)) fun t16_10 =>
kn x0 x1 t16_10 H_8)) (
kx0 H)
theorem c10_4 (env : Env) (H : Heap) (kn : Value → Value → Value → Heap → Prop) (kx0 : Heap → Prop) (Q : Ending → Heap → Prop) (h : m10_4 (env 0) (env 1) (env 5) H kn kx0 Q) :
    RCode Try.prog 27 (codeAt [1, 1, 0, 1, 0, 0] (bodyOf Try.f10)) env H (mkK (fun e H => kn (e 0) (e 1) (e 5) H) (inK 0 (fun e H => kx0 H) (fun _ _ _ => False)) (retK T Try.f10.results.toList Q) (fun c H => Q (.panicked c) H)) :=
  RCode.leaf_ (T := T) (X := ext) (hint := hint10) tok xok mixed (by kernel_rfl) h
theorem L10_3_round (x0 x1 x5 : Value) (H : Heap) (kn : Heap → Prop) (Q : Ending → Heap → Prop) (h : m10_4 x0 x1 x5 H (fun y0 y1 y5 H => L10_3 y0 y1 y5 H kn Q) kn Q) : L10_3 x0 x1 x5 H kn Q := by
  intro env h0 h1 h5
  subst h0; subst h1; subst h5
  exact RLoop.round ((c10_4 env H (fun y0 y1 y5 H => L10_3 y0 y1 y5 H kn Q) kn Q h).mono (mkK_mono (fun e H h => h e rfl rfl rfl) (fun _ _ _ h => h) (fun _ _ h => h) (fun _ _ h => h)))
def m10_2 (x0 x1 : Value) (H : Heap) (kn : Heap → Prop) (Q : Ending → Heap → Prop) : Prop :=
L10_3 x0 x1 (.int .i64 0) H kn Q
theorem c10_2 (env : Env) (H : Heap) (kn : Heap → Prop) (Q : Ending → Heap → Prop) (h : m10_2 (env 0) (env 1) H kn Q) :
    RCode Try.prog 27 (codeAt [1, 1, 0] (bodyOf Try.f10)) env H (mkK (fun e H => kn H) (fun _ _ _ => False) (retK T Try.f10.results.toList Q) (fun c H => Q (.panicked c) H)) :=
  RCode.prefix_ (T := T) (X := ext) (hint := hint10) (hole := (fun e H => L10_3 (e 0) (e 1) (e 5) H kn Q)) tok xok mixed 1 (by kernel_rfl) (by kernel_rfl : codeAt _ _ = (codeAt [1, 1, 0, 1] (bodyOf Try.f10))) h
    (fun e H h => (cL10_3 e H kn Q h))
def m10 (x0 x1 : Value) (H : Heap) (Q : Ending → Heap → Prop) : Prop :=
oV (vLen x0) fun t7_11 =>
oV (vLen x1) fun t9_12 =>
oV (vInt .neq t7_11 t9_12) fun t10_13 =>
condK t10_13 (
Q (.returned (.bool false)) H) (
m10_2 x0 x1 H (fun H_14 => m10_1 H_14 Q) Q)
theorem c10_0 (env : Env) (H : Heap) (Q : Ending → Heap → Prop) (h : m10 (env 0) (env 1) H Q) :
    RCode Try.prog 27 (bodyOf Try.f10) env H (mkK (retK T Try.f10.results.toList Q) (fun _ _ _ => False) (retK T Try.f10.results.toList Q) (fun c H => Q (.panicked c) H)) :=
  RCode.prefix_ (T := T) (X := ext) (hint := hint10) (hole := (fun e H => m10_2 (e 0) (e 1) H (fun H_15 => m10_1 H_15 Q) Q)) tok xok mixed 2 (by kernel_rfl) (by kernel_rfl : codeAt _ _ = (codeAt [1, 1] (bodyOf Try.f10))) h
    (fun e H h => RCode.join (by kernel_rfl : (codeAt [1, 1] (bodyOf Try.f10)) = .seq (codeAt [1, 1, 0] (bodyOf Try.f10)) (codeAt [1, 1, 1] (bodyOf Try.f10))) ((c10_2 e H (fun H_16 => m10_1 H_16 Q) Q h).mono (mkK_mono (fun e H h => c10_1 e H Q h) (fun _ _ _ h => h) (fun _ _ h => h) (fun _ _ h => h))))
theorem call10 (a0 a1 : Value) (H : Heap) (Q : Ending → Heap → Prop) (h : m10 a0 a1 H Q) : RCalls Try.prog 10 [a0, a1] H Q :=
  RCalls.intro (nt := 27) tok Try.func10 (by kernel_rfl) (by kernel_rfl) (by kernel_rfl) (of_decide_eq_true (by kernel_rfl)) (c10_0 (envOf [a0, a1]) H Q h)
/-! ### 4: privity/privitylaw13.AdversaryMessages -/
def hint4 : Nat → List Nat := lookupL [(3, [0, 1, 2, 3, 4, 5, 6, 7, 9, 10, 11, 12, 13, 14, 8, 15, 16, 17, 18])]
def m4 (x0 : Value) (H : Heap) (Q : Ending → Heap → Prop) : Prop :=
oNew (Value.cells x0).toList (Value.cells x0).toList.length 32 H fun i_1 H_2 =>
oV (vLoad ty32 (ptrTo i_1) H_2) fun t3_3 =>
oRC Try.prog 5 [t3_3] H_2 (fun c H => Q (.panicked c) H) fun v_4 H_5 =>
oV (vUn .not v_4) fun t5_6 =>
condK t5_6 (
oRC Try.prog 6 [] H_5 (fun c H => Q (.panicked c) H) fun v_7 H_8 =>
Q (.returned v_7) H_8) (
oRC Try.prog 6 [] H_5 noP fun v_9 H_10 =>
oV (gV v_9 true (vField 0 (ptrTo i_1)) (some undef)) fun t9_11 =>
oV (gV v_9 true (vLoad ty29 t9_11 H_10) (some undef)) fun t10_12 =>
oV (gV v_9 true (vField 6 (ptrTo i_1)) (some undef)) fun t11_13 =>
oV (gV v_9 true (vLoad ty3 t11_13 H_10) (some undef)) fun t12_14 =>
oV (gV v_9 true (vField 7 (ptrTo i_1)) (some undef)) fun t13_15 =>
oV (gV v_9 true (vLoad ty30 t13_15 H_10) (some undef)) fun t14_16 =>
oV (gV v_9 true (vField 0 (ptrTo i_1)) (some undef)) fun t16_17 =>
oV (gV v_9 true (vLoad ty29 t16_17 H_10) (some undef)) fun t17_18 =>
oV (gV v_9 true (vField 6 (ptrTo i_1)) (some undef)) fun t18_19 =>
oV (gV v_9 true (vLoad ty3 t18_19 H_10) (some undef)) fun t19_20 =>
oV (gV v_9 true (vField 7 (ptrTo i_1)) (some undef)) fun t20_21 =>
oV (gV v_9 true (vLoad ty30 t20_21 H_10) (some undef)) fun t21_22 =>
letK (fun t15_24 H_25 =>
(gV v_9 true (vLoad ty30 t20_21 H_25) (some undef) = some t21_22 ∧
(gV v_9 true (vLoad ty3 t18_19 H_25) (some undef) = some t19_20 ∧
(gV v_9 true (vLoad ty29 t16_17 H_25) (some undef) = some t17_18 ∧
letK (fun t22_27 H_28 =>
letK (fun t23_30 H_31 =>
oV (vPick v_9 t23_30 (.bool false)) fun t24_32 =>
Q (.returned t24_32) H_31) fun k_29 => gK v_9 true (oRC Try.prog 10 [t15_24, t22_27] H_28 noP fun v_33 H_34 =>
k_29 v_33 H_34) (k_29 undef H_28)) fun k_26 => gK v_9 true (oRC Try.prog 12 [t17_18, t19_20, t21_22] H_25 noP fun v_35 H_36 =>
k_26 v_35 H_36) (k_26 undef H_25))))) fun k_23 => gK v_9 true (oRC Try.prog 11 [t10_12, t12_14, t14_16] H_10 noP fun v_37 H_38 =>
k_23 v_37 H_38) (k_23 undef H_10))
theorem c4_0 (env : Env) (H : Heap) (Q : Ending → Heap → Prop) (h : m4 (env 0) H Q) :
    RCode Try.prog 25 (bodyOf Try.f4) env H (mkK (retK T Try.f4.results.toList Q) (fun _ _ _ => False) (retK T Try.f4.results.toList Q) (fun c H => Q (.panicked c) H)) :=
  RCode.leaf_ (T := T) (X := ext) (hint := hint4) tok xok mixed (by kernel_rfl) h
theorem call4 (a0 : Value) (H : Heap) (Q : Ending → Heap → Prop) (h : m4 a0 H Q) : RCalls Try.prog 4 [a0] H Q :=
  RCalls.intro (nt := 25) tok Try.func4 (by kernel_rfl) (by kernel_rfl) (by kernel_rfl) (of_decide_eq_true (by kernel_rfl)) (c4_0 (envOf [a0]) H Q h)
end Go.Proofs.Ytchhpagkdaaglaa.SL
