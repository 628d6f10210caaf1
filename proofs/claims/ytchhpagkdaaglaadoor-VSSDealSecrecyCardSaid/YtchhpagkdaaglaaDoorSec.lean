/- Part 23 of the proof of LawSe: Vd0 Vd1 Vd2 Vd3, one behind the other. -/
import Derived.Test.YtchhpagkdaaglaaDoorSeb
import Derived.Test.YtchhpagkdaaglaaDoorSea
set_option linter.unusedVariables false
set_option linter.unusedSimpArgs false
namespace Go.Proofs.YtchhpagkdaaglaaDoor.SL

section
set_option maxRecDepth 100000
open Go
def hint122 : Nat → List Nat := p5Z []
def m122 (x0 x1 : Value) (H : Heap) (Q : QT) : Prop :=
oV (vNil x0) fun u0 =>
oV (qYZ 8 u0) fun u1 =>
oV (qWZ ty96 u1 H) fun u2 =>
oV (vInt .sub x1 (.int .i64 1)) fun u3 =>
oV (p1Z 1 u2 u3) fun u4 =>
oV (qWZ ty99 u4 H) fun u5 =>
Q (.returned u5) H
theorem c122_0 (env : Env) (H : Heap) (Q : QT) (h : m122 (env 0) (env 1) H Q) :
    qUZ Tryd.prog 13 (qSZ Tryd.f122) env H (mkK (rKZ Tryd.f122 Q) (fun _ _ _ => False) (rKZ Tryd.f122 Q) (pKZ Q)) :=
  qUZ.leaf_ (T := T) (X := ext) (hint := hint122) tok xok mixed (by kernel_rfl) h
theorem call122 (a0 a1 : Value) (H : Heap) (Q : QT) (h : m122 a0 a1 H Q) : qVZ Tryd.prog 122 [a0, a1] H Q :=
  qVZ.intro (nt := 13) tok Tryd.func122 (by kernel_rfl) (by kernel_rfl) (by kernel_rfl) (of_decide_eq_true (by kernel_rfl)) (c122_0 (envOf [a0, a1]) H Q h)
def hint143 : Nat → List Nat := p5Z [(1, [0,1,2,3,4,5,6,7,8,9,10])]
def m143 (x0 : Value) (H : Heap) (Q : QT) : Prop :=
oV (vNil x0) fun u0 =>
oV (qYZ 0 u0) fun u1 =>
oV (qWZ ty52 u1 H) fun u2 =>
oV (vLen u2) fun u3 =>
oV (vNil x0) fun u4 =>
oV (qYZ 1 u4) fun u5 =>
oV (qWZ ty3 u5 H) fun u6 =>
oV (vInt .sub u3 u6) fun u7 =>
Q (.returned u7) H
theorem c143_0 (env : Env) (H : Heap) (Q : QT) (h : m143 (env 0) H Q) :
    qUZ Tryd.prog 13 (qSZ Tryd.f143) env H (mkK (rKZ Tryd.f143 Q) (fun _ _ _ => False) (rKZ Tryd.f143 Q) (pKZ Q)) :=
  qUZ.leaf_ (T := T) (X := ext) (hint := hint143) tok xok mixed (by kernel_rfl) h
theorem call143 (a0 : Value) (H : Heap) (Q : QT) (h : m143 a0 H Q) : qVZ Tryd.prog 143 [a0] H Q :=
  qVZ.intro (nt := 13) tok Tryd.func143 (by kernel_rfl) (by kernel_rfl) (by kernel_rfl) (of_decide_eq_true (by kernel_rfl)) (c143_0 (envOf [a0]) H Q h)
def hint123 : Nat → List Nat := p5Z [(5, [0,1,2,3,4,5,6,7,8,9,10,11,12,13,14,15])]
def m123 (x0 x1 : Value) (H : Heap) (Q : QT) : Prop :=
oV (vInt .lss x1 (.int .i64 0)) fun u0 =>
oV (gV u0 false (some x1) (some undef)) fun u1 =>
oV (gV u0 false (some x0) (some undef)) fun u2 =>
letK (fun u3 u4 =>
oV (gV u0 false (vInt .gtr u1 u3) (some undef)) fun u5 =>
oV (pAZ u0 (.bool true) u5) fun u6 =>
p7Z u6 (
Q (.returned (.tuple #[(.slice none 0 0), (.int .i64 10)])) u4) (
oV (vNil x0) fun u7 =>
oV (qYZ 1 u7) fun u8 =>
oV (qWZ ty3 u8 u4) fun u9 =>
oV (vNil x0) fun u10 =>
oV (qYZ 1 u10) fun u11 =>
oV (qWZ ty3 u11 u4) fun u12 =>
oV (vInt .add u12 x1) fun u13 =>
oV (vNil x0) fun u14 =>
oV (qYZ 1 u14) fun u15 =>
oHeap (p2Z ty3 u15 u13 u4) fun u16 =>
oV (vNil x0) fun u17 =>
oV (qYZ 0 u17) fun u18 =>
oV (qWZ ty52 u18 u16) fun u19 =>
oV (vNil x0) fun u20 =>
oV (qYZ 1 u20) fun u21 =>
oV (qWZ ty3 u21 u16) fun u22 =>
oV (vNil x0) fun u23 =>
oV (qYZ 1 u23) fun u24 =>
oV (qWZ ty3 u24 u16) fun u25 =>
oV (vSlice 1 u19 (some u9) (some u22) (some u25)) fun u26 =>
Q (.returned (.tuple #[u26, (.int .i64 0)])) u16)) fun u27 => gK u0 false (oRC Tryd.prog 143 [u2] H (pKZ Q) fun u28 u29 =>
u27 u28 u29) (u27 undef H)
theorem c123_0 (env : Env) (H : Heap) (Q : QT) (h : m123 (env 0) (env 1) H Q) :
    qUZ Tryd.prog 41 (qSZ Tryd.f123) env H (mkK (rKZ Tryd.f123 Q) (fun _ _ _ => False) (rKZ Tryd.f123 Q) (pKZ Q)) :=
  qUZ.leaf_ (T := T) (X := ext) (hint := hint123) tok xok mixed (by kernel_rfl) h
theorem call123 (a0 a1 : Value) (H : Heap) (Q : QT) (h : m123 a0 a1 H Q) : qVZ Tryd.prog 123 [a0, a1] H Q :=
  qVZ.intro (nt := 41) tok Tryd.func123 (by kernel_rfl) (by kernel_rfl) (by kernel_rfl) (of_decide_eq_true (by kernel_rfl)) (c123_0 (envOf [a0, a1]) H Q h)
def hint124 : Nat → List Nat := p5Z [(13, [0,1,2,3,4,5,6,7,8,9,10,11,12,13]), (21, [0,1,2,3,4,5,6,7,8,9,10,11,12,13,14,15,16,17,18,19])]
def m124_3 (x7 : Value) (H : Heap) (Q : QT) : Prop :=
Q (.returned (.tuple #[x7, (.int .i64 0)])) H
theorem c124_3 (env : Env) (H : Heap) (Q : QT) (h : m124_3 (env 7) H Q) :
    qUZ Tryd.prog 92 (qRZ [1,1,1,1,1,1,1] (qSZ Tryd.f124)) env H (mkK (rKZ Tryd.f124 Q) (fun _ _ _ => False) (rKZ Tryd.f124 Q) (pKZ Q)) :=
  qUZ.leaf_ (T := T) (X := ext) (hint := hint124) tok xok mixed (by kernel_rfl) h
def L124_5 (x1 x6 x7 x11 : Value) (H : Heap) (kn : K1T) (Q : QT) : Prop :=
  ∀ env : Env, env 1 = x1 → env 6 = x6 → env 7 = x7 → env 11 = x11 → RLoop Tryd.prog 92 (qRZ [1,1,1,1,1,1,0,1,0,0] (qSZ Tryd.f124)) env H (mkK (fun _ _ => False) (inK 4 (fun e H => kn (e 7) H) (fun _ _ _ => False)) (rKZ Tryd.f124 Q) (pKZ Q))
theorem cL124_5 (env : Env) (H : Heap) (kn : K1T) (Q : QT) (h : L124_5 (env 1) (env 6) (env 7) (env 11) H kn Q) :
    qUZ Tryd.prog 92 (qRZ [1,1,1,1,1,1,0,1] (qSZ Tryd.f124)) env H (mkK (fun e H => kn (e 7) H) (fun _ _ _ => False) (rKZ Tryd.f124 Q) (pKZ Q)) :=
  qUZ.blk (by kernel_rfl : (qRZ [1,1,1,1,1,1,0,1] (qSZ Tryd.f124)) = .block 4 (qRZ [1,1,1,1,1,1,0,1,0] (qSZ Tryd.f124))) (qUZ.lp (by kernel_rfl : (qRZ [1,1,1,1,1,1,0,1,0] (qSZ Tryd.f124)) = .loop (qRZ [1,1,1,1,1,1,0,1,0,0] (qSZ Tryd.f124))) ((h env rfl rfl rfl rfl).mono (qPZ (fun _ _ h => h.elim) (fun _ _ _ h => h) (fun _ _ h => h) (fun _ _ h => h))))
def m124_7 (x1 x6 x7 x11 : Value) (H : Heap) (kn : K4T) (kx4 : K1T) (Q : QT) : Prop :=
oV (vInt .add x11 (.int .i64 1)) fun u0 =>
kn x1 x6 x7 u0 H
theorem c124_7 (env : Env) (H : Heap) (kn : K4T) (kx4 : K1T) (Q : QT) (h : m124_7 (env 1) (env 6) (env 7) (env 11) H kn kx4 Q) :
    qUZ Tryd.prog 92 (qRZ [1,1,1,1,1,1,0,1,0,0,1,1] (qSZ Tryd.f124)) env H (mkK (fun e H => kn (e 1) (e 6) (e 7) (e 11) H) (inK 4 (fun e H => kx4 (e 7) H) (fun _ _ _ => False)) (rKZ Tryd.f124 Q) (pKZ Q)) :=
  qUZ.leaf_ (T := T) (X := ext) (hint := hint124) tok xok mixed (by kernel_rfl) h
def L124_10 (x1 x6 x7 x11 x12 : Value) (H : Heap) (kn : K4T) (kx5 : K4T) (kx4 : K1T) (Q : QT) : Prop :=
  ∀ env : Env, env 1 = x1 → env 6 = x6 → env 7 = x7 → env 11 = x11 → env 12 = x12 → RLoop Tryd.prog 92 (qRZ [1,1,1,1,1,1,0,1,0,0,1,0,0,1,0,0] (qSZ Tryd.f124)) env H (mkK (fun _ _ => False) (inK 6 (fun e H => kn (e 1) (e 6) (e 7) (e 11) H) (inK 5 (fun e H => kx5 (e 1) (e 6) (e 7) (e 11) H) (inK 4 (fun e H => kx4 (e 7) H) (fun _ _ _ => False)))) (rKZ Tryd.f124 Q) (pKZ Q))
theorem cL124_10 (env : Env) (H : Heap) (kn : K4T) (kx5 : K4T) (kx4 : K1T) (Q : QT) (h : L124_10 (env 1) (env 6) (env 7) (env 11) (env 12) H kn kx5 kx4 Q) :
    qUZ Tryd.prog 92 (qRZ [1,1,1,1,1,1,0,1,0,0,1,0,0,1] (qSZ Tryd.f124)) env H (mkK (fun e H => kn (e 1) (e 6) (e 7) (e 11) H) (inK 5 (fun e H => kx5 (e 1) (e 6) (e 7) (e 11) H) (inK 4 (fun e H => kx4 (e 7) H) (fun _ _ _ => False))) (rKZ Tryd.f124 Q) (pKZ Q)) :=
  qUZ.blk (by kernel_rfl : (qRZ [1,1,1,1,1,1,0,1,0,0,1,0,0,1] (qSZ Tryd.f124)) = .block 6 (qRZ [1,1,1,1,1,1,0,1,0,0,1,0,0,1,0] (qSZ Tryd.f124))) (qUZ.lp (by kernel_rfl : (qRZ [1,1,1,1,1,1,0,1,0,0,1,0,0,1,0] (qSZ Tryd.f124)) = .loop (qRZ [1,1,1,1,1,1,0,1,0,0,1,0,0,1,0,0] (qSZ Tryd.f124))) ((h env rfl rfl rfl rfl rfl).mono (qPZ (fun _ _ h => h.elim) (fun _ _ _ h => h) (fun _ _ h => h) (fun _ _ h => h))))
def m124_11 (x1 x6 x7 x11 x12 : Value) (H : Heap) (kn : K5T) (kx6 : K4T) (kx5 : K4T) (kx4 : K1T) (Q : QT) : Prop :=
oV (vInt .lss x12 x6) fun u0 =>
p7Z u0 (
oV (p1Z 1 x7 x11) fun u1 =>
oV (qWZ ty52 u1 H) fun u2 =>
oV (p1Z 1 x7 x12) fun u3 =>
oV (qWZ ty52 u3 H) fun u4 =>
oV (p1Z 1 x1 (.int .i64 0)) fun u5 =>
oV (qWZ ty22 u5 H) fun u6 =>
oV (p1Z 1 x1 (.int .i64 0)) fun u7 =>
oV (qWZ ty22 u7 H) fun u8 =>
oV (p1Z 1 u2 x12) fun u9 =>
oHeap (p2Z ty22 u9 u6 H) fun u10 =>
oV (p1Z 1 u4 x11) fun u11 =>
oHeap (p2Z ty22 u11 u8 u10) fun u12 =>
oV (vSlice 1 x1 (some (.int .i64 1)) none none) fun u13 =>
oV (vInt .add x12 (.int .i64 1)) fun u14 =>
kn u13 x6 x7 x11 u14 u12) (
kx6 x1 x6 x7 x11 H)
theorem c124_11 (env : Env) (H : Heap) (kn : K5T) (kx6 : K4T) (kx5 : K4T) (kx4 : K1T) (Q : QT) (h : m124_11 (env 1) (env 6) (env 7) (env 11) (env 12) H kn kx6 kx5 kx4 Q) :
    qUZ Tryd.prog 92 (qRZ [1,1,1,1,1,1,0,1,0,0,1,0,0,1,0,0] (qSZ Tryd.f124)) env H (mkK (fun e H => kn (e 1) (e 6) (e 7) (e 11) (e 12) H) (inK 6 (fun e H => kx6 (e 1) (e 6) (e 7) (e 11) H) (inK 5 (fun e H => kx5 (e 1) (e 6) (e 7) (e 11) H) (inK 4 (fun e H => kx4 (e 7) H) (fun _ _ _ => False)))) (rKZ Tryd.f124 Q) (pKZ Q)) :=
  qUZ.leaf_ (T := T) (X := ext) (hint := hint124) tok xok mixed (by kernel_rfl) h
theorem L124_10_round (x1 x6 x7 x11 x12 : Value) (H : Heap) (kn : K4T) (kx5 : K4T) (kx4 : K1T) (Q : QT) (h : m124_11 x1 x6 x7 x11 x12 H (fun y1 y6 y7 y11 y12 H => L124_10 y1 y6 y7 y11 y12 H kn kx5 kx4 Q) kn kx5 kx4 Q) : L124_10 x1 x6 x7 x11 x12 H kn kx5 kx4 Q := by
  intro env h1 h6 h7 h11 h12
  subst h1; subst h6; subst h7; subst h11; subst h12
  exact RLoop.round ((c124_11 env H (fun y1 y6 y7 y11 y12 H => L124_10 y1 y6 y7 y11 y12 H kn kx5 kx4 Q) kn kx5 kx4 Q h).mono (qPZ (fun e H h => h e rfl rfl rfl rfl rfl) (fun _ _ _ h => h) (fun _ _ h => h) (fun _ _ h => h)))
def m124_9 (x1 x6 x7 x11 : Value) (H : Heap) (kn : K4T) (kx5 : K4T) (kx4 : K1T) (Q : QT) : Prop :=
L124_10 x1 x6 x7 x11 x11 H kn kx5 kx4 Q
theorem c124_9 (env : Env) (H : Heap) (kn : K4T) (kx5 : K4T) (kx4 : K1T) (Q : QT) (h : m124_9 (env 1) (env 6) (env 7) (env 11) H kn kx5 kx4 Q) :
    qUZ Tryd.prog 92 (qRZ [1,1,1,1,1,1,0,1,0,0,1,0,0] (qSZ Tryd.f124)) env H (mkK (fun e H => kn (e 1) (e 6) (e 7) (e 11) H) (inK 5 (fun e H => kx5 (e 1) (e 6) (e 7) (e 11) H) (inK 4 (fun e H => kx4 (e 7) H) (fun _ _ _ => False))) (rKZ Tryd.f124 Q) (pKZ Q)) :=
  qUZ.prefix_ (T := T) (X := ext) (hint := hint124) (hole := (fun e H => L124_10 (e 1) (e 6) (e 7) (e 11) (e 12) H kn kx5 kx4 Q)) tok xok mixed 1 (by kernel_rfl) (by kernel_rfl : qRZ _ _ = (qRZ [1,1,1,1,1,1,0,1,0,0,1,0,0,1] (qSZ Tryd.f124))) h
    (fun e H h => (cL124_10 e H kn kx5 kx4 Q h))
def m124_8 (x1 x6 x7 x11 : Value) (H : Heap) (kn : K4T) (kx4 : K1T) (Q : QT) : Prop :=
m124_9 x1 x6 x7 x11 H kn kn kx4 Q
theorem c124_8 (env : Env) (H : Heap) (kn : K4T) (kx4 : K1T) (Q : QT) (h : m124_8 (env 1) (env 6) (env 7) (env 11) H kn kx4 Q) :
    qUZ Tryd.prog 92 (qRZ [1,1,1,1,1,1,0,1,0,0,1,0] (qSZ Tryd.f124)) env H (mkK (fun e H => kn (e 1) (e 6) (e 7) (e 11) H) (inK 4 (fun e H => kx4 (e 7) H) (fun _ _ _ => False)) (rKZ Tryd.f124 Q) (pKZ Q)) :=
  qUZ.blk (by kernel_rfl : (qRZ [1,1,1,1,1,1,0,1,0,0,1,0] (qSZ Tryd.f124)) = .block 5 (qRZ [1,1,1,1,1,1,0,1,0,0,1,0,0] (qSZ Tryd.f124))) (c124_9 env H kn kn kx4 Q h)
def m124_6 (x1 x6 x7 x11 : Value) (H : Heap) (kn : K4T) (kx4 : K1T) (Q : QT) : Prop :=
oV (vInt .lss x11 x6) fun u0 =>
p7Z u0 (
m124_8 x1 x6 x7 x11 H (fun u1 u2 u3 u4 u5 => m124_7 u1 u2 u3 u4 u5 kn kx4 Q) kx4 Q) (
kx4 x7 H)
theorem c124_6 (env : Env) (H : Heap) (kn : K4T) (kx4 : K1T) (Q : QT) (h : m124_6 (env 1) (env 6) (env 7) (env 11) H kn kx4 Q) :
    qUZ Tryd.prog 92 (qRZ [1,1,1,1,1,1,0,1,0,0] (qSZ Tryd.f124)) env H (mkK (fun e H => kn (e 1) (e 6) (e 7) (e 11) H) (inK 4 (fun e H => kx4 (e 7) H) (fun _ _ _ => False)) (rKZ Tryd.f124 Q) (pKZ Q)) :=
  qUZ.prefix_ (T := T) (X := ext) (hint := hint124) (hole := (fun e H => m124_8 (e 1) (e 6) (e 7) (e 11) H (fun y1_23 y6_24 y7_25 y11_26 H_27 => m124_7 y1_23 y6_24 y7_25 y11_26 H_27 kn kx4 Q) kx4 Q)) tok xok mixed 1 (by kernel_rfl) (by kernel_rfl : qRZ _ _ = (qRZ [1,1,1,1,1,1,0,1,0,0,1] (qSZ Tryd.f124))) h
    (fun e H h => qUZ.join (by kernel_rfl : (qRZ [1,1,1,1,1,1,0,1,0,0,1] (qSZ Tryd.f124)) = .seq (qRZ [1,1,1,1,1,1,0,1,0,0,1,0] (qSZ Tryd.f124)) (qRZ [1,1,1,1,1,1,0,1,0,0,1,1] (qSZ Tryd.f124))) ((c124_8 e H (fun y1_28 y6_29 y7_30 y11_31 H_32 => m124_7 y1_28 y6_29 y7_30 y11_31 H_32 kn kx4 Q) kx4 Q h).mono (qPZ (fun e H h => c124_7 e H kn kx4 Q h) (fun _ _ _ h => h) (fun _ _ h => h) (fun _ _ h => h))))
theorem L124_5_round (x1 x6 x7 x11 : Value) (H : Heap) (kn : K1T) (Q : QT) (h : m124_6 x1 x6 x7 x11 H (fun y1 y6 y7 y11 H => L124_5 y1 y6 y7 y11 H kn Q) kn Q) : L124_5 x1 x6 x7 x11 H kn Q := by
  intro env h1 h6 h7 h11
  subst h1; subst h6; subst h7; subst h11
  exact RLoop.round ((c124_6 env H (fun y1 y6 y7 y11 H => L124_5 y1 y6 y7 y11 H kn Q) kn Q h).mono (qPZ (fun e H h => h e rfl rfl rfl rfl) (fun _ _ _ h => h) (fun _ _ h => h) (fun _ _ h => h)))
def m124_4 (x1 x6 x7 : Value) (H : Heap) (kn : K1T) (Q : QT) : Prop :=
L124_5 x1 x6 x7 (.int .i64 1) H kn Q
theorem c124_4 (env : Env) (H : Heap) (kn : K1T) (Q : QT) (h : m124_4 (env 1) (env 6) (env 7) H kn Q) :
    qUZ Tryd.prog 92 (qRZ [1,1,1,1,1,1,0] (qSZ Tryd.f124)) env H (mkK (fun e H => kn (e 7) H) (fun _ _ _ => False) (rKZ Tryd.f124 Q) (pKZ Q)) :=
  qUZ.prefix_ (T := T) (X := ext) (hint := hint124) (hole := (fun e H => L124_5 (e 1) (e 6) (e 7) (e 11) H kn Q)) tok xok mixed 1 (by kernel_rfl) (by kernel_rfl : qRZ _ _ = (qRZ [1,1,1,1,1,1,0,1] (qSZ Tryd.f124))) h
    (fun e H h => (cL124_5 e H kn Q h))
def m124_2 (x1 x6 x7 : Value) (H : Heap) (Q : QT) : Prop :=
m124_4 x1 x6 x7 H (fun u0 u1 => m124_3 u0 u1 Q) Q
theorem c124_2 (env : Env) (H : Heap) (Q : QT) (h : m124_2 (env 1) (env 6) (env 7) H Q) :
    qUZ Tryd.prog 92 (qRZ [1,1,1,1,1,1] (qSZ Tryd.f124)) env H (mkK (rKZ Tryd.f124 Q) (fun _ _ _ => False) (rKZ Tryd.f124 Q) (pKZ Q)) :=
  qUZ.join (by kernel_rfl : (qRZ [1,1,1,1,1,1] (qSZ Tryd.f124)) = .seq (qRZ [1,1,1,1,1,1,0] (qSZ Tryd.f124)) (qRZ [1,1,1,1,1,1,1] (qSZ Tryd.f124))) ((c124_4 env H (fun y7_35 H_36 => m124_3 y7_35 H_36 Q) Q h).mono (qPZ (fun e H h => c124_3 e H Q h) (fun _ _ _ h => h) (fun _ _ h => h) (fun _ _ h => h)))
def L124_13 (x1 x6 x7 x40 x41 x42 : Value) (H : Heap) (kn : K3T) (Q : QT) : Prop :=
  ∀ env : Env, env 1 = x1 → env 6 = x6 → env 7 = x7 → env 40 = x40 → env 41 = x41 → env 42 = x42 → RLoop Tryd.prog 92 (qRZ [1,1,1,1,1,0,1,0,0] (qSZ Tryd.f124)) env H (mkK (fun _ _ => False) (inK 2 (fun e H => kn (e 1) (e 6) (e 7) H) (fun _ _ _ => False)) (rKZ Tryd.f124 Q) (pKZ Q))
theorem cL124_13 (env : Env) (H : Heap) (kn : K3T) (Q : QT) (h : L124_13 (env 1) (env 6) (env 7) (env 40) (env 41) (env 42) H kn Q) :
    qUZ Tryd.prog 92 (qRZ [1,1,1,1,1,0,1] (qSZ Tryd.f124)) env H (mkK (fun e H => kn (e 1) (e 6) (e 7) H) (fun _ _ _ => False) (rKZ Tryd.f124 Q) (pKZ Q)) :=
  qUZ.blk (by kernel_rfl : (qRZ [1,1,1,1,1,0,1] (qSZ Tryd.f124)) = .block 2 (qRZ [1,1,1,1,1,0,1,0] (qSZ Tryd.f124))) (qUZ.lp (by kernel_rfl : (qRZ [1,1,1,1,1,0,1,0] (qSZ Tryd.f124)) = .loop (qRZ [1,1,1,1,1,0,1,0,0] (qSZ Tryd.f124))) ((h env rfl rfl rfl rfl rfl rfl).mono (qPZ (fun _ _ h => h.elim) (fun _ _ _ h => h) (fun _ _ h => h) (fun _ _ h => h))))
def m124_14 (x1 x6 x7 x40 x41 x42 : Value) (H : Heap) (kn : K6T) (kx2 : K3T) (Q : QT) : Prop :=
oV (vInt .lss x42 x41) fun u0 =>
p7Z u0 (
oV (p1Z 1 x40 x42) fun u1 =>
oV (qWZ ty22 u1 H) fun u2 =>
oV (p1Z 1 x7 (.int .i64 0)) fun u3 =>
oV (qWZ ty52 u3 H) fun u4 =>
oV (p1Z 1 x7 x42) fun u5 =>
oV (qWZ ty52 u5 H) fun u6 =>
oV (p1Z 1 u4 x42) fun u7 =>
oHeap (p2Z ty22 u7 u2 H) fun u8 =>
oV (p1Z 1 u6 (.int .i64 0)) fun u9 =>
oHeap (p2Z ty22 u9 u2 u8) fun u10 =>
oV (vInt .add x42 (.int .i64 1)) fun u11 =>
kn x1 x6 x7 x40 x41 u11 u10) (
kx2 x1 x6 x7 H)
theorem c124_14 (env : Env) (H : Heap) (kn : K6T) (kx2 : K3T) (Q : QT) (h : m124_14 (env 1) (env 6) (env 7) (env 40) (env 41) (env 42) H kn kx2 Q) :
    qUZ Tryd.prog 92 (qRZ [1,1,1,1,1,0,1,0,0] (qSZ Tryd.f124)) env H (mkK (fun e H => kn (e 1) (e 6) (e 7) (e 40) (e 41) (e 42) H) (inK 2 (fun e H => kx2 (e 1) (e 6) (e 7) H) (fun _ _ _ => False)) (rKZ Tryd.f124 Q) (pKZ Q)) :=
  qUZ.leaf_ (T := T) (X := ext) (hint := hint124) tok xok mixed (by kernel_rfl) h
theorem L124_13_round (x1 x6 x7 x40 x41 x42 : Value) (H : Heap) (kn : K3T) (Q : QT) (h : m124_14 x1 x6 x7 x40 x41 x42 H (fun y1 y6 y7 y40 y41 y42 H => L124_13 y1 y6 y7 y40 y41 y42 H kn Q) kn Q) : L124_13 x1 x6 x7 x40 x41 x42 H kn Q := by
  intro env h1 h6 h7 h40 h41 h42
  subst h1; subst h6; subst h7; subst h40; subst h41; subst h42
  exact RLoop.round ((c124_14 env H (fun y1 y6 y7 y40 y41 y42 H => L124_13 y1 y6 y7 y40 y41 y42 H kn Q) kn Q h).mono (qPZ (fun e H h => h e rfl rfl rfl rfl rfl rfl) (fun _ _ _ h => h) (fun _ _ h => h) (fun _ _ h => h)))
def m124_12 (x0 x1 x6 x7 : Value) (H : Heap) (kn : K3T) (Q : QT) : Prop :=
oV (vLen x0) fun u0 =>
L124_13 x1 x6 x7 x0 u0 (.int .i64 0) H kn Q
theorem c124_12 (env : Env) (H : Heap) (kn : K3T) (Q : QT) (h : m124_12 (env 0) (env 1) (env 6) (env 7) H kn Q) :
    qUZ Tryd.prog 92 (qRZ [1,1,1,1,1,0] (qSZ Tryd.f124)) env H (mkK (fun e H => kn (e 1) (e 6) (e 7) H) (fun _ _ _ => False) (rKZ Tryd.f124 Q) (pKZ Q)) :=
  qUZ.prefix_ (T := T) (X := ext) (hint := hint124) (hole := (fun e H => L124_13 (e 1) (e 6) (e 7) (e 40) (e 41) (e 42) H kn Q)) tok xok mixed 1 (by kernel_rfl) (by kernel_rfl : qRZ _ _ = (qRZ [1,1,1,1,1,0,1] (qSZ Tryd.f124))) h
    (fun e H h => (cL124_13 e H kn Q h))
def m124_1 (x0 x1 x6 x7 : Value) (H : Heap) (Q : QT) : Prop :=
m124_12 x0 x1 x6 x7 H (fun u0 u1 u2 u3 => m124_2 u0 u1 u2 u3 Q) Q
theorem c124_1 (env : Env) (H : Heap) (Q : QT) (h : m124_1 (env 0) (env 1) (env 6) (env 7) H Q) :
    qUZ Tryd.prog 92 (qRZ [1,1,1,1,1] (qSZ Tryd.f124)) env H (mkK (rKZ Tryd.f124 Q) (fun _ _ _ => False) (rKZ Tryd.f124 Q) (pKZ Q)) :=
  qUZ.join (by kernel_rfl : (qRZ [1,1,1,1,1] (qSZ Tryd.f124)) = .seq (qRZ [1,1,1,1,1,0] (qSZ Tryd.f124)) (qRZ [1,1,1,1,1,1] (qSZ Tryd.f124))) ((c124_12 env H (fun y1_54 y6_55 y7_56 H_57 => m124_2 y1_54 y6_55 y7_56 H_57 Q) Q h).mono (qPZ (fun e H h => c124_2 e H Q h) (fun _ _ _ h => h) (fun _ _ h => h) (fun _ _ h => h)))
def L124_16 (x0 x1 x6 x7 x30 x31 : Value) (H : Heap) (kn : K4T) (Q : QT) : Prop :=
  ∀ env : Env, env 0 = x0 → env 1 = x1 → env 6 = x6 → env 7 = x7 → env 30 = x30 → env 31 = x31 → RLoop Tryd.prog 92 (qRZ [1,1,1,1,0,1,0,0] (qSZ Tryd.f124)) env H (mkK (fun _ _ => False) (inK 0 (fun e H => kn (e 0) (e 1) (e 6) (e 7) H) (fun _ _ _ => False)) (rKZ Tryd.f124 Q) (pKZ Q))
theorem cL124_16 (env : Env) (H : Heap) (kn : K4T) (Q : QT) (h : L124_16 (env 0) (env 1) (env 6) (env 7) (env 30) (env 31) H kn Q) :
    qUZ Tryd.prog 92 (qRZ [1,1,1,1,0,1] (qSZ Tryd.f124)) env H (mkK (fun e H => kn (e 0) (e 1) (e 6) (e 7) H) (fun _ _ _ => False) (rKZ Tryd.f124 Q) (pKZ Q)) :=
  qUZ.blk (by kernel_rfl : (qRZ [1,1,1,1,0,1] (qSZ Tryd.f124)) = .block 0 (qRZ [1,1,1,1,0,1,0] (qSZ Tryd.f124))) (qUZ.lp (by kernel_rfl : (qRZ [1,1,1,1,0,1,0] (qSZ Tryd.f124)) = .loop (qRZ [1,1,1,1,0,1,0,0] (qSZ Tryd.f124))) ((h env rfl rfl rfl rfl rfl rfl).mono (qPZ (fun _ _ h => h.elim) (fun _ _ _ h => h) (fun _ _ h => h) (fun _ _ h => h))))
def m124_17 (x0 x1 x6 x7 x30 x31 : Value) (H : Heap) (kn : K6T) (kx0 : K4T) (Q : QT) : Prop :=
oV (vInt .lss x31 x30) fun u0 =>
p7Z u0 (
oMake ty22 22 x6 x6 H fun u1 u2 =>
oV (p1Z 1 x7 x31) fun u3 =>
oHeap (p2Z ty52 u3 u1 u2) fun u4 =>
oV (vInt .add x31 (.int .i64 1)) fun u5 =>
kn x0 x1 x6 x7 x30 u5 u4) (
kx0 x0 x1 x6 x7 H)
theorem c124_17 (env : Env) (H : Heap) (kn : K6T) (kx0 : K4T) (Q : QT) (h : m124_17 (env 0) (env 1) (env 6) (env 7) (env 30) (env 31) H kn kx0 Q) :
    qUZ Tryd.prog 92 (qRZ [1,1,1,1,0,1,0,0] (qSZ Tryd.f124)) env H (mkK (fun e H => kn (e 0) (e 1) (e 6) (e 7) (e 30) (e 31) H) (inK 0 (fun e H => kx0 (e 0) (e 1) (e 6) (e 7) H) (fun _ _ _ => False)) (rKZ Tryd.f124 Q) (pKZ Q)) :=
  qUZ.leaf_ (T := T) (X := ext) (hint := hint124) tok xok mixed (by kernel_rfl) h
theorem L124_16_round (x0 x1 x6 x7 x30 x31 : Value) (H : Heap) (kn : K4T) (Q : QT) (h : m124_17 x0 x1 x6 x7 x30 x31 H (fun y0 y1 y6 y7 y30 y31 H => L124_16 y0 y1 y6 y7 y30 y31 H kn Q) kn Q) : L124_16 x0 x1 x6 x7 x30 x31 H kn Q := by
  intro env h0 h1 h6 h7 h30 h31
  subst h0; subst h1; subst h6; subst h7; subst h30; subst h31
  exact RLoop.round ((c124_17 env H (fun y0 y1 y6 y7 y30 y31 H => L124_16 y0 y1 y6 y7 y30 y31 H kn Q) kn Q h).mono (qPZ (fun e H h => h e rfl rfl rfl rfl rfl rfl) (fun _ _ _ h => h) (fun _ _ h => h) (fun _ _ h => h)))
def m124_15 (x0 x1 x6 x7 : Value) (H : Heap) (kn : K4T) (Q : QT) : Prop :=
oV (vLen x7) fun u0 =>
L124_16 x0 x1 x6 x7 u0 (.int .i64 0) H kn Q
theorem c124_15 (env : Env) (H : Heap) (kn : K4T) (Q : QT) (h : m124_15 (env 0) (env 1) (env 6) (env 7) H kn Q) :
    qUZ Tryd.prog 92 (qRZ [1,1,1,1,0] (qSZ Tryd.f124)) env H (mkK (fun e H => kn (e 0) (e 1) (e 6) (e 7) H) (fun _ _ _ => False) (rKZ Tryd.f124 Q) (pKZ Q)) :=
  qUZ.prefix_ (T := T) (X := ext) (hint := hint124) (hole := (fun e H => L124_16 (e 0) (e 1) (e 6) (e 7) (e 30) (e 31) H kn Q)) tok xok mixed 1 (by kernel_rfl) (by kernel_rfl : qRZ _ _ = (qRZ [1,1,1,1,0,1] (qSZ Tryd.f124))) h
    (fun e H h => (cL124_16 e H kn Q h))
def m124 (x0 x1 : Value) (H : Heap) (Q : QT) : Prop :=
oV (vLen x0) fun u0 =>
oV (vInt .eql u0 (.int .i64 0)) fun u1 =>
oV (gV u1 false (some x1) (some undef)) fun u2 =>
oV (gV u1 false (vLen u2) (some undef)) fun u3 =>
oV (gV u1 false (some u0) (some undef)) fun u4 =>
oV (gV u1 false (some u0) (some undef)) fun u5 =>
oV (gV u1 false (vInt .sub u5 (.int .i64 1)) (some undef)) fun u6 =>
oV (gV u1 false (vInt .mul u4 u6) (some undef)) fun u7 =>
oV (gV u1 false (vInt .quo u7 (.int .i64 2)) (some undef)) fun u8 =>
oV (gV u1 false (vInt .neq u3 u8) (some undef)) fun u9 =>
oV (pAZ u1 (.bool true) u9) fun u10 =>
p7Z u10 (
Q (.returned (.tuple #[(.slice none 0 0), (.int .i64 1)])) H) (
oMake ty52 52 u0 u0 H fun u11 u12 =>
m124_15 x0 x1 u0 u11 u12 (fun u13 u14 u15 u16 u17 => m124_1 u13 u14 u15 u16 u17 Q) Q)
theorem c124_0 (env : Env) (H : Heap) (Q : QT) (h : m124 (env 0) (env 1) H Q) :
    qUZ Tryd.prog 92 (qSZ Tryd.f124) env H (mkK (rKZ Tryd.f124 Q) (fun _ _ _ => False) (rKZ Tryd.f124 Q) (pKZ Q)) :=
  qUZ.prefix_ (T := T) (X := ext) (hint := hint124) (hole := (fun e H => m124_15 (e 0) (e 1) (e 6) (e 7) H (fun y0_83 y1_84 y6_85 y7_86 H_87 => m124_1 y0_83 y1_84 y6_85 y7_86 H_87 Q) Q)) tok xok mixed 4 (by kernel_rfl) (by kernel_rfl : qRZ _ _ = (qRZ [1,1,1,1] (qSZ Tryd.f124))) h
    (fun e H h => qUZ.join (by kernel_rfl : (qRZ [1,1,1,1] (qSZ Tryd.f124)) = .seq (qRZ [1,1,1,1,0] (qSZ Tryd.f124)) (qRZ [1,1,1,1,1] (qSZ Tryd.f124))) ((c124_15 e H (fun y0_88 y1_89 y6_90 y7_91 H_92 => m124_1 y0_88 y1_89 y6_90 y7_91 H_92 Q) Q h).mono (qPZ (fun e H h => c124_1 e H Q h) (fun _ _ _ h => h) (fun _ _ h => h) (fun _ _ h => h))))
theorem call124 (a0 a1 : Value) (H : Heap) (Q : QT) (h : m124 a0 a1 H Q) : qVZ Tryd.prog 124 [a0, a1] H Q :=
  qVZ.intro (nt := 92) tok Tryd.func124 (by kernel_rfl) (by kernel_rfl) (by kernel_rfl) (of_decide_eq_true (by kernel_rfl)) (c124_0 (envOf [a0, a1]) H Q h)
def hint121 : Nat → List Nat := p5Z [(3, [0,1,2,3,4,5,7,8,9,10,11,12,13,14,15,16,17,18,19,6,20,21,22,23,24,25]), (5, [0,1,2,3,4,5,6,7,8,9,10,11,12,13,14,15,16,17,18])]
def L121_1 (x0 x1 x15 x16 x17 : Value) (H : Heap) (kn : K0T) (Q : QT) : Prop :=
  ∀ env : Env, env 0 = x0 → env 1 = x1 → env 15 = x15 → env 16 = x16 → env 17 = x17 → RLoop Tryd.prog 70 (qRZ [1,0,0] (qSZ Tryd.f121)) env H (mkK (fun _ _ => False) (inK 0 (fun e H => kn H) (fun _ _ _ => False)) (rKZ Tryd.f121 Q) (pKZ Q))
theorem cL121_1 (env : Env) (H : Heap) (kn : K0T) (Q : QT) (h : L121_1 (env 0) (env 1) (env 15) (env 16) (env 17) H kn Q) :
    qUZ Tryd.prog 70 (qRZ [1] (qSZ Tryd.f121)) env H (mkK (fun e H => kn H) (fun _ _ _ => False) (rKZ Tryd.f121 Q) (pKZ Q)) :=
  qUZ.blk (by kernel_rfl : (qRZ [1] (qSZ Tryd.f121)) = .block 0 (qRZ [1,0] (qSZ Tryd.f121))) (qUZ.lp (by kernel_rfl : (qRZ [1,0] (qSZ Tryd.f121)) = .loop (qRZ [1,0,0] (qSZ Tryd.f121))) ((h env rfl rfl rfl rfl rfl).mono (qPZ (fun _ _ h => h.elim) (fun _ _ _ h => h) (fun _ _ h => h) (fun _ _ h => h))))
def m121_2 (x0 x1 x15 x16 x17 : Value) (H : Heap) (kn : K5T) (kx0 : K0T) (Q : QT) : Prop :=
oV (vInt .lss x17 x16) fun u0 =>
p7Z u0 (
oV (p1Z 1 x15 x17) fun u1 =>
oV (qWZ ty52 u1 H) fun u2 =>
oV (qWZ ty150 x1 H) fun u3 =>
oV (vNil u3) fun u4 =>
oV (qYZ 0 u4) fun u5 =>
oV (qWZ ty35 u5 H) fun u6 =>
oV (vInt .add x0 (.int .i64 1)) fun u7 =>
oV (qWZ ty150 x1 H) fun u8 =>
oV (vNil u8) fun u9 =>
oV (qYZ 1 u9) fun u10 =>
oV (qYZ 2 u10) fun u11 =>
oV (qWZ ty3 u11 H) fun u12 =>
oV (qWZ ty150 x1 H) fun u13 =>
oV (vNil u13) fun u14 =>
oV (qYZ 1 u14) fun u15 =>
oV (qYZ 2 u15) fun u16 =>
oV (qWZ ty3 u16 H) fun u17 =>
oV (vInt .add u17 (.int .i64 1)) fun u18 =>
oV (vInt .mul u12 u18) fun u19 =>
oV (vInt .quo u19 (.int .i64 2)) fun u20 =>
oRC Tryd.prog 122 [u6, u7] H noP fun u21 u22 =>
(qWZ ty3 u16 u22 = some u17 ∧
(qWZ ty150 x1 u22 = some u13 ∧
(qWZ ty3 u11 u22 = some u12 ∧
(qWZ ty150 x1 u22 = some u8 ∧
oRC Tryd.prog 123 [u21, u20] u22 noP fun u23 u24 =>
oV (p0Z u23 0) fun u25 =>
oV (p0Z u23 1) fun u26 =>
oRC Tryd.prog 124 [u2, u25] u24 (pKZ Q) fun u27 u28 =>
oV (p0Z u27 0) fun u29 =>
oV (p0Z u27 1) fun u30 =>
oV (qWZ ty150 x1 u28) fun u31 =>
oV (vNil u31) fun u32 =>
oV (qYZ 5 u32) fun u33 =>
oV (qYZ 0 u33) fun u34 =>
oV (qWZ ty69 u34 u28) fun u35 =>
oV (qWZ ty150 x1 u28) fun u36 =>
oV (vNil u36) fun u37 =>
oV (qYZ 5 u37) fun u38 =>
oV (qYZ 0 u38) fun u39 =>
oV (qWZ ty69 u39 u28) fun u40 =>
oV (p1Z 1 u40 x0) fun u41 =>
oV (qWZ ty44 u41 u28) fun u42 =>
p3Z ty27 27 1 [((0,1), u29)] u28 fun u43 u44 =>
p4Z ty27 27 u42 u43 u44 fun u45 u46 =>
(qWZ ty69 u34 u46 = some u35 ∧
(qWZ ty150 x1 u46 = some u31 ∧
oV (p1Z 1 u35 x0) fun u47 =>
oHeap (p2Z ty44 u47 u45 u46) fun u48 =>
oV (vInt .add x17 (.int .i64 1)) fun u49 =>
kn x0 x1 x15 x16 u49 u48))))))) (
kx0 H)
theorem c121_2 (env : Env) (H : Heap) (kn : K5T) (kx0 : K0T) (Q : QT) (h : m121_2 (env 0) (env 1) (env 15) (env 16) (env 17) H kn kx0 Q) :
    qUZ Tryd.prog 70 (qRZ [1,0,0] (qSZ Tryd.f121)) env H (mkK (fun e H => kn (e 0) (e 1) (e 15) (e 16) (e 17) H) (inK 0 (fun e H => kx0 H) (fun _ _ _ => False)) (rKZ Tryd.f121 Q) (pKZ Q)) :=
  qUZ.leaf_ (T := T) (X := ext) (hint := hint121) tok xok mixed (by kernel_rfl) h
theorem L121_1_round (x0 x1 x15 x16 x17 : Value) (H : Heap) (kn : K0T) (Q : QT) (h : m121_2 x0 x1 x15 x16 x17 H (fun y0 y1 y15 y16 y17 H => L121_1 y0 y1 y15 y16 y17 H kn Q) kn Q) : L121_1 x0 x1 x15 x16 x17 H kn Q := by
  intro env h0 h1 h15 h16 h17
  subst h0; subst h1; subst h15; subst h16; subst h17
  exact RLoop.round ((c121_2 env H (fun y0 y1 y15 y16 y17 H => L121_1 y0 y1 y15 y16 y17 H kn Q) kn Q h).mono (qPZ (fun e H h => h e rfl rfl rfl rfl rfl) (fun _ _ _ h => h) (fun _ _ h => h) (fun _ _ h => h)))
def m121 (x0 x1 : Value) (H : Heap) (Q : QT) : Prop :=
oV (qWZ ty150 x1 H) fun u0 =>
oV (vNil u0) fun u1 =>
oV (qYZ 4 u1) fun u2 =>
oV (qWZ ty44 u2 H) fun u3 =>
oV (p1Z 1 u3 x0) fun u4 =>
oV (qWZ ty27 u4 H) fun u5 =>
oV (vLen u5) fun u6 =>
L121_1 x0 x1 u5 u6 (.int .i64 0) H (fun u7 => Q (.returned (.tuple #[])) u7) Q
theorem c121_0 (env : Env) (H : Heap) (Q : QT) (h : m121 (env 0) (env 1) H Q) :
    qUZ Tryd.prog 70 (qSZ Tryd.f121) env H (mkK (rKZ Tryd.f121 Q) (fun _ _ _ => False) (rKZ Tryd.f121 Q) (pKZ Q)) :=
  qUZ.prefix_ (T := T) (X := ext) (hint := hint121) (hole := (fun e H => L121_1 (e 0) (e 1) (e 15) (e 16) (e 17) H (fun H_59 => Q (.returned (.tuple #[])) H_59) Q)) tok xok mixed 1 (by kernel_rfl) (by kernel_rfl : qRZ _ _ = (qRZ [1] (qSZ Tryd.f121))) h
    (fun e H h => ((cL121_1 e H (fun H_60 => Q (.returned (.tuple #[])) H_60) Q h).mono (qPZ (fun e H h => h) (fun _ _ _ h => h) (fun _ _ h => h) (fun _ _ h => h))))
theorem call121 (a0 a1 : Value) (H : Heap) (Q : QT) (h : m121 a0 a1 H Q) : qVZ Tryd.prog 121 [a0, a1] H Q :=
  qVZ.intro (nt := 70) tok Tryd.func121 (by kernel_rfl) (by kernel_rfl) (by kernel_rfl) (of_decide_eq_true (by kernel_rfl)) (c121_0 (envOf [a0, a1]) H Q h)
def hint120 : Nat → List Nat := p5Z []
def L120_1 (x1 x9 x10 : Value) (H : Heap) (kn : K0T) (Q : QT) : Prop :=
  ∀ env : Env, env 1 = x1 → env 9 = x9 → env 10 = x10 → RLoop Tryd.prog 17 (qRZ [1,0,0] (qSZ Tryd.f120)) env H (mkK (fun _ _ => False) (inK 0 (fun e H => kn H) (fun _ _ _ => False)) (rKZ Tryd.f120 Q) (pKZ Q))
theorem cL120_1 (env : Env) (H : Heap) (kn : K0T) (Q : QT) (h : L120_1 (env 1) (env 9) (env 10) H kn Q) :
    qUZ Tryd.prog 17 (qRZ [1] (qSZ Tryd.f120)) env H (mkK (fun e H => kn H) (fun _ _ _ => False) (rKZ Tryd.f120 Q) (pKZ Q)) :=
  qUZ.blk (by kernel_rfl : (qRZ [1] (qSZ Tryd.f120)) = .block 0 (qRZ [1,0] (qSZ Tryd.f120))) (qUZ.lp (by kernel_rfl : (qRZ [1,0] (qSZ Tryd.f120)) = .loop (qRZ [1,0,0] (qSZ Tryd.f120))) ((h env rfl rfl rfl).mono (qPZ (fun _ _ h => h.elim) (fun _ _ _ h => h) (fun _ _ h => h) (fun _ _ h => h))))
def m120_2 (x1 x9 x10 : Value) (H : Heap) (kn : K3T) (kx0 : K0T) (Q : QT) : Prop :=
oV (vInt .lss x10 x9) fun u0 =>
p7Z u0 (
oCl ext Tryd.prog x1 [x10] H (pKZ Q) fun u1 u2 =>
oV (vInt .add x10 (.int .i64 1)) fun u3 =>
kn x1 x9 u3 u2) (
kx0 H)
theorem c120_2 (env : Env) (H : Heap) (kn : K3T) (kx0 : K0T) (Q : QT) (h : m120_2 (env 1) (env 9) (env 10) H kn kx0 Q) :
    qUZ Tryd.prog 17 (qRZ [1,0,0] (qSZ Tryd.f120)) env H (mkK (fun e H => kn (e 1) (e 9) (e 10) H) (inK 0 (fun e H => kx0 H) (fun _ _ _ => False)) (rKZ Tryd.f120 Q) (pKZ Q)) :=
  qUZ.leaf_ (T := T) (X := ext) (hint := hint120) tok xok mixed (by kernel_rfl) h
theorem L120_1_round (x1 x9 x10 : Value) (H : Heap) (kn : K0T) (Q : QT) (h : m120_2 x1 x9 x10 H (fun y1 y9 y10 H => L120_1 y1 y9 y10 H kn Q) kn Q) : L120_1 x1 x9 x10 H kn Q := by
  intro env h1 h9 h10
  subst h1; subst h9; subst h10
  exact RLoop.round ((c120_2 env H (fun y1 y9 y10 H => L120_1 y1 y9 y10 H kn Q) kn Q h).mono (qPZ (fun e H h => h e rfl rfl rfl) (fun _ _ _ h => h) (fun _ _ h => h) (fun _ _ h => h)))
def m120 (x0 x1 : Value) (H : Heap) (Q : QT) : Prop :=
oV (vNil x0) fun u0 =>
oV (qYZ 1 u0) fun u1 =>
oV (qYZ 1 u1) fun u2 =>
oV (qWZ ty3 u2 H) fun u3 =>
L120_1 x1 u3 (.int .i64 0) H (fun u4 => Q (.returned (.tuple #[])) u4) Q
theorem c120_0 (env : Env) (H : Heap) (Q : QT) (h : m120 (env 0) (env 1) H Q) :
    qUZ Tryd.prog 17 (qSZ Tryd.f120) env H (mkK (rKZ Tryd.f120 Q) (fun _ _ _ => False) (rKZ Tryd.f120 Q) (pKZ Q)) :=
  qUZ.prefix_ (T := T) (X := ext) (hint := hint120) (hole := (fun e H => L120_1 (e 1) (e 9) (e 10) H (fun H_10 => Q (.returned (.tuple #[])) H_10) Q)) tok xok mixed 1 (by kernel_rfl) (by kernel_rfl : qRZ _ _ = (qRZ [1] (qSZ Tryd.f120))) h
    (fun e H h => ((cL120_1 e H (fun H_11 => Q (.returned (.tuple #[])) H_11) Q h).mono (qPZ (fun e H h => h) (fun _ _ _ h => h) (fun _ _ h => h) (fun _ _ h => h))))
theorem call120 (a0 a1 : Value) (H : Heap) (Q : QT) (h : m120 a0 a1 H Q) : qVZ Tryd.prog 120 [a0, a1] H Q :=
  qVZ.intro (nt := 17) tok Tryd.func120 (by kernel_rfl) (by kernel_rfl) (by kernel_rfl) (of_decide_eq_true (by kernel_rfl)) (c120_0 (envOf [a0, a1]) H Q h)
def hint103 : Nat → List Nat := p5Z []
def m103 (x0 : Value) (H : Heap) (Q : QT) : Prop :=
oNew (Value.cells x0).toList (Value.cells x0).toList.length 150 H fun u0 u1 =>
oV (qWZ ty150 (qTZ u0) u1) fun u2 =>
oRC Tryd.prog 120 [u2, (.func (.func 121) #[] #[(qTZ u0)])] u1 (pKZ Q) fun u3 u4 =>
Q (.returned (.tuple #[])) u4
theorem c103_0 (env : Env) (H : Heap) (Q : QT) (h : m103 (env 0) H Q) :
    qUZ Tryd.prog 5 (qSZ Tryd.f103) env H (mkK (rKZ Tryd.f103 Q) (fun _ _ _ => False) (rKZ Tryd.f103 Q) (pKZ Q)) :=
  qUZ.leaf_ (T := T) (X := ext) (hint := hint103) tok xok mixed (by kernel_rfl) h
theorem call103 (a0 : Value) (H : Heap) (Q : QT) (h : m103 a0 H Q) : qVZ Tryd.prog 103 [a0] H Q :=
  qVZ.intro (nt := 5) tok Tryd.func103 (by kernel_rfl) (by kernel_rfl) (by kernel_rfl) (of_decide_eq_true (by kernel_rfl)) (c103_0 (envOf [a0]) H Q h)
def hint126 : Nat → List Nat := p5Z [(9, [0,1,2,3,4,5,6,7,8,9,10,11,12,13])]
def m126_1 (x7 : Value) (H : Heap) (Q : QT) : Prop :=
Q (.returned x7) H
theorem c126_1 (env : Env) (H : Heap) (Q : QT) (h : m126_1 (env 7) H Q) :
    qUZ Tryd.prog 49 (qRZ [1,1,1,1] (qSZ Tryd.f126)) env H (mkK (rKZ Tryd.f126 Q) (fun _ _ _ => False) (rKZ Tryd.f126 Q) (pKZ Q)) :=
  qUZ.leaf_ (T := T) (X := ext) (hint := hint126) tok xok mixed (by kernel_rfl) h
def L126_3 (x0 x2 x7 x8 x16 x17 x18 : Value) (H : Heap) (kn : K1T) (Q : QT) : Prop :=
  ∀ env : Env, env 0 = x0 → env 2 = x2 → env 7 = x7 → env 8 = x8 → env 16 = x16 → env 17 = x17 → env 18 = x18 → RLoop Tryd.prog 49 (qRZ [1,1,1,0,1,0,0] (qSZ Tryd.f126)) env H (mkK (fun _ _ => False) (inK 0 (fun e H => kn (e 7) H) (fun _ _ _ => False)) (rKZ Tryd.f126 Q) (pKZ Q))
theorem cL126_3 (env : Env) (H : Heap) (kn : K1T) (Q : QT) (h : L126_3 (env 0) (env 2) (env 7) (env 8) (env 16) (env 17) (env 18) H kn Q) :
    qUZ Tryd.prog 49 (qRZ [1,1,1,0,1] (qSZ Tryd.f126)) env H (mkK (fun e H => kn (e 7) H) (fun _ _ _ => False) (rKZ Tryd.f126 Q) (pKZ Q)) :=
  qUZ.blk (by kernel_rfl : (qRZ [1,1,1,0,1] (qSZ Tryd.f126)) = .block 0 (qRZ [1,1,1,0,1,0] (qSZ Tryd.f126))) (qUZ.lp (by kernel_rfl : (qRZ [1,1,1,0,1,0] (qSZ Tryd.f126)) = .loop (qRZ [1,1,1,0,1,0,0] (qSZ Tryd.f126))) ((h env rfl rfl rfl rfl rfl rfl rfl).mono (qPZ (fun _ _ h => h.elim) (fun _ _ _ h => h) (fun _ _ h => h) (fun _ _ h => h))))
def m126_5 (x0 x2 x7 x8 x16 x17 x18 : Value) (H : Heap) (kn : K7T) (kx0 : K1T) (Q : QT) : Prop :=
oV (vInt .add x18 (.int .i64 1)) fun u0 =>
kn x0 x2 x7 x8 x16 x17 u0 H
theorem c126_5 (env : Env) (H : Heap) (kn : K7T) (kx0 : K1T) (Q : QT) (h : m126_5 (env 0) (env 2) (env 7) (env 8) (env 16) (env 17) (env 18) H kn kx0 Q) :
    qUZ Tryd.prog 49 (qRZ [1,1,1,0,1,0,0,1,1,1] (qSZ Tryd.f126)) env H (mkK (fun e H => kn (e 0) (e 2) (e 7) (e 8) (e 16) (e 17) (e 18) H) (inK 0 (fun e H => kx0 (e 7) H) (fun _ _ _ => False)) (rKZ Tryd.f126 Q) (pKZ Q)) :=
  qUZ.leaf_ (T := T) (X := ext) (hint := hint126) tok xok mixed (by kernel_rfl) h
def m126_8 (x0 x2 x7 x8 x16 x17 x18 : Value) (H : Heap) (kn : K7T) (kx1 : K7T) (kx0 : K1T) (Q : QT) : Prop :=
oRC Tryd.prog 139 [x0, x8, x2] H (pKZ Q) fun u0 u1 =>
kn x0 x2 x7 u0 x16 x17 x18 u1
theorem c126_8 (env : Env) (H : Heap) (kn : K7T) (kx1 : K7T) (kx0 : K1T) (Q : QT) (h : m126_8 (env 0) (env 2) (env 7) (env 8) (env 16) (env 17) (env 18) H kn kx1 kx0 Q) :
    qUZ Tryd.prog 49 (qRZ [1,1,1,0,1,0,0,1,1,0,0,1,1] (qSZ Tryd.f126)) env H (mkK (fun e H => kn (e 0) (e 2) (e 7) (e 8) (e 16) (e 17) (e 18) H) (inK 1 (fun e H => kx1 (e 0) (e 2) (e 7) (e 8) (e 16) (e 17) (e 18) H) (inK 0 (fun e H => kx0 (e 7) H) (fun _ _ _ => False))) (rKZ Tryd.f126 Q) (pKZ Q)) :=
  qUZ.leaf_ (T := T) (X := ext) (hint := hint126) tok xok mixed (by kernel_rfl) h
def L126_10 (x0 x2 x7 x8 x16 x17 x18 x22 x23 x24 : Value) (H : Heap) (kn : K7T) (kx1 : K7T) (kx0 : K1T) (Q : QT) : Prop :=
  ∀ env : Env, env 0 = x0 → env 2 = x2 → env 7 = x7 → env 8 = x8 → env 16 = x16 → env 17 = x17 → env 18 = x18 → env 22 = x22 → env 23 = x23 → env 24 = x24 → RLoop Tryd.prog 49 (qRZ [1,1,1,0,1,0,0,1,1,0,0,1,0,1,0,0] (qSZ Tryd.f126)) env H (mkK (fun _ _ => False) (inK 2 (fun e H => kn (e 0) (e 2) (e 7) (e 8) (e 16) (e 17) (e 18) H) (inK 1 (fun e H => kx1 (e 0) (e 2) (e 7) (e 8) (e 16) (e 17) (e 18) H) (inK 0 (fun e H => kx0 (e 7) H) (fun _ _ _ => False)))) (rKZ Tryd.f126 Q) (pKZ Q))
theorem cL126_10 (env : Env) (H : Heap) (kn : K7T) (kx1 : K7T) (kx0 : K1T) (Q : QT) (h : L126_10 (env 0) (env 2) (env 7) (env 8) (env 16) (env 17) (env 18) (env 22) (env 23) (env 24) H kn kx1 kx0 Q) :
    qUZ Tryd.prog 49 (qRZ [1,1,1,0,1,0,0,1,1,0,0,1,0,1] (qSZ Tryd.f126)) env H (mkK (fun e H => kn (e 0) (e 2) (e 7) (e 8) (e 16) (e 17) (e 18) H) (inK 1 (fun e H => kx1 (e 0) (e 2) (e 7) (e 8) (e 16) (e 17) (e 18) H) (inK 0 (fun e H => kx0 (e 7) H) (fun _ _ _ => False))) (rKZ Tryd.f126 Q) (pKZ Q)) :=
  qUZ.blk (by kernel_rfl : (qRZ [1,1,1,0,1,0,0,1,1,0,0,1,0,1] (qSZ Tryd.f126)) = .block 2 (qRZ [1,1,1,0,1,0,0,1,1,0,0,1,0,1,0] (qSZ Tryd.f126))) (qUZ.lp (by kernel_rfl : (qRZ [1,1,1,0,1,0,0,1,1,0,0,1,0,1,0] (qSZ Tryd.f126)) = .loop (qRZ [1,1,1,0,1,0,0,1,1,0,0,1,0,1,0,0] (qSZ Tryd.f126))) ((h env rfl rfl rfl rfl rfl rfl rfl rfl rfl rfl).mono (qPZ (fun _ _ h => h.elim) (fun _ _ _ h => h) (fun _ _ h => h) (fun _ _ h => h))))
def m126_11 (x0 x2 x7 x8 x16 x17 x18 x22 x23 x24 : Value) (H : Heap) (kn : K10T) (kx2 : K7T) (kx1 : K7T) (kx0 : K1T) (Q : QT) : Prop :=
oV (vInt .lss x24 x23) fun u0 =>
p7Z u0 (
oV (p1Z 1 x22 x24) fun u1 =>
oV (qWZ ty22 u1 H) fun u2 =>
oV (p1Z 1 x7 x24) fun u3 =>
oV (qWZ ty22 u3 H) fun u4 =>
oRC Tryd.prog 139 [x0, u2, x8] H noP fun u5 u6 =>
(qWZ ty22 u3 u6 = some u4 ∧
oRC Tryd.prog 137 [x0, u4, u5] u6 noP fun u7 u8 =>
oV (p1Z 1 x7 x24) fun u9 =>
oHeap (p2Z ty22 u9 u7 u8) fun u10 =>
oV (vInt .add x24 (.int .i64 1)) fun u11 =>
kn x0 x2 x7 x8 x16 x17 x18 x22 x23 u11 u10)) (
kx2 x0 x2 x7 x8 x16 x17 x18 H)
theorem c126_11 (env : Env) (H : Heap) (kn : K10T) (kx2 : K7T) (kx1 : K7T) (kx0 : K1T) (Q : QT) (h : m126_11 (env 0) (env 2) (env 7) (env 8) (env 16) (env 17) (env 18) (env 22) (env 23) (env 24) H kn kx2 kx1 kx0 Q) :
    qUZ Tryd.prog 49 (qRZ [1,1,1,0,1,0,0,1,1,0,0,1,0,1,0,0] (qSZ Tryd.f126)) env H (mkK (fun e H => kn (e 0) (e 2) (e 7) (e 8) (e 16) (e 17) (e 18) (e 22) (e 23) (e 24) H) (inK 2 (fun e H => kx2 (e 0) (e 2) (e 7) (e 8) (e 16) (e 17) (e 18) H) (inK 1 (fun e H => kx1 (e 0) (e 2) (e 7) (e 8) (e 16) (e 17) (e 18) H) (inK 0 (fun e H => kx0 (e 7) H) (fun _ _ _ => False)))) (rKZ Tryd.f126 Q) (pKZ Q)) :=
  qUZ.leaf_ (T := T) (X := ext) (hint := hint126) tok xok mixed (by kernel_rfl) h
theorem L126_10_round (x0 x2 x7 x8 x16 x17 x18 x22 x23 x24 : Value) (H : Heap) (kn : K7T) (kx1 : K7T) (kx0 : K1T) (Q : QT) (h : m126_11 x0 x2 x7 x8 x16 x17 x18 x22 x23 x24 H (fun y0 y2 y7 y8 y16 y17 y18 y22 y23 y24 H => L126_10 y0 y2 y7 y8 y16 y17 y18 y22 y23 y24 H kn kx1 kx0 Q) kn kx1 kx0 Q) : L126_10 x0 x2 x7 x8 x16 x17 x18 x22 x23 x24 H kn kx1 kx0 Q := by
  intro env h0 h2 h7 h8 h16 h17 h18 h22 h23 h24
  subst h0; subst h2; subst h7; subst h8; subst h16; subst h17; subst h18; subst h22; subst h23; subst h24
  exact RLoop.round ((c126_11 env H (fun y0 y2 y7 y8 y16 y17 y18 y22 y23 y24 H => L126_10 y0 y2 y7 y8 y16 y17 y18 y22 y23 y24 H kn kx1 kx0 Q) kn kx1 kx0 Q h).mono (qPZ (fun e H h => h e rfl rfl rfl rfl rfl rfl rfl rfl rfl rfl) (fun _ _ _ h => h) (fun _ _ h => h) (fun _ _ h => h)))
def m126_9 (x0 x2 x7 x8 x10 x16 x17 x18 : Value) (H : Heap) (kn : K7T) (kx1 : K7T) (kx0 : K1T) (Q : QT) : Prop :=
oV (vLen x10) fun u0 =>
L126_10 x0 x2 x7 x8 x16 x17 x18 x10 u0 (.int .i64 0) H kn kx1 kx0 Q
theorem c126_9 (env : Env) (H : Heap) (kn : K7T) (kx1 : K7T) (kx0 : K1T) (Q : QT) (h : m126_9 (env 0) (env 2) (env 7) (env 8) (env 10) (env 16) (env 17) (env 18) H kn kx1 kx0 Q) :
    qUZ Tryd.prog 49 (qRZ [1,1,1,0,1,0,0,1,1,0,0,1,0] (qSZ Tryd.f126)) env H (mkK (fun e H => kn (e 0) (e 2) (e 7) (e 8) (e 16) (e 17) (e 18) H) (inK 1 (fun e H => kx1 (e 0) (e 2) (e 7) (e 8) (e 16) (e 17) (e 18) H) (inK 0 (fun e H => kx0 (e 7) H) (fun _ _ _ => False))) (rKZ Tryd.f126 Q) (pKZ Q)) :=
  qUZ.prefix_ (T := T) (X := ext) (hint := hint126) (hole := (fun e H => L126_10 (e 0) (e 2) (e 7) (e 8) (e 16) (e 17) (e 18) (e 22) (e 23) (e 24) H kn kx1 kx0 Q)) tok xok mixed 1 (by kernel_rfl) (by kernel_rfl : qRZ _ _ = (qRZ [1,1,1,0,1,0,0,1,1,0,0,1,0,1] (qSZ Tryd.f126))) h
    (fun e H h => (cL126_10 e H kn kx1 kx0 Q h))
def m126_7 (x0 x2 x7 x8 x16 x17 x18 : Value) (H : Heap) (kn : K7T) (kx1 : K7T) (kx0 : K1T) (Q : QT) : Prop :=
oV (p1Z 1 x16 x18) fun u0 =>
oV (qWZ ty52 u0 H) fun u1 =>
m126_9 x0 x2 x7 x8 u1 x16 x17 x18 H (fun u2 u3 u4 u5 u6 u7 u8 u9 => m126_8 u2 u3 u4 u5 u6 u7 u8 u9 kn kx1 kx0 Q) kx1 kx0 Q
theorem c126_7 (env : Env) (H : Heap) (kn : K7T) (kx1 : K7T) (kx0 : K1T) (Q : QT) (h : m126_7 (env 0) (env 2) (env 7) (env 8) (env 16) (env 17) (env 18) H kn kx1 kx0 Q) :
    qUZ Tryd.prog 49 (qRZ [1,1,1,0,1,0,0,1,1,0,0] (qSZ Tryd.f126)) env H (mkK (fun e H => kn (e 0) (e 2) (e 7) (e 8) (e 16) (e 17) (e 18) H) (inK 1 (fun e H => kx1 (e 0) (e 2) (e 7) (e 8) (e 16) (e 17) (e 18) H) (inK 0 (fun e H => kx0 (e 7) H) (fun _ _ _ => False))) (rKZ Tryd.f126 Q) (pKZ Q)) :=
  qUZ.prefix_ (T := T) (X := ext) (hint := hint126) (hole := (fun e H => m126_9 (e 0) (e 2) (e 7) (e 8) (e 10) (e 16) (e 17) (e 18) H (fun y0_27 y2_28 y7_29 y8_30 y16_31 y17_32 y18_33 H_34 => m126_8 y0_27 y2_28 y7_29 y8_30 y16_31 y17_32 y18_33 H_34 kn kx1 kx0 Q) kx1 kx0 Q)) tok xok mixed 1 (by kernel_rfl) (by kernel_rfl : qRZ _ _ = (qRZ [1,1,1,0,1,0,0,1,1,0,0,1] (qSZ Tryd.f126))) h
    (fun e H h => qUZ.join (by kernel_rfl : (qRZ [1,1,1,0,1,0,0,1,1,0,0,1] (qSZ Tryd.f126)) = .seq (qRZ [1,1,1,0,1,0,0,1,1,0,0,1,0] (qSZ Tryd.f126)) (qRZ [1,1,1,0,1,0,0,1,1,0,0,1,1] (qSZ Tryd.f126))) ((c126_9 e H (fun y0_35 y2_36 y7_37 y8_38 y16_39 y17_40 y18_41 H_42 => m126_8 y0_35 y2_36 y7_37 y8_38 y16_39 y17_40 y18_41 H_42 kn kx1 kx0 Q) kx1 kx0 Q h).mono (qPZ (fun e H h => c126_8 e H kn kx1 kx0 Q h) (fun _ _ _ h => h) (fun _ _ h => h) (fun _ _ h => h))))
def m126_6 (x0 x2 x7 x8 x16 x17 x18 : Value) (H : Heap) (kn : K7T) (kx0 : K1T) (Q : QT) : Prop :=
m126_7 x0 x2 x7 x8 x16 x17 x18 H kn kn kx0 Q
theorem c126_6 (env : Env) (H : Heap) (kn : K7T) (kx0 : K1T) (Q : QT) (h : m126_6 (env 0) (env 2) (env 7) (env 8) (env 16) (env 17) (env 18) H kn kx0 Q) :
    qUZ Tryd.prog 49 (qRZ [1,1,1,0,1,0,0,1,1,0] (qSZ Tryd.f126)) env H (mkK (fun e H => kn (e 0) (e 2) (e 7) (e 8) (e 16) (e 17) (e 18) H) (inK 0 (fun e H => kx0 (e 7) H) (fun _ _ _ => False)) (rKZ Tryd.f126 Q) (pKZ Q)) :=
  qUZ.blk (by kernel_rfl : (qRZ [1,1,1,0,1,0,0,1,1,0] (qSZ Tryd.f126)) = .block 1 (qRZ [1,1,1,0,1,0,0,1,1,0,0] (qSZ Tryd.f126))) (c126_7 env H kn kn kx0 Q h)
def m126_4 (x0 x2 x7 x8 x16 x17 x18 : Value) (H : Heap) (kn : K7T) (kx0 : K1T) (Q : QT) : Prop :=
oV (vInt .lss x18 x17) fun u0 =>
p7Z u0 (
m126_6 x0 x2 x7 x8 x16 x17 x18 H (fun u1 u2 u3 u4 u5 u6 u7 u8 => m126_5 u1 u2 u3 u4 u5 u6 u7 u8 kn kx0 Q) kx0 Q) (
kx0 x7 H)
theorem c126_4 (env : Env) (H : Heap) (kn : K7T) (kx0 : K1T) (Q : QT) (h : m126_4 (env 0) (env 2) (env 7) (env 8) (env 16) (env 17) (env 18) H kn kx0 Q) :
    qUZ Tryd.prog 49 (qRZ [1,1,1,0,1,0,0] (qSZ Tryd.f126)) env H (mkK (fun e H => kn (e 0) (e 2) (e 7) (e 8) (e 16) (e 17) (e 18) H) (inK 0 (fun e H => kx0 (e 7) H) (fun _ _ _ => False)) (rKZ Tryd.f126 Q) (pKZ Q)) :=
  qUZ.prefix_ (T := T) (X := ext) (hint := hint126) (hole := (fun e H => m126_6 (e 0) (e 2) (e 7) (e 8) (e 16) (e 17) (e 18) H (fun y0_52 y2_53 y7_54 y8_55 y16_56 y17_57 y18_58 H_59 => m126_5 y0_52 y2_53 y7_54 y8_55 y16_56 y17_57 y18_58 H_59 kn kx0 Q) kx0 Q)) tok xok mixed 2 (by kernel_rfl) (by kernel_rfl : qRZ _ _ = (qRZ [1,1,1,0,1,0,0,1,1] (qSZ Tryd.f126))) h
    (fun e H h => qUZ.join (by kernel_rfl : (qRZ [1,1,1,0,1,0,0,1,1] (qSZ Tryd.f126)) = .seq (qRZ [1,1,1,0,1,0,0,1,1,0] (qSZ Tryd.f126)) (qRZ [1,1,1,0,1,0,0,1,1,1] (qSZ Tryd.f126))) ((c126_6 e H (fun y0_60 y2_61 y7_62 y8_63 y16_64 y17_65 y18_66 H_67 => m126_5 y0_60 y2_61 y7_62 y8_63 y16_64 y17_65 y18_66 H_67 kn kx0 Q) kx0 Q h).mono (qPZ (fun e H h => c126_5 e H kn kx0 Q h) (fun _ _ _ h => h) (fun _ _ h => h) (fun _ _ h => h))))
theorem L126_3_round (x0 x2 x7 x8 x16 x17 x18 : Value) (H : Heap) (kn : K1T) (Q : QT) (h : m126_4 x0 x2 x7 x8 x16 x17 x18 H (fun y0 y2 y7 y8 y16 y17 y18 H => L126_3 y0 y2 y7 y8 y16 y17 y18 H kn Q) kn Q) : L126_3 x0 x2 x7 x8 x16 x17 x18 H kn Q := by
  intro env h0 h2 h7 h8 h16 h17 h18
  subst h0; subst h2; subst h7; subst h8; subst h16; subst h17; subst h18
  exact RLoop.round ((c126_4 env H (fun y0 y2 y7 y8 y16 y17 y18 H => L126_3 y0 y2 y7 y8 y16 y17 y18 H kn Q) kn Q h).mono (qPZ (fun e H h => h e rfl rfl rfl rfl rfl rfl rfl) (fun _ _ _ h => h) (fun _ _ h => h) (fun _ _ h => h)))
def m126_2 (x0 x1 x2 x7 x8 : Value) (H : Heap) (kn : K1T) (Q : QT) : Prop :=
oV (vLen x1) fun u0 =>
L126_3 x0 x2 x7 x8 x1 u0 (.int .i64 0) H kn Q
theorem c126_2 (env : Env) (H : Heap) (kn : K1T) (Q : QT) (h : m126_2 (env 0) (env 1) (env 2) (env 7) (env 8) H kn Q) :
    qUZ Tryd.prog 49 (qRZ [1,1,1,0] (qSZ Tryd.f126)) env H (mkK (fun e H => kn (e 7) H) (fun _ _ _ => False) (rKZ Tryd.f126 Q) (pKZ Q)) :=
  qUZ.prefix_ (T := T) (X := ext) (hint := hint126) (hole := (fun e H => L126_3 (e 0) (e 2) (e 7) (e 8) (e 16) (e 17) (e 18) H kn Q)) tok xok mixed 1 (by kernel_rfl) (by kernel_rfl : qRZ _ _ = (qRZ [1,1,1,0,1] (qSZ Tryd.f126))) h
    (fun e H h => (cL126_3 e H kn Q h))
def m126 (x0 x1 x2 : Value) (H : Heap) (Q : QT) : Prop :=
oV (vLen x1) fun u0 =>
oMake ty22 22 u0 u0 H fun u1 u2 =>
m126_2 x0 x1 x2 u1 (.int .u64 1) u2 (fun u3 u4 => m126_1 u3 u4 Q) Q
theorem c126_0 (env : Env) (H : Heap) (Q : QT) (h : m126 (env 0) (env 1) (env 2) H Q) :
    qUZ Tryd.prog 49 (qSZ Tryd.f126) env H (mkK (rKZ Tryd.f126 Q) (fun _ _ _ => False) (rKZ Tryd.f126 Q) (pKZ Q)) :=
  qUZ.prefix_ (T := T) (X := ext) (hint := hint126) (hole := (fun e H => m126_2 (e 0) (e 1) (e 2) (e 7) (e 8) H (fun y7_74 H_75 => m126_1 y7_74 H_75 Q) Q)) tok xok mixed 3 (by kernel_rfl) (by kernel_rfl : qRZ _ _ = (qRZ [1,1,1] (qSZ Tryd.f126))) h
    (fun e H h => qUZ.join (by kernel_rfl : (qRZ [1,1,1] (qSZ Tryd.f126)) = .seq (qRZ [1,1,1,0] (qSZ Tryd.f126)) (qRZ [1,1,1,1] (qSZ Tryd.f126))) ((c126_2 e H (fun y7_76 H_77 => m126_1 y7_76 H_77 Q) Q h).mono (qPZ (fun e H h => c126_1 e H Q h) (fun _ _ _ h => h) (fun _ _ h => h) (fun _ _ h => h))))
theorem call126 (a0 a1 a2 : Value) (H : Heap) (Q : QT) (h : m126 a0 a1 a2 H Q) : qVZ Tryd.prog 126 [a0, a1, a2] H Q :=
  qVZ.intro (nt := 49) tok Tryd.func126 (by kernel_rfl) (by kernel_rfl) (by kernel_rfl) (of_decide_eq_true (by kernel_rfl)) (c126_0 (envOf [a0, a1, a2]) H Q h)
def hint125 : Nat → List Nat := p5Z [(9, [0,1,2,3,4,5,6,7,8,9,10])]
def L125_1 (x0 x1 x2 x4 : Value) (H : Heap) (kn : K0T) (Q : QT) : Prop :=
  ∀ env : Env, env 0 = x0 → env 1 = x1 → env 2 = x2 → env 4 = x4 → RLoop Tryd.prog 52 (qRZ [1,0,0] (qSZ Tryd.f125)) env H (mkK (fun _ _ => False) (inK 0 (fun e H => kn H) (fun _ _ _ => False)) (rKZ Tryd.f125 Q) (pKZ Q))
theorem cL125_1 (env : Env) (H : Heap) (kn : K0T) (Q : QT) (h : L125_1 (env 0) (env 1) (env 2) (env 4) H kn Q) :
    qUZ Tryd.prog 52 (qRZ [1] (qSZ Tryd.f125)) env H (mkK (fun e H => kn H) (fun _ _ _ => False) (rKZ Tryd.f125 Q) (pKZ Q)) :=
  qUZ.blk (by kernel_rfl : (qRZ [1] (qSZ Tryd.f125)) = .block 0 (qRZ [1,0] (qSZ Tryd.f125))) (qUZ.lp (by kernel_rfl : (qRZ [1,0] (qSZ Tryd.f125)) = .loop (qRZ [1,0,0] (qSZ Tryd.f125))) ((h env rfl rfl rfl rfl).mono (qPZ (fun _ _ h => h.elim) (fun _ _ _ h => h) (fun _ _ h => h) (fun _ _ h => h))))
def m125_3 (x0 x1 x2 x4 : Value) (H : Heap) (kn : K4T) (kx0 : K0T) (Q : QT) : Prop :=
oV (vInt .add x4 (.int .i64 1)) fun u0 =>
kn x0 x1 x2 u0 H
theorem c125_3 (env : Env) (H : Heap) (kn : K4T) (kx0 : K0T) (Q : QT) (h : m125_3 (env 0) (env 1) (env 2) (env 4) H kn kx0 Q) :
    qUZ Tryd.prog 52 (qRZ [1,0,0,1,1] (qSZ Tryd.f125)) env H (mkK (fun e H => kn (e 0) (e 1) (e 2) (e 4) H) (inK 0 (fun e H => kx0 H) (fun _ _ _ => False)) (rKZ Tryd.f125 Q) (pKZ Q)) :=
  qUZ.leaf_ (T := T) (X := ext) (hint := hint125) tok xok mixed (by kernel_rfl) h
def m125_6 (x0 x1 x2 x4 x5 : Value) (H : Heap) (kn : K4T) (kx1 : K4T) (kx0 : K0T) (Q : QT) : Prop :=
oV (qWZ ty44 x2 H) fun u0 =>
oV (qWZ ty44 x2 H) fun u1 =>
oV (p1Z 1 u1 x0) fun u2 =>
oV (qWZ ty27 u2 H) fun u3 =>
p3Z ty52 52 1 [((0,1), x5)] H fun u4 u5 =>
p4Z ty52 52 u3 u4 u5 fun u6 u7 =>
(qWZ ty44 x2 u7 = some u0 ∧
oV (p1Z 1 u0 x0) fun u8 =>
oHeap (p2Z ty27 u8 u6 u7) fun u9 =>
kn x0 x1 x2 x4 u9)
theorem c125_6 (env : Env) (H : Heap) (kn : K4T) (kx1 : K4T) (kx0 : K0T) (Q : QT) (h : m125_6 (env 0) (env 1) (env 2) (env 4) (env 5) H kn kx1 kx0 Q) :
    qUZ Tryd.prog 52 (qRZ [1,0,0,1,0,0,1,1] (qSZ Tryd.f125)) env H (mkK (fun e H => kn (e 0) (e 1) (e 2) (e 4) H) (inK 1 (fun e H => kx1 (e 0) (e 1) (e 2) (e 4) H) (inK 0 (fun e H => kx0 H) (fun _ _ _ => False))) (rKZ Tryd.f125 Q) (pKZ Q)) :=
  qUZ.leaf_ (T := T) (X := ext) (hint := hint125) tok xok mixed (by kernel_rfl) h
def L125_8 (x0 x1 x2 x4 x5 x24 x25 x26 : Value) (H : Heap) (kn : K5T) (kx1 : K4T) (kx0 : K0T) (Q : QT) : Prop :=
  ∀ env : Env, env 0 = x0 → env 1 = x1 → env 2 = x2 → env 4 = x4 → env 5 = x5 → env 24 = x24 → env 25 = x25 → env 26 = x26 → RLoop Tryd.prog 52 (qRZ [1,0,0,1,0,0,1,0,1,0,0] (qSZ Tryd.f125)) env H (mkK (fun _ _ => False) (inK 2 (fun e H => kn (e 0) (e 1) (e 2) (e 4) (e 5) H) (inK 1 (fun e H => kx1 (e 0) (e 1) (e 2) (e 4) H) (inK 0 (fun e H => kx0 H) (fun _ _ _ => False)))) (rKZ Tryd.f125 Q) (pKZ Q))
theorem cL125_8 (env : Env) (H : Heap) (kn : K5T) (kx1 : K4T) (kx0 : K0T) (Q : QT) (h : L125_8 (env 0) (env 1) (env 2) (env 4) (env 5) (env 24) (env 25) (env 26) H kn kx1 kx0 Q) :
    qUZ Tryd.prog 52 (qRZ [1,0,0,1,0,0,1,0,1] (qSZ Tryd.f125)) env H (mkK (fun e H => kn (e 0) (e 1) (e 2) (e 4) (e 5) H) (inK 1 (fun e H => kx1 (e 0) (e 1) (e 2) (e 4) H) (inK 0 (fun e H => kx0 H) (fun _ _ _ => False))) (rKZ Tryd.f125 Q) (pKZ Q)) :=
  qUZ.blk (by kernel_rfl : (qRZ [1,0,0,1,0,0,1,0,1] (qSZ Tryd.f125)) = .block 2 (qRZ [1,0,0,1,0,0,1,0,1,0] (qSZ Tryd.f125))) (qUZ.lp (by kernel_rfl : (qRZ [1,0,0,1,0,0,1,0,1,0] (qSZ Tryd.f125)) = .loop (qRZ [1,0,0,1,0,0,1,0,1,0,0] (qSZ Tryd.f125))) ((h env rfl rfl rfl rfl rfl rfl rfl rfl).mono (qPZ (fun _ _ h => h.elim) (fun _ _ _ h => h) (fun _ _ h => h) (fun _ _ h => h))))
def m125_9 (x0 x1 x2 x4 x5 x24 x25 x26 : Value) (H : Heap) (kn : K8T) (kx2 : K5T) (kx1 : K4T) (kx0 : K0T) (Q : QT) : Prop :=
oV (vInt .lss x26 x25) fun u0 =>
p7Z u0 (
oV (p1Z 1 x24 x26) fun u1 =>
oV (qWZ ty27 u1 H) fun u2 =>
oV (qWZ ty150 x1 H) fun u3 =>
oV (vNil u3) fun u4 =>
oV (qYZ 1 u4) fun u5 =>
oV (qYZ 0 u5) fun u6 =>
oV (qWZ ty22 u6 H) fun u7 =>
oV (vConv (.int .u64) x4) fun u8 =>
oRC Tryd.prog 126 [u7, u2, u8] H (pKZ Q) fun u9 u10 =>
p4Z ty22 22 x5 u9 u10 fun u11 u12 =>
oV (vInt .add x26 (.int .i64 1)) fun u13 =>
kn x0 x1 x2 x4 u11 x24 x25 u13 u12) (
kx2 x0 x1 x2 x4 x5 H)
theorem c125_9 (env : Env) (H : Heap) (kn : K8T) (kx2 : K5T) (kx1 : K4T) (kx0 : K0T) (Q : QT) (h : m125_9 (env 0) (env 1) (env 2) (env 4) (env 5) (env 24) (env 25) (env 26) H kn kx2 kx1 kx0 Q) :
    qUZ Tryd.prog 52 (qRZ [1,0,0,1,0,0,1,0,1,0,0] (qSZ Tryd.f125)) env H (mkK (fun e H => kn (e 0) (e 1) (e 2) (e 4) (e 5) (e 24) (e 25) (e 26) H) (inK 2 (fun e H => kx2 (e 0) (e 1) (e 2) (e 4) (e 5) H) (inK 1 (fun e H => kx1 (e 0) (e 1) (e 2) (e 4) H) (inK 0 (fun e H => kx0 H) (fun _ _ _ => False)))) (rKZ Tryd.f125 Q) (pKZ Q)) :=
  qUZ.leaf_ (T := T) (X := ext) (hint := hint125) tok xok mixed (by kernel_rfl) h
theorem L125_8_round (x0 x1 x2 x4 x5 x24 x25 x26 : Value) (H : Heap) (kn : K5T) (kx1 : K4T) (kx0 : K0T) (Q : QT) (h : m125_9 x0 x1 x2 x4 x5 x24 x25 x26 H (fun y0 y1 y2 y4 y5 y24 y25 y26 H => L125_8 y0 y1 y2 y4 y5 y24 y25 y26 H kn kx1 kx0 Q) kn kx1 kx0 Q) : L125_8 x0 x1 x2 x4 x5 x24 x25 x26 H kn kx1 kx0 Q := by
  intro env h0 h1 h2 h4 h5 h24 h25 h26
  subst h0; subst h1; subst h2; subst h4; subst h5; subst h24; subst h25; subst h26
  exact RLoop.round ((c125_9 env H (fun y0 y1 y2 y4 y5 y24 y25 y26 H => L125_8 y0 y1 y2 y4 y5 y24 y25 y26 H kn kx1 kx0 Q) kn kx1 kx0 Q h).mono (qPZ (fun e H h => h e rfl rfl rfl rfl rfl rfl rfl rfl) (fun _ _ _ h => h) (fun _ _ h => h) (fun _ _ h => h)))
def m125_7 (x0 x1 x2 x4 x5 : Value) (H : Heap) (kn : K5T) (kx1 : K4T) (kx0 : K0T) (Q : QT) : Prop :=
oV (qWZ ty150 x1 H) fun u0 =>
oV (vNil u0) fun u1 =>
oV (qYZ 5 u1) fun u2 =>
oV (qYZ 0 u2) fun u3 =>
oV (qWZ ty69 u3 H) fun u4 =>
oV (p1Z 1 u4 x0) fun u5 =>
oV (qWZ ty44 u5 H) fun u6 =>
oV (vLen u6) fun u7 =>
L125_8 x0 x1 x2 x4 x5 u6 u7 (.int .i64 0) H kn kx1 kx0 Q
theorem c125_7 (env : Env) (H : Heap) (kn : K5T) (kx1 : K4T) (kx0 : K0T) (Q : QT) (h : m125_7 (env 0) (env 1) (env 2) (env 4) (env 5) H kn kx1 kx0 Q) :
    qUZ Tryd.prog 52 (qRZ [1,0,0,1,0,0,1,0] (qSZ Tryd.f125)) env H (mkK (fun e H => kn (e 0) (e 1) (e 2) (e 4) (e 5) H) (inK 1 (fun e H => kx1 (e 0) (e 1) (e 2) (e 4) H) (inK 0 (fun e H => kx0 H) (fun _ _ _ => False))) (rKZ Tryd.f125 Q) (pKZ Q)) :=
  qUZ.prefix_ (T := T) (X := ext) (hint := hint125) (hole := (fun e H => L125_8 (e 0) (e 1) (e 2) (e 4) (e 5) (e 24) (e 25) (e 26) H kn kx1 kx0 Q)) tok xok mixed 1 (by kernel_rfl) (by kernel_rfl : qRZ _ _ = (qRZ [1,0,0,1,0,0,1,0,1] (qSZ Tryd.f125))) h
    (fun e H h => (cL125_8 e H kn kx1 kx0 Q h))
def m125_5 (x0 x1 x2 x4 : Value) (H : Heap) (kn : K4T) (kx1 : K4T) (kx0 : K0T) (Q : QT) : Prop :=
m125_7 x0 x1 x2 x4 (.slice none 0 0) H (fun u0 u1 u2 u3 u4 u5 => m125_6 u0 u1 u2 u3 u4 u5 kn kx1 kx0 Q) kx1 kx0 Q
theorem c125_5 (env : Env) (H : Heap) (kn : K4T) (kx1 : K4T) (kx0 : K0T) (Q : QT) (h : m125_5 (env 0) (env 1) (env 2) (env 4) H kn kx1 kx0 Q) :
    qUZ Tryd.prog 52 (qRZ [1,0,0,1,0,0] (qSZ Tryd.f125)) env H (mkK (fun e H => kn (e 0) (e 1) (e 2) (e 4) H) (inK 1 (fun e H => kx1 (e 0) (e 1) (e 2) (e 4) H) (inK 0 (fun e H => kx0 H) (fun _ _ _ => False))) (rKZ Tryd.f125 Q) (pKZ Q)) :=
  qUZ.prefix_ (T := T) (X := ext) (hint := hint125) (hole := (fun e H => m125_7 (e 0) (e 1) (e 2) (e 4) (e 5) H (fun y0_40 y1_41 y2_42 y4_43 y5_44 H_45 => m125_6 y0_40 y1_41 y2_42 y4_43 y5_44 H_45 kn kx1 kx0 Q) kx1 kx0 Q)) tok xok mixed 1 (by kernel_rfl) (by kernel_rfl : qRZ _ _ = (qRZ [1,0,0,1,0,0,1] (qSZ Tryd.f125))) h
    (fun e H h => qUZ.join (by kernel_rfl : (qRZ [1,0,0,1,0,0,1] (qSZ Tryd.f125)) = .seq (qRZ [1,0,0,1,0,0,1,0] (qSZ Tryd.f125)) (qRZ [1,0,0,1,0,0,1,1] (qSZ Tryd.f125))) ((c125_7 e H (fun y0_46 y1_47 y2_48 y4_49 y5_50 H_51 => m125_6 y0_46 y1_47 y2_48 y4_49 y5_50 H_51 kn kx1 kx0 Q) kx1 kx0 Q h).mono (qPZ (fun e H h => c125_6 e H kn kx1 kx0 Q h) (fun _ _ _ h => h) (fun _ _ h => h) (fun _ _ h => h))))
def m125_4 (x0 x1 x2 x4 : Value) (H : Heap) (kn : K4T) (kx0 : K0T) (Q : QT) : Prop :=
m125_5 x0 x1 x2 x4 H kn kn kx0 Q
theorem c125_4 (env : Env) (H : Heap) (kn : K4T) (kx0 : K0T) (Q : QT) (h : m125_4 (env 0) (env 1) (env 2) (env 4) H kn kx0 Q) :
    qUZ Tryd.prog 52 (qRZ [1,0,0,1,0] (qSZ Tryd.f125)) env H (mkK (fun e H => kn (e 0) (e 1) (e 2) (e 4) H) (inK 0 (fun e H => kx0 H) (fun _ _ _ => False)) (rKZ Tryd.f125 Q) (pKZ Q)) :=
  qUZ.blk (by kernel_rfl : (qRZ [1,0,0,1,0] (qSZ Tryd.f125)) = .block 1 (qRZ [1,0,0,1,0,0] (qSZ Tryd.f125))) (c125_5 env H kn kn kx0 Q h)
def m125_2 (x0 x1 x2 x4 : Value) (H : Heap) (kn : K4T) (kx0 : K0T) (Q : QT) : Prop :=
oV (qWZ ty150 x1 H) fun u0 =>
oV (vNil u0) fun u1 =>
oV (qYZ 1 u1) fun u2 =>
oV (qYZ 1 u2) fun u3 =>
oV (qWZ ty3 u3 H) fun u4 =>
oV (vInt .leq x4 u4) fun u5 =>
p7Z u5 (
m125_4 x0 x1 x2 x4 H (fun u6 u7 u8 u9 u10 => m125_3 u6 u7 u8 u9 u10 kn kx0 Q) kx0 Q) (
kx0 H)
theorem c125_2 (env : Env) (H : Heap) (kn : K4T) (kx0 : K0T) (Q : QT) (h : m125_2 (env 0) (env 1) (env 2) (env 4) H kn kx0 Q) :
    qUZ Tryd.prog 52 (qRZ [1,0,0] (qSZ Tryd.f125)) env H (mkK (fun e H => kn (e 0) (e 1) (e 2) (e 4) H) (inK 0 (fun e H => kx0 H) (fun _ _ _ => False)) (rKZ Tryd.f125 Q) (pKZ Q)) :=
  qUZ.prefix_ (T := T) (X := ext) (hint := hint125) (hole := (fun e H => m125_4 (e 0) (e 1) (e 2) (e 4) H (fun y0_63 y1_64 y2_65 y4_66 H_67 => m125_3 y0_63 y1_64 y2_65 y4_66 H_67 kn kx0 Q) kx0 Q)) tok xok mixed 1 (by kernel_rfl) (by kernel_rfl : qRZ _ _ = (qRZ [1,0,0,1] (qSZ Tryd.f125))) h
    (fun e H h => qUZ.join (by kernel_rfl : (qRZ [1,0,0,1] (qSZ Tryd.f125)) = .seq (qRZ [1,0,0,1,0] (qSZ Tryd.f125)) (qRZ [1,0,0,1,1] (qSZ Tryd.f125))) ((c125_4 e H (fun y0_68 y1_69 y2_70 y4_71 H_72 => m125_3 y0_68 y1_69 y2_70 y4_71 H_72 kn kx0 Q) kx0 Q h).mono (qPZ (fun e H h => c125_3 e H kn kx0 Q h) (fun _ _ _ h => h) (fun _ _ h => h) (fun _ _ h => h))))
theorem L125_1_round (x0 x1 x2 x4 : Value) (H : Heap) (kn : K0T) (Q : QT) (h : m125_2 x0 x1 x2 x4 H (fun y0 y1 y2 y4 H => L125_1 y0 y1 y2 y4 H kn Q) kn Q) : L125_1 x0 x1 x2 x4 H kn Q := by
  intro env h0 h1 h2 h4
  subst h0; subst h1; subst h2; subst h4
  exact RLoop.round ((c125_2 env H (fun y0 y1 y2 y4 H => L125_1 y0 y1 y2 y4 H kn Q) kn Q h).mono (qPZ (fun e H h => h e rfl rfl rfl rfl) (fun _ _ _ h => h) (fun _ _ h => h) (fun _ _ h => h)))
def m125 (x0 x1 x2 : Value) (H : Heap) (Q : QT) : Prop :=
L125_1 x0 x1 x2 (.int .i64 1) H (fun u0 => Q (.returned (.tuple #[])) u0) Q
theorem c125_0 (env : Env) (H : Heap) (Q : QT) (h : m125 (env 0) (env 1) (env 2) H Q) :
    qUZ Tryd.prog 52 (qSZ Tryd.f125) env H (mkK (rKZ Tryd.f125 Q) (fun _ _ _ => False) (rKZ Tryd.f125 Q) (pKZ Q)) :=
  qUZ.prefix_ (T := T) (X := ext) (hint := hint125) (hole := (fun e H => L125_1 (e 0) (e 1) (e 2) (e 4) H (fun H_74 => Q (.returned (.tuple #[])) H_74) Q)) tok xok mixed 1 (by kernel_rfl) (by kernel_rfl : qRZ _ _ = (qRZ [1] (qSZ Tryd.f125))) h
    (fun e H h => ((cL125_1 e H (fun H_75 => Q (.returned (.tuple #[])) H_75) Q h).mono (qPZ (fun e H h => h) (fun _ _ _ h => h) (fun _ _ h => h) (fun _ _ h => h))))
theorem call125 (a0 a1 a2 : Value) (H : Heap) (Q : QT) (h : m125 a0 a1 a2 H Q) : qVZ Tryd.prog 125 [a0, a1, a2] H Q :=
  qVZ.intro (nt := 52) tok Tryd.func125 (by kernel_rfl) (by kernel_rfl) (by kernel_rfl) (of_decide_eq_true (by kernel_rfl)) (c125_0 (envOf [a0, a1, a2]) H Q h)
def hint127 : Nat → List Nat := p5Z [(3, [0,1,2,3,4,5,6,7,8,9,10,11,12]), (10, [0,1,2,3,4,5,6,7,8,9,10,11,12,13,14,15,16,17,18])]
def L127_1 (x0 x1 x2 x3 x13 x14 x15 : Value) (H : Heap) (kn : K0T) (Q : QT) : Prop :=
  ∀ env : Env, env 0 = x0 → env 1 = x1 → env 2 = x2 → env 3 = x3 → env 13 = x13 → env 14 = x14 → env 15 = x15 → RLoop Tryd.prog 69 (qRZ [1,0,0] (qSZ Tryd.f127)) env H (mkK (fun _ _ => False) (inK 0 (fun e H => kn H) (fun _ _ _ => False)) (rKZ Tryd.f127 Q) (pKZ Q))
theorem cL127_1 (env : Env) (H : Heap) (kn : K0T) (Q : QT) (h : L127_1 (env 0) (env 1) (env 2) (env 3) (env 13) (env 14) (env 15) H kn Q) :
    qUZ Tryd.prog 69 (qRZ [1] (qSZ Tryd.f127)) env H (mkK (fun e H => kn H) (fun _ _ _ => False) (rKZ Tryd.f127 Q) (pKZ Q)) :=
  qUZ.blk (by kernel_rfl : (qRZ [1] (qSZ Tryd.f127)) = .block 0 (qRZ [1,0] (qSZ Tryd.f127))) (qUZ.lp (by kernel_rfl : (qRZ [1,0] (qSZ Tryd.f127)) = .loop (qRZ [1,0,0] (qSZ Tryd.f127))) ((h env rfl rfl rfl rfl rfl rfl rfl).mono (qPZ (fun _ _ h => h.elim) (fun _ _ _ h => h) (fun _ _ h => h) (fun _ _ h => h))))
def m127_3 (x0 x1 x2 x3 x13 x14 x15 : Value) (H : Heap) (kn : K7T) (kx0 : K0T) (Q : QT) : Prop :=
oV (vInt .add x15 (.int .i64 1)) fun u0 =>
kn x0 x1 x2 x3 x13 x14 u0 H
theorem c127_3 (env : Env) (H : Heap) (kn : K7T) (kx0 : K0T) (Q : QT) (h : m127_3 (env 0) (env 1) (env 2) (env 3) (env 13) (env 14) (env 15) H kn kx0 Q) :
    qUZ Tryd.prog 69 (qRZ [1,0,0,1,1,1] (qSZ Tryd.f127)) env H (mkK (fun e H => kn (e 0) (e 1) (e 2) (e 3) (e 13) (e 14) (e 15) H) (inK 0 (fun e H => kx0 H) (fun _ _ _ => False)) (rKZ Tryd.f127 Q) (pKZ Q)) :=
  qUZ.leaf_ (T := T) (X := ext) (hint := hint127) tok xok mixed (by kernel_rfl) h
def m127_6 (x0 x1 x2 x3 x8 x13 x14 x15 : Value) (H : Heap) (kn : K7T) (kx1 : K7T) (kx0 : K0T) (Q : QT) : Prop :=
oV (qWZ ty150 x1 H) fun u0 =>
oV (vNil u0) fun u1 =>
oV (qYZ 5 u1) fun u2 =>
oV (qYZ 1 u2) fun u3 =>
oV (qWZ ty69 u3 H) fun u4 =>
oV (qWZ ty150 x1 H) fun u5 =>
oV (vNil u5) fun u6 =>
oV (qYZ 5 u6) fun u7 =>
oV (qYZ 1 u7) fun u8 =>
oV (qWZ ty69 u8 H) fun u9 =>
oV (p1Z 1 u9 x0) fun u10 =>
oV (qWZ ty44 u10 H) fun u11 =>
p3Z ty27 27 1 [((0,1), x8)] H fun u12 u13 =>
p4Z ty27 27 u11 u12 u13 fun u14 u15 =>
(qWZ ty69 u3 u15 = some u4 ∧
(qWZ ty150 x1 u15 = some u0 ∧
oV (p1Z 1 u4 x0) fun u16 =>
oHeap (p2Z ty44 u16 u14 u15) fun u17 =>
kn x0 x1 x2 x3 x13 x14 x15 u17))
theorem c127_6 (env : Env) (H : Heap) (kn : K7T) (kx1 : K7T) (kx0 : K0T) (Q : QT) (h : m127_6 (env 0) (env 1) (env 2) (env 3) (env 8) (env 13) (env 14) (env 15) H kn kx1 kx0 Q) :
    qUZ Tryd.prog 69 (qRZ [1,0,0,1,1,0,0,1,1,1,1] (qSZ Tryd.f127)) env H (mkK (fun e H => kn (e 0) (e 1) (e 2) (e 3) (e 13) (e 14) (e 15) H) (inK 1 (fun e H => kx1 (e 0) (e 1) (e 2) (e 3) (e 13) (e 14) (e 15) H) (inK 0 (fun e H => kx0 H) (fun _ _ _ => False))) (rKZ Tryd.f127 Q) (pKZ Q)) :=
  qUZ.leaf_ (T := T) (X := ext) (hint := hint127) tok xok mixed (by kernel_rfl) h
def L127_8 (x0 x1 x2 x3 x7 x8 x13 x14 x15 x33 x34 : Value) (H : Heap) (kn : K8T) (kx1 : K7T) (kx0 : K0T) (Q : QT) : Prop :=
  ∀ env : Env, env 0 = x0 → env 1 = x1 → env 2 = x2 → env 3 = x3 → env 7 = x7 → env 8 = x8 → env 13 = x13 → env 14 = x14 → env 15 = x15 → env 33 = x33 → env 34 = x34 → RLoop Tryd.prog 69 (qRZ [1,0,0,1,1,0,0,1,1,1,0,1,0,0] (qSZ Tryd.f127)) env H (mkK (fun _ _ => False) (inK 2 (fun e H => kn (e 0) (e 1) (e 2) (e 3) (e 8) (e 13) (e 14) (e 15) H) (inK 1 (fun e H => kx1 (e 0) (e 1) (e 2) (e 3) (e 13) (e 14) (e 15) H) (inK 0 (fun e H => kx0 H) (fun _ _ _ => False)))) (rKZ Tryd.f127 Q) (pKZ Q))
theorem cL127_8 (env : Env) (H : Heap) (kn : K8T) (kx1 : K7T) (kx0 : K0T) (Q : QT) (h : L127_8 (env 0) (env 1) (env 2) (env 3) (env 7) (env 8) (env 13) (env 14) (env 15) (env 33) (env 34) H kn kx1 kx0 Q) :
    qUZ Tryd.prog 69 (qRZ [1,0,0,1,1,0,0,1,1,1,0,1] (qSZ Tryd.f127)) env H (mkK (fun e H => kn (e 0) (e 1) (e 2) (e 3) (e 8) (e 13) (e 14) (e 15) H) (inK 1 (fun e H => kx1 (e 0) (e 1) (e 2) (e 3) (e 13) (e 14) (e 15) H) (inK 0 (fun e H => kx0 H) (fun _ _ _ => False))) (rKZ Tryd.f127 Q) (pKZ Q)) :=
  qUZ.blk (by kernel_rfl : (qRZ [1,0,0,1,1,0,0,1,1,1,0,1] (qSZ Tryd.f127)) = .block 2 (qRZ [1,0,0,1,1,0,0,1,1,1,0,1,0] (qSZ Tryd.f127))) (qUZ.lp (by kernel_rfl : (qRZ [1,0,0,1,1,0,0,1,1,1,0,1,0] (qSZ Tryd.f127)) = .loop (qRZ [1,0,0,1,1,0,0,1,1,1,0,1,0,0] (qSZ Tryd.f127))) ((h env rfl rfl rfl rfl rfl rfl rfl rfl rfl rfl rfl).mono (qPZ (fun _ _ h => h.elim) (fun _ _ _ h => h) (fun _ _ h => h) (fun _ _ h => h))))
def m127_9 (x0 x1 x2 x3 x7 x8 x13 x14 x15 x33 x34 : Value) (H : Heap) (kn : K11T) (kx2 : K8T) (kx1 : K7T) (kx0 : K0T) (Q : QT) : Prop :=
oV (vInt .lss x34 x33) fun u0 =>
p7Z u0 (
oV (qWZ ty3 x3 H) fun u1 =>
oV (vInt .mul x34 u1) fun u2 =>
oV (vInt .add x34 (.int .i64 1)) fun u3 =>
oV (qWZ ty3 x3 H) fun u4 =>
oV (vInt .mul u3 u4) fun u5 =>
oV (vSlice 1 x7 (some u2) (some u5) none) fun u6 =>
p3Z ty52 52 1 [((0,1), u6)] H fun u7 u8 =>
p4Z ty52 52 x8 u7 u8 fun u9 u10 =>
oV (vInt .add x34 (.int .i64 1)) fun u11 =>
kn x0 x1 x2 x3 x7 u9 x13 x14 x15 x33 u11 u10) (
kx2 x0 x1 x2 x3 x8 x13 x14 x15 H)
theorem c127_9 (env : Env) (H : Heap) (kn : K11T) (kx2 : K8T) (kx1 : K7T) (kx0 : K0T) (Q : QT) (h : m127_9 (env 0) (env 1) (env 2) (env 3) (env 7) (env 8) (env 13) (env 14) (env 15) (env 33) (env 34) H kn kx2 kx1 kx0 Q) :
    qUZ Tryd.prog 69 (qRZ [1,0,0,1,1,0,0,1,1,1,0,1,0,0] (qSZ Tryd.f127)) env H (mkK (fun e H => kn (e 0) (e 1) (e 2) (e 3) (e 7) (e 8) (e 13) (e 14) (e 15) (e 33) (e 34) H) (inK 2 (fun e H => kx2 (e 0) (e 1) (e 2) (e 3) (e 8) (e 13) (e 14) (e 15) H) (inK 1 (fun e H => kx1 (e 0) (e 1) (e 2) (e 3) (e 13) (e 14) (e 15) H) (inK 0 (fun e H => kx0 H) (fun _ _ _ => False)))) (rKZ Tryd.f127 Q) (pKZ Q)) :=
  qUZ.leaf_ (T := T) (X := ext) (hint := hint127) tok xok mixed (by kernel_rfl) h
theorem L127_8_round (x0 x1 x2 x3 x7 x8 x13 x14 x15 x33 x34 : Value) (H : Heap) (kn : K8T) (kx1 : K7T) (kx0 : K0T) (Q : QT) (h : m127_9 x0 x1 x2 x3 x7 x8 x13 x14 x15 x33 x34 H (fun y0 y1 y2 y3 y7 y8 y13 y14 y15 y33 y34 H => L127_8 y0 y1 y2 y3 y7 y8 y13 y14 y15 y33 y34 H kn kx1 kx0 Q) kn kx1 kx0 Q) : L127_8 x0 x1 x2 x3 x7 x8 x13 x14 x15 x33 x34 H kn kx1 kx0 Q := by
  intro env h0 h1 h2 h3 h7 h8 h13 h14 h15 h33 h34
  subst h0; subst h1; subst h2; subst h3; subst h7; subst h8; subst h13; subst h14; subst h15; subst h33; subst h34
  exact RLoop.round ((c127_9 env H (fun y0 y1 y2 y3 y7 y8 y13 y14 y15 y33 y34 H => L127_8 y0 y1 y2 y3 y7 y8 y13 y14 y15 y33 y34 H kn kx1 kx0 Q) kn kx1 kx0 Q h).mono (qPZ (fun e H h => h e rfl rfl rfl rfl rfl rfl rfl rfl rfl rfl rfl) (fun _ _ _ h => h) (fun _ _ h => h) (fun _ _ h => h)))
def m127_7 (x0 x1 x2 x3 x6 x7 x8 x13 x14 x15 : Value) (H : Heap) (kn : K8T) (kx1 : K7T) (kx0 : K0T) (Q : QT) : Prop :=
oV (vLen x6) fun u0 =>
L127_8 x0 x1 x2 x3 x7 x8 x13 x14 x15 u0 (.int .i64 0) H kn kx1 kx0 Q
theorem c127_7 (env : Env) (H : Heap) (kn : K8T) (kx1 : K7T) (kx0 : K0T) (Q : QT) (h : m127_7 (env 0) (env 1) (env 2) (env 3) (env 6) (env 7) (env 8) (env 13) (env 14) (env 15) H kn kx1 kx0 Q) :
    qUZ Tryd.prog 69 (qRZ [1,0,0,1,1,0,0,1,1,1,0] (qSZ Tryd.f127)) env H (mkK (fun e H => kn (e 0) (e 1) (e 2) (e 3) (e 8) (e 13) (e 14) (e 15) H) (inK 1 (fun e H => kx1 (e 0) (e 1) (e 2) (e 3) (e 13) (e 14) (e 15) H) (inK 0 (fun e H => kx0 H) (fun _ _ _ => False))) (rKZ Tryd.f127 Q) (pKZ Q)) :=
  qUZ.prefix_ (T := T) (X := ext) (hint := hint127) (hole := (fun e H => L127_8 (e 0) (e 1) (e 2) (e 3) (e 7) (e 8) (e 13) (e 14) (e 15) (e 33) (e 34) H kn kx1 kx0 Q)) tok xok mixed 1 (by kernel_rfl) (by kernel_rfl : qRZ _ _ = (qRZ [1,0,0,1,1,0,0,1,1,1,0,1] (qSZ Tryd.f127))) h
    (fun e H h => (cL127_8 e H kn kx1 kx0 Q h))
def m127_5 (x0 x1 x2 x3 x13 x14 x15 : Value) (H : Heap) (kn : K7T) (kx1 : K7T) (kx0 : K0T) (Q : QT) : Prop :=
oV (p1Z 1 x13 x15) fun u0 =>
oV (qWZ ty27 u0 H) fun u1 =>
oV (qWZ ty44 x2 H) fun u2 =>
oV (p1Z 1 u2 x0) fun u3 =>
oV (qWZ ty27 u3 H) fun u4 =>
oV (p1Z 1 u4 x15) fun u5 =>
oV (qWZ ty52 u5 H) fun u6 =>
oV (vLen u1) fun u7 =>
oV (qWZ ty3 x3 H) fun u8 =>
oV (vInt .mul u7 u8) fun u9 =>
oRC Tryd.prog 49 [u6, u9] H noP fun u10 u11 =>
m127_7 x0 x1 x2 x3 u1 u10 (.slice none 0 0) x13 x14 x15 u11 (fun u12 u13 u14 u15 u16 u17 u18 u19 u20 => m127_6 u12 u13 u14 u15 u16 u17 u18 u19 u20 kn kx1 kx0 Q) kx1 kx0 Q
theorem c127_5 (env : Env) (H : Heap) (kn : K7T) (kx1 : K7T) (kx0 : K0T) (Q : QT) (h : m127_5 (env 0) (env 1) (env 2) (env 3) (env 13) (env 14) (env 15) H kn kx1 kx0 Q) :
    qUZ Tryd.prog 69 (qRZ [1,0,0,1,1,0,0] (qSZ Tryd.f127)) env H (mkK (fun e H => kn (e 0) (e 1) (e 2) (e 3) (e 13) (e 14) (e 15) H) (inK 1 (fun e H => kx1 (e 0) (e 1) (e 2) (e 3) (e 13) (e 14) (e 15) H) (inK 0 (fun e H => kx0 H) (fun _ _ _ => False))) (rKZ Tryd.f127 Q) (pKZ Q)) :=
  qUZ.prefix_ (T := T) (X := ext) (hint := hint127) (hole := (fun e H => m127_7 (e 0) (e 1) (e 2) (e 3) (e 6) (e 7) (e 8) (e 13) (e 14) (e 15) H (fun y0_54 y1_55 y2_56 y3_57 y8_58 y13_59 y14_60 y15_61 H_62 => m127_6 y0_54 y1_55 y2_56 y3_57 y8_58 y13_59 y14_60 y15_61 H_62 kn kx1 kx0 Q) kx1 kx0 Q)) tok xok mixed 3 (by kernel_rfl) (by kernel_rfl : qRZ _ _ = (qRZ [1,0,0,1,1,0,0,1,1,1] (qSZ Tryd.f127))) h
    (fun e H h => qUZ.join (by kernel_rfl : (qRZ [1,0,0,1,1,0,0,1,1,1] (qSZ Tryd.f127)) = .seq (qRZ [1,0,0,1,1,0,0,1,1,1,0] (qSZ Tryd.f127)) (qRZ [1,0,0,1,1,0,0,1,1,1,1] (qSZ Tryd.f127))) ((c127_7 e H (fun y0_63 y1_64 y2_65 y3_66 y8_67 y13_68 y14_69 y15_70 H_71 => m127_6 y0_63 y1_64 y2_65 y3_66 y8_67 y13_68 y14_69 y15_70 H_71 kn kx1 kx0 Q) kx1 kx0 Q h).mono (qPZ (fun e H h => c127_6 e H kn kx1 kx0 Q h) (fun _ _ _ h => h) (fun _ _ h => h) (fun _ _ h => h))))
def m127_4 (x0 x1 x2 x3 x13 x14 x15 : Value) (H : Heap) (kn : K7T) (kx0 : K0T) (Q : QT) : Prop :=
m127_5 x0 x1 x2 x3 x13 x14 x15 H kn kn kx0 Q
theorem c127_4 (env : Env) (H : Heap) (kn : K7T) (kx0 : K0T) (Q : QT) (h : m127_4 (env 0) (env 1) (env 2) (env 3) (env 13) (env 14) (env 15) H kn kx0 Q) :
    qUZ Tryd.prog 69 (qRZ [1,0,0,1,1,0] (qSZ Tryd.f127)) env H (mkK (fun e H => kn (e 0) (e 1) (e 2) (e 3) (e 13) (e 14) (e 15) H) (inK 0 (fun e H => kx0 H) (fun _ _ _ => False)) (rKZ Tryd.f127 Q) (pKZ Q)) :=
  qUZ.blk (by kernel_rfl : (qRZ [1,0,0,1,1,0] (qSZ Tryd.f127)) = .block 1 (qRZ [1,0,0,1,1,0,0] (qSZ Tryd.f127))) (c127_5 env H kn kn kx0 Q h)
def m127_2 (x0 x1 x2 x3 x13 x14 x15 : Value) (H : Heap) (kn : K7T) (kx0 : K0T) (Q : QT) : Prop :=
oV (vInt .lss x15 x14) fun u0 =>
p7Z u0 (
m127_4 x0 x1 x2 x3 x13 x14 x15 H (fun u1 u2 u3 u4 u5 u6 u7 u8 => m127_3 u1 u2 u3 u4 u5 u6 u7 u8 kn kx0 Q) kx0 Q) (
kx0 H)
theorem c127_2 (env : Env) (H : Heap) (kn : K7T) (kx0 : K0T) (Q : QT) (h : m127_2 (env 0) (env 1) (env 2) (env 3) (env 13) (env 14) (env 15) H kn kx0 Q) :
    qUZ Tryd.prog 69 (qRZ [1,0,0] (qSZ Tryd.f127)) env H (mkK (fun e H => kn (e 0) (e 1) (e 2) (e 3) (e 13) (e 14) (e 15) H) (inK 0 (fun e H => kx0 H) (fun _ _ _ => False)) (rKZ Tryd.f127 Q) (pKZ Q)) :=
  qUZ.prefix_ (T := T) (X := ext) (hint := hint127) (hole := (fun e H => m127_4 (e 0) (e 1) (e 2) (e 3) (e 13) (e 14) (e 15) H (fun y0_81 y1_82 y2_83 y3_84 y13_85 y14_86 y15_87 H_88 => m127_3 y0_81 y1_82 y2_83 y3_84 y13_85 y14_86 y15_87 H_88 kn kx0 Q) kx0 Q)) tok xok mixed 2 (by kernel_rfl) (by kernel_rfl : qRZ _ _ = (qRZ [1,0,0,1,1] (qSZ Tryd.f127))) h
    (fun e H h => qUZ.join (by kernel_rfl : (qRZ [1,0,0,1,1] (qSZ Tryd.f127)) = .seq (qRZ [1,0,0,1,1,0] (qSZ Tryd.f127)) (qRZ [1,0,0,1,1,1] (qSZ Tryd.f127))) ((c127_4 e H (fun y0_89 y1_90 y2_91 y3_92 y13_93 y14_94 y15_95 H_96 => m127_3 y0_89 y1_90 y2_91 y3_92 y13_93 y14_94 y15_95 H_96 kn kx0 Q) kx0 Q h).mono (qPZ (fun e H h => c127_3 e H kn kx0 Q h) (fun _ _ _ h => h) (fun _ _ h => h) (fun _ _ h => h))))
theorem L127_1_round (x0 x1 x2 x3 x13 x14 x15 : Value) (H : Heap) (kn : K0T) (Q : QT) (h : m127_2 x0 x1 x2 x3 x13 x14 x15 H (fun y0 y1 y2 y3 y13 y14 y15 H => L127_1 y0 y1 y2 y3 y13 y14 y15 H kn Q) kn Q) : L127_1 x0 x1 x2 x3 x13 x14 x15 H kn Q := by
  intro env h0 h1 h2 h3 h13 h14 h15
  subst h0; subst h1; subst h2; subst h3; subst h13; subst h14; subst h15
  exact RLoop.round ((c127_2 env H (fun y0 y1 y2 y3 y13 y14 y15 H => L127_1 y0 y1 y2 y3 y13 y14 y15 H kn Q) kn Q h).mono (qPZ (fun e H h => h e rfl rfl rfl rfl rfl rfl rfl) (fun _ _ _ h => h) (fun _ _ h => h) (fun _ _ h => h)))
def m127 (x0 x1 x2 x3 : Value) (H : Heap) (Q : QT) : Prop :=
oV (qWZ ty150 x1 H) fun u0 =>
oV (vNil u0) fun u1 =>
oV (qYZ 4 u1) fun u2 =>
oV (qWZ ty44 u2 H) fun u3 =>
oV (vLen u3) fun u4 =>
L127_1 x0 x1 x2 x3 u3 u4 (.int .i64 0) H (fun u5 => Q (.returned (.tuple #[])) u5) Q
theorem c127_0 (env : Env) (H : Heap) (Q : QT) (h : m127 (env 0) (env 1) (env 2) (env 3) H Q) :
    qUZ Tryd.prog 69 (qSZ Tryd.f127) env H (mkK (rKZ Tryd.f127 Q) (fun _ _ _ => False) (rKZ Tryd.f127 Q) (pKZ Q)) :=
  qUZ.prefix_ (T := T) (X := ext) (hint := hint127) (hole := (fun e H => L127_1 (e 0) (e 1) (e 2) (e 3) (e 13) (e 14) (e 15) H (fun H_103 => Q (.returned (.tuple #[])) H_103) Q)) tok xok mixed 1 (by kernel_rfl) (by kernel_rfl : qRZ _ _ = (qRZ [1] (qSZ Tryd.f127))) h
    (fun e H h => ((cL127_1 e H (fun H_104 => Q (.returned (.tuple #[])) H_104) Q h).mono (qPZ (fun e H h => h) (fun _ _ _ h => h) (fun _ _ h => h) (fun _ _ h => h))))
theorem call127 (a0 a1 a2 a3 : Value) (H : Heap) (Q : QT) (h : m127 a0 a1 a2 a3 H Q) : qVZ Tryd.prog 127 [a0, a1, a2, a3] H Q :=
  qVZ.intro (nt := 69) tok Tryd.func127 (by kernel_rfl) (by kernel_rfl) (by kernel_rfl) (of_decide_eq_true (by kernel_rfl)) (c127_0 (envOf [a0, a1, a2, a3]) H Q h)
def hint104 : Nat → List Nat := p5Z [(4, [0,1,2,3,4,5,6,7])]
def m104 (x0 : Value) (H : Heap) (Q : QT) : Prop :=
oNew (Value.cells x0).toList (Value.cells x0).toList.length 150 H fun u0 u1 =>
oV (qWZ ty150 (qTZ u0) u1) fun u2 =>
oV (vNil u2) fun u3 =>
oV (qYZ 1 u3) fun u4 =>
oV (qYZ 2 u4) fun u5 =>
oV (qWZ ty3 u5 u1) fun u6 =>
oV (vInt .add u6 (.int .i64 1)) fun u7 =>
oNew (Value.cells ty3.zero).toList (Value.cells ty3.zero).toList.length 3 u1 fun u8 u9 =>
oHeap (p2Z ty3 (qTZ u8) u7 u9) fun u10 =>
oV (qWZ ty150 (qTZ u0) u10) fun u11 =>
oV (vNil u11) fun u12 =>
oV (qYZ 1 u12) fun u13 =>
oV (qYZ 1 u13) fun u14 =>
oV (qWZ ty3 u14 u10) fun u15 =>
oMake ty27 27 u15 u15 u10 fun u16 u17 =>
oNew (Value.cells ty44.zero).toList (Value.cells ty44.zero).toList.length 44 u17 fun u18 u19 =>
oHeap (p2Z ty44 (qTZ u18) u16 u19) fun u20 =>
oV (qWZ ty150 (qTZ u0) u20) fun u21 =>
oRC Tryd.prog 120 [u21, (.func (.func 125) #[] #[(qTZ u0), (qTZ u18)])] u20 (pKZ Q) fun u22 u23 =>
oV (qWZ ty150 (qTZ u0) u23) fun u24 =>
oV (vNil u24) fun u25 =>
oV (qYZ 0 u25) fun u26 =>
oV (qWZ ty35 u26 u23) fun u27 =>
oV (qWZ ty44 (qTZ u18) u23) fun u28 =>
oRC Tryd.prog 47 [u27, u28] u23 noP fun u29 u30 =>
oNew (Value.cells ty44.zero).toList (Value.cells ty44.zero).toList.length 44 u30 fun u31 u32 =>
oHeap (p2Z ty44 (qTZ u31) u29 u32) fun u33 =>
oV (qWZ ty150 (qTZ u0) u33) fun u34 =>
oRC Tryd.prog 120 [u34, (.func (.func 127) #[] #[(qTZ u0), (qTZ u31), (qTZ u8)])] u33 (pKZ Q) fun u35 u36 =>
Q (.returned (.tuple #[])) u36
theorem c104_0 (env : Env) (H : Heap) (Q : QT) (h : m104 (env 0) H Q) :
    qUZ Tryd.prog 29 (qSZ Tryd.f104) env H (mkK (rKZ Tryd.f104 Q) (fun _ _ _ => False) (rKZ Tryd.f104 Q) (pKZ Q)) :=
  qUZ.leaf_ (T := T) (X := ext) (hint := hint104) tok xok mixed (by kernel_rfl) h
theorem call104 (a0 : Value) (H : Heap) (Q : QT) (h : m104 a0 H Q) : qVZ Tryd.prog 104 [a0] H Q :=
  qVZ.intro (nt := 29) tok Tryd.func104 (by kernel_rfl) (by kernel_rfl) (by kernel_rfl) (of_decide_eq_true (by kernel_rfl)) (c104_0 (envOf [a0]) H Q h)
def hint144 : Nat → List Nat := p5Z [(5, [0,1,2,3,5,6,7,8,4,9,10])]
def m144_1 (x7 : Value) (H : Heap) (Q : QT) : Prop :=
Q (.returned x7) H
theorem c144_1 (env : Env) (H : Heap) (Q : QT) (h : m144_1 (env 7) H Q) :
    qUZ Tryd.prog 27 (qRZ [1,1,1] (qSZ Tryd.f144)) env H (mkK (rKZ Tryd.f144 Q) (fun _ _ _ => False) (rKZ Tryd.f144 Q) (pKZ Q)) :=
  qUZ.leaf_ (T := T) (X := ext) (hint := hint144) tok xok mixed (by kernel_rfl) h
def L144_3 (x0 x1 x2 x7 x8 : Value) (H : Heap) (kn : K1T) (Q : QT) : Prop :=
  ∀ env : Env, env 0 = x0 → env 1 = x1 → env 2 = x2 → env 7 = x7 → env 8 = x8 → RLoop Tryd.prog 27 (qRZ [1,1,0,1,0,0] (qSZ Tryd.f144)) env H (mkK (fun _ _ => False) (inK 0 (fun e H => kn (e 7) H) (fun _ _ _ => False)) (rKZ Tryd.f144 Q) (pKZ Q))
theorem cL144_3 (env : Env) (H : Heap) (kn : K1T) (Q : QT) (h : L144_3 (env 0) (env 1) (env 2) (env 7) (env 8) H kn Q) :
    qUZ Tryd.prog 27 (qRZ [1,1,0,1] (qSZ Tryd.f144)) env H (mkK (fun e H => kn (e 7) H) (fun _ _ _ => False) (rKZ Tryd.f144 Q) (pKZ Q)) :=
  qUZ.blk (by kernel_rfl : (qRZ [1,1,0,1] (qSZ Tryd.f144)) = .block 0 (qRZ [1,1,0,1,0] (qSZ Tryd.f144))) (qUZ.lp (by kernel_rfl : (qRZ [1,1,0,1,0] (qSZ Tryd.f144)) = .loop (qRZ [1,1,0,1,0,0] (qSZ Tryd.f144))) ((h env rfl rfl rfl rfl rfl).mono (qPZ (fun _ _ h => h.elim) (fun _ _ _ h => h) (fun _ _ h => h) (fun _ _ h => h))))
def m144_4 (x0 x1 x2 x7 x8 : Value) (H : Heap) (kn : K5T) (kx0 : K1T) (Q : QT) : Prop :=
oV (vInt .geq x8 (.int .i64 0)) fun u0 =>
p7Z u0 (
oV (p1Z 1 x1 x8) fun u1 =>
oV (qWZ ty22 u1 H) fun u2 =>
oRC Tryd.prog 139 [x0, x7, x2] H noP fun u3 u4 =>
(qWZ ty22 u1 u4 = some u2 ∧
oRC Tryd.prog 137 [x0, u3, u2] u4 noP fun u5 u6 =>
oV (vInt .sub x8 (.int .i64 1)) fun u7 =>
kn x0 x1 x2 u5 u7 u6)) (
kx0 x7 H)
theorem c144_4 (env : Env) (H : Heap) (kn : K5T) (kx0 : K1T) (Q : QT) (h : m144_4 (env 0) (env 1) (env 2) (env 7) (env 8) H kn kx0 Q) :
    qUZ Tryd.prog 27 (qRZ [1,1,0,1,0,0] (qSZ Tryd.f144)) env H (mkK (fun e H => kn (e 0) (e 1) (e 2) (e 7) (e 8) H) (inK 0 (fun e H => kx0 (e 7) H) (fun _ _ _ => False)) (rKZ Tryd.f144 Q) (pKZ Q)) :=
  qUZ.leaf_ (T := T) (X := ext) (hint := hint144) tok xok mixed (by kernel_rfl) h
theorem L144_3_round (x0 x1 x2 x7 x8 : Value) (H : Heap) (kn : K1T) (Q : QT) (h : m144_4 x0 x1 x2 x7 x8 H (fun y0 y1 y2 y7 y8 H => L144_3 y0 y1 y2 y7 y8 H kn Q) kn Q) : L144_3 x0 x1 x2 x7 x8 H kn Q := by
  intro env h0 h1 h2 h7 h8
  subst h0; subst h1; subst h2; subst h7; subst h8
  exact RLoop.round ((c144_4 env H (fun y0 y1 y2 y7 y8 H => L144_3 y0 y1 y2 y7 y8 H kn Q) kn Q h).mono (qPZ (fun e H h => h e rfl rfl rfl rfl rfl) (fun _ _ _ h => h) (fun _ _ h => h) (fun _ _ h => h)))
def m144_2 (x0 x1 x2 x7 : Value) (H : Heap) (kn : K1T) (Q : QT) : Prop :=
oV (vLen x1) fun u0 =>
oV (vInt .sub u0 (.int .i64 1)) fun u1 =>
L144_3 x0 x1 x2 x7 u1 H kn Q
theorem c144_2 (env : Env) (H : Heap) (kn : K1T) (Q : QT) (h : m144_2 (env 0) (env 1) (env 2) (env 7) H kn Q) :
    qUZ Tryd.prog 27 (qRZ [1,1,0] (qSZ Tryd.f144)) env H (mkK (fun e H => kn (e 7) H) (fun _ _ _ => False) (rKZ Tryd.f144 Q) (pKZ Q)) :=
  qUZ.prefix_ (T := T) (X := ext) (hint := hint144) (hole := (fun e H => L144_3 (e 0) (e 1) (e 2) (e 7) (e 8) H kn Q)) tok xok mixed 1 (by kernel_rfl) (by kernel_rfl : qRZ _ _ = (qRZ [1,1,0,1] (qSZ Tryd.f144))) h
    (fun e H h => (cL144_3 e H kn Q h))
def m144 (x0 x1 x2 : Value) (H : Heap) (Q : QT) : Prop :=
m144_2 x0 x1 x2 (.int .u64 0) H (fun u0 u1 => m144_1 u0 u1 Q) Q
theorem c144_0 (env : Env) (H : Heap) (Q : QT) (h : m144 (env 0) (env 1) (env 2) H Q) :
    qUZ Tryd.prog 27 (qSZ Tryd.f144) env H (mkK (rKZ Tryd.f144 Q) (fun _ _ _ => False) (rKZ Tryd.f144 Q) (pKZ Q)) :=
  qUZ.prefix_ (T := T) (X := ext) (hint := hint144) (hole := (fun e H => m144_2 (e 0) (e 1) (e 2) (e 7) H (fun y7_13 H_14 => m144_1 y7_13 H_14 Q) Q)) tok xok mixed 2 (by kernel_rfl) (by kernel_rfl : qRZ _ _ = (qRZ [1,1] (qSZ Tryd.f144))) h
    (fun e H h => qUZ.join (by kernel_rfl : (qRZ [1,1] (qSZ Tryd.f144)) = .seq (qRZ [1,1,0] (qSZ Tryd.f144)) (qRZ [1,1,1] (qSZ Tryd.f144))) ((c144_2 e H (fun y7_15 H_16 => m144_1 y7_15 H_16 Q) Q h).mono (qPZ (fun e H h => c144_1 e H Q h) (fun _ _ _ h => h) (fun _ _ h => h) (fun _ _ h => h))))
theorem call144 (a0 a1 a2 : Value) (H : Heap) (Q : QT) (h : m144 a0 a1 a2 H Q) : qVZ Tryd.prog 144 [a0, a1, a2] H Q :=
  qVZ.intro (nt := 27) tok Tryd.func144 (by kernel_rfl) (by kernel_rfl) (by kernel_rfl) (of_decide_eq_true (by kernel_rfl)) (c144_0 (envOf [a0, a1, a2]) H Q h)
def hint132 : Nat → List Nat := p5Z []
def m132_1 (x7 : Value) (H : Heap) (Q : QT) : Prop :=
Q (.returned x7) H
theorem c132_1 (env : Env) (H : Heap) (Q : QT) (h : m132_1 (env 7) H Q) :
    qUZ Tryd.prog 46 (qRZ [1,1,1] (qSZ Tryd.f132)) env H (mkK (rKZ Tryd.f132 Q) (fun _ _ _ => False) (rKZ Tryd.f132 Q) (pKZ Q)) :=
  qUZ.leaf_ (T := T) (X := ext) (hint := hint132) tok xok mixed (by kernel_rfl) h
def L132_3 (x0 x2 x7 x19 x20 x21 : Value) (H : Heap) (kn : K1T) (Q : QT) : Prop :=
  ∀ env : Env, env 0 = x0 → env 2 = x2 → env 7 = x7 → env 19 = x19 → env 20 = x20 → env 21 = x21 → RLoop Tryd.prog 46 (qRZ [1,1,0,1,0,0] (qSZ Tryd.f132)) env H (mkK (fun _ _ => False) (inK 0 (fun e H => kn (e 7) H) (fun _ _ _ => False)) (rKZ Tryd.f132 Q) (pKZ Q))
theorem cL132_3 (env : Env) (H : Heap) (kn : K1T) (Q : QT) (h : L132_3 (env 0) (env 2) (env 7) (env 19) (env 20) (env 21) H kn Q) :
    qUZ Tryd.prog 46 (qRZ [1,1,0,1] (qSZ Tryd.f132)) env H (mkK (fun e H => kn (e 7) H) (fun _ _ _ => False) (rKZ Tryd.f132 Q) (pKZ Q)) :=
  qUZ.blk (by kernel_rfl : (qRZ [1,1,0,1] (qSZ Tryd.f132)) = .block 0 (qRZ [1,1,0,1,0] (qSZ Tryd.f132))) (qUZ.lp (by kernel_rfl : (qRZ [1,1,0,1,0] (qSZ Tryd.f132)) = .loop (qRZ [1,1,0,1,0,0] (qSZ Tryd.f132))) ((h env rfl rfl rfl rfl rfl rfl).mono (qPZ (fun _ _ h => h.elim) (fun _ _ _ h => h) (fun _ _ h => h) (fun _ _ h => h))))
def m132_5 (x0 x2 x7 x19 x20 x21 : Value) (H : Heap) (kn : K6T) (kx0 : K1T) (Q : QT) : Prop :=
oV (vInt .add x21 (.int .i64 1)) fun u0 =>
kn x0 x2 x7 x19 x20 u0 H
theorem c132_5 (env : Env) (H : Heap) (kn : K6T) (kx0 : K1T) (Q : QT) (h : m132_5 (env 0) (env 2) (env 7) (env 19) (env 20) (env 21) H kn kx0 Q) :
    qUZ Tryd.prog 46 (qRZ [1,1,0,1,0,0,1,1,1] (qSZ Tryd.f132)) env H (mkK (fun e H => kn (e 0) (e 2) (e 7) (e 19) (e 20) (e 21) H) (inK 0 (fun e H => kx0 (e 7) H) (fun _ _ _ => False)) (rKZ Tryd.f132 Q) (pKZ Q)) :=
  qUZ.leaf_ (T := T) (X := ext) (hint := hint132) tok xok mixed (by kernel_rfl) h
def L132_8 (x0 x2 x7 x19 x20 x21 x25 x26 x27 : Value) (H : Heap) (kn : K6T) (kx1 : K6T) (kx0 : K1T) (Q : QT) : Prop :=
  ∀ env : Env, env 0 = x0 → env 2 = x2 → env 7 = x7 → env 19 = x19 → env 20 = x20 → env 21 = x21 → env 25 = x25 → env 26 = x26 → env 27 = x27 → RLoop Tryd.prog 46 (qRZ [1,1,0,1,0,0,1,1,0,0,1,1,0,0] (qSZ Tryd.f132)) env H (mkK (fun _ _ => False) (inK 2 (fun e H => kn (e 0) (e 2) (e 7) (e 19) (e 20) (e 21) H) (inK 1 (fun e H => kx1 (e 0) (e 2) (e 7) (e 19) (e 20) (e 21) H) (inK 0 (fun e H => kx0 (e 7) H) (fun _ _ _ => False)))) (rKZ Tryd.f132 Q) (pKZ Q))
theorem cL132_8 (env : Env) (H : Heap) (kn : K6T) (kx1 : K6T) (kx0 : K1T) (Q : QT) (h : L132_8 (env 0) (env 2) (env 7) (env 19) (env 20) (env 21) (env 25) (env 26) (env 27) H kn kx1 kx0 Q) :
    qUZ Tryd.prog 46 (qRZ [1,1,0,1,0,0,1,1,0,0,1,1] (qSZ Tryd.f132)) env H (mkK (fun e H => kn (e 0) (e 2) (e 7) (e 19) (e 20) (e 21) H) (inK 1 (fun e H => kx1 (e 0) (e 2) (e 7) (e 19) (e 20) (e 21) H) (inK 0 (fun e H => kx0 (e 7) H) (fun _ _ _ => False))) (rKZ Tryd.f132 Q) (pKZ Q)) :=
  qUZ.blk (by kernel_rfl : (qRZ [1,1,0,1,0,0,1,1,0,0,1,1] (qSZ Tryd.f132)) = .block 2 (qRZ [1,1,0,1,0,0,1,1,0,0,1,1,0] (qSZ Tryd.f132))) (qUZ.lp (by kernel_rfl : (qRZ [1,1,0,1,0,0,1,1,0,0,1,1,0] (qSZ Tryd.f132)) = .loop (qRZ [1,1,0,1,0,0,1,1,0,0,1,1,0,0] (qSZ Tryd.f132))) ((h env rfl rfl rfl rfl rfl rfl rfl rfl rfl).mono (qPZ (fun _ _ h => h.elim) (fun _ _ _ h => h) (fun _ _ h => h) (fun _ _ h => h))))
def m132_9 (x0 x2 x7 x19 x20 x21 x25 x26 x27 : Value) (H : Heap) (kn : K9T) (kx2 : K6T) (kx1 : K6T) (kx0 : K1T) (Q : QT) : Prop :=
oV (vInt .lss x27 x26) fun u0 =>
p7Z u0 (
oV (p1Z 1 x25 x27) fun u1 =>
oV (qWZ ty52 u1 H) fun u2 =>
oV (vNil x0) fun u3 =>
oV (qYZ 1 u3) fun u4 =>
oV (qYZ 0 u4) fun u5 =>
oV (qWZ ty22 u5 H) fun u6 =>
oV (vConv (.int .u64) x2) fun u7 =>
oRC Tryd.prog 144 [u6, u2, u7] H (pKZ Q) fun u8 u9 =>
p3Z ty22 22 1 [((0,1), u8)] u9 fun u10 u11 =>
p4Z ty22 22 x7 u10 u11 fun u12 u13 =>
oV (vInt .add x27 (.int .i64 1)) fun u14 =>
kn x0 x2 u12 x19 x20 x21 x25 x26 u14 u13) (
kx2 x0 x2 x7 x19 x20 x21 H)
theorem c132_9 (env : Env) (H : Heap) (kn : K9T) (kx2 : K6T) (kx1 : K6T) (kx0 : K1T) (Q : QT) (h : m132_9 (env 0) (env 2) (env 7) (env 19) (env 20) (env 21) (env 25) (env 26) (env 27) H kn kx2 kx1 kx0 Q) :
    qUZ Tryd.prog 46 (qRZ [1,1,0,1,0,0,1,1,0,0,1,1,0,0] (qSZ Tryd.f132)) env H (mkK (fun e H => kn (e 0) (e 2) (e 7) (e 19) (e 20) (e 21) (e 25) (e 26) (e 27) H) (inK 2 (fun e H => kx2 (e 0) (e 2) (e 7) (e 19) (e 20) (e 21) H) (inK 1 (fun e H => kx1 (e 0) (e 2) (e 7) (e 19) (e 20) (e 21) H) (inK 0 (fun e H => kx0 (e 7) H) (fun _ _ _ => False)))) (rKZ Tryd.f132 Q) (pKZ Q)) :=
  qUZ.leaf_ (T := T) (X := ext) (hint := hint132) tok xok mixed (by kernel_rfl) h
theorem L132_8_round (x0 x2 x7 x19 x20 x21 x25 x26 x27 : Value) (H : Heap) (kn : K6T) (kx1 : K6T) (kx0 : K1T) (Q : QT) (h : m132_9 x0 x2 x7 x19 x20 x21 x25 x26 x27 H (fun y0 y2 y7 y19 y20 y21 y25 y26 y27 H => L132_8 y0 y2 y7 y19 y20 y21 y25 y26 y27 H kn kx1 kx0 Q) kn kx1 kx0 Q) : L132_8 x0 x2 x7 x19 x20 x21 x25 x26 x27 H kn kx1 kx0 Q := by
  intro env h0 h2 h7 h19 h20 h21 h25 h26 h27
  subst h0; subst h2; subst h7; subst h19; subst h20; subst h21; subst h25; subst h26; subst h27
  exact RLoop.round ((c132_9 env H (fun y0 y2 y7 y19 y20 y21 y25 y26 y27 H => L132_8 y0 y2 y7 y19 y20 y21 y25 y26 y27 H kn kx1 kx0 Q) kn kx1 kx0 Q h).mono (qPZ (fun e H h => h e rfl rfl rfl rfl rfl rfl rfl rfl rfl) (fun _ _ _ h => h) (fun _ _ h => h) (fun _ _ h => h)))
def m132_7 (x0 x2 x7 x19 x20 x21 : Value) (H : Heap) (kn : K6T) (kx1 : K6T) (kx0 : K1T) (Q : QT) : Prop :=
oV (p1Z 1 x19 x21) fun u0 =>
oV (qWZ ty27 u0 H) fun u1 =>
oV (vLen u1) fun u2 =>
L132_8 x0 x2 x7 x19 x20 x21 u1 u2 (.int .i64 0) H kn kx1 kx0 Q
theorem c132_7 (env : Env) (H : Heap) (kn : K6T) (kx1 : K6T) (kx0 : K1T) (Q : QT) (h : m132_7 (env 0) (env 2) (env 7) (env 19) (env 20) (env 21) H kn kx1 kx0 Q) :
    qUZ Tryd.prog 46 (qRZ [1,1,0,1,0,0,1,1,0,0] (qSZ Tryd.f132)) env H (mkK (fun e H => kn (e 0) (e 2) (e 7) (e 19) (e 20) (e 21) H) (inK 1 (fun e H => kx1 (e 0) (e 2) (e 7) (e 19) (e 20) (e 21) H) (inK 0 (fun e H => kx0 (e 7) H) (fun _ _ _ => False))) (rKZ Tryd.f132 Q) (pKZ Q)) :=
  qUZ.prefix_ (T := T) (X := ext) (hint := hint132) (hole := (fun e H => L132_8 (e 0) (e 2) (e 7) (e 19) (e 20) (e 21) (e 25) (e 26) (e 27) H kn kx1 kx0 Q)) tok xok mixed 2 (by kernel_rfl) (by kernel_rfl : qRZ _ _ = (qRZ [1,1,0,1,0,0,1,1,0,0,1,1] (qSZ Tryd.f132))) h
    (fun e H h => (cL132_8 e H kn kx1 kx0 Q h))
def m132_6 (x0 x2 x7 x19 x20 x21 : Value) (H : Heap) (kn : K6T) (kx0 : K1T) (Q : QT) : Prop :=
m132_7 x0 x2 x7 x19 x20 x21 H kn kn kx0 Q
theorem c132_6 (env : Env) (H : Heap) (kn : K6T) (kx0 : K1T) (Q : QT) (h : m132_6 (env 0) (env 2) (env 7) (env 19) (env 20) (env 21) H kn kx0 Q) :
    qUZ Tryd.prog 46 (qRZ [1,1,0,1,0,0,1,1,0] (qSZ Tryd.f132)) env H (mkK (fun e H => kn (e 0) (e 2) (e 7) (e 19) (e 20) (e 21) H) (inK 0 (fun e H => kx0 (e 7) H) (fun _ _ _ => False)) (rKZ Tryd.f132 Q) (pKZ Q)) :=
  qUZ.blk (by kernel_rfl : (qRZ [1,1,0,1,0,0,1,1,0] (qSZ Tryd.f132)) = .block 1 (qRZ [1,1,0,1,0,0,1,1,0,0] (qSZ Tryd.f132))) (c132_7 env H kn kn kx0 Q h)
def m132_4 (x0 x2 x7 x19 x20 x21 : Value) (H : Heap) (kn : K6T) (kx0 : K1T) (Q : QT) : Prop :=
oV (vInt .lss x21 x20) fun u0 =>
p7Z u0 (
m132_6 x0 x2 x7 x19 x20 x21 H (fun u1 u2 u3 u4 u5 u6 u7 => m132_5 u1 u2 u3 u4 u5 u6 u7 kn kx0 Q) kx0 Q) (
kx0 x7 H)
theorem c132_4 (env : Env) (H : Heap) (kn : K6T) (kx0 : K1T) (Q : QT) (h : m132_4 (env 0) (env 2) (env 7) (env 19) (env 20) (env 21) H kn kx0 Q) :
    qUZ Tryd.prog 46 (qRZ [1,1,0,1,0,0] (qSZ Tryd.f132)) env H (mkK (fun e H => kn (e 0) (e 2) (e 7) (e 19) (e 20) (e 21) H) (inK 0 (fun e H => kx0 (e 7) H) (fun _ _ _ => False)) (rKZ Tryd.f132 Q) (pKZ Q)) :=
  qUZ.prefix_ (T := T) (X := ext) (hint := hint132) (hole := (fun e H => m132_6 (e 0) (e 2) (e 7) (e 19) (e 20) (e 21) H (fun y0_28 y2_29 y7_30 y19_31 y20_32 y21_33 H_34 => m132_5 y0_28 y2_29 y7_30 y19_31 y20_32 y21_33 H_34 kn kx0 Q) kx0 Q)) tok xok mixed 2 (by kernel_rfl) (by kernel_rfl : qRZ _ _ = (qRZ [1,1,0,1,0,0,1,1] (qSZ Tryd.f132))) h
    (fun e H h => qUZ.join (by kernel_rfl : (qRZ [1,1,0,1,0,0,1,1] (qSZ Tryd.f132)) = .seq (qRZ [1,1,0,1,0,0,1,1,0] (qSZ Tryd.f132)) (qRZ [1,1,0,1,0,0,1,1,1] (qSZ Tryd.f132))) ((c132_6 e H (fun y0_35 y2_36 y7_37 y19_38 y20_39 y21_40 H_41 => m132_5 y0_35 y2_36 y7_37 y19_38 y20_39 y21_40 H_41 kn kx0 Q) kx0 Q h).mono (qPZ (fun e H h => c132_5 e H kn kx0 Q h) (fun _ _ _ h => h) (fun _ _ h => h) (fun _ _ h => h))))
theorem L132_3_round (x0 x2 x7 x19 x20 x21 : Value) (H : Heap) (kn : K1T) (Q : QT) (h : m132_4 x0 x2 x7 x19 x20 x21 H (fun y0 y2 y7 y19 y20 y21 H => L132_3 y0 y2 y7 y19 y20 y21 H kn Q) kn Q) : L132_3 x0 x2 x7 x19 x20 x21 H kn Q := by
  intro env h0 h2 h7 h19 h20 h21
  subst h0; subst h2; subst h7; subst h19; subst h20; subst h21
  exact RLoop.round ((c132_4 env H (fun y0 y2 y7 y19 y20 y21 H => L132_3 y0 y2 y7 y19 y20 y21 H kn Q) kn Q h).mono (qPZ (fun e H h => h e rfl rfl rfl rfl rfl rfl) (fun _ _ _ h => h) (fun _ _ h => h) (fun _ _ h => h)))
def m132_2 (x0 x1 x2 x7 : Value) (H : Heap) (kn : K1T) (Q : QT) : Prop :=
oV (vNil x0) fun u0 =>
oV (qYZ 5 u0) fun u1 =>
oV (qYZ 1 u1) fun u2 =>
oV (qWZ ty69 u2 H) fun u3 =>
oV (p1Z 1 u3 x1) fun u4 =>
oV (qWZ ty44 u4 H) fun u5 =>
oV (vLen u5) fun u6 =>
L132_3 x0 x2 x7 u5 u6 (.int .i64 0) H kn Q
theorem c132_2 (env : Env) (H : Heap) (kn : K1T) (Q : QT) (h : m132_2 (env 0) (env 1) (env 2) (env 7) H kn Q) :
    qUZ Tryd.prog 46 (qRZ [1,1,0] (qSZ Tryd.f132)) env H (mkK (fun e H => kn (e 7) H) (fun _ _ _ => False) (rKZ Tryd.f132 Q) (pKZ Q)) :=
  qUZ.prefix_ (T := T) (X := ext) (hint := hint132) (hole := (fun e H => L132_3 (e 0) (e 2) (e 7) (e 19) (e 20) (e 21) H kn Q)) tok xok mixed 1 (by kernel_rfl) (by kernel_rfl : qRZ _ _ = (qRZ [1,1,0,1] (qSZ Tryd.f132))) h
    (fun e H h => (cL132_3 e H kn Q h))
def m132 (x0 x1 x2 : Value) (H : Heap) (Q : QT) : Prop :=
m132_2 x0 x1 x2 (.slice none 0 0) H (fun u0 u1 => m132_1 u0 u1 Q) Q
theorem c132_0 (env : Env) (H : Heap) (Q : QT) (h : m132 (env 0) (env 1) (env 2) H Q) :
    qUZ Tryd.prog 46 (qSZ Tryd.f132) env H (mkK (rKZ Tryd.f132 Q) (fun _ _ _ => False) (rKZ Tryd.f132 Q) (pKZ Q)) :=
  qUZ.prefix_ (T := T) (X := ext) (hint := hint132) (hole := (fun e H => m132_2 (e 0) (e 1) (e 2) (e 7) H (fun y7_51 H_52 => m132_1 y7_51 H_52 Q) Q)) tok xok mixed 2 (by kernel_rfl) (by kernel_rfl : qRZ _ _ = (qRZ [1,1] (qSZ Tryd.f132))) h
    (fun e H h => qUZ.join (by kernel_rfl : (qRZ [1,1] (qSZ Tryd.f132)) = .seq (qRZ [1,1,0] (qSZ Tryd.f132)) (qRZ [1,1,1] (qSZ Tryd.f132))) ((c132_2 e H (fun y7_53 H_54 => m132_1 y7_53 H_54 Q) Q h).mono (qPZ (fun e H h => c132_1 e H Q h) (fun _ _ _ h => h) (fun _ _ h => h) (fun _ _ h => h))))
theorem call132 (a0 a1 a2 : Value) (H : Heap) (Q : QT) (h : m132 a0 a1 a2 H Q) : qVZ Tryd.prog 132 [a0, a1, a2] H Q :=
  qVZ.intro (nt := 46) tok Tryd.func132 (by kernel_rfl) (by kernel_rfl) (by kernel_rfl) (of_decide_eq_true (by kernel_rfl)) (c132_0 (envOf [a0, a1, a2]) H Q h)
def hint131 : Nat → List Nat := p5Z [(3, [0,1,2,3,4,5,6,7,8,9,10,11,12,13])]
def L131_1 (x0 x1 x2 x4 : Value) (H : Heap) (kn : K0T) (Q : QT) : Prop :=
  ∀ env : Env, env 0 = x0 → env 1 = x1 → env 2 = x2 → env 4 = x4 → RLoop Tryd.prog 27 (qRZ [1,0,0] (qSZ Tryd.f131)) env H (mkK (fun _ _ => False) (inK 0 (fun e H => kn H) (fun _ _ _ => False)) (rKZ Tryd.f131 Q) (pKZ Q))
theorem cL131_1 (env : Env) (H : Heap) (kn : K0T) (Q : QT) (h : L131_1 (env 0) (env 1) (env 2) (env 4) H kn Q) :
    qUZ Tryd.prog 27 (qRZ [1] (qSZ Tryd.f131)) env H (mkK (fun e H => kn H) (fun _ _ _ => False) (rKZ Tryd.f131 Q) (pKZ Q)) :=
  qUZ.blk (by kernel_rfl : (qRZ [1] (qSZ Tryd.f131)) = .block 0 (qRZ [1,0] (qSZ Tryd.f131))) (qUZ.lp (by kernel_rfl : (qRZ [1,0] (qSZ Tryd.f131)) = .loop (qRZ [1,0,0] (qSZ Tryd.f131))) ((h env rfl rfl rfl rfl).mono (qPZ (fun _ _ h => h.elim) (fun _ _ _ h => h) (fun _ _ h => h) (fun _ _ h => h))))
def m131_2 (x0 x1 x2 x4 : Value) (H : Heap) (kn : K4T) (kx0 : K0T) (Q : QT) : Prop :=
oV (qWZ ty150 x1 H) fun u0 =>
oV (vNil u0) fun u1 =>
oV (qYZ 1 u1) fun u2 =>
oV (qYZ 1 u2) fun u3 =>
oV (qWZ ty3 u3 H) fun u4 =>
oV (vInt .leq x4 u4) fun u5 =>
p7Z u5 (
oV (qWZ ty44 x2 H) fun u6 =>
oV (qWZ ty44 x2 H) fun u7 =>
oV (p1Z 1 u7 x0) fun u8 =>
oV (qWZ ty27 u8 H) fun u9 =>
oV (qWZ ty150 x1 H) fun u10 =>
oRC Tryd.prog 132 [u10, x0, x4] H noP fun u11 u12 =>
(qWZ ty27 u8 u12 = some u9 ∧
(qWZ ty44 x2 u12 = some u7 ∧
(qWZ ty44 x2 u12 = some u6 ∧
p3Z ty52 52 1 [((0,1), u11)] u12 fun u13 u14 =>
p4Z ty52 52 u9 u13 u14 fun u15 u16 =>
(qWZ ty44 x2 u16 = some u6 ∧
oV (p1Z 1 u6 x0) fun u17 =>
oHeap (p2Z ty27 u17 u15 u16) fun u18 =>
oV (vInt .add x4 (.int .i64 1)) fun u19 =>
kn x0 x1 x2 u19 u18))))) (
kx0 H)
theorem c131_2 (env : Env) (H : Heap) (kn : K4T) (kx0 : K0T) (Q : QT) (h : m131_2 (env 0) (env 1) (env 2) (env 4) H kn kx0 Q) :
    qUZ Tryd.prog 27 (qRZ [1,0,0] (qSZ Tryd.f131)) env H (mkK (fun e H => kn (e 0) (e 1) (e 2) (e 4) H) (inK 0 (fun e H => kx0 H) (fun _ _ _ => False)) (rKZ Tryd.f131 Q) (pKZ Q)) :=
  qUZ.leaf_ (T := T) (X := ext) (hint := hint131) tok xok mixed (by kernel_rfl) h
theorem L131_1_round (x0 x1 x2 x4 : Value) (H : Heap) (kn : K0T) (Q : QT) (h : m131_2 x0 x1 x2 x4 H (fun y0 y1 y2 y4 H => L131_1 y0 y1 y2 y4 H kn Q) kn Q) : L131_1 x0 x1 x2 x4 H kn Q := by
  intro env h0 h1 h2 h4
  subst h0; subst h1; subst h2; subst h4
  exact RLoop.round ((c131_2 env H (fun y0 y1 y2 y4 H => L131_1 y0 y1 y2 y4 H kn Q) kn Q h).mono (qPZ (fun e H h => h e rfl rfl rfl rfl) (fun _ _ _ h => h) (fun _ _ h => h) (fun _ _ h => h)))
def m131 (x0 x1 x2 : Value) (H : Heap) (Q : QT) : Prop :=
L131_1 x0 x1 x2 (.int .i64 1) H (fun u0 => Q (.returned (.tuple #[])) u0) Q
theorem c131_0 (env : Env) (H : Heap) (Q : QT) (h : m131 (env 0) (env 1) (env 2) H Q) :
    qUZ Tryd.prog 27 (qSZ Tryd.f131) env H (mkK (rKZ Tryd.f131 Q) (fun _ _ _ => False) (rKZ Tryd.f131 Q) (pKZ Q)) :=
  qUZ.prefix_ (T := T) (X := ext) (hint := hint131) (hole := (fun e H => L131_1 (e 0) (e 1) (e 2) (e 4) H (fun H_22 => Q (.returned (.tuple #[])) H_22) Q)) tok xok mixed 1 (by kernel_rfl) (by kernel_rfl : qRZ _ _ = (qRZ [1] (qSZ Tryd.f131))) h
    (fun e H h => ((cL131_1 e H (fun H_23 => Q (.returned (.tuple #[])) H_23) Q h).mono (qPZ (fun e H h => h) (fun _ _ _ h => h) (fun _ _ h => h) (fun _ _ h => h))))
theorem call131 (a0 a1 a2 : Value) (H : Heap) (Q : QT) (h : m131 a0 a1 a2 H Q) : qVZ Tryd.prog 131 [a0, a1, a2] H Q :=
  qVZ.intro (nt := 27) tok Tryd.func131 (by kernel_rfl) (by kernel_rfl) (by kernel_rfl) (of_decide_eq_true (by kernel_rfl)) (c131_0 (envOf [a0, a1, a2]) H Q h)
def hint106 : Nat → List Nat := p5Z [(3, [0,1,2,3,4,5,6])]
def m106 (x0 : Value) (H : Heap) (Q : QT) : Prop :=
oNew (Value.cells x0).toList (Value.cells x0).toList.length 150 H fun u0 u1 =>
oV (qWZ ty150 (qTZ u0) u1) fun u2 =>
oV (vNil u2) fun u3 =>
oV (qYZ 1 u3) fun u4 =>
oV (qYZ 1 u4) fun u5 =>
oV (qWZ ty3 u5 u1) fun u6 =>
oMake ty27 27 u6 u6 u1 fun u7 u8 =>
oNew (Value.cells ty44.zero).toList (Value.cells ty44.zero).toList.length 44 u8 fun u9 u10 =>
oHeap (p2Z ty44 (qTZ u9) u7 u10) fun u11 =>
oV (qWZ ty150 (qTZ u0) u11) fun u12 =>
oRC Tryd.prog 120 [u12, (.func (.func 131) #[] #[(qTZ u0), (qTZ u9)])] u11 (pKZ Q) fun u13 u14 =>
oV (qWZ ty150 (qTZ u0) u14) fun u15 =>
oV (vNil u15) fun u16 =>
oV (qYZ 0 u16) fun u17 =>
oV (qWZ ty35 u17 u14) fun u18 =>
oV (qWZ ty44 (qTZ u9) u14) fun u19 =>
oRC Tryd.prog 47 [u18, u19] u14 noP fun u20 u21 =>
Q (.returned u20) u21
theorem c106_0 (env : Env) (H : Heap) (Q : QT) (h : m106 (env 0) H Q) :
    qUZ Tryd.prog 19 (qSZ Tryd.f106) env H (mkK (rKZ Tryd.f106 Q) (fun _ _ _ => False) (rKZ Tryd.f106 Q) (pKZ Q)) :=
  qUZ.leaf_ (T := T) (X := ext) (hint := hint106) tok xok mixed (by kernel_rfl) h
theorem call106 (a0 : Value) (H : Heap) (Q : QT) (h : m106 a0 H Q) : qVZ Tryd.prog 106 [a0] H Q :=
  qVZ.intro (nt := 19) tok Tryd.func106 (by kernel_rfl) (by kernel_rfl) (by kernel_rfl) (of_decide_eq_true (by kernel_rfl)) (c106_0 (envOf [a0]) H Q h)
def hint129 : Nat → List Nat := p5Z [(1, [0,1,2,3,4,5,6,7,8,9,10,11,12]), (14, [0,1,2,3,4,5,6,7,8])]
def m129_1 (x7 : Value) (H : Heap) (Q : QT) : Prop :=
Q (.returned x7) H
theorem c129_1 (env : Env) (H : Heap) (Q : QT) (h : m129_1 (env 7) H Q) :
    qUZ Tryd.prog 89 (qRZ [1,1,1] (qSZ Tryd.f129)) env H (mkK (rKZ Tryd.f129 Q) (fun _ _ _ => False) (rKZ Tryd.f129 Q) (pKZ Q)) :=
  qUZ.leaf_ (T := T) (X := ext) (hint := hint129) tok xok mixed (by kernel_rfl) h
def L129_3 (x0 x1 x2 x7 x30 x31 : Value) (H : Heap) (kn : K1T) (Q : QT) : Prop :=
  ∀ env : Env, env 0 = x0 → env 1 = x1 → env 2 = x2 → env 7 = x7 → env 30 = x30 → env 31 = x31 → RLoop Tryd.prog 89 (qRZ [1,1,0,1,0,0] (qSZ Tryd.f129)) env H (mkK (fun _ _ => False) (inK 0 (fun e H => kn (e 7) H) (fun _ _ _ => False)) (rKZ Tryd.f129 Q) (pKZ Q))
theorem cL129_3 (env : Env) (H : Heap) (kn : K1T) (Q : QT) (h : L129_3 (env 0) (env 1) (env 2) (env 7) (env 30) (env 31) H kn Q) :
    qUZ Tryd.prog 89 (qRZ [1,1,0,1] (qSZ Tryd.f129)) env H (mkK (fun e H => kn (e 7) H) (fun _ _ _ => False) (rKZ Tryd.f129 Q) (pKZ Q)) :=
  qUZ.blk (by kernel_rfl : (qRZ [1,1,0,1] (qSZ Tryd.f129)) = .block 0 (qRZ [1,1,0,1,0] (qSZ Tryd.f129))) (qUZ.lp (by kernel_rfl : (qRZ [1,1,0,1,0] (qSZ Tryd.f129)) = .loop (qRZ [1,1,0,1,0,0] (qSZ Tryd.f129))) ((h env rfl rfl rfl rfl rfl rfl).mono (qPZ (fun _ _ h => h.elim) (fun _ _ _ h => h) (fun _ _ h => h) (fun _ _ h => h))))
def m129_5 (x0 x1 x2 x7 x30 x31 : Value) (H : Heap) (kn : K6T) (kx0 : K1T) (Q : QT) : Prop :=
oV (vInt .add x31 (.int .i64 1)) fun u0 =>
kn x0 x1 x2 x7 x30 u0 H
theorem c129_5 (env : Env) (H : Heap) (kn : K6T) (kx0 : K1T) (Q : QT) (h : m129_5 (env 0) (env 1) (env 2) (env 7) (env 30) (env 31) H kn kx0 Q) :
    qUZ Tryd.prog 89 (qRZ [1,1,0,1,0,0,1,1,1] (qSZ Tryd.f129)) env H (mkK (fun e H => kn (e 0) (e 1) (e 2) (e 7) (e 30) (e 31) H) (inK 0 (fun e H => kx0 (e 7) H) (fun _ _ _ => False)) (rKZ Tryd.f129 Q) (pKZ Q)) :=
  qUZ.leaf_ (T := T) (X := ext) (hint := hint129) tok xok mixed (by kernel_rfl) h
def L129_8 (x0 x1 x2 x7 x8 x9 x10 x11 x30 x31 x52 x53 x54 : Value) (H : Heap) (kn : K6T) (kx1 : K6T) (kx0 : K1T) (Q : QT) : Prop :=
  ∀ env : Env, env 0 = x0 → env 1 = x1 → env 2 = x2 → env 7 = x7 → env 8 = x8 → env 9 = x9 → env 10 = x10 → env 11 = x11 → env 30 = x30 → env 31 = x31 → env 52 = x52 → env 53 = x53 → env 54 = x54 → RLoop Tryd.prog 89 (qRZ [1,1,0,1,0,0,1,1,0,0,1,1,1,1,1,1,0,0] (qSZ Tryd.f129)) env H (mkK (fun _ _ => False) (inK 2 (fun e H => kn (e 0) (e 1) (e 2) (e 7) (e 30) (e 31) H) (inK 1 (fun e H => kx1 (e 0) (e 1) (e 2) (e 7) (e 30) (e 31) H) (inK 0 (fun e H => kx0 (e 7) H) (fun _ _ _ => False)))) (rKZ Tryd.f129 Q) (pKZ Q))
theorem cL129_8 (env : Env) (H : Heap) (kn : K6T) (kx1 : K6T) (kx0 : K1T) (Q : QT) (h : L129_8 (env 0) (env 1) (env 2) (env 7) (env 8) (env 9) (env 10) (env 11) (env 30) (env 31) (env 52) (env 53) (env 54) H kn kx1 kx0 Q) :
    qUZ Tryd.prog 89 (qRZ [1,1,0,1,0,0,1,1,0,0,1,1,1,1,1,1] (qSZ Tryd.f129)) env H (mkK (fun e H => kn (e 0) (e 1) (e 2) (e 7) (e 30) (e 31) H) (inK 1 (fun e H => kx1 (e 0) (e 1) (e 2) (e 7) (e 30) (e 31) H) (inK 0 (fun e H => kx0 (e 7) H) (fun _ _ _ => False))) (rKZ Tryd.f129 Q) (pKZ Q)) :=
  qUZ.blk (by kernel_rfl : (qRZ [1,1,0,1,0,0,1,1,0,0,1,1,1,1,1,1] (qSZ Tryd.f129)) = .block 2 (qRZ [1,1,0,1,0,0,1,1,0,0,1,1,1,1,1,1,0] (qSZ Tryd.f129))) (qUZ.lp (by kernel_rfl : (qRZ [1,1,0,1,0,0,1,1,0,0,1,1,1,1,1,1,0] (qSZ Tryd.f129)) = .loop (qRZ [1,1,0,1,0,0,1,1,0,0,1,1,1,1,1,1,0,0] (qSZ Tryd.f129))) ((h env rfl rfl rfl rfl rfl rfl rfl rfl rfl rfl rfl rfl rfl).mono (qPZ (fun _ _ h => h.elim) (fun _ _ _ h => h) (fun _ _ h => h) (fun _ _ h => h))))
def m129_10 (x0 x1 x2 x7 x8 x9 x10 x11 x30 x31 x52 x53 x54 : Value) (H : Heap) (kn : K13T) (kx2 : K6T) (kx1 : K6T) (kx0 : K1T) (Q : QT) : Prop :=
oV (vInt .add x54 (.int .i64 1)) fun u0 =>
kn x0 x1 x2 x7 x8 x9 x10 x11 x30 x31 x52 x53 u0 H
theorem c129_10 (env : Env) (H : Heap) (kn : K13T) (kx2 : K6T) (kx1 : K6T) (kx0 : K1T) (Q : QT) (h : m129_10 (env 0) (env 1) (env 2) (env 7) (env 8) (env 9) (env 10) (env 11) (env 30) (env 31) (env 52) (env 53) (env 54) H kn kx2 kx1 kx0 Q) :
    qUZ Tryd.prog 89 (qRZ [1,1,0,1,0,0,1,1,0,0,1,1,1,1,1,1,0,0,1,1,1] (qSZ Tryd.f129)) env H (mkK (fun e H => kn (e 0) (e 1) (e 2) (e 7) (e 8) (e 9) (e 10) (e 11) (e 30) (e 31) (e 52) (e 53) (e 54) H) (inK 2 (fun e H => kx2 (e 0) (e 1) (e 2) (e 7) (e 30) (e 31) H) (inK 1 (fun e H => kx1 (e 0) (e 1) (e 2) (e 7) (e 30) (e 31) H) (inK 0 (fun e H => kx0 (e 7) H) (fun _ _ _ => False)))) (rKZ Tryd.f129 Q) (pKZ Q)) :=
  qUZ.leaf_ (T := T) (X := ext) (hint := hint129) tok xok mixed (by kernel_rfl) h
def L129_13 (x0 x1 x2 x7 x8 x9 x10 x11 x12 x30 x31 x52 x53 x54 x60 x61 : Value) (H : Heap) (kn : K13T) (kx3 : K13T) (kx2 : K6T) (kx1 : K6T) (kx0 : K1T) (Q : QT) : Prop :=
  ∀ env : Env, env 0 = x0 → env 1 = x1 → env 2 = x2 → env 7 = x7 → env 8 = x8 → env 9 = x9 → env 10 = x10 → env 11 = x11 → env 12 = x12 → env 30 = x30 → env 31 = x31 → env 52 = x52 → env 53 = x53 → env 54 = x54 → env 60 = x60 → env 61 = x61 → RLoop Tryd.prog 89 (qRZ [1,1,0,1,0,0,1,1,0,0,1,1,1,1,1,1,0,0,1,1,0,0,1,1,0,0] (qSZ Tryd.f129)) env H (mkK (fun _ _ => False) (inK 4 (fun e H => kn (e 0) (e 1) (e 2) (e 7) (e 8) (e 9) (e 10) (e 11) (e 30) (e 31) (e 52) (e 53) (e 54) H) (inK 3 (fun e H => kx3 (e 0) (e 1) (e 2) (e 7) (e 8) (e 9) (e 10) (e 11) (e 30) (e 31) (e 52) (e 53) (e 54) H) (inK 2 (fun e H => kx2 (e 0) (e 1) (e 2) (e 7) (e 30) (e 31) H) (inK 1 (fun e H => kx1 (e 0) (e 1) (e 2) (e 7) (e 30) (e 31) H) (inK 0 (fun e H => kx0 (e 7) H) (fun _ _ _ => False)))))) (rKZ Tryd.f129 Q) (pKZ Q))
theorem cL129_13 (env : Env) (H : Heap) (kn : K13T) (kx3 : K13T) (kx2 : K6T) (kx1 : K6T) (kx0 : K1T) (Q : QT) (h : L129_13 (env 0) (env 1) (env 2) (env 7) (env 8) (env 9) (env 10) (env 11) (env 12) (env 30) (env 31) (env 52) (env 53) (env 54) (env 60) (env 61) H kn kx3 kx2 kx1 kx0 Q) :
    qUZ Tryd.prog 89 (qRZ [1,1,0,1,0,0,1,1,0,0,1,1,1,1,1,1,0,0,1,1,0,0,1,1] (qSZ Tryd.f129)) env H (mkK (fun e H => kn (e 0) (e 1) (e 2) (e 7) (e 8) (e 9) (e 10) (e 11) (e 30) (e 31) (e 52) (e 53) (e 54) H) (inK 3 (fun e H => kx3 (e 0) (e 1) (e 2) (e 7) (e 8) (e 9) (e 10) (e 11) (e 30) (e 31) (e 52) (e 53) (e 54) H) (inK 2 (fun e H => kx2 (e 0) (e 1) (e 2) (e 7) (e 30) (e 31) H) (inK 1 (fun e H => kx1 (e 0) (e 1) (e 2) (e 7) (e 30) (e 31) H) (inK 0 (fun e H => kx0 (e 7) H) (fun _ _ _ => False))))) (rKZ Tryd.f129 Q) (pKZ Q)) :=
  qUZ.blk (by kernel_rfl : (qRZ [1,1,0,1,0,0,1,1,0,0,1,1,1,1,1,1,0,0,1,1,0,0,1,1] (qSZ Tryd.f129)) = .block 4 (qRZ [1,1,0,1,0,0,1,1,0,0,1,1,1,1,1,1,0,0,1,1,0,0,1,1,0] (qSZ Tryd.f129))) (qUZ.lp (by kernel_rfl : (qRZ [1,1,0,1,0,0,1,1,0,0,1,1,1,1,1,1,0,0,1,1,0,0,1,1,0] (qSZ Tryd.f129)) = .loop (qRZ [1,1,0,1,0,0,1,1,0,0,1,1,1,1,1,1,0,0,1,1,0,0,1,1,0,0] (qSZ Tryd.f129))) ((h env rfl rfl rfl rfl rfl rfl rfl rfl rfl rfl rfl rfl rfl rfl rfl rfl).mono (qPZ (fun _ _ h => h.elim) (fun _ _ _ h => h) (fun _ _ h => h) (fun _ _ h => h))))
def m129_14 (x0 x1 x2 x7 x8 x9 x10 x11 x12 x30 x31 x52 x53 x54 x60 x61 : Value) (H : Heap) (kn : K16T) (kx4 : K13T) (kx3 : K13T) (kx2 : K6T) (kx1 : K6T) (kx0 : K1T) (Q : QT) : Prop :=
oV (vInt .lss x61 x60) fun u0 =>
p7Z u0 (
oV (p1Z 1 x10 x11) fun u1 =>
oV (qWZ ty22 u1 H) fun u2 =>
oV (p1Z 1 x9 x11) fun u3 =>
oV (qWZ ty22 u3 H) fun u4 =>
oV (vInt .neq u2 u4) fun u5 =>
p7Z u5 (
oV (vNil x0) fun u6 =>
oV (qYZ 1 u6) fun u7 =>
oV (qYZ 1 u7) fun u8 =>
oV (qWZ ty3 u8 H) fun u9 =>
oV (vInt .mul x12 u9) fun u10 =>
oV (vInt .add u10 x8) fun u11 =>
oV (p1Z 1 x7 u11) fun u12 =>
oHeap (p2Z ty22 u12 (.int .u64 1) H) fun u13 =>
oV (vInt .add x11 (.int .i64 1)) fun u14 =>
oV (vInt .add x61 (.int .i64 1)) fun u15 =>
kn x0 x1 x2 x7 x8 x9 x10 u14 x12 x30 x31 x52 x53 x54 x60 u15 u13) (
oV (vInt .add x11 (.int .i64 1)) fun u16 =>
oV (vInt .add x61 (.int .i64 1)) fun u17 =>
kn x0 x1 x2 x7 x8 x9 x10 u16 x12 x30 x31 x52 x53 x54 x60 u17 H)) (
kx4 x0 x1 x2 x7 x8 x9 x10 x11 x30 x31 x52 x53 x54 H)
theorem c129_14 (env : Env) (H : Heap) (kn : K16T) (kx4 : K13T) (kx3 : K13T) (kx2 : K6T) (kx1 : K6T) (kx0 : K1T) (Q : QT) (h : m129_14 (env 0) (env 1) (env 2) (env 7) (env 8) (env 9) (env 10) (env 11) (env 12) (env 30) (env 31) (env 52) (env 53) (env 54) (env 60) (env 61) H kn kx4 kx3 kx2 kx1 kx0 Q) :
    qUZ Tryd.prog 89 (qRZ [1,1,0,1,0,0,1,1,0,0,1,1,1,1,1,1,0,0,1,1,0,0,1,1,0,0] (qSZ Tryd.f129)) env H (mkK (fun e H => kn (e 0) (e 1) (e 2) (e 7) (e 8) (e 9) (e 10) (e 11) (e 12) (e 30) (e 31) (e 52) (e 53) (e 54) (e 60) (e 61) H) (inK 4 (fun e H => kx4 (e 0) (e 1) (e 2) (e 7) (e 8) (e 9) (e 10) (e 11) (e 30) (e 31) (e 52) (e 53) (e 54) H) (inK 3 (fun e H => kx3 (e 0) (e 1) (e 2) (e 7) (e 8) (e 9) (e 10) (e 11) (e 30) (e 31) (e 52) (e 53) (e 54) H) (inK 2 (fun e H => kx2 (e 0) (e 1) (e 2) (e 7) (e 30) (e 31) H) (inK 1 (fun e H => kx1 (e 0) (e 1) (e 2) (e 7) (e 30) (e 31) H) (inK 0 (fun e H => kx0 (e 7) H) (fun _ _ _ => False)))))) (rKZ Tryd.f129 Q) (pKZ Q)) :=
  qUZ.leaf_ (T := T) (X := ext) (hint := hint129) tok xok mixed (by kernel_rfl) h
theorem L129_13_round (x0 x1 x2 x7 x8 x9 x10 x11 x12 x30 x31 x52 x53 x54 x60 x61 : Value) (H : Heap) (kn : K13T) (kx3 : K13T) (kx2 : K6T) (kx1 : K6T) (kx0 : K1T) (Q : QT) (h : m129_14 x0 x1 x2 x7 x8 x9 x10 x11 x12 x30 x31 x52 x53 x54 x60 x61 H (fun y0 y1 y2 y7 y8 y9 y10 y11 y12 y30 y31 y52 y53 y54 y60 y61 H => L129_13 y0 y1 y2 y7 y8 y9 y10 y11 y12 y30 y31 y52 y53 y54 y60 y61 H kn kx3 kx2 kx1 kx0 Q) kn kx3 kx2 kx1 kx0 Q) : L129_13 x0 x1 x2 x7 x8 x9 x10 x11 x12 x30 x31 x52 x53 x54 x60 x61 H kn kx3 kx2 kx1 kx0 Q := by
  intro env h0 h1 h2 h7 h8 h9 h10 h11 h12 h30 h31 h52 h53 h54 h60 h61
  subst h0; subst h1; subst h2; subst h7; subst h8; subst h9; subst h10; subst h11; subst h12; subst h30; subst h31; subst h52; subst h53; subst h54; subst h60; subst h61
  exact RLoop.round ((c129_14 env H (fun y0 y1 y2 y7 y8 y9 y10 y11 y12 y30 y31 y52 y53 y54 y60 y61 H => L129_13 y0 y1 y2 y7 y8 y9 y10 y11 y12 y30 y31 y52 y53 y54 y60 y61 H kn kx3 kx2 kx1 kx0 Q) kn kx3 kx2 kx1 kx0 Q h).mono (qPZ (fun e H h => h e rfl rfl rfl rfl rfl rfl rfl rfl rfl rfl rfl rfl rfl rfl rfl rfl) (fun _ _ _ h => h) (fun _ _ h => h) (fun _ _ h => h)))
def m129_12 (x0 x1 x2 x7 x8 x9 x10 x11 x30 x31 x52 x53 x54 : Value) (H : Heap) (kn : K13T) (kx3 : K13T) (kx2 : K6T) (kx1 : K6T) (kx0 : K1T) (Q : QT) : Prop :=
oV (p1Z 1 x52 x54) fun u0 =>
oV (qWZ ty27 u0 H) fun u1 =>
oV (vLen u1) fun u2 =>
L129_13 x0 x1 x2 x7 x8 x9 x10 x11 x54 x30 x31 x52 x53 x54 u2 (.int .i64 0) H kn kx3 kx2 kx1 kx0 Q
theorem c129_12 (env : Env) (H : Heap) (kn : K13T) (kx3 : K13T) (kx2 : K6T) (kx1 : K6T) (kx0 : K1T) (Q : QT) (h : m129_12 (env 0) (env 1) (env 2) (env 7) (env 8) (env 9) (env 10) (env 11) (env 30) (env 31) (env 52) (env 53) (env 54) H kn kx3 kx2 kx1 kx0 Q) :
    qUZ Tryd.prog 89 (qRZ [1,1,0,1,0,0,1,1,0,0,1,1,1,1,1,1,0,0,1,1,0,0] (qSZ Tryd.f129)) env H (mkK (fun e H => kn (e 0) (e 1) (e 2) (e 7) (e 8) (e 9) (e 10) (e 11) (e 30) (e 31) (e 52) (e 53) (e 54) H) (inK 3 (fun e H => kx3 (e 0) (e 1) (e 2) (e 7) (e 8) (e 9) (e 10) (e 11) (e 30) (e 31) (e 52) (e 53) (e 54) H) (inK 2 (fun e H => kx2 (e 0) (e 1) (e 2) (e 7) (e 30) (e 31) H) (inK 1 (fun e H => kx1 (e 0) (e 1) (e 2) (e 7) (e 30) (e 31) H) (inK 0 (fun e H => kx0 (e 7) H) (fun _ _ _ => False))))) (rKZ Tryd.f129 Q) (pKZ Q)) :=
  qUZ.prefix_ (T := T) (X := ext) (hint := hint129) (hole := (fun e H => L129_13 (e 0) (e 1) (e 2) (e 7) (e 8) (e 9) (e 10) (e 11) (e 12) (e 30) (e 31) (e 52) (e 53) (e 54) (e 60) (e 61) H kn kx3 kx2 kx1 kx0 Q)) tok xok mixed 2 (by kernel_rfl) (by kernel_rfl : qRZ _ _ = (qRZ [1,1,0,1,0,0,1,1,0,0,1,1,1,1,1,1,0,0,1,1,0,0,1,1] (qSZ Tryd.f129))) h
    (fun e H h => (cL129_13 e H kn kx3 kx2 kx1 kx0 Q h))
def m129_11 (x0 x1 x2 x7 x8 x9 x10 x11 x30 x31 x52 x53 x54 : Value) (H : Heap) (kn : K13T) (kx2 : K6T) (kx1 : K6T) (kx0 : K1T) (Q : QT) : Prop :=
m129_12 x0 x1 x2 x7 x8 x9 x10 x11 x30 x31 x52 x53 x54 H kn kn kx2 kx1 kx0 Q
theorem c129_11 (env : Env) (H : Heap) (kn : K13T) (kx2 : K6T) (kx1 : K6T) (kx0 : K1T) (Q : QT) (h : m129_11 (env 0) (env 1) (env 2) (env 7) (env 8) (env 9) (env 10) (env 11) (env 30) (env 31) (env 52) (env 53) (env 54) H kn kx2 kx1 kx0 Q) :
    qUZ Tryd.prog 89 (qRZ [1,1,0,1,0,0,1,1,0,0,1,1,1,1,1,1,0,0,1,1,0] (qSZ Tryd.f129)) env H (mkK (fun e H => kn (e 0) (e 1) (e 2) (e 7) (e 8) (e 9) (e 10) (e 11) (e 30) (e 31) (e 52) (e 53) (e 54) H) (inK 2 (fun e H => kx2 (e 0) (e 1) (e 2) (e 7) (e 30) (e 31) H) (inK 1 (fun e H => kx1 (e 0) (e 1) (e 2) (e 7) (e 30) (e 31) H) (inK 0 (fun e H => kx0 (e 7) H) (fun _ _ _ => False)))) (rKZ Tryd.f129 Q) (pKZ Q)) :=
  qUZ.blk (by kernel_rfl : (qRZ [1,1,0,1,0,0,1,1,0,0,1,1,1,1,1,1,0,0,1,1,0] (qSZ Tryd.f129)) = .block 3 (qRZ [1,1,0,1,0,0,1,1,0,0,1,1,1,1,1,1,0,0,1,1,0,0] (qSZ Tryd.f129))) (c129_12 env H kn kn kx2 kx1 kx0 Q h)
def m129_9 (x0 x1 x2 x7 x8 x9 x10 x11 x30 x31 x52 x53 x54 : Value) (H : Heap) (kn : K13T) (kx2 : K6T) (kx1 : K6T) (kx0 : K1T) (Q : QT) : Prop :=
oV (vInt .lss x54 x53) fun u0 =>
p7Z u0 (
m129_11 x0 x1 x2 x7 x8 x9 x10 x11 x30 x31 x52 x53 x54 H (fun u1 u2 u3 u4 u5 u6 u7 u8 u9 u10 u11 u12 u13 u14 => m129_10 u1 u2 u3 u4 u5 u6 u7 u8 u9 u10 u11 u12 u13 u14 kn kx2 kx1 kx0 Q) kx2 kx1 kx0 Q) (
kx2 x0 x1 x2 x7 x30 x31 H)
theorem c129_9 (env : Env) (H : Heap) (kn : K13T) (kx2 : K6T) (kx1 : K6T) (kx0 : K1T) (Q : QT) (h : m129_9 (env 0) (env 1) (env 2) (env 7) (env 8) (env 9) (env 10) (env 11) (env 30) (env 31) (env 52) (env 53) (env 54) H kn kx2 kx1 kx0 Q) :
    qUZ Tryd.prog 89 (qRZ [1,1,0,1,0,0,1,1,0,0,1,1,1,1,1,1,0,0] (qSZ Tryd.f129)) env H (mkK (fun e H => kn (e 0) (e 1) (e 2) (e 7) (e 8) (e 9) (e 10) (e 11) (e 30) (e 31) (e 52) (e 53) (e 54) H) (inK 2 (fun e H => kx2 (e 0) (e 1) (e 2) (e 7) (e 30) (e 31) H) (inK 1 (fun e H => kx1 (e 0) (e 1) (e 2) (e 7) (e 30) (e 31) H) (inK 0 (fun e H => kx0 (e 7) H) (fun _ _ _ => False)))) (rKZ Tryd.f129 Q) (pKZ Q)) :=
  qUZ.prefix_ (T := T) (X := ext) (hint := hint129) (hole := (fun e H => m129_11 (e 0) (e 1) (e 2) (e 7) (e 8) (e 9) (e 10) (e 11) (e 30) (e 31) (e 52) (e 53) (e 54) H (fun y0_39 y1_40 y2_41 y7_42 y8_43 y9_44 y10_45 y11_46 y30_47 y31_48 y52_49 y53_50 y54_51 H_52 => m129_10 y0_39 y1_40 y2_41 y7_42 y8_43 y9_44 y10_45 y11_46 y30_47 y31_48 y52_49 y53_50 y54_51 H_52 kn kx2 kx1 kx0 Q) kx2 kx1 kx0 Q)) tok xok mixed 2 (by kernel_rfl) (by kernel_rfl : qRZ _ _ = (qRZ [1,1,0,1,0,0,1,1,0,0,1,1,1,1,1,1,0,0,1,1] (qSZ Tryd.f129))) h
    (fun e H h => qUZ.join (by kernel_rfl : (qRZ [1,1,0,1,0,0,1,1,0,0,1,1,1,1,1,1,0,0,1,1] (qSZ Tryd.f129)) = .seq (qRZ [1,1,0,1,0,0,1,1,0,0,1,1,1,1,1,1,0,0,1,1,0] (qSZ Tryd.f129)) (qRZ [1,1,0,1,0,0,1,1,0,0,1,1,1,1,1,1,0,0,1,1,1] (qSZ Tryd.f129))) ((c129_11 e H (fun y0_53 y1_54 y2_55 y7_56 y8_57 y9_58 y10_59 y11_60 y30_61 y31_62 y52_63 y53_64 y54_65 H_66 => m129_10 y0_53 y1_54 y2_55 y7_56 y8_57 y9_58 y10_59 y11_60 y30_61 y31_62 y52_63 y53_64 y54_65 H_66 kn kx2 kx1 kx0 Q) kx2 kx1 kx0 Q h).mono (qPZ (fun e H h => c129_10 e H kn kx2 kx1 kx0 Q h) (fun _ _ _ h => h) (fun _ _ h => h) (fun _ _ h => h))))
theorem L129_8_round (x0 x1 x2 x7 x8 x9 x10 x11 x30 x31 x52 x53 x54 : Value) (H : Heap) (kn : K6T) (kx1 : K6T) (kx0 : K1T) (Q : QT) (h : m129_9 x0 x1 x2 x7 x8 x9 x10 x11 x30 x31 x52 x53 x54 H (fun y0 y1 y2 y7 y8 y9 y10 y11 y30 y31 y52 y53 y54 H => L129_8 y0 y1 y2 y7 y8 y9 y10 y11 y30 y31 y52 y53 y54 H kn kx1 kx0 Q) kn kx1 kx0 Q) : L129_8 x0 x1 x2 x7 x8 x9 x10 x11 x30 x31 x52 x53 x54 H kn kx1 kx0 Q := by
  intro env h0 h1 h2 h7 h8 h9 h10 h11 h30 h31 h52 h53 h54
  subst h0; subst h1; subst h2; subst h7; subst h8; subst h9; subst h10; subst h11; subst h30; subst h31; subst h52; subst h53; subst h54
  exact RLoop.round ((c129_9 env H (fun y0 y1 y2 y7 y8 y9 y10 y11 y30 y31 y52 y53 y54 H => L129_8 y0 y1 y2 y7 y8 y9 y10 y11 y30 y31 y52 y53 y54 H kn kx1 kx0 Q) kn kx1 kx0 Q h).mono (qPZ (fun e H h => h e rfl rfl rfl rfl rfl rfl rfl rfl rfl rfl rfl rfl rfl) (fun _ _ _ h => h) (fun _ _ h => h) (fun _ _ h => h)))
def m129_7 (x0 x1 x2 x7 x30 x31 : Value) (H : Heap) (kn : K6T) (kx1 : K6T) (kx0 : K1T) (Q : QT) : Prop :=
oV (vInt .eql x31 x1) fun u0 =>
p7Z u0 (
kx1 x0 x1 x2 x7 x30 x31 H) (
oV (vInt .add x31 (.int .i64 1)) fun u1 =>
oRC Tryd.prog 132 [x0, x1, u1] H (pKZ Q) fun u2 u3 =>
oV (p1Z 1 x2 x31) fun u4 =>
oV (qWZ ty52 u4 u3) fun u5 =>
oV (vLen u2) fun u6 =>
oRC Tryd.prog 49 [u5, u6] u3 (pKZ Q) fun u7 u8 =>
oV (vNil x0) fun u9 =>
oV (qYZ 4 u9) fun u10 =>
oV (qWZ ty44 u10 u8) fun u11 =>
oV (vLen u11) fun u12 =>
L129_8 x0 x1 x2 x7 x31 u2 u7 (.int .i64 0) x30 x31 u11 u12 (.int .i64 0) u8 kn kx1 kx0 Q)
theorem c129_7 (env : Env) (H : Heap) (kn : K6T) (kx1 : K6T) (kx0 : K1T) (Q : QT) (h : m129_7 (env 0) (env 1) (env 2) (env 7) (env 30) (env 31) H kn kx1 kx0 Q) :
    qUZ Tryd.prog 89 (qRZ [1,1,0,1,0,0,1,1,0,0] (qSZ Tryd.f129)) env H (mkK (fun e H => kn (e 0) (e 1) (e 2) (e 7) (e 30) (e 31) H) (inK 1 (fun e H => kx1 (e 0) (e 1) (e 2) (e 7) (e 30) (e 31) H) (inK 0 (fun e H => kx0 (e 7) H) (fun _ _ _ => False))) (rKZ Tryd.f129 Q) (pKZ Q)) :=
  qUZ.prefix_ (T := T) (X := ext) (hint := hint129) (hole := (fun e H => L129_8 (e 0) (e 1) (e 2) (e 7) (e 8) (e 9) (e 10) (e 11) (e 30) (e 31) (e 52) (e 53) (e 54) H kn kx1 kx0 Q)) tok xok mixed 6 (by kernel_rfl) (by kernel_rfl : qRZ _ _ = (qRZ [1,1,0,1,0,0,1,1,0,0,1,1,1,1,1,1] (qSZ Tryd.f129))) h
    (fun e H h => (cL129_8 e H kn kx1 kx0 Q h))
def m129_6 (x0 x1 x2 x7 x30 x31 : Value) (H : Heap) (kn : K6T) (kx0 : K1T) (Q : QT) : Prop :=
m129_7 x0 x1 x2 x7 x30 x31 H kn kn kx0 Q
theorem c129_6 (env : Env) (H : Heap) (kn : K6T) (kx0 : K1T) (Q : QT) (h : m129_6 (env 0) (env 1) (env 2) (env 7) (env 30) (env 31) H kn kx0 Q) :
    qUZ Tryd.prog 89 (qRZ [1,1,0,1,0,0,1,1,0] (qSZ Tryd.f129)) env H (mkK (fun e H => kn (e 0) (e 1) (e 2) (e 7) (e 30) (e 31) H) (inK 0 (fun e H => kx0 (e 7) H) (fun _ _ _ => False)) (rKZ Tryd.f129 Q) (pKZ Q)) :=
  qUZ.blk (by kernel_rfl : (qRZ [1,1,0,1,0,0,1,1,0] (qSZ Tryd.f129)) = .block 1 (qRZ [1,1,0,1,0,0,1,1,0,0] (qSZ Tryd.f129))) (c129_7 env H kn kn kx0 Q h)
def m129_4 (x0 x1 x2 x7 x30 x31 : Value) (H : Heap) (kn : K6T) (kx0 : K1T) (Q : QT) : Prop :=
oV (vInt .lss x31 x30) fun u0 =>
p7Z u0 (
m129_6 x0 x1 x2 x7 x30 x31 H (fun u1 u2 u3 u4 u5 u6 u7 => m129_5 u1 u2 u3 u4 u5 u6 u7 kn kx0 Q) kx0 Q) (
kx0 x7 H)
theorem c129_4 (env : Env) (H : Heap) (kn : K6T) (kx0 : K1T) (Q : QT) (h : m129_4 (env 0) (env 1) (env 2) (env 7) (env 30) (env 31) H kn kx0 Q) :
    qUZ Tryd.prog 89 (qRZ [1,1,0,1,0,0] (qSZ Tryd.f129)) env H (mkK (fun e H => kn (e 0) (e 1) (e 2) (e 7) (e 30) (e 31) H) (inK 0 (fun e H => kx0 (e 7) H) (fun _ _ _ => False)) (rKZ Tryd.f129 Q) (pKZ Q)) :=
  qUZ.prefix_ (T := T) (X := ext) (hint := hint129) (hole := (fun e H => m129_6 (e 0) (e 1) (e 2) (e 7) (e 30) (e 31) H (fun y0_88 y1_89 y2_90 y7_91 y30_92 y31_93 H_94 => m129_5 y0_88 y1_89 y2_90 y7_91 y30_92 y31_93 H_94 kn kx0 Q) kx0 Q)) tok xok mixed 2 (by kernel_rfl) (by kernel_rfl : qRZ _ _ = (qRZ [1,1,0,1,0,0,1,1] (qSZ Tryd.f129))) h
    (fun e H h => qUZ.join (by kernel_rfl : (qRZ [1,1,0,1,0,0,1,1] (qSZ Tryd.f129)) = .seq (qRZ [1,1,0,1,0,0,1,1,0] (qSZ Tryd.f129)) (qRZ [1,1,0,1,0,0,1,1,1] (qSZ Tryd.f129))) ((c129_6 e H (fun y0_95 y1_96 y2_97 y7_98 y30_99 y31_100 H_101 => m129_5 y0_95 y1_96 y2_97 y7_98 y30_99 y31_100 H_101 kn kx0 Q) kx0 Q h).mono (qPZ (fun e H h => c129_5 e H kn kx0 Q h) (fun _ _ _ h => h) (fun _ _ h => h) (fun _ _ h => h))))
theorem L129_3_round (x0 x1 x2 x7 x30 x31 : Value) (H : Heap) (kn : K1T) (Q : QT) (h : m129_4 x0 x1 x2 x7 x30 x31 H (fun y0 y1 y2 y7 y30 y31 H => L129_3 y0 y1 y2 y7 y30 y31 H kn Q) kn Q) : L129_3 x0 x1 x2 x7 x30 x31 H kn Q := by
  intro env h0 h1 h2 h7 h30 h31
  subst h0; subst h1; subst h2; subst h7; subst h30; subst h31
  exact RLoop.round ((c129_4 env H (fun y0 y1 y2 y7 y30 y31 H => L129_3 y0 y1 y2 y7 y30 y31 H kn Q) kn Q h).mono (qPZ (fun e H h => h e rfl rfl rfl rfl rfl rfl) (fun _ _ _ h => h) (fun _ _ h => h) (fun _ _ h => h)))
def m129_2 (x0 x1 x2 x7 : Value) (H : Heap) (kn : K1T) (Q : QT) : Prop :=
oV (vNil x0) fun u0 =>
oV (qYZ 1 u0) fun u1 =>
oV (qYZ 1 u1) fun u2 =>
oV (qWZ ty3 u2 H) fun u3 =>
L129_3 x0 x1 x2 x7 u3 (.int .i64 0) H kn Q
theorem c129_2 (env : Env) (H : Heap) (kn : K1T) (Q : QT) (h : m129_2 (env 0) (env 1) (env 2) (env 7) H kn Q) :
    qUZ Tryd.prog 89 (qRZ [1,1,0] (qSZ Tryd.f129)) env H (mkK (fun e H => kn (e 7) H) (fun _ _ _ => False) (rKZ Tryd.f129 Q) (pKZ Q)) :=
  qUZ.prefix_ (T := T) (X := ext) (hint := hint129) (hole := (fun e H => L129_3 (e 0) (e 1) (e 2) (e 7) (e 30) (e 31) H kn Q)) tok xok mixed 1 (by kernel_rfl) (by kernel_rfl : qRZ _ _ = (qRZ [1,1,0,1] (qSZ Tryd.f129))) h
    (fun e H h => (cL129_3 e H kn Q h))
def m129 (x0 x1 x2 : Value) (H : Heap) (Q : QT) : Prop :=
oV (vNil x0) fun u0 =>
oV (qYZ 1 u0) fun u1 =>
oV (qYZ 1 u1) fun u2 =>
oV (qWZ ty3 u2 H) fun u3 =>
oV (vNil x0) fun u4 =>
oV (qYZ 1 u4) fun u5 =>
oV (qYZ 1 u5) fun u6 =>
oV (qWZ ty3 u6 H) fun u7 =>
oV (vInt .mul u3 u7) fun u8 =>
oMake ty22 22 u8 u8 H fun u9 u10 =>
m129_2 x0 x1 x2 u9 u10 (fun u11 u12 => m129_1 u11 u12 Q) Q
theorem c129_0 (env : Env) (H : Heap) (Q : QT) (h : m129 (env 0) (env 1) (env 2) H Q) :
    qUZ Tryd.prog 89 (qSZ Tryd.f129) env H (mkK (rKZ Tryd.f129 Q) (fun _ _ _ => False) (rKZ Tryd.f129 Q) (pKZ Q)) :=
  qUZ.prefix_ (T := T) (X := ext) (hint := hint129) (hole := (fun e H => m129_2 (e 0) (e 1) (e 2) (e 7) H (fun y7_119 H_120 => m129_1 y7_119 H_120 Q) Q)) tok xok mixed 2 (by kernel_rfl) (by kernel_rfl : qRZ _ _ = (qRZ [1,1] (qSZ Tryd.f129))) h
    (fun e H h => qUZ.join (by kernel_rfl : (qRZ [1,1] (qSZ Tryd.f129)) = .seq (qRZ [1,1,0] (qSZ Tryd.f129)) (qRZ [1,1,1] (qSZ Tryd.f129))) ((c129_2 e H (fun y7_121 H_122 => m129_1 y7_121 H_122 Q) Q h).mono (qPZ (fun e H h => c129_1 e H Q h) (fun _ _ _ h => h) (fun _ _ h => h) (fun _ _ h => h))))
theorem call129 (a0 a1 a2 : Value) (H : Heap) (Q : QT) (h : m129 a0 a1 a2 H Q) : qVZ Tryd.prog 129 [a0, a1, a2] H Q :=
  qVZ.intro (nt := 89) tok Tryd.func129 (by kernel_rfl) (by kernel_rfl) (by kernel_rfl) (of_decide_eq_true (by kernel_rfl)) (c129_0 (envOf [a0, a1, a2]) H Q h)
def hint128 : Nat → List Nat := p5Z [(0, [0,1,2,3,4,5,6,7,8,9,10])]
def m128 (x0 x1 x2 x3 : Value) (H : Heap) (Q : QT) : Prop :=
oV (qWZ ty27 x3 H) fun u0 =>
oV (qWZ ty150 x1 H) fun u1 =>
oV (qWZ ty44 x2 H) fun u2 =>
oV (p1Z 1 u2 x0) fun u3 =>
oV (qWZ ty27 u3 H) fun u4 =>
oRC Tryd.prog 129 [u1, x0, u4] H noP fun u5 u6 =>
(qWZ ty27 x3 u6 = some u0 ∧
oV (p1Z 1 u0 x0) fun u7 =>
oHeap (p2Z ty52 u7 u5 u6) fun u8 =>
Q (.returned (.tuple #[])) u8)
theorem c128_0 (env : Env) (H : Heap) (Q : QT) (h : m128 (env 0) (env 1) (env 2) (env 3) H Q) :
    qUZ Tryd.prog 15 (qSZ Tryd.f128) env H (mkK (rKZ Tryd.f128 Q) (fun _ _ _ => False) (rKZ Tryd.f128 Q) (pKZ Q)) :=
  qUZ.leaf_ (T := T) (X := ext) (hint := hint128) tok xok mixed (by kernel_rfl) h
theorem call128 (a0 a1 a2 a3 : Value) (H : Heap) (Q : QT) (h : m128 a0 a1 a2 a3 H Q) : qVZ Tryd.prog 128 [a0, a1, a2, a3] H Q :=
  qVZ.intro (nt := 15) tok Tryd.func128 (by kernel_rfl) (by kernel_rfl) (by kernel_rfl) (of_decide_eq_true (by kernel_rfl)) (c128_0 (envOf [a0, a1, a2, a3]) H Q h)
end

section
set_option maxRecDepth 100000
open Go
def hint130 : Nat → List Nat := p5Z [(0, [0,1,2,3,4,5,6,7,8,9,10,11,12,13,14,15,16]), (4, [0,1,2,3,4,5,6,7,8,9,10,11,12,13,14,15,16,17,18,19,20,21,22,23,24,25,26,27,28,29,30,31,32,33,34])]
def L130_1 (x0 x2 x4 x26 x27 : Value) (H : Heap) (kn : K0T) (Q : QT) : Prop :=
  ∀ env : Env, env 0 = x0 → env 2 = x2 → env 4 = x4 → env 26 = x26 → env 27 = x27 → RLoop Tryd.prog 65 (qRZ [1,1,0,0] (qSZ Tryd.f130)) env H (mkK (fun _ _ => False) (inK 0 (fun e H => kn H) (fun _ _ _ => False)) (rKZ Tryd.f130 Q) (pKZ Q))
theorem cL130_1 (env : Env) (H : Heap) (kn : K0T) (Q : QT) (h : L130_1 (env 0) (env 2) (env 4) (env 26) (env 27) H kn Q) :
    qUZ Tryd.prog 65 (qRZ [1,1] (qSZ Tryd.f130)) env H (mkK (fun e H => kn H) (fun _ _ _ => False) (rKZ Tryd.f130 Q) (pKZ Q)) :=
  qUZ.blk (by kernel_rfl : (qRZ [1,1] (qSZ Tryd.f130)) = .block 0 (qRZ [1,1,0] (qSZ Tryd.f130))) (qUZ.lp (by kernel_rfl : (qRZ [1,1,0] (qSZ Tryd.f130)) = .loop (qRZ [1,1,0,0] (qSZ Tryd.f130))) ((h env rfl rfl rfl rfl rfl).mono (qPZ (fun _ _ h => h.elim) (fun _ _ _ h => h) (fun _ _ h => h) (fun _ _ h => h))))
def m130_2 (x0 x2 x4 x26 x27 : Value) (H : Heap) (kn : K5T) (kx0 : K0T) (Q : QT) : Prop :=
oV (vInt .lss x27 x26) fun u0 =>
p7Z u0 (
oV (qWZ ty150 x2 H) fun u1 =>
oV (vNil u1) fun u2 =>
oV (qYZ 5 u2) fun u3 =>
oV (qYZ 2 u3) fun u4 =>
oV (qWZ ty44 u4 H) fun u5 =>
oV (qWZ ty150 x2 H) fun u6 =>
oV (vNil u6) fun u7 =>
oV (qYZ 5 u7) fun u8 =>
oV (qYZ 2 u8) fun u9 =>
oV (qWZ ty44 u9 H) fun u10 =>
oV (p1Z 1 u10 x0) fun u11 =>
oV (qWZ ty27 u11 H) fun u12 =>
oV (qWZ ty150 x2 H) fun u13 =>
oV (vNil u13) fun u14 =>
oV (qYZ 1 u14) fun u15 =>
oV (qYZ 1 u15) fun u16 =>
oV (qWZ ty3 u16 H) fun u17 =>
oV (vInt .mul x27 u17) fun u18 =>
oV (vInt .add x27 (.int .i64 1)) fun u19 =>
oV (qWZ ty150 x2 H) fun u20 =>
oV (vNil u20) fun u21 =>
oV (qYZ 1 u21) fun u22 =>
oV (qYZ 1 u22) fun u23 =>
oV (qWZ ty3 u23 H) fun u24 =>
oV (vInt .mul u19 u24) fun u25 =>
oV (vSlice 1 x4 (some u18) (some u25) none) fun u26 =>
p3Z ty52 52 1 [((0,1), u26)] H fun u27 u28 =>
p4Z ty52 52 u12 u27 u28 fun u29 u30 =>
(qWZ ty44 u4 u30 = some u5 ∧
(qWZ ty150 x2 u30 = some u1 ∧
oV (p1Z 1 u5 x0) fun u31 =>
oHeap (p2Z ty27 u31 u29 u30) fun u32 =>
oV (vInt .add x27 (.int .i64 1)) fun u33 =>
kn x0 x2 x4 x26 u33 u32))) (
kx0 H)
theorem c130_2 (env : Env) (H : Heap) (kn : K5T) (kx0 : K0T) (Q : QT) (h : m130_2 (env 0) (env 2) (env 4) (env 26) (env 27) H kn kx0 Q) :
    qUZ Tryd.prog 65 (qRZ [1,1,0,0] (qSZ Tryd.f130)) env H (mkK (fun e H => kn (e 0) (e 2) (e 4) (e 26) (e 27) H) (inK 0 (fun e H => kx0 H) (fun _ _ _ => False)) (rKZ Tryd.f130 Q) (pKZ Q)) :=
  qUZ.leaf_ (T := T) (X := ext) (hint := hint130) tok xok mixed (by kernel_rfl) h
theorem L130_1_round (x0 x2 x4 x26 x27 : Value) (H : Heap) (kn : K0T) (Q : QT) (h : m130_2 x0 x2 x4 x26 x27 H (fun y0 y2 y4 y26 y27 H => L130_1 y0 y2 y4 y26 y27 H kn Q) kn Q) : L130_1 x0 x2 x4 x26 x27 H kn Q := by
  intro env h0 h2 h4 h26 h27
  subst h0; subst h2; subst h4; subst h26; subst h27
  exact RLoop.round ((c130_2 env H (fun y0 y2 y4 y26 y27 H => L130_1 y0 y2 y4 y26 y27 H kn Q) kn Q h).mono (qPZ (fun e H h => h e rfl rfl rfl rfl rfl) (fun _ _ _ h => h) (fun _ _ h => h) (fun _ _ h => h)))
def m130 (x0 x1 x2 : Value) (H : Heap) (Q : QT) : Prop :=
oV (qWZ ty27 x1 H) fun u0 =>
oV (p1Z 1 u0 x0) fun u1 =>
oV (qWZ ty52 u1 H) fun u2 =>
oV (qWZ ty150 x2 H) fun u3 =>
oV (vNil u3) fun u4 =>
oV (qYZ 1 u4) fun u5 =>
oV (qYZ 1 u5) fun u6 =>
oV (qWZ ty3 u6 H) fun u7 =>
oV (qWZ ty150 x2 H) fun u8 =>
oV (vNil u8) fun u9 =>
oV (qYZ 1 u9) fun u10 =>
oV (qYZ 1 u10) fun u11 =>
oV (qWZ ty3 u11 H) fun u12 =>
oV (vInt .mul u7 u12) fun u13 =>
oRC Tryd.prog 49 [u2, u13] H noP fun u14 u15 =>
oV (qWZ ty150 x2 u15) fun u16 =>
oV (vNil u16) fun u17 =>
oV (qYZ 1 u17) fun u18 =>
oV (qYZ 1 u18) fun u19 =>
oV (qWZ ty3 u19 u15) fun u20 =>
L130_1 x0 x2 u14 u20 (.int .i64 0) u15 (fun u21 => Q (.returned (.tuple #[])) u21) Q
theorem c130_0 (env : Env) (H : Heap) (Q : QT) (h : m130 (env 0) (env 1) (env 2) H Q) :
    qUZ Tryd.prog 65 (qSZ Tryd.f130) env H (mkK (rKZ Tryd.f130 Q) (fun _ _ _ => False) (rKZ Tryd.f130 Q) (pKZ Q)) :=
  qUZ.prefix_ (T := T) (X := ext) (hint := hint130) (hole := (fun e H => L130_1 (e 0) (e 2) (e 4) (e 26) (e 27) H (fun H_57 => Q (.returned (.tuple #[])) H_57) Q)) tok xok mixed 2 (by kernel_rfl) (by kernel_rfl : qRZ _ _ = (qRZ [1,1] (qSZ Tryd.f130))) h
    (fun e H h => ((cL130_1 e H (fun H_58 => Q (.returned (.tuple #[])) H_58) Q h).mono (qPZ (fun e H h => h) (fun _ _ _ h => h) (fun _ _ h => h) (fun _ _ h => h))))
theorem call130 (a0 a1 a2 : Value) (H : Heap) (Q : QT) (h : m130 a0 a1 a2 H Q) : qVZ Tryd.prog 130 [a0, a1, a2] H Q :=
  qVZ.intro (nt := 65) tok Tryd.func130 (by kernel_rfl) (by kernel_rfl) (by kernel_rfl) (of_decide_eq_true (by kernel_rfl)) (c130_0 (envOf [a0, a1, a2]) H Q h)
def hint105 : Nat → List Nat := p5Z [(3, [0,1,2,3,4,5,6,7])]
def m105 (x0 x1 : Value) (H : Heap) (Q : QT) : Prop :=
oNew (Value.cells x0).toList (Value.cells x0).toList.length 150 H fun u0 u1 =>
oNew (Value.cells x1).toList (Value.cells x1).toList.length 44 u1 fun u2 u3 =>
oV (qWZ ty150 (qTZ u0) u3) fun u4 =>
oV (vNil u4) fun u5 =>
oV (qYZ 1 u5) fun u6 =>
oV (qYZ 1 u6) fun u7 =>
oV (qWZ ty3 u7 u3) fun u8 =>
oMake ty52 52 u8 u8 u3 fun u9 u10 =>
oNew (Value.cells ty27.zero).toList (Value.cells ty27.zero).toList.length 27 u10 fun u11 u12 =>
oHeap (p2Z ty27 (qTZ u11) u9 u12) fun u13 =>
oV (qWZ ty150 (qTZ u0) u13) fun u14 =>
oRC Tryd.prog 120 [u14, (.func (.func 128) #[] #[(qTZ u0), (qTZ u2), (qTZ u11)])] u13 (pKZ Q) fun u15 u16 =>
oV (qWZ ty150 (qTZ u0) u16) fun u17 =>
oV (vNil u17) fun u18 =>
oV (qYZ 0 u18) fun u19 =>
oV (qWZ ty35 u19 u16) fun u20 =>
oV (qWZ ty27 (qTZ u11) u16) fun u21 =>
oRC Tryd.prog 48 [u20, u21] u16 noP fun u22 u23 =>
oNew (Value.cells ty27.zero).toList (Value.cells ty27.zero).toList.length 27 u23 fun u24 u25 =>
oHeap (p2Z ty27 (qTZ u24) u22 u25) fun u26 =>
oV (qWZ ty150 (qTZ u0) u26) fun u27 =>
oRC Tryd.prog 120 [u27, (.func (.func 130) #[] #[(qTZ u24), (qTZ u0)])] u26 (pKZ Q) fun u28 u29 =>
Q (.returned (.tuple #[])) u29
theorem c105_0 (env : Env) (H : Heap) (Q : QT) (h : m105 (env 0) (env 1) H Q) :
    qUZ Tryd.prog 24 (qSZ Tryd.f105) env H (mkK (rKZ Tryd.f105 Q) (fun _ _ _ => False) (rKZ Tryd.f105 Q) (pKZ Q)) :=
  qUZ.leaf_ (T := T) (X := ext) (hint := hint105) tok xok mixed (by kernel_rfl) h
theorem call105 (a0 a1 : Value) (H : Heap) (Q : QT) (h : m105 a0 a1 H Q) : qVZ Tryd.prog 105 [a0, a1] H Q :=
  qVZ.intro (nt := 24) tok Tryd.func105 (by kernel_rfl) (by kernel_rfl) (by kernel_rfl) (of_decide_eq_true (by kernel_rfl)) (c105_0 (envOf [a0, a1]) H Q h)
def hint72 : Nat → List Nat := p5Z [(2, [0,1,2,3,4,6,7,9,10,5,8,11,12,13,14,15])]
def m72 (x0 x1 : Value) (H : Heap) (Q : QT) : Prop :=
oNew (Value.cells ty71.zero).toList (Value.cells ty71.zero).toList.length 71 H fun u0 u1 =>
oRC Tryd.prog 19 [x0] u1 (pKZ Q) fun u2 u3 =>
oV (vPart true 0 3 u2) fun u4 =>
oNew (Value.cells ty24.zero).toList (Value.cells ty24.zero).toList.length 24 u3 fun u5 u6 =>
oHeap (p2Z ty24 (qTZ u5) u4 u6) fun u7 =>
oV (qWZ ty24 (qTZ u5) u7) fun u8 =>
oV (qYZ 1 (qTZ u5)) fun u9 =>
oV (qWZ ty3 u9 u7) fun u10 =>
oV (qYZ 1 (qTZ u5)) fun u11 =>
oV (qWZ ty3 u11 u7) fun u12 =>
oV (qYZ 1 (qTZ u5)) fun u13 =>
oV (qWZ ty3 u13 u7) fun u14 =>
oMake ty44 44 u10 u10 u7 fun u15 u16 =>
oMake ty44 44 u12 u12 u16 fun u17 u18 =>
oMake ty27 27 u14 u14 u18 fun u19 u20 =>
oV (vBuild ty71 [((0,1), u15), ((1,1), u17), ((2,1), u19)]) fun u21 =>
oV (vBuild ty152 [((0,1), x0), ((1,3), u8), ((4,1), x1), ((5,3), u21)]) fun u22 =>
oNew (Value.cells u22).toList (Value.cells u22).toList.length 152 u20 fun u23 u24 =>
oRC Tryd.prog 103 [(qTZ u23)] u24 (pKZ Q) fun u25 u26 =>
oRC Tryd.prog 104 [(qTZ u23)] u26 (pKZ Q) fun u27 u28 =>
oRC Tryd.prog 106 [(qTZ u23)] u28 (pKZ Q) fun u29 u30 =>
oRC Tryd.prog 105 [(qTZ u23), u29] u30 (pKZ Q) fun u31 u32 =>
oV (vNil (qTZ u23)) fun u33 =>
oV (qYZ 5 u33) fun u34 =>
oV (qWZ ty71 u34 u32) fun u35 =>
oHeap (p2Z ty71 (qTZ u0) u35 u32) fun u36 =>
retM ((qWZ ty71 (qTZ u0) u36).bind fun v => (some []).map (v :: ·)) Q u36
theorem c72_0 (env : Env) (H : Heap) (Q : QT) (h : m72 (env 0) (env 1) H Q) :
    qUZ Tryd.prog 37 (qSZ Tryd.f72) env H (mkK (rKZ Tryd.f72 Q) (fun _ _ _ => False) (rKZ Tryd.f72 Q) (pKZ Q)) :=
  qUZ.leaf_ (T := T) (X := ext) (hint := hint72) tok xok mixed (by kernel_rfl) h
theorem call72 (a0 a1 : Value) (H : Heap) (Q : QT) (h : m72 a0 a1 H Q) : qVZ Tryd.prog 72 [a0, a1] H Q :=
  qVZ.intro (nt := 37) tok Tryd.func72 (by kernel_rfl) (by kernel_rfl) (by kernel_rfl) (of_decide_eq_true (by kernel_rfl)) (c72_0 (envOf [a0, a1]) H Q h)
def hint37 : Nat → List Nat := p5Z [(6, [0,1,2,3,4,5,6,7,8])]
def m37_1 (H : Heap) (Q : QT) : Prop :=
Q (.returned (.bool true)) H
theorem c37_1 (env : Env) (H : Heap) (Q : QT) (h : m37_1 H Q) :
    qUZ Tryd.prog 26 (qRZ [1,1,1] (qSZ Tryd.f37)) env H (mkK (rKZ Tryd.f37 Q) (fun _ _ _ => False) (rKZ Tryd.f37 Q) (pKZ Q)) :=
  qUZ.leaf_ (T := T) (X := ext) (hint := hint37) tok xok mixed (by kernel_rfl) h
def L37_3 (x0 x1 x5 : Value) (H : Heap) (kn : K0T) (Q : QT) : Prop :=
  ∀ env : Env, env 0 = x0 → env 1 = x1 → env 5 = x5 → RLoop Tryd.prog 26 (qRZ [1,1,0,1,0,0] (qSZ Tryd.f37)) env H (mkK (fun _ _ => False) (inK 0 (fun e H => kn H) (fun _ _ _ => False)) (rKZ Tryd.f37 Q) (pKZ Q))
theorem cL37_3 (env : Env) (H : Heap) (kn : K0T) (Q : QT) (h : L37_3 (env 0) (env 1) (env 5) H kn Q) :
    qUZ Tryd.prog 26 (qRZ [1,1,0,1] (qSZ Tryd.f37)) env H (mkK (fun e H => kn H) (fun _ _ _ => False) (rKZ Tryd.f37 Q) (pKZ Q)) :=
  qUZ.blk (by kernel_rfl : (qRZ [1,1,0,1] (qSZ Tryd.f37)) = .block 0 (qRZ [1,1,0,1,0] (qSZ Tryd.f37))) (qUZ.lp (by kernel_rfl : (qRZ [1,1,0,1,0] (qSZ Tryd.f37)) = .loop (qRZ [1,1,0,1,0,0] (qSZ Tryd.f37))) ((h env rfl rfl rfl).mono (qPZ (fun _ _ h => h.elim) (fun _ _ _ h => h) (fun _ _ h => h) (fun _ _ h => h))))
def m37_4 (x0 x1 x5 : Value) (H : Heap) (kn : K3T) (kx0 : K0T) (Q : QT) : Prop :=
oV (vLen x0) fun u0 =>
oV (vInt .lss x5 u0) fun u1 =>
p7Z u1 (
oV (p1Z 1 x0 x5) fun u2 =>
oV (qWZ ty22 u2 H) fun u3 =>
oV (p1Z 1 x1 x5) fun u4 =>
oV (qWZ ty22 u4 H) fun u5 =>
oV (vInt .neq u3 u5) fun u6 =>
p7Z u6 (
Q (.returned (.bool false)) H) (
oV (vInt .add x5 (.int .i64 1)) fun u7 =>
kn x0 x1 u7 H)) (
kx0 H)
theorem c37_4 (env : Env) (H : Heap) (kn : K3T) (kx0 : K0T) (Q : QT) (h : m37_4 (env 0) (env 1) (env 5) H kn kx0 Q) :
    qUZ Tryd.prog 26 (qRZ [1,1,0,1,0,0] (qSZ Tryd.f37)) env H (mkK (fun e H => kn (e 0) (e 1) (e 5) H) (inK 0 (fun e H => kx0 H) (fun _ _ _ => False)) (rKZ Tryd.f37 Q) (pKZ Q)) :=
  qUZ.leaf_ (T := T) (X := ext) (hint := hint37) tok xok mixed (by kernel_rfl) h
theorem L37_3_round (x0 x1 x5 : Value) (H : Heap) (kn : K0T) (Q : QT) (h : m37_4 x0 x1 x5 H (fun y0 y1 y5 H => L37_3 y0 y1 y5 H kn Q) kn Q) : L37_3 x0 x1 x5 H kn Q := by
  intro env h0 h1 h5
  subst h0; subst h1; subst h5
  exact RLoop.round ((c37_4 env H (fun y0 y1 y5 H => L37_3 y0 y1 y5 H kn Q) kn Q h).mono (qPZ (fun e H h => h e rfl rfl rfl) (fun _ _ _ h => h) (fun _ _ h => h) (fun _ _ h => h)))
def m37_2 (x0 x1 : Value) (H : Heap) (kn : K0T) (Q : QT) : Prop :=
L37_3 x0 x1 (.int .i64 0) H kn Q
theorem c37_2 (env : Env) (H : Heap) (kn : K0T) (Q : QT) (h : m37_2 (env 0) (env 1) H kn Q) :
    qUZ Tryd.prog 26 (qRZ [1,1,0] (qSZ Tryd.f37)) env H (mkK (fun e H => kn H) (fun _ _ _ => False) (rKZ Tryd.f37 Q) (pKZ Q)) :=
  qUZ.prefix_ (T := T) (X := ext) (hint := hint37) (hole := (fun e H => L37_3 (e 0) (e 1) (e 5) H kn Q)) tok xok mixed 1 (by kernel_rfl) (by kernel_rfl : qRZ _ _ = (qRZ [1,1,0,1] (qSZ Tryd.f37))) h
    (fun e H h => (cL37_3 e H kn Q h))
def m37 (x0 x1 : Value) (H : Heap) (Q : QT) : Prop :=
oV (vLen x0) fun u0 =>
oV (vLen x1) fun u1 =>
oV (vInt .neq u0 u1) fun u2 =>
p7Z u2 (
Q (.returned (.bool false)) H) (
m37_2 x0 x1 H (fun u3 => m37_1 u3 Q) Q)
theorem c37_0 (env : Env) (H : Heap) (Q : QT) (h : m37 (env 0) (env 1) H Q) :
    qUZ Tryd.prog 26 (qSZ Tryd.f37) env H (mkK (rKZ Tryd.f37 Q) (fun _ _ _ => False) (rKZ Tryd.f37 Q) (pKZ Q)) :=
  qUZ.prefix_ (T := T) (X := ext) (hint := hint37) (hole := (fun e H => m37_2 (e 0) (e 1) H (fun H_13 => m37_1 H_13 Q) Q)) tok xok mixed 2 (by kernel_rfl) (by kernel_rfl : qRZ _ _ = (qRZ [1,1] (qSZ Tryd.f37))) h
    (fun e H h => qUZ.join (by kernel_rfl : (qRZ [1,1] (qSZ Tryd.f37)) = .seq (qRZ [1,1,0] (qSZ Tryd.f37)) (qRZ [1,1,1] (qSZ Tryd.f37))) ((c37_2 e H (fun H_14 => m37_1 H_14 Q) Q h).mono (qPZ (fun e H h => c37_1 e H Q h) (fun _ _ _ h => h) (fun _ _ h => h) (fun _ _ h => h))))
theorem call37 (a0 a1 : Value) (H : Heap) (Q : QT) (h : m37 a0 a1 H Q) : qVZ Tryd.prog 37 [a0, a1] H Q :=
  qVZ.intro (nt := 26) tok Tryd.func37 (by kernel_rfl) (by kernel_rfl) (by kernel_rfl) (of_decide_eq_true (by kernel_rfl)) (c37_0 (envOf [a0, a1]) H Q h)
def hint44 : Nat → List Nat := p5Z [(6, [0,1,2,3,4,5,6,7,8,9])]
def m44_1 (H : Heap) (Q : QT) : Prop :=
Q (.returned (.bool true)) H
theorem c44_1 (env : Env) (H : Heap) (Q : QT) (h : m44_1 H Q) :
    qUZ Tryd.prog 27 (qRZ [1,1,1] (qSZ Tryd.f44)) env H (mkK (rKZ Tryd.f44 Q) (fun _ _ _ => False) (rKZ Tryd.f44 Q) (pKZ Q)) :=
  qUZ.leaf_ (T := T) (X := ext) (hint := hint44) tok xok mixed (by kernel_rfl) h
def L44_3 (x0 x1 x5 : Value) (H : Heap) (kn : K0T) (Q : QT) : Prop :=
  ∀ env : Env, env 0 = x0 → env 1 = x1 → env 5 = x5 → RLoop Tryd.prog 27 (qRZ [1,1,0,1,0,0] (qSZ Tryd.f44)) env H (mkK (fun _ _ => False) (inK 0 (fun e H => kn H) (fun _ _ _ => False)) (rKZ Tryd.f44 Q) (pKZ Q))
theorem cL44_3 (env : Env) (H : Heap) (kn : K0T) (Q : QT) (h : L44_3 (env 0) (env 1) (env 5) H kn Q) :
    qUZ Tryd.prog 27 (qRZ [1,1,0,1] (qSZ Tryd.f44)) env H (mkK (fun e H => kn H) (fun _ _ _ => False) (rKZ Tryd.f44 Q) (pKZ Q)) :=
  qUZ.blk (by kernel_rfl : (qRZ [1,1,0,1] (qSZ Tryd.f44)) = .block 0 (qRZ [1,1,0,1,0] (qSZ Tryd.f44))) (qUZ.lp (by kernel_rfl : (qRZ [1,1,0,1,0] (qSZ Tryd.f44)) = .loop (qRZ [1,1,0,1,0,0] (qSZ Tryd.f44))) ((h env rfl rfl rfl).mono (qPZ (fun _ _ h => h.elim) (fun _ _ _ h => h) (fun _ _ h => h) (fun _ _ h => h))))
def m44_4 (x0 x1 x5 : Value) (H : Heap) (kn : K3T) (kx0 : K0T) (Q : QT) : Prop :=
oV (vLen x0) fun u0 =>
oV (vInt .lss x5 u0) fun u1 =>
p7Z u1 (
oV (p1Z 1 x0 x5) fun u2 =>
oV (qWZ ty52 u2 H) fun u3 =>
oV (p1Z 1 x1 x5) fun u4 =>
oV (qWZ ty52 u4 H) fun u5 =>
oRC Tryd.prog 37 [u3, u5] H noP fun u6 u7 =>
oV (vUn .not u6) fun u8 =>
p7Z u8 (
Q (.returned (.bool false)) u7) (
oV (vInt .add x5 (.int .i64 1)) fun u9 =>
kn x0 x1 u9 u7)) (
kx0 H)
theorem c44_4 (env : Env) (H : Heap) (kn : K3T) (kx0 : K0T) (Q : QT) (h : m44_4 (env 0) (env 1) (env 5) H kn kx0 Q) :
    qUZ Tryd.prog 27 (qRZ [1,1,0,1,0,0] (qSZ Tryd.f44)) env H (mkK (fun e H => kn (e 0) (e 1) (e 5) H) (inK 0 (fun e H => kx0 H) (fun _ _ _ => False)) (rKZ Tryd.f44 Q) (pKZ Q)) :=
  qUZ.leaf_ (T := T) (X := ext) (hint := hint44) tok xok mixed (by kernel_rfl) h
theorem L44_3_round (x0 x1 x5 : Value) (H : Heap) (kn : K0T) (Q : QT) (h : m44_4 x0 x1 x5 H (fun y0 y1 y5 H => L44_3 y0 y1 y5 H kn Q) kn Q) : L44_3 x0 x1 x5 H kn Q := by
  intro env h0 h1 h5
  subst h0; subst h1; subst h5
  exact RLoop.round ((c44_4 env H (fun y0 y1 y5 H => L44_3 y0 y1 y5 H kn Q) kn Q h).mono (qPZ (fun e H h => h e rfl rfl rfl) (fun _ _ _ h => h) (fun _ _ h => h) (fun _ _ h => h)))
def m44_2 (x0 x1 : Value) (H : Heap) (kn : K0T) (Q : QT) : Prop :=
L44_3 x0 x1 (.int .i64 0) H kn Q
theorem c44_2 (env : Env) (H : Heap) (kn : K0T) (Q : QT) (h : m44_2 (env 0) (env 1) H kn Q) :
    qUZ Tryd.prog 27 (qRZ [1,1,0] (qSZ Tryd.f44)) env H (mkK (fun e H => kn H) (fun _ _ _ => False) (rKZ Tryd.f44 Q) (pKZ Q)) :=
  qUZ.prefix_ (T := T) (X := ext) (hint := hint44) (hole := (fun e H => L44_3 (e 0) (e 1) (e 5) H kn Q)) tok xok mixed 1 (by kernel_rfl) (by kernel_rfl : qRZ _ _ = (qRZ [1,1,0,1] (qSZ Tryd.f44))) h
    (fun e H h => (cL44_3 e H kn Q h))
def m44 (x0 x1 : Value) (H : Heap) (Q : QT) : Prop :=
oV (vLen x0) fun u0 =>
oV (vLen x1) fun u1 =>
oV (vInt .neq u0 u1) fun u2 =>
p7Z u2 (
Q (.returned (.bool false)) H) (
m44_2 x0 x1 H (fun u3 => m44_1 u3 Q) Q)
theorem c44_0 (env : Env) (H : Heap) (Q : QT) (h : m44 (env 0) (env 1) H Q) :
    qUZ Tryd.prog 27 (qSZ Tryd.f44) env H (mkK (rKZ Tryd.f44 Q) (fun _ _ _ => False) (rKZ Tryd.f44 Q) (pKZ Q)) :=
  qUZ.prefix_ (T := T) (X := ext) (hint := hint44) (hole := (fun e H => m44_2 (e 0) (e 1) H (fun H_15 => m44_1 H_15 Q) Q)) tok xok mixed 2 (by kernel_rfl) (by kernel_rfl : qRZ _ _ = (qRZ [1,1] (qSZ Tryd.f44))) h
    (fun e H h => qUZ.join (by kernel_rfl : (qRZ [1,1] (qSZ Tryd.f44)) = .seq (qRZ [1,1,0] (qSZ Tryd.f44)) (qRZ [1,1,1] (qSZ Tryd.f44))) ((c44_2 e H (fun H_16 => m44_1 H_16 Q) Q h).mono (qPZ (fun e H h => c44_1 e H Q h) (fun _ _ _ h => h) (fun _ _ h => h) (fun _ _ h => h))))
theorem call44 (a0 a1 : Value) (H : Heap) (Q : QT) (h : m44 a0 a1 H Q) : qVZ Tryd.prog 44 [a0, a1] H Q :=
  qVZ.intro (nt := 27) tok Tryd.func44 (by kernel_rfl) (by kernel_rfl) (by kernel_rfl) (of_decide_eq_true (by kernel_rfl)) (c44_0 (envOf [a0, a1]) H Q h)
def hint32 : Nat → List Nat := p5Z [(12, [0,1,2,3,4,5,6,7,8,9,10,11,12,13,14,15,16,17,18,19,20,21,22,23,24,25,26,27,28,29,30,31,32,33,34,35,36,37,38,39,40,41,42,43])]
def m32_1 (H : Heap) (Q : QT) : Prop :=
Q (.returned (.bool true)) H
theorem c32_1 (env : Env) (H : Heap) (Q : QT) (h : m32_1 H Q) :
    qUZ Tryd.prog 97 (qRZ [1,1,1,1,1,1,1,1] (qSZ Tryd.f32)) env H (mkK (rKZ Tryd.f32 Q) (fun _ _ _ => False) (rKZ Tryd.f32 Q) (pKZ Q)) :=
  qUZ.leaf_ (T := T) (X := ext) (hint := hint32) tok xok mixed (by kernel_rfl) h
def L32_3 (x4 x5 x6 : Value) (H : Heap) (kn : K0T) (Q : QT) : Prop :=
  ∀ env : Env, env 4 = x4 → env 5 = x5 → env 6 = x6 → RLoop Tryd.prog 97 (qRZ [1,1,1,1,1,1,1,0,1,0,0] (qSZ Tryd.f32)) env H (mkK (fun _ _ => False) (inK 0 (fun e H => kn H) (fun _ _ _ => False)) (rKZ Tryd.f32 Q) (pKZ Q))
theorem cL32_3 (env : Env) (H : Heap) (kn : K0T) (Q : QT) (h : L32_3 (env 4) (env 5) (env 6) H kn Q) :
    qUZ Tryd.prog 97 (qRZ [1,1,1,1,1,1,1,0,1] (qSZ Tryd.f32)) env H (mkK (fun e H => kn H) (fun _ _ _ => False) (rKZ Tryd.f32 Q) (pKZ Q)) :=
  qUZ.blk (by kernel_rfl : (qRZ [1,1,1,1,1,1,1,0,1] (qSZ Tryd.f32)) = .block 0 (qRZ [1,1,1,1,1,1,1,0,1,0] (qSZ Tryd.f32))) (qUZ.lp (by kernel_rfl : (qRZ [1,1,1,1,1,1,1,0,1,0] (qSZ Tryd.f32)) = .loop (qRZ [1,1,1,1,1,1,1,0,1,0,0] (qSZ Tryd.f32))) ((h env rfl rfl rfl).mono (qPZ (fun _ _ h => h.elim) (fun _ _ _ h => h) (fun _ _ h => h) (fun _ _ h => h))))
def m32_4 (x4 x5 x6 : Value) (H : Heap) (kn : K3T) (kx0 : K0T) (Q : QT) : Prop :=
oV (vInt .lss x6 (.int .i64 4)) fun u0 =>
p7Z u0 (
oV (qYZ 1 x4) fun u1 =>
oV (qWZ ty69 u1 H) fun u2 =>
oV (p1Z 1 u2 x6) fun u3 =>
oV (qWZ ty44 u3 H) fun u4 =>
oV (vLen u4) fun u5 =>
oV (vInt .neq u5 (.int .i64 4)) fun u6 =>
oV (gV u6 false (qYZ 1 x4) (some undef)) fun u7 =>
oV (gV u6 false (qWZ ty69 u7 H) (some undef)) fun u8 =>
oV (gV u6 false (some x6) (some undef)) fun u9 =>
oV (gV u6 false (p1Z 1 u8 u9) (some undef)) fun u10 =>
oV (gV u6 false (qWZ ty44 u10 H) (some undef)) fun u11 =>
oV (gV u6 false (p1Z 1 u11 (.int .i64 0)) (some undef)) fun u12 =>
oV (gV u6 false (qWZ ty27 u12 H) (some undef)) fun u13 =>
oV (gV u6 false (some x5) (some undef)) fun u14 =>
oV (gV u6 false (some x6) (some undef)) fun u15 =>
oV (gV u6 false (some x6) (some undef)) fun u16 =>
oV (gV u6 false (vInt .add u16 (.int .i64 1)) (some undef)) fun u17 =>
oV (gV u6 false (vSlice 1 u14 (some u15) (some u17) none) (some undef)) fun u18 =>
letK (fun u19 u20 =>
oV (gV u6 false (vUn .not u19) (some undef)) fun u21 =>
oV (pAZ u6 (.bool true) u21) fun u22 =>
oV (gV u22 false (qYZ 2 x4) (some undef)) fun u23 =>
oV (gV u22 false (qWZ ty44 u23 u20) (some undef)) fun u24 =>
oV (gV u22 false (some x6) (some undef)) fun u25 =>
oV (gV u22 false (p1Z 1 u24 u25) (some undef)) fun u26 =>
oV (gV u22 false (qWZ ty27 u26 u20) (some undef)) fun u27 =>
oV (gV u22 false (vLen u27) (some undef)) fun u28 =>
oV (gV u22 false (vInt .neq u28 (.int .i64 4)) (some undef)) fun u29 =>
oV (pAZ u22 (.bool true) u29) fun u30 =>
oV (gV u30 false (qYZ 2 x4) (some undef)) fun u31 =>
oV (gV u30 false (qWZ ty44 u31 u20) (some undef)) fun u32 =>
oV (gV u30 false (some x6) (some undef)) fun u33 =>
oV (gV u30 false (p1Z 1 u32 u33) (some undef)) fun u34 =>
oV (gV u30 false (qWZ ty27 u34 u20) (some undef)) fun u35 =>
oV (gV u30 false (p1Z 1 u35 (.int .i64 0)) (some undef)) fun u36 =>
oV (gV u30 false (qWZ ty52 u36 u20) (some undef)) fun u37 =>
letK (fun u38 u39 =>
letK (fun u40 u41 =>
oV (gV u30 false (vUn .not u40) (some undef)) fun u42 =>
oV (pAZ u30 (.bool true) u42) fun u43 =>
p7Z u43 (
Q (.returned (.bool false)) u41) (
oV (vInt .add x6 (.int .i64 1)) fun u44 =>
kn x4 x5 u44 u41)) fun u45 => gK u30 false (oRC Tryd.prog 37 [u37, u38] u39 noP fun u46 u47 =>
u45 u46 u47) (u45 undef u39)) fun u48 => gK u30 false (p3Z ty22 22 4 [((0,1), (.int .u64 0)), ((1,1), (.int .u64 0)), ((2,1), (.int .u64 0)), ((3,1), (.int .u64 0))] u20 fun u49 u50 =>
u48 u49 u50) (u48 undef u20)) fun u51 => gK u6 false (oRC Tryd.prog 44 [u13, u18] H noP fun u52 u53 =>
u51 u52 u53) (u51 undef H)) (
kx0 H)
theorem c32_4 (env : Env) (H : Heap) (kn : K3T) (kx0 : K0T) (Q : QT) (h : m32_4 (env 4) (env 5) (env 6) H kn kx0 Q) :
    qUZ Tryd.prog 97 (qRZ [1,1,1,1,1,1,1,0,1,0,0] (qSZ Tryd.f32)) env H (mkK (fun e H => kn (e 4) (e 5) (e 6) H) (inK 0 (fun e H => kx0 H) (fun _ _ _ => False)) (rKZ Tryd.f32 Q) (pKZ Q)) :=
  qUZ.leaf_ (T := T) (X := ext) (hint := hint32) tok xok mixed (by kernel_rfl) h
theorem L32_3_round (x4 x5 x6 : Value) (H : Heap) (kn : K0T) (Q : QT) (h : m32_4 x4 x5 x6 H (fun y4 y5 y6 H => L32_3 y4 y5 y6 H kn Q) kn Q) : L32_3 x4 x5 x6 H kn Q := by
  intro env h4 h5 h6
  subst h4; subst h5; subst h6
  exact RLoop.round ((c32_4 env H (fun y4 y5 y6 H => L32_3 y4 y5 y6 H kn Q) kn Q h).mono (qPZ (fun e H h => h e rfl rfl rfl) (fun _ _ _ h => h) (fun _ _ h => h) (fun _ _ h => h)))
def m32_2 (x4 x5 : Value) (H : Heap) (kn : K0T) (Q : QT) : Prop :=
L32_3 x4 x5 (.int .i64 0) H kn Q
theorem c32_2 (env : Env) (H : Heap) (kn : K0T) (Q : QT) (h : m32_2 (env 4) (env 5) H kn Q) :
    qUZ Tryd.prog 97 (qRZ [1,1,1,1,1,1,1,0] (qSZ Tryd.f32)) env H (mkK (fun e H => kn H) (fun _ _ _ => False) (rKZ Tryd.f32 Q) (pKZ Q)) :=
  qUZ.prefix_ (T := T) (X := ext) (hint := hint32) (hole := (fun e H => L32_3 (e 4) (e 5) (e 6) H kn Q)) tok xok mixed 1 (by kernel_rfl) (by kernel_rfl : qRZ _ _ = (qRZ [1,1,1,1,1,1,1,0,1] (qSZ Tryd.f32))) h
    (fun e H h => (cL32_3 e H kn Q h))
def m32 (H : Heap) (Q : QT) : Prop :=
oV (vBuild ty24 [((0,1), (.int .u64 31)), ((1,1), (.int .i64 4)), ((2,1), (.int .i64 1))]) fun u0 =>
p3Z ty22 22 1 [((0,1), (.int .u64 3))] H fun u1 u2 =>
p3Z ty52 52 4 [((0,1), u1), ((1,1), (.slice none 0 0)), ((2,1), (.slice none 0 0)), ((3,1), (.slice none 0 0))] u2 fun u3 u4 =>
oV (vBuild ty29 [((0,3), u0), ((5,1), u3)]) fun u5 =>
oNew (Value.cells ty29.zero).toList (Value.cells ty29.zero).toList.length 29 u4 fun u6 u7 =>
oHeap (p2Z ty29 (qTZ u6) u5 u7) fun u8 =>
oV (qWZ ty29 (qTZ u6) u8) fun u9 =>
oRC Tryd.prog 12 [u9] u8 (pKZ Q) fun u10 u11 =>
oV (p0Z u10 0) fun u12 =>
oV (p0Z u10 1) fun u13 =>
oV (vInt .neq u13 (.int .i64 0)) fun u14 =>
p7Z u14 (
Q (.returned (.bool false)) u11) (
p3Z ty22 22 2 [((0,1), (.int .u64 5)), ((1,1), (.int .u64 2))] u11 fun u15 u16 =>
p3Z ty52 52 1 [((0,1), u15)] u16 fun u17 u18 =>
p3Z ty27 27 4 [((0,1), u17), ((1,1), (.slice none 0 0)), ((2,1), (.slice none 0 0)), ((3,1), (.slice none 0 0))] u18 fun u19 u20 =>
oRC Tryd.prog 72 [u12, u19] u20 (pKZ Q) fun u21 u22 =>
oNew (Value.cells ty71.zero).toList (Value.cells ty71.zero).toList.length 71 u22 fun u23 u24 =>
oHeap (p2Z ty71 (qTZ u23) u21 u24) fun u25 =>
oRC Tryd.prog 14 [u12] u25 (pKZ Q) fun u26 u27 =>
oV (vInt .neq u26 (.int .i64 3)) fun u28 =>
oV (gV u28 false (qYZ 1 (qTZ u23)) (some undef)) fun u29 =>
oV (gV u28 false (qWZ ty69 u29 u27) (some undef)) fun u30 =>
oV (gV u28 false (vLen u30) (some undef)) fun u31 =>
oV (gV u28 false (vInt .neq u31 (.int .i64 4)) (some undef)) fun u32 =>
oV (pAZ u28 (.bool true) u32) fun u33 =>
oV (gV u33 false (qYZ 2 (qTZ u23)) (some undef)) fun u34 =>
oV (gV u33 false (qWZ ty44 u34 u27) (some undef)) fun u35 =>
oV (gV u33 false (vLen u35) (some undef)) fun u36 =>
oV (gV u33 false (vInt .neq u36 (.int .i64 4)) (some undef)) fun u37 =>
oV (pAZ u33 (.bool true) u37) fun u38 =>
oV (gV u38 false (qYZ 0 (qTZ u23)) (some undef)) fun u39 =>
oV (gV u38 false (qWZ ty69 u39 u27) (some undef)) fun u40 =>
oV (gV u38 false (vLen u40) (some undef)) fun u41 =>
oV (gV u38 false (vInt .neq u41 (.int .i64 4)) (some undef)) fun u42 =>
oV (pAZ u38 (.bool true) u42) fun u43 =>
p7Z u43 (
Q (.returned (.bool false)) u27) (
p3Z ty22 22 2 [((0,1), (.int .u64 7)), ((1,1), (.int .u64 5))] u27 fun u44 u45 =>
p3Z ty22 22 2 [((0,1), (.int .u64 9)), ((1,1), (.int .u64 8))] u45 fun u46 u47 =>
p3Z ty22 22 2 [((0,1), (.int .u64 11)), ((1,1), (.int .u64 11))] u47 fun u48 u49 =>
p3Z ty22 22 2 [((0,1), (.int .u64 13)), ((1,1), (.int .u64 14))] u49 fun u50 u51 =>
p3Z ty52 52 4 [((0,1), u44), ((1,1), u46), ((2,1), u48), ((3,1), u50)] u51 fun u52 u53 =>
m32_2 (qTZ u23) u52 u53 (fun u54 => m32_1 u54 Q) Q))
theorem c32_0 (env : Env) (H : Heap) (Q : QT) (h : m32 H Q) :
    qUZ Tryd.prog 97 (qSZ Tryd.f32) env H (mkK (rKZ Tryd.f32 Q) (fun _ _ _ => False) (rKZ Tryd.f32 Q) (pKZ Q)) :=
  qUZ.prefix_ (T := T) (X := ext) (hint := hint32) (hole := (fun e H => m32_2 (e 4) (e 5) H (fun H_110 => m32_1 H_110 Q) Q)) tok xok mixed 7 (by kernel_rfl) (by kernel_rfl : qRZ _ _ = (qRZ [1,1,1,1,1,1,1] (qSZ Tryd.f32))) h
    (fun e H h => qUZ.join (by kernel_rfl : (qRZ [1,1,1,1,1,1,1] (qSZ Tryd.f32)) = .seq (qRZ [1,1,1,1,1,1,1,0] (qSZ Tryd.f32)) (qRZ [1,1,1,1,1,1,1,1] (qSZ Tryd.f32))) ((c32_2 e H (fun H_111 => m32_1 H_111 Q) Q h).mono (qPZ (fun e H h => c32_1 e H Q h) (fun _ _ _ h => h) (fun _ _ h => h) (fun _ _ h => h))))
theorem call32 (H : Heap) (Q : QT) (h : m32 H Q) : qVZ Tryd.prog 32 [] H Q :=
  qVZ.intro (nt := 97) tok Tryd.func32 (by kernel_rfl) (by kernel_rfl) (by kernel_rfl) (of_decide_eq_true (by kernel_rfl)) (c32_0 (envOf []) H Q h)
def hint73 : Nat → List Nat := p5Z []
def m73 (x0 : Value) (H : Heap) (Q : QT) : Prop :=
oV (vInt .add x0 (.int .i64 1)) fun u0 =>
oV (vInt .mul x0 u0) fun u1 =>
oV (vInt .quo u1 (.int .i64 2)) fun u2 =>
Q (.returned u2) H
theorem c73_0 (env : Env) (H : Heap) (Q : QT) (h : m73 (env 0) H Q) :
    qUZ Tryd.prog 8 (qSZ Tryd.f73) env H (mkK (rKZ Tryd.f73 Q) (fun _ _ _ => False) (rKZ Tryd.f73 Q) (pKZ Q)) :=
  qUZ.leaf_ (T := T) (X := ext) (hint := hint73) tok xok mixed (by kernel_rfl) h
theorem call73 (a0 : Value) (H : Heap) (Q : QT) (h : m73 a0 H Q) : qVZ Tryd.prog 73 [a0] H Q :=
  qVZ.intro (nt := 8) tok Tryd.func73 (by kernel_rfl) (by kernel_rfl) (by kernel_rfl) (of_decide_eq_true (by kernel_rfl)) (c73_0 (envOf [a0]) H Q h)
def hint74 : Nat → List Nat := p5Z []
def m74_1 (x1 x2 : Value) (H : Heap) (Q : QT) : Prop :=
oV (vLen x1) fun u0 =>
oV (vInt .leq u0 x2) fun u1 =>
Q (.returned u1) H
theorem c74_1 (env : Env) (H : Heap) (Q : QT) (h : m74_1 (env 1) (env 2) H Q) :
    qUZ Tryd.prog 29 (qRZ [1,1] (qSZ Tryd.f74)) env H (mkK (rKZ Tryd.f74 Q) (fun _ _ _ => False) (rKZ Tryd.f74 Q) (pKZ Q)) :=
  qUZ.leaf_ (T := T) (X := ext) (hint := hint74) tok xok mixed (by kernel_rfl) h
def L74_3 (x0 x1 x2 x7 : Value) (H : Heap) (kn : K2T) (Q : QT) : Prop :=
  ∀ env : Env, env 0 = x0 → env 1 = x1 → env 2 = x2 → env 7 = x7 → RLoop Tryd.prog 29 (qRZ [1,0,1,0,0] (qSZ Tryd.f74)) env H (mkK (fun _ _ => False) (inK 0 (fun e H => kn (e 1) (e 2) H) (fun _ _ _ => False)) (rKZ Tryd.f74 Q) (pKZ Q))
theorem cL74_3 (env : Env) (H : Heap) (kn : K2T) (Q : QT) (h : L74_3 (env 0) (env 1) (env 2) (env 7) H kn Q) :
    qUZ Tryd.prog 29 (qRZ [1,0,1] (qSZ Tryd.f74)) env H (mkK (fun e H => kn (e 1) (e 2) H) (fun _ _ _ => False) (rKZ Tryd.f74 Q) (pKZ Q)) :=
  qUZ.blk (by kernel_rfl : (qRZ [1,0,1] (qSZ Tryd.f74)) = .block 0 (qRZ [1,0,1,0] (qSZ Tryd.f74))) (qUZ.lp (by kernel_rfl : (qRZ [1,0,1,0] (qSZ Tryd.f74)) = .loop (qRZ [1,0,1,0,0] (qSZ Tryd.f74))) ((h env rfl rfl rfl rfl).mono (qPZ (fun _ _ h => h.elim) (fun _ _ _ h => h) (fun _ _ h => h) (fun _ _ h => h))))
def m74_4 (x0 x1 x2 x7 : Value) (H : Heap) (kn : K4T) (kx0 : K2T) (Q : QT) : Prop :=
oV (vLen x1) fun u0 =>
oV (vInt .lss x7 u0) fun u1 =>
oV (gV u1 true (some x7) (some undef)) fun u2 =>
oV (gV u1 true (some x2) (some undef)) fun u3 =>
oV (gV u1 true (vInt .leq u2 u3) (some undef)) fun u4 =>
oV (pAZ u1 u4 (.bool false)) fun u5 =>
p7Z u5 (
oV (p1Z 1 x1 x7) fun u6 =>
oV (qWZ ty22 u6 H) fun u7 =>
oV (vInt .geq u7 x0) fun u8 =>
p7Z u8 (
Q (.returned (.bool false)) H) (
oV (vInt .add x7 (.int .i64 1)) fun u9 =>
kn x0 x1 x2 u9 H)) (
kx0 x1 x2 H)
theorem c74_4 (env : Env) (H : Heap) (kn : K4T) (kx0 : K2T) (Q : QT) (h : m74_4 (env 0) (env 1) (env 2) (env 7) H kn kx0 Q) :
    qUZ Tryd.prog 29 (qRZ [1,0,1,0,0] (qSZ Tryd.f74)) env H (mkK (fun e H => kn (e 0) (e 1) (e 2) (e 7) H) (inK 0 (fun e H => kx0 (e 1) (e 2) H) (fun _ _ _ => False)) (rKZ Tryd.f74 Q) (pKZ Q)) :=
  qUZ.leaf_ (T := T) (X := ext) (hint := hint74) tok xok mixed (by kernel_rfl) h
theorem L74_3_round (x0 x1 x2 x7 : Value) (H : Heap) (kn : K2T) (Q : QT) (h : m74_4 x0 x1 x2 x7 H (fun y0 y1 y2 y7 H => L74_3 y0 y1 y2 y7 H kn Q) kn Q) : L74_3 x0 x1 x2 x7 H kn Q := by
  intro env h0 h1 h2 h7
  subst h0; subst h1; subst h2; subst h7
  exact RLoop.round ((c74_4 env H (fun y0 y1 y2 y7 H => L74_3 y0 y1 y2 y7 H kn Q) kn Q h).mono (qPZ (fun e H h => h e rfl rfl rfl rfl) (fun _ _ _ h => h) (fun _ _ h => h) (fun _ _ h => h)))
def m74_2 (x0 x1 x2 : Value) (H : Heap) (kn : K2T) (Q : QT) : Prop :=
L74_3 x0 x1 x2 (.int .i64 0) H kn Q
theorem c74_2 (env : Env) (H : Heap) (kn : K2T) (Q : QT) (h : m74_2 (env 0) (env 1) (env 2) H kn Q) :
    qUZ Tryd.prog 29 (qRZ [1,0] (qSZ Tryd.f74)) env H (mkK (fun e H => kn (e 1) (e 2) H) (fun _ _ _ => False) (rKZ Tryd.f74 Q) (pKZ Q)) :=
  qUZ.prefix_ (T := T) (X := ext) (hint := hint74) (hole := (fun e H => L74_3 (e 0) (e 1) (e 2) (e 7) H kn Q)) tok xok mixed 1 (by kernel_rfl) (by kernel_rfl : qRZ _ _ = (qRZ [1,0,1] (qSZ Tryd.f74))) h
    (fun e H h => (cL74_3 e H kn Q h))
def m74 (x0 x1 x2 : Value) (H : Heap) (Q : QT) : Prop :=
m74_2 x0 x1 x2 H (fun u0 u1 u2 => m74_1 u0 u1 u2 Q) Q
theorem c74_0 (env : Env) (H : Heap) (Q : QT) (h : m74 (env 0) (env 1) (env 2) H Q) :
    qUZ Tryd.prog 29 (qSZ Tryd.f74) env H (mkK (rKZ Tryd.f74 Q) (fun _ _ _ => False) (rKZ Tryd.f74 Q) (pKZ Q)) :=
  qUZ.prefix_ (T := T) (X := ext) (hint := hint74) (hole := (fun e H => m74_2 (e 0) (e 1) (e 2) H (fun y1_16 y2_17 H_18 => m74_1 y1_16 y2_17 H_18 Q) Q)) tok xok mixed 1 (by kernel_rfl) (by kernel_rfl : qRZ _ _ = (qRZ [1] (qSZ Tryd.f74))) h
    (fun e H h => qUZ.join (by kernel_rfl : (qRZ [1] (qSZ Tryd.f74)) = .seq (qRZ [1,0] (qSZ Tryd.f74)) (qRZ [1,1] (qSZ Tryd.f74))) ((c74_2 e H (fun y1_19 y2_20 H_21 => m74_1 y1_19 y2_20 H_21 Q) Q h).mono (qPZ (fun e H h => c74_1 e H Q h) (fun _ _ _ h => h) (fun _ _ h => h) (fun _ _ h => h))))
theorem call74 (a0 a1 a2 : Value) (H : Heap) (Q : QT) (h : m74 a0 a1 a2 H Q) : qVZ Tryd.prog 74 [a0, a1, a2] H Q :=
  qVZ.intro (nt := 29) tok Tryd.func74 (by kernel_rfl) (by kernel_rfl) (by kernel_rfl) (of_decide_eq_true (by kernel_rfl)) (c74_0 (envOf [a0, a1, a2]) H Q h)
def hint33 : Nat → List Nat := p5Z [(6, [0,1,2,3,4,5,6,7,8,9,10,11,12,13,14,15,16,17,18,19,20,21,22,23,24,25]), (11, [0,1,2,3,4,5,6,7,8,9,10,11,12,13,14,15,16,17,18,19,20,21,22,23,24,25,26])]
def m33_1 (H : Heap) (Q : QT) : Prop :=
Q (.returned (.bool true)) H
theorem c33_1 (env : Env) (H : Heap) (Q : QT) (h : m33_1 H Q) :
    qUZ Tryd.prog 94 (qRZ [1,1,1] (qSZ Tryd.f33)) env H (mkK (rKZ Tryd.f33 Q) (fun _ _ _ => False) (rKZ Tryd.f33 Q) (pKZ Q)) :=
  qUZ.leaf_ (T := T) (X := ext) (hint := hint33) tok xok mixed (by kernel_rfl) h
def L33_3 (x1 x2 x3 x7 : Value) (H : Heap) (kn : K0T) (Q : QT) : Prop :=
  ∀ env : Env, env 1 = x1 → env 2 = x2 → env 3 = x3 → env 7 = x7 → RLoop Tryd.prog 94 (qRZ [1,1,0,1,0,0] (qSZ Tryd.f33)) env H (mkK (fun _ _ => False) (inK 0 (fun e H => kn H) (fun _ _ _ => False)) (rKZ Tryd.f33 Q) (pKZ Q))
theorem cL33_3 (env : Env) (H : Heap) (kn : K0T) (Q : QT) (h : L33_3 (env 1) (env 2) (env 3) (env 7) H kn Q) :
    qUZ Tryd.prog 94 (qRZ [1,1,0,1] (qSZ Tryd.f33)) env H (mkK (fun e H => kn H) (fun _ _ _ => False) (rKZ Tryd.f33 Q) (pKZ Q)) :=
  qUZ.blk (by kernel_rfl : (qRZ [1,1,0,1] (qSZ Tryd.f33)) = .block 0 (qRZ [1,1,0,1,0] (qSZ Tryd.f33))) (qUZ.lp (by kernel_rfl : (qRZ [1,1,0,1,0] (qSZ Tryd.f33)) = .loop (qRZ [1,1,0,1,0,0] (qSZ Tryd.f33))) ((h env rfl rfl rfl rfl).mono (qPZ (fun _ _ h => h.elim) (fun _ _ _ h => h) (fun _ _ h => h) (fun _ _ h => h))))
def m33_5 (x1 x2 x3 x7 : Value) (H : Heap) (kn : K4T) (kx0 : K0T) (Q : QT) : Prop :=
oV (vInt .add x7 (.int .i64 1)) fun u0 =>
kn x1 x2 x3 u0 H
theorem c33_5 (env : Env) (H : Heap) (kn : K4T) (kx0 : K0T) (Q : QT) (h : m33_5 (env 1) (env 2) (env 3) (env 7) H kn kx0 Q) :
    qUZ Tryd.prog 94 (qRZ [1,1,0,1,0,0,1,1] (qSZ Tryd.f33)) env H (mkK (fun e H => kn (e 1) (e 2) (e 3) (e 7) H) (inK 0 (fun e H => kx0 H) (fun _ _ _ => False)) (rKZ Tryd.f33 Q) (pKZ Q)) :=
  qUZ.leaf_ (T := T) (X := ext) (hint := hint33) tok xok mixed (by kernel_rfl) h
def L33_8 (x1 x2 x3 x7 x8 : Value) (H : Heap) (kn : K4T) (kx1 : K4T) (kx0 : K0T) (Q : QT) : Prop :=
  ∀ env : Env, env 1 = x1 → env 2 = x2 → env 3 = x3 → env 7 = x7 → env 8 = x8 → RLoop Tryd.prog 94 (qRZ [1,1,0,1,0,0,1,0,0,1,1,0,0] (qSZ Tryd.f33)) env H (mkK (fun _ _ => False) (inK 2 (fun e H => kn (e 1) (e 2) (e 3) (e 7) H) (inK 1 (fun e H => kx1 (e 1) (e 2) (e 3) (e 7) H) (inK 0 (fun e H => kx0 H) (fun _ _ _ => False)))) (rKZ Tryd.f33 Q) (pKZ Q))
theorem cL33_8 (env : Env) (H : Heap) (kn : K4T) (kx1 : K4T) (kx0 : K0T) (Q : QT) (h : L33_8 (env 1) (env 2) (env 3) (env 7) (env 8) H kn kx1 kx0 Q) :
    qUZ Tryd.prog 94 (qRZ [1,1,0,1,0,0,1,0,0,1,1] (qSZ Tryd.f33)) env H (mkK (fun e H => kn (e 1) (e 2) (e 3) (e 7) H) (inK 1 (fun e H => kx1 (e 1) (e 2) (e 3) (e 7) H) (inK 0 (fun e H => kx0 H) (fun _ _ _ => False))) (rKZ Tryd.f33 Q) (pKZ Q)) :=
  qUZ.blk (by kernel_rfl : (qRZ [1,1,0,1,0,0,1,0,0,1,1] (qSZ Tryd.f33)) = .block 2 (qRZ [1,1,0,1,0,0,1,0,0,1,1,0] (qSZ Tryd.f33))) (qUZ.lp (by kernel_rfl : (qRZ [1,1,0,1,0,0,1,0,0,1,1,0] (qSZ Tryd.f33)) = .loop (qRZ [1,1,0,1,0,0,1,0,0,1,1,0,0] (qSZ Tryd.f33))) ((h env rfl rfl rfl rfl rfl).mono (qPZ (fun _ _ h => h.elim) (fun _ _ _ h => h) (fun _ _ h => h) (fun _ _ h => h))))
def m33_9 (x1 x2 x3 x7 x8 : Value) (H : Heap) (kn : K5T) (kx2 : K4T) (kx1 : K4T) (kx0 : K0T) (Q : QT) : Prop :=
oV (p1Z 1 x1 x7) fun u0 =>
oV (qWZ ty27 u0 H) fun u1 =>
oV (vLen u1) fun u2 =>
oV (vInt .lss x8 u2) fun u3 =>
p7Z u3 (
oV (p1Z 1 x1 x7) fun u4 =>
oV (qWZ ty27 u4 H) fun u5 =>
oV (p1Z 1 u5 x8) fun u6 =>
oV (qWZ ty52 u6 H) fun u7 =>
oV (vLen u7) fun u8 =>
oV (qYZ 0 x3) fun u9 =>
oV (qYZ 2 u9) fun u10 =>
oV (qWZ ty3 u10 H) fun u11 =>
oV (vInt .add u11 (.int .i64 1)) fun u12 =>
oV (vInt .neq u8 u12) fun u13 =>
oV (gV u13 false (qYZ 0 x3) (some undef)) fun u14 =>
oV (gV u13 false (qYZ 0 u14) (some undef)) fun u15 =>
oV (gV u13 false (qWZ ty22 u15 H) (some undef)) fun u16 =>
oV (gV u13 false (some x1) (some undef)) fun u17 =>
oV (gV u13 false (some x7) (some undef)) fun u18 =>
oV (gV u13 false (p1Z 1 u17 u18) (some undef)) fun u19 =>
oV (gV u13 false (qWZ ty27 u19 H) (some undef)) fun u20 =>
oV (gV u13 false (some x8) (some undef)) fun u21 =>
oV (gV u13 false (p1Z 1 u20 u21) (some undef)) fun u22 =>
oV (gV u13 false (qWZ ty52 u22 H) (some undef)) fun u23 =>
letK (fun u24 u25 =>
oV (gV u13 false (vUn .not u24) (some undef)) fun u26 =>
oV (pAZ u13 (.bool true) u26) fun u27 =>
p7Z u27 (
Q (.returned (.bool false)) u25) (
oV (vInt .add x8 (.int .i64 1)) fun u28 =>
kn x1 x2 x3 x7 u28 u25)) fun u29 => gK u13 false (oRC Tryd.prog 74 [u16, u23, (.int .i64 6)] H noP fun u30 u31 =>
u29 u30 u31) (u29 undef H)) (
kx2 x1 x2 x3 x7 H)
theorem c33_9 (env : Env) (H : Heap) (kn : K5T) (kx2 : K4T) (kx1 : K4T) (kx0 : K0T) (Q : QT) (h : m33_9 (env 1) (env 2) (env 3) (env 7) (env 8) H kn kx2 kx1 kx0 Q) :
    qUZ Tryd.prog 94 (qRZ [1,1,0,1,0,0,1,0,0,1,1,0,0] (qSZ Tryd.f33)) env H (mkK (fun e H => kn (e 1) (e 2) (e 3) (e 7) (e 8) H) (inK 2 (fun e H => kx2 (e 1) (e 2) (e 3) (e 7) H) (inK 1 (fun e H => kx1 (e 1) (e 2) (e 3) (e 7) H) (inK 0 (fun e H => kx0 H) (fun _ _ _ => False)))) (rKZ Tryd.f33 Q) (pKZ Q)) :=
  qUZ.leaf_ (T := T) (X := ext) (hint := hint33) tok xok mixed (by kernel_rfl) h
theorem L33_8_round (x1 x2 x3 x7 x8 : Value) (H : Heap) (kn : K4T) (kx1 : K4T) (kx0 : K0T) (Q : QT) (h : m33_9 x1 x2 x3 x7 x8 H (fun y1 y2 y3 y7 y8 H => L33_8 y1 y2 y3 y7 y8 H kn kx1 kx0 Q) kn kx1 kx0 Q) : L33_8 x1 x2 x3 x7 x8 H kn kx1 kx0 Q := by
  intro env h1 h2 h3 h7 h8
  subst h1; subst h2; subst h3; subst h7; subst h8
  exact RLoop.round ((c33_9 env H (fun y1 y2 y3 y7 y8 H => L33_8 y1 y2 y3 y7 y8 H kn kx1 kx0 Q) kn kx1 kx0 Q h).mono (qPZ (fun e H h => h e rfl rfl rfl rfl rfl) (fun _ _ _ h => h) (fun _ _ h => h) (fun _ _ h => h)))
def m33_7 (x1 x2 x3 x7 : Value) (H : Heap) (kn : K4T) (kx1 : K4T) (kx0 : K0T) (Q : QT) : Prop :=
oV (p1Z 1 x1 x7) fun u0 =>
oV (qWZ ty27 u0 H) fun u1 =>
oV (vLen u1) fun u2 =>
oV (vInt .gtr u2 x2) fun u3 =>
oV (gV u3 false (qYZ 5 x3) (some undef)) fun u4 =>
oV (gV u3 false (qWZ ty27 u4 H) (some undef)) fun u5 =>
oV (gV u3 false (some x7) (some undef)) fun u6 =>
oV (gV u3 false (p1Z 1 u5 u6) (some undef)) fun u7 =>
oV (gV u3 false (qWZ ty52 u7 H) (some undef)) fun u8 =>
oV (gV u3 false (vLen u8) (some undef)) fun u9 =>
oV (gV u3 false (some x1) (some undef)) fun u10 =>
oV (gV u3 false (some x7) (some undef)) fun u11 =>
oV (gV u3 false (p1Z 1 u10 u11) (some undef)) fun u12 =>
oV (gV u3 false (qWZ ty27 u12 H) (some undef)) fun u13 =>
oV (gV u3 false (vLen u13) (some undef)) fun u14 =>
oV (gV u3 false (qYZ 0 x3) (some undef)) fun u15 =>
oV (gV u3 false (qYZ 2 u15) (some undef)) fun u16 =>
oV (gV u3 false (qWZ ty3 u16 H) (some undef)) fun u17 =>
letK (fun u18 u19 =>
(gV u3 false (qWZ ty27 u12 u19) (some undef) = some u13 ∧
(gV u3 false (qWZ ty52 u7 u19) (some undef) = some u8 ∧
(gV u3 false (qWZ ty27 u4 u19) (some undef) = some u5 ∧
oV (gV u3 false (vInt .mul u14 u18) (some undef)) fun u20 =>
oV (gV u3 false (vInt .lss u9 u20) (some undef)) fun u21 =>
oV (pAZ u3 (.bool true) u21) fun u22 =>
p7Z u22 (
Q (.returned (.bool false)) u19) (
L33_8 x1 x2 x3 x7 (.int .i64 0) u19 kn kx1 kx0 Q))))) fun u23 => gK u3 false (oRC Tryd.prog 73 [u17] H noP fun u24 u25 =>
u23 u24 u25) (u23 undef H)
theorem c33_7 (env : Env) (H : Heap) (kn : K4T) (kx1 : K4T) (kx0 : K0T) (Q : QT) (h : m33_7 (env 1) (env 2) (env 3) (env 7) H kn kx1 kx0 Q) :
    qUZ Tryd.prog 94 (qRZ [1,1,0,1,0,0,1,0,0] (qSZ Tryd.f33)) env H (mkK (fun e H => kn (e 1) (e 2) (e 3) (e 7) H) (inK 1 (fun e H => kx1 (e 1) (e 2) (e 3) (e 7) H) (inK 0 (fun e H => kx0 H) (fun _ _ _ => False))) (rKZ Tryd.f33 Q) (pKZ Q)) :=
  qUZ.prefix_ (T := T) (X := ext) (hint := hint33) (hole := (fun e H => L33_8 (e 1) (e 2) (e 3) (e 7) (e 8) H kn kx1 kx0 Q)) tok xok mixed 2 (by kernel_rfl) (by kernel_rfl : qRZ _ _ = (qRZ [1,1,0,1,0,0,1,0,0,1,1] (qSZ Tryd.f33))) h
    (fun e H h => (cL33_8 e H kn kx1 kx0 Q h))
def m33_6 (x1 x2 x3 x7 : Value) (H : Heap) (kn : K4T) (kx0 : K0T) (Q : QT) : Prop :=
m33_7 x1 x2 x3 x7 H kn kn kx0 Q
theorem c33_6 (env : Env) (H : Heap) (kn : K4T) (kx0 : K0T) (Q : QT) (h : m33_6 (env 1) (env 2) (env 3) (env 7) H kn kx0 Q) :
    qUZ Tryd.prog 94 (qRZ [1,1,0,1,0,0,1,0] (qSZ Tryd.f33)) env H (mkK (fun e H => kn (e 1) (e 2) (e 3) (e 7) H) (inK 0 (fun e H => kx0 H) (fun _ _ _ => False)) (rKZ Tryd.f33 Q) (pKZ Q)) :=
  qUZ.blk (by kernel_rfl : (qRZ [1,1,0,1,0,0,1,0] (qSZ Tryd.f33)) = .block 1 (qRZ [1,1,0,1,0,0,1,0,0] (qSZ Tryd.f33))) (c33_7 env H kn kn kx0 Q h)
def m33_4 (x1 x2 x3 x7 : Value) (H : Heap) (kn : K4T) (kx0 : K0T) (Q : QT) : Prop :=
oV (vLen x1) fun u0 =>
oV (vInt .lss x7 u0) fun u1 =>
p7Z u1 (
m33_6 x1 x2 x3 x7 H (fun u2 u3 u4 u5 u6 => m33_5 u2 u3 u4 u5 u6 kn kx0 Q) kx0 Q) (
kx0 H)
theorem c33_4 (env : Env) (H : Heap) (kn : K4T) (kx0 : K0T) (Q : QT) (h : m33_4 (env 1) (env 2) (env 3) (env 7) H kn kx0 Q) :
    qUZ Tryd.prog 94 (qRZ [1,1,0,1,0,0] (qSZ Tryd.f33)) env H (mkK (fun e H => kn (e 1) (e 2) (e 3) (e 7) H) (inK 0 (fun e H => kx0 H) (fun _ _ _ => False)) (rKZ Tryd.f33 Q) (pKZ Q)) :=
  qUZ.prefix_ (T := T) (X := ext) (hint := hint33) (hole := (fun e H => m33_6 (e 1) (e 2) (e 3) (e 7) H (fun y1_67 y2_68 y3_69 y7_70 H_71 => m33_5 y1_67 y2_68 y3_69 y7_70 H_71 kn kx0 Q) kx0 Q)) tok xok mixed 1 (by kernel_rfl) (by kernel_rfl : qRZ _ _ = (qRZ [1,1,0,1,0,0,1] (qSZ Tryd.f33))) h
    (fun e H h => qUZ.join (by kernel_rfl : (qRZ [1,1,0,1,0,0,1] (qSZ Tryd.f33)) = .seq (qRZ [1,1,0,1,0,0,1,0] (qSZ Tryd.f33)) (qRZ [1,1,0,1,0,0,1,1] (qSZ Tryd.f33))) ((c33_6 e H (fun y1_72 y2_73 y3_74 y7_75 H_76 => m33_5 y1_72 y2_73 y3_74 y7_75 H_76 kn kx0 Q) kx0 Q h).mono (qPZ (fun e H h => c33_5 e H kn kx0 Q h) (fun _ _ _ h => h) (fun _ _ h => h) (fun _ _ h => h))))
theorem L33_3_round (x1 x2 x3 x7 : Value) (H : Heap) (kn : K0T) (Q : QT) (h : m33_4 x1 x2 x3 x7 H (fun y1 y2 y3 y7 H => L33_3 y1 y2 y3 y7 H kn Q) kn Q) : L33_3 x1 x2 x3 x7 H kn Q := by
  intro env h1 h2 h3 h7
  subst h1; subst h2; subst h3; subst h7
  exact RLoop.round ((c33_4 env H (fun y1 y2 y3 y7 H => L33_3 y1 y2 y3 y7 H kn Q) kn Q h).mono (qPZ (fun e H h => h e rfl rfl rfl rfl) (fun _ _ _ h => h) (fun _ _ h => h) (fun _ _ h => h)))
def m33_2 (x1 x2 x3 : Value) (H : Heap) (kn : K0T) (Q : QT) : Prop :=
L33_3 x1 x2 x3 (.int .i64 0) H kn Q
theorem c33_2 (env : Env) (H : Heap) (kn : K0T) (Q : QT) (h : m33_2 (env 1) (env 2) (env 3) H kn Q) :
    qUZ Tryd.prog 94 (qRZ [1,1,0] (qSZ Tryd.f33)) env H (mkK (fun e H => kn H) (fun _ _ _ => False) (rKZ Tryd.f33 Q) (pKZ Q)) :=
  qUZ.prefix_ (T := T) (X := ext) (hint := hint33) (hole := (fun e H => L33_3 (e 1) (e 2) (e 3) (e 7) H kn Q)) tok xok mixed 1 (by kernel_rfl) (by kernel_rfl : qRZ _ _ = (qRZ [1,1,0,1] (qSZ Tryd.f33))) h
    (fun e H h => (cL33_3 e H kn Q h))
def m33 (x0 x1 x2 : Value) (H : Heap) (Q : QT) : Prop :=
oNew (Value.cells x0).toList (Value.cells x0).toList.length 29 H fun u0 u1 =>
oV (qWZ ty29 (qTZ u0) u1) fun u2 =>
oRC Tryd.prog 50 [u2, (.int .i64 8), (.int .i64 200)] u1 (pKZ Q) fun u3 u4 =>
oV (vUn .not u3) fun u5 =>
oV (gV u5 false (some x1) (some undef)) fun u6 =>
oV (gV u5 false (vLen u6) (some undef)) fun u7 =>
oV (gV u5 false (qYZ 0 (qTZ u0)) (some undef)) fun u8 =>
oV (gV u5 false (qYZ 1 u8) (some undef)) fun u9 =>
oV (gV u5 false (qWZ ty3 u9 u4) (some undef)) fun u10 =>
oV (gV u5 false (vInt .neq u7 u10) (some undef)) fun u11 =>
oV (pAZ u5 (.bool true) u11) fun u12 =>
oV (gV u12 false (qYZ 0 (qTZ u0)) (some undef)) fun u13 =>
oV (gV u12 false (qYZ 1 u13) (some undef)) fun u14 =>
oV (gV u12 false (qWZ ty3 u14 u4) (some undef)) fun u15 =>
oV (gV u12 false (vInt .gtr u15 (.int .i64 7)) (some undef)) fun u16 =>
oV (pAZ u12 (.bool true) u16) fun u17 =>
p7Z u17 (
Q (.returned (.bool false)) u4) (
m33_2 x1 x2 (qTZ u0) u4 (fun u18 => m33_1 u18 Q) Q)
theorem c33_0 (env : Env) (H : Heap) (Q : QT) (h : m33 (env 0) (env 1) (env 2) H Q) :
    qUZ Tryd.prog 94 (qSZ Tryd.f33) env H (mkK (rKZ Tryd.f33 Q) (fun _ _ _ => False) (rKZ Tryd.f33 Q) (pKZ Q)) :=
  qUZ.prefix_ (T := T) (X := ext) (hint := hint33) (hole := (fun e H => m33_2 (e 1) (e 2) (e 3) H (fun H_96 => m33_1 H_96 Q) Q)) tok xok mixed 2 (by kernel_rfl) (by kernel_rfl : qRZ _ _ = (qRZ [1,1] (qSZ Tryd.f33))) h
    (fun e H h => qUZ.join (by kernel_rfl : (qRZ [1,1] (qSZ Tryd.f33)) = .seq (qRZ [1,1,0] (qSZ Tryd.f33)) (qRZ [1,1,1] (qSZ Tryd.f33))) ((c33_2 e H (fun H_97 => m33_1 H_97 Q) Q h).mono (qPZ (fun e H h => c33_1 e H Q h) (fun _ _ _ h => h) (fun _ _ h => h) (fun _ _ h => h))))
theorem call33 (a0 a1 a2 : Value) (H : Heap) (Q : QT) (h : m33 a0 a1 a2 H Q) : qVZ Tryd.prog 33 [a0, a1, a2] H Q :=
  qVZ.intro (nt := 94) tok Tryd.func33 (by kernel_rfl) (by kernel_rfl) (by kernel_rfl) (of_decide_eq_true (by kernel_rfl)) (c33_0 (envOf [a0, a1, a2]) H Q h)
def hint34 : Nat → List Nat := p5Z []
def m34 (x0 : Value) (H : Heap) (Q : QT) : Prop :=
oNew (Value.cells x0).toList (Value.cells x0).toList.length 67 H fun u0 u1 =>
oNew (Value.cells ty71.zero).toList (Value.cells ty71.zero).toList.length 71 u1 fun u2 u3 =>
oV (qYZ 0 (qTZ u0)) fun u4 =>
oV (qWZ ty29 u4 u3) fun u5 =>
oRC Tryd.prog 12 [u5] u3 (pKZ Q) fun u6 u7 =>
oV (p0Z u6 0) fun u8 =>
oV (p0Z u6 1) fun u9 =>
oV (vInt .neq u9 (.int .i64 0)) fun u10 =>
p7Z u10 (
oV (vBuild ty71 []) fun u11 =>
oHeap (p2Z ty71 (qTZ u2) u11 u7) fun u12 =>
retM ((qWZ ty71 (qTZ u2) u12).bind fun v => (((some []).map ((.bool false) :: ·)).map ((.pointer none) :: ·)).map (v :: ·)) Q u12) (
oV (qYZ 6 (qTZ u0)) fun u13 =>
oV (qWZ ty44 u13 u7) fun u14 =>
oRC Tryd.prog 72 [u8, u14] u7 (pKZ Q) fun u15 u16 =>
oHeap (p2Z ty71 (qTZ u2) u15 u16) fun u17 =>
retM ((qWZ ty71 (qTZ u2) u17).bind fun v => (((some []).map ((.bool true) :: ·)).map (u8 :: ·)).map (v :: ·)) Q u17)
theorem c34_0 (env : Env) (H : Heap) (Q : QT) (h : m34 (env 0) H Q) :
    qUZ Tryd.prog 21 (qSZ Tryd.f34) env H (mkK (rKZ Tryd.f34 Q) (fun _ _ _ => False) (rKZ Tryd.f34 Q) (pKZ Q)) :=
  qUZ.leaf_ (T := T) (X := ext) (hint := hint34) tok xok mixed (by kernel_rfl) h
theorem call34 (a0 : Value) (H : Heap) (Q : QT) (h : m34 a0 H Q) : qVZ Tryd.prog 34 [a0] H Q :=
  qVZ.intro (nt := 21) tok Tryd.func34 (by kernel_rfl) (by kernel_rfl) (by kernel_rfl) (of_decide_eq_true (by kernel_rfl)) (c34_0 (envOf [a0]) H Q h)
def hint36 : Nat → List Nat := p5Z []
def m36_1 (H : Heap) (Q : QT) : Prop :=
Q (.returned (.bool true)) H
theorem c36_1 (env : Env) (H : Heap) (Q : QT) (h : m36_1 H Q) :
    qUZ Tryd.prog 20 (qRZ [1,1] (qSZ Tryd.f36)) env H (mkK (rKZ Tryd.f36 Q) (fun _ _ _ => False) (rKZ Tryd.f36 Q) (pKZ Q)) :=
  qUZ.leaf_ (T := T) (X := ext) (hint := hint36) tok xok mixed (by kernel_rfl) h
def L36_3 (x1 x2 x5 : Value) (H : Heap) (kn : K0T) (Q : QT) : Prop :=
  ∀ env : Env, env 1 = x1 → env 2 = x2 → env 5 = x5 → RLoop Tryd.prog 20 (qRZ [1,0,1,0,0] (qSZ Tryd.f36)) env H (mkK (fun _ _ => False) (inK 0 (fun e H => kn H) (fun _ _ _ => False)) (rKZ Tryd.f36 Q) (pKZ Q))
theorem cL36_3 (env : Env) (H : Heap) (kn : K0T) (Q : QT) (h : L36_3 (env 1) (env 2) (env 5) H kn Q) :
    qUZ Tryd.prog 20 (qRZ [1,0,1] (qSZ Tryd.f36)) env H (mkK (fun e H => kn H) (fun _ _ _ => False) (rKZ Tryd.f36 Q) (pKZ Q)) :=
  qUZ.blk (by kernel_rfl : (qRZ [1,0,1] (qSZ Tryd.f36)) = .block 0 (qRZ [1,0,1,0] (qSZ Tryd.f36))) (qUZ.lp (by kernel_rfl : (qRZ [1,0,1,0] (qSZ Tryd.f36)) = .loop (qRZ [1,0,1,0,0] (qSZ Tryd.f36))) ((h env rfl rfl rfl).mono (qPZ (fun _ _ h => h.elim) (fun _ _ _ h => h) (fun _ _ h => h) (fun _ _ h => h))))
def m36_4 (x1 x2 x5 : Value) (H : Heap) (kn : K3T) (kx0 : K0T) (Q : QT) : Prop :=
oV (qYZ 3 x2) fun u0 =>
oV (qWZ ty25 u0 H) fun u1 =>
oV (vLen u1) fun u2 =>
oV (vInt .lss x5 u2) fun u3 =>
p7Z u3 (
oV (qYZ 3 x2) fun u4 =>
oV (qWZ ty25 u4 H) fun u5 =>
oV (p1Z 1 u5 x5) fun u6 =>
oV (qWZ ty3 u6 H) fun u7 =>
oV (vInt .eql u7 x1) fun u8 =>
p7Z u8 (
Q (.returned (.bool false)) H) (
oV (vInt .add x5 (.int .i64 1)) fun u9 =>
kn x1 x2 u9 H)) (
kx0 H)
theorem c36_4 (env : Env) (H : Heap) (kn : K3T) (kx0 : K0T) (Q : QT) (h : m36_4 (env 1) (env 2) (env 5) H kn kx0 Q) :
    qUZ Tryd.prog 20 (qRZ [1,0,1,0,0] (qSZ Tryd.f36)) env H (mkK (fun e H => kn (e 1) (e 2) (e 5) H) (inK 0 (fun e H => kx0 H) (fun _ _ _ => False)) (rKZ Tryd.f36 Q) (pKZ Q)) :=
  qUZ.leaf_ (T := T) (X := ext) (hint := hint36) tok xok mixed (by kernel_rfl) h
theorem L36_3_round (x1 x2 x5 : Value) (H : Heap) (kn : K0T) (Q : QT) (h : m36_4 x1 x2 x5 H (fun y1 y2 y5 H => L36_3 y1 y2 y5 H kn Q) kn Q) : L36_3 x1 x2 x5 H kn Q := by
  intro env h1 h2 h5
  subst h1; subst h2; subst h5
  exact RLoop.round ((c36_4 env H (fun y1 y2 y5 H => L36_3 y1 y2 y5 H kn Q) kn Q h).mono (qPZ (fun e H h => h e rfl rfl rfl) (fun _ _ _ h => h) (fun _ _ h => h) (fun _ _ h => h)))
def m36_2 (x1 x2 : Value) (H : Heap) (kn : K0T) (Q : QT) : Prop :=
L36_3 x1 x2 (.int .i64 0) H kn Q
theorem c36_2 (env : Env) (H : Heap) (kn : K0T) (Q : QT) (h : m36_2 (env 1) (env 2) H kn Q) :
    qUZ Tryd.prog 20 (qRZ [1,0] (qSZ Tryd.f36)) env H (mkK (fun e H => kn H) (fun _ _ _ => False) (rKZ Tryd.f36 Q) (pKZ Q)) :=
  qUZ.prefix_ (T := T) (X := ext) (hint := hint36) (hole := (fun e H => L36_3 (e 1) (e 2) (e 5) H kn Q)) tok xok mixed 1 (by kernel_rfl) (by kernel_rfl : qRZ _ _ = (qRZ [1,0,1] (qSZ Tryd.f36))) h
    (fun e H h => (cL36_3 e H kn Q h))
def m36 (x0 x1 : Value) (H : Heap) (Q : QT) : Prop :=
oNew (Value.cells x0).toList (Value.cells x0).toList.length 29 H fun u0 u1 =>
m36_2 x1 (qTZ u0) u1 (fun u2 => m36_1 u2 Q) Q
theorem c36_0 (env : Env) (H : Heap) (Q : QT) (h : m36 (env 0) (env 1) H Q) :
    qUZ Tryd.prog 20 (qSZ Tryd.f36) env H (mkK (rKZ Tryd.f36 Q) (fun _ _ _ => False) (rKZ Tryd.f36 Q) (pKZ Q)) :=
  qUZ.prefix_ (T := T) (X := ext) (hint := hint36) (hole := (fun e H => m36_2 (e 1) (e 2) H (fun H_14 => m36_1 H_14 Q) Q)) tok xok mixed 1 (by kernel_rfl) (by kernel_rfl : qRZ _ _ = (qRZ [1] (qSZ Tryd.f36))) h
    (fun e H h => qUZ.join (by kernel_rfl : (qRZ [1] (qSZ Tryd.f36)) = .seq (qRZ [1,0] (qSZ Tryd.f36)) (qRZ [1,1] (qSZ Tryd.f36))) ((c36_2 e H (fun H_15 => m36_1 H_15 Q) Q h).mono (qPZ (fun e H h => c36_1 e H Q h) (fun _ _ _ h => h) (fun _ _ h => h) (fun _ _ h => h))))
theorem call36 (a0 a1 : Value) (H : Heap) (Q : QT) (h : m36 a0 a1 H Q) : qVZ Tryd.prog 36 [a0, a1] H Q :=
  qVZ.intro (nt := 20) tok Tryd.func36 (by kernel_rfl) (by kernel_rfl) (by kernel_rfl) (of_decide_eq_true (by kernel_rfl)) (c36_0 (envOf [a0, a1]) H Q h)
end

section
set_option maxRecDepth 100000
open Go
def m7_1 (H : Heap) (Q : QT) : Prop :=
Q (.returned (.bool true)) H
def L7_3 (x1 x3 x6 x7 : Value) (H : Heap) (kn : K0T) (Q : QT) : Prop :=
  ∀ env : Env, env 1 = x1 → env 3 = x3 → env 6 = x6 → env 7 = x7 → RLoop Tryd.prog 154 (qRZ [1,1,1,1,1,1,0,1,0,0] (qSZ Tryd.f7)) env H (mkK (fun _ _ => False) (inK 0 (fun e H => kn H) (fun _ _ _ => False)) (rKZ Tryd.f7 Q) (pKZ Q))
def m7_2 (x1 x3 x6 : Value) (H : Heap) (kn : K0T) (Q : QT) : Prop :=
L7_3 x1 x3 x6 (.int .i64 0) H kn Q
def m7 (x0 : Value) (H : Heap) (Q : QT) : Prop :=
oNew (Value.cells x0).toList (Value.cells x0).toList.length 67 H fun u0 u1 =>
oRC Tryd.prog 32 [] u1 (pKZ Q) fun u2 u3 =>
oV (vUn .not u2) fun u4 =>
p7Z u4 (
Q (.returned (.bool false)) u3) (
oV (qYZ 0 (qTZ u0)) fun u5 =>
oV (qWZ ty29 u5 u3) fun u6 =>
oV (qYZ 6 (qTZ u0)) fun u7 =>
oV (qWZ ty44 u7 u3) fun u8 =>
oRC Tryd.prog 33 [u6, u8, (.int .i64 3)] u3 (pKZ Q) fun u9 u10 =>
oV (vUn .not u9) fun u11 =>
p7Z u11 (
Q (.returned (.bool true)) u10) (
oV (qWZ ty67 (qTZ u0) u10) fun u12 =>
oRC Tryd.prog 34 [u12] u10 (pKZ Q) fun u13 u14 =>
oV (p0Z u13 0) fun u15 =>
oV (p0Z u13 1) fun u16 =>
oV (p0Z u13 2) fun u17 =>
oNew (Value.cells ty71.zero).toList (Value.cells ty71.zero).toList.length 71 u14 fun u18 u19 =>
oHeap (p2Z ty71 (qTZ u18) u15 u19) fun u20 =>
oV (vUn .not u17) fun u21 =>
oV (gV u21 false (qWZ ty67 (qTZ u0) u20) (some undef)) fun u22 =>
oV (gV u21 false (qWZ ty71 (qTZ u18) u20) (some undef)) fun u23 =>
letK (fun u24 u25 =>
oV (gV u21 false (vUn .not u24) (some undef)) fun u26 =>
oV (pAZ u21 (.bool true) u26) fun u27 =>
p7Z u27 (
Q (.returned (.bool false)) u25) (
oV (qYZ 0 (qTZ u0)) fun u28 =>
oV (qWZ ty29 u28 u25) fun u29 =>
oNew (Value.cells ty29.zero).toList (Value.cells ty29.zero).toList.length 29 u25 fun u30 u31 =>
oHeap (p2Z ty29 (qTZ u30) u29 u31) fun u32 =>
m7_2 (qTZ u0) (qTZ u18) (qTZ u30) u32 (fun u33 => m7_1 u33 Q) Q)) fun u34 => gK u21 false (oRC Tryd.prog 35 [u22, u23] u20 (pKZ Q) fun u35 u36 =>
u34 u35 u36) (u34 undef u20)))
def hint77 : Nat → List Nat := p5Z [(13, [0,1,2,3,4,5,6,7,8,9,10,11,12,13,14,15,16,17,18,19]), (17, [0,1,2,3,4,5,6,7,8,9,10,11,12,13,14,15,16,17,18,19,20,21])]
def m77_2 (x7 : Value) (H : Heap) (Q : QT) : Prop :=
Q (.returned (.tuple #[x7, (.int .i64 0)])) H
theorem c77_2 (env : Env) (H : Heap) (Q : QT) (h : m77_2 (env 7) H Q) :
    qUZ Tryd.prog 97 (qRZ [1,1,1,1,1,1,1] (qSZ Tryd.f77)) env H (mkK (rKZ Tryd.f77 Q) (fun _ _ _ => False) (rKZ Tryd.f77 Q) (pKZ Q)) :=
  qUZ.leaf_ (T := T) (X := ext) (hint := hint77) tok xok mixed (by kernel_rfl) h
def L77_4 (x0 x1 x6 x7 x9 x10 : Value) (H : Heap) (kn : K1T) (Q : QT) : Prop :=
  ∀ env : Env, env 0 = x0 → env 1 = x1 → env 6 = x6 → env 7 = x7 → env 9 = x9 → env 10 = x10 → RLoop Tryd.prog 97 (qRZ [1,1,1,1,1,1,0,1,0,0] (qSZ Tryd.f77)) env H (mkK (fun _ _ => False) (inK 2 (fun e H => kn (e 7) H) (fun _ _ _ => False)) (rKZ Tryd.f77 Q) (pKZ Q))
theorem cL77_4 (env : Env) (H : Heap) (kn : K1T) (Q : QT) (h : L77_4 (env 0) (env 1) (env 6) (env 7) (env 9) (env 10) H kn Q) :
    qUZ Tryd.prog 97 (qRZ [1,1,1,1,1,1,0,1] (qSZ Tryd.f77)) env H (mkK (fun e H => kn (e 7) H) (fun _ _ _ => False) (rKZ Tryd.f77 Q) (pKZ Q)) :=
  qUZ.blk (by kernel_rfl : (qRZ [1,1,1,1,1,1,0,1] (qSZ Tryd.f77)) = .block 2 (qRZ [1,1,1,1,1,1,0,1,0] (qSZ Tryd.f77))) (qUZ.lp (by kernel_rfl : (qRZ [1,1,1,1,1,1,0,1,0] (qSZ Tryd.f77)) = .loop (qRZ [1,1,1,1,1,1,0,1,0,0] (qSZ Tryd.f77))) ((h env rfl rfl rfl rfl rfl rfl).mono (qPZ (fun _ _ h => h.elim) (fun _ _ _ h => h) (fun _ _ h => h) (fun _ _ h => h))))
def m77_6 (x0 x1 x6 x7 x9 x10 : Value) (H : Heap) (kn : K6T) (kx2 : K1T) (Q : QT) : Prop :=
oV (vInt .add x10 (.int .i64 1)) fun u0 =>
kn x0 x1 x6 x7 x9 u0 H
theorem c77_6 (env : Env) (H : Heap) (kn : K6T) (kx2 : K1T) (Q : QT) (h : m77_6 (env 0) (env 1) (env 6) (env 7) (env 9) (env 10) H kn kx2 Q) :
    qUZ Tryd.prog 97 (qRZ [1,1,1,1,1,1,0,1,0,0,1,1] (qSZ Tryd.f77)) env H (mkK (fun e H => kn (e 0) (e 1) (e 6) (e 7) (e 9) (e 10) H) (inK 2 (fun e H => kx2 (e 7) H) (fun _ _ _ => False)) (rKZ Tryd.f77 Q) (pKZ Q)) :=
  qUZ.leaf_ (T := T) (X := ext) (hint := hint77) tok xok mixed (by kernel_rfl) h
def L77_9 (x0 x1 x6 x7 x9 x10 x11 : Value) (H : Heap) (kn : K6T) (kx3 : K6T) (kx2 : K1T) (Q : QT) : Prop :=
  ∀ env : Env, env 0 = x0 → env 1 = x1 → env 6 = x6 → env 7 = x7 → env 9 = x9 → env 10 = x10 → env 11 = x11 → RLoop Tryd.prog 97 (qRZ [1,1,1,1,1,1,0,1,0,0,1,0,0,1,1,0,0] (qSZ Tryd.f77)) env H (mkK (fun _ _ => False) (inK 4 (fun e H => kn (e 0) (e 1) (e 6) (e 7) (e 9) (e 10) H) (inK 3 (fun e H => kx3 (e 0) (e 1) (e 6) (e 7) (e 9) (e 10) H) (inK 2 (fun e H => kx2 (e 7) H) (fun _ _ _ => False)))) (rKZ Tryd.f77 Q) (pKZ Q))
theorem cL77_9 (env : Env) (H : Heap) (kn : K6T) (kx3 : K6T) (kx2 : K1T) (Q : QT) (h : L77_9 (env 0) (env 1) (env 6) (env 7) (env 9) (env 10) (env 11) H kn kx3 kx2 Q) :
    qUZ Tryd.prog 97 (qRZ [1,1,1,1,1,1,0,1,0,0,1,0,0,1,1] (qSZ Tryd.f77)) env H (mkK (fun e H => kn (e 0) (e 1) (e 6) (e 7) (e 9) (e 10) H) (inK 3 (fun e H => kx3 (e 0) (e 1) (e 6) (e 7) (e 9) (e 10) H) (inK 2 (fun e H => kx2 (e 7) H) (fun _ _ _ => False))) (rKZ Tryd.f77 Q) (pKZ Q)) :=
  qUZ.blk (by kernel_rfl : (qRZ [1,1,1,1,1,1,0,1,0,0,1,0,0,1,1] (qSZ Tryd.f77)) = .block 4 (qRZ [1,1,1,1,1,1,0,1,0,0,1,0,0,1,1,0] (qSZ Tryd.f77))) (qUZ.lp (by kernel_rfl : (qRZ [1,1,1,1,1,1,0,1,0,0,1,0,0,1,1,0] (qSZ Tryd.f77)) = .loop (qRZ [1,1,1,1,1,1,0,1,0,0,1,0,0,1,1,0,0] (qSZ Tryd.f77))) ((h env rfl rfl rfl rfl rfl rfl rfl).mono (qPZ (fun _ _ h => h.elim) (fun _ _ _ h => h) (fun _ _ h => h) (fun _ _ h => h))))
def m77_10 (x0 x1 x6 x7 x9 x10 x11 : Value) (H : Heap) (kn : K7T) (kx4 : K6T) (kx3 : K6T) (kx2 : K1T) (Q : QT) : Prop :=
oV (vInt .leq x11 x6) fun u0 =>
oV (gV u0 true (some x10) (some undef)) fun u1 =>
oV (gV u0 true (vInt .gtr u1 (.int .i64 0)) (some undef)) fun u2 =>
oV (pAZ u0 u2 (.bool false)) fun u3 =>
p7Z u3 (
oV (p1Z 1 x7 x10) fun u4 =>
oV (qWZ ty52 u4 H) fun u5 =>
oV (p1Z 1 x7 x11) fun u6 =>
oV (qWZ ty52 u6 H) fun u7 =>
oV (p1Z 1 x1 x9) fun u8 =>
oV (qWZ ty22 u8 H) fun u9 =>
oV (p1Z 1 x1 x9) fun u10 =>
oV (qWZ ty22 u10 H) fun u11 =>
oV (p1Z 1 u5 x11) fun u12 =>
oHeap (p2Z ty22 u12 u9 H) fun u13 =>
oV (p1Z 1 u7 x10) fun u14 =>
oHeap (p2Z ty22 u14 u11 u13) fun u15 =>
oV (vInt .add x9 (.int .i64 1)) fun u16 =>
oV (vInt .add x11 (.int .i64 1)) fun u17 =>
kn x0 x1 x6 x7 u16 x10 u17 u15) (
kx4 x0 x1 x6 x7 x9 x10 H)
theorem c77_10 (env : Env) (H : Heap) (kn : K7T) (kx4 : K6T) (kx3 : K6T) (kx2 : K1T) (Q : QT) (h : m77_10 (env 0) (env 1) (env 6) (env 7) (env 9) (env 10) (env 11) H kn kx4 kx3 kx2 Q) :
    qUZ Tryd.prog 97 (qRZ [1,1,1,1,1,1,0,1,0,0,1,0,0,1,1,0,0] (qSZ Tryd.f77)) env H (mkK (fun e H => kn (e 0) (e 1) (e 6) (e 7) (e 9) (e 10) (e 11) H) (inK 4 (fun e H => kx4 (e 0) (e 1) (e 6) (e 7) (e 9) (e 10) H) (inK 3 (fun e H => kx3 (e 0) (e 1) (e 6) (e 7) (e 9) (e 10) H) (inK 2 (fun e H => kx2 (e 7) H) (fun _ _ _ => False)))) (rKZ Tryd.f77 Q) (pKZ Q)) :=
  qUZ.leaf_ (T := T) (X := ext) (hint := hint77) tok xok mixed (by kernel_rfl) h
theorem L77_9_round (x0 x1 x6 x7 x9 x10 x11 : Value) (H : Heap) (kn : K6T) (kx3 : K6T) (kx2 : K1T) (Q : QT) (h : m77_10 x0 x1 x6 x7 x9 x10 x11 H (fun y0 y1 y6 y7 y9 y10 y11 H => L77_9 y0 y1 y6 y7 y9 y10 y11 H kn kx3 kx2 Q) kn kx3 kx2 Q) : L77_9 x0 x1 x6 x7 x9 x10 x11 H kn kx3 kx2 Q := by
  intro env h0 h1 h6 h7 h9 h10 h11
  subst h0; subst h1; subst h6; subst h7; subst h9; subst h10; subst h11
  exact RLoop.round ((c77_10 env H (fun y0 y1 y6 y7 y9 y10 y11 H => L77_9 y0 y1 y6 y7 y9 y10 y11 H kn kx3 kx2 Q) kn kx3 kx2 Q h).mono (qPZ (fun e H h => h e rfl rfl rfl rfl rfl rfl rfl) (fun _ _ _ h => h) (fun _ _ h => h) (fun _ _ h => h)))
def m77_8 (x0 x1 x6 x7 x9 x10 : Value) (H : Heap) (kn : K6T) (kx3 : K6T) (kx2 : K1T) (Q : QT) : Prop :=
oV (p1Z 1 x7 (.int .i64 0)) fun u0 =>
oV (qWZ ty52 u0 H) fun u1 =>
oV (p1Z 1 x7 x10) fun u2 =>
oV (qWZ ty52 u2 H) fun u3 =>
oV (p1Z 1 x0 x10) fun u4 =>
oV (qWZ ty22 u4 H) fun u5 =>
oV (p1Z 1 x0 x10) fun u6 =>
oV (qWZ ty22 u6 H) fun u7 =>
oV (p1Z 1 u1 x10) fun u8 =>
oHeap (p2Z ty22 u8 u5 H) fun u9 =>
oV (p1Z 1 u3 (.int .i64 0)) fun u10 =>
oHeap (p2Z ty22 u10 u7 u9) fun u11 =>
L77_9 x0 x1 x6 x7 x9 x10 x10 u11 kn kx3 kx2 Q
theorem c77_8 (env : Env) (H : Heap) (kn : K6T) (kx3 : K6T) (kx2 : K1T) (Q : QT) (h : m77_8 (env 0) (env 1) (env 6) (env 7) (env 9) (env 10) H kn kx3 kx2 Q) :
    qUZ Tryd.prog 97 (qRZ [1,1,1,1,1,1,0,1,0,0,1,0,0] (qSZ Tryd.f77)) env H (mkK (fun e H => kn (e 0) (e 1) (e 6) (e 7) (e 9) (e 10) H) (inK 3 (fun e H => kx3 (e 0) (e 1) (e 6) (e 7) (e 9) (e 10) H) (inK 2 (fun e H => kx2 (e 7) H) (fun _ _ _ => False))) (rKZ Tryd.f77 Q) (pKZ Q)) :=
  qUZ.prefix_ (T := T) (X := ext) (hint := hint77) (hole := (fun e H => L77_9 (e 0) (e 1) (e 6) (e 7) (e 9) (e 10) (e 11) H kn kx3 kx2 Q)) tok xok mixed 2 (by kernel_rfl) (by kernel_rfl : qRZ _ _ = (qRZ [1,1,1,1,1,1,0,1,0,0,1,0,0,1,1] (qSZ Tryd.f77))) h
    (fun e H h => (cL77_9 e H kn kx3 kx2 Q h))
def m77_7 (x0 x1 x6 x7 x9 x10 : Value) (H : Heap) (kn : K6T) (kx2 : K1T) (Q : QT) : Prop :=
m77_8 x0 x1 x6 x7 x9 x10 H kn kn kx2 Q
theorem c77_7 (env : Env) (H : Heap) (kn : K6T) (kx2 : K1T) (Q : QT) (h : m77_7 (env 0) (env 1) (env 6) (env 7) (env 9) (env 10) H kn kx2 Q) :
    qUZ Tryd.prog 97 (qRZ [1,1,1,1,1,1,0,1,0,0,1,0] (qSZ Tryd.f77)) env H (mkK (fun e H => kn (e 0) (e 1) (e 6) (e 7) (e 9) (e 10) H) (inK 2 (fun e H => kx2 (e 7) H) (fun _ _ _ => False)) (rKZ Tryd.f77 Q) (pKZ Q)) :=
  qUZ.blk (by kernel_rfl : (qRZ [1,1,1,1,1,1,0,1,0,0,1,0] (qSZ Tryd.f77)) = .block 3 (qRZ [1,1,1,1,1,1,0,1,0,0,1,0,0] (qSZ Tryd.f77))) (c77_8 env H kn kn kx2 Q h)
def m77_5 (x0 x1 x6 x7 x9 x10 : Value) (H : Heap) (kn : K6T) (kx2 : K1T) (Q : QT) : Prop :=
oV (vInt .leq x10 x6) fun u0 =>
p7Z u0 (
m77_7 x0 x1 x6 x7 x9 x10 H (fun u1 u2 u3 u4 u5 u6 u7 => m77_6 u1 u2 u3 u4 u5 u6 u7 kn kx2 Q) kx2 Q) (
kx2 x7 H)
theorem c77_5 (env : Env) (H : Heap) (kn : K6T) (kx2 : K1T) (Q : QT) (h : m77_5 (env 0) (env 1) (env 6) (env 7) (env 9) (env 10) H kn kx2 Q) :
    qUZ Tryd.prog 97 (qRZ [1,1,1,1,1,1,0,1,0,0] (qSZ Tryd.f77)) env H (mkK (fun e H => kn (e 0) (e 1) (e 6) (e 7) (e 9) (e 10) H) (inK 2 (fun e H => kx2 (e 7) H) (fun _ _ _ => False)) (rKZ Tryd.f77 Q) (pKZ Q)) :=
  qUZ.prefix_ (T := T) (X := ext) (hint := hint77) (hole := (fun e H => m77_7 (e 0) (e 1) (e 6) (e 7) (e 9) (e 10) H (fun y0_40 y1_41 y6_42 y7_43 y9_44 y10_45 H_46 => m77_6 y0_40 y1_41 y6_42 y7_43 y9_44 y10_45 H_46 kn kx2 Q) kx2 Q)) tok xok mixed 1 (by kernel_rfl) (by kernel_rfl : qRZ _ _ = (qRZ [1,1,1,1,1,1,0,1,0,0,1] (qSZ Tryd.f77))) h
    (fun e H h => qUZ.join (by kernel_rfl : (qRZ [1,1,1,1,1,1,0,1,0,0,1] (qSZ Tryd.f77)) = .seq (qRZ [1,1,1,1,1,1,0,1,0,0,1,0] (qSZ Tryd.f77)) (qRZ [1,1,1,1,1,1,0,1,0,0,1,1] (qSZ Tryd.f77))) ((c77_7 e H (fun y0_47 y1_48 y6_49 y7_50 y9_51 y10_52 H_53 => m77_6 y0_47 y1_48 y6_49 y7_50 y9_51 y10_52 H_53 kn kx2 Q) kx2 Q h).mono (qPZ (fun e H h => c77_6 e H kn kx2 Q h) (fun _ _ _ h => h) (fun _ _ h => h) (fun _ _ h => h))))
theorem L77_4_round (x0 x1 x6 x7 x9 x10 : Value) (H : Heap) (kn : K1T) (Q : QT) (h : m77_5 x0 x1 x6 x7 x9 x10 H (fun y0 y1 y6 y7 y9 y10 H => L77_4 y0 y1 y6 y7 y9 y10 H kn Q) kn Q) : L77_4 x0 x1 x6 x7 x9 x10 H kn Q := by
  intro env h0 h1 h6 h7 h9 h10
  subst h0; subst h1; subst h6; subst h7; subst h9; subst h10
  exact RLoop.round ((c77_5 env H (fun y0 y1 y6 y7 y9 y10 H => L77_4 y0 y1 y6 y7 y9 y10 H kn Q) kn Q h).mono (qPZ (fun e H h => h e rfl rfl rfl rfl rfl rfl) (fun _ _ _ h => h) (fun _ _ h => h) (fun _ _ h => h)))
def m77_3 (x0 x1 x6 x7 x9 : Value) (H : Heap) (kn : K1T) (Q : QT) : Prop :=
L77_4 x0 x1 x6 x7 x9 (.int .i64 0) H kn Q
theorem c77_3 (env : Env) (H : Heap) (kn : K1T) (Q : QT) (h : m77_3 (env 0) (env 1) (env 6) (env 7) (env 9) H kn Q) :
    qUZ Tryd.prog 97 (qRZ [1,1,1,1,1,1,0] (qSZ Tryd.f77)) env H (mkK (fun e H => kn (e 7) H) (fun _ _ _ => False) (rKZ Tryd.f77 Q) (pKZ Q)) :=
  qUZ.prefix_ (T := T) (X := ext) (hint := hint77) (hole := (fun e H => L77_4 (e 0) (e 1) (e 6) (e 7) (e 9) (e 10) H kn Q)) tok xok mixed 1 (by kernel_rfl) (by kernel_rfl : qRZ _ _ = (qRZ [1,1,1,1,1,1,0,1] (qSZ Tryd.f77))) h
    (fun e H h => (cL77_4 e H kn Q h))
def m77_1 (x0 x1 x6 x7 : Value) (H : Heap) (Q : QT) : Prop :=
m77_3 x0 x1 x6 x7 (.int .i64 0) H (fun u0 u1 => m77_2 u0 u1 Q) Q
theorem c77_1 (env : Env) (H : Heap) (Q : QT) (h : m77_1 (env 0) (env 1) (env 6) (env 7) H Q) :
    qUZ Tryd.prog 97 (qRZ [1,1,1,1,1] (qSZ Tryd.f77)) env H (mkK (rKZ Tryd.f77 Q) (fun _ _ _ => False) (rKZ Tryd.f77 Q) (pKZ Q)) :=
  qUZ.prefix_ (T := T) (X := ext) (hint := hint77) (hole := (fun e H => m77_3 (e 0) (e 1) (e 6) (e 7) (e 9) H (fun y7_56 H_57 => m77_2 y7_56 H_57 Q) Q)) tok xok mixed 1 (by kernel_rfl) (by kernel_rfl : qRZ _ _ = (qRZ [1,1,1,1,1,1] (qSZ Tryd.f77))) h
    (fun e H h => qUZ.join (by kernel_rfl : (qRZ [1,1,1,1,1,1] (qSZ Tryd.f77)) = .seq (qRZ [1,1,1,1,1,1,0] (qSZ Tryd.f77)) (qRZ [1,1,1,1,1,1,1] (qSZ Tryd.f77))) ((c77_3 e H (fun y7_58 H_59 => m77_2 y7_58 H_59 Q) Q h).mono (qPZ (fun e H h => c77_2 e H Q h) (fun _ _ _ h => h) (fun _ _ h => h) (fun _ _ h => h))))
def L77_12 (x0 x1 x6 x7 x8 : Value) (H : Heap) (kn : K4T) (Q : QT) : Prop :=
  ∀ env : Env, env 0 = x0 → env 1 = x1 → env 6 = x6 → env 7 = x7 → env 8 = x8 → RLoop Tryd.prog 97 (qRZ [1,1,1,1,0,1,0,0] (qSZ Tryd.f77)) env H (mkK (fun _ _ => False) (inK 0 (fun e H => kn (e 0) (e 1) (e 6) (e 7) H) (fun _ _ _ => False)) (rKZ Tryd.f77 Q) (pKZ Q))
theorem cL77_12 (env : Env) (H : Heap) (kn : K4T) (Q : QT) (h : L77_12 (env 0) (env 1) (env 6) (env 7) (env 8) H kn Q) :
    qUZ Tryd.prog 97 (qRZ [1,1,1,1,0,1] (qSZ Tryd.f77)) env H (mkK (fun e H => kn (e 0) (e 1) (e 6) (e 7) H) (fun _ _ _ => False) (rKZ Tryd.f77 Q) (pKZ Q)) :=
  qUZ.blk (by kernel_rfl : (qRZ [1,1,1,1,0,1] (qSZ Tryd.f77)) = .block 0 (qRZ [1,1,1,1,0,1,0] (qSZ Tryd.f77))) (qUZ.lp (by kernel_rfl : (qRZ [1,1,1,1,0,1,0] (qSZ Tryd.f77)) = .loop (qRZ [1,1,1,1,0,1,0,0] (qSZ Tryd.f77))) ((h env rfl rfl rfl rfl rfl).mono (qPZ (fun _ _ h => h.elim) (fun _ _ _ h => h) (fun _ _ h => h) (fun _ _ h => h))))
def m77_13 (x0 x1 x6 x7 x8 : Value) (H : Heap) (kn : K5T) (kx0 : K4T) (Q : QT) : Prop :=
oV (vInt .leq x8 x6) fun u0 =>
p7Z u0 (
oV (vInt .add x6 (.int .i64 1)) fun u1 =>
oMake ty22 22 u1 u1 H fun u2 u3 =>
oV (p1Z 1 x7 x8) fun u4 =>
oHeap (p2Z ty52 u4 u2 u3) fun u5 =>
oV (vInt .add x8 (.int .i64 1)) fun u6 =>
kn x0 x1 x6 x7 u6 u5) (
kx0 x0 x1 x6 x7 H)
theorem c77_13 (env : Env) (H : Heap) (kn : K5T) (kx0 : K4T) (Q : QT) (h : m77_13 (env 0) (env 1) (env 6) (env 7) (env 8) H kn kx0 Q) :
    qUZ Tryd.prog 97 (qRZ [1,1,1,1,0,1,0,0] (qSZ Tryd.f77)) env H (mkK (fun e H => kn (e 0) (e 1) (e 6) (e 7) (e 8) H) (inK 0 (fun e H => kx0 (e 0) (e 1) (e 6) (e 7) H) (fun _ _ _ => False)) (rKZ Tryd.f77 Q) (pKZ Q)) :=
  qUZ.leaf_ (T := T) (X := ext) (hint := hint77) tok xok mixed (by kernel_rfl) h
theorem L77_12_round (x0 x1 x6 x7 x8 : Value) (H : Heap) (kn : K4T) (Q : QT) (h : m77_13 x0 x1 x6 x7 x8 H (fun y0 y1 y6 y7 y8 H => L77_12 y0 y1 y6 y7 y8 H kn Q) kn Q) : L77_12 x0 x1 x6 x7 x8 H kn Q := by
  intro env h0 h1 h6 h7 h8
  subst h0; subst h1; subst h6; subst h7; subst h8
  exact RLoop.round ((c77_13 env H (fun y0 y1 y6 y7 y8 H => L77_12 y0 y1 y6 y7 y8 H kn Q) kn Q h).mono (qPZ (fun e H h => h e rfl rfl rfl rfl rfl) (fun _ _ _ h => h) (fun _ _ h => h) (fun _ _ h => h)))
def m77_11 (x0 x1 x6 x7 : Value) (H : Heap) (kn : K4T) (Q : QT) : Prop :=
L77_12 x0 x1 x6 x7 (.int .i64 0) H kn Q
theorem c77_11 (env : Env) (H : Heap) (kn : K4T) (Q : QT) (h : m77_11 (env 0) (env 1) (env 6) (env 7) H kn Q) :
    qUZ Tryd.prog 97 (qRZ [1,1,1,1,0] (qSZ Tryd.f77)) env H (mkK (fun e H => kn (e 0) (e 1) (e 6) (e 7) H) (fun _ _ _ => False) (rKZ Tryd.f77 Q) (pKZ Q)) :=
  qUZ.prefix_ (T := T) (X := ext) (hint := hint77) (hole := (fun e H => L77_12 (e 0) (e 1) (e 6) (e 7) (e 8) H kn Q)) tok xok mixed 1 (by kernel_rfl) (by kernel_rfl : qRZ _ _ = (qRZ [1,1,1,1,0,1] (qSZ Tryd.f77))) h
    (fun e H h => (cL77_12 e H kn Q h))
def m77 (x0 x1 : Value) (H : Heap) (Q : QT) : Prop :=
oV (vLen x0) fun u0 =>
oV (vInt .sub u0 (.int .i64 1)) fun u1 =>
oV (vInt .lss u1 (.int .i64 0)) fun u2 =>
oV (gV u2 false (some x1) (some undef)) fun u3 =>
oV (gV u2 false (vLen u3) (some undef)) fun u4 =>
oV (gV u2 false (some u1) (some undef)) fun u5 =>
oV (gV u2 false (some u1) (some undef)) fun u6 =>
oV (gV u2 false (vInt .add u6 (.int .i64 1)) (some undef)) fun u7 =>
oV (gV u2 false (vInt .mul u5 u7) (some undef)) fun u8 =>
oV (gV u2 false (vInt .quo u8 (.int .i64 2)) (some undef)) fun u9 =>
oV (gV u2 false (vInt .neq u4 u9) (some undef)) fun u10 =>
oV (pAZ u2 (.bool true) u10) fun u11 =>
p7Z u11 (
Q (.returned (.tuple #[(.slice none 0 0), (.int .i64 1)])) H) (
oV (vInt .add u1 (.int .i64 1)) fun u12 =>
oMake ty52 52 u12 u12 H fun u13 u14 =>
m77_11 x0 x1 u1 u13 u14 (fun u15 u16 u17 u18 u19 => m77_1 u15 u16 u17 u18 u19 Q) Q)
theorem c77_0 (env : Env) (H : Heap) (Q : QT) (h : m77 (env 0) (env 1) H Q) :
    qUZ Tryd.prog 97 (qSZ Tryd.f77) env H (mkK (rKZ Tryd.f77 Q) (fun _ _ _ => False) (rKZ Tryd.f77 Q) (pKZ Q)) :=
  qUZ.prefix_ (T := T) (X := ext) (hint := hint77) (hole := (fun e H => m77_11 (e 0) (e 1) (e 6) (e 7) H (fun y0_87 y1_88 y6_89 y7_90 H_91 => m77_1 y0_87 y1_88 y6_89 y7_90 H_91 Q) Q)) tok xok mixed 4 (by kernel_rfl) (by kernel_rfl : qRZ _ _ = (qRZ [1,1,1,1] (qSZ Tryd.f77))) h
    (fun e H h => qUZ.join (by kernel_rfl : (qRZ [1,1,1,1] (qSZ Tryd.f77)) = .seq (qRZ [1,1,1,1,0] (qSZ Tryd.f77)) (qRZ [1,1,1,1,1] (qSZ Tryd.f77))) ((c77_11 e H (fun y0_92 y1_93 y6_94 y7_95 H_96 => m77_1 y0_92 y1_93 y6_94 y7_95 H_96 Q) Q h).mono (qPZ (fun e H h => c77_1 e H Q h) (fun _ _ _ h => h) (fun _ _ h => h) (fun _ _ h => h))))
theorem call77 (a0 a1 : Value) (H : Heap) (Q : QT) (h : m77 a0 a1 H Q) : qVZ Tryd.prog 77 [a0, a1] H Q :=
  qVZ.intro (nt := 97) tok Tryd.func77 (by kernel_rfl) (by kernel_rfl) (by kernel_rfl) (of_decide_eq_true (by kernel_rfl)) (c77_0 (envOf [a0, a1]) H Q h)
def hint133 : Nat → List Nat := p5Z []
def m133_1 (x7 : Value) (H : Heap) (Q : QT) : Prop :=
Q (.returned x7) H
theorem c133_1 (env : Env) (H : Heap) (Q : QT) (h : m133_1 (env 7) H Q) :
    qUZ Tryd.prog 24 (qRZ [1,1,1] (qSZ Tryd.f133)) env H (mkK (rKZ Tryd.f133 Q) (fun _ _ _ => False) (rKZ Tryd.f133 Q) (pKZ Q)) :=
  qUZ.leaf_ (T := T) (X := ext) (hint := hint133) tok xok mixed (by kernel_rfl) h
def L133_2 (x0 x1 x2 x7 : Value) (H : Heap) (kn : K1T) (Q : QT) : Prop :=
  ∀ env : Env, env 0 = x0 → env 1 = x1 → env 2 = x2 → env 7 = x7 → RLoop Tryd.prog 24 (qRZ [1,1,0,0,0] (qSZ Tryd.f133)) env H (mkK (fun _ _ => False) (inK 0 (fun e H => kn (e 7) H) (fun _ _ _ => False)) (rKZ Tryd.f133 Q) (pKZ Q))
theorem cL133_2 (env : Env) (H : Heap) (kn : K1T) (Q : QT) (h : L133_2 (env 0) (env 1) (env 2) (env 7) H kn Q) :
    qUZ Tryd.prog 24 (qRZ [1,1,0] (qSZ Tryd.f133)) env H (mkK (fun e H => kn (e 7) H) (fun _ _ _ => False) (rKZ Tryd.f133 Q) (pKZ Q)) :=
  qUZ.blk (by kernel_rfl : (qRZ [1,1,0] (qSZ Tryd.f133)) = .block 0 (qRZ [1,1,0,0] (qSZ Tryd.f133))) (qUZ.lp (by kernel_rfl : (qRZ [1,1,0,0] (qSZ Tryd.f133)) = .loop (qRZ [1,1,0,0,0] (qSZ Tryd.f133))) ((h env rfl rfl rfl rfl).mono (qPZ (fun _ _ h => h.elim) (fun _ _ _ h => h) (fun _ _ h => h) (fun _ _ h => h))))
def m133_3 (x0 x1 x2 x7 : Value) (H : Heap) (kn : K4T) (kx0 : K1T) (Q : QT) : Prop :=
oV (vInt .gtr x2 (.int .u64 0)) fun u0 =>
p7Z u0 (
oV (vInt .rem x2 (.int .u64 2)) fun u1 =>
oV (vInt .eql u1 (.int .u64 1)) fun u2 =>
p7Z u2 (
oRC Tryd.prog 76 [x0, x7, x1] H (pKZ Q) fun u3 u4 =>
oRC Tryd.prog 76 [x0, x1, x1] u4 (pKZ Q) fun u5 u6 =>
oV (vInt .quo x2 (.int .u64 2)) fun u7 =>
kn x0 u5 u7 u3 u6) (
oRC Tryd.prog 76 [x0, x1, x1] H (pKZ Q) fun u8 u9 =>
oV (vInt .quo x2 (.int .u64 2)) fun u10 =>
kn x0 u8 u10 x7 u9)) (
kx0 x7 H)
theorem c133_3 (env : Env) (H : Heap) (kn : K4T) (kx0 : K1T) (Q : QT) (h : m133_3 (env 0) (env 1) (env 2) (env 7) H kn kx0 Q) :
    qUZ Tryd.prog 24 (qRZ [1,1,0,0,0] (qSZ Tryd.f133)) env H (mkK (fun e H => kn (e 0) (e 1) (e 2) (e 7) H) (inK 0 (fun e H => kx0 (e 7) H) (fun _ _ _ => False)) (rKZ Tryd.f133 Q) (pKZ Q)) :=
  qUZ.leaf_ (T := T) (X := ext) (hint := hint133) tok xok mixed (by kernel_rfl) h
theorem L133_2_round (x0 x1 x2 x7 : Value) (H : Heap) (kn : K1T) (Q : QT) (h : m133_3 x0 x1 x2 x7 H (fun y0 y1 y2 y7 H => L133_2 y0 y1 y2 y7 H kn Q) kn Q) : L133_2 x0 x1 x2 x7 H kn Q := by
  intro env h0 h1 h2 h7
  subst h0; subst h1; subst h2; subst h7
  exact RLoop.round ((c133_3 env H (fun y0 y1 y2 y7 H => L133_2 y0 y1 y2 y7 H kn Q) kn Q h).mono (qPZ (fun e H h => h e rfl rfl rfl rfl) (fun _ _ _ h => h) (fun _ _ h => h) (fun _ _ h => h)))
def m133 (x0 x1 x2 : Value) (H : Heap) (Q : QT) : Prop :=
L133_2 x0 x1 x2 (.int .u64 1) H (fun u0 u1 => m133_1 u0 u1 Q) Q
theorem c133_0 (env : Env) (H : Heap) (Q : QT) (h : m133 (env 0) (env 1) (env 2) H Q) :
    qUZ Tryd.prog 24 (qSZ Tryd.f133) env H (mkK (rKZ Tryd.f133 Q) (fun _ _ _ => False) (rKZ Tryd.f133 Q) (pKZ Q)) :=
  qUZ.prefix_ (T := T) (X := ext) (hint := hint133) (hole := (fun e H => L133_2 (e 0) (e 1) (e 2) (e 7) H (fun y7_14 H_15 => m133_1 y7_14 H_15 Q) Q)) tok xok mixed 2 (by kernel_rfl) (by kernel_rfl : qRZ _ _ = (qRZ [1,1] (qSZ Tryd.f133))) h
    (fun e H h => qUZ.join (by kernel_rfl : (qRZ [1,1] (qSZ Tryd.f133)) = .seq (qRZ [1,1,0] (qSZ Tryd.f133)) (qRZ [1,1,1] (qSZ Tryd.f133))) ((cL133_2 e H (fun y7_16 H_17 => m133_1 y7_16 H_17 Q) Q h).mono (qPZ (fun e H h => c133_1 e H Q h) (fun _ _ _ h => h) (fun _ _ h => h) (fun _ _ h => h))))
theorem call133 (a0 a1 a2 : Value) (H : Heap) (Q : QT) (h : m133 a0 a1 a2 H Q) : qVZ Tryd.prog 133 [a0, a1, a2] H Q :=
  qVZ.intro (nt := 24) tok Tryd.func133 (by kernel_rfl) (by kernel_rfl) (by kernel_rfl) (of_decide_eq_true (by kernel_rfl)) (c133_0 (envOf [a0, a1, a2]) H Q h)
def hint107 : Nat → List Nat := p5Z []
def m107 (x0 x1 : Value) (H : Heap) (Q : QT) : Prop :=
oV (vInt .eql x1 (.int .u64 0)) fun u0 =>
p7Z u0 (
Q (.returned (.tuple #[(.int .u64 0), (.int .i64 8)])) H) (
oV (vInt .sub x0 (.int .u64 2)) fun u1 =>
oRC Tryd.prog 133 [x0, x1, u1] H (pKZ Q) fun u2 u3 =>
Q (.returned (.tuple #[u2, (.int .i64 0)])) u3)
theorem c107_0 (env : Env) (H : Heap) (Q : QT) (h : m107 (env 0) (env 1) H Q) :
    qUZ Tryd.prog 13 (qSZ Tryd.f107) env H (mkK (rKZ Tryd.f107 Q) (fun _ _ _ => False) (rKZ Tryd.f107 Q) (pKZ Q)) :=
  qUZ.leaf_ (T := T) (X := ext) (hint := hint107) tok xok mixed (by kernel_rfl) h
theorem call107 (a0 a1 : Value) (H : Heap) (Q : QT) (h : m107 a0 a1 H Q) : qVZ Tryd.prog 107 [a0, a1] H Q :=
  qVZ.intro (nt := 13) tok Tryd.func107 (by kernel_rfl) (by kernel_rfl) (by kernel_rfl) (of_decide_eq_true (by kernel_rfl)) (c107_0 (envOf [a0, a1]) H Q h)
def hint108 : Nat → List Nat := p5Z []
def m108 (x0 x1 x2 : Value) (H : Heap) (Q : QT) : Prop :=
oV (vInt .add x1 x0) fun u0 =>
oV (vInt .sub u0 x2) fun u1 =>
oV (vInt .rem u1 x0) fun u2 =>
Q (.returned u2) H
theorem c108_0 (env : Env) (H : Heap) (Q : QT) (h : m108 (env 0) (env 1) (env 2) H Q) :
    qUZ Tryd.prog 14 (qSZ Tryd.f108) env H (mkK (rKZ Tryd.f108 Q) (fun _ _ _ => False) (rKZ Tryd.f108 Q) (pKZ Q)) :=
  qUZ.leaf_ (T := T) (X := ext) (hint := hint108) tok xok mixed (by kernel_rfl) h
theorem call108 (a0 a1 a2 : Value) (H : Heap) (Q : QT) (h : m108 a0 a1 a2 H Q) : qVZ Tryd.prog 108 [a0, a1, a2] H Q :=
  qVZ.intro (nt := 14) tok Tryd.func108 (by kernel_rfl) (by kernel_rfl) (by kernel_rfl) (of_decide_eq_true (by kernel_rfl)) (c108_0 (envOf [a0, a1, a2]) H Q h)
def hint78 : Nat → List Nat := p5Z [(12, [0,1,2,3,4,5,6,7,8,9,10,11,12,13,14,15,16,17,18])]
def m78_1 (x5 : Value) (H : Heap) (Q : QT) : Prop :=
Q (.returned x5) H
theorem c78_1 (env : Env) (H : Heap) (Q : QT) (h : m78_1 (env 5) H Q) :
    qUZ Tryd.prog 63 (qRZ [1,1,1] (qSZ Tryd.f78)) env H (mkK (rKZ Tryd.f78 Q) (fun _ _ _ => False) (rKZ Tryd.f78 Q) (pKZ Q)) :=
  qUZ.leaf_ (T := T) (X := ext) (hint := hint78) tok xok mixed (by kernel_rfl) h
def L78_3 (x0 x1 x5 x6 : Value) (H : Heap) (kn : K1T) (Q : QT) : Prop :=
  ∀ env : Env, env 0 = x0 → env 1 = x1 → env 5 = x5 → env 6 = x6 → RLoop Tryd.prog 63 (qRZ [1,1,0,1,0,0] (qSZ Tryd.f78)) env H (mkK (fun _ _ => False) (inK 0 (fun e H => kn (e 5) H) (fun _ _ _ => False)) (rKZ Tryd.f78 Q) (pKZ Q))
theorem cL78_3 (env : Env) (H : Heap) (kn : K1T) (Q : QT) (h : L78_3 (env 0) (env 1) (env 5) (env 6) H kn Q) :
    qUZ Tryd.prog 63 (qRZ [1,1,0,1] (qSZ Tryd.f78)) env H (mkK (fun e H => kn (e 5) H) (fun _ _ _ => False) (rKZ Tryd.f78 Q) (pKZ Q)) :=
  qUZ.blk (by kernel_rfl : (qRZ [1,1,0,1] (qSZ Tryd.f78)) = .block 0 (qRZ [1,1,0,1,0] (qSZ Tryd.f78))) (qUZ.lp (by kernel_rfl : (qRZ [1,1,0,1,0] (qSZ Tryd.f78)) = .loop (qRZ [1,1,0,1,0,0] (qSZ Tryd.f78))) ((h env rfl rfl rfl rfl).mono (qPZ (fun _ _ h => h.elim) (fun _ _ _ h => h) (fun _ _ h => h) (fun _ _ h => h))))
def m78_5 (x0 x1 x5 x6 : Value) (H : Heap) (kn : K4T) (kx0 : K1T) (Q : QT) : Prop :=
oV (vInt .add x6 (.int .i64 1)) fun u0 =>
kn x0 x1 x5 u0 H
theorem c78_5 (env : Env) (H : Heap) (kn : K4T) (kx0 : K1T) (Q : QT) (h : m78_5 (env 0) (env 1) (env 5) (env 6) H kn kx0 Q) :
    qUZ Tryd.prog 63 (qRZ [1,1,0,1,0,0,1,1] (qSZ Tryd.f78)) env H (mkK (fun e H => kn (e 0) (e 1) (e 5) (e 6) H) (inK 0 (fun e H => kx0 (e 5) H) (fun _ _ _ => False)) (rKZ Tryd.f78 Q) (pKZ Q)) :=
  qUZ.leaf_ (T := T) (X := ext) (hint := hint78) tok xok mixed (by kernel_rfl) h
def m78_8 (x0 x1 x6 x10 : Value) (H : Heap) (kn : K4T) (kx1 : K4T) (kx0 : K1T) (Q : QT) : Prop :=
kn x0 x1 x10 x6 H
theorem c78_8 (env : Env) (H : Heap) (kn : K4T) (kx1 : K4T) (kx0 : K1T) (Q : QT) (h : m78_8 (env 0) (env 1) (env 6) (env 10) H kn kx1 kx0 Q) :
    qUZ Tryd.prog 63 (qRZ [1,1,0,1,0,0,1,0,0,1,1,1,1,1] (qSZ Tryd.f78)) env H (mkK (fun e H => kn (e 0) (e 1) (e 5) (e 6) H) (inK 1 (fun e H => kx1 (e 0) (e 1) (e 5) (e 6) H) (inK 0 (fun e H => kx0 (e 5) H) (fun _ _ _ => False))) (rKZ Tryd.f78 Q) (pKZ Q)) :=
  qUZ.leaf_ (T := T) (X := ext) (hint := hint78) tok xok mixed (by kernel_rfl) h
def L78_10 (x0 x1 x5 x6 x9 x10 x11 : Value) (H : Heap) (kn : K4T) (kx1 : K4T) (kx0 : K1T) (Q : QT) : Prop :=
  ∀ env : Env, env 0 = x0 → env 1 = x1 → env 5 = x5 → env 6 = x6 → env 9 = x9 → env 10 = x10 → env 11 = x11 → RLoop Tryd.prog 63 (qRZ [1,1,0,1,0,0,1,0,0,1,1,1,1,0,1,0,0] (qSZ Tryd.f78)) env H (mkK (fun _ _ => False) (inK 2 (fun e H => kn (e 0) (e 1) (e 6) (e 10) H) (inK 1 (fun e H => kx1 (e 0) (e 1) (e 5) (e 6) H) (inK 0 (fun e H => kx0 (e 5) H) (fun _ _ _ => False)))) (rKZ Tryd.f78 Q) (pKZ Q))
theorem cL78_10 (env : Env) (H : Heap) (kn : K4T) (kx1 : K4T) (kx0 : K1T) (Q : QT) (h : L78_10 (env 0) (env 1) (env 5) (env 6) (env 9) (env 10) (env 11) H kn kx1 kx0 Q) :
    qUZ Tryd.prog 63 (qRZ [1,1,0,1,0,0,1,0,0,1,1,1,1,0,1] (qSZ Tryd.f78)) env H (mkK (fun e H => kn (e 0) (e 1) (e 6) (e 10) H) (inK 1 (fun e H => kx1 (e 0) (e 1) (e 5) (e 6) H) (inK 0 (fun e H => kx0 (e 5) H) (fun _ _ _ => False))) (rKZ Tryd.f78 Q) (pKZ Q)) :=
  qUZ.blk (by kernel_rfl : (qRZ [1,1,0,1,0,0,1,0,0,1,1,1,1,0,1] (qSZ Tryd.f78)) = .block 2 (qRZ [1,1,0,1,0,0,1,0,0,1,1,1,1,0,1,0] (qSZ Tryd.f78))) (qUZ.lp (by kernel_rfl : (qRZ [1,1,0,1,0,0,1,0,0,1,1,1,1,0,1,0] (qSZ Tryd.f78)) = .loop (qRZ [1,1,0,1,0,0,1,0,0,1,1,1,1,0,1,0,0] (qSZ Tryd.f78))) ((h env rfl rfl rfl rfl rfl rfl rfl).mono (qPZ (fun _ _ h => h.elim) (fun _ _ _ h => h) (fun _ _ h => h) (fun _ _ h => h))))
def m78_11 (x0 x1 x5 x6 x9 x10 x11 : Value) (H : Heap) (kn : K7T) (kx2 : K4T) (kx1 : K4T) (kx0 : K1T) (Q : QT) : Prop :=
oV (vLen x5) fun u0 =>
oV (vInt .lss x11 u0) fun u1 =>
p7Z u1 (
oV (vInt .add x11 (.int .i64 1)) fun u2 =>
oV (vInt .add x11 (.int .i64 1)) fun u3 =>
oV (p1Z 1 x10 u3) fun u4 =>
oV (qWZ ty22 u4 H) fun u5 =>
oV (p1Z 1 x5 x11) fun u6 =>
oV (qWZ ty22 u6 H) fun u7 =>
oRC Tryd.prog 76 [x0, x9, u7] H noP fun u8 u9 =>
(qWZ ty22 u4 u9 = some u5 ∧
oRC Tryd.prog 75 [x0, u5, u8] u9 noP fun u10 u11 =>
oV (p1Z 1 x10 u2) fun u12 =>
oHeap (p2Z ty22 u12 u10 u11) fun u13 =>
oV (vInt .add x11 (.int .i64 1)) fun u14 =>
kn x0 x1 x5 x6 x9 x10 u14 u13)) (
kx2 x0 x1 x6 x10 H)
theorem c78_11 (env : Env) (H : Heap) (kn : K7T) (kx2 : K4T) (kx1 : K4T) (kx0 : K1T) (Q : QT) (h : m78_11 (env 0) (env 1) (env 5) (env 6) (env 9) (env 10) (env 11) H kn kx2 kx1 kx0 Q) :
    qUZ Tryd.prog 63 (qRZ [1,1,0,1,0,0,1,0,0,1,1,1,1,0,1,0,0] (qSZ Tryd.f78)) env H (mkK (fun e H => kn (e 0) (e 1) (e 5) (e 6) (e 9) (e 10) (e 11) H) (inK 2 (fun e H => kx2 (e 0) (e 1) (e 6) (e 10) H) (inK 1 (fun e H => kx1 (e 0) (e 1) (e 5) (e 6) H) (inK 0 (fun e H => kx0 (e 5) H) (fun _ _ _ => False)))) (rKZ Tryd.f78 Q) (pKZ Q)) :=
  qUZ.leaf_ (T := T) (X := ext) (hint := hint78) tok xok mixed (by kernel_rfl) h
theorem L78_10_round (x0 x1 x5 x6 x9 x10 x11 : Value) (H : Heap) (kn : K4T) (kx1 : K4T) (kx0 : K1T) (Q : QT) (h : m78_11 x0 x1 x5 x6 x9 x10 x11 H (fun y0 y1 y5 y6 y9 y10 y11 H => L78_10 y0 y1 y5 y6 y9 y10 y11 H kn kx1 kx0 Q) kn kx1 kx0 Q) : L78_10 x0 x1 x5 x6 x9 x10 x11 H kn kx1 kx0 Q := by
  intro env h0 h1 h5 h6 h9 h10 h11
  subst h0; subst h1; subst h5; subst h6; subst h9; subst h10; subst h11
  exact RLoop.round ((c78_11 env H (fun y0 y1 y5 y6 y9 y10 y11 H => L78_10 y0 y1 y5 y6 y9 y10 y11 H kn kx1 kx0 Q) kn kx1 kx0 Q h).mono (qPZ (fun e H h => h e rfl rfl rfl rfl rfl rfl rfl) (fun _ _ _ h => h) (fun _ _ h => h) (fun _ _ h => h)))
def m78_9 (x0 x1 x5 x6 x9 x10 : Value) (H : Heap) (kn : K4T) (kx1 : K4T) (kx0 : K1T) (Q : QT) : Prop :=
L78_10 x0 x1 x5 x6 x9 x10 (.int .i64 0) H kn kx1 kx0 Q
theorem c78_9 (env : Env) (H : Heap) (kn : K4T) (kx1 : K4T) (kx0 : K1T) (Q : QT) (h : m78_9 (env 0) (env 1) (env 5) (env 6) (env 9) (env 10) H kn kx1 kx0 Q) :
    qUZ Tryd.prog 63 (qRZ [1,1,0,1,0,0,1,0,0,1,1,1,1,0] (qSZ Tryd.f78)) env H (mkK (fun e H => kn (e 0) (e 1) (e 6) (e 10) H) (inK 1 (fun e H => kx1 (e 0) (e 1) (e 5) (e 6) H) (inK 0 (fun e H => kx0 (e 5) H) (fun _ _ _ => False))) (rKZ Tryd.f78 Q) (pKZ Q)) :=
  qUZ.prefix_ (T := T) (X := ext) (hint := hint78) (hole := (fun e H => L78_10 (e 0) (e 1) (e 5) (e 6) (e 9) (e 10) (e 11) H kn kx1 kx0 Q)) tok xok mixed 1 (by kernel_rfl) (by kernel_rfl : qRZ _ _ = (qRZ [1,1,0,1,0,0,1,0,0,1,1,1,1,0,1] (qSZ Tryd.f78))) h
    (fun e H h => (cL78_10 e H kn kx1 kx0 Q h))
def m78_7 (x0 x1 x5 x6 : Value) (H : Heap) (kn : K4T) (kx1 : K4T) (kx0 : K1T) (Q : QT) : Prop :=
oV (p1Z 1 x1 x6) fun u0 =>
oV (qWZ ty22 u0 H) fun u1 =>
oRC Tryd.prog 107 [x0, u1] H (pKZ Q) fun u2 u3 =>
oV (p0Z u2 0) fun u4 =>
oV (p0Z u2 1) fun u5 =>
oRC Tryd.prog 108 [x0, (.int .u64 0), u4] u3 (pKZ Q) fun u6 u7 =>
p3Z ty22 22 0 [] u7 fun u8 u9 =>
p4Z ty22 22 u8 x5 u9 fun u10 u11 =>
p3Z ty22 22 1 [((0,1), (.int .u64 0))] u11 fun u12 u13 =>
p4Z ty22 22 u10 u12 u13 fun u14 u15 =>
m78_9 x0 x1 x5 x6 u6 u14 u15 (fun u16 u17 u18 u19 u20 => m78_8 u16 u17 u18 u19 u20 kn kx1 kx0 Q) kx1 kx0 Q
theorem c78_7 (env : Env) (H : Heap) (kn : K4T) (kx1 : K4T) (kx0 : K1T) (Q : QT) (h : m78_7 (env 0) (env 1) (env 5) (env 6) H kn kx1 kx0 Q) :
    qUZ Tryd.prog 63 (qRZ [1,1,0,1,0,0,1,0,0] (qSZ Tryd.f78)) env H (mkK (fun e H => kn (e 0) (e 1) (e 5) (e 6) H) (inK 1 (fun e H => kx1 (e 0) (e 1) (e 5) (e 6) H) (inK 0 (fun e H => kx0 (e 5) H) (fun _ _ _ => False))) (rKZ Tryd.f78 Q) (pKZ Q)) :=
  qUZ.prefix_ (T := T) (X := ext) (hint := hint78) (hole := (fun e H => m78_9 (e 0) (e 1) (e 5) (e 6) (e 9) (e 10) H (fun y0_38 y1_39 y6_40 y10_41 H_42 => m78_8 y0_38 y1_39 y6_40 y10_41 H_42 kn kx1 kx0 Q) kx1 kx0 Q)) tok xok mixed 4 (by kernel_rfl) (by kernel_rfl : qRZ _ _ = (qRZ [1,1,0,1,0,0,1,0,0,1,1,1,1] (qSZ Tryd.f78))) h
    (fun e H h => qUZ.join (by kernel_rfl : (qRZ [1,1,0,1,0,0,1,0,0,1,1,1,1] (qSZ Tryd.f78)) = .seq (qRZ [1,1,0,1,0,0,1,0,0,1,1,1,1,0] (qSZ Tryd.f78)) (qRZ [1,1,0,1,0,0,1,0,0,1,1,1,1,1] (qSZ Tryd.f78))) ((c78_9 e H (fun y0_43 y1_44 y6_45 y10_46 H_47 => m78_8 y0_43 y1_44 y6_45 y10_46 H_47 kn kx1 kx0 Q) kx1 kx0 Q h).mono (qPZ (fun e H h => c78_8 e H kn kx1 kx0 Q h) (fun _ _ _ h => h) (fun _ _ h => h) (fun _ _ h => h))))
def m78_6 (x0 x1 x5 x6 : Value) (H : Heap) (kn : K4T) (kx0 : K1T) (Q : QT) : Prop :=
m78_7 x0 x1 x5 x6 H kn kn kx0 Q
theorem c78_6 (env : Env) (H : Heap) (kn : K4T) (kx0 : K1T) (Q : QT) (h : m78_6 (env 0) (env 1) (env 5) (env 6) H kn kx0 Q) :
    qUZ Tryd.prog 63 (qRZ [1,1,0,1,0,0,1,0] (qSZ Tryd.f78)) env H (mkK (fun e H => kn (e 0) (e 1) (e 5) (e 6) H) (inK 0 (fun e H => kx0 (e 5) H) (fun _ _ _ => False)) (rKZ Tryd.f78 Q) (pKZ Q)) :=
  qUZ.blk (by kernel_rfl : (qRZ [1,1,0,1,0,0,1,0] (qSZ Tryd.f78)) = .block 1 (qRZ [1,1,0,1,0,0,1,0,0] (qSZ Tryd.f78))) (c78_7 env H kn kn kx0 Q h)
def m78_4 (x0 x1 x5 x6 : Value) (H : Heap) (kn : K4T) (kx0 : K1T) (Q : QT) : Prop :=
oV (vLen x1) fun u0 =>
oV (vInt .lss x6 u0) fun u1 =>
p7Z u1 (
m78_6 x0 x1 x5 x6 H (fun u2 u3 u4 u5 u6 => m78_5 u2 u3 u4 u5 u6 kn kx0 Q) kx0 Q) (
kx0 x5 H)
theorem c78_4 (env : Env) (H : Heap) (kn : K4T) (kx0 : K1T) (Q : QT) (h : m78_4 (env 0) (env 1) (env 5) (env 6) H kn kx0 Q) :
    qUZ Tryd.prog 63 (qRZ [1,1,0,1,0,0] (qSZ Tryd.f78)) env H (mkK (fun e H => kn (e 0) (e 1) (e 5) (e 6) H) (inK 0 (fun e H => kx0 (e 5) H) (fun _ _ _ => False)) (rKZ Tryd.f78 Q) (pKZ Q)) :=
  qUZ.prefix_ (T := T) (X := ext) (hint := hint78) (hole := (fun e H => m78_6 (e 0) (e 1) (e 5) (e 6) H (fun y0_55 y1_56 y5_57 y6_58 H_59 => m78_5 y0_55 y1_56 y5_57 y6_58 H_59 kn kx0 Q) kx0 Q)) tok xok mixed 1 (by kernel_rfl) (by kernel_rfl : qRZ _ _ = (qRZ [1,1,0,1,0,0,1] (qSZ Tryd.f78))) h
    (fun e H h => qUZ.join (by kernel_rfl : (qRZ [1,1,0,1,0,0,1] (qSZ Tryd.f78)) = .seq (qRZ [1,1,0,1,0,0,1,0] (qSZ Tryd.f78)) (qRZ [1,1,0,1,0,0,1,1] (qSZ Tryd.f78))) ((c78_6 e H (fun y0_60 y1_61 y5_62 y6_63 H_64 => m78_5 y0_60 y1_61 y5_62 y6_63 H_64 kn kx0 Q) kx0 Q h).mono (qPZ (fun e H h => c78_5 e H kn kx0 Q h) (fun _ _ _ h => h) (fun _ _ h => h) (fun _ _ h => h))))
theorem L78_3_round (x0 x1 x5 x6 : Value) (H : Heap) (kn : K1T) (Q : QT) (h : m78_4 x0 x1 x5 x6 H (fun y0 y1 y5 y6 H => L78_3 y0 y1 y5 y6 H kn Q) kn Q) : L78_3 x0 x1 x5 x6 H kn Q := by
  intro env h0 h1 h5 h6
  subst h0; subst h1; subst h5; subst h6
  exact RLoop.round ((c78_4 env H (fun y0 y1 y5 y6 H => L78_3 y0 y1 y5 y6 H kn Q) kn Q h).mono (qPZ (fun e H h => h e rfl rfl rfl rfl) (fun _ _ _ h => h) (fun _ _ h => h) (fun _ _ h => h)))
def m78_2 (x0 x1 x5 : Value) (H : Heap) (kn : K1T) (Q : QT) : Prop :=
L78_3 x0 x1 x5 (.int .i64 0) H kn Q
theorem c78_2 (env : Env) (H : Heap) (kn : K1T) (Q : QT) (h : m78_2 (env 0) (env 1) (env 5) H kn Q) :
    qUZ Tryd.prog 63 (qRZ [1,1,0] (qSZ Tryd.f78)) env H (mkK (fun e H => kn (e 5) H) (fun _ _ _ => False) (rKZ Tryd.f78 Q) (pKZ Q)) :=
  qUZ.prefix_ (T := T) (X := ext) (hint := hint78) (hole := (fun e H => L78_3 (e 0) (e 1) (e 5) (e 6) H kn Q)) tok xok mixed 1 (by kernel_rfl) (by kernel_rfl : qRZ _ _ = (qRZ [1,1,0,1] (qSZ Tryd.f78))) h
    (fun e H h => (cL78_3 e H kn Q h))
def m78 (x0 x1 : Value) (H : Heap) (Q : QT) : Prop :=
p3Z ty22 22 1 [((0,1), (.int .u64 1))] H fun u0 u1 =>
m78_2 x0 x1 u0 u1 (fun u2 u3 => m78_1 u2 u3 Q) Q
theorem c78_0 (env : Env) (H : Heap) (Q : QT) (h : m78 (env 0) (env 1) H Q) :
    qUZ Tryd.prog 63 (qSZ Tryd.f78) env H (mkK (rKZ Tryd.f78 Q) (fun _ _ _ => False) (rKZ Tryd.f78 Q) (pKZ Q)) :=
  qUZ.prefix_ (T := T) (X := ext) (hint := hint78) (hole := (fun e H => m78_2 (e 0) (e 1) (e 5) H (fun y5_69 H_70 => m78_1 y5_69 H_70 Q) Q)) tok xok mixed 2 (by kernel_rfl) (by kernel_rfl : qRZ _ _ = (qRZ [1,1] (qSZ Tryd.f78))) h
    (fun e H h => qUZ.join (by kernel_rfl : (qRZ [1,1] (qSZ Tryd.f78)) = .seq (qRZ [1,1,0] (qSZ Tryd.f78)) (qRZ [1,1,1] (qSZ Tryd.f78))) ((c78_2 e H (fun y5_71 H_72 => m78_1 y5_71 H_72 Q) Q h).mono (qPZ (fun e H h => c78_1 e H Q h) (fun _ _ _ h => h) (fun _ _ h => h) (fun _ _ h => h))))
theorem call78 (a0 a1 : Value) (H : Heap) (Q : QT) (h : m78 a0 a1 H Q) : qVZ Tryd.prog 78 [a0, a1] H Q :=
  qVZ.intro (nt := 63) tok Tryd.func78 (by kernel_rfl) (by kernel_rfl) (by kernel_rfl) (of_decide_eq_true (by kernel_rfl)) (c78_0 (envOf [a0, a1]) H Q h)
def hint43 : Nat → List Nat := p5Z []
def m43_2 (x1 x3 : Value) (H : Heap) (Q : QT) : Prop :=
oV (qYZ 0 x1) fun u0 =>
oV (qYZ 0 u0) fun u1 =>
oV (qWZ ty22 u1 H) fun u2 =>
oRC Tryd.prog 78 [u2, x3] H (pKZ Q) fun u3 u4 =>
Q (.returned u3) u4
theorem c43_2 (env : Env) (H : Heap) (Q : QT) (h : m43_2 (env 1) (env 3) H Q) :
    qUZ Tryd.prog 50 (qRZ [1,1,1,1] (qSZ Tryd.f43)) env H (mkK (rKZ Tryd.f43 Q) (fun _ _ _ => False) (rKZ Tryd.f43 Q) (pKZ Q)) :=
  qUZ.leaf_ (T := T) (X := ext) (hint := hint43) tok xok mixed (by kernel_rfl) h
def L43_4 (x1 x3 x5 : Value) (H : Heap) (kn : K2T) (Q : QT) : Prop :=
  ∀ env : Env, env 1 = x1 → env 3 = x3 → env 5 = x5 → RLoop Tryd.prog 50 (qRZ [1,1,1,0,1,0,0] (qSZ Tryd.f43)) env H (mkK (fun _ _ => False) (inK 2 (fun e H => kn (e 1) (e 3) H) (fun _ _ _ => False)) (rKZ Tryd.f43 Q) (pKZ Q))
theorem cL43_4 (env : Env) (H : Heap) (kn : K2T) (Q : QT) (h : L43_4 (env 1) (env 3) (env 5) H kn Q) :
    qUZ Tryd.prog 50 (qRZ [1,1,1,0,1] (qSZ Tryd.f43)) env H (mkK (fun e H => kn (e 1) (e 3) H) (fun _ _ _ => False) (rKZ Tryd.f43 Q) (pKZ Q)) :=
  qUZ.blk (by kernel_rfl : (qRZ [1,1,1,0,1] (qSZ Tryd.f43)) = .block 2 (qRZ [1,1,1,0,1,0] (qSZ Tryd.f43))) (qUZ.lp (by kernel_rfl : (qRZ [1,1,1,0,1,0] (qSZ Tryd.f43)) = .loop (qRZ [1,1,1,0,1,0,0] (qSZ Tryd.f43))) ((h env rfl rfl rfl).mono (qPZ (fun _ _ h => h.elim) (fun _ _ _ h => h) (fun _ _ h => h) (fun _ _ h => h))))
def m43_5 (x1 x3 x5 : Value) (H : Heap) (kn : K3T) (kx2 : K2T) (Q : QT) : Prop :=
oV (qYZ 0 x1) fun u0 =>
oV (qYZ 1 u0) fun u1 =>
oV (qWZ ty3 u1 H) fun u2 =>
oV (vInt .leq x5 u2) fun u3 =>
oV (gV u3 true (some x3) (some undef)) fun u4 =>
oV (gV u3 true (vLen u4) (some undef)) fun u5 =>
oV (gV u3 true (qYZ 0 x1) (some undef)) fun u6 =>
oV (gV u3 true (qYZ 2 u6) (some undef)) fun u7 =>
oV (gV u3 true (qWZ ty3 u7 H) (some undef)) fun u8 =>
oV (gV u3 true (vInt .lss u5 u8) (some undef)) fun u9 =>
oV (pAZ u3 u9 (.bool false)) fun u10 =>
p7Z u10 (
oV (qWZ ty29 x1 H) fun u11 =>
oRC Tryd.prog 36 [u11, x5] H (pKZ Q) fun u12 u13 =>
p7Z u12 (
oV (vConv (.int .u64) x5) fun u14 =>
p3Z ty22 22 1 [((0,1), u14)] u13 fun u15 u16 =>
p4Z ty22 22 x3 u15 u16 fun u17 u18 =>
oV (vInt .add x5 (.int .i64 1)) fun u19 =>
kn x1 u17 u19 u18) (
oV (vInt .add x5 (.int .i64 1)) fun u20 =>
kn x1 x3 u20 u13)) (
kx2 x1 x3 H)
theorem c43_5 (env : Env) (H : Heap) (kn : K3T) (kx2 : K2T) (Q : QT) (h : m43_5 (env 1) (env 3) (env 5) H kn kx2 Q) :
    qUZ Tryd.prog 50 (qRZ [1,1,1,0,1,0,0] (qSZ Tryd.f43)) env H (mkK (fun e H => kn (e 1) (e 3) (e 5) H) (inK 2 (fun e H => kx2 (e 1) (e 3) H) (fun _ _ _ => False)) (rKZ Tryd.f43 Q) (pKZ Q)) :=
  qUZ.leaf_ (T := T) (X := ext) (hint := hint43) tok xok mixed (by kernel_rfl) h
theorem L43_4_round (x1 x3 x5 : Value) (H : Heap) (kn : K2T) (Q : QT) (h : m43_5 x1 x3 x5 H (fun y1 y3 y5 H => L43_4 y1 y3 y5 H kn Q) kn Q) : L43_4 x1 x3 x5 H kn Q := by
  intro env h1 h3 h5
  subst h1; subst h3; subst h5
  exact RLoop.round ((c43_5 env H (fun y1 y3 y5 H => L43_4 y1 y3 y5 H kn Q) kn Q h).mono (qPZ (fun e H h => h e rfl rfl rfl) (fun _ _ _ h => h) (fun _ _ h => h) (fun _ _ h => h)))
def m43_3 (x1 x3 : Value) (H : Heap) (kn : K2T) (Q : QT) : Prop :=
L43_4 x1 x3 (.int .i64 1) H kn Q
theorem c43_3 (env : Env) (H : Heap) (kn : K2T) (Q : QT) (h : m43_3 (env 1) (env 3) H kn Q) :
    qUZ Tryd.prog 50 (qRZ [1,1,1,0] (qSZ Tryd.f43)) env H (mkK (fun e H => kn (e 1) (e 3) H) (fun _ _ _ => False) (rKZ Tryd.f43 Q) (pKZ Q)) :=
  qUZ.prefix_ (T := T) (X := ext) (hint := hint43) (hole := (fun e H => L43_4 (e 1) (e 3) (e 5) H kn Q)) tok xok mixed 1 (by kernel_rfl) (by kernel_rfl : qRZ _ _ = (qRZ [1,1,1,0,1] (qSZ Tryd.f43))) h
    (fun e H h => (cL43_4 e H kn Q h))
def m43_1 (x1 x3 : Value) (H : Heap) (Q : QT) : Prop :=
m43_3 x1 x3 H (fun u0 u1 u2 => m43_2 u0 u1 u2 Q) Q
theorem c43_1 (env : Env) (H : Heap) (Q : QT) (h : m43_1 (env 1) (env 3) H Q) :
    qUZ Tryd.prog 50 (qRZ [1,1,1] (qSZ Tryd.f43)) env H (mkK (rKZ Tryd.f43 Q) (fun _ _ _ => False) (rKZ Tryd.f43 Q) (pKZ Q)) :=
  qUZ.join (by kernel_rfl : (qRZ [1,1,1] (qSZ Tryd.f43)) = .seq (qRZ [1,1,1,0] (qSZ Tryd.f43)) (qRZ [1,1,1,1] (qSZ Tryd.f43))) ((c43_3 env H (fun y1_30 y3_31 H_32 => m43_2 y1_30 y3_31 H_32 Q) Q h).mono (qPZ (fun e H h => c43_2 e H Q h) (fun _ _ _ h => h) (fun _ _ h => h) (fun _ _ h => h)))
def L43_7 (x1 x3 x4 : Value) (H : Heap) (kn : K2T) (Q : QT) : Prop :=
  ∀ env : Env, env 1 = x1 → env 3 = x3 → env 4 = x4 → RLoop Tryd.prog 50 (qRZ [1,1,0,1,0,0] (qSZ Tryd.f43)) env H (mkK (fun _ _ => False) (inK 0 (fun e H => kn (e 1) (e 3) H) (fun _ _ _ => False)) (rKZ Tryd.f43 Q) (pKZ Q))
theorem cL43_7 (env : Env) (H : Heap) (kn : K2T) (Q : QT) (h : L43_7 (env 1) (env 3) (env 4) H kn Q) :
    qUZ Tryd.prog 50 (qRZ [1,1,0,1] (qSZ Tryd.f43)) env H (mkK (fun e H => kn (e 1) (e 3) H) (fun _ _ _ => False) (rKZ Tryd.f43 Q) (pKZ Q)) :=
  qUZ.blk (by kernel_rfl : (qRZ [1,1,0,1] (qSZ Tryd.f43)) = .block 0 (qRZ [1,1,0,1,0] (qSZ Tryd.f43))) (qUZ.lp (by kernel_rfl : (qRZ [1,1,0,1,0] (qSZ Tryd.f43)) = .loop (qRZ [1,1,0,1,0,0] (qSZ Tryd.f43))) ((h env rfl rfl rfl).mono (qPZ (fun _ _ h => h.elim) (fun _ _ _ h => h) (fun _ _ h => h) (fun _ _ h => h))))
def m43_8 (x1 x3 x4 : Value) (H : Heap) (kn : K3T) (kx0 : K2T) (Q : QT) : Prop :=
oV (qYZ 3 x1) fun u0 =>
oV (qWZ ty25 u0 H) fun u1 =>
oV (vLen u1) fun u2 =>
oV (vInt .lss x4 u2) fun u3 =>
p7Z u3 (
oV (qYZ 3 x1) fun u4 =>
oV (qWZ ty25 u4 H) fun u5 =>
oV (p1Z 1 u5 x4) fun u6 =>
oV (qWZ ty3 u6 H) fun u7 =>
oV (vConv (.int .u64) u7) fun u8 =>
p3Z ty22 22 1 [((0,1), u8)] H fun u9 u10 =>
p4Z ty22 22 x3 u9 u10 fun u11 u12 =>
oV (vInt .add x4 (.int .i64 1)) fun u13 =>
kn x1 u11 u13 u12) (
kx0 x1 x3 H)
theorem c43_8 (env : Env) (H : Heap) (kn : K3T) (kx0 : K2T) (Q : QT) (h : m43_8 (env 1) (env 3) (env 4) H kn kx0 Q) :
    qUZ Tryd.prog 50 (qRZ [1,1,0,1,0,0] (qSZ Tryd.f43)) env H (mkK (fun e H => kn (e 1) (e 3) (e 4) H) (inK 0 (fun e H => kx0 (e 1) (e 3) H) (fun _ _ _ => False)) (rKZ Tryd.f43 Q) (pKZ Q)) :=
  qUZ.leaf_ (T := T) (X := ext) (hint := hint43) tok xok mixed (by kernel_rfl) h
theorem L43_7_round (x1 x3 x4 : Value) (H : Heap) (kn : K2T) (Q : QT) (h : m43_8 x1 x3 x4 H (fun y1 y3 y4 H => L43_7 y1 y3 y4 H kn Q) kn Q) : L43_7 x1 x3 x4 H kn Q := by
  intro env h1 h3 h4
  subst h1; subst h3; subst h4
  exact RLoop.round ((c43_8 env H (fun y1 y3 y4 H => L43_7 y1 y3 y4 H kn Q) kn Q h).mono (qPZ (fun e H h => h e rfl rfl rfl) (fun _ _ _ h => h) (fun _ _ h => h) (fun _ _ h => h)))
def m43_6 (x1 x3 : Value) (H : Heap) (kn : K2T) (Q : QT) : Prop :=
L43_7 x1 x3 (.int .i64 0) H kn Q
theorem c43_6 (env : Env) (H : Heap) (kn : K2T) (Q : QT) (h : m43_6 (env 1) (env 3) H kn Q) :
    qUZ Tryd.prog 50 (qRZ [1,1,0] (qSZ Tryd.f43)) env H (mkK (fun e H => kn (e 1) (e 3) H) (fun _ _ _ => False) (rKZ Tryd.f43 Q) (pKZ Q)) :=
  qUZ.prefix_ (T := T) (X := ext) (hint := hint43) (hole := (fun e H => L43_7 (e 1) (e 3) (e 4) H kn Q)) tok xok mixed 1 (by kernel_rfl) (by kernel_rfl : qRZ _ _ = (qRZ [1,1,0,1] (qSZ Tryd.f43))) h
    (fun e H h => (cL43_7 e H kn Q h))
def m43 (x0 : Value) (H : Heap) (Q : QT) : Prop :=
oNew (Value.cells x0).toList (Value.cells x0).toList.length 29 H fun u0 u1 =>
m43_6 (qTZ u0) (.slice none 0 0) u1 (fun u2 u3 u4 => m43_1 u2 u3 u4 Q) Q
theorem c43_0 (env : Env) (H : Heap) (Q : QT) (h : m43 (env 0) H Q) :
    qUZ Tryd.prog 50 (qSZ Tryd.f43) env H (mkK (rKZ Tryd.f43 Q) (fun _ _ _ => False) (rKZ Tryd.f43 Q) (pKZ Q)) :=
  qUZ.prefix_ (T := T) (X := ext) (hint := hint43) (hole := (fun e H => m43_6 (e 1) (e 3) H (fun y1_52 y3_53 H_54 => m43_1 y1_52 y3_53 H_54 Q) Q)) tok xok mixed 2 (by kernel_rfl) (by kernel_rfl : qRZ _ _ = (qRZ [1,1] (qSZ Tryd.f43))) h
    (fun e H h => qUZ.join (by kernel_rfl : (qRZ [1,1] (qSZ Tryd.f43)) = .seq (qRZ [1,1,0] (qSZ Tryd.f43)) (qRZ [1,1,1] (qSZ Tryd.f43))) ((c43_6 e H (fun y1_55 y3_56 H_57 => m43_1 y1_55 y3_56 H_57 Q) Q h).mono (qPZ (fun e H h => c43_1 e H Q h) (fun _ _ _ h => h) (fun _ _ h => h) (fun _ _ h => h))))
theorem call43 (a0 : Value) (H : Heap) (Q : QT) (h : m43 a0 H Q) : qVZ Tryd.prog 43 [a0] H Q :=
  qVZ.intro (nt := 50) tok Tryd.func43 (by kernel_rfl) (by kernel_rfl) (by kernel_rfl) (of_decide_eq_true (by kernel_rfl)) (c43_0 (envOf [a0]) H Q h)
def hint42 : Nat → List Nat := p5Z [(9, [0,1,2,3,4,5,6,7,8,9,10,11,12,13,14,15,16,17,18,19,20,21,22,23,24,25])]
def m42_1 (x9 : Value) (H : Heap) (Q : QT) : Prop :=
Q (.returned x9) H
theorem c42_1 (env : Env) (H : Heap) (Q : QT) (h : m42_1 (env 9) H Q) :
    qUZ Tryd.prog 55 (qRZ [1,1,1] (qSZ Tryd.f42)) env H (mkK (rKZ Tryd.f42 Q) (fun _ _ _ => False) (rKZ Tryd.f42 Q) (pKZ Q)) :=
  qUZ.leaf_ (T := T) (X := ext) (hint := hint42) tok xok mixed (by kernel_rfl) h
def L42_3 (x0 x1 x2 x3 x9 x10 : Value) (H : Heap) (kn : K1T) (Q : QT) : Prop :=
  ∀ env : Env, env 0 = x0 → env 1 = x1 → env 2 = x2 → env 3 = x3 → env 9 = x9 → env 10 = x10 → RLoop Tryd.prog 55 (qRZ [1,1,0,1,0,0] (qSZ Tryd.f42)) env H (mkK (fun _ _ => False) (inK 0 (fun e H => kn (e 9) H) (fun _ _ _ => False)) (rKZ Tryd.f42 Q) (pKZ Q))
theorem cL42_3 (env : Env) (H : Heap) (kn : K1T) (Q : QT) (h : L42_3 (env 0) (env 1) (env 2) (env 3) (env 9) (env 10) H kn Q) :
    qUZ Tryd.prog 55 (qRZ [1,1,0,1] (qSZ Tryd.f42)) env H (mkK (fun e H => kn (e 9) H) (fun _ _ _ => False) (rKZ Tryd.f42 Q) (pKZ Q)) :=
  qUZ.blk (by kernel_rfl : (qRZ [1,1,0,1] (qSZ Tryd.f42)) = .block 0 (qRZ [1,1,0,1,0] (qSZ Tryd.f42))) (qUZ.lp (by kernel_rfl : (qRZ [1,1,0,1,0] (qSZ Tryd.f42)) = .loop (qRZ [1,1,0,1,0,0] (qSZ Tryd.f42))) ((h env rfl rfl rfl rfl rfl rfl).mono (qPZ (fun _ _ h => h.elim) (fun _ _ _ h => h) (fun _ _ h => h) (fun _ _ h => h))))
def m42_5 (x0 x1 x2 x3 x9 x10 : Value) (H : Heap) (kn : K6T) (kx0 : K1T) (Q : QT) : Prop :=
oV (vInt .add x10 (.int .i64 1)) fun u0 =>
kn x0 x1 x2 x3 x9 u0 H
theorem c42_5 (env : Env) (H : Heap) (kn : K6T) (kx0 : K1T) (Q : QT) (h : m42_5 (env 0) (env 1) (env 2) (env 3) (env 9) (env 10) H kn kx0 Q) :
    qUZ Tryd.prog 55 (qRZ [1,1,0,1,0,0,1,1] (qSZ Tryd.f42)) env H (mkK (fun e H => kn (e 0) (e 1) (e 2) (e 3) (e 9) (e 10) H) (inK 0 (fun e H => kx0 (e 9) H) (fun _ _ _ => False)) (rKZ Tryd.f42 Q) (pKZ Q)) :=
  qUZ.leaf_ (T := T) (X := ext) (hint := hint42) tok xok mixed (by kernel_rfl) h
def m42_8 (x0 x1 x2 x3 x9 x10 x11 : Value) (H : Heap) (kn : K6T) (kx1 : K6T) (kx0 : K1T) (Q : QT) : Prop :=
p3Z ty52 52 1 [((0,1), x11)] H fun u0 u1 =>
p4Z ty52 52 x9 u0 u1 fun u2 u3 =>
kn x0 x1 x2 x3 u2 x10 u3
theorem c42_8 (env : Env) (H : Heap) (kn : K6T) (kx1 : K6T) (kx0 : K1T) (Q : QT) (h : m42_8 (env 0) (env 1) (env 2) (env 3) (env 9) (env 10) (env 11) H kn kx1 kx0 Q) :
    qUZ Tryd.prog 55 (qRZ [1,1,0,1,0,0,1,0,0,1,1] (qSZ Tryd.f42)) env H (mkK (fun e H => kn (e 0) (e 1) (e 2) (e 3) (e 9) (e 10) H) (inK 1 (fun e H => kx1 (e 0) (e 1) (e 2) (e 3) (e 9) (e 10) H) (inK 0 (fun e H => kx0 (e 9) H) (fun _ _ _ => False))) (rKZ Tryd.f42 Q) (pKZ Q)) :=
  qUZ.leaf_ (T := T) (X := ext) (hint := hint42) tok xok mixed (by kernel_rfl) h
def L42_10 (x0 x1 x2 x3 x9 x10 x11 x12 : Value) (H : Heap) (kn : K7T) (kx1 : K6T) (kx0 : K1T) (Q : QT) : Prop :=
  ∀ env : Env, env 0 = x0 → env 1 = x1 → env 2 = x2 → env 3 = x3 → env 9 = x9 → env 10 = x10 → env 11 = x11 → env 12 = x12 → RLoop Tryd.prog 55 (qRZ [1,1,0,1,0,0,1,0,0,1,0,1,0,0] (qSZ Tryd.f42)) env H (mkK (fun _ _ => False) (inK 2 (fun e H => kn (e 0) (e 1) (e 2) (e 3) (e 9) (e 10) (e 11) H) (inK 1 (fun e H => kx1 (e 0) (e 1) (e 2) (e 3) (e 9) (e 10) H) (inK 0 (fun e H => kx0 (e 9) H) (fun _ _ _ => False)))) (rKZ Tryd.f42 Q) (pKZ Q))
theorem cL42_10 (env : Env) (H : Heap) (kn : K7T) (kx1 : K6T) (kx0 : K1T) (Q : QT) (h : L42_10 (env 0) (env 1) (env 2) (env 3) (env 9) (env 10) (env 11) (env 12) H kn kx1 kx0 Q) :
    qUZ Tryd.prog 55 (qRZ [1,1,0,1,0,0,1,0,0,1,0,1] (qSZ Tryd.f42)) env H (mkK (fun e H => kn (e 0) (e 1) (e 2) (e 3) (e 9) (e 10) (e 11) H) (inK 1 (fun e H => kx1 (e 0) (e 1) (e 2) (e 3) (e 9) (e 10) H) (inK 0 (fun e H => kx0 (e 9) H) (fun _ _ _ => False))) (rKZ Tryd.f42 Q) (pKZ Q)) :=
  qUZ.blk (by kernel_rfl : (qRZ [1,1,0,1,0,0,1,0,0,1,0,1] (qSZ Tryd.f42)) = .block 2 (qRZ [1,1,0,1,0,0,1,0,0,1,0,1,0] (qSZ Tryd.f42))) (qUZ.lp (by kernel_rfl : (qRZ [1,1,0,1,0,0,1,0,0,1,0,1,0] (qSZ Tryd.f42)) = .loop (qRZ [1,1,0,1,0,0,1,0,0,1,0,1,0,0] (qSZ Tryd.f42))) ((h env rfl rfl rfl rfl rfl rfl rfl rfl).mono (qPZ (fun _ _ h => h.elim) (fun _ _ _ h => h) (fun _ _ h => h) (fun _ _ h => h))))
def m42_11 (x0 x1 x2 x3 x9 x10 x11 x12 : Value) (H : Heap) (kn : K8T) (kx2 : K7T) (kx1 : K6T) (kx0 : K1T) (Q : QT) : Prop :=
oV (vLen x1) fun u0 =>
oV (vInt .lss x12 u0) fun u1 =>
p7Z u1 (
oV (p1Z 1 x1 x10) fun u2 =>
oV (qWZ ty52 u2 H) fun u3 =>
oV (p1Z 1 u3 x12) fun u4 =>
oV (qWZ ty22 u4 H) fun u5 =>
oV (p1Z 1 x3 x10) fun u6 =>
oV (qWZ ty22 u6 H) fun u7 =>
oV (p1Z 1 x3 x12) fun u8 =>
oV (qWZ ty22 u8 H) fun u9 =>
oRC Tryd.prog 76 [x0, u7, u9] H noP fun u10 u11 =>
(qWZ ty22 u4 u11 = some u5 ∧
(qWZ ty52 u2 u11 = some u3 ∧
oRC Tryd.prog 76 [x0, x2, u10] u11 noP fun u12 u13 =>
(qWZ ty22 u4 u13 = some u5 ∧
(qWZ ty52 u2 u13 = some u3 ∧
oRC Tryd.prog 75 [x0, u5, u12] u13 noP fun u14 u15 =>
p3Z ty22 22 1 [((0,1), u14)] u15 fun u16 u17 =>
p4Z ty22 22 x11 u16 u17 fun u18 u19 =>
oV (vInt .add x12 (.int .i64 1)) fun u20 =>
kn x0 x1 x2 x3 x9 x10 u18 u20 u19))))) (
kx2 x0 x1 x2 x3 x9 x10 x11 H)
theorem c42_11 (env : Env) (H : Heap) (kn : K8T) (kx2 : K7T) (kx1 : K6T) (kx0 : K1T) (Q : QT) (h : m42_11 (env 0) (env 1) (env 2) (env 3) (env 9) (env 10) (env 11) (env 12) H kn kx2 kx1 kx0 Q) :
    qUZ Tryd.prog 55 (qRZ [1,1,0,1,0,0,1,0,0,1,0,1,0,0] (qSZ Tryd.f42)) env H (mkK (fun e H => kn (e 0) (e 1) (e 2) (e 3) (e 9) (e 10) (e 11) (e 12) H) (inK 2 (fun e H => kx2 (e 0) (e 1) (e 2) (e 3) (e 9) (e 10) (e 11) H) (inK 1 (fun e H => kx1 (e 0) (e 1) (e 2) (e 3) (e 9) (e 10) H) (inK 0 (fun e H => kx0 (e 9) H) (fun _ _ _ => False)))) (rKZ Tryd.f42 Q) (pKZ Q)) :=
  qUZ.leaf_ (T := T) (X := ext) (hint := hint42) tok xok mixed (by kernel_rfl) h
theorem L42_10_round (x0 x1 x2 x3 x9 x10 x11 x12 : Value) (H : Heap) (kn : K7T) (kx1 : K6T) (kx0 : K1T) (Q : QT) (h : m42_11 x0 x1 x2 x3 x9 x10 x11 x12 H (fun y0 y1 y2 y3 y9 y10 y11 y12 H => L42_10 y0 y1 y2 y3 y9 y10 y11 y12 H kn kx1 kx0 Q) kn kx1 kx0 Q) : L42_10 x0 x1 x2 x3 x9 x10 x11 x12 H kn kx1 kx0 Q := by
  intro env h0 h1 h2 h3 h9 h10 h11 h12
  subst h0; subst h1; subst h2; subst h3; subst h9; subst h10; subst h11; subst h12
  exact RLoop.round ((c42_11 env H (fun y0 y1 y2 y3 y9 y10 y11 y12 H => L42_10 y0 y1 y2 y3 y9 y10 y11 y12 H kn kx1 kx0 Q) kn kx1 kx0 Q h).mono (qPZ (fun e H h => h e rfl rfl rfl rfl rfl rfl rfl rfl) (fun _ _ _ h => h) (fun _ _ h => h) (fun _ _ h => h)))
def m42_9 (x0 x1 x2 x3 x9 x10 x11 : Value) (H : Heap) (kn : K7T) (kx1 : K6T) (kx0 : K1T) (Q : QT) : Prop :=
L42_10 x0 x1 x2 x3 x9 x10 x11 (.int .i64 0) H kn kx1 kx0 Q
theorem c42_9 (env : Env) (H : Heap) (kn : K7T) (kx1 : K6T) (kx0 : K1T) (Q : QT) (h : m42_9 (env 0) (env 1) (env 2) (env 3) (env 9) (env 10) (env 11) H kn kx1 kx0 Q) :
    qUZ Tryd.prog 55 (qRZ [1,1,0,1,0,0,1,0,0,1,0] (qSZ Tryd.f42)) env H (mkK (fun e H => kn (e 0) (e 1) (e 2) (e 3) (e 9) (e 10) (e 11) H) (inK 1 (fun e H => kx1 (e 0) (e 1) (e 2) (e 3) (e 9) (e 10) H) (inK 0 (fun e H => kx0 (e 9) H) (fun _ _ _ => False))) (rKZ Tryd.f42 Q) (pKZ Q)) :=
  qUZ.prefix_ (T := T) (X := ext) (hint := hint42) (hole := (fun e H => L42_10 (e 0) (e 1) (e 2) (e 3) (e 9) (e 10) (e 11) (e 12) H kn kx1 kx0 Q)) tok xok mixed 1 (by kernel_rfl) (by kernel_rfl : qRZ _ _ = (qRZ [1,1,0,1,0,0,1,0,0,1,0,1] (qSZ Tryd.f42))) h
    (fun e H h => (cL42_10 e H kn kx1 kx0 Q h))
def m42_7 (x0 x1 x2 x3 x9 x10 : Value) (H : Heap) (kn : K6T) (kx1 : K6T) (kx0 : K1T) (Q : QT) : Prop :=
m42_9 x0 x1 x2 x3 x9 x10 (.slice none 0 0) H (fun u0 u1 u2 u3 u4 u5 u6 u7 => m42_8 u0 u1 u2 u3 u4 u5 u6 u7 kn kx1 kx0 Q) kx1 kx0 Q
theorem c42_7 (env : Env) (H : Heap) (kn : K6T) (kx1 : K6T) (kx0 : K1T) (Q : QT) (h : m42_7 (env 0) (env 1) (env 2) (env 3) (env 9) (env 10) H kn kx1 kx0 Q) :
    qUZ Tryd.prog 55 (qRZ [1,1,0,1,0,0,1,0,0] (qSZ Tryd.f42)) env H (mkK (fun e H => kn (e 0) (e 1) (e 2) (e 3) (e 9) (e 10) H) (inK 1 (fun e H => kx1 (e 0) (e 1) (e 2) (e 3) (e 9) (e 10) H) (inK 0 (fun e H => kx0 (e 9) H) (fun _ _ _ => False))) (rKZ Tryd.f42 Q) (pKZ Q)) :=
  qUZ.prefix_ (T := T) (X := ext) (hint := hint42) (hole := (fun e H => m42_9 (e 0) (e 1) (e 2) (e 3) (e 9) (e 10) (e 11) H (fun y0_35 y1_36 y2_37 y3_38 y9_39 y10_40 y11_41 H_42 => m42_8 y0_35 y1_36 y2_37 y3_38 y9_39 y10_40 y11_41 H_42 kn kx1 kx0 Q) kx1 kx0 Q)) tok xok mixed 1 (by kernel_rfl) (by kernel_rfl : qRZ _ _ = (qRZ [1,1,0,1,0,0,1,0,0,1] (qSZ Tryd.f42))) h
    (fun e H h => qUZ.join (by kernel_rfl : (qRZ [1,1,0,1,0,0,1,0,0,1] (qSZ Tryd.f42)) = .seq (qRZ [1,1,0,1,0,0,1,0,0,1,0] (qSZ Tryd.f42)) (qRZ [1,1,0,1,0,0,1,0,0,1,1] (qSZ Tryd.f42))) ((c42_9 e H (fun y0_43 y1_44 y2_45 y3_46 y9_47 y10_48 y11_49 H_50 => m42_8 y0_43 y1_44 y2_45 y3_46 y9_47 y10_48 y11_49 H_50 kn kx1 kx0 Q) kx1 kx0 Q h).mono (qPZ (fun e H h => c42_8 e H kn kx1 kx0 Q h) (fun _ _ _ h => h) (fun _ _ h => h) (fun _ _ h => h))))
def m42_6 (x0 x1 x2 x3 x9 x10 : Value) (H : Heap) (kn : K6T) (kx0 : K1T) (Q : QT) : Prop :=
m42_7 x0 x1 x2 x3 x9 x10 H kn kn kx0 Q
theorem c42_6 (env : Env) (H : Heap) (kn : K6T) (kx0 : K1T) (Q : QT) (h : m42_6 (env 0) (env 1) (env 2) (env 3) (env 9) (env 10) H kn kx0 Q) :
    qUZ Tryd.prog 55 (qRZ [1,1,0,1,0,0,1,0] (qSZ Tryd.f42)) env H (mkK (fun e H => kn (e 0) (e 1) (e 2) (e 3) (e 9) (e 10) H) (inK 0 (fun e H => kx0 (e 9) H) (fun _ _ _ => False)) (rKZ Tryd.f42 Q) (pKZ Q)) :=
  qUZ.blk (by kernel_rfl : (qRZ [1,1,0,1,0,0,1,0] (qSZ Tryd.f42)) = .block 1 (qRZ [1,1,0,1,0,0,1,0,0] (qSZ Tryd.f42))) (c42_7 env H kn kn kx0 Q h)
def m42_4 (x0 x1 x2 x3 x9 x10 : Value) (H : Heap) (kn : K6T) (kx0 : K1T) (Q : QT) : Prop :=
oV (vLen x1) fun u0 =>
oV (vInt .lss x10 u0) fun u1 =>
p7Z u1 (
m42_6 x0 x1 x2 x3 x9 x10 H (fun u2 u3 u4 u5 u6 u7 u8 => m42_5 u2 u3 u4 u5 u6 u7 u8 kn kx0 Q) kx0 Q) (
kx0 x9 H)
theorem c42_4 (env : Env) (H : Heap) (kn : K6T) (kx0 : K1T) (Q : QT) (h : m42_4 (env 0) (env 1) (env 2) (env 3) (env 9) (env 10) H kn kx0 Q) :
    qUZ Tryd.prog 55 (qRZ [1,1,0,1,0,0] (qSZ Tryd.f42)) env H (mkK (fun e H => kn (e 0) (e 1) (e 2) (e 3) (e 9) (e 10) H) (inK 0 (fun e H => kx0 (e 9) H) (fun _ _ _ => False)) (rKZ Tryd.f42 Q) (pKZ Q)) :=
  qUZ.prefix_ (T := T) (X := ext) (hint := hint42) (hole := (fun e H => m42_6 (e 0) (e 1) (e 2) (e 3) (e 9) (e 10) H (fun y0_60 y1_61 y2_62 y3_63 y9_64 y10_65 H_66 => m42_5 y0_60 y1_61 y2_62 y3_63 y9_64 y10_65 H_66 kn kx0 Q) kx0 Q)) tok xok mixed 1 (by kernel_rfl) (by kernel_rfl : qRZ _ _ = (qRZ [1,1,0,1,0,0,1] (qSZ Tryd.f42))) h
    (fun e H h => qUZ.join (by kernel_rfl : (qRZ [1,1,0,1,0,0,1] (qSZ Tryd.f42)) = .seq (qRZ [1,1,0,1,0,0,1,0] (qSZ Tryd.f42)) (qRZ [1,1,0,1,0,0,1,1] (qSZ Tryd.f42))) ((c42_6 e H (fun y0_67 y1_68 y2_69 y3_70 y9_71 y10_72 H_73 => m42_5 y0_67 y1_68 y2_69 y3_70 y9_71 y10_72 H_73 kn kx0 Q) kx0 Q h).mono (qPZ (fun e H h => c42_5 e H kn kx0 Q h) (fun _ _ _ h => h) (fun _ _ h => h) (fun _ _ h => h))))
theorem L42_3_round (x0 x1 x2 x3 x9 x10 : Value) (H : Heap) (kn : K1T) (Q : QT) (h : m42_4 x0 x1 x2 x3 x9 x10 H (fun y0 y1 y2 y3 y9 y10 H => L42_3 y0 y1 y2 y3 y9 y10 H kn Q) kn Q) : L42_3 x0 x1 x2 x3 x9 x10 H kn Q := by
  intro env h0 h1 h2 h3 h9 h10
  subst h0; subst h1; subst h2; subst h3; subst h9; subst h10
  exact RLoop.round ((c42_4 env H (fun y0 y1 y2 y3 y9 y10 H => L42_3 y0 y1 y2 y3 y9 y10 H kn Q) kn Q h).mono (qPZ (fun e H h => h e rfl rfl rfl rfl rfl rfl) (fun _ _ _ h => h) (fun _ _ h => h) (fun _ _ h => h)))
def m42_2 (x0 x1 x2 x3 x9 : Value) (H : Heap) (kn : K1T) (Q : QT) : Prop :=
L42_3 x0 x1 x2 x3 x9 (.int .i64 0) H kn Q
theorem c42_2 (env : Env) (H : Heap) (kn : K1T) (Q : QT) (h : m42_2 (env 0) (env 1) (env 2) (env 3) (env 9) H kn Q) :
    qUZ Tryd.prog 55 (qRZ [1,1,0] (qSZ Tryd.f42)) env H (mkK (fun e H => kn (e 9) H) (fun _ _ _ => False) (rKZ Tryd.f42 Q) (pKZ Q)) :=
  qUZ.prefix_ (T := T) (X := ext) (hint := hint42) (hole := (fun e H => L42_3 (e 0) (e 1) (e 2) (e 3) (e 9) (e 10) H kn Q)) tok xok mixed 1 (by kernel_rfl) (by kernel_rfl : qRZ _ _ = (qRZ [1,1,0,1] (qSZ Tryd.f42))) h
    (fun e H h => (cL42_3 e H kn Q h))
def m42 (x0 x1 x2 x3 : Value) (H : Heap) (Q : QT) : Prop :=
m42_2 x0 x1 x2 x3 (.slice none 0 0) H (fun u0 u1 => m42_1 u0 u1 Q) Q
theorem c42_0 (env : Env) (H : Heap) (Q : QT) (h : m42 (env 0) (env 1) (env 2) (env 3) H Q) :
    qUZ Tryd.prog 55 (qSZ Tryd.f42) env H (mkK (rKZ Tryd.f42 Q) (fun _ _ _ => False) (rKZ Tryd.f42 Q) (pKZ Q)) :=
  qUZ.prefix_ (T := T) (X := ext) (hint := hint42) (hole := (fun e H => m42_2 (e 0) (e 1) (e 2) (e 3) (e 9) H (fun y9_76 H_77 => m42_1 y9_76 H_77 Q) Q)) tok xok mixed 2 (by kernel_rfl) (by kernel_rfl : qRZ _ _ = (qRZ [1,1] (qSZ Tryd.f42))) h
    (fun e H h => qUZ.join (by kernel_rfl : (qRZ [1,1] (qSZ Tryd.f42)) = .seq (qRZ [1,1,0] (qSZ Tryd.f42)) (qRZ [1,1,1] (qSZ Tryd.f42))) ((c42_2 e H (fun y9_78 H_79 => m42_1 y9_78 H_79 Q) Q h).mono (qPZ (fun e H h => c42_1 e H Q h) (fun _ _ _ h => h) (fun _ _ h => h) (fun _ _ h => h))))
theorem call42 (a0 a1 a2 a3 : Value) (H : Heap) (Q : QT) (h : m42 a0 a1 a2 a3 H Q) : qVZ Tryd.prog 42 [a0, a1, a2, a3] H Q :=
  qVZ.intro (nt := 55) tok Tryd.func42 (by kernel_rfl) (by kernel_rfl) (by kernel_rfl) (of_decide_eq_true (by kernel_rfl)) (c42_0 (envOf [a0, a1, a2, a3]) H Q h)
def hint40 : Nat → List Nat := p5Z [(3, [0,1,2,3,4,5,6,7,8,9,10,11,12,13,14,15,16,17,18,19,20,21,22,23,24,25]), (4, [0,1,2,3,4,5,6,7,8]), (10, [1,2,3,4,5,6,7,8,10,12,13,14,15,16,17,18,19,0,9,11,20,21,22,23,24]), (16, [0,1,2,3,4,5,6,7,8,9,10])]
def m40_1 (x1 x2 x3 x5 x10 x12 x13 x16 x17 : Value) (H : Heap) (Q : QT) : Prop :=
oV (qYZ 5 x5) fun u0 =>
oV (qWZ ty27 u0 H) fun u1 =>
oV (vInt .sub x2 (.int .i64 1)) fun u2 =>
oV (p1Z 1 u1 u2) fun u3 =>
oV (qWZ ty52 u3 H) fun u4 =>
oV (vSlice 1 u4 none (some x13) none) fun u5 =>
oV (qYZ 5 x5) fun u6 =>
oV (qWZ ty27 u6 H) fun u7 =>
oV (vInt .sub x2 (.int .i64 1)) fun u8 =>
oV (p1Z 1 u7 u8) fun u9 =>
oV (qWZ ty52 u9 H) fun u10 =>
p3Z ty22 22 0 [] H fun u11 u12 =>
p4Z ty22 22 u11 u5 u12 fun u13 u14 =>
(qWZ ty52 u9 u14 = some u10 ∧
(qWZ ty27 u6 u14 = some u7 ∧
p4Z ty22 22 u13 x17 u14 fun u15 u16 =>
(qWZ ty52 u9 u16 = some u10 ∧
(qWZ ty27 u6 u16 = some u7 ∧
oRC Tryd.prog 73 [x12] u16 noP fun u17 u18 =>
(qWZ ty52 u9 u18 = some u10 ∧
(qWZ ty27 u6 u18 = some u7 ∧
oV (vInt .add x13 u17) fun u19 =>
oV (vSlice 1 u10 (some u19) none none) fun u20 =>
p4Z ty22 22 u15 u20 u18 fun u21 u22 =>
oV (qWZ ty29 x5 u22) fun u23 =>
oNew (Value.cells ty29.zero).toList (Value.cells ty29.zero).toList.length 29 u22 fun u24 u25 =>
oHeap (p2Z ty29 (qTZ u24) u23 u25) fun u26 =>
p3Z ty52 52 0 [] u26 fun u27 u28 =>
oV (qYZ 5 x5) fun u29 =>
oV (qWZ ty27 u29 u28) fun u30 =>
p4Z ty52 52 u27 u30 u28 fun u31 u32 =>
oV (qYZ 5 (qTZ u24)) fun u33 =>
oHeap (p2Z ty27 u33 u31 u32) fun u34 =>
oV (qYZ 5 (qTZ u24)) fun u35 =>
oV (qWZ ty27 u35 u34) fun u36 =>
oV (vInt .sub x2 (.int .i64 1)) fun u37 =>
oV (p1Z 1 u36 u37) fun u38 =>
oHeap (p2Z ty52 u38 u21 u34) fun u39 =>
p3Z ty27 27 0 [] u39 fun u40 u41 =>
p4Z ty27 27 u40 x1 u41 fun u42 u43 =>
oV (vInt .sub x2 (.int .i64 1)) fun u44 =>
p3Z ty52 52 0 [] u43 fun u45 u46 =>
oV (vInt .sub x2 (.int .i64 1)) fun u47 =>
oV (p1Z 1 x1 u47) fun u48 =>
oV (qWZ ty27 u48 u46) fun u49 =>
p4Z ty52 52 u45 u49 u46 fun u50 u51 =>
oV (p1Z 1 u42 u44) fun u52 =>
oHeap (p2Z ty27 u52 u50 u51) fun u53 =>
oV (vInt .sub x2 (.int .i64 1)) fun u54 =>
oV (p1Z 1 u42 u54) fun u55 =>
oV (qWZ ty27 u55 u53) fun u56 =>
oV (p1Z 1 x16 (.int .i64 0)) fun u57 =>
oV (qWZ ty52 u57 u53) fun u58 =>
oV (p1Z 1 u56 x3) fun u59 =>
oHeap (p2Z ty52 u59 u58 u53) fun u60 =>
oV (qWZ ty29 (qTZ u24) u60) fun u61 =>
oHeap (p2Z ty29 x10 u61 u60) fun u62 =>
retM ((qWZ ty29 x10 u62).bind fun v => ((some []).map (u42 :: ·)).map (v :: ·)) Q u62))))))
theorem c40_1 (env : Env) (H : Heap) (Q : QT) (h : m40_1 (env 1) (env 2) (env 3) (env 5) (env 10) (env 12) (env 13) (env 16) (env 17) H Q) :
    qUZ Tryd.prog 136 (qRZ [1,1,1,1,1,1,1] (qSZ Tryd.f40)) env H (mkK (rKZ Tryd.f40 Q) (fun _ _ _ => False) (rKZ Tryd.f40 Q) (pKZ Q)) :=
  qUZ.leaf_ (T := T) (X := ext) (hint := hint40) tok xok mixed (by kernel_rfl) h
def L40_3 (x1 x2 x3 x5 x10 x12 x13 x16 x17 x18 : Value) (H : Heap) (kn : K9T) (Q : QT) : Prop :=
  ∀ env : Env, env 1 = x1 → env 2 = x2 → env 3 = x3 → env 5 = x5 → env 10 = x10 → env 12 = x12 → env 13 = x13 → env 16 = x16 → env 17 = x17 → env 18 = x18 → RLoop Tryd.prog 136 (qRZ [1,1,1,1,1,1,0,1,0,0] (qSZ Tryd.f40)) env H (mkK (fun _ _ => False) (inK 0 (fun e H => kn (e 1) (e 2) (e 3) (e 5) (e 10) (e 12) (e 13) (e 16) (e 17) H) (fun _ _ _ => False)) (rKZ Tryd.f40 Q) (pKZ Q))
theorem cL40_3 (env : Env) (H : Heap) (kn : K9T) (Q : QT) (h : L40_3 (env 1) (env 2) (env 3) (env 5) (env 10) (env 12) (env 13) (env 16) (env 17) (env 18) H kn Q) :
    qUZ Tryd.prog 136 (qRZ [1,1,1,1,1,1,0,1] (qSZ Tryd.f40)) env H (mkK (fun e H => kn (e 1) (e 2) (e 3) (e 5) (e 10) (e 12) (e 13) (e 16) (e 17) H) (fun _ _ _ => False) (rKZ Tryd.f40 Q) (pKZ Q)) :=
  qUZ.blk (by kernel_rfl : (qRZ [1,1,1,1,1,1,0,1] (qSZ Tryd.f40)) = .block 0 (qRZ [1,1,1,1,1,1,0,1,0] (qSZ Tryd.f40))) (qUZ.lp (by kernel_rfl : (qRZ [1,1,1,1,1,1,0,1,0] (qSZ Tryd.f40)) = .loop (qRZ [1,1,1,1,1,1,0,1,0,0] (qSZ Tryd.f40))) ((h env rfl rfl rfl rfl rfl rfl rfl rfl rfl rfl).mono (qPZ (fun _ _ h => h.elim) (fun _ _ _ h => h) (fun _ _ h => h) (fun _ _ h => h))))
def m40_4 (x1 x2 x3 x5 x10 x12 x13 x16 x17 x18 : Value) (H : Heap) (kn : K10T) (kx0 : K9T) (Q : QT) : Prop :=
oV (vInt .leq x18 x12) fun u0 =>
p7Z u0 (
oV (p1Z 1 x16 x18) fun u1 =>
oV (qWZ ty52 u1 H) fun u2 =>
oV (vSlice 1 u2 (some x18) none none) fun u3 =>
p4Z ty22 22 x17 u3 H fun u4 u5 =>
oV (vInt .add x18 (.int .i64 1)) fun u6 =>
kn x1 x2 x3 x5 x10 x12 x13 x16 u4 u6 u5) (
kx0 x1 x2 x3 x5 x10 x12 x13 x16 x17 H)
theorem c40_4 (env : Env) (H : Heap) (kn : K10T) (kx0 : K9T) (Q : QT) (h : m40_4 (env 1) (env 2) (env 3) (env 5) (env 10) (env 12) (env 13) (env 16) (env 17) (env 18) H kn kx0 Q) :
    qUZ Tryd.prog 136 (qRZ [1,1,1,1,1,1,0,1,0,0] (qSZ Tryd.f40)) env H (mkK (fun e H => kn (e 1) (e 2) (e 3) (e 5) (e 10) (e 12) (e 13) (e 16) (e 17) (e 18) H) (inK 0 (fun e H => kx0 (e 1) (e 2) (e 3) (e 5) (e 10) (e 12) (e 13) (e 16) (e 17) H) (fun _ _ _ => False)) (rKZ Tryd.f40 Q) (pKZ Q)) :=
  qUZ.leaf_ (T := T) (X := ext) (hint := hint40) tok xok mixed (by kernel_rfl) h
theorem L40_3_round (x1 x2 x3 x5 x10 x12 x13 x16 x17 x18 : Value) (H : Heap) (kn : K9T) (Q : QT) (h : m40_4 x1 x2 x3 x5 x10 x12 x13 x16 x17 x18 H (fun y1 y2 y3 y5 y10 y12 y13 y16 y17 y18 H => L40_3 y1 y2 y3 y5 y10 y12 y13 y16 y17 y18 H kn Q) kn Q) : L40_3 x1 x2 x3 x5 x10 x12 x13 x16 x17 x18 H kn Q := by
  intro env h1 h2 h3 h5 h10 h12 h13 h16 h17 h18
  subst h1; subst h2; subst h3; subst h5; subst h10; subst h12; subst h13; subst h16; subst h17; subst h18
  exact RLoop.round ((c40_4 env H (fun y1 y2 y3 y5 y10 y12 y13 y16 y17 y18 H => L40_3 y1 y2 y3 y5 y10 y12 y13 y16 y17 y18 H kn Q) kn Q h).mono (qPZ (fun e H h => h e rfl rfl rfl rfl rfl rfl rfl rfl rfl rfl) (fun _ _ _ h => h) (fun _ _ h => h) (fun _ _ h => h)))
def m40_2 (x1 x2 x3 x5 x10 x12 x13 x16 x17 : Value) (H : Heap) (kn : K9T) (Q : QT) : Prop :=
L40_3 x1 x2 x3 x5 x10 x12 x13 x16 x17 (.int .i64 1) H kn Q
theorem c40_2 (env : Env) (H : Heap) (kn : K9T) (Q : QT) (h : m40_2 (env 1) (env 2) (env 3) (env 5) (env 10) (env 12) (env 13) (env 16) (env 17) H kn Q) :
    qUZ Tryd.prog 136 (qRZ [1,1,1,1,1,1,0] (qSZ Tryd.f40)) env H (mkK (fun e H => kn (e 1) (e 2) (e 3) (e 5) (e 10) (e 12) (e 13) (e 16) (e 17) H) (fun _ _ _ => False) (rKZ Tryd.f40 Q) (pKZ Q)) :=
  qUZ.prefix_ (T := T) (X := ext) (hint := hint40) (hole := (fun e H => L40_3 (e 1) (e 2) (e 3) (e 5) (e 10) (e 12) (e 13) (e 16) (e 17) (e 18) H kn Q)) tok xok mixed 1 (by kernel_rfl) (by kernel_rfl : qRZ _ _ = (qRZ [1,1,1,1,1,1,0,1] (qSZ Tryd.f40))) h
    (fun e H h => (cL40_3 e H kn Q h))
def m40 (x0 x1 x2 x3 x4 : Value) (H : Heap) (Q : QT) : Prop :=
oNew (Value.cells x0).toList (Value.cells x0).toList.length 29 H fun u0 u1 =>
oNew (Value.cells ty29.zero).toList (Value.cells ty29.zero).toList.length 29 u1 fun u2 u3 =>
oV (qYZ 0 (qTZ u0)) fun u4 =>
oV (qYZ 2 u4) fun u5 =>
oV (qWZ ty3 u5 u3) fun u6 =>
oRC Tryd.prog 73 [u6] u3 (pKZ Q) fun u7 u8 =>
oV (vInt .mul x3 u7) fun u9 =>
oV (vInt .sub x2 (.int .i64 1)) fun u10 =>
oV (p1Z 1 x1 u10) fun u11 =>
oV (qWZ ty27 u11 u8) fun u12 =>
oV (p1Z 1 u12 x3) fun u13 =>
oV (qWZ ty52 u13 u8) fun u14 =>
oV (qYZ 5 (qTZ u0)) fun u15 =>
oV (qWZ ty27 u15 u8) fun u16 =>
oV (vInt .sub x2 (.int .i64 1)) fun u17 =>
oV (p1Z 1 u16 u17) fun u18 =>
oV (qWZ ty52 u18 u8) fun u19 =>
oRC Tryd.prog 73 [u6] u8 noP fun u20 u21 =>
(qWZ ty52 u18 u21 = some u19 ∧
(qWZ ty27 u15 u21 = some u16 ∧
(qWZ ty52 u13 u21 = some u14 ∧
(qWZ ty27 u11 u21 = some u12 ∧
oV (vInt .add u9 u20) fun u22 =>
oV (vSlice 1 u19 (some u9) (some u22) none) fun u23 =>
oRC Tryd.prog 77 [u14, u23] u21 noP fun u24 u25 =>
oV (p0Z u24 0) fun u26 =>
oV (p0Z u24 1) fun u27 =>
oV (qYZ 0 (qTZ u0)) fun u28 =>
oV (qYZ 0 u28) fun u29 =>
oV (qWZ ty22 u29 u25) fun u30 =>
oV (qWZ ty29 (qTZ u0) u25) fun u31 =>
oRC Tryd.prog 43 [u31] u25 noP fun u32 u33 =>
(qWZ ty22 u29 u33 = some u30 ∧
oRC Tryd.prog 42 [u30, u26, x4, u32] u33 noP fun u34 u35 =>
m40_2 x1 x2 x3 (qTZ u0) (qTZ u2) u6 u9 u34 (.slice none 0 0) u35 (fun u36 u37 u38 u39 u40 u41 u42 u43 u44 u45 => m40_1 u36 u37 u38 u39 u40 u41 u42 u43 u44 u45 Q) Q)))))
theorem c40_0 (env : Env) (H : Heap) (Q : QT) (h : m40 (env 0) (env 1) (env 2) (env 3) (env 4) H Q) :
    qUZ Tryd.prog 136 (qSZ Tryd.f40) env H (mkK (rKZ Tryd.f40 Q) (fun _ _ _ => False) (rKZ Tryd.f40 Q) (pKZ Q)) :=
  qUZ.prefix_ (T := T) (X := ext) (hint := hint40) (hole := (fun e H => m40_2 (e 1) (e 2) (e 3) (e 5) (e 10) (e 12) (e 13) (e 16) (e 17) H (fun y1_117 y2_118 y3_119 y5_120 y10_121 y12_122 y13_123 y16_124 y17_125 H_126 => m40_1 y1_117 y2_118 y3_119 y5_120 y10_121 y12_122 y13_123 y16_124 y17_125 H_126 Q) Q)) tok xok mixed 6 (by kernel_rfl) (by kernel_rfl : qRZ _ _ = (qRZ [1,1,1,1,1,1] (qSZ Tryd.f40))) h
    (fun e H h => qUZ.join (by kernel_rfl : (qRZ [1,1,1,1,1,1] (qSZ Tryd.f40)) = .seq (qRZ [1,1,1,1,1,1,0] (qSZ Tryd.f40)) (qRZ [1,1,1,1,1,1,1] (qSZ Tryd.f40))) ((c40_2 e H (fun y1_127 y2_128 y3_129 y5_130 y10_131 y12_132 y13_133 y16_134 y17_135 H_136 => m40_1 y1_127 y2_128 y3_129 y5_130 y10_131 y12_132 y13_133 y16_134 y17_135 H_136 Q) Q h).mono (qPZ (fun e H h => c40_1 e H Q h) (fun _ _ _ h => h) (fun _ _ h => h) (fun _ _ h => h))))
theorem call40 (a0 a1 a2 a3 a4 : Value) (H : Heap) (Q : QT) (h : m40 a0 a1 a2 a3 a4 H Q) : qVZ Tryd.prog 40 [a0, a1, a2, a3, a4] H Q :=
  qVZ.intro (nt := 136) tok Tryd.func40 (by kernel_rfl) (by kernel_rfl) (by kernel_rfl) (of_decide_eq_true (by kernel_rfl)) (c40_0 (envOf [a0, a1, a2, a3, a4]) H Q h)
end

section
set_option maxRecDepth 100000
open Go
def m8_1 (H : Heap) (Q : QT) : Prop :=
Q (.returned (.bool true)) H
def L8_3 (x2 x3 x7 x8 x9 x12 x15 x18 : Value) (H : Heap) (kn : K0T) (Q : QT) : Prop :=
  ∀ env : Env, env 2 = x2 → env 3 = x3 → env 7 = x7 → env 8 = x8 → env 9 = x9 → env 12 = x12 → env 15 = x15 → env 18 = x18 → RLoop Tryd.prog 175 (qRZ [1,1,1,1,1,1,1,1,1,1,1,0,1,0,0] (qSZ Tryd.f8)) env H (mkK (fun _ _ => False) (inK 0 (fun e H => kn H) (fun _ _ _ => False)) (rKZ Tryd.f8 Q) (pKZ Q))
def m8_2 (x2 x3 x7 x8 x9 x12 x15 : Value) (H : Heap) (kn : K0T) (Q : QT) : Prop :=
L8_3 x2 x3 x7 x8 x9 x12 x15 (.int .i64 0) H kn Q
def m8 (x0 x1 x2 : Value) (H : Heap) (Q : QT) : Prop :=
oNew (Value.cells x0).toList (Value.cells x0).toList.length 67 H fun u0 u1 =>
oNew (Value.cells x1).toList (Value.cells x1).toList.length 79 u1 fun u2 u3 =>
oRC Tryd.prog 32 [] u3 (pKZ Q) fun u4 u5 =>
oV (vUn .not u4) fun u6 =>
p7Z u6 (
Q (.returned (.bool false)) u5) (
oV (qYZ 0 (qTZ u0)) fun u7 =>
oV (qWZ ty29 u7 u5) fun u8 =>
oV (qYZ 6 (qTZ u0)) fun u9 =>
oV (qWZ ty44 u9 u5) fun u10 =>
oRC Tryd.prog 33 [u8, u10, (.int .i64 3)] u5 (pKZ Q) fun u11 u12 =>
oV (vUn .not u11) fun u13 =>
p7Z u13 (
Q (.returned (.bool true)) u12) (
oV (qYZ 0 (qTZ u0)) fun u14 =>
oV (qWZ ty29 u14 u12) fun u15 =>
oNew (Value.cells ty29.zero).toList (Value.cells ty29.zero).toList.length 29 u12 fun u16 u17 =>
oHeap (p2Z ty29 (qTZ u16) u15 u17) fun u18 =>
oV (vIdxA 2 1 (qTZ u2) (.int .i64 0)) fun u19 =>
oV (qWZ ty5 u19 u18) fun u20 =>
oV (vConv (.int .i64) u20) fun u21 =>
oV (qYZ 0 (qTZ u16)) fun u22 =>
oV (qYZ 1 u22) fun u23 =>
oV (qWZ ty3 u23 u18) fun u24 =>
oV (vInt .rem u21 u24) fun u25 =>
oV (vInt .add (.int .i64 1) u25) fun u26 =>
oV (qWZ ty29 (qTZ u16) u18) fun u27 =>
oRC Tryd.prog 36 [u27, u26] u18 (pKZ Q) fun u28 u29 =>
oV (vUn .not u28) fun u30 =>
oV (gV u30 false (qYZ 6 (qTZ u0)) (some undef)) fun u31 =>
oV (gV u30 false (qWZ ty44 u31 u29) (some undef)) fun u32 =>
oV (gV u30 false (some u26) (some undef)) fun u33 =>
oV (gV u30 false (vInt .sub u33 (.int .i64 1)) (some undef)) fun u34 =>
oV (gV u30 false (p1Z 1 u32 u34) (some undef)) fun u35 =>
oV (gV u30 false (qWZ ty27 u35 u29) (some undef)) fun u36 =>
oV (gV u30 false (vLen u36) (some undef)) fun u37 =>
oV (gV u30 false (vInt .eql u37 (.int .i64 0)) (some undef)) fun u38 =>
oV (pAZ u30 (.bool true) u38) fun u39 =>
p7Z u39 (
Q (.returned (.bool true)) u29) (
oV (vIdxA 2 1 (qTZ u2) (.int .i64 1)) fun u40 =>
oV (qWZ ty5 u40 u29) fun u41 =>
oV (vConv (.int .i64) u41) fun u42 =>
oV (qYZ 6 (qTZ u0)) fun u43 =>
oV (qWZ ty44 u43 u29) fun u44 =>
oV (vInt .sub u26 (.int .i64 1)) fun u45 =>
oV (p1Z 1 u44 u45) fun u46 =>
oV (qWZ ty27 u46 u29) fun u47 =>
oV (vLen u47) fun u48 =>
oV (vInt .rem u42 u48) fun u49 =>
oV (qWZ ty29 (qTZ u16) u29) fun u50 =>
oV (qYZ 6 (qTZ u0)) fun u51 =>
oV (qWZ ty44 u51 u29) fun u52 =>
oV (qYZ 0 (qTZ u16)) fun u53 =>
oV (qYZ 0 u53) fun u54 =>
oV (qWZ ty22 u54 u29) fun u55 =>
oV (vInt .rem x2 u55) fun u56 =>
oRC Tryd.prog 40 [u50, u52, u26, u49, u56] u29 noP fun u57 u58 =>
oV (p0Z u57 0) fun u59 =>
oV (p0Z u57 1) fun u60 =>
oNew (Value.cells ty29.zero).toList (Value.cells ty29.zero).toList.length 29 u58 fun u61 u62 =>
oHeap (p2Z ty29 (qTZ u61) u59 u62) fun u63 =>
oV (qWZ ty67 (qTZ u0) u63) fun u64 =>
oRC Tryd.prog 34 [u64] u63 (pKZ Q) fun u65 u66 =>
oV (p0Z u65 0) fun u67 =>
oV (p0Z u65 1) fun u68 =>
oV (p0Z u65 2) fun u69 =>
oNew (Value.cells ty71.zero).toList (Value.cells ty71.zero).toList.length 71 u66 fun u70 u71 =>
oHeap (p2Z ty71 (qTZ u70) u67 u71) fun u72 =>
oV (qWZ ty29 (qTZ u61) u72) fun u73 =>
oV (vBuild ty67 [((0,6), u73), ((6,1), u60)]) fun u74 =>
oRC Tryd.prog 34 [u74] u72 (pKZ Q) fun u75 u76 =>
oV (p0Z u75 0) fun u77 =>
oV (p0Z u75 1) fun u78 =>
oV (p0Z u75 2) fun u79 =>
oNew (Value.cells ty71.zero).toList (Value.cells ty71.zero).toList.length 71 u76 fun u80 u81 =>
oHeap (p2Z ty71 (qTZ u80) u77 u81) fun u82 =>
oV (vUn .not u69) fun u83 =>
oV (gV u83 false (some u79) (some undef)) fun u84 =>
oV (gV u83 false (vUn .not u84) (some undef)) fun u85 =>
oV (pAZ u83 (.bool true) u85) fun u86 =>
oV (gV u86 false (qWZ ty67 (qTZ u0) u82) (some undef)) fun u87 =>
oV (gV u86 false (qWZ ty71 (qTZ u70) u82) (some undef)) fun u88 =>
letK (fun u89 u90 =>
oV (gV u86 false (vUn .not u89) (some undef)) fun u91 =>
oV (pAZ u86 (.bool true) u91) fun u92 =>
oV (gV u92 false (qWZ ty67 (qTZ u0) u90) (some undef)) fun u93 =>
oV (gV u92 false (qWZ ty71 (qTZ u80) u90) (some undef)) fun u94 =>
letK (fun u95 u96 =>
oV (gV u92 false (vUn .not u95) (some undef)) fun u97 =>
oV (pAZ u92 (.bool true) u97) fun u98 =>
oV (gV u98 false (qYZ 2 (qTZ u70)) (some undef)) fun u99 =>
oV (gV u98 false (qWZ ty44 u99 u96) (some undef)) fun u100 =>
oV (gV u98 false (qYZ 2 (qTZ u80)) (some undef)) fun u101 =>
oV (gV u98 false (qWZ ty44 u101 u96) (some undef)) fun u102 =>
letK (fun u103 u104 =>
oV (gV u98 false (vUn .not u103) (some undef)) fun u105 =>
oV (pAZ u98 (.bool true) u105) fun u106 =>
p7Z u106 (
Q (.returned (.bool false)) u104) (
m8_2 x2 (qTZ u0) (qTZ u16) u26 u49 (qTZ u70) (qTZ u80) u104 (fun u107 => m8_1 u107 Q) Q)) fun u108 => gK u98 false (oRC Tryd.prog 41 [u100, u102] u96 (pKZ Q) fun u109 u110 =>
u108 u109 u110) (u108 undef u96)) fun u111 => gK u92 false (oRC Tryd.prog 35 [u93, u94] u90 (pKZ Q) fun u112 u113 =>
u111 u112 u113) (u111 undef u90)) fun u114 => gK u86 false (oRC Tryd.prog 35 [u87, u88] u82 (pKZ Q) fun u115 u116 =>
u114 u115 u116) (u114 undef u82))))
def hint9 : Nat → List Nat := p5Z [(9, [0,1,2,3,4,5,6,7,8,9,10,11,12,13,14,15,16,17,18,19,20,21,22,23,24,25,26]), (17, [0,1,2,3,4,5,7,8,9,10,11,12,6,13,14,15])]
def m9_1 (H : Heap) (Q : QT) : Prop :=
Q (.returned (.bool true)) H
theorem c9_1 (env : Env) (H : Heap) (Q : QT) (h : m9_1 H Q) :
    qUZ Tryd.prog 117 (qRZ [1,1,1,1,1,1,1,1,1,1,1] (qSZ Tryd.f9)) env H (mkK (rKZ Tryd.f9 Q) (fun _ _ _ => False) (rKZ Tryd.f9 Q) (pKZ Q)) :=
  qUZ.leaf_ (T := T) (X := ext) (hint := hint9) tok xok mixed (by kernel_rfl) h
def L9_3 (x7 x12 x15 x17 : Value) (H : Heap) (kn : K0T) (Q : QT) : Prop :=
  ∀ env : Env, env 7 = x7 → env 12 = x12 → env 15 = x15 → env 17 = x17 → RLoop Tryd.prog 117 (qRZ [1,1,1,1,1,1,1,1,1,1,0,1,0,0] (qSZ Tryd.f9)) env H (mkK (fun _ _ => False) (inK 0 (fun e H => kn H) (fun _ _ _ => False)) (rKZ Tryd.f9 Q) (pKZ Q))
theorem cL9_3 (env : Env) (H : Heap) (kn : K0T) (Q : QT) (h : L9_3 (env 7) (env 12) (env 15) (env 17) H kn Q) :
    qUZ Tryd.prog 117 (qRZ [1,1,1,1,1,1,1,1,1,1,0,1] (qSZ Tryd.f9)) env H (mkK (fun e H => kn H) (fun _ _ _ => False) (rKZ Tryd.f9 Q) (pKZ Q)) :=
  qUZ.blk (by kernel_rfl : (qRZ [1,1,1,1,1,1,1,1,1,1,0,1] (qSZ Tryd.f9)) = .block 0 (qRZ [1,1,1,1,1,1,1,1,1,1,0,1,0] (qSZ Tryd.f9))) (qUZ.lp (by kernel_rfl : (qRZ [1,1,1,1,1,1,1,1,1,1,0,1,0] (qSZ Tryd.f9)) = .loop (qRZ [1,1,1,1,1,1,1,1,1,1,0,1,0,0] (qSZ Tryd.f9))) ((h env rfl rfl rfl rfl).mono (qPZ (fun _ _ h => h.elim) (fun _ _ _ h => h) (fun _ _ h => h) (fun _ _ h => h))))
def m9_4 (x7 x12 x15 x17 : Value) (H : Heap) (kn : K4T) (kx0 : K0T) (Q : QT) : Prop :=
oV (qYZ 3 x7) fun u0 =>
oV (qWZ ty25 u0 H) fun u1 =>
oV (vLen u1) fun u2 =>
oV (vInt .lss x17 u2) fun u3 =>
p7Z u3 (
oV (qYZ 3 x7) fun u4 =>
oV (qWZ ty25 u4 H) fun u5 =>
oV (p1Z 1 u5 x17) fun u6 =>
oV (qWZ ty3 u6 H) fun u7 =>
oV (qYZ 3 x7) fun u8 =>
oV (qWZ ty25 u8 H) fun u9 =>
oV (p1Z 1 u9 x17) fun u10 =>
oV (qWZ ty3 u10 H) fun u11 =>
oRC Tryd.prog 17 [x12, u7] H noP fun u12 u13 =>
(qWZ ty3 u10 u13 = some u11 ∧
(qWZ ty25 u8 u13 = some u9 ∧
oRC Tryd.prog 17 [x15, u11] u13 noP fun u14 u15 =>
oRC Tryd.prog 16 [u12, u14] u15 noP fun u16 u17 =>
oV (vUn .not u16) fun u18 =>
p7Z u18 (
Q (.returned (.bool false)) u17) (
oV (vInt .add x17 (.int .i64 1)) fun u19 =>
kn x7 x12 x15 u19 u17)))) (
kx0 H)
theorem c9_4 (env : Env) (H : Heap) (kn : K4T) (kx0 : K0T) (Q : QT) (h : m9_4 (env 7) (env 12) (env 15) (env 17) H kn kx0 Q) :
    qUZ Tryd.prog 117 (qRZ [1,1,1,1,1,1,1,1,1,1,0,1,0,0] (qSZ Tryd.f9)) env H (mkK (fun e H => kn (e 7) (e 12) (e 15) (e 17) H) (inK 0 (fun e H => kx0 H) (fun _ _ _ => False)) (rKZ Tryd.f9 Q) (pKZ Q)) :=
  qUZ.leaf_ (T := T) (X := ext) (hint := hint9) tok xok mixed (by kernel_rfl) h
theorem L9_3_round (x7 x12 x15 x17 : Value) (H : Heap) (kn : K0T) (Q : QT) (h : m9_4 x7 x12 x15 x17 H (fun y7 y12 y15 y17 H => L9_3 y7 y12 y15 y17 H kn Q) kn Q) : L9_3 x7 x12 x15 x17 H kn Q := by
  intro env h7 h12 h15 h17
  subst h7; subst h12; subst h15; subst h17
  exact RLoop.round ((c9_4 env H (fun y7 y12 y15 y17 H => L9_3 y7 y12 y15 y17 H kn Q) kn Q h).mono (qPZ (fun e H h => h e rfl rfl rfl rfl) (fun _ _ _ h => h) (fun _ _ h => h) (fun _ _ h => h)))
def m9_2 (x7 x12 x15 : Value) (H : Heap) (kn : K0T) (Q : QT) : Prop :=
L9_3 x7 x12 x15 (.int .i64 0) H kn Q
theorem c9_2 (env : Env) (H : Heap) (kn : K0T) (Q : QT) (h : m9_2 (env 7) (env 12) (env 15) H kn Q) :
    qUZ Tryd.prog 117 (qRZ [1,1,1,1,1,1,1,1,1,1,0] (qSZ Tryd.f9)) env H (mkK (fun e H => kn H) (fun _ _ _ => False) (rKZ Tryd.f9 Q) (pKZ Q)) :=
  qUZ.prefix_ (T := T) (X := ext) (hint := hint9) (hole := (fun e H => L9_3 (e 7) (e 12) (e 15) (e 17) H kn Q)) tok xok mixed 1 (by kernel_rfl) (by kernel_rfl : qRZ _ _ = (qRZ [1,1,1,1,1,1,1,1,1,1,0,1] (qSZ Tryd.f9))) h
    (fun e H h => (cL9_3 e H kn Q h))
def m9 (x0 x1 x2 : Value) (H : Heap) (Q : QT) : Prop :=
oNew (Value.cells x0).toList (Value.cells x0).toList.length 67 H fun u0 u1 =>
oNew (Value.cells x1).toList (Value.cells x1).toList.length 79 u1 fun u2 u3 =>
oRC Tryd.prog 32 [] u3 (pKZ Q) fun u4 u5 =>
oV (vUn .not u4) fun u6 =>
p7Z u6 (
Q (.returned (.bool false)) u5) (
oV (qYZ 0 (qTZ u0)) fun u7 =>
oV (qWZ ty29 u7 u5) fun u8 =>
oV (qYZ 6 (qTZ u0)) fun u9 =>
oV (qWZ ty44 u9 u5) fun u10 =>
oRC Tryd.prog 33 [u8, u10, (.int .i64 3)] u5 (pKZ Q) fun u11 u12 =>
oV (vUn .not u11) fun u13 =>
p7Z u13 (
Q (.returned (.bool true)) u12) (
oV (qYZ 0 (qTZ u0)) fun u14 =>
oV (qWZ ty29 u14 u12) fun u15 =>
oNew (Value.cells ty29.zero).toList (Value.cells ty29.zero).toList.length 29 u12 fun u16 u17 =>
oHeap (p2Z ty29 (qTZ u16) u15 u17) fun u18 =>
oV (vIdxA 2 1 (qTZ u2) (.int .i64 0)) fun u19 =>
oV (qWZ ty5 u19 u18) fun u20 =>
oV (vConv (.int .i64) u20) fun u21 =>
oV (qYZ 0 (qTZ u16)) fun u22 =>
oV (qYZ 1 u22) fun u23 =>
oV (qWZ ty3 u23 u18) fun u24 =>
oV (vInt .rem u21 u24) fun u25 =>
oV (vInt .add (.int .i64 1) u25) fun u26 =>
oV (qWZ ty29 (qTZ u16) u18) fun u27 =>
oRC Tryd.prog 36 [u27, u26] u18 (pKZ Q) fun u28 u29 =>
oV (vUn .not u28) fun u30 =>
oV (gV u30 false (qYZ 6 (qTZ u0)) (some undef)) fun u31 =>
oV (gV u30 false (qWZ ty44 u31 u29) (some undef)) fun u32 =>
oV (gV u30 false (some u26) (some undef)) fun u33 =>
oV (gV u30 false (vInt .sub u33 (.int .i64 1)) (some undef)) fun u34 =>
oV (gV u30 false (p1Z 1 u32 u34) (some undef)) fun u35 =>
oV (gV u30 false (qWZ ty27 u35 u29) (some undef)) fun u36 =>
oV (gV u30 false (vLen u36) (some undef)) fun u37 =>
oV (gV u30 false (vInt .eql u37 (.int .i64 0)) (some undef)) fun u38 =>
oV (pAZ u30 (.bool true) u38) fun u39 =>
p7Z u39 (
Q (.returned (.bool true)) u29) (
oV (qWZ ty29 (qTZ u16) u29) fun u40 =>
oV (qYZ 6 (qTZ u0)) fun u41 =>
oV (qWZ ty44 u41 u29) fun u42 =>
oV (vIdxA 2 1 (qTZ u2) (.int .i64 1)) fun u43 =>
oV (qWZ ty5 u43 u29) fun u44 =>
oV (vConv (.int .i64) u44) fun u45 =>
oV (qYZ 6 (qTZ u0)) fun u46 =>
oV (qWZ ty44 u46 u29) fun u47 =>
oV (vInt .sub u26 (.int .i64 1)) fun u48 =>
oV (p1Z 1 u47 u48) fun u49 =>
oV (qWZ ty27 u49 u29) fun u50 =>
oV (vLen u50) fun u51 =>
oV (vInt .rem u45 u51) fun u52 =>
oV (qYZ 0 (qTZ u16)) fun u53 =>
oV (qYZ 0 u53) fun u54 =>
oV (qWZ ty22 u54 u29) fun u55 =>
oV (vInt .rem x2 u55) fun u56 =>
oRC Tryd.prog 40 [u40, u42, u26, u52, u56] u29 noP fun u57 u58 =>
oV (p0Z u57 0) fun u59 =>
oV (p0Z u57 1) fun u60 =>
oNew (Value.cells ty29.zero).toList (Value.cells ty29.zero).toList.length 29 u58 fun u61 u62 =>
oHeap (p2Z ty29 (qTZ u61) u59 u62) fun u63 =>
oV (qWZ ty67 (qTZ u0) u63) fun u64 =>
oRC Tryd.prog 34 [u64] u63 (pKZ Q) fun u65 u66 =>
oV (p0Z u65 0) fun u67 =>
oV (p0Z u65 1) fun u68 =>
oV (p0Z u65 2) fun u69 =>
oNew (Value.cells ty71.zero).toList (Value.cells ty71.zero).toList.length 71 u66 fun u70 u71 =>
oHeap (p2Z ty71 (qTZ u70) u67 u71) fun u72 =>
oV (qWZ ty29 (qTZ u61) u72) fun u73 =>
oV (vBuild ty67 [((0,6), u73), ((6,1), u60)]) fun u74 =>
oRC Tryd.prog 34 [u74] u72 (pKZ Q) fun u75 u76 =>
oV (p0Z u75 0) fun u77 =>
oV (p0Z u75 1) fun u78 =>
oV (p0Z u75 2) fun u79 =>
oNew (Value.cells ty71.zero).toList (Value.cells ty71.zero).toList.length 71 u76 fun u80 u81 =>
oHeap (p2Z ty71 (qTZ u80) u77 u81) fun u82 =>
oV (vUn .not u69) fun u83 =>
oV (gV u83 false (some u79) (some undef)) fun u84 =>
oV (gV u83 false (vUn .not u84) (some undef)) fun u85 =>
oV (pAZ u83 (.bool true) u85) fun u86 =>
p7Z u86 (
Q (.returned (.bool false)) u82) (
m9_2 (qTZ u16) u68 u78 u82 (fun u87 => m9_1 u87 Q) Q))))
theorem c9_0 (env : Env) (H : Heap) (Q : QT) (h : m9 (env 0) (env 1) (env 2) H Q) :
    qUZ Tryd.prog 117 (qSZ Tryd.f9) env H (mkK (rKZ Tryd.f9 Q) (fun _ _ _ => False) (rKZ Tryd.f9 Q) (pKZ Q)) :=
  qUZ.prefix_ (T := T) (X := ext) (hint := hint9) (hole := (fun e H => m9_2 (e 7) (e 12) (e 15) H (fun H_109 => m9_1 H_109 Q) Q)) tok xok mixed 10 (by kernel_rfl) (by kernel_rfl : qRZ _ _ = (qRZ [1,1,1,1,1,1,1,1,1,1] (qSZ Tryd.f9))) h
    (fun e H h => qUZ.join (by kernel_rfl : (qRZ [1,1,1,1,1,1,1,1,1,1] (qSZ Tryd.f9)) = .seq (qRZ [1,1,1,1,1,1,1,1,1,1,0] (qSZ Tryd.f9)) (qRZ [1,1,1,1,1,1,1,1,1,1,1] (qSZ Tryd.f9))) ((c9_2 e H (fun H_110 => m9_1 H_110 Q) Q h).mono (qPZ (fun e H h => c9_1 e H Q h) (fun _ _ _ h => h) (fun _ _ h => h) (fun _ _ h => h))))
theorem call9 (a0 a1 a2 : Value) (H : Heap) (Q : QT) (h : m9 a0 a1 a2 H Q) : qVZ Tryd.prog 9 [a0, a1, a2] H Q :=
  qVZ.intro (nt := 117) tok Tryd.func9 (by kernel_rfl) (by kernel_rfl) (by kernel_rfl) (of_decide_eq_true (by kernel_rfl)) (c9_0 (envOf [a0, a1, a2]) H Q h)
end

end Go.Proofs.YtchhpagkdaaglaaDoor.SL
