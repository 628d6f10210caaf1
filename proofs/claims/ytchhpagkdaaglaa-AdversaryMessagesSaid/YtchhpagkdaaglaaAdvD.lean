/- What the law lets in: the walks of the reference's checks. -/
import Derived.Test.YtchhpagkdaaglaaAdvC
set_option linter.unusedVariables false
set_option linter.unusedSimpArgs false
namespace Go.Proofs.Ytchhpagkdaaglaa.SL
open Go

/-- It gives a bool; if it gives true, then P. -/
def Sound (P : Prop) (H : Heap) : Ending → Heap → Prop := Ret fun v H' => Le H H' ∧ ∃ b : Bool, v = .bool b ∧ (b = true → P)
theorem sound_false {P : Prop} {H H' : Heap} (hl : Le H H') : Sound P H (.returned (.bool false)) H' := ⟨hl, false, rfl, fun h => by cases h⟩
theorem sound_true {P : Prop} {H H' : Heap} (hl : Le H H') (h : P) : Sound P H (.returned (.bool true)) H' := ⟨hl, true, rfl, fun _ => h⟩
/-! ### Below -/
theorem below_loop {H : Heap} {p : Int} {v : Value} {ws : List Int} (hv : Sl (eInt .u64) H v ws) {kn : Heap → Prop} {Q : Ending → Heap → Prop} (hk : kn H) (hq : Q (.returned (.bool false)) H) :
    ∀ (d i : Nat), ws.length - i = d → i ≤ ws.length → L25_3 (.int .u64 p) v (.int .i64 i) H kn Q := by
  have hm := hv.max
  intro d
  induction d with
  | zero =>
    intro i hd hi
    apply L25_3_round
    unfold m25_4
    exact oV_eq hv.len (oV_eq (vInt_lss _ _ _) (condK_dec (fun hlt => absurd hlt (by omega)) (fun _ => hk)))
  | succ d ih =>
    intro i hd hi
    apply L25_3_round
    unfold m25_4
    refine oV_eq hv.len (oV_eq (vInt_lss _ _ _) (condK_dec (fun hlt => ?_) (fun hlt => absurd (by omega) hlt)))
    obtain ⟨q, f1, f2⟩ := hv.int .i64 (i := (i : Int)) (by omega) (by omega) (ti := ty22) rfl
    refine oV_eq f1 (oV_eq f2 (oV_eq (vInt_geq _ _ _) (condK_dec (fun _ => hq) (fun _ => oV_eq (vInt_add _ _ _) ?_))))
    rw [wrap_i64 (by omega) (by omega)]
    exact ih (i + 1) (by omega) (by omega)
theorem below_spec {H : Heap} {p : Int} {v : Value} {ws : List Int} (hv : Sl (eInt .u64) H v ws) : RCalls Try.prog 25 [.int .u64 p, v] H (Sound True H) := by
  apply call25
  unfold m25 m25_2
  refine below_loop (p := p) hv ?_ (sound_false (Le.refl _)) _ 0 rfl (by omega)
  unfold m25_1
  exact sound_true (Le.refl _) trivial
/-! ### Parameters -/
structure PAt (H : Heap) (i : Nat) (s : Scn) : Prop where
  blk : H i = some (.cells [.int .u64 s.P, .int .i64 s.N, .int .i64 s.T] 3 24 true)
section
variable {H G : Heap} {i : Nat} {s : Scn}
theorem PAt.mono (h : PAt H i s) (hl : Le H G) : PAt G i s := ⟨hl _ _ h.blk⟩
theorem PAt.p (h : PAt H i s) : vLoad ty22 (.pointer (some ⟨i, 0, none⟩)) H = some (.int .u64 s.P) := by simp only [vLoad, h.blk]; rfl
theorem PAt.n (h : PAt H i s) : vLoad ty3 (.pointer (some ⟨i, 1, none⟩)) H = some (.int .i64 s.N) := by simp only [vLoad, h.blk]; rfl
theorem PAt.t (h : PAt H i s) : vLoad ty3 (.pointer (some ⟨i, 2, none⟩)) H = some (.int .i64 s.T) := by simp only [vLoad, h.blk]; rfl
theorem PAt.all (h : PAt H i s) : vLoad ty24 (ptrTo i) H = some (parVal s) := by simp only [vLoad, ptrTo, h.blk]; rfl
theorem par_new {k : Nat → Heap → Prop} (s : Scn) (hk : ∀ i H', Le H H' → PAt H' i s → k i H') : oNew (parVal s).cells.toList (parVal s).cells.toList.length 24 H k := by
  show oNew [.int .u64 s.P, .int .i64 s.N, .int .i64 s.T] 3 24 H _
  intro i hi
  exact hk i _ (Le.ins _ hi) ⟨hins_self _ _ _⟩
theorem valid_spec (H : Heap) (s : Scn) : RCalls Try.prog 22 [parVal s] H (Sound (Supp s.P ∧ 4 ≤ s.N ∧ s.N ≤ 13) H) := by
  apply call22
  unfold m22
  refine par_new s fun i H1 l1 hs => ?_
  refine oV_eq (vField_to _ _) (oV_eq hs.p (oRC_grow (supported_spec H1 s.P) fun H2 l2 => ?_))
  replace hs := hs.mono l2
  have l := l1.trans l2
  by_cases hp : Supp s.P
  case neg =>
    rw [decide_eq_false hp]
    exact sound_false l
  rw [decide_eq_true hp]

  refine oV_eq (v := .pointer (some ⟨i, 1, none⟩)) rfl (oV_eq (v := .int .i64 s.N) hs.n (oV_eq (v := .bool (decide (4 ≤ s.N))) (vInt_geq .i64 s.N 4) (oV_eq (v := .bool (decide (4 ≤ s.N))) rfl ?_)))
  by_cases c1 : 4 ≤ s.N
  case neg =>
    rw [decide_eq_false c1]
    exact sound_false l
  rw [decide_eq_true c1]
  refine oV_eq (v := .pointer (some ⟨i, 1, none⟩)) rfl (oV_eq (v := .int .i64 s.N) hs.n (oV_eq (v := .bool (decide (s.N ≤ 13))) (vInt_leq .i64 s.N 13) (oV_eq (v := .bool (decide (s.N ≤ 13))) rfl ?_)))
  by_cases c2 : s.N ≤ 13
  case neg =>
    rw [decide_eq_false c2]
    exact sound_false l
  rw [decide_eq_true c2]
  refine oV_eq (v := .pointer (some ⟨i, 1, none⟩)) rfl (oV_eq (v := .int .i64 s.N) hs.n (oV_eq (v := .int .u64 (IntKind.u64.wrap s.N)) (vConv_int .u64 .i64 s.N) (oV_eq (v := .pointer (some ⟨i, 0, none⟩)) rfl (oV_eq (v := .int .u64 s.P) hs.p (oV_eq (v := .bool (decide (IntKind.u64.wrap s.N < s.P))) (vInt_lss .u64 (IntKind.u64.wrap s.N) s.P) (oV_eq (v := .bool (decide (IntKind.u64.wrap s.N < s.P))) rfl ?_))))))
  by_cases c3 : IntKind.u64.wrap s.N < s.P
  case neg =>
    rw [decide_eq_false c3]
    exact sound_false l
  rw [decide_eq_true c3]
  refine oV_eq (v := .pointer (some ⟨i, 2, none⟩)) rfl (oV_eq (v := .int .i64 s.T) hs.t (oV_eq (v := .bool (decide (1 ≤ s.T))) (vInt_geq .i64 s.T 1) (oV_eq (v := .bool (decide (1 ≤ s.T))) rfl ?_)))
  by_cases c4 : 1 ≤ s.T
  case neg =>
    rw [decide_eq_false c4]
    exact sound_false l
  rw [decide_eq_true c4]
  refine oV_eq (v := .pointer (some ⟨i, 2, none⟩)) rfl (oV_eq (v := .int .i64 s.T) hs.t (oV_eq (v := .pointer (some ⟨i, 1, none⟩)) rfl (oV_eq (v := .int .i64 s.N) hs.n (oV_eq (v := .bool (decide (s.T < s.N))) (vInt_lss .i64 s.T s.N) (oV_eq (v := .bool (decide (s.T < s.N))) rfl ?_)))))
  by_cases c5 : s.T < s.N
  case neg =>
    rw [decide_eq_false c5]
    exact sound_false l
  rw [decide_eq_true c5]
  refine oV_eq (v := .pointer (some ⟨i, 2, none⟩)) rfl (oV_eq (v := .int .i64 s.T) hs.t (oV_eq (v := .int .i64 (IntKind.i64.wrap (3 * s.T))) (vInt_mul .i64 3 s.T) (oV_eq (v := .pointer (some ⟨i, 1, none⟩)) rfl (oV_eq (v := .int .i64 s.N) hs.n (oV_eq (v := .bool (decide (IntKind.i64.wrap (3 * s.T) < s.N))) (vInt_lss .i64 (IntKind.i64.wrap (3 * s.T)) s.N) (oV_eq (v := .bool (decide (IntKind.i64.wrap (3 * s.T) < s.N))) rfl ?_))))))
  exact ⟨l, _, rfl, fun _ => ⟨hp, c1, c2⟩⟩
theorem dev_spec (H : Heap) (s : Scn) (d : Dev) (hk0 : 0 ≤ d.k) (hk1 : d.k ≤ 18446744073709551615) : RCalls Try.prog 24 [parVal s, d.val] H (Sound (DevOk s.N d) H) := by
  apply call24
  unfold m24
  refine par_new s fun i1 H1 l1 hs1 => ?_
  refine dev_new d fun i2 H2 l2 hd => ?_
  have hs := hs1.mono l2
  have l := l1.trans l2
  refine oV_eq (vField_to _ _) (oV_eq hd.l0 (oV_eq (vInt_geq _ _ _) ?_))
  by_cases c0 : 0 ≤ d.rd
  case neg =>
    rw [decide_eq_false c0]
    exact sound_false l
  rw [decide_eq_true c0]
  refine oV_eq (v := .pointer (some ⟨i2, 3, none⟩)) rfl (oV_eq (v := .int .i64 d.at_) hd.l3 (oV_eq (v := .bool (decide (0 ≤ d.at_))) (vInt_geq .i64 d.at_ 0) (oV_eq (v := .bool (decide (0 ≤ d.at_))) rfl ?_)))
  by_cases c1 : 0 ≤ d.at_
  case neg =>
    rw [decide_eq_false c1]
    exact sound_false l
  rw [decide_eq_true c1]
  refine oV_eq (v := .pointer (some ⟨i2, 7, none⟩)) rfl (oV_eq (v := .int .i64 d.src) hd.l7 (oV_eq (v := .bool (decide (0 ≤ d.src))) (vInt_geq .i64 d.src 0) (oV_eq (v := .bool (decide (0 ≤ d.src))) rfl ?_)))
  by_cases c2 : 0 ≤ d.src
  case neg =>
    rw [decide_eq_false c2]
    exact sound_false l
  rw [decide_eq_true c2]
  refine oV_eq (v := .pointer (some ⟨i2, 1, none⟩)) rfl (oV_eq (v := .int .i64 d.fr) hd.l1 (oV_eq (v := .bool (decide (1 ≤ d.fr))) (vInt_geq .i64 d.fr 1) (oV_eq (v := .bool (decide (1 ≤ d.fr))) rfl ?_)))
  by_cases c3 : 1 ≤ d.fr
  case neg =>
    rw [decide_eq_false c3]
    exact sound_false l
  rw [decide_eq_true c3]
  refine oV_eq (v := .pointer (some ⟨i2, 1, none⟩)) rfl (oV_eq (v := .int .i64 d.fr) hd.l1 (oV_eq (v := .pointer (some ⟨i1, 1, none⟩)) rfl (oV_eq (v := .int .i64 s.N) hs.n (oV_eq (v := .bool (decide (d.fr ≤ s.N))) (vInt_leq .i64 d.fr s.N) (oV_eq (v := .bool (decide (d.fr ≤ s.N))) rfl ?_)))))
  by_cases c4 : d.fr ≤ s.N
  case neg =>
    rw [decide_eq_false c4]
    exact sound_false l
  rw [decide_eq_true c4]
  refine oV_eq (v := .pointer (some ⟨i2, 2, none⟩)) rfl (oV_eq (v := .int .i64 d.to_) hd.l2 (oV_eq (v := .bool (decide (0 ≤ d.to_))) (vInt_geq .i64 d.to_ 0) (oV_eq (v := .bool (decide (0 ≤ d.to_))) rfl ?_)))
  by_cases c5 : 0 ≤ d.to_
  case neg =>
    rw [decide_eq_false c5]
    exact sound_false l
  rw [decide_eq_true c5]
  refine oV_eq (v := .pointer (some ⟨i2, 2, none⟩)) rfl (oV_eq (v := .int .i64 d.to_) hd.l2 (oV_eq (v := .pointer (some ⟨i1, 1, none⟩)) rfl (oV_eq (v := .int .i64 s.N) hs.n (oV_eq (v := .bool (decide (d.to_ ≤ s.N))) (vInt_leq .i64 d.to_ s.N) (oV_eq (v := .bool (decide (d.to_ ≤ s.N))) rfl ?_)))))
  by_cases c6 : d.to_ ≤ s.N
  case neg =>
    rw [decide_eq_false c6]
    exact sound_false l
  rw [decide_eq_true c6]
  refine oV_eq (v := .pointer (some ⟨i2, 4, none⟩)) rfl (oV_eq (v := .int .i64 d.kd) hd.l4 (oV_eq (v := .bool (decide (1 ≤ d.kd))) (vInt_geq .i64 d.kd 1) (oV_eq (v := .bool (decide (1 ≤ d.kd))) rfl ?_)))
  by_cases c7 : 1 ≤ d.kd
  case neg =>
    rw [decide_eq_false c7]
    exact sound_false l
  rw [decide_eq_true c7]
  refine oV_eq (v := .pointer (some ⟨i2, 4, none⟩)) rfl (oV_eq (v := .int .i64 d.kd) hd.l4 (oV_eq (v := .bool (decide (d.kd ≤ 4))) (vInt_leq .i64 d.kd 4) (oV_eq (v := .bool (decide (d.kd ≤ 4))) rfl ?_)))
  by_cases c8 : d.kd ≤ 4
  case neg =>
    rw [decide_eq_false c8]
    exact sound_false l
  rw [decide_eq_true c8]
  refine oV_eq (v := .pointer (some ⟨i2, 6, none⟩)) rfl (oV_eq (v := .int .i64 d.of_) hd.l6 (oV_eq (v := .bool (decide (0 ≤ d.of_))) (vInt_geq .i64 d.of_ 0) (oV_eq (v := .bool (decide (0 ≤ d.of_))) rfl ?_)))
  by_cases c9 : 0 ≤ d.of_
  case neg =>
    rw [decide_eq_false c9]
    exact sound_false l
  rw [decide_eq_true c9]
  refine oV_eq (v := .pointer (some ⟨i2, 6, none⟩)) rfl (oV_eq (v := .int .i64 d.of_) hd.l6 (oV_eq (v := .pointer (some ⟨i1, 1, none⟩)) rfl (oV_eq (v := .int .i64 s.N) hs.n (oV_eq (v := .bool (decide (d.of_ ≤ s.N))) (vInt_leq .i64 d.of_ s.N) (oV_eq (v := .bool (decide (d.of_ ≤ s.N))) rfl ?_)))))
  by_cases c10 : d.of_ ≤ s.N
  case neg =>
    rw [decide_eq_false c10]
    exact sound_false l
  rw [decide_eq_true c10]
  refine oV_eq (v := .pointer (some ⟨i2, 4, none⟩)) rfl (oV_eq (v := .int .i64 d.kd) hd.l4 (oV_eq (v := .bool (decide (d.kd ≠ 3))) (vInt_neq .i64 d.kd 3) (oV_eq (v := .bool (decide (d.kd ≠ 3))) rfl ?_)))
  by_cases c11 : d.kd ≠ 3
  case pos =>
    rw [decide_eq_true c11]
    exact sound_true l ⟨c1, c2, c3, c4, c5, c6, c7, c8, c9, c10, fun h => absurd h c11, hk0, hk1⟩
  rw [decide_eq_false c11]
  refine oV_eq (v := .pointer (some ⟨i2, 6, none⟩)) rfl (oV_eq (v := .int .i64 d.of_) hd.l6 (oV_eq (v := .bool (decide (1 ≤ d.of_))) (vInt_geq .i64 d.of_ 1) (oV_eq (v := .bool (decide (1 ≤ d.of_))) rfl (oV_eq (v := .bool (decide (1 ≤ d.of_))) rfl ?_))))
  exact ⟨l, _, rfl, fun h => ⟨c1, c2, c3, c4, c5, c6, c7, c8, c9, c10, fun _ => of_decide_eq_true h, hk0, hk1⟩⟩
/-! ### The coalition -/
theorem coal_loop {v : Value} {xs : List Int} (hv : Sl (eInt .i64) H v xs) (hs : PAt H i s) {kn : Heap → Prop} {Q : Ending → Heap → Prop} (hk : kn H) (hq : Q (.returned (.bool false)) H) :
    ∀ (d j : Nat), xs.length - j = d → j ≤ xs.length → L23_3 v (ptrTo i) (.int .i64 j) H kn Q := by
  have hm := hv.max
  intro d
  induction d with
  | zero =>
    intro j hd hi
    apply L23_3_round
    unfold m23_4
    exact oV_eq hv.len (oV_eq (vInt_lss _ _ _) (condK_dec (fun hlt => absurd hlt (by omega)) (fun _ => hk)))
  | succ d ih =>
    intro j hd hi
    apply L23_3_round
    unfold m23_4
    refine oV_eq hv.len (oV_eq (vInt_lss _ _ _) (condK_dec (fun hlt => ?_) (fun hlt => absurd (by omega) hlt)))
    obtain ⟨q, f1, f2⟩ := hv.int .i64 (i := (j : Int)) (by omega) (by omega) (ti := ty3) rfl
    generalize xs.getD (j : Int).toNat 0 = y at f2
    have w1 := wrap_i64 (show -9223372036854775808 ≤ (j : Int) + 1 by omega) (by omega)
    have next := ih (j + 1) (by omega) (by omega)
    refine oV_eq f1 (oV_eq f2 (oV_eq (vInt_lss _ _ _) ?_))
    by_cases c1 : y < 1
    · rw [decide_eq_true c1]
      exact condK_true hq
    rw [decide_eq_false c1]
    refine oV_eq (v := v) rfl (oV_eq (v := .int .i64 j) rfl (oV_eq (v := q) f1 (oV_eq (v := .int .i64 y) f2 (oV_eq (v := .pointer (some ⟨i, 1, none⟩)) rfl (oV_eq (v := .int .i64 s.N) hs.n (oV_eq (v := .bool (decide (s.N < y))) (vInt_gtr .i64 y s.N) (oV_eq (v := .bool (decide (s.N < y))) rfl ?_)))))))
    by_cases c2 : s.N < y
    · rw [decide_eq_true c2]
      exact condK_true hq
    rw [decide_eq_false c2]
    refine oV_eq (v := .int .i64 j) rfl (oV_eq (v := .bool (decide (0 < (j : Int)))) (vInt_gtr .i64 (j : Int) 0) (oV_eq (v := .bool (decide (0 < (j : Int)))) rfl ?_))
    by_cases c3 : 0 < (j : Int)
    · rw [decide_eq_true c3]
      obtain ⟨q2, g1, g2⟩ := hv.int .i64 (i := (j : Int) - 1) (by omega) (by omega) (ti := ty3) rfl
      generalize xs.getD ((j : Int) - 1).toNat 0 = z at g2
      have w2 := wrap_i64 (show -9223372036854775808 ≤ (j : Int) - 1 by omega) (by omega)
      have e2 : vInt .sub (.int .i64 (j : Int)) (.int .i64 1) = some (.int .i64 ((j : Int) - 1)) := by rw [vInt_sub, w2]
      refine oV_eq (v := v) rfl (oV_eq (v := .int .i64 j) rfl (oV_eq (v := q) f1 (oV_eq (v := .int .i64 y) f2 (oV_eq (v := v) rfl (oV_eq (v := .int .i64 j) rfl (oV_eq (v := .int .i64 ((j : Int) - 1)) e2 (oV_eq (v := q2) g1 (oV_eq (v := .int .i64 z) g2 (oV_eq (v := .bool (decide (y ≤ z))) (vInt_leq .i64 y z) (oV_eq (v := .bool (decide (y ≤ z))) rfl (oV_eq (v := .bool (decide (y ≤ z))) rfl (condK_dec (fun _ => hq) (fun _ => oV_eq (vInt_add _ _ _) ?_)))))))))))))
      rw [w1]
      exact next
    · rw [decide_eq_false c3]
      refine condK_false (oV_eq (vInt_add _ _ _) ?_)
      rw [w1]
      exact next
theorem coal_spec {v : Value} {xs : List Int} (hv : Sl (eInt .i64) H v xs) (s : Scn) : RCalls Try.prog 23 [parVal s, v] H (Sound True H) := by
  apply call23
  unfold m23
  refine par_new s fun i H1 l1 hs => ?_
  refine oV_eq hs.all (oRC_ret (valid_spec H1 s) fun r H2 hr => ?_)
  obtain ⟨l2, b, rfl, _⟩ := hr
  replace hs := hs.mono l2
  have l := l1.trans l2
  cases b with
  | false => exact condK_true (sound_false l)
  | true =>
    refine oV_eq (v := .bool false) rfl (oV_eq (v := v) rfl (oV_eq (v := .int .i64 xs.length) hv.len (oV_eq (v := .pointer (some ⟨i, 2, none⟩)) rfl (oV_eq (v := .int .i64 s.T) hs.t (oV_eq (v := .bool (decide (s.T < (xs.length : Int)))) (vInt_gtr .i64 (xs.length : Int) s.T) (oV_eq (v := .bool (decide (s.T < (xs.length : Int)))) rfl (condK_dec (fun _ => sound_false l) (fun _ => ?_))))))))
    unfold m23_2
    refine coal_loop (hv.mono l) hs ?_ (sound_false l) _ 0 rfl (by omega)
    unfold m23_1
    exact sound_true l trivial
end
/-! ### The scenario -/
def ScnGood (s : Scn) : Prop := Supp s.P ∧ 4 ≤ s.N ∧ s.N ≤ 13 ∧ ∀ d ∈ s.devs, DevOk s.N d
section
variable {H : Heap} {i : Nat} {s : Scn} {cv dv tv : Value}
theorem tapes_loop {Hb H0 : Heap} {P : Prop} (hb : Le Hb H0) (hs : SAt H0 i s cv dv tv) (hok : ScnOk H0 s cv dv tv) (hP : P) :
    ∀ (d j : Nat) (H : Heap), s.tapes.length - j = d → j ≤ s.tapes.length → Le H0 H → L13_4 (ptrTo i) (.int .i64 j) H (fun H_16 => m13_2 H_16 (Sound P Hb)) (Sound P Hb) := by
  have hm := hok.tapes.max
  intro d
  induction d with
  | zero =>
    intro j H hd hi hl
    apply L13_4_round
    unfold m13_5
    refine oV_eq (vField_to _ _) (oV_eq (hs.mono hl).t (oV_eq hok.tapes.len (oV_eq (vInt_lss _ _ _) (condK_dec (fun hlt => absurd hlt (by omega)) (fun _ => ?_)))))
    unfold m13_2
    exact sound_true (hb.trans hl) hP
  | succ d ih =>
    intro j H hd hi hl
    apply L13_4_round
    unfold m13_5
    have hsH := hs.mono hl
    refine oV_eq (vField_to _ _) (oV_eq hsH.t (oV_eq hok.tapes.len (oV_eq (vInt_lss _ _ _) (condK_dec (fun hlt => ?_) (fun hlt => absurd (by omega) hlt)))))
    obtain ⟨pt, u, a1, a2, a3⟩ := (hok.tapes.mono hl).slice .i64 (i := (j : Int)) (by omega) (by omega) (ti := ty41) rfl
    refine oV_eq (vField_to _ _) (oV_eq (v := .pointer (some ⟨i, 0, none⟩)) rfl (oV_eq hsH.p (oV_eq (vField_to _ _) (oV_eq hsH.t (oV_eq a1 (oV_eq a2 (oRC_ret (below_spec a3) fun r H2 hr => ?_)))))))
    obtain ⟨l2, b, rfl, _⟩ := hr
    cases b with
    | false => exact oV_eq rfl (condK_true (sound_false (hb.trans (hl.trans l2))))
    | true =>
      refine oV_eq rfl (condK_false (oV_eq (vInt_add _ _ _) ?_))
      rw [wrap_i64 (by omega) (by omega)]
      exact ih (j + 1) H2 (by omega) (by omega) (hl.trans l2)
theorem devs_loop {Hb H0 : Heap} {P : Prop} (hb0 : Le Hb H0) (hs : SAt H0 i s cv dv tv) (hok : ScnOk H0 s cv dv tv) (hk : ∀ d ∈ s.devs, 0 ≤ d.k ∧ d.k ≤ 18446744073709551615) {kn : Value → Heap → Prop} (hkn : ∀ H, Le H0 H → (∀ d ∈ s.devs, DevOk s.N d) → kn (ptrTo i) H) :
    ∀ (d j : Nat) (H : Heap), s.devs.length - j = d → j ≤ s.devs.length → Le H0 H → (∀ d ∈ s.devs.take j, DevOk s.N d) → L13_7 (ptrTo i) (.int .i64 j) H kn (Sound P Hb) := by
  have hm := hok.devs.max
  intro d
  induction d with
  | zero =>
    intro j H hd hi hl ha
    apply L13_7_round
    unfold m13_8
    refine oV_eq (vField_to _ _) (oV_eq (hs.mono hl).ds (oV_eq hok.devs.len (oV_eq (vInt_lss _ _ _) (condK_dec (fun hlt => absurd hlt (by omega)) (fun _ => ?_)))))
    rw [List.take_of_length_le (by omega)] at ha
    exact hkn H hl ha
  | succ d ih =>
    intro j H hd hi hl ha
    apply L13_7_round
    unfold m13_8
    have hsH := hs.mono hl
    refine oV_eq (vField_to _ _) (oV_eq hsH.ds (oV_eq hok.devs.len (oV_eq (vInt_lss _ _ _) (condK_dec (fun hlt => ?_) (fun hlt => absurd (by omega) hlt)))))
    have hil : j < s.devs.length := by omega
    obtain ⟨q, f1, f2⟩ := (hok.devs.mono hl).dev hil
    have hkd := hk _ (List.getElem_mem hil)
    refine oV_eq (vField_to _ _) (oV_eq hsH.par (oV_eq (vField_to _ _) (oV_eq hsH.ds (oV_eq f1 (oV_eq f2 (oRC_ret (dev_spec H s _ hkd.1 hkd.2) fun r H2 hr => ?_))))))
    obtain ⟨l2, b, rfl, hb⟩ := hr
    cases b with
    | false => exact oV_eq rfl (condK_true (sound_false (hb0.trans (hl.trans l2))))
    | true =>
      refine oV_eq rfl (condK_false (oV_eq (vInt_add _ _ _) ?_))
      rw [wrap_i64 (by omega) (by omega)]
      refine ih (j + 1) H2 (by omega) (by omega) (hl.trans l2) fun x hx => ?_
      rw [List.take_succ_eq_append_getElem hil] at hx
      rcases List.mem_append.1 hx with hx | hx
      · exact ha x hx
      · rw [List.mem_singleton.1 hx]
        exact hb rfl
theorem scn_spec (hok : ScnOk H s cv dv tv) (hk : ∀ d ∈ s.devs, 0 ≤ d.k ∧ d.k ≤ 18446744073709551615) : RCalls Try.prog 13 [scnVal s cv dv tv] H (Sound (ScnGood s) H) := by
  apply call13
  unfold m13
  refine scn_new s cv dv tv fun i H1 l1 hs => ?_
  refine oV_eq (vField_to _ _) (oV_eq hs.par (oRC_ret (valid_spec H1 s) fun r H2 hr => ?_))
  obtain ⟨l2, b, rfl, hb⟩ := hr
  replace hs := hs.mono l2
  have l := l1.trans l2
  cases b with
  | false => exact gK_TF (condK_true (sound_false l))
  | true =>
    obtain ⟨hp, hn4, hn13⟩ := hb rfl
    refine oV_eq (v := .bool false) rfl (oV_eq (v := .pointer (some ⟨i, 0, none⟩)) rfl (oV_eq (v := parVal s) hs.par (oV_eq (v := .pointer (some ⟨i, 3, none⟩)) rfl (oV_eq (v := cv) hs.c ?_))))
    refine gK_FF (oRC_ret (coal_spec (hok.bad.mono l) s) fun r H3 hr => ?_)
    obtain ⟨l3, b2, rfl, _⟩ := hr
    replace hs := hs.mono l3
    replace l := l.trans l3
    cases b2 with
    | false => exact condK_true (sound_false l)
    | true =>
      refine oV_eq (v := .bool false) rfl (oV_eq (v := .bool false) rfl (oV_eq (v := .pointer (some ⟨i, 5, none⟩)) rfl (oV_eq (v := tv) hs.t (oV_eq (v := .int .i64 s.tapes.length) hok.tapes.len (oV_eq (v := .pointer (some ⟨i, 0, none⟩)) rfl (oV_eq (v := .pointer (some ⟨i, 1, none⟩)) rfl (oV_eq (v := .int .i64 s.N) hs.n (oV_eq (v := .bool (decide ((s.tapes.length : Int) ≠ s.N))) (vInt_neq .i64 (s.tapes.length : Int) s.N) (oV_eq (v := .bool (decide ((s.tapes.length : Int) ≠ s.N))) rfl (condK_dec (fun _ => sound_false l) (fun _ => ?_)))))))))))
      unfold m13_6
      exact devs_loop (P := ScnGood s) (Hb := H) (H0 := H3) l hs (hok.mono l) hk (fun K hl ha => by
        unfold m13_1 m13_3
        exact tapes_loop (H0 := H3) l hs (hok.mono l) ⟨hp, hn4, hn13, ha⟩ _ 0 K rfl (by omega) hl) _ 0 H3 rfl (by omega) (Le.refl _) (by simp)
end
/-! ### Messages that are let in -/
section
variable {H : Heap} {i : Nat} {s : Scn} {v : Value} {rows : List (List Int)}
theorem row_loop {j : Nat} (hs : PAt H i s) (hv : Sl (eSlice (eInt .u64)) H v rows) (hj : j < rows.length) {kn : Value → Value → Value → Heap → Prop} {kx1 : Value → Value → Value → Heap → Prop} {kx0 : Heap → Prop} {Q : Ending → Heap → Prop} (hk : (∀ x ∈ rows.getD j [], x < s.P) → kn v (ptrTo i) (.int .i64 j) H) (hq : Q (.returned (.bool false)) H) :
    ∀ (n k : Nat), (rows.getD j []).length - k = n → k ≤ (rows.getD j []).length → (∀ x ∈ (rows.getD j []).take k, x < s.P) → L14_8 v (ptrTo i) (.int .i64 j) (.int .i64 k) H kn kx1 kx0 Q := by
  obtain ⟨pt, u, a1, a2, a3⟩ := hv.slice .i64 (i := (j : Int)) (by omega) (by omega) (ti := ty41) rfl
  rw [Int.toNat_natCast] at a3
  have hm := a3.max
  intro n
  induction n with
  | zero =>
    intro k hd hi ha
    apply L14_8_round
    unfold m14_9
    refine oV_eq a1 (oV_eq a2 (oV_eq a3.len (oV_eq (vInt_lss _ _ _) (condK_dec (fun hlt => absurd hlt (by omega)) (fun _ => hk ?_)))))
    rwa [List.take_of_length_le (by omega)] at ha
  | succ n ih =>
    intro k hd hi ha
    apply L14_8_round
    unfold m14_9
    refine oV_eq a1 (oV_eq a2 (oV_eq a3.len (oV_eq (vInt_lss _ _ _) (condK_dec (fun hlt => ?_) (fun hlt => absurd (by omega) hlt)))))
    have hkl : k < (rows.getD j []).length := by omega
    obtain ⟨q, f1, f2⟩ := a3.int .i64 (i := (k : Int)) (by omega) (by omega) (ti := ty22) rfl
    have e : (rows.getD j []).getD (k : Int).toNat 0 = (rows.getD j [])[k] := by
      rw [Int.toNat_natCast, List.getD_eq_getElem?_getD, List.getElem?_eq_getElem hkl]
      rfl
    rw [e] at f2
    refine oV_eq a1 (oV_eq a2 (oV_eq f1 (oV_eq f2 (oV_eq (vField_to _ _) (oV_eq hs.p (oV_eq (vInt_geq _ _ _) (condK_dec (fun _ => hq) (fun c => oV_eq (vInt_add _ _ _) ?_))))))))
    rw [wrap_i64 (by omega) (by omega)]
    refine ih (k + 1) (by omega) (by omega) fun x hx => ?_
    rw [List.take_succ_eq_append_getElem hkl] at hx
    rcases List.mem_append.1 hx with hx | hx
    · exact ha x hx
    · rw [List.mem_singleton.1 hx]
      omega
theorem words_spec (hv : Sl (eSlice (eInt .u64)) H v rows) (hr : ∀ r ∈ rows, ∀ x ∈ r, 0 ≤ x) (s : Scn) : RCalls Try.prog 14 [v, parVal s] H (Sound (Msgs s.P s.N rows) H) := by
  have hm := hv.max
  apply call14
  unfold m14
  refine par_new s fun i H1 l1 hs => ?_
  replace hv := hv.mono l1
  refine oV_eq hv.len (oV_eq (vField_to _ _) (oV_eq hs.n (oV_eq (vInt_neq _ _ _) (condK_dec (fun _ => sound_false l1) (fun c => ?_)))))
  unfold m14_2
  have hN : (rows.length : Int) = s.N := by simpa using c
  have key : ∀ (n j : Nat), rows.length - j = n → j ≤ rows.length → (∀ r ∈ rows.take j, rng s.P r ∧ r.length ≤ 20) → L14_3 v (ptrTo i) (.int .i64 j) H1 (fun K => m14_1 K (Sound (Msgs s.P s.N rows) H)) (Sound (Msgs s.P s.N rows) H) := by
    intro n
    induction n with
    | zero =>
      intro j hd hi ha
      apply L14_3_round
      unfold m14_4
      refine oV_eq hv.len (oV_eq (vInt_lss _ _ _) (condK_dec (fun hlt => absurd hlt (by omega)) (fun _ => ?_)))
      unfold m14_1
      rw [List.take_of_length_le (by omega)] at ha
      exact sound_true l1 ⟨hN, ha⟩
    | succ n ih =>
      intro j hd hi ha
      apply L14_3_round
      unfold m14_4
      refine oV_eq hv.len (oV_eq (vInt_lss _ _ _) (condK_dec (fun hlt => ?_) (fun hlt => absurd (by omega) hlt)))
      unfold m14_6 m14_7
      have hjl : j < rows.length := by omega
      obtain ⟨pt, u, a1, a2, a3⟩ := hv.slice .i64 (i := (j : Int)) (by omega) (by omega) (ti := ty41) rfl
      have e : rows.getD (j : Int).toNat [] = rows[j] := by
        rw [Int.toNat_natCast, List.getD_eq_getElem?_getD, List.getElem?_eq_getElem hjl]
        rfl
      rw [e] at a3
      refine oV_eq a1 (oV_eq a2 (oV_eq a3.len (oV_eq (vInt_gtr _ _ _) (condK_dec (fun _ => sound_false l1) (fun c2 => ?_)))))
      have e2 : rows.getD j [] = rows[j] := by
        rw [List.getD_eq_getElem?_getD, List.getElem?_eq_getElem hjl]
        rfl
      refine row_loop hs hv hjl (fun hall => ?_) (sound_false l1) _ 0 rfl (by omega) (by simp)
      unfold m14_5
      refine oV_eq (vInt_add _ _ _) ?_
      rw [wrap_i64 (by omega) (by omega)]
      rw [e2] at hall
      refine ih (j + 1) (by omega) (by omega) fun r hrr => ?_
      rw [List.take_succ_eq_append_getElem hjl] at hrr
      rcases List.mem_append.1 hrr with hrr | hrr
      · exact ha r hrr
      · rw [List.mem_singleton.1 hrr]
        exact ⟨fun x hx => ⟨hr _ (List.getElem_mem hjl) x hx, hall x hx⟩, by omega⟩
  exact key _ 0 rfl (by omega) (by simp)
end
/-! ### What is asked -/
structure Ask where
  s : Scn
  rd : Int
  msgs : List (List (List Int))
  all : List (List Int)
def askVal (z : Ask) (cv dv tv mv av : Value) : Value := .agg #[.int .u64 z.s.P, .int .i64 z.s.N, .int .i64 z.s.T, cv, dv, tv, .int .i64 z.rd, mv, av]
structure AskOk (H : Heap) (z : Ask) (cv dv tv mv av : Value) : Prop where
  s : ScnOk H z.s cv dv tv
  m : Sl (eSlice (eSlice (eInt .u64))) H mv z.msgs
  a : Sl (eSlice (eInt .u64)) H av z.all
theorem AskOk.mono {H G : Heap} {z : Ask} {cv dv tv mv av : Value} (h : AskOk H z cv dv tv mv av) (hl : Le H G) : AskOk G z cv dv tv mv av := ⟨h.s.mono hl, h.m.mono hl, h.a.mono hl⟩
structure AskWf (z : Ask) : Prop where
  k : ∀ d ∈ z.s.devs, 0 ≤ d.k ∧ d.k ≤ 18446744073709551615
  m : ∀ m ∈ z.msgs, ∀ r ∈ m, ∀ x ∈ r, 0 ≤ x
  a : ∀ r ∈ z.all, ∀ x ∈ r, 0 ≤ x
structure AAt (H : Heap) (i : Nat) (z : Ask) (cv dv tv mv av : Value) : Prop where
  blk : H i = some (.cells [.int .u64 z.s.P, .int .i64 z.s.N, .int .i64 z.s.T, cv, dv, tv, .int .i64 z.rd, mv, av] 9 32 true)
section
variable {H G : Heap} {i : Nat} {z : Ask} {cv dv tv mv av : Value}
theorem AAt.mono (h : AAt H i z cv dv tv mv av) (hl : Le H G) : AAt G i z cv dv tv mv av := ⟨hl _ _ h.blk⟩
theorem AAt.scn (h : AAt H i z cv dv tv mv av) : vLoad ty29 (.pointer (some ⟨i, 0, none⟩)) H = some (scnVal z.s cv dv tv) := by simp only [vLoad, h.blk]; rfl
theorem AAt.par (h : AAt H i z cv dv tv mv av) : vLoad ty24 (.pointer (some ⟨i, 0, none⟩)) H = some (parVal z.s) := by simp only [vLoad, h.blk]; rfl
theorem AAt.n (h : AAt H i z cv dv tv mv av) : vLoad ty3 (.pointer (some ⟨i, 1, none⟩)) H = some (.int .i64 z.s.N) := by simp only [vLoad, h.blk]; rfl
theorem AAt.d (h : AAt H i z cv dv tv mv av) : vLoad ty26 (.pointer (some ⟨i, 4, none⟩)) H = some dv := by simp only [vLoad, h.blk]; rfl
theorem AAt.rd (h : AAt H i z cv dv tv mv av) : vLoad ty3 (.pointer (some ⟨i, 6, none⟩)) H = some (.int .i64 z.rd) := by simp only [vLoad, h.blk]; rfl
theorem AAt.m (h : AAt H i z cv dv tv mv av) : vLoad ty30 (.pointer (some ⟨i, 7, none⟩)) H = some mv := by simp only [vLoad, h.blk]; rfl
theorem AAt.a (h : AAt H i z cv dv tv mv av) : vLoad ty27 (.pointer (some ⟨i, 8, none⟩)) H = some av := by simp only [vLoad, h.blk]; rfl
theorem AAt.ask (h : AAt H i z cv dv tv mv av) : vLoad ty32 (ptrTo i) H = some (askVal z cv dv tv mv av) := by simp only [vLoad, ptrTo, h.blk]; rfl
theorem ask_new {k : Nat → Heap → Prop} (z : Ask) (cv dv tv mv av : Value) (hk : ∀ i H', Le H H' → AAt H' i z cv dv tv mv av → k i H') : oNew (askVal z cv dv tv mv av).cells.toList (askVal z cv dv tv mv av).cells.toList.length 32 H k := by
  show oNew [.int .u64 z.s.P, .int .i64 z.s.N, .int .i64 z.s.T, cv, dv, tv, .int .i64 z.rd, mv, av] 9 32 H _
  intro i hi
  exact hk i _ (Le.ins _ hi) ⟨hins_self _ _ _⟩
structure May (z : Ask) : Prop where
  s : ScnGood z.s
  a : Msgs z.s.P z.s.N z.all
  len : (z.msgs.length : Int) = z.s.N
  m : ∀ m ∈ z.msgs, Msgs z.s.P z.s.N m
theorem may_spec (hok : AskOk H z cv dv tv mv av) (hwf : AskWf z) : RCalls Try.prog 5 [askVal z cv dv tv mv av] H (Sound (May z) H) := by
  apply call5
  unfold m5
  refine ask_new z cv dv tv mv av fun i H1 l1 hs => ?_
  refine oV_eq (vField_to _ _) (oV_eq hs.scn (oRC_ret (scn_spec (hok.s.mono l1) hwf.k) fun r H2 hr => ?_))
  obtain ⟨l2, b, rfl, hb⟩ := hr
  replace hs := hs.mono l2
  have l := l1.trans l2
  cases b with
  | false => exact gK_TF (condK_true (sound_false l))
  | true =>
    have hg := hb rfl
    refine oV_eq (v := .bool false) rfl (oV_eq (v := .pointer (some ⟨i, 0, none⟩)) rfl (oV_eq (v := .pointer (some ⟨i, 4, none⟩)) rfl (oV_eq (v := dv) hs.d (oV_eq (v := .int .i64 z.s.devs.length) hok.s.devs.len (oV_eq (v := .bool (decide (30 < (z.s.devs.length : Int)))) (vInt_gtr .i64 (z.s.devs.length : Int) 30) (oV_eq (v := .bool (decide (30 < (z.s.devs.length : Int)))) rfl ?_))))))
    by_cases c1 : 30 < (z.s.devs.length : Int)
    case pos =>
      rw [decide_eq_true c1]
      exact gK_TF (condK_true (sound_false l))
    rw [decide_eq_false c1]
    refine oV_eq (v := .pointer (some ⟨i, 7, none⟩)) rfl (oV_eq (v := mv) hs.m (oV_eq (v := .int .i64 z.msgs.length) hok.m.len (oV_eq (v := .pointer (some ⟨i, 0, none⟩)) rfl (oV_eq (v := .pointer (some ⟨i, 0, none⟩)) rfl (oV_eq (v := .pointer (some ⟨i, 1, none⟩)) rfl (oV_eq (v := .int .i64 z.s.N) hs.n (oV_eq (v := .bool (decide ((z.msgs.length : Int) ≠ z.s.N))) (vInt_neq .i64 (z.msgs.length : Int) z.s.N) (oV_eq (v := .bool (decide ((z.msgs.length : Int) ≠ z.s.N))) rfl ?_))))))))
    by_cases c2 : (z.msgs.length : Int) ≠ z.s.N
    case pos =>
      rw [decide_eq_true c2]
      exact gK_TF (condK_true (sound_false l))
    rw [decide_eq_false c2]
    refine oV_eq (v := .pointer (some ⟨i, 8, none⟩)) rfl (oV_eq (v := av) hs.a (oV_eq (v := .pointer (some ⟨i, 0, none⟩)) rfl (oV_eq (v := .pointer (some ⟨i, 0, none⟩)) rfl (oV_eq (v := parVal z.s) hs.par ?_))))
    refine gK_FF (oRC_ret (words_spec (hok.a.mono l) hwf.a z.s) fun r H3 hr => ?_)
    obtain ⟨l3, b2, rfl, hb2⟩ := hr
    replace hs := hs.mono l3
    replace l := l.trans l3
    cases b2 with
    | false => exact condK_true (sound_false l)
    | true =>
      refine oV_eq (v := .bool false) rfl (oV_eq (v := .bool false) rfl (condK_false ?_))
      unfold m5_2
      have hlen : (z.msgs.length : Int) = z.s.N := by simpa using c2
      have hmx := hok.m.max
      have key : ∀ (n j : Nat) (K : Heap), z.msgs.length - j = n → j ≤ z.msgs.length → Le H3 K → (∀ m ∈ z.msgs.take j, Msgs z.s.P z.s.N m) → L5_3 (ptrTo i) (.int .i64 j) K (fun K => m5_1 K (Sound (May z) H)) (Sound (May z) H) := by
        intro n
        induction n with
        | zero =>
          intro j K hd hi hl ha
          apply L5_3_round
          unfold m5_4
          refine oV_eq (vField_to _ _) (oV_eq (hs.mono hl).m (oV_eq hok.m.len (oV_eq (vInt_lss _ _ _) (condK_dec (fun hlt => absurd hlt (by omega)) (fun _ => ?_)))))
          unfold m5_1
          rw [List.take_of_length_le (by omega)] at ha
          exact sound_true (l.trans hl) ⟨hg, hb2 rfl, hlen, ha⟩
        | succ n ih =>
          intro j K hd hi hl ha
          apply L5_3_round
          unfold m5_4
          have hjl : j < z.msgs.length := by omega
          obtain ⟨pt, u, a1, a2, a3⟩ := (hok.m.mono (l.trans hl)).slice .i64 (i := (j : Int)) (by omega) (by omega) (ti := ty27) rfl
          have e : z.msgs.getD (j : Int).toNat [] = z.msgs[j] := by
            rw [Int.toNat_natCast, List.getD_eq_getElem?_getD, List.getElem?_eq_getElem hjl]
            rfl
          rw [e] at a3
          refine oV_eq (vField_to _ _) (oV_eq (hs.mono hl).m (oV_eq hok.m.len (oV_eq (vInt_lss _ _ _) (condK_dec (fun hlt => ?_) (fun hlt => absurd (by omega) hlt)))))
          refine oV_eq (vField_to _ _) (oV_eq (hs.mono hl).m (oV_eq a1 (oV_eq a2 (oV_eq (vField_to _ _) (oV_eq (v := .pointer (some ⟨i, 0, none⟩)) rfl (oV_eq (hs.mono hl).par (oRC_ret (words_spec a3 (hwf.m _ (List.getElem_mem hjl)) z.s) fun r K2 hr => ?_)))))))
          obtain ⟨k2, b3, rfl, hb3⟩ := hr
          cases b3 with
          | false => exact oV_eq rfl (condK_true (sound_false ((l.trans hl).trans k2)))
          | true =>
            refine oV_eq rfl (condK_false (oV_eq (vInt_add _ _ _) ?_))
            rw [wrap_i64 (by omega) (by omega)]
            refine ih (j + 1) K2 (by omega) (by omega) (hl.trans k2) fun m hm => ?_
            rw [List.take_succ_eq_append_getElem hjl] at hm
            rcases List.mem_append.1 hm with hm | hm
            · exact ha m hm
            · rw [List.mem_singleton.1 hm]
              exact hb3 rfl
      exact key _ 0 H3 rfl (by omega) (Le.refl _) (by simp)
end
end Go.Proofs.Ytchhpagkdaaglaa.SL
