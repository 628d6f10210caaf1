/- Part 26 of the proof of LawSe: VdZ VeA VeB VeC VeD, one behind the other. -/
import Derived.Test.YtchhpagkdaaglaaDoorSee
set_option linter.unusedVariables false
set_option linter.unusedSimpArgs false
namespace Go.Proofs.YtchhpagkdaaglaaDoor.SL

section
open Go

section
variable {H G K : Heap} {v fv rv : Value} {m : List (List Int)} {n i j k t : Nat} {first rest : List Int}
theorem rn_rows {x0 x1 : Value} {kn : Value → Value → Value → Value → Heap → Prop} {Q : Ending → Heap → Prop} (hn : t + 1 = n) (hn2 : n ≤ 1000) (hk : ∀ K, MAt G K v (List.replicate n (List.replicate n 0)) → kn x0 x1 (.int .i64 t) v K) :
    ∀ (d i : Nat) (K : Heap), n - i = d → i ≤ n → MAt G K v ((List.replicate n (List.replicate n 0)).take i ++ (List.replicate n ([] : List Int)).drop i) → L77_12 x0 x1 (.int .i64 t) v (.int .i64 i) K kn Q := by
  have hAB : (List.replicate n (List.replicate n (0 : Int))).length = (List.replicate n ([] : List Int)).length := by simp
  intro d
  induction d with
  | zero =>
    intro i K hd hi h
    apply L77_12_round
    unfold m77_13
    (repeat (first | refine qQZ (qDZ _) ?_ | refine qQZ (qEZ _) ?_ | refine qQZ (qFZ _ _) ?_ | refine qQZ (qGZ _ _) ?_ | refine qQZ (by (try with_reducible first | refine gV_F ?_ | refine gV_T ?_); first | exact q1Z _ _ | exact q2Z _ _ _ | exact q3Z _ | exact q4Z _ | exact q5Z _ _ _ | exact q6Z _ _ _ | exact q7Z _ _ _ | exact q8Z _ _ _ | exact q9Z _ _ _ | exact q0Z _ _ _ | exact qHZ (by omega) (by omega) | exact qIZ (by omega) (by omega) | exact qAZ _ | exact qBZ _ _ _ | exact qCZ _ _ _) ?_ | refine qQZ (gV_F rfl) ?_ | refine qQZ (gV_T rfl) ?_))
    refine qJZ (fun hlt => absurd hlt (by omega)) (fun _ => hk K ?_)
    rw [List.take_of_length_le (by simp; omega), List.drop_of_length_le (by simp; omega), List.append_nil] at h
    exact h
  | succ d ih =>
    intro i K hd hi h
    apply L77_12_round
    unfold m77_13
    (repeat (first | refine qQZ (qDZ _) ?_ | refine qQZ (qEZ _) ?_ | refine qQZ (qFZ _ _) ?_ | refine qQZ (qGZ _ _) ?_ | refine qQZ (by (try with_reducible first | refine gV_F ?_ | refine gV_T ?_); first | exact q1Z _ _ | exact q2Z _ _ _ | exact q3Z _ | exact q4Z _ | exact q5Z _ _ _ | exact q6Z _ _ _ | exact q7Z _ _ _ | exact q8Z _ _ _ | exact q9Z _ _ _ | exact q0Z _ _ _ | exact qHZ (by omega) (by omega) | exact qIZ (by omega) (by omega) | exact qAZ _ | exact qBZ _ _ _ | exact qCZ _ _ _) ?_ | refine qQZ (gV_F rfl) ?_ | refine qQZ (gV_T rfl) ?_))
    refine qJZ (fun hlt => ?_) (fun hlt => absurd (by omega) hlt)
    refine qQZ (add_one (a := t) (by omega)) ?_
    rw [hn]
    refine GI.make (by omega) fun w K1 hw => ?_
    obtain ⟨pt, K2, a1, a2, a3⟩ := h.setRow (i := i) (by rw [mix_len hAB (by simp; omega)]; simp; omega) hw
    (repeat (first | refine qQZ (qDZ _) ?_ | refine qQZ (qEZ _) ?_ | refine qQZ (qFZ _ _) ?_ | refine qQZ (qGZ _ _) ?_ | refine qQZ (by (try with_reducible first | refine gV_F ?_ | refine gV_T ?_); first | exact a1 | exact q1Z _ _ | exact q2Z _ _ _ | exact q3Z _ | exact q4Z _ | exact q5Z _ _ _ | exact q6Z _ _ _ | exact q7Z _ _ _ | exact q8Z _ _ _ | exact q9Z _ _ _ | exact q0Z _ _ _ | exact qHZ (by omega) (by omega) | exact qIZ (by omega) (by omega) | exact qAZ _ | exact qBZ _ _ _ | exact qCZ _ _ _) ?_ | refine qQZ (gV_F rfl) ?_ | refine qQZ (gV_T rfl) ?_))
    refine p8Z a2 ?_
    (repeat (first | refine qQZ (qDZ _) ?_ | refine qQZ (qEZ _) ?_ | refine qQZ (qFZ _ _) ?_ | refine qQZ (qGZ _ _) ?_ | refine qQZ (by (try with_reducible first | refine gV_F ?_ | refine gV_T ?_); first | exact add_one (a := i) (by omega) | exact q1Z _ _ | exact q2Z _ _ _ | exact q3Z _ | exact q4Z _ | exact q5Z _ _ _ | exact q6Z _ _ _ | exact q7Z _ _ _ | exact q8Z _ _ _ | exact q9Z _ _ _ | exact q0Z _ _ _ | exact qHZ (by omega) (by omega) | exact qIZ (by omega) (by omega) | exact qAZ _ | exact qBZ _ _ _ | exact qCZ _ _ _) ?_ | refine qQZ (gV_F rfl) ?_ | refine qQZ (gV_T rfl) ?_))
    refine ih (i + 1) K2 (by omega) (by omega) ?_
    have e := mix_set hAB (j := i) (by simp; omega)
    rw [show (List.replicate n (List.replicate n (0 : Int)))[i]'(by simp; omega) = List.replicate n 0 by simp] at e
    rw [e] at a3
    exact a3
theorem rn_head (hf : Sl (eInt .u64) G fv first) (h : MAt G K v m) (hs : Shape n m) (hi : i < n) (hn : t + 1 = n) (hfl : first.length = n) (hn2 : n ≤ 1000) {x9 : Value} {kn : Value → Heap → Prop} {Q : Ending → Heap → Prop}
    (hk : ∀ (kn2 : Value → Value → Value → Value → Value → Value → Heap → Prop) (kx3 : Value → Value → Value → Value → Value → Value → Heap → Prop) K', (∀ y9 K2, L77_4 fv rv (.int .i64 t) v y9 (.int .i64 (i + 1 : Nat)) K2 kn Q → kn2 fv rv (.int .i64 t) v y9 (.int .i64 i) K2) → MAt G K' v (setc (setc m 0 i (first.getD i 0)) i 0 (first.getD i 0)) → L77_9 fv rv (.int .i64 t) v x9 (.int .i64 i) (.int .i64 i) K' kn2 kx3 kn Q) :
    L77_4 fv rv (.int .i64 t) v x9 (.int .i64 i) K kn Q := by
  apply L77_4_round
  unfold m77_5
  (repeat (first | refine qQZ (qDZ _) ?_ | refine qQZ (qEZ _) ?_ | refine qQZ (qFZ _ _) ?_ | refine qQZ (qGZ _ _) ?_ | refine qQZ (by (try with_reducible first | refine gV_F ?_ | refine gV_T ?_); first | exact q1Z _ _ | exact q2Z _ _ _ | exact q3Z _ | exact q4Z _ | exact q5Z _ _ _ | exact q6Z _ _ _ | exact q7Z _ _ _ | exact q8Z _ _ _ | exact q9Z _ _ _ | exact q0Z _ _ _ | exact qHZ (by omega) (by omega) | exact qIZ (by omega) (by omega) | exact qAZ _ | exact qBZ _ _ _ | exact qCZ _ _ _) ?_ | refine qQZ (gV_F rfl) ?_ | refine qQZ (gV_T rfl) ?_))
  refine qJZ (fun hlt => ?_) (fun hlt => absurd (by omega) hlt)
  unfold m77_7 m77_8
  have hil : i < first.length := by omega
  obtain ⟨pf, f1, f2⟩ := hf.word hil (ti := ty22) rfl
  have ef : first.getD i 0 = first[i] := p6Z hil
  obtain ⟨p1, u1, p2, u2, q1, K2, q2, K3, a1, a2, a3, a4, a5, a6, a7, a8, a9⟩ := h.two hs (i := 0) (j := i) (by omega) hi first[i]
  (repeat (first | refine qQZ (qDZ _) ?_ | refine qQZ (qEZ _) ?_ | refine qQZ (qFZ _ _) ?_ | refine qQZ (qGZ _ _) ?_ | refine qQZ (by (try with_reducible first | refine gV_F ?_ | refine gV_T ?_); first | exact f1 | exact qKZ h.le f2 | exact a1 | exact a2 | exact a3 | exact a4 | exact a5 | exact q1Z _ _ | exact q2Z _ _ _ | exact q3Z _ | exact q4Z _ | exact q5Z _ _ _ | exact q6Z _ _ _ | exact q7Z _ _ _ | exact q8Z _ _ _ | exact q9Z _ _ _ | exact q0Z _ _ _ | exact qHZ (by omega) (by omega) | exact qIZ (by omega) (by omega) | exact qAZ _ | exact qBZ _ _ _ | exact qCZ _ _ _) ?_ | refine qQZ (gV_F rfl) ?_ | refine qQZ (gV_T rfl) ?_))
  refine p8Z a6 ?_
  (repeat (first | refine qQZ (qDZ _) ?_ | refine qQZ (qEZ _) ?_ | refine qQZ (qFZ _ _) ?_ | refine qQZ (qGZ _ _) ?_ | refine qQZ (by (try with_reducible first | refine gV_F ?_ | refine gV_T ?_); first | exact a7 | exact q1Z _ _ | exact q2Z _ _ _ | exact q3Z _ | exact q4Z _ | exact q5Z _ _ _ | exact q6Z _ _ _ | exact q7Z _ _ _ | exact q8Z _ _ _ | exact q9Z _ _ _ | exact q0Z _ _ _ | exact qHZ (by omega) (by omega) | exact qIZ (by omega) (by omega) | exact qAZ _ | exact qBZ _ _ _ | exact qCZ _ _ _) ?_ | refine qQZ (gV_F rfl) ?_ | refine qQZ (gV_T rfl) ?_))
  refine p8Z a8 ?_
  rw [ef] at hk
  refine hk _ _ K3 (fun y9 K4 hL => ?_) a9
  unfold m77_6
  (repeat (first | refine qQZ (qDZ _) ?_ | refine qQZ (qEZ _) ?_ | refine qQZ (qFZ _ _) ?_ | refine qQZ (qGZ _ _) ?_ | refine qQZ (by (try with_reducible first | refine gV_F ?_ | refine gV_T ?_); first | exact add_one (a := i) (by omega) | exact q1Z _ _ | exact q2Z _ _ _ | exact q3Z _ | exact q4Z _ | exact q5Z _ _ _ | exact q6Z _ _ _ | exact q7Z _ _ _ | exact q8Z _ _ _ | exact q9Z _ _ _ | exact q0Z _ _ _ | exact qHZ (by omega) (by omega) | exact qIZ (by omega) (by omega) | exact qAZ _ | exact qBZ _ _ _ | exact qCZ _ _ _) ?_ | refine qQZ (gV_F rfl) ?_ | refine qQZ (gV_T rfl) ?_))
  exact hL
theorem rn_one (hr : Sl (eInt .u64) G rv rest) (h : MAt G K v m) (hs : Shape n m) (hi0 : 0 < i) (hi : i < n) (hj : j < n) (hn : t + 1 = n) (hn2 : n ≤ 1000) (hkr : k < rest.length) (hk2 : k ≤ 1000) {x0 : Value} {kn kx3 : Value → Value → Value → Value → Value → Value → Heap → Prop} {kx2 : Value → Heap → Prop} {Q : Ending → Heap → Prop}
    (hk : ∀ K', MAt G K' v (setc (setc m i j (rest.getD k 0)) j i (rest.getD k 0)) → L77_9 x0 rv (.int .i64 t) v (.int .i64 (k + 1 : Nat)) (.int .i64 i) (.int .i64 (j + 1 : Nat)) K' kn kx3 kx2 Q) :
    L77_9 x0 rv (.int .i64 t) v (.int .i64 k) (.int .i64 i) (.int .i64 j) K kn kx3 kx2 Q := by
  apply L77_9_round
  unfold m77_10
  refine qQZ (q8Z _ _ _) ?_
  rw [decide_eq_true (show (j : Int) ≤ t by omega)]
  (repeat (first | refine qQZ (qDZ _) ?_ | refine qQZ (qEZ _) ?_ | refine qQZ (qFZ _ _) ?_ | refine qQZ (qGZ _ _) ?_ | refine qQZ (by (try with_reducible first | refine gV_F ?_ | refine gV_T ?_); first | exact q1Z _ _ | exact q2Z _ _ _ | exact q3Z _ | exact q4Z _ | exact q5Z _ _ _ | exact q6Z _ _ _ | exact q7Z _ _ _ | exact q8Z _ _ _ | exact q9Z _ _ _ | exact q0Z _ _ _ | exact qHZ (by omega) (by omega) | exact qIZ (by omega) (by omega) | exact qAZ _ | exact qBZ _ _ _ | exact qCZ _ _ _) ?_ | refine qQZ (gV_F rfl) ?_ | refine qQZ (gV_T rfl) ?_))
  refine qJZ (fun _ => ?_) (fun hlt => absurd (by omega) hlt)
  obtain ⟨pr, r1, r2⟩ := hr.word hkr (ti := ty22) rfl
  rw [p6Z hkr] at hk
  obtain ⟨p1, u1, p2, u2, q1, K2, q2, K3, a1, a2, a3, a4, a5, a6, a7, a8, a9⟩ := h.two hs hi hj rest[k]
  (repeat (first | refine qQZ (qDZ _) ?_ | refine qQZ (qEZ _) ?_ | refine qQZ (qFZ _ _) ?_ | refine qQZ (qGZ _ _) ?_ | refine qQZ (by (try with_reducible first | refine gV_F ?_ | refine gV_T ?_); first | exact a1 | exact a2 | exact a3 | exact a4 | exact r1 | exact qKZ h.le r2 | exact a5 | exact q1Z _ _ | exact q2Z _ _ _ | exact q3Z _ | exact q4Z _ | exact q5Z _ _ _ | exact q6Z _ _ _ | exact q7Z _ _ _ | exact q8Z _ _ _ | exact q9Z _ _ _ | exact q0Z _ _ _ | exact qHZ (by omega) (by omega) | exact qIZ (by omega) (by omega) | exact qAZ _ | exact qBZ _ _ _ | exact qCZ _ _ _) ?_ | refine qQZ (gV_F rfl) ?_ | refine qQZ (gV_T rfl) ?_))
  refine p8Z a6 ?_
  (repeat (first | refine qQZ (qDZ _) ?_ | refine qQZ (qEZ _) ?_ | refine qQZ (qFZ _ _) ?_ | refine qQZ (qGZ _ _) ?_ | refine qQZ (by (try with_reducible first | refine gV_F ?_ | refine gV_T ?_); first | exact a7 | exact q1Z _ _ | exact q2Z _ _ _ | exact q3Z _ | exact q4Z _ | exact q5Z _ _ _ | exact q6Z _ _ _ | exact q7Z _ _ _ | exact q8Z _ _ _ | exact q9Z _ _ _ | exact q0Z _ _ _ | exact qHZ (by omega) (by omega) | exact qIZ (by omega) (by omega) | exact qAZ _ | exact qBZ _ _ _ | exact qCZ _ _ _) ?_ | refine qQZ (gV_F rfl) ?_ | refine qQZ (gV_T rfl) ?_))
  refine p8Z a8 ?_
  refine qQZ (add_one (a := k) (by omega)) (qQZ (add_one (a := j) (by omega)) ?_)
  exact hk K3 a9
theorem rn_stop (hn : t + 1 = n) (h : i = 0 ∨ n ≤ j) {x0 x9 : Value} {kn kx3 : Value → Value → Value → Value → Value → Value → Heap → Prop} {kx2 : Value → Heap → Prop} {Q : Ending → Heap → Prop} (hk : kn x0 rv (.int .i64 t) v x9 (.int .i64 i) K) :
    L77_9 x0 rv (.int .i64 t) v x9 (.int .i64 i) (.int .i64 j) K kn kx3 kx2 Q := by
  apply L77_9_round
  unfold m77_10
  refine qQZ (q8Z _ _ _) ?_
  by_cases c : (j : Int) ≤ t
  · rw [decide_eq_true c]
    (repeat (first | refine qQZ (qDZ _) ?_ | refine qQZ (qEZ _) ?_ | refine qQZ (qFZ _ _) ?_ | refine qQZ (qGZ _ _) ?_ | refine qQZ (by (try with_reducible first | refine gV_F ?_ | refine gV_T ?_); first | exact q1Z _ _ | exact q2Z _ _ _ | exact q3Z _ | exact q4Z _ | exact q5Z _ _ _ | exact q6Z _ _ _ | exact q7Z _ _ _ | exact q8Z _ _ _ | exact q9Z _ _ _ | exact q0Z _ _ _ | exact qHZ (by omega) (by omega) | exact qIZ (by omega) (by omega) | exact qAZ _ | exact qBZ _ _ _ | exact qCZ _ _ _) ?_ | refine qQZ (gV_F rfl) ?_ | refine qQZ (gV_T rfl) ?_))
    exact qJZ (fun hlt => absurd hlt (by omega)) (fun _ => hk)
  · rw [decide_eq_false c]
    (repeat (first | refine qQZ (qDZ _) ?_ | refine qQZ (qEZ _) ?_ | refine qQZ (qFZ _ _) ?_ | refine qQZ (qGZ _ _) ?_ | refine qQZ (by (try with_reducible first | refine gV_F ?_ | refine gV_T ?_); first | exact q1Z _ _ | exact q2Z _ _ _ | exact q3Z _ | exact q4Z _ | exact q5Z _ _ _ | exact q6Z _ _ _ | exact q7Z _ _ _ | exact q8Z _ _ _ | exact q9Z _ _ _ | exact q0Z _ _ _ | exact qHZ (by omega) (by omega) | exact qIZ (by omega) (by omega) | exact qAZ _ | exact qBZ _ _ _ | exact qCZ _ _ _) ?_ | refine qQZ (gV_F rfl) ?_ | refine qQZ (gV_T rfl) ?_))
    exact qLZ hk
theorem rn_end (hn : t + 1 = n) {x0 x9 : Value} {kn : Value → Heap → Prop} {Q : Ending → Heap → Prop} (hk : kn v K) : L77_4 x0 rv (.int .i64 t) v x9 (.int .i64 n) K kn Q := by
  apply L77_4_round
  unfold m77_5
  (repeat (first | refine qQZ (qDZ _) ?_ | refine qQZ (qEZ _) ?_ | refine qQZ (qFZ _ _) ?_ | refine qQZ (qGZ _ _) ?_ | refine qQZ (by (try with_reducible first | refine gV_F ?_ | refine gV_T ?_); first | exact q1Z _ _ | exact q2Z _ _ _ | exact q3Z _ | exact q4Z _ | exact q5Z _ _ _ | exact q6Z _ _ _ | exact q7Z _ _ _ | exact q8Z _ _ _ | exact q9Z _ _ _ | exact q0Z _ _ _ | exact qHZ (by omega) (by omega) | exact qIZ (by omega) (by omega) | exact qAZ _ | exact qBZ _ _ _ | exact qCZ _ _ _) ?_ | refine qQZ (gV_F rfl) ?_ | refine qQZ (gV_T rfl) ?_))
  exact qJZ (fun hlt => absurd hlt (by omega)) (fun _ => hk)
theorem new10_spec (hf : Sl (eInt .u64) H fv first) (hr : Sl (eInt .u64) H rv rest) (hok : newOk first rest) : qVZ Tryd.prog 77 [fv, rv] H (Ret fun v H' => ∃ w, v = .tuple #[w, .int .i64 0] ∧ Le H H' ∧ Sl (qXZ (eInt .u64)) H' w (newM first rest)) := by
  apply call77
  unfold m77
  have z2 : Shape 2 (List.replicate 2 (List.replicate 2 0)) := ⟨by simp, fun i hi => by rw [List.getD_eq_getElem?_getD, List.getElem?_replicate, if_pos hi]; rfl⟩
  have z3 : Shape 3 (List.replicate 3 (List.replicate 3 0)) := ⟨by simp, fun i hi => by rw [List.getD_eq_getElem?_getD, List.getElem?_replicate, if_pos hi]; rfl⟩
  rcases hok with ⟨h1, h2⟩ | ⟨h1, h2⟩
  · obtain ⟨a, b, rfl⟩ := len2 h1
    obtain ⟨c, rfl⟩ := len1 h2
    refine qQZ hf.len (qQZ (v := .int .i64 1) rfl (qQZ (v := .bool false) rfl (qQZ (v := rv) rfl (qQZ (gV_F hr.len) (qQZ (v := .int .i64 1) rfl (qQZ (v := .int .i64 1) rfl (qQZ (v := .int .i64 2) rfl (qQZ (v := .int .i64 2) rfl (qQZ (v := .int .i64 1) rfl (qQZ (v := .bool false) rfl (qQZ (v := .bool false) rfl (qLZ (qQZ (v := .int .i64 2) rfl ?_)))))))))))))
    refine MAt.make (n := 2) (by decide) fun w K hM => ?_
    unfold m77_11
    refine rn_rows (t := 1) (n := 2) rfl (by decide) (fun K hM => ?_) _ 0 K rfl (by decide) hM
    unfold m77_1 m77_3
    refine rn_head (t := 1) (n := 2) (i := 0) hf hM z2 (by decide) rfl rfl (by decide) fun kn2 kx3 K1 hk2 hM1 => ?_
    have s1 := (z2.setc 0 0 a).setc 0 0 a
    refine rn_stop (t := 1) (n := 2) (i := 0) (j := 0) rfl (.inl rfl) (hk2 _ _ ?_)
    refine rn_head (t := 1) (n := 2) (i := 1) hf hM1 s1 (by decide) rfl rfl (by decide) fun kn2 kx3 K2 hk2 hM2 => ?_
    replace s1 := (s1.setc 0 1 b).setc 1 0 b
    refine rn_one (t := 1) (n := 2) (i := 1) (j := 1) (k := 0) hr hM2 s1 (by decide) (by decide) (by decide) rfl (by decide) (by simp) (by decide) fun K3 hM3 => ?_
    refine rn_stop (t := 1) (n := 2) (i := 1) (j := 2) rfl (.inr (by decide)) (hk2 _ _ (rn_end (t := 1) (n := 2) rfl ?_))
    obtain ⟨N, hN, hs⟩ := hM3.made
    exact ⟨w, rfl, hN.1, hs.mono hN.2.1⟩
  · obtain ⟨a, b, c, rfl⟩ := len3 h1
    obtain ⟨d, e, f, rfl⟩ := len3 h2
    refine qQZ hf.len (qQZ (v := .int .i64 2) rfl (qQZ (v := .bool false) rfl (qQZ (v := rv) rfl (qQZ (gV_F hr.len) (qQZ (v := .int .i64 2) rfl (qQZ (v := .int .i64 2) rfl (qQZ (v := .int .i64 3) rfl (qQZ (v := .int .i64 6) rfl (qQZ (v := .int .i64 3) rfl (qQZ (v := .bool false) rfl (qQZ (v := .bool false) rfl (qLZ (qQZ (v := .int .i64 3) rfl ?_)))))))))))))
    refine MAt.make (n := 3) (by decide) fun w K hM => ?_
    unfold m77_11
    refine rn_rows (t := 2) (n := 3) rfl (by decide) (fun K hM => ?_) _ 0 K rfl (by decide) hM
    unfold m77_1 m77_3
    refine rn_head (t := 2) (n := 3) (i := 0) hf hM z3 (by decide) rfl rfl (by decide) fun kn2 kx3 K1 hk2 hM1 => ?_
    have s1 := (z3.setc 0 0 a).setc 0 0 a
    refine rn_stop (t := 2) (n := 3) (i := 0) (j := 0) rfl (.inl rfl) (hk2 _ _ ?_)
    refine rn_head (t := 2) (n := 3) (i := 1) hf hM1 s1 (by decide) rfl rfl (by decide) fun kn2 kx3 K2 hk2 hM2 => ?_
    replace s1 := (s1.setc 0 1 b).setc 1 0 b
    refine rn_one (t := 2) (n := 3) (i := 1) (j := 1) (k := 0) hr hM2 s1 (by decide) (by decide) (by decide) rfl (by decide) (by simp) (by decide) fun K3 hM3 => ?_
    replace s1 := (s1.setc 1 1 d).setc 1 1 d
    refine rn_one (t := 2) (n := 3) (i := 1) (j := 2) (k := 1) hr hM3 s1 (by decide) (by decide) (by decide) rfl (by decide) (by simp) (by decide) fun K4 hM4 => ?_
    replace s1 := (s1.setc 1 2 e).setc 2 1 e
    refine rn_stop (t := 2) (n := 3) (i := 1) (j := 3) rfl (.inr (by decide)) (hk2 _ _ ?_)
    refine rn_head (t := 2) (n := 3) (i := 2) hf hM4 s1 (by decide) rfl rfl (by decide) fun kn2 kx3 K5 hk2 hM5 => ?_
    replace s1 := (s1.setc 0 2 c).setc 2 0 c
    refine rn_one (t := 2) (n := 3) (i := 2) (j := 2) (k := 2) hr hM5 s1 (by decide) (by decide) (by decide) rfl (by decide) (by simp) (by decide) fun K6 hM6 => ?_
    refine rn_stop (t := 2) (n := 3) (i := 2) (j := 3) rfl (.inr (by decide)) (hk2 _ _ (rn_end (t := 2) (n := 3) rfl ?_))
    obtain ⟨N, hN, hs⟩ := hM6.made
    exact ⟨w, rfl, hN.1, hs.mono hN.2.1⟩
def Rws (H K : Heap) (v : Value) (rows : List (List Int)) : Prop := ∃ R, Le H R ∧ RwE R R K v rows
theorem Rws.nil (H : Heap) : Rws H H (.slice none 0 0) [] := ⟨H, Le.refl _, RwE.nil H H⟩
theorem Rws.le {rows : List (List Int)} (h : Rws H K v rows) : Le H K := by
  obtain ⟨R, h1, h2⟩ := h
  exact h1.trans h2.le
theorem Rws.sl {rows : List (List Int)} (h : Rws H K v rows) : Sl (qXZ (eInt .u64)) K v rows := by
  obtain ⟨R, h1, h2⟩ := h
  obtain ⟨N, hN, hs⟩ := h2.made
  exact hs K h2.le hN.2.1
theorem regrow {K1 N : Heap} {sz : Nat} {e : TypeId} {cs : List Value} (h : Grown G K sz e v n cs) (hN : New K K1 N) : Grown (hun G N) K1 sz e v n cs := by
  have h' := Grown.le h hN.1
  obtain ⟨hle, ho, hn⟩ := h
  refine ⟨hN.le hle, h'.2.1, fun b hb => hun_none.2 ⟨hn b hb, ?_⟩⟩
  obtain ⟨_, _, e⟩ := ho.at_ hb
  cases he : N b with
  | none => rfl
  | some c => rw [hN.2.2 b (by rw [he]; simp)] at e; cases e
theorem Rws.snoc {K1 : Heap} {u : Value} {r : List Int} {rows : List (List Int)} {k : Value → Heap → Prop} (h : Rws H K v rows) (hu : GI K K1 u r) (hl : rows.length ≤ 1000000) (hk : ∀ v' K', Rws H K' v' (rows ++ [r]) → k v' K') : p3Z ty52 52 1 [((0, 1), u)] K1 fun s H1 => p4Z ty52 52 v s H1 k := by
  obtain ⟨R, h1, us, g1, g2, g3⟩ := h
  obtain ⟨N, hN, hs⟩ := hu.made
  have hle := g2.1
  have hR : RwE (hun R N) (hun R N) K1 v rows := ⟨us, g1, regrow g2 hN, fun j x r hx hr => (g3 j x r hx hr).mono (qNZ _ _)⟩
  exact hR.snoc (hs.mono (hN.right hle)) hl fun v' K' h' => hk v' K' ⟨hun R N, h1.trans (qNZ _ _), h'⟩
theorem tr_in {p d : Int} {mv zv ov : Value} {z : List Int} {K0 : Heap} (hp : Supp p) (hm : Sl (qXZ (eInt .u64)) K0 mv m) (hz : Sl (eInt .u64) K0 zv z) (hs : SqM p m) (hml : m.length ≤ 100) (hzl : z.length = m.length) (hzr : rng p z) (hd0 : 0 ≤ d) (hd1 : d < p) (hi : i < m.length) {kn : Value → Value → Value → Value → Value → Value → Value → Heap → Prop} {kx1 kx0} {Q : Ending → Heap → Prop}
    (hk : ∀ rv K, GI K0 K rv ((List.range m.length).map fun j => ((m.getD i []).getD j 0 + d * (z.getD i 0 * z.getD j 0 % p) % p) % p) → kn (.int .u64 p) mv (.int .u64 d) zv ov (.int .i64 i) rv K) :
    ∀ (r j : Nat) (rv : Value) (K : Heap), m.length - j = r → j ≤ m.length → GI K0 K rv ((List.range j).map fun j => ((m.getD i []).getD j 0 + d * (z.getD i 0 * z.getD j 0 % p) % p) % p) → L42_10 (.int .u64 p) mv (.int .u64 d) zv ov (.int .i64 i) rv (.int .i64 j) K kn kx1 kx0 Q := by
  have hpp := hp.pos
  intro r
  induction r with
  | zero =>
    intro j rv K hd hj h
    apply L42_10_round
    unfold m42_11
    have e : j = m.length := by omega
    subst e
    (repeat (first | refine qQZ (qDZ _) ?_ | refine qQZ (qEZ _) ?_ | refine qQZ (qFZ _ _) ?_ | refine qQZ (qGZ _ _) ?_ | refine qQZ (by (try with_reducible first | refine gV_F ?_ | refine gV_T ?_); first | exact hm.len | exact q1Z _ _ | exact q2Z _ _ _ | exact q3Z _ | exact q4Z _ | exact q5Z _ _ _ | exact q6Z _ _ _ | exact q7Z _ _ _ | exact q8Z _ _ _ | exact q9Z _ _ _ | exact q0Z _ _ _ | exact qHZ (by omega) (by omega) | exact qIZ (by omega) (by omega) | exact qAZ _ | exact qBZ _ _ _ | exact qCZ _ _ _) ?_ | refine qQZ (gV_F rfl) ?_ | refine qQZ (gV_T rfl) ?_))
    exact qJZ (fun hlt => absurd hlt (by omega)) (fun _ => hk rv K h)
  | succ r ih =>
    intro j rv K hd hj h
    apply L42_10_round
    unfold m42_11
    (repeat (first | refine qQZ (qDZ _) ?_ | refine qQZ (qEZ _) ?_ | refine qQZ (qFZ _ _) ?_ | refine qQZ (qGZ _ _) ?_ | refine qQZ (by (try with_reducible first | refine gV_F ?_ | refine gV_T ?_); first | exact hm.len | exact q1Z _ _ | exact q2Z _ _ _ | exact q3Z _ | exact q4Z _ | exact q5Z _ _ _ | exact q6Z _ _ _ | exact q7Z _ _ _ | exact q8Z _ _ _ | exact q9Z _ _ _ | exact q0Z _ _ _ | exact qHZ (by omega) (by omega) | exact qIZ (by omega) (by omega) | exact qAZ _ | exact qBZ _ _ _ | exact qCZ _ _ _) ?_ | refine qQZ (gV_F rfl) ?_ | refine qQZ (gV_T rfl) ?_))
    refine qJZ (fun hlt => ?_) (fun hlt => absurd (by omega) hlt)
    have hjl : j < m.length := by omega
    obtain ⟨pr, u, a1, a2, a3⟩ := hm.row hi (ti := ty52) rfl
    have hrow := hs.sq m[i] (List.getElem_mem _)
    have hrr := hs.rng m[i] (List.getElem_mem _)
    obtain ⟨pc, b1, b2⟩ := a3.word (i := j) (by omega) (ti := ty22) rfl
    obtain ⟨pz, c1, c2⟩ := hz.word (i := i) (by omega) (ti := ty22) rfl
    obtain ⟨py, d1, d2⟩ := hz.word (i := j) (by omega) (ti := ty22) rfl
    have r1 := hzr (z[i]'(by omega)) (List.getElem_mem _)
    have r2 := hzr (z[j]'(by omega)) (List.getElem_mem _)
    have r3 := hrr (m[i][j]'(by omega)) (List.getElem_mem _)
    have l := h.le
    (repeat (first | refine qQZ (qDZ _) ?_ | refine qQZ (qEZ _) ?_ | refine qQZ (qFZ _ _) ?_ | refine qQZ (qGZ _ _) ?_ | refine qQZ (by (try with_reducible first | refine gV_F ?_ | refine gV_T ?_); first | exact a1 | exact qKZ l a2 | exact b1 | exact qKZ l b2 | exact c1 | exact qKZ l c2 | exact d1 | exact qKZ l d2 | exact q1Z _ _ | exact q2Z _ _ _ | exact q3Z _ | exact q4Z _ | exact q5Z _ _ _ | exact q6Z _ _ _ | exact q7Z _ _ _ | exact q8Z _ _ _ | exact q9Z _ _ _ | exact q0Z _ _ _ | exact qHZ (by omega) (by omega) | exact qIZ (by omega) (by omega) | exact qAZ _ | exact qBZ _ _ _ | exact qCZ _ _ _) ?_ | refine qQZ (gV_F rfl) ?_ | refine qQZ (gV_T rfl) ?_))
    refine oRC_val (rmul_spec K hp r1.1 r1.2 r2.1 r2.2) ⟨qKZ l b2, qKZ l a2, ?_⟩
    have m1 := Int.emod_nonneg ((z[i]'(by omega)) * (z[j]'(by omega))) (show p ≠ 0 by omega)
    have m2 := Int.emod_lt_of_pos ((z[i]'(by omega)) * (z[j]'(by omega))) (show 0 < p by omega)
    refine oRC_val (rmul_spec K hp hd0 hd1 m1 m2) ⟨qKZ l b2, qKZ l a2, ?_⟩
    have m3 := Int.emod_nonneg (d * ((z[i]'(by omega)) * (z[j]'(by omega)) % p)) (show p ≠ 0 by omega)
    have m4 := Int.emod_lt_of_pos (d * ((z[i]'(by omega)) * (z[j]'(by omega)) % p)) (show 0 < p by omega)
    refine oRC_val (radd_spec K (by omega) r3.1 m3 (by omega)) ?_
    refine h.snoc (by simp; omega) fun rv' K' h' => ?_
    (repeat (first | refine qQZ (qDZ _) ?_ | refine qQZ (qEZ _) ?_ | refine qQZ (qFZ _ _) ?_ | refine qQZ (qGZ _ _) ?_ | refine qQZ (by (try with_reducible first | refine gV_F ?_ | refine gV_T ?_); first | exact add_one (a := j) (by omega) | exact q1Z _ _ | exact q2Z _ _ _ | exact q3Z _ | exact q4Z _ | exact q5Z _ _ _ | exact q6Z _ _ _ | exact q7Z _ _ _ | exact q8Z _ _ _ | exact q9Z _ _ _ | exact q0Z _ _ _ | exact qHZ (by omega) (by omega) | exact qIZ (by omega) (by omega) | exact qAZ _ | exact qBZ _ _ _ | exact qCZ _ _ _) ?_ | refine qQZ (gV_F rfl) ?_ | refine qQZ (gV_T rfl) ?_))
    refine ih (j + 1) rv' K' (by omega) (by omega) ?_
    rw [List.range_succ, List.map_append, List.map_singleton, p6Z hi, p6Z (show j < m[i].length by omega), p6Z (show i < z.length by omega), p6Z (show j < z.length by omega)]
    rw [p6Z hi, p6Z (show i < z.length by omega)] at h'
    exact h'
theorem translate_spec {p d : Int} {mv zv : Value} {z : List Int} (hp : Supp p) (hm : Sl (qXZ (eInt .u64)) H mv m) (hz : Sl (eInt .u64) H zv z) (hs : SqM p m) (hml : m.length ≤ 100) (hzl : z.length = m.length) (hzr : rng p z) (hd0 : 0 ≤ d) (hd1 : d < p) : qVZ Tryd.prog 42 [.int .u64 p, mv, .int .u64 d, zv] H (Ret fun v H' => Le H H' ∧ Sl (qXZ (eInt .u64)) H' v (transM p d m z)) := by
  apply call42
  unfold m42 m42_2
  suffices key : ∀ (r i : Nat) (ov : Value) (K : Heap), m.length - i = r → i ≤ m.length → Rws H K ov ((List.range i).map fun i => (List.range m.length).map fun j => ((m.getD i []).getD j 0 + d * (z.getD i 0 * z.getD j 0 % p) % p) % p) → L42_3 (.int .u64 p) mv (.int .u64 d) zv ov (.int .i64 i) K _ _ from key _ 0 _ H rfl (by omega) (Rws.nil H)
  intro r
  induction r with
  | zero =>
    intro i ov K hd hi h
    apply L42_3_round
    unfold m42_4
    have e : i = m.length := by omega
    subst e
    (repeat (first | refine qQZ (qDZ _) ?_ | refine qQZ (qEZ _) ?_ | refine qQZ (qFZ _ _) ?_ | refine qQZ (qGZ _ _) ?_ | refine qQZ (by (try with_reducible first | refine gV_F ?_ | refine gV_T ?_); first | exact hm.len | exact q1Z _ _ | exact q2Z _ _ _ | exact q3Z _ | exact q4Z _ | exact q5Z _ _ _ | exact q6Z _ _ _ | exact q7Z _ _ _ | exact q8Z _ _ _ | exact q9Z _ _ _ | exact q0Z _ _ _ | exact qHZ (by omega) (by omega) | exact qIZ (by omega) (by omega) | exact qAZ _ | exact qBZ _ _ _ | exact qCZ _ _ _) ?_ | refine qQZ (gV_F rfl) ?_ | refine qQZ (gV_T rfl) ?_))
    exact qJZ (fun hlt => absurd hlt (by omega)) (fun _ => ⟨h.le, h.sl⟩)
  | succ r ih =>
    intro i ov K hd hi h
    apply L42_3_round
    unfold m42_4
    (repeat (first | refine qQZ (qDZ _) ?_ | refine qQZ (qEZ _) ?_ | refine qQZ (qFZ _ _) ?_ | refine qQZ (qGZ _ _) ?_ | refine qQZ (by (try with_reducible first | refine gV_F ?_ | refine gV_T ?_); first | exact hm.len | exact q1Z _ _ | exact q2Z _ _ _ | exact q3Z _ | exact q4Z _ | exact q5Z _ _ _ | exact q6Z _ _ _ | exact q7Z _ _ _ | exact q8Z _ _ _ | exact q9Z _ _ _ | exact q0Z _ _ _ | exact qHZ (by omega) (by omega) | exact qIZ (by omega) (by omega) | exact qAZ _ | exact qBZ _ _ _ | exact qCZ _ _ _) ?_ | refine qQZ (gV_F rfl) ?_ | refine qQZ (gV_T rfl) ?_))
    refine qJZ (fun hlt => ?_) (fun hlt => absurd (by omega) hlt)
    unfold m42_6 m42_7 m42_9
    refine tr_in hp (hm.mono h.le) (hz.mono h.le) hs hml hzl hzr hd0 hd1 (by omega) (fun rv K1 hr => ?_) _ 0 _ K rfl (by omega) (GI.nil K)
    unfold m42_8
    refine h.snoc hr (by simp; omega) fun ov' K2 h2 => ?_
    unfold m42_5
    (repeat (first | refine qQZ (qDZ _) ?_ | refine qQZ (qEZ _) ?_ | refine qQZ (qFZ _ _) ?_ | refine qQZ (qGZ _ _) ?_ | refine qQZ (by (try with_reducible first | refine gV_F ?_ | refine gV_T ?_); first | exact add_one (a := i) (by omega) | exact q1Z _ _ | exact q2Z _ _ _ | exact q3Z _ | exact q4Z _ | exact q5Z _ _ _ | exact q6Z _ _ _ | exact q7Z _ _ _ | exact q8Z _ _ _ | exact q9Z _ _ _ | exact q0Z _ _ _ | exact qHZ (by omega) (by omega) | exact qIZ (by omega) (by omega) | exact qAZ _ | exact qBZ _ _ _ | exact qCZ _ _ _) ?_ | refine qQZ (gV_F rfl) ?_ | refine qQZ (gV_T rfl) ?_))
    refine ih (i + 1) ov' K2 (by omega) (by omega) ?_
    rw [List.range_succ, List.map_append, List.map_singleton]
    exact h2
end
end

section
open Go

def fillP (s : Scn) : Nat → Nat → List Int → List Int
  | 0, _, l => l
  | d + 1, i, l => if (l.length : Int) < s.T then fillP s d (i + 1) (if (i : Int) ∉ s.bad then l ++ [(i : Int)] else l) else l
def ptsP (s : Scn) : List Int := fillP s s.n 1 s.bad
section
variable {s : Scn}
theorem fillP_keep : ∀ (d i : Nat) (l : List Int), ∀ x ∈ l, x ∈ fillP s d i l
  | 0, _, _ => fun x hx => hx
  | d + 1, i, l => fun x hx => by
    unfold fillP
    split
    · refine fillP_keep d (i + 1) _ x ?_
      split
      · exact List.mem_append_left _ hx
      · exact hx
    · exact hx
theorem fillP_in {n : Nat} : ∀ (d i : Nat) (l : List Int), 1 ≤ i → i + d ≤ n + 1 → (∀ x ∈ l, 1 ≤ x ∧ x ≤ n) → ∀ x ∈ fillP s d i l, 1 ≤ x ∧ x ≤ n
  | 0, _, _ => fun _ _ h => h
  | d + 1, i, l => fun h1 h2 h => by
    unfold fillP
    split
    · refine fillP_in d (i + 1) _ (by omega) (by omega) ?_
      split
      · intro x hx
        rcases List.mem_append.1 hx with hx | hx
        · exact h x hx
        · rw [List.mem_singleton.1 hx]
          omega
      · exact h
    · exact h
theorem fillP_le : ∀ (d i : Nat) (l : List Int), (l.length : Int) ≤ s.T → ((fillP s d i l).length : Int) ≤ s.T
  | 0, _, _ => fun h => h
  | d + 1, i, l => fun h => by
    unfold fillP
    split
    · refine fillP_le d (i + 1) _ ?_
      split
      · simp; omega
      · exact h
    · exact h
def cntP (l : List Int) (i : Nat) : Nat := (l.filter fun x => decide (x < (i : Int))).length
theorem cntP_mono (i : Nat) : ∀ l : List Int, cntP l i ≤ cntP l (i + 1)
  | [] => Nat.le_refl _
  | x :: l => by
    have := cntP_mono i l
    unfold cntP at this ⊢
    by_cases c : x < (i : Int)
    · rw [List.filter_cons_of_pos (by simpa using c), List.filter_cons_of_pos (by simp; omega), List.length_cons, List.length_cons]
      omega
    · rw [List.filter_cons_of_neg (by simpa using c)]
      by_cases c2 : x < ((i + 1 : Nat) : Int)
      · rw [List.filter_cons_of_pos (by simpa using c2), List.length_cons]
        omega
      · rw [List.filter_cons_of_neg (by simpa using c2)]
        exact this
theorem cntP_step (i : Nat) : ∀ l : List Int, (i : Int) ∈ l → cntP l i + 1 ≤ cntP l (i + 1)
  | [] => fun hm => by cases hm
  | x :: l => fun hm => by
    have hmono := cntP_mono i l
    by_cases e : x = (i : Int)
    · subst e
      unfold cntP at hmono ⊢
      rw [List.filter_cons_of_neg (by simp), List.filter_cons_of_pos (by simp; omega), List.length_cons]
      omega
    · have hm2 : (i : Int) ∈ l := by
        rcases List.mem_cons.1 hm with h | h
        · exact absurd h.symm e
        · exact h
      have := cntP_step i l hm2
      unfold cntP at this ⊢
      by_cases c : x < (i : Int)
      · rw [List.filter_cons_of_pos (by simpa using c), List.filter_cons_of_pos (by simp; omega), List.length_cons, List.length_cons]
        omega
      · rw [List.filter_cons_of_neg (by simpa using c)]
        by_cases c2 : x < ((i + 1 : Nat) : Int)
        · rw [List.filter_cons_of_pos (by simpa using c2), List.length_cons]
          omega
        · rw [List.filter_cons_of_neg (by simpa using c2)]
          exact this
theorem fillP_ge {n : Nat} (hT : s.T ≤ n) : ∀ (d i : Nat) (l : List Int), 1 ≤ i → i + d = n + 1 → s.bad.length + (i - 1) ≤ l.length + cntP s.bad i → s.T ≤ ((fillP s d i l).length : Int)
  | 0, i, l => fun h1 h2 h => by
    have : cntP s.bad i ≤ s.bad.length := List.length_filter_le _ _
    show s.T ≤ (l.length : Int)
    omega
  | d + 1, i, l => fun h1 h2 h => by
    unfold fillP
    split
    · refine fillP_ge hT d (i + 1) _ (by omega) (by omega) ?_
      split
      · have := cntP_mono i s.bad
        rw [List.length_append, List.length_singleton]
        omega
      · rename_i hb
        have := cntP_step i s.bad (Classical.byContradiction hb)
        omega
    · omega
variable {q : List (List (List Int))}
theorem DealOk.bads (h : DealOk s q) : ∀ x ∈ s.bad, 1 ≤ x ∧ x ≤ (s.n : Int) := fun x hx => by
  obtain ⟨j, hj, rfl⟩ := List.mem_iff_getElem.1 hx
  obtain ⟨h1, h2, _⟩ := h.v.coal.2 j hj
  have := h.n.1
  omega
theorem pts_ok (h : DealOk s q) : ((ptsP s).length : Int) = s.T ∧ (∀ x ∈ ptsP s, 1 ≤ x ∧ x ≤ 7) ∧ ∀ x ∈ s.bad, x ∈ ptsP s := by
  obtain ⟨hn, _, hn7, hn4⟩ := h.n
  have hT := h.t
  have h1 := fillP_le (s := s) s.n 1 s.bad h.v.coal.1
  have h2 := fillP_ge (s := s) (n := s.n) (by omega) s.n 1 s.bad (by omega) (by omega) (by omega)
  refine ⟨by unfold ptsP; omega, fun x hx => ?_, fillP_keep _ _ _⟩
  have := fillP_in (s := s) (n := s.n) s.n 1 s.bad (by omega) (by omega) h.bads x hx
  omega
theorem pts_root (h : DealOk s q) {x : Int} (hx : x ∈ s.bad) : Root s.P x (vanP s.P [1] (ptsP s)) := by
  obtain ⟨h1, h2, h3⟩ := pts_ok h
  have hm := h3 x hx
  obtain ⟨hp, _⟩ := h.v.par
  rcases h.t with e | e
  · obtain ⟨a, ea⟩ := len1 (l := ptsP s) (by omega)
    rw [ea] at hm h2 ⊢
    rw [List.mem_singleton.1 hm]
    have := h2 a (by simp)
    exact root1 hp this.1 this.2
  · obtain ⟨a, b, ea⟩ := len2 (l := ptsP s) (by omega)
    rw [ea] at hm h2 ⊢
    exact root2 hp (h2 a (by simp)) (h2 b (by simp)) (by simpa using hm)
end
section
variable {H : Heap} {s : Scn} {q : List (List (List Int))} {cv dv tv : Value}
theorem SAt.t2 {i : Nat} (h : SAt H i s cv dv tv) : qWZ ty3 (.pointer (some ⟨i, 2, none⟩)) H = some (.int .i64 s.T) := by simp only [qWZ, h.blk]; rfl
theorem vanish18_spec (hok : ScnOk H s cv dv tv) (hD : DealOk s q) : qVZ Tryd.prog 43 [scnVal s cv dv tv] H (Ret fun v H' => GI H H' v (vanP s.P [1] (ptsP s))) := by
  obtain ⟨hn, _, hn7, hn4⟩ := hD.n
  obtain ⟨hp, _⟩ := hD.v.par
  have hT := hD.t
  have hbl := hD.v.coal.1
  obtain ⟨pl, pr, _⟩ := pts_ok hD
  have hmx := hok.bad.max
  apply call43
  unfold m43 m43_6
  refine scn_new s cv dv tv fun i1 H1 l1 hs => ?_
  -- the rest
  have fin : ∀ (xv : Value) (K : Heap), GI H1 K xv (ptsP s) → m43_2 (qTZ i1) xv K (Ret fun v H' => GI H H' v (vanP s.P [1] (ptsP s))) := fun xv K h => by
    have l := h.le
    unfold m43_2
    (repeat (first | refine qQZ (qDZ _) ?_ | refine qQZ (qEZ _) ?_ | refine qQZ (qFZ _ _) ?_ | refine qQZ (qGZ _ _) ?_ | refine qQZ (by (try with_reducible first | refine gV_F ?_ | refine gV_T ?_); first | exact (hs.mono l).p | exact q1Z _ _ | exact q2Z _ _ _ | exact q3Z _ | exact q4Z _ | exact q5Z _ _ _ | exact q6Z _ _ _ | exact q7Z _ _ _ | exact q8Z _ _ _ | exact q9Z _ _ _ | exact q0Z _ _ _ | exact qHZ (by omega) (by omega) | exact qIZ (by omega) (by omega) | exact qAZ _ | exact qBZ _ _ _ | exact qCZ _ _ _) ?_ | refine qQZ (gV_F rfl) ?_ | refine qQZ (gV_T rfl) ?_))
    refine p9Z (vanish10_spec hp h.sl pr (by omega)) fun v K2 hv => ?_
    exact Grown.less hv (l1.trans h.le)
  have fill : ∀ (d i : Nat) (xv : Value) (l : List Int) (K : Heap), 1 ≤ i → i + d = s.n + 1 → l.length ≤ 100 → GI H1 K xv l → fillP s d i l = ptsP s → L43_4 (qTZ i1) xv (.int .i64 i) K (fun y1 y3 K' => m43_2 y1 y3 K' (Ret fun v H' => GI H H' v (vanP s.P [1] (ptsP s)))) (Ret fun v H' => GI H H' v (vanP s.P [1] (ptsP s))) := by
    intro d
    induction d with
    | zero =>
      intro i xv l K h1 hi hl h hv
      apply L43_4_round
      unfold m43_5
      have lK := h.le
      have hsK := hs.mono lK
      (repeat (first | refine qQZ (qDZ _) ?_ | refine qQZ (qEZ _) ?_ | refine qQZ (qFZ _ _) ?_ | refine qQZ (qGZ _ _) ?_ | refine qQZ (by (try with_reducible first | refine gV_F ?_ | refine gV_T ?_); first | exact hsK.n | exact q8Z .i64 (i : Int) s.N | exact q1Z _ _ | exact q2Z _ _ _ | exact q3Z _ | exact q4Z _ | exact q5Z _ _ _ | exact q6Z _ _ _ | exact q7Z _ _ _ | exact q8Z _ _ _ | exact q9Z _ _ _ | exact q0Z _ _ _ | exact qHZ (by omega) (by omega) | exact qIZ (by omega) (by omega) | exact qAZ _ | exact qBZ _ _ _ | exact qCZ _ _ _) ?_ | refine qQZ (gV_F rfl) ?_ | refine qQZ (gV_T rfl) ?_))
      rw [decide_eq_false (show ¬ (i : Int) ≤ s.N by omega)]
      (repeat (first | refine qQZ (qDZ _) ?_ | refine qQZ (qEZ _) ?_ | refine qQZ (qFZ _ _) ?_ | refine qQZ (qGZ _ _) ?_ | refine qQZ (by (try with_reducible first | refine gV_F ?_ | refine gV_T ?_); first | exact q1Z _ _ | exact q2Z _ _ _ | exact q3Z _ | exact q4Z _ | exact q5Z _ _ _ | exact q6Z _ _ _ | exact q7Z _ _ _ | exact q8Z _ _ _ | exact q9Z _ _ _ | exact q0Z _ _ _ | exact qHZ (by omega) (by omega) | exact qIZ (by omega) (by omega) | exact qAZ _ | exact qBZ _ _ _ | exact qCZ _ _ _) ?_ | refine qQZ (gV_F rfl) ?_ | refine qQZ (gV_T rfl) ?_))
      refine qLZ (fin xv K ?_)
      rw [← hv]
      exact h
    | succ d ih =>
      intro i xv l K h1 hi hl h hv
      apply L43_4_round
      unfold m43_5
      have lK := h.le
      have hsK := hs.mono lK
      (repeat (first | refine qQZ (qDZ _) ?_ | refine qQZ (qEZ _) ?_ | refine qQZ (qFZ _ _) ?_ | refine qQZ (qGZ _ _) ?_ | refine qQZ (by (try with_reducible first | refine gV_F ?_ | refine gV_T ?_); first | exact hsK.n | exact q8Z .i64 (i : Int) s.N | exact q1Z _ _ | exact q2Z _ _ _ | exact q3Z _ | exact q4Z _ | exact q5Z _ _ _ | exact q6Z _ _ _ | exact q7Z _ _ _ | exact q8Z _ _ _ | exact q9Z _ _ _ | exact q0Z _ _ _ | exact qHZ (by omega) (by omega) | exact qIZ (by omega) (by omega) | exact qAZ _ | exact qBZ _ _ _ | exact qCZ _ _ _) ?_ | refine qQZ (gV_F rfl) ?_ | refine qQZ (gV_T rfl) ?_))
      rw [decide_eq_true (show (i : Int) ≤ s.N by omega)]
      (repeat (first | refine qQZ (qDZ _) ?_ | refine qQZ (qEZ _) ?_ | refine qQZ (qFZ _ _) ?_ | refine qQZ (qGZ _ _) ?_ | refine qQZ (by (try with_reducible first | refine gV_F ?_ | refine gV_T ?_); first | exact h.len | exact hsK.t2 | exact q7Z .i64 (l.length : Int) s.T | exact q1Z _ _ | exact q2Z _ _ _ | exact q3Z _ | exact q4Z _ | exact q5Z _ _ _ | exact q6Z _ _ _ | exact q7Z _ _ _ | exact q8Z _ _ _ | exact q9Z _ _ _ | exact q0Z _ _ _ | exact qHZ (by omega) (by omega) | exact qIZ (by omega) (by omega) | exact qAZ _ | exact qBZ _ _ _ | exact qCZ _ _ _) ?_ | refine qQZ (gV_F rfl) ?_ | refine qQZ (gV_T rfl) ?_))
      unfold fillP at hv
      refine qJZ (fun hlt => ?_) (fun hlt => ?_)
      · rw [if_pos hlt] at hv
        (repeat (first | refine qQZ (qDZ _) ?_ | refine qQZ (qEZ _) ?_ | refine qQZ (qFZ _ _) ?_ | refine qQZ (qGZ _ _) ?_ | refine qQZ (by (try with_reducible first | refine gV_F ?_ | refine gV_T ?_); first | exact hsK.all | exact q1Z _ _ | exact q2Z _ _ _ | exact q3Z _ | exact q4Z _ | exact q5Z _ _ _ | exact q6Z _ _ _ | exact q7Z _ _ _ | exact q8Z _ _ _ | exact q9Z _ _ _ | exact q0Z _ _ _ | exact qHZ (by omega) (by omega) | exact qIZ (by omega) (by omega) | exact qAZ _ | exact qBZ _ _ _ | exact qCZ _ _ _) ?_ | refine qQZ (gV_F rfl) ?_ | refine qQZ (gV_T rfl) ?_))
        refine oRC_grow (honest_spec ((hok.mono l1).mono lK).bad (i : Int)) fun K2 l2 => ?_
        by_cases hb : (i : Int) ∉ s.bad
        · rw [if_pos hb] at hv
          rw [decide_eq_true hb]
          refine qMZ ?_
          (repeat (first | refine qQZ (qDZ _) ?_ | refine qQZ (qEZ _) ?_ | refine qQZ (qFZ _ _) ?_ | refine qQZ (qGZ _ _) ?_ | refine qQZ (by (try with_reducible first | refine gV_F ?_ | refine gV_T ?_); first | exact conv_u64 (x := (i : Int)) (by omega) (by omega) | exact q1Z _ _ | exact q2Z _ _ _ | exact q3Z _ | exact q4Z _ | exact q5Z _ _ _ | exact q6Z _ _ _ | exact q7Z _ _ _ | exact q8Z _ _ _ | exact q9Z _ _ _ | exact q0Z _ _ _ | exact qHZ (by omega) (by omega) | exact qIZ (by omega) (by omega) | exact qAZ _ | exact qBZ _ _ _ | exact qCZ _ _ _) ?_ | refine qQZ (gV_F rfl) ?_ | refine qQZ (gV_T rfl) ?_))
          refine (h.mono l2).snoc (by omega) fun v3 K3 h3 => ?_
          (repeat (first | refine qQZ (qDZ _) ?_ | refine qQZ (qEZ _) ?_ | refine qQZ (qFZ _ _) ?_ | refine qQZ (qGZ _ _) ?_ | refine qQZ (by (try with_reducible first | refine gV_F ?_ | refine gV_T ?_); first | exact add_one (a := i) (by omega) | exact q1Z _ _ | exact q2Z _ _ _ | exact q3Z _ | exact q4Z _ | exact q5Z _ _ _ | exact q6Z _ _ _ | exact q7Z _ _ _ | exact q8Z _ _ _ | exact q9Z _ _ _ | exact q0Z _ _ _ | exact qHZ (by omega) (by omega) | exact qIZ (by omega) (by omega) | exact qAZ _ | exact qBZ _ _ _ | exact qCZ _ _ _) ?_ | refine qQZ (gV_F rfl) ?_ | refine qQZ (gV_T rfl) ?_))
          exact ih (i + 1) v3 _ K3 (by omega) (by omega) (by simp; omega) h3 hv
        · rw [if_neg hb] at hv
          rw [decide_eq_false hb]
          refine qLZ ?_
          (repeat (first | refine qQZ (qDZ _) ?_ | refine qQZ (qEZ _) ?_ | refine qQZ (qFZ _ _) ?_ | refine qQZ (qGZ _ _) ?_ | refine qQZ (by (try with_reducible first | refine gV_F ?_ | refine gV_T ?_); first | exact add_one (a := i) (by omega) | exact q1Z _ _ | exact q2Z _ _ _ | exact q3Z _ | exact q4Z _ | exact q5Z _ _ _ | exact q6Z _ _ _ | exact q7Z _ _ _ | exact q8Z _ _ _ | exact q9Z _ _ _ | exact q0Z _ _ _ | exact qHZ (by omega) (by omega) | exact qIZ (by omega) (by omega) | exact qAZ _ | exact qBZ _ _ _ | exact qCZ _ _ _) ?_ | refine qQZ (gV_F rfl) ?_ | refine qQZ (gV_T rfl) ?_))
          exact ih (i + 1) xv l K2 (by omega) (by omega) hl (h.mono l2) hv
      · rw [if_neg hlt] at hv
        refine fin xv K ?_
        rw [← hv]
        exact h
  suffices key : ∀ (d k : Nat) (xv : Value) (K : Heap), s.bad.length - k = d → k ≤ s.bad.length → GI H1 K xv (s.bad.take k) → L43_7 (qTZ i1) xv (.int .i64 k) K _ _ from key _ 0 _ H1 rfl (by omega) (by simpa using GI.nil H1)
  intro d
  induction d with
  | zero =>
    intro k xv K hd hk h
    apply L43_7_round
    unfold m43_8
    have hsK := hs.mono h.le
    (repeat (first | refine qQZ (qDZ _) ?_ | refine qQZ (qEZ _) ?_ | refine qQZ (qFZ _ _) ?_ | refine qQZ (qGZ _ _) ?_ | refine qQZ (by (try with_reducible first | refine gV_F ?_ | refine gV_T ?_); first | exact hsK.c | exact hok.bad.len | exact q1Z _ _ | exact q2Z _ _ _ | exact q3Z _ | exact q4Z _ | exact q5Z _ _ _ | exact q6Z _ _ _ | exact q7Z _ _ _ | exact q8Z _ _ _ | exact q9Z _ _ _ | exact q0Z _ _ _ | exact qHZ (by omega) (by omega) | exact qIZ (by omega) (by omega) | exact qAZ _ | exact qBZ _ _ _ | exact qCZ _ _ _) ?_ | refine qQZ (gV_F rfl) ?_ | refine qQZ (gV_T rfl) ?_))
    refine qJZ (fun hlt => absurd hlt (by omega)) (fun _ => ?_)
    unfold m43_1 m43_3
    rw [List.take_of_length_le (by omega)] at h
    exact fill s.n 1 xv s.bad K (by omega) (by omega) (by omega) h rfl
  | succ d ih =>
    intro k xv K hd hk h
    apply L43_7_round
    unfold m43_8
    have hsK := hs.mono h.le
    (repeat (first | refine qQZ (qDZ _) ?_ | refine qQZ (qEZ _) ?_ | refine qQZ (qFZ _ _) ?_ | refine qQZ (qGZ _ _) ?_ | refine qQZ (by (try with_reducible first | refine gV_F ?_ | refine gV_T ?_); first | exact hsK.c | exact hok.bad.len | exact q1Z _ _ | exact q2Z _ _ _ | exact q3Z _ | exact q4Z _ | exact q5Z _ _ _ | exact q6Z _ _ _ | exact q7Z _ _ _ | exact q8Z _ _ _ | exact q9Z _ _ _ | exact q0Z _ _ _ | exact qHZ (by omega) (by omega) | exact qIZ (by omega) (by omega) | exact qAZ _ | exact qBZ _ _ _ | exact qCZ _ _ _) ?_ | refine qQZ (gV_F rfl) ?_ | refine qQZ (gV_T rfl) ?_))
    refine qJZ (fun hlt => ?_) (fun hlt => absurd (by omega) hlt)
    have hkl : k < s.bad.length := by omega
    have hb := hD.bads s.bad[k] (List.getElem_mem _)
    obtain ⟨pt, a1, a2⟩ := hok.bad.word (i := k) hkl (ti := ty3) rfl
    (repeat (first | refine qQZ (qDZ _) ?_ | refine qQZ (qEZ _) ?_ | refine qQZ (qFZ _ _) ?_ | refine qQZ (qGZ _ _) ?_ | refine qQZ (by (try with_reducible first | refine gV_F ?_ | refine gV_T ?_); first | exact hsK.c | exact a1 | exact qKZ (l1.trans h.le) a2 | exact conv_u64 (x := s.bad[k]) (by omega) (by omega) | exact q1Z _ _ | exact q2Z _ _ _ | exact q3Z _ | exact q4Z _ | exact q5Z _ _ _ | exact q6Z _ _ _ | exact q7Z _ _ _ | exact q8Z _ _ _ | exact q9Z _ _ _ | exact q0Z _ _ _ | exact qHZ (by omega) (by omega) | exact qIZ (by omega) (by omega) | exact qAZ _ | exact qBZ _ _ _ | exact qCZ _ _ _) ?_ | refine qQZ (gV_F rfl) ?_ | refine qQZ (gV_T rfl) ?_))
    refine h.snoc (by rw [List.length_take]; omega) fun v' K' h' => ?_
    (repeat (first | refine qQZ (qDZ _) ?_ | refine qQZ (qEZ _) ?_ | refine qQZ (qFZ _ _) ?_ | refine qQZ (qGZ _ _) ?_ | refine qQZ (by (try with_reducible first | refine gV_F ?_ | refine gV_T ?_); first | exact add_one (a := k) (by omega) | exact q1Z _ _ | exact q2Z _ _ _ | exact q3Z _ | exact q4Z _ | exact q5Z _ _ _ | exact q6Z _ _ _ | exact q7Z _ _ _ | exact q8Z _ _ _ | exact q9Z _ _ _ | exact q0Z _ _ _ | exact qHZ (by omega) (by omega) | exact qIZ (by omega) (by omega) | exact qAZ _ | exact qBZ _ _ _ | exact qCZ _ _ _) ?_ | refine qQZ (gV_F rfl) ?_ | refine qQZ (gV_T rfl) ?_))
    refine ih (k + 1) v' K' (by omega) (by omega) ?_
    rw [List.take_succ_eq_append_getElem hkl]
    exact h'
end
end

section
open Go

theorem emptyS {te : TI} {e : TypeId} {H : Heap} {k : Value → Heap → Prop} (hs : te.size = 1) (hby : te.bytes = 24) (hk : ∀ s H1, Le H H1 → (∀ (α : Type) (e0 : El α) (R : Heap) (v : Value) (rows : List (List α)) (k' : Value → Heap → Prop), Le R H → Sl (qXZ e0) R v rows → rows.length ≤ 1000 → (∀ v' H' us, Grown H H' 1 e v' rows.length us → us.length = rows.length → (∀ (j : Nat) u r, us[j]? = some u → rows[j]? = some r → Sl e0 R u r) → k' v' H') → p4Z te e s v H1 k') → k s H1) : p3Z te e 0 [] H k := by
  refine emptyG (by omega) fun s H1 l1 app => hk s H1 l1 fun α e0 R v rows k' hl0 hv hl hk' => ?_
  obtain ⟨b, cap, us, rfl, h1, h2, h3, h4, h5⟩ := hv.slices
  refine app b rows.length cap us k' (by rw [hs]; exact rdSlice_mono hl0 h3) (fun c hc => ?_) (by rw [hby]; omega) (by omega) (by rw [hs, h4, Nat.mul_one]) fun v' H' g => hk' v' H' us (by rw [hs] at g; exact g) h4 h5
  obtain ⟨j, hj, rfl⟩ := List.mem_iff_getElem.1 hc
  exact (h5 j _ _ (List.getElem?_eq_getElem hj) (List.getElem?_eq_getElem (show j < rows.length by omega))).cell.2
theorem part_grown {R N : Heap} {e : TypeId} {v : Value} {n : Nat} {us : List Value} (o : Own 1 e N v n us) (hd : ∀ b, N b ≠ none → R b = none) : Grown R (hun R N) 1 e v n us :=
  ⟨qNZ _ _, o.mono fun j hj => by
    obtain ⟨_, _, h⟩ := o.at_ hj
    rw [h, hun_right hd j _ h], fun j hj => by
    obtain ⟨_, _, h⟩ := o.at_ hj
    exact hd j (by rw [h]; simp)⟩
theorem scn_var2 {G H : Heap} {s : Scn} {cv dv tv : Value} {k : Nat → Heap → Prop} (hok : ScnOk G s cv dv tv) (hk : ∀ i, H i = none → k i (hins H i (.cells [.int .u64 s.P, .int .i64 s.N, .int .i64 s.T, cv, dv, tv] 6 29 true))) :
    oNew (Value.cells ty29.zero).toList (Value.cells ty29.zero).toList.length 29 H fun i H1 => oHeap (p2Z ty29 (qTZ i) (scnVal s cv dv tv) H1) fun H2 => k i H2 := by
  obtain ⟨_, _, _, rfl, _⟩ := id hok.bad
  obtain ⟨_, _, _, rfl, _⟩ := id hok.devs
  obtain ⟨_, _, _, rfl, _⟩ := id hok.tapes
  show oNew [.int .u64 0, .int .i64 0, .int .i64 0, .slice none 0 0, .slice none 0 0, .slice none 0 0] 6 29 H _
  intro i hi
  refine p8Z (v := hins (hins H i (.cells [.int .u64 0, .int .i64 0, .int .i64 0, .slice none 0 0, .slice none 0 0, .slice none 0 0] 6 29 true)) i _) (by simp only [p2Z, qTZ, hins_self]; rfl) ?_
  rw [hins_hins]
  exact hk i hi
theorem own_slices {α : Type} {e0 : El α} {H : Heap} {t : TypeId} {v : Value} {us : List Value} {rows : List (List α)} (h : Own 1 t H v rows.length us) (hu : us.length = rows.length) (hx : ∀ (j : Nat) u r, us[j]? = some u → rows[j]? = some r → Sl e0 H u r) : Sl (qXZ e0) H v rows :=
  Own.sl (e := qXZ e0) h fun i x hi => by
    obtain ⟨hl, _⟩ := List.getElem?_eq_some_iff.1 hi
    have e := List.getElem?_eq_getElem (show i < us.length by omega)
    exact ⟨us[i]'(by omega), one_get _ i _ e, hx i _ x e hi⟩
theorem set_rel {α : Type} {P : Value → α → Prop} {us : List Value} {rows : List α} {j : Nat} {u : Value} {r : α} (h : ∀ (i : Nat) x y, us[i]? = some x → rows[i]? = some y → P x y) (hu : P u r) : ∀ (i : Nat) x y, (us.set j u)[i]? = some x → (rows.set j r)[i]? = some y → P x y := fun i x y hx hy => by
  rw [List.getElem?_set] at hx hy
  by_cases e : j = i
  · rw [if_pos e] at hx hy
    split at hx
    · split at hy
      · cases hx; cases hy; exact hu
      · cases hy
    · cases hx
  · rw [if_neg e] at hx hy
    exact h i x y hx hy
def movR (s : Scn) (d0 k : Nat) : List Int := ((s.tapes.getD d0 []).drop (k * restN s.T)).take (restN s.T)
def movM (s : Scn) (q : List (List (List Int))) (d0 k : Nat) (d : Int) : List (List Int) := transM s.P d (newM ((q.getD d0 []).getD k []) (movR s d0 k)) (vanP s.P [1] (ptsP s))
def movT (s : Scn) (q : List (List (List Int))) (d0 k : Nat) (d : Int) : List (List Int) := s.tapes.set d0 ((s.tapes.getD d0 []).take (k * restN s.T) ++ restM (movM s q d0 k d) s.T.toNat ++ (s.tapes.getD d0 []).drop (k * restN s.T + restN s.T))
def movQ (s : Scn) (q : List (List (List Int))) (d0 k : Nat) (d : Int) : List (List (List Int)) := q.set d0 ((q.getD d0 []).set k ((movM s q d0 k d).getD 0 []))
section
variable {H : Heap} {s : Scn} {q : List (List (List Int))} {cv dv tv qv : Value} {d0 k : Nat} {d : Int}
theorem mov_facts (hD : DealOk s q) (hd0 : d0 < s.n) (hk : k < (q.getD d0 []).length) : ∃ f' r', movM s q d0 k d = newM f' r' ∧ newOk f' r' ∧ (f'.length : Int) = s.T + 1 ∧ r'.length = restN s.T ∧ rng s.P f' ∧ rng s.P r' ∧ (movM s q d0 k d).getD 0 [] = f' ∧ restM (movM s q d0 k d) s.T.toNat = r' ∧ ∀ x, Root s.P x (vanP s.P [1] (ptsP s)) → rowL s.P x (newM f' r') = rowL s.P x (newM ((q.getD d0 []).getD k []) (movR s d0 k)) := by
  obtain ⟨hn, hqn, hn7, hn4⟩ := hD.n
  have hp := hD.pos
  have hno := hD.newOk (d := d0) (by omega) hk
  have hqw := hD.qw d0 (by omega) _ (List.getElem_mem hk)
  rw [← p6Z (d := []) hk] at hqw
  obtain ⟨pl, _, _⟩ := pts_ok hD
  have hT := hD.t
  have hrl : (movR s d0 k).length = restN s.T := by
    have h2 := hD.tw d0 (by omega)
    have h3 : (k + 1) * restN s.T ≤ (q.getD d0 []).length * restN s.T := Nat.mul_le_mul_right _ hk
    rw [Nat.succ_mul] at h3
    unfold movR
    rw [List.length_take, List.length_drop]
    omega
  obtain ⟨f', r', e, h1, h2, h3, h4, h5, h6, h7, h8⟩ := trans_new (p := s.P) (d := d) (z := vanP s.P [1] (ptsP s)) (by omega) hno hqw.2 (rng_take (rng_drop (hD.tr d0) _) _) (by rw [vanP_len]; simp only [List.length_singleton]; omega)
  have e' : movM s q d0 k d = newM f' r' := e
  refine ⟨f', r', e', h1, by omega, by rw [h3]; exact hrl, h4, h5, by rw [e']; exact h6, ?_, h8⟩
  have hq1 := hqw.1
  rw [e', show s.T.toNat = ((q.getD d0 []).getD k []).length - 1 by omega]
  exact h7
def Movd (s : Scn) (q : List (List (List Int))) (cv dv : Value) (d0 k : Nat) (d : Int) (H : Heap) : Ending → Heap → Prop := Ret fun v H' => ∃ tv' qv', v = .tuple #[scnVal (s.re (movT s q d0 k d)) cv dv tv', qv'] ∧ Le H H' ∧ Sl (qXZ (eInt .u64)) H' tv' (movT s q d0 k d) ∧ Sl (qXZ (qXZ (eInt .u64))) H' qv' (movQ s q d0 k d)
theorem mov_loop {m : List (List Int)} {T : Nat} {G : Heap} {mv x1 x2 x3 x5 x10 x13 : Value} (hm : Sl (qXZ (eInt .u64)) G mv m) (hml : m.length = T + 1) (hrow : ∀ r ∈ m, r.length = m.length) (hT : T ≤ 10) {kn : Value → Value → Value → Value → Value → Value → Value → Value → Value → Heap → Prop} {Q : Ending → Heap → Prop}
    (hkn : ∀ rv K, GI G K rv (restM m T) → kn x1 x2 x3 x5 x10 (.int .i64 T) x13 mv rv K) :
    ∀ (r j : Nat) (rv : Value) (K : Heap), T - j = r → j ≤ T → (restM m j).length ≤ 100 * j → GI G K rv (restM m j) → L40_3 x1 x2 x3 x5 x10 (.int .i64 T) x13 mv rv (.int .i64 (j + 1 : Nat)) K kn Q := by
  intro r
  induction r with
  | zero =>
    intro j rv K hd hj hl h
    apply L40_3_round
    unfold m40_4
    have e : j = T := by omega
    subst e
    (repeat (first | refine qQZ (qDZ _) ?_ | refine qQZ (qEZ _) ?_ | refine qQZ (qFZ _ _) ?_ | refine qQZ (qGZ _ _) ?_ | refine qQZ (by (try with_reducible first | refine gV_F ?_ | refine gV_T ?_); first | exact q1Z _ _ | exact q2Z _ _ _ | exact q3Z _ | exact q4Z _ | exact q5Z _ _ _ | exact q6Z _ _ _ | exact q7Z _ _ _ | exact q8Z _ _ _ | exact q9Z _ _ _ | exact q0Z _ _ _ | exact qHZ (by omega) (by omega) | exact qIZ (by omega) (by omega) | exact qAZ _ | exact qBZ _ _ _ | exact qCZ _ _ _) ?_ | refine qQZ (gV_F rfl) ?_ | refine qQZ (gV_T rfl) ?_))
    exact qJZ (fun hlt => absurd hlt (by omega)) (fun _ => hkn rv K h)
  | succ r ih =>
    intro j rv K hd hj hl h
    apply L40_3_round
    unfold m40_4
    (repeat (first | refine qQZ (qDZ _) ?_ | refine qQZ (qEZ _) ?_ | refine qQZ (qFZ _ _) ?_ | refine qQZ (qGZ _ _) ?_ | refine qQZ (by (try with_reducible first | refine gV_F ?_ | refine gV_T ?_); first | exact q1Z _ _ | exact q2Z _ _ _ | exact q3Z _ | exact q4Z _ | exact q5Z _ _ _ | exact q6Z _ _ _ | exact q7Z _ _ _ | exact q8Z _ _ _ | exact q9Z _ _ _ | exact q0Z _ _ _ | exact qHZ (by omega) (by omega) | exact qIZ (by omega) (by omega) | exact qAZ _ | exact qBZ _ _ _ | exact qCZ _ _ _) ?_ | refine qQZ (gV_F rfl) ?_ | refine qQZ (gV_T rfl) ?_))
    refine qJZ (fun hlt => ?_) (fun hlt => absurd (by omega) hlt)
    have hjl : j + 1 < m.length := by omega
    obtain ⟨pt, u, a1, a2, a3⟩ := hm.row hjl (ti := ty52) rfl
    have hrl := hrow m[j + 1] (List.getElem_mem _)
    obtain ⟨w, b1, b2⟩ := a3.from (k1 := .i64) (a := j + 1) (by omega) (by omega)
    (repeat (first | refine qQZ (qDZ _) ?_ | refine qQZ (qEZ _) ?_ | refine qQZ (qFZ _ _) ?_ | refine qQZ (qGZ _ _) ?_ | refine qQZ (by (try with_reducible first | refine gV_F ?_ | refine gV_T ?_); first | exact a1 | exact qKZ h.le a2 | exact b1 | exact q1Z _ _ | exact q2Z _ _ _ | exact q3Z _ | exact q4Z _ | exact q5Z _ _ _ | exact q6Z _ _ _ | exact q7Z _ _ _ | exact q8Z _ _ _ | exact q9Z _ _ _ | exact q0Z _ _ _ | exact qHZ (by omega) (by omega) | exact qIZ (by omega) (by omega) | exact qAZ _ | exact qBZ _ _ _ | exact qCZ _ _ _) ?_ | refine qQZ (gV_F rfl) ?_ | refine qQZ (gV_T rfl) ?_))
    have e : (m.getD (j + 1) []).drop (j + 1) = m[j + 1].drop (j + 1) := by rw [p6Z hjl]
    refine h.more (b2.mono h.le) (by omega) (by rw [List.length_drop]; omega) fun v' K' h' => ?_
    (repeat (first | refine qQZ (qDZ _) ?_ | refine qQZ (qEZ _) ?_ | refine qQZ (qFZ _ _) ?_ | refine qQZ (qGZ _ _) ?_ | refine qQZ (by (try with_reducible first | refine gV_F ?_ | refine gV_T ?_); first | exact add_one (a := j + 1) (by omega) | exact q1Z _ _ | exact q2Z _ _ _ | exact q3Z _ | exact q4Z _ | exact q5Z _ _ _ | exact q6Z _ _ _ | exact q7Z _ _ _ | exact q8Z _ _ _ | exact q9Z _ _ _ | exact q0Z _ _ _ | exact qHZ (by omega) (by omega) | exact qIZ (by omega) (by omega) | exact qAZ _ | exact qBZ _ _ _ | exact qCZ _ _ _) ?_ | refine qQZ (gV_F rfl) ?_ | refine qQZ (gV_T rfl) ?_))
    refine ih (j + 1) v' K' (by omega) (by omega) ?_ ?_
    · rw [restM, List.length_append, e, List.length_drop]; omega
    · rw [restM, e]
      exact h'
def movC (x1 x2 x3 x10 x16 : Value) (i3 : Nat) (H_40 : Heap) (Q : Ending → Heap → Prop) : Prop :=
p3Z ty27 27 0 [] H_40 fun s_41 H_42 =>
p4Z ty27 27 s_41 x1 H_42 fun v_43 H_44 =>
oV (vInt .sub x2 (.int .i64 1)) fun t115_45 =>
p3Z ty52 52 0 [] H_44 fun s_46 H_47 =>
oV (vInt .sub x2 (.int .i64 1)) fun t119_48 =>
oV (p1Z 1 x1 t119_48) fun t120_49 =>
oV (qWZ ty27 t120_49 H_47) fun t121_50 =>
p4Z ty52 52 s_46 t121_50 H_47 fun v_51 H_52 =>
oV (p1Z 1 v_43 t115_45) fun t123_53 =>
oHeap (p2Z ty27 t123_53 v_51 H_52) fun H_54 =>
oV (vInt .sub x2 (.int .i64 1)) fun t126_55 =>
oV (p1Z 1 v_43 t126_55) fun t127_56 =>
oV (qWZ ty27 t127_56 H_54) fun t128_57 =>
oV (p1Z 1 x16 (.int .i64 0)) fun t131_58 =>
oV (qWZ ty52 t131_58 H_54) fun t132_59 =>
oV (p1Z 1 t128_57 x3) fun t133_60 =>
oHeap (p2Z ty52 t133_60 t132_59 H_54) fun H_61 =>
oV (qWZ ty29 (qTZ i3) H_61) fun t134_62 =>
oHeap (p2Z ty29 x10 t134_62 H_61) fun H_63 =>
retM ((qWZ ty29 x10 H_63).bind fun v => ((some []).map (v_43 :: ·)).map (v :: ·)) Q H_63
def movB (x1 x2 x3 x10 x16 v_22 x5 : Value) (i3 : Nat) (H_27 : Heap) (Q : Ending → Heap → Prop) : Prop :=
p3Z ty52 52 0 [] H_27 fun s_28 H_29 =>
oV (qYZ 5 x5) fun t100_30 =>
oV (qWZ ty27 t100_30 H_29) fun t101_31 =>
p4Z ty52 52 s_28 t101_31 H_29 fun v_32 H_33 =>
oV (qYZ 5 (qTZ i3)) fun t103_34 =>
oHeap (p2Z ty27 t103_34 v_32 H_33) fun H_35 =>
oV (qYZ 5 (qTZ i3)) fun t104_36 =>
oV (qWZ ty27 t104_36 H_35) fun t105_37 =>
oV (vInt .sub x2 (.int .i64 1)) fun t107_38 =>
oV (p1Z 1 t105_37 t107_38) fun t109_39 =>
oHeap (p2Z ty52 t109_39 v_22 H_35) fun H_40 =>
movC x1 x2 x3 x10 x16 i3 H_40 Q
theorem sub_one {a : Nat} (h : a ≤ 1000000) : vInt .sub (.int .i64 ((a + 1 : Nat) : Int)) (.int .i64 1) = some (.int .i64 (a : Int)) := (qIZ (by omega) (by omega)).trans (by rw [show ((a + 1 : Nat) : Int) - 1 = (a : Int) by omega])
theorem movC_spec {B K15 : Heap} {s' : Scn} {cv dv v13 qv xv : Value} {q : List (List (List Int))} {m : List (List Int)} {d0 k i2 i3 : Nat} {Q : Ending → Heap → Prop} (lB15 : Le B K15) (k15 : K15 i2 = some (.cells [.int .u64 0, .int .i64 0, .int .i64 0, .slice none 0 0, .slice none 0 0, .slice none 0 0] 6 29 true)) (j15 : K15 i3 = some (.cells [.int .u64 s'.P, .int .i64 s'.N, .int .i64 s'.T, cv, dv, v13] 6 29 true)) (e15 : B i2 = none) (n15 : B i3 = none)
    (hok : ScnOk B s' cv dv v13) (hq : Sl (qXZ (qXZ (eInt .u64))) B qv q) (hm : Sl (qXZ (eInt .u64)) B xv m) (hm0 : 0 < m.length) (hqd : d0 < q.length) (hk : k < (q.getD d0 []).length) (hql : q.length ≤ 100) (hkl : (q.getD d0 []).length ≤ 100)
    (hQ : ∀ qv' H', Le B H' → Sl (qXZ (qXZ (eInt .u64))) H' qv' (q.set d0 ((q.getD d0 []).set k (m.getD 0 []))) → Q (.returned (.tuple #[scnVal s' cv dv v13, qv'])) H') :
    movC qv (.int .i64 (d0 + 1 : Nat)) (.int .i64 k) (qTZ i2) xv i3 K15 Q := by
  have sub1 := sub_one (a := d0) (by omega)
  obtain ⟨pq, uq, q1, q2, q3⟩ := hq.row hqd (ti := ty27) rfl
  rw [← p6Z (d := []) hqd] at q3
  unfold movC
  refine emptyS rfl rfl fun s2 K16' l16' app2 => ?_
  refine app2 _ (qXZ (eInt .u64)) B qv q _ lB15 hq (by omega) fun v16 K16 us16 g16 hu16 hr16 => ?_
  have k16 := g16.1 _ _ k15
  have j16 := g16.1 _ _ j15
  obtain ⟨N16, hN16, o16⟩ := g16.made1
  have gB16 := part_grown (R := B) o16 fun b hb => none_le lB15 (hN16.2.2 b hb)
  have lB16 : Le (hun B N16) K16 := hN16.le lB15
  have e16 : hun B N16 i2 = none := hN16.not e15 (by rw [k15]; simp)
  have n16 : hun B N16 i3 = none := hN16.not n15 (by rw [j15]; simp)
  generalize hun B N16 = B16 at gB16 lB16 e16 n16
  refine qQZ sub1 ?_
  refine emptyS rfl rfl fun s3 K17 l17 app3 => ?_
  refine qQZ sub1 (qQZ q1 (qQZ (qKZ ((gB16.1.trans lB16).trans l17) q2) ?_))
  refine app3 _ (eInt .u64) B uq (q.getD d0 []) _ (gB16.1.trans lB16) q3 (by omega) fun v18 K18 us18 g18 hu18 hr18 => ?_
  have k18 := g18.1 _ _ k16
  have j18 := g18.1 _ _ j16
  obtain ⟨N18, hN18, o18⟩ := g18.made1
  have lB18 : Le B16 K18 := lB16.trans g18.1
  have one18 : v18.oneCell' = true := by
    obtain ⟨vb8, vc8, hv18, _, _⟩ := o18.read
    subst hv18
    rfl
  obtain ⟨p16, x16, b1, _, _, b4⟩ := gB16.ix .i64 (i := d0) hqd
  obtain ⟨B17, b5, gB17, _, _⟩ := b4 ty27 v18 rfl rfl one18
  obtain ⟨K19, d1, lB19, d3, d4⟩ := vStore_le b5 lB18
  refine qQZ b1 (p8Z d1 ?_)
  have k19 := d3 _ _ k18 e16
  have j19 := d3 _ _ j18 n16
  have e17 : B17 i2 = none := Classical.byContradiction fun h => d4 i2 h e16
  have n17 : B17 i3 = none := Classical.byContradiction fun h => d4 i3 h n16
  have dis18 : ∀ b, N18 b ≠ none → B17 b = none := fun b hb => Classical.byContradiction fun h => d4 b h (none_le lB16 (hN18.2.2 b hb))
  have gB18 := part_grown (R := B17) o18 dis18
  have lB20 : Le (hun B17 N18) K19 := hun_le lB19 fun b c hc => d3 b c (hN18.2.1 b c hc) (none_le lB16 (hN18.2.2 b (by rw [hc]; simp)))
  have e18 : hun B17 N18 i2 = none := hun_none.2 ⟨e17, Classical.byContradiction fun h => by have := hN18.2.2 i2 h; rw [k16] at this; cases this⟩
  have n18 : hun B17 N18 i3 = none := hun_none.2 ⟨n17, Classical.byContradiction fun h => by have := hN18.2.2 i3 h; rw [j16] at this; cases this⟩
  generalize hun B17 N18 = B18 at gB18 lB20 e18 n18
  obtain ⟨p17, x17, g1, g2, g3, _⟩ := gB17.ix .i64 (i := d0) hqd
  have ep : p17 = p16 := by rw [b1] at g1; exact (Option.some.inj g1).symm
  have ex : x17 = v18 := by
    rw [List.getElem?_set_self (by omega)] at g2
    exact (Option.some.inj g2).symm
  rw [ep, ex] at g3
  obtain ⟨pm, um, m1, m2, m3⟩ := hm.row (i := 0) hm0 (ti := ty52) rfl
  rw [← p6Z (d := []) hm0] at m3
  have l6B : Le B B17 := gB17.1
  obtain ⟨p18, x18, h1, _, _, h4⟩ := gB18.ix .i64 (i := k) hk
  obtain ⟨B19, h5, gB19, _, _⟩ := h4 ty52 um rfl rfl m3.cell.2
  obtain ⟨K20, r1, lB21, r3, r4⟩ := vStore_le h5 lB20
  refine qQZ sub1 (qQZ b1 (qQZ (qKZ lB19 (g3 ty27 rfl)) (qQZ m1 (qQZ (qKZ (l6B.trans lB19) m2) (qQZ h1 (p8Z r1 ?_))))))
  have k20 := r3 _ _ k19 e18
  have j20 := r3 _ _ j19 n18
  have e19 : B19 i2 = none := Classical.byContradiction fun h => r4 i2 h e18
  have l1719 : Le B17 B19 := gB19.1
  have ldS : qWZ ty29 (qTZ i3) K20 = some (scnVal s' cv dv v13) := by simp only [qWZ, qTZ, j20]; rfl
  refine qQZ ldS ?_
  obtain ⟨cb, cc, _, hcv, _⟩ := id hok.bad
  obtain ⟨db, dc, _, hdv, _⟩ := id hok.devs
  obtain ⟨vb, vc, _, hv13, _⟩ := id hok.tapes
  refine p8Z (v := hins K20 i2 (.cells [.int .u64 s'.P, .int .i64 s'.N, .int .i64 s'.T, cv, dv, v13] 6 29 true)) (by subst hv13 hcv hdv; simp only [p2Z, qTZ, k20]; rfl) ?_
  rw [show qWZ ty29 (qTZ i2) (hins K20 i2 (.cells [.int .u64 s'.P, .int .i64 s'.N, .int .i64 s'.T, cv, dv, v13] 6 29 true)) = some (scnVal s' cv dv v13) by simp only [qWZ, qTZ, hins_self]; rfl]
  have lEnd : Le B19 (hins K20 i2 (.cells [.int .u64 s'.P, .int .i64 s'.N, .int .i64 s'.T, cv, dv, v13] 6 29 true)) := lB21.put e19
  have l1419 : Le B B19 := gB17.1.trans l1719
  have i18 : Sl (qXZ (eInt .u64)) B19 v18 ((q.getD d0 []).set k (m.getD 0 [])) := by
    have hrel := set_rel (j := k) (u := um) (r := m.getD 0 []) (P := fun u r => Sl (eInt .u64) B19 u r) (fun i x y hx hy => (hr18 i x y hx hy).mono l1419) (m3.mono l1419)
    refine own_slices (us := us18.set k um) (t := 52) ?_ (by rw [List.length_set, List.length_set]; exact hu18) hrel
    rw [List.length_set]
    exact gB19.2.1
  have sQ : Sl (qXZ (qXZ (eInt .u64))) B19 v16 (q.set d0 ((q.getD d0 []).set k (m.getD 0 []))) := by
    have hrel := set_rel (j := d0) (u := v18) (r := (q.getD d0 []).set k (m.getD 0 [])) (P := fun u r => Sl (qXZ (eInt .u64)) B19 u r) (fun i x y hx hy => (hr16 i x y hx hy).mono l1419) i18
    refine own_slices (us := us16.set d0 v18) (t := 27) ?_ (by rw [List.length_set, List.length_set]; exact hu16) hrel
    rw [List.length_set]
    exact (Grown.le gB17 l1719).2.1
  exact hQ v16 _ (l1419.trans lEnd) (sQ.mono lEnd)
theorem movB_spec {R10 K11 : Heap} {s : Scn} {cv dv tv qv xv v10 : Value} {q : List (List (List Int))} {m : List (List Int)} {tape : List Int} {d0 k i1 i2 i3 : Nat} {Q : Ending → Heap → Prop} (l11 : Le R10 K11) (k11 : K11 i2 = some (.cells [.int .u64 0, .int .i64 0, .int .i64 0, .slice none 0 0, .slice none 0 0, .slice none 0 0] 6 29 true)) (j11 : K11 i3 = some (.cells [.int .u64 s.P, .int .i64 s.N, .int .i64 s.T, cv, dv, tv] 6 29 true)) (e10 : R10 i2 = none) (n3R : R10 i3 = none) (ne32 : i2 ≠ i3)
    (hs : SAt R10 i1 s cv dv tv) (hok10 : ScnOk R10 s cv dv tv) (s10 : Sl (eInt .u64) R10 v10 tape) (hq : Sl (qXZ (qXZ (eInt .u64))) R10 qv q) (hm : Sl (qXZ (eInt .u64)) R10 xv m) (hm0 : 0 < m.length) (htd : d0 < s.tapes.length) (htl : s.tapes.length ≤ 100) (hqd : d0 < q.length) (hk : k < (q.getD d0 []).length) (hql : q.length ≤ 100) (hkl : (q.getD d0 []).length ≤ 100)
    (hQ : ∀ tv' qv' H', Le R10 H' → Sl (qXZ (eInt .u64)) H' tv' (s.tapes.set d0 tape) → Sl (qXZ (qXZ (eInt .u64))) H' qv' (q.set d0 ((q.getD d0 []).set k (m.getD 0 []))) → Q (.returned (.tuple #[scnVal (s.re (s.tapes.set d0 tape)) cv dv tv', qv'])) H') :
    movB qv (.int .i64 (d0 + 1 : Nat)) (.int .i64 k) (qTZ i2) xv v10 (qTZ i1) i3 K11 Q := by
  have sub1 := sub_one (a := d0) (by omega)
  unfold movB
  refine emptyS rfl rfl fun s1 K12 l12 app => ?_
  have hs12 : SAt K12 i1 s cv dv tv := hs.mono (l11.trans l12)
  (repeat (first | refine qQZ (qDZ _) ?_ | refine qQZ (qEZ _) ?_ | refine qQZ (qFZ _ _) ?_ | refine qQZ (qGZ _ _) ?_ | refine qQZ (by (try with_reducible first | refine gV_F ?_ | refine gV_T ?_); first | exact hs12.t | exact q1Z _ _ | exact q2Z _ _ _ | exact q3Z _ | exact q4Z _ | exact q5Z _ _ _ | exact q6Z _ _ _ | exact q7Z _ _ _ | exact q8Z _ _ _ | exact q9Z _ _ _ | exact q0Z _ _ _ | exact qHZ (by omega) (by omega) | exact qIZ (by omega) (by omega) | exact qAZ _ | exact qBZ _ _ _ | exact qCZ _ _ _) ?_ | refine qQZ (gV_F rfl) ?_ | refine qQZ (gV_T rfl) ?_))
  refine app _ (eInt .u64) R10 tv s.tapes _ l11 hok10.tapes (by omega) fun v13 K13 us g13 hu13 hr13 => ?_
  obtain ⟨N13, hN13, o13⟩ := g13.made1
  have gB := part_grown (R := R10) o13 fun b hb => none_le l11 (hN13.2.2 b hb)
  have lB13 : Le (hun R10 N13) K13 := hN13.le l11
  have k13 := hN13.1 _ _ k11
  have j13 := hN13.1 _ _ j11
  have eB : hun R10 N13 i2 = none := hN13.not e10 (by rw [k11]; simp)
  have jB : hun R10 N13 i3 = none := hN13.not n3R (by rw [j11]; simp)
  generalize hun R10 N13 = B13 at gB lB13 eB jB
  obtain ⟨vb, vc, hv13, _, _⟩ := gB.2.1.read
  refine qQZ (q1Z _ _) (p8Z (v := hins K13 i3 (.cells [.int .u64 s.P, .int .i64 s.N, .int .i64 s.T, cv, dv, v13] 6 29 true)) (by subst hv13; simp only [p2Z, j13]; rfl) ?_)
  have lB14 := lB13.put (c := .cells [.int .u64 s.P, .int .i64 s.N, .int .i64 s.T, cv, dv, v13] 6 29 true) jB
  have k14 : hins K13 i3 (.cells [.int .u64 s.P, .int .i64 s.N, .int .i64 s.T, cv, dv, v13] 6 29 true) i2 = _ := (qOZ _ _ ne32).trans k13
  have j14 : hins K13 i3 (.cells [.int .u64 s.P, .int .i64 s.N, .int .i64 s.T, cv, dv, v13] 6 29 true) i3 = _ := hins_self _ _ _
  generalize hins K13 i3 (.cells [.int .u64 s.P, .int .i64 s.N, .int .i64 s.T, cv, dv, v13] 6 29 true) = K14 at lB14 k14 j14
  have ld5 : qWZ ty27 (.pointer (some ⟨i3, 5, none⟩)) K14 = some v13 := by simp only [qWZ, j14]; rfl
  obtain ⟨p13, x13, a1, _, _, a4⟩ := gB.ix .i64 (i := d0) htd
  obtain ⟨B14, a5, gB14, _, _⟩ := a4 ty52 v10 rfl rfl s10.cell.2
  obtain ⟨K15, c1, lB15, c3, c4⟩ := vStore_le a5 lB14
  refine qQZ (q1Z _ _) (qQZ ld5 (qQZ sub1 (qQZ a1 (p8Z c1 ?_))))
  have k15 := c3 _ _ k14 eB
  have j15 := c3 _ _ j14 jB
  have e15 : B14 i2 = none := Classical.byContradiction fun h => c4 i2 h eB
  have n15 : B14 i3 = none := Classical.byContradiction fun h => c4 i3 h jB
  have lR14 : Le R10 B14 := gB14.1
  have sT : Sl (qXZ (eInt .u64)) B14 v13 (s.tapes.set d0 tape) := by
    have hrel := set_rel (j := d0) (u := v10) (r := tape) (P := fun u r => Sl (eInt .u64) B14 u r) (fun i x y hx hy => (hr13 i x y hx hy).mono lR14) (s10.mono lR14)
    refine own_slices (us := us.set d0 v10) (t := 52) ?_ (by rw [List.length_set, List.length_set]; exact hu13) hrel
    rw [List.length_set]
    exact gB14.2.1
  have hokB : ScnOk B14 (s.re (s.tapes.set d0 tape)) cv dv v13 := ⟨(hok10.bad).mono lR14, (hok10.devs).mono lR14, sT⟩
  exact movC_spec (s' := s.re (s.tapes.set d0 tape)) lB15 k15 j15 e15 n15 hokB (hq.mono lR14) (hm.mono lR14) hm0 hqd hk hql hkl fun qv' H' l hq' => hQ v13 qv' H' (lR14.trans l) (sT.mono l) hq'
theorem moved_spec (hok : DzOk H s q cv dv tv qv) (hD : DealOk s q) (hd0 : d0 < s.n) (hk : k < (q.getD d0 []).length) (hd : 0 ≤ d) (hd1 : d < s.P) : qVZ Tryd.prog 40 [scnVal s cv dv tv, qv, .int .i64 (d0 + 1 : Nat), .int .i64 k, .int .u64 d] H (Movd s q cv dv d0 k d H) := by
  obtain ⟨hn, hqn, hn7, hn4⟩ := hD.n
  obtain ⟨hsp, _⟩ := hD.v.par
  have hp := hD.pos
  have hT := hD.t
  have hq3 := hD.q3 d0 (by omega)
  have htl := hD.tl d0
  have htw := hD.tw d0 (by omega)
  have hR3 : restN s.T ≤ 3 := by unfold restN; split <;> decide
  have hR1 : 1 ≤ restN s.T := by unfold restN; split <;> decide
  have hkR : (k + 1) * restN s.T ≤ (q.getD d0 []).length * restN s.T := Nat.mul_le_mul_right _ hk
  rw [Nat.succ_mul] at hkR
  have htt := hD.tlen
  have hqd : d0 < q.length := by omega
  have htd : d0 < s.tapes.length := by omega
  have eq := p6Z (d := []) hqd
  have et := p6Z (d := []) htd
  have eql := congrArg List.length eq
  have etl := congrArg List.length et
  obtain ⟨f', r', eM, hno, hfl, hrl, hfr, hrr, eF, eR, _⟩ := mov_facts (d := d) hD hd0 hk
  have hno0 := hD.newOk (d := d0) hqd hk
  have hqw := hD.qw d0 hqd _ (List.getElem_mem hk)
  rw [← p6Z (d := []) hk] at hqw
  have hRr := rng_take (rng_drop (hD.tr d0) (k * restN s.T)) (restN s.T)
  obtain ⟨hSq, hSl⟩ := newM_mem hno0 hqw.2 hRr
  obtain ⟨hSq', hSl'⟩ := newM_mem hno hfr hrr
  obtain ⟨pl, _, _⟩ := pts_ok hD
  have hzr : rng s.P (vanP s.P [1] (ptsP s)) := vanP_rng (by omega) _ _ fun x hx => by rw [List.mem_singleton.1 hx]; omega
  have hzl := vanP_len s.P (ptsP s) [1]
  have sub1 : vInt .sub (.int .i64 ((d0 + 1 : Nat) : Int)) (.int .i64 1) = some (.int .i64 (d0 : Int)) := (qIZ (by omega) (by omega)).trans (by rw [show ((d0 + 1 : Nat) : Int) - 1 = (d0 : Int) by omega])
  have muk := mul_nat (a := k) (b := restN s.T) (by omega)
  have adk := add_nat (a := k * restN s.T) (b := restN s.T) (by omega)
  apply call40
  unfold m40
  refine scn_new s cv dv tv fun i1 H1 l1 hs => ?_
  show oNew [.int .u64 0, .int .i64 0, .int .i64 0, .slice none 0 0, .slice none 0 0, .slice none 0 0] 6 29 H1 _
  intro i2 hi2
  have l2 : Le H1 (hins H1 i2 (.cells [.int .u64 0, .int .i64 0, .int .i64 0, .slice none 0 0, .slice none 0 0, .slice none 0 0] 6 29 true)) := Le.ins _ hi2
  have k2 : hins H1 i2 (.cells [.int .u64 0, .int .i64 0, .int .i64 0, .slice none 0 0, .slice none 0 0, .slice none 0 0] 6 29 true) i2 = some (.cells [.int .u64 0, .int .i64 0, .int .i64 0, .slice none 0 0, .slice none 0 0, .slice none 0 0] 6 29 true) := hins_self _ _ _
  generalize hins H1 i2 (.cells [.int .u64 0, .int .i64 0, .int .i64 0, .slice none 0 0, .slice none 0 0, .slice none 0 0] 6 29 true) = H2 at l2 k2
  have hq1 := hok.q.mono l1
  have ht1 := (hok.s.mono l1).tapes
  obtain ⟨pq, uq, q1, q2, q3⟩ := hq1.row hqd (ti := ty27) rfl
  rw [← eq] at q3
  obtain ⟨pf, uf, f1, f2, f3⟩ := q3.row hk (ti := ty52) rfl
  rw [← p6Z (d := []) hk] at f3
  obtain ⟨pt, ut, t1, t2, t3⟩ := ht1.row htd (ti := ty52) rfl
  rw [← et] at t3
  obtain ⟨w, w1, w2⟩ := t3.part (k1 := .i64) (k2 := .i64) (a := k * restN s.T) (b := k * restN s.T + restN s.T) (by omega) (by omega) (by omega)
  rw [show k * restN s.T + restN s.T - k * restN s.T = restN s.T by omega] at w2
  have hs2 := hs.mono l2
  (repeat (first | refine qQZ (qDZ _) ?_ | refine qQZ (qEZ _) ?_ | refine qQZ (qFZ _ _) ?_ | refine qQZ (qGZ _ _) ?_ | refine qQZ (by (try with_reducible first | refine gV_F ?_ | refine gV_T ?_); first | exact hs2.t2 | exact q1Z _ _ | exact q2Z _ _ _ | exact q3Z _ | exact q4Z _ | exact q5Z _ _ _ | exact q6Z _ _ _ | exact q7Z _ _ _ | exact q8Z _ _ _ | exact q9Z _ _ _ | exact q0Z _ _ _ | exact qHZ (by omega) (by omega) | exact qIZ (by omega) (by omega) | exact qAZ _ | exact qBZ _ _ _ | exact qCZ _ _ _) ?_ | refine qQZ (gV_F rfl) ?_ | refine qQZ (gV_T rfl) ?_))
  refine oRC_val (rest_spec H2 hT) ?_
  (repeat (first | refine qQZ (qDZ _) ?_ | refine qQZ (qEZ _) ?_ | refine qQZ (qFZ _ _) ?_ | refine qQZ (qGZ _ _) ?_ | refine qQZ (by (try with_reducible first | refine gV_F ?_ | refine gV_T ?_); first | exact muk | exact sub1 | exact q1 | exact qKZ l2 q2 | exact f1 | exact qKZ l2 f2 | exact hs2.t | exact t1 | exact qKZ l2 t2 | exact q1Z _ _ | exact q2Z _ _ _ | exact q3Z _ | exact q4Z _ | exact q5Z _ _ _ | exact q6Z _ _ _ | exact q7Z _ _ _ | exact q8Z _ _ _ | exact q9Z _ _ _ | exact q0Z _ _ _ | exact qHZ (by omega) (by omega) | exact qIZ (by omega) (by omega) | exact qAZ _ | exact qBZ _ _ _ | exact qCZ _ _ _) ?_ | refine qQZ (gV_F rfl) ?_ | refine qQZ (gV_T rfl) ?_))
  refine oRC_val (rest_spec H2 hT) ⟨qKZ l2 t2, hs2.t, qKZ l2 f2, qKZ l2 q2, ?_⟩
  (repeat (first | refine qQZ (qDZ _) ?_ | refine qQZ (qEZ _) ?_ | refine qQZ (qFZ _ _) ?_ | refine qQZ (qGZ _ _) ?_ | refine qQZ (by (try with_reducible first | refine gV_F ?_ | refine gV_T ?_); first | exact adk | exact w1 | exact q1Z _ _ | exact q2Z _ _ _ | exact q3Z _ | exact q4Z _ | exact q5Z _ _ _ | exact q6Z _ _ _ | exact q7Z _ _ _ | exact q8Z _ _ _ | exact q9Z _ _ _ | exact q0Z _ _ _ | exact qHZ (by omega) (by omega) | exact qIZ (by omega) (by omega) | exact qAZ _ | exact qBZ _ _ _ | exact qCZ _ _ _) ?_ | refine qQZ (gV_F rfl) ?_ | refine qQZ (gV_T rfl) ?_))
  refine oRC_frame (new10_spec f3 w2 hno0) l2 fun v R3 H3 hv l3 p3 n3 => ?_
  obtain ⟨mw, rfl, lR3, hm3⟩ := hv
  have k3 := p3 i2 _ k2 hi2
  have e3 : R3 i2 = none := by
    cases he : R3 i2 with
    | none => rfl
    | some c =>
      rcases n3 i2 (by rw [he]; simp) with h | h
      · exact absurd hi2 h
      · rw [k2] at h; cases h
  have hs3 := hs.mono lR3
  refine qQZ (v := mw) rfl (qQZ (v := .int .i64 0) rfl ?_)
  (repeat (first | refine qQZ (qDZ _) ?_ | refine qQZ (qEZ _) ?_ | refine qQZ (qFZ _ _) ?_ | refine qQZ (qGZ _ _) ?_ | refine qQZ (by (try with_reducible first | refine gV_F ?_ | refine gV_T ?_); first | exact (hs3.mono l3).p | exact (hs3.mono l3).all | exact q1Z _ _ | exact q2Z _ _ _ | exact q3Z _ | exact q4Z _ | exact q5Z _ _ _ | exact q6Z _ _ _ | exact q7Z _ _ _ | exact q8Z _ _ _ | exact q9Z _ _ _ | exact q0Z _ _ _ | exact qHZ (by omega) (by omega) | exact qIZ (by omega) (by omega) | exact qAZ _ | exact qBZ _ _ _ | exact qCZ _ _ _) ?_ | refine qQZ (gV_F rfl) ?_ | refine qQZ (gV_T rfl) ?_))
  refine oRC_frame (vanish18_spec ((hok.s.mono l1).mono lR3) hD) l3 fun zv R4 H4 hz l4 p4 n4 => ?_
  have k4 := p4 i2 _ k3 e3
  have e4 : R4 i2 = none := by
    cases he : R4 i2 with
    | none => rfl
    | some c =>
      rcases n4 i2 (by rw [he]; simp) with h | h
      · exact absurd e3 h
      · rw [k3] at h; cases h
  have lR4 := hz.le
  have hs4 := hs3.mono lR4
  refine ⟨(hs4.mono l4).p, ?_⟩
  refine oRC_frame (translate_spec (d := d) hsp (hm3.mono lR4) hz.sl hSq (by omega) (by rw [hzl, hSl]; simp only [List.length_singleton]; omega) hzr hd hd1) l4 fun xv R5 H5 hx l5 p5 n5 => ?_
  have k5 := p5 i2 _ k4 e4
  have e5 : R5 i2 = none := by
    cases he : R5 i2 with
    | none => rfl
    | some c =>
      rcases n5 i2 (by rw [he]; simp) with h | h
      · exact absurd e4 h
      · rw [k4] at h; cases h
  obtain ⟨lR5, hx5⟩ := hx
  replace hx5 : Sl (qXZ (eInt .u64)) R5 xv (movM s q d0 k d) := hx5
  rw [eM] at hx5
  have l15 := (lR3.trans lR4).trans lR5
  have hs5 := hs.mono l15
  obtain ⟨T, hTn⟩ : ∃ T : Nat, s.T = T := ⟨s.T.toNat, by omega⟩
  have hTt : s.T.toNat = T := by omega
  rw [hTn]
  unfold m40_2
  refine mov_loop (m := newM f' r') (T := T) (G := H5) (hx5.mono l5) (by omega) hSq'.sq (by omega) (fun rv K6 h6 => ?_) _ 0 _ H5 rfl (by omega) (by simp [restM]) (GI.nil H5)
  rw [eM, hTt] at eR
  rw [eR] at h6
  obtain ⟨N6, hN6, s6⟩ := h6.made
  have lK6 := hN6.le l5
  have k6 := hN6.1 _ _ k5
  have e6 := hN6.not e5 (by rw [k5]; simp)
  replace s6 := s6.mono (hN6.right l5)
  have lR6 : Le R5 (hun R5 N6) := qNZ _ _
  have hx6 := hx5.mono lR6
  generalize hun R5 N6 = R6 at lK6 e6 s6 lR6 hx6
  have l16 := l15.trans lR6
  have hs6 := hs.mono l16
  unfold m40_1
  rw [← hTn]
  have ldT := (hs6.mono lK6).t
  have l26 : Le H1 K6 := l16.trans lK6
  obtain ⟨w7, u1, u2⟩ := t3.upto (k2 := .i64) (b := k * restN s.T) (by omega) (by omega)
  obtain ⟨w9, u3, u4⟩ := t3.from (k1 := .i64) (a := k * restN s.T + restN s.T) (by omega) (by omega)
  (repeat (first | refine qQZ (qDZ _) ?_ | refine qQZ (qEZ _) ?_ | refine qQZ (qFZ _ _) ?_ | refine qQZ (qGZ _ _) ?_ | refine qQZ (by (try with_reducible first | refine gV_F ?_ | refine gV_T ?_); first | exact ldT | exact sub1 | exact t1 | exact qKZ l26 t2 | exact u1 | exact q1Z _ _ | exact q2Z _ _ _ | exact q3Z _ | exact q4Z _ | exact q5Z _ _ _ | exact q6Z _ _ _ | exact q7Z _ _ _ | exact q8Z _ _ _ | exact q9Z _ _ _ | exact q0Z _ _ _ | exact qHZ (by omega) (by omega) | exact qIZ (by omega) (by omega) | exact qAZ _ | exact qBZ _ _ _ | exact qCZ _ _ _) ?_ | refine qQZ (gV_F rfl) ?_ | refine qQZ (gV_T rfl) ?_))
  refine copy_empty fun s0 K7 lK7 cp => cp _ _ _ (u2.mono l26) (by rw [List.length_take]; omega) fun v8 K8 g8 => ?_
  replace g8 : GI K6 K8 v8 ((s.tapes.getD d0 []).take (k * restN s.T)) := g8
  refine ⟨qKZ (l26.trans g8.le) t2, qKZ g8.le ldT, ?_⟩
  refine g8.more ((s6.mono lK6).mono g8.le) (by rw [List.length_take]; omega) (by omega) fun v9 K9 g9 => ?_
  refine ⟨qKZ (l26.trans g9.le) t2, qKZ g9.le ldT, ?_⟩
  have rT := rest_spec K9 hT
  refine oRC_val rT ⟨qKZ (l26.trans g9.le) t2, qKZ g9.le ldT, ?_⟩
  (repeat (first | refine qQZ (qDZ _) ?_ | refine qQZ (qEZ _) ?_ | refine qQZ (qFZ _ _) ?_ | refine qQZ (qGZ _ _) ?_ | refine qQZ (by (try with_reducible first | refine gV_F ?_ | refine gV_T ?_); first | exact adk | exact u3 | exact q1Z _ _ | exact q2Z _ _ _ | exact q3Z _ | exact q4Z _ | exact q5Z _ _ _ | exact q6Z _ _ _ | exact q7Z _ _ _ | exact q8Z _ _ _ | exact q9Z _ _ _ | exact q0Z _ _ _ | exact qHZ (by omega) (by omega) | exact qIZ (by omega) (by omega) | exact qAZ _ | exact qBZ _ _ _ | exact qCZ _ _ _) ?_ | refine qQZ (gV_F rfl) ?_ | refine qQZ (gV_T rfl) ?_))
  refine g9.more (u4.mono (l26.trans g9.le)) (by rw [List.length_append, List.length_take]; omega) (by rw [List.length_drop]; omega) fun v10 K10 g10 => ?_
  -- the tape is made
  obtain ⟨N10, hN10, s10⟩ := g10.made
  have lK10 := hN10.le lK6
  have k10 := hN10.1 _ _ k6
  have e10 := hN10.not e6 (by rw [k6]; simp)
  replace s10 := s10.mono (hN10.right lK6)
  have lR10 : Le R6 (hun R6 N10) := qNZ _ _
  generalize hun R6 N10 = R10 at lK10 e10 s10 lR10
  have l110 := l16.trans lR10
  have hok10 : ScnOk R10 s cv dv tv := (hok.s.mono l1).mono l110
  (repeat (first | refine qQZ (qDZ _) ?_ | refine qQZ (qEZ _) ?_ | refine qQZ (qFZ _ _) ?_ | refine qQZ (qGZ _ _) ?_ | refine qQZ (by (try with_reducible first | refine gV_F ?_ | refine gV_T ?_); first | exact ((hs.mono l110).mono lK10).all | exact q1Z _ _ | exact q2Z _ _ _ | exact q3Z _ | exact q4Z _ | exact q5Z _ _ _ | exact q6Z _ _ _ | exact q7Z _ _ _ | exact q8Z _ _ _ | exact q9Z _ _ _ | exact q0Z _ _ _ | exact qHZ (by omega) (by omega) | exact qIZ (by omega) (by omega) | exact qAZ _ | exact qBZ _ _ _ | exact qCZ _ _ _) ?_ | refine qQZ (gV_F rfl) ?_ | refine qQZ (gV_T rfl) ?_))
  refine scn_var2 hok10 fun i3 hi3 => ?_
  have n3R := none_le lK10 hi3
  have ne32 : i2 ≠ i3 := fun e => by subst e; rw [k10] at hi3; cases hi3
  have k11 := (Le.ins (.cells [.int .u64 s.P, .int .i64 s.N, .int .i64 s.T, cv, dv, tv] 6 29 true) hi3) _ _ k10
  refine movB_spec (lK10.put n3R) k11 (hins_self _ _ _) e10 n3R ne32 (hs.mono l110) hok10 s10 (hq1.mono l110) (hx6.mono lR10) (by omega) htd (by omega) hqd hk (by omega) (by omega) fun tv' qv' H' l hT' hQ' => ?_
  have eT : movT s q d0 k d = s.tapes.set d0 ((s.tapes.getD d0 []).take (k * restN s.T) ++ r' ++ (s.tapes.getD d0 []).drop (k * restN s.T + restN s.T)) := by
    unfold movT
    rw [eM, hTt, eR]
  have eQ : movQ s q d0 k d = q.set d0 ((q.getD d0 []).set k ((newM f' r').getD 0 [])) := by
    unfold movQ
    rw [eM]
  rw [← eT] at hT' ⊢
  rw [← eQ] at hQ'
  exact ⟨tv', qv', rfl, (l1.trans l110).trans l, hT', hQ'⟩
end
end

section
open Go

section
variable {s : Scn} {q : List (List (List Int))} {d0 k : Nat} {d : Int}
theorem cut_get {A B : List Int} {a r i : Nat} (ha : a + r ≤ A.length) (hB : B.length = r) (hi : i < a ∨ a + r ≤ i) : (A.take a ++ B ++ A.drop (a + r))[i]? = A[i]? := by
  have hl : (A.take a).length = a := by rw [List.length_take]; omega
  rcases hi with hi | hi
  · rw [List.getElem?_append_left (by rw [List.length_append]; omega), List.getElem?_append_left (by omega), List.getElem?_take, if_pos hi]
  · rw [List.getElem?_append_right (by rw [List.length_append]; omega), List.getElem?_drop, List.length_append, hl, hB]
    congr 1
    omega
theorem cut_seg {A B : List Int} {a r c : Nat} (ha : a + r ≤ A.length) (hB : B.length = r) (hi : c + r ≤ a ∨ a + r ≤ c) : ((A.take a ++ B ++ A.drop (a + r)).drop c).take r = (A.drop c).take r := by
  refine List.ext_getElem? fun i => ?_
  rw [List.getElem?_take, List.getElem?_take]
  split
  · rw [List.getElem?_drop, List.getElem?_drop, cut_get ha hB (by omega)]
  · rfl
theorem cut_own {A B : List Int} {a r : Nat} (ha : a + r ≤ A.length) (hB : B.length = r) : ((A.take a ++ B ++ A.drop (a + r)).drop a).take r = B := by
  have hl : (A.take a).length = a := by rw [List.length_take]; omega
  rw [List.append_assoc, List.drop_append_of_le_length (by omega), List.drop_of_length_le (by omega), List.nil_append, List.take_append_of_le_length (by omega), List.take_of_length_le (by omega)]
theorem cut_len {A B : List Int} {a r : Nat} (ha : a + r ≤ A.length) (hB : B.length = r) : (A.take a ++ B ++ A.drop (a + r)).length = A.length := by
  rw [List.length_append, List.length_append, List.length_take, List.length_drop]
  omega
theorem mov_twin (hD : DealOk s q) (hd0 : d0 < s.n) (hon : (d0 : Int) + 1 ∉ s.bad) (hk : k < (q.getD d0 []).length) : Twin s (movT s q d0 k d) q (movQ s q d0 k d) d0 ∧ ∃ f' r', newOk f' r' ∧ movM s q d0 k d = newM f' r' ∧ ((matsA (s.re (movT s q d0 k d)) (movQ s q d0 k d)).getD d0 []).getD k [] = newM f' r' ∧ ∀ c, c < (q.getD d0 []).length → c ≠ k → ((matsA (s.re (movT s q d0 k d)) (movQ s q d0 k d)).getD d0 []).getD c [] = ((matsA s q).getD d0 []).getD c [] := by
  obtain ⟨hn, hqn, hn7, hn4⟩ := hD.n
  obtain ⟨f', r', eM, hno, hfl, hrl, hfr, hrr, eF, eR, hroot⟩ := mov_facts (d := d) hD hd0 hk
  have hqd : d0 < q.length := by omega
  have htt := hD.tlen
  have htd : d0 < s.tapes.length := by omega
  have htw := hD.tw d0 hqd
  have hkR : (k + 1) * restN s.T ≤ (q.getD d0 []).length * restN s.T := Nat.mul_le_mul_right _ hk
  rw [Nat.succ_mul] at hkR
  have hlen : k * restN s.T + restN s.T ≤ (s.tapes.getD d0 []).length := by omega
  have eT : movT s q d0 k d = s.tapes.set d0 ((s.tapes.getD d0 []).take (k * restN s.T) ++ r' ++ (s.tapes.getD d0 []).drop (k * restN s.T + restN s.T)) := by
    unfold movT
    rw [eR]
  have eQ : movQ s q d0 k d = q.set d0 ((q.getD d0 []).set k f') := by
    unfold movQ
    rw [eF]
  have tAt : ∀ e, (movT s q d0 k d).getD e [] = if d0 = e then (s.tapes.getD d0 []).take (k * restN s.T) ++ r' ++ (s.tapes.getD d0 []).drop (k * restN s.T + restN s.T) else s.tapes.getD e [] := fun e => by
    rw [eT, getD_set2]
    by_cases h : d0 = e
    · rw [if_pos h, if_pos ⟨h, htd⟩]
    · rw [if_neg h, if_neg fun x => h x.1]
  have qAt : ∀ e, (movQ s q d0 k d).getD e [] = if d0 = e then (q.getD d0 []).set k f' else q.getD e [] := fun e => by
    rw [eQ, getD_set2]
    by_cases h : d0 = e
    · rw [if_pos h, if_pos ⟨h, hqd⟩]
    · rw [if_neg h, if_neg fun x => h x.1]
  have qLen : ∀ e, ((movQ s q d0 k d).getD e []).length = (q.getD e []).length := fun e => by
    rw [qAt]
    split
    · rename_i h
      rw [List.length_set, h]
    · rfl
  have tLen : ∀ e, ((movT s q d0 k d).getD e []).length = (s.tapes.getD e []).length := fun e => by
    rw [tAt]
    split
    · rename_i h
      rw [cut_len hlen hrl, h]
    · rfl
  have ql : (movQ s q d0 k d).length = q.length := by rw [eQ, List.length_set]
  have tl : (movT s q d0 k d).length = s.tapes.length := by rw [eT, List.length_set]
  have tr : ∀ e, rng s.P ((movT s q d0 k d).getD e []) := fun e => by
    rw [tAt]
    split
    · intro x hx
      rcases List.mem_append.1 hx with hx | hx
      · rcases List.mem_append.1 hx with hx | hx
        · exact hD.tr d0 x (List.mem_of_mem_take hx)
        · exact hrr x hx
      · exact hD.tr d0 x (List.mem_of_mem_drop hx)
    · exact hD.tr e
  have hD' : DealOk (s.re (movT s q d0 k d)) (movQ s q d0 k d) := by
    refine ⟨⟨hD.v.par, hD.v.coal, ?_, hD.v.devs, fun l hl x hx => ?_⟩, hD.n7, ?_, fun e he => ?_, fun e he f hf => ?_, fun e he => ?_, tr, fun e => ?_⟩
    · show ((movT s q d0 k d).length : Int) = s.N
      rw [tl]
      exact hD.v.len
    · obtain ⟨e, he, rfl⟩ := List.mem_iff_getElem.1 (show l ∈ movT s q d0 k d from hl)
      have := tr e x (by rw [p6Z he]; exact hx)
      exact this.2
    · show ((movQ s q d0 k d).length : Int) = s.N
      rw [ql]
      exact hD.ql
    · rw [qLen]
      exact hD.q3 e (by omega)
    · rw [qAt] at hf
      show (f.length : Int) = s.T + 1 ∧ rng s.P f
      split at hf
      · rcases List.mem_or_eq_of_mem_set hf with hf | rfl
        · exact hD.qw d0 hqd f hf
        · exact ⟨hfl, hfr⟩
      · exact hD.qw e (by omega) f hf
    · show ((movQ s q d0 k d).getD e []).length * restN s.T ≤ ((movT s q d0 k d).getD e []).length
      rw [qLen, tLen]
      exact hD.tw e (by omega)
    · show ((movT s q d0 k d).getD e []).length ≤ 1000
      rw [tLen]
      exact hD.tl e
  have mAt : ∀ e, e < q.length → (matsA (s.re (movT s q d0 k d)) (movQ s q d0 k d)).getD e [] = mats s.T ((movT s q d0 k d).getD e []) ((movQ s q d0 k d).getD e []) := fun e he => matsA_at (by omega)
  have cAt : ∀ c, c < (q.getD d0 []).length → ((matsA (s.re (movT s q d0 k d)) (movQ s q d0 k d)).getD d0 []).getD c [] = newM (((q.getD d0 []).set k f').getD c []) ((((s.tapes.getD d0 []).take (k * restN s.T) ++ r' ++ (s.tapes.getD d0 []).drop (k * restN s.T + restN s.T)).drop (c * restN s.T)).take (restN s.T)) := fun c hc => by
    rw [mAt d0 hqd, tAt, qAt, if_pos rfl, if_pos rfl, p6Z (by rw [mats_len, List.length_set]; exact hc), mats_at (by rw [List.length_set]; exact hc)]
  have cOld : ∀ c, c < (q.getD d0 []).length → ((matsA s q).getD d0 []).getD c [] = newM ((q.getD d0 []).getD c []) (((s.tapes.getD d0 []).drop (c * restN s.T)).take (restN s.T)) := fun c hc => by
    rw [matsA_at hqd, p6Z (by rw [mats_len]; exact hc), mats_at hc]
  have cK : ((matsA (s.re (movT s q d0 k d)) (movQ s q d0 k d)).getD d0 []).getD k [] = newM f' r' := by
    rw [cAt k hk, cut_own hlen hrl, getD_set2, if_pos ⟨rfl, hk⟩]
  have cO : ∀ c, c < (q.getD d0 []).length → c ≠ k → ((matsA (s.re (movT s q d0 k d)) (movQ s q d0 k d)).getD d0 []).getD c [] = ((matsA s q).getD d0 []).getD c [] := fun c hc hne => by
    have hseg : c * restN s.T + restN s.T ≤ k * restN s.T ∨ k * restN s.T + restN s.T ≤ c * restN s.T := by
      by_cases h : c < k
      · have := Nat.mul_le_mul_right (restN s.T) (show c + 1 ≤ k from h)
        rw [Nat.succ_mul] at this
        exact .inl this
      · have := Nat.mul_le_mul_right (restN s.T) (show k + 1 ≤ c by omega)
        rw [Nat.succ_mul] at this
        exact .inr this
    rw [cAt c hc, cOld c hc, cut_seg hlen hrl hseg, getD_set2, if_neg fun h => hne h.1.symm]
  refine ⟨⟨hD, hD', hd0, hon, qLen, fun e hne => ?_, fun i hi c hc => ?_⟩, f', r', hno, eM, cK, cO⟩
  · by_cases he : e < q.length
    · rw [mAt e he, tAt, qAt, if_neg (Ne.symm hne), if_neg (Ne.symm hne), matsA_at he]
    · rw [getD_ge (by rw [matsA_len]; omega), getD_ge (by rw [matsA_len]; omega)]
  · by_cases e : c = k
    · subst e
      rw [cK, cOld c hc]
      exact hroot _ (pts_root hD hi)
    · rw [cO c hc e]
end
end

section
open Go

section
variable {s : Scn} {q : List (List (List Int))}
theorem DealOk.wf (h : DealOk s q) (hk : ∀ d ∈ s.devs, 0 ≤ d.k ∧ d.k ≤ 18446744073709551615) : DzWf s q := by
  refine ⟨hk, fun l hl x hx => ?_, fun m hm l hl x hx => ?_⟩
  · obtain ⟨e, he, rfl⟩ := List.mem_iff_getElem.1 hl
    exact (h.tr e x (by rw [p6Z he]; exact hx)).1
  · obtain ⟨e, he, rfl⟩ := List.mem_iff_getElem.1 hm
    exact ((h.qw e he l (by rw [p6Z he]; exact hl)).2 x hx).1
theorem dViews_len : (dViews s q).length = s.n := by rw [dViews, castV_len, dView1_len]
theorem dViews_few (hn : s.n ≤ 7) : Few (dViews s q) 1000 := ((dView1_few hn).cast 2 (dAll s q) s.n s.n).mono (by
  have : s.n * s.n ≤ 7 * 7 := Nat.mul_le_mul hn hn
  omega)
end
structure Two (H : Heap) (i6 : Nat) (s : Scn) (q : List (List (List Int))) (tp : List (List Int)) (q' : List (List (List Int))) (cv dv tv tv' : Value) (jn jm : Nat) : Prop where
  sc : SAt H i6 s cv dv tv
  ok : ScnOk H s cv dv tv
  n : ∃ R tg tp qs Sv Rv Fv, Dealt s q R H tg jn cv dv tv tp qs Sv Rv Fv
  m : ∃ R tg tp' qs Sv Rv Fv, Dealt (s.re tp) q' R H tg jm cv dv tv' tp' qs Sv Rv Fv
section
variable {H H0 G : Heap} {i6 jn jm d0 : Nat} {s : Scn} {q q' : List (List (List Int))} {tp : List (List Int)} {cv dv tv qv tv' : Value}
theorem Two.mono (h : Two H i6 s q tp q' cv dv tv tv' jn jm) (hl : Le H G) : Two G i6 s q tp q' cv dv tv tv' jn jm := by
  obtain ⟨a, b, c, d, e, f, g, h1⟩ := h.n
  obtain ⟨a', b', c', d', e', f', g', h2⟩ := h.m
  exact ⟨h.sc.mono hl, h.ok.mono hl, ⟨a, b, c, d, e, f, g, dealt_mono h1 hl⟩, ⟨a', b', c', d', e', f', g', dealt_mono h2 hl⟩⟩
theorem sec_loop (hT : Twin s tp q q' d0) {kn : Heap → Prop} (hkn : ∀ H, kn H) :
    ∀ (r i : Nat) (H : Heap), s.bad.length - i = r → i ≤ s.bad.length → Two H i6 s q tp q' cv dv tv tv' jn jm → L9_3 (qTZ i6) (qTZ jn) (qTZ jm) (.int .i64 i) H kn Yes := by
  have hD := hT.D
  obtain ⟨hn, hqn, hn7, hn4⟩ := hD.n
  intro r
  induction r with
  | zero =>
    intro i H hr hi h
    apply L9_3_round
    unfold m9_4
    (repeat (first | refine qQZ (qDZ _) ?_ | refine qQZ (qEZ _) ?_ | refine qQZ (qFZ _ _) ?_ | refine qQZ (qGZ _ _) ?_ | refine qQZ (by (try with_reducible first | refine gV_F ?_ | refine gV_T ?_); first | exact h.sc.c | exact h.ok.bad.len | exact q1Z _ _ | exact q2Z _ _ _ | exact q3Z _ | exact q4Z _ | exact q5Z _ _ _ | exact q6Z _ _ _ | exact q7Z _ _ _ | exact q8Z _ _ _ | exact q9Z _ _ _ | exact q0Z _ _ _ | exact qHZ (by omega) (by omega) | exact qIZ (by omega) (by omega) | exact qAZ _ | exact qBZ _ _ _ | exact qCZ _ _ _) ?_ | refine qQZ (gV_F rfl) ?_ | refine qQZ (gV_T rfl) ?_))
    exact qJZ (fun hlt => absurd hlt (by omega)) (fun _ => hkn H)
  | succ r ih =>
    intro i H hr hi h
    have hmx := h.ok.bad.max
    apply L9_3_round
    unfold m9_4
    (repeat (first | refine qQZ (qDZ _) ?_ | refine qQZ (qEZ _) ?_ | refine qQZ (qFZ _ _) ?_ | refine qQZ (qGZ _ _) ?_ | refine qQZ (by (try with_reducible first | refine gV_F ?_ | refine gV_T ?_); first | exact h.sc.c | exact h.ok.bad.len | exact q1Z _ _ | exact q2Z _ _ _ | exact q3Z _ | exact q4Z _ | exact q5Z _ _ _ | exact q6Z _ _ _ | exact q7Z _ _ _ | exact q8Z _ _ _ | exact q9Z _ _ _ | exact q0Z _ _ _ | exact qHZ (by omega) (by omega) | exact qIZ (by omega) (by omega) | exact qAZ _ | exact qBZ _ _ _ | exact qCZ _ _ _) ?_ | refine qQZ (gV_F rfl) ?_ | refine qQZ (gV_T rfl) ?_))
    refine qJZ (fun hlt => ?_) (fun hlt => absurd (by omega) hlt)
    have hil : i < s.bad.length := by omega
    have hb := hD.bads s.bad[i] (List.getElem_mem _)
    obtain ⟨x, hx⟩ : ∃ x : Nat, s.bad[i] = (x : Int) + 1 := ⟨(s.bad[i] - 1).toNat, by omega⟩
    have hxb : (x : Int) + 1 ∈ s.bad := by rw [← hx]; exact List.getElem_mem _
    obtain ⟨pt, a1, a2⟩ := h.ok.bad.word (i := i) hil (ti := ty3) rfl
    rw [hx] at a2
    (repeat (first | refine qQZ (qDZ _) ?_ | refine qQZ (qEZ _) ?_ | refine qQZ (qFZ _ _) ?_ | refine qQZ (qGZ _ _) ?_ | refine qQZ (by (try with_reducible first | refine gV_F ?_ | refine gV_T ?_); first | exact h.sc.c | exact a1 | exact a2 | exact q1Z _ _ | exact q2Z _ _ _ | exact q3Z _ | exact q4Z _ | exact q5Z _ _ _ | exact q6Z _ _ _ | exact q7Z _ _ _ | exact q8Z _ _ _ | exact q9Z _ _ _ | exact q0Z _ _ _ | exact qHZ (by omega) (by omega) | exact qIZ (by omega) (by omega) | exact qAZ _ | exact qBZ _ _ _ | exact qCZ _ _ _) ?_ | refine qQZ (gV_F rfl) ?_ | refine qQZ (gV_T rfl) ?_))
    obtain ⟨_, _, _, _, _, _, _, h1⟩ := h.n
    obtain ⟨_, _, n1⟩ := h1.net
    refine p9Z (view_spec n1 (i := x) (by rw [dViews_len]; omega) (Nat.le_trans (dViews_few hn7 x) (by omega))) fun v H2 hv => ?_
    obtain ⟨l2, sv⟩ := hv
    have h' := h.mono l2
    refine ⟨qKZ l2 a2, h'.sc.c, ?_⟩
    obtain ⟨_, _, _, _, _, _, _, h2⟩ := h'.m
    obtain ⟨_, _, n2⟩ := h2.net
    refine p9Z (view_spec n2 (i := x) (by rw [dViews_len]; show x < s.n; omega) (Nat.le_trans (dViews_few (s := s.re tp) hn7 x) (by omega))) fun w H3 hw => ?_
    obtain ⟨l3, sw⟩ := hw
    rw [hT.views.at_ x hxb] at sw
    refine oRC_val (views_spec (sv.mono l3) sw) ?_
    (repeat (first | refine qQZ (qDZ _) ?_ | refine qQZ (qEZ _) ?_ | refine qQZ (qFZ _ _) ?_ | refine qQZ (qGZ _ _) ?_ | refine qQZ (by (try with_reducible first | refine gV_F ?_ | refine gV_T ?_); first | exact q1Z _ _ | exact q2Z _ _ _ | exact q3Z _ | exact q4Z _ | exact q5Z _ _ _ | exact q6Z _ _ _ | exact q7Z _ _ _ | exact q8Z _ _ _ | exact q9Z _ _ _ | exact q0Z _ _ _ | exact qHZ (by omega) (by omega) | exact qIZ (by omega) (by omega) | exact qAZ _ | exact qBZ _ _ _ | exact qCZ _ _ _) ?_ | refine qQZ (gV_F rfl) ?_ | refine qQZ (gV_T rfl) ?_))
    refine qLZ ?_
    (repeat (first | refine qQZ (qDZ _) ?_ | refine qQZ (qEZ _) ?_ | refine qQZ (qFZ _ _) ?_ | refine qQZ (qGZ _ _) ?_ | refine qQZ (by (try with_reducible first | refine gV_F ?_ | refine gV_T ?_); first | exact add_one (a := i) (by omega) | exact q1Z _ _ | exact q2Z _ _ _ | exact q3Z _ | exact q4Z _ | exact q5Z _ _ _ | exact q6Z _ _ _ | exact q7Z _ _ _ | exact q8Z _ _ _ | exact q9Z _ _ _ | exact q0Z _ _ _ | exact qHZ (by omega) (by omega) | exact qIZ (by omega) (by omega) | exact qAZ _ | exact qBZ _ _ _ | exact qCZ _ _ _) ?_ | refine qQZ (gV_F rfl) ?_ | refine qQZ (gV_T rfl) ?_))
    exact ih (i + 1) H3 (by omega) (by omega) (h'.mono l3)
theorem rem_i64 {a b : Int} (ha : 0 ≤ a) (hb : 0 < b) : vInt .rem (.int .i64 a) (.int .i64 b) = some (.int .i64 (a % b)) := by
  rw [vInt_rem, if_neg (by omega), Int.tmod_eq_emod_of_nonneg ha]
theorem rem_u64 {a b : Int} (ha : 0 ≤ a) (hb : 0 < b) : vInt .rem (.int .u64 a) (.int .u64 b) = some (.int .u64 (a % b)) := by
  rw [vInt_rem, if_neg (by omega), Int.tmod_eq_emod_of_nonneg ha]
theorem conv_u8 {a : Int} (ha : 0 ≤ a) (hb : a ≤ 255) : vConv (.int .i64) (.int .u8 a) = some (.int .i64 a) := by
  rw [qCZ, pBZ (by omega) (by omega)]
theorem secrecy18_spec {a b d : Int} (hG : GL H) (hok : DzOk H s q cv dv tv qv) (hwf : DzWf s q) (ha : 0 ≤ a ∧ a ≤ 255) (hb : 0 ≤ b ∧ b ≤ 255) (hd : 0 ≤ d ∧ d ≤ 18446744073709551615) : qVZ Tryd.prog 9 [dealVal s cv dv tv qv, .agg #[.int .u8 a, .int .u8 b], .int .u64 d] H Yes := by
  apply call9
  unfold m9
  refine deal_new s cv dv tv qv fun i1 H1 _ _ l1 hz => ?_
  show oNew [.int .u8 a, .int .u8 b] 2 79 H1 _
  intro ix hix
  have hx : (hins H1 ix (.cells [.int .u8 a, .int .u8 b] 2 79 true)) ix = some (.cells [.int .u8 a, .int .u8 b] 2 79 true) := hins_self _ _ _
  have lx : Le H1 (hins H1 ix (.cells [.int .u8 a, .int .u8 b] 2 79 true)) := Le.ins _ hix
  generalize hins H1 ix (.cells [.int .u8 a, .int .u8 b] 2 79 true) = Hx at hx lx
  have a0 : vIdxA 2 1 (qTZ ix) (.int .i64 0) = some (.pointer (some ⟨ix, 0, none⟩)) := rfl
  have a1 : vIdxA 2 1 (qTZ ix) (.int .i64 1) = some (.pointer (some ⟨ix, 1, none⟩)) := rfl
  have ld0 : ∀ K, Le Hx K → qWZ ty5 (.pointer (some ⟨ix, 0, none⟩)) K = some (.int .u8 a) := fun K hK => by
    simp only [qWZ, hK _ _ hx]; rfl
  have ld1 : ∀ K, Le Hx K → qWZ ty5 (.pointer (some ⟨ix, 1, none⟩)) K = some (.int .u8 b) := fun K hK => by
    simp only [qWZ, hK _ _ hx]; rfl
  refine oRC_grow (awake18_spec (hG.mono (l1.trans lx))) fun H2 l2 => ?_
  refine qQZ (v := .bool false) rfl (qLZ ?_)
  have lx2 := l2
  have l12 := (l1.trans lx).trans l2
  replace hz := hz.mono (lx.trans l2)
  (repeat (first | refine qQZ (qDZ _) ?_ | refine qQZ (qEZ _) ?_ | refine qQZ (qFZ _ _) ?_ | refine qQZ (qGZ _ _) ?_ | refine qQZ (by (try with_reducible first | refine gV_F ?_ | refine gV_T ?_); first | exact hz.scn | exact hz.qq | exact q1Z _ _ | exact q2Z _ _ _ | exact q3Z _ | exact q4Z _ | exact q5Z _ _ _ | exact q6Z _ _ _ | exact q7Z _ _ _ | exact q8Z _ _ _ | exact q9Z _ _ _ | exact q0Z _ _ _ | exact qHZ (by omega) (by omega) | exact qIZ (by omega) (by omega) | exact qAZ _ | exact qBZ _ _ _ | exact qCZ _ _ _) ?_ | refine qQZ (gV_F rfl) ?_ | refine qQZ (gV_T rfl) ?_))
  refine p9Z (fair18_spec (hok.mono l12) hwf) fun r H3 hr => ?_
  obtain ⟨l3, c, rfl, hc⟩ := hr
  cases c with
  | false => exact qQZ (v := .bool true) rfl (qMZ rfl)
  | true =>
    have hD := hc rfl
    obtain ⟨hn, hqn, hn7, hn4⟩ := hD.n
    have hp := hD.pos
    refine qQZ (v := .bool false) rfl (qLZ ?_)
    have l13 := l12.trans l3
    have hz3 := hz.mono l3
    (repeat (first | refine qQZ (qDZ _) ?_ | refine qQZ (qEZ _) ?_ | refine qQZ (qFZ _ _) ?_ | refine qQZ (qGZ _ _) ?_ | refine qQZ (by (try with_reducible first | refine gV_F ?_ | refine gV_T ?_); first | exact hz3.scn | exact q1Z _ _ | exact q2Z _ _ _ | exact q3Z _ | exact q4Z _ | exact q5Z _ _ _ | exact q6Z _ _ _ | exact q7Z _ _ _ | exact q8Z _ _ _ | exact q9Z _ _ _ | exact q0Z _ _ _ | exact qHZ (by omega) (by omega) | exact qIZ (by omega) (by omega) | exact qAZ _ | exact qBZ _ _ _ | exact qCZ _ _ _) ?_ | refine qQZ (gV_F rfl) ?_ | refine qQZ (gV_T rfl) ?_))
    refine scn_var (hok.mono l13).s fun i6 H4 l4 hsc => ?_
    have lx4 := (lx2.trans l3).trans l4
    have hz4 := hz3.mono l4
    have l14 := l13.trans l4
    obtain ⟨d0, ed⟩ : ∃ d0 : Nat, a % s.N = d0 := ⟨(a % s.N).toNat, by have := Int.emod_nonneg a (show s.N ≠ 0 by omega); omega⟩
    have hd0 : d0 < s.n := by have := Int.emod_lt_of_pos a (show 0 < s.N by omega); omega
    have rm : vInt .rem (.int .i64 a) (.int .i64 s.N) = some (.int .i64 (d0 : Int)) := by rw [rem_i64 ha.1 (by omega), ed]
    have ad : vInt .add (.int .i64 1) (.int .i64 (d0 : Int)) = some (.int .i64 ((d0 + 1 : Nat) : Int)) := (qHZ (by omega) (by omega)).trans (by rw [show (1 : Int) + d0 = ((d0 + 1 : Nat) : Int) by omega])
    have sub1 := sub_one (a := d0) (by omega)
    refine qQZ a0 (qQZ (ld0 H4 lx4) (qQZ (conv_u8 ha.1 ha.2) ?_))
    (repeat (first | refine qQZ (qDZ _) ?_ | refine qQZ (qEZ _) ?_ | refine qQZ (qFZ _ _) ?_ | refine qQZ (qGZ _ _) ?_ | refine qQZ (by (try with_reducible first | refine gV_F ?_ | refine gV_T ?_); first | exact hsc.n | exact rm | exact ad | exact hsc.all | exact q1Z _ _ | exact q2Z _ _ _ | exact q3Z _ | exact q4Z _ | exact q5Z _ _ _ | exact q6Z _ _ _ | exact q7Z _ _ _ | exact q8Z _ _ _ | exact q9Z _ _ _ | exact q0Z _ _ _ | exact qHZ (by omega) (by omega) | exact qIZ (by omega) (by omega) | exact qAZ _ | exact qBZ _ _ _ | exact qCZ _ _ _) ?_ | refine qQZ (gV_F rfl) ?_ | refine qQZ (gV_T rfl) ?_))
    refine oRC_grow (honest_spec ((hok.mono l14).s.bad) ((d0 + 1 : Nat) : Int)) fun H5 l5 => ?_
    have hz5 := hz4.mono l5
    have hsc5 := hsc.mono l5
    have l15 := l14.trans l5
    by_cases hon : ((d0 + 1 : Nat) : Int) ∈ s.bad
    · rw [decide_eq_false (fun h => h hon)]
      (repeat (first | refine qQZ (qDZ _) ?_ | refine qQZ (qEZ _) ?_ | refine qQZ (qFZ _ _) ?_ | refine qQZ (qGZ _ _) ?_ | refine qQZ (by (try with_reducible first | refine gV_F ?_ | refine gV_T ?_); first | exact q1Z _ _ | exact q2Z _ _ _ | exact q3Z _ | exact q4Z _ | exact q5Z _ _ _ | exact q6Z _ _ _ | exact q7Z _ _ _ | exact q8Z _ _ _ | exact q9Z _ _ _ | exact q0Z _ _ _ | exact qHZ (by omega) (by omega) | exact qIZ (by omega) (by omega) | exact qAZ _ | exact qBZ _ _ _ | exact qCZ _ _ _) ?_ | refine qQZ (gV_F rfl) ?_ | refine qQZ (gV_T rfl) ?_))
      exact qMZ rfl
    rw [decide_eq_true hon]
    have hon' : (d0 : Int) + 1 ∉ s.bad := by simpa using hon
    have hqd : d0 < q.length := by omega
    have hq5 := (hok.mono l15).q
    obtain ⟨pq, uq, q1, q2, q3⟩ := hq5.row hqd (ti := ty27) rfl
    rw [← p6Z (d := []) hqd] at q3
    (repeat (first | refine qQZ (qDZ _) ?_ | refine qQZ (qEZ _) ?_ | refine qQZ (qFZ _ _) ?_ | refine qQZ (qGZ _ _) ?_ | refine qQZ (by (try with_reducible first | refine gV_F ?_ | refine gV_T ?_); first | exact hz5.qq | exact sub1 | exact q1 | exact q2 | exact q3.len | exact q5Z .i64 ((q.getD d0 []).length : Int) 0 | exact q1Z _ _ | exact q2Z _ _ _ | exact q3Z _ | exact q4Z _ | exact q5Z _ _ _ | exact q6Z _ _ _ | exact q7Z _ _ _ | exact q8Z _ _ _ | exact q9Z _ _ _ | exact q0Z _ _ _ | exact qHZ (by omega) (by omega) | exact qIZ (by omega) (by omega) | exact qAZ _ | exact qBZ _ _ _ | exact qCZ _ _ _) ?_ | refine qQZ (gV_F rfl) ?_ | refine qQZ (gV_T rfl) ?_))
    by_cases h0 : ((q.getD d0 []).length : Int) = 0
    · rw [decide_eq_true h0]
      (repeat (first | refine qQZ (qDZ _) ?_ | refine qQZ (qEZ _) ?_ | refine qQZ (qFZ _ _) ?_ | refine qQZ (qGZ _ _) ?_ | refine qQZ (by (try with_reducible first | refine gV_F ?_ | refine gV_T ?_); first | exact q1Z _ _ | exact q2Z _ _ _ | exact q3Z _ | exact q4Z _ | exact q5Z _ _ _ | exact q6Z _ _ _ | exact q7Z _ _ _ | exact q8Z _ _ _ | exact q9Z _ _ _ | exact q0Z _ _ _ | exact qHZ (by omega) (by omega) | exact qIZ (by omega) (by omega) | exact qAZ _ | exact qBZ _ _ _ | exact qCZ _ _ _) ?_ | refine qQZ (gV_F rfl) ?_ | refine qQZ (gV_T rfl) ?_))
      exact qMZ rfl
    rw [decide_eq_false h0]
    (repeat (first | refine qQZ (qDZ _) ?_ | refine qQZ (qEZ _) ?_ | refine qQZ (qFZ _ _) ?_ | refine qQZ (qGZ _ _) ?_ | refine qQZ (by (try with_reducible first | refine gV_F ?_ | refine gV_T ?_); first | exact q1Z _ _ | exact q2Z _ _ _ | exact q3Z _ | exact q4Z _ | exact q5Z _ _ _ | exact q6Z _ _ _ | exact q7Z _ _ _ | exact q8Z _ _ _ | exact q9Z _ _ _ | exact q0Z _ _ _ | exact qHZ (by omega) (by omega) | exact qIZ (by omega) (by omega) | exact qAZ _ | exact qBZ _ _ _ | exact qCZ _ _ _) ?_ | refine qQZ (gV_F rfl) ?_ | refine qQZ (gV_T rfl) ?_))
    refine qLZ ?_
    obtain ⟨k, ek⟩ : ∃ k : Nat, b % ((q.getD d0 []).length : Int) = k := ⟨(b % ((q.getD d0 []).length : Int)).toNat, by have := Int.emod_nonneg b h0; omega⟩
    have hk : k < (q.getD d0 []).length := by have := Int.emod_lt_of_pos b (show 0 < ((q.getD d0 []).length : Int) by omega); omega
    have rk : vInt .rem (.int .i64 b) (.int .i64 ((q.getD d0 []).length : Int)) = some (.int .i64 (k : Int)) := by rw [rem_i64 hb.1 (by omega), ek]
    have lx5 := lx4.trans l5
    (repeat (first | refine qQZ (qDZ _) ?_ | refine qQZ (qEZ _) ?_ | refine qQZ (qFZ _ _) ?_ | refine qQZ (qGZ _ _) ?_ | refine qQZ (by (try with_reducible first | refine gV_F ?_ | refine gV_T ?_); first | exact hsc5.all | exact hz5.qq | exact a1 | exact ld1 H5 lx5 | exact conv_u8 hb.1 hb.2 | exact sub1 | exact q1 | exact q2 | exact q3.len | exact rk | exact hsc5.p | exact rem_u64 hd.1 (show 0 < s.P by omega) | exact q1Z _ _ | exact q2Z _ _ _ | exact q3Z _ | exact q4Z _ | exact q5Z _ _ _ | exact q6Z _ _ _ | exact q7Z _ _ _ | exact q8Z _ _ _ | exact q9Z _ _ _ | exact q0Z _ _ _ | exact qHZ (by omega) (by omega) | exact qIZ (by omega) (by omega) | exact qAZ _ | exact qBZ _ _ _ | exact qCZ _ _ _) ?_ | refine qQZ (gV_F rfl) ?_ | refine qQZ (gV_T rfl) ?_))
    have e0 := Int.emod_nonneg d (show s.P ≠ 0 by omega)
    have e1 := Int.emod_lt_of_pos d (show 0 < s.P by omega)
    obtain ⟨hT, _⟩ := mov_twin (k := k) (d := d % s.P) hD hd0 hon' hk
    refine p9Z (moved_spec (hok.mono l15) hD hd0 hk e0 e1) fun v H6 hv => ?_
    obtain ⟨tv', qv', rfl, l6, sT, sQ⟩ := hv
    generalize movT s q d0 k (d % s.P) = tp at hT sT
    generalize movQ s q d0 k (d % s.P) = q' at hT sQ
    have l16 := l15.trans l6
    refine qQZ (v := scnVal (s.re tp) cv dv tv') rfl (qQZ (v := qv') rfl ?_)
    have hok' : DzOk H6 (s.re tp) q' cv dv tv' qv' := ⟨⟨(hok.mono l16).s.bad, (hok.mono l16).s.devs, sT⟩, sQ⟩
    have hwf' : DzWf (s.re tp) q' := hT.D'.wf hwf.k
    refine scn_var (s := s.re tp) hok'.s fun i7 H7 l7 hs7 => ?_
    have l17 := l16.trans l7
    have hz7 := (hz5.mono l6).mono l7
    (repeat (first | refine qQZ (qDZ _) ?_ | refine qQZ (qEZ _) ?_ | refine qQZ (qFZ _ _) ?_ | refine qQZ (qGZ _ _) ?_ | refine qQZ (by (try with_reducible first | refine gV_F ?_ | refine gV_T ?_); first | exact hz7.all | exact q1Z _ _ | exact q2Z _ _ _ | exact q3Z _ | exact q4Z _ | exact q5Z _ _ _ | exact q6Z _ _ _ | exact q7Z _ _ _ | exact q8Z _ _ _ | exact q9Z _ _ _ | exact q0Z _ _ _ | exact qHZ (by omega) (by omega) | exact qIZ (by omega) (by omega) | exact qAZ _ | exact qBZ _ _ _ | exact qCZ _ _ _) ?_ | refine qQZ (gV_F rfl) ?_ | refine qQZ (gV_T rfl) ?_))
    refine p9Z (dist18_spec (hG.mono l17) (hok.mono l17) hwf hD) fun v H8 hv => ?_
    obtain ⟨R, tg, jn, tp1, qs, Sv, Rv, Fv, lR, rfl, hd1⟩ := hv
    refine qQZ (v := .agg #[Sv, Rv, Fv]) rfl (qQZ (v := qTZ jn) rfl (qQZ (v := .bool true) rfl ?_))
    refine st_var hd1.mats hd1.rows hd1.flags fun i9 H9 l9 hst => ?_
    have hd9 := dealt_mono hd1 l9
    have lR9 := hd9.lab.le
    have lRk := l17.trans lR
    (repeat (first | refine qQZ (qDZ _) ?_ | refine qQZ (qEZ _) ?_ | refine qQZ (qFZ _ _) ?_ | refine qQZ (qGZ _ _) ?_ | refine qQZ (by (try with_reducible first | refine gV_F ?_ | refine gV_T ?_); first | exact ((hs7.mono lR).mono lR9).all | exact q1Z _ _ | exact q2Z _ _ _ | exact q3Z _ | exact q4Z _ | exact q5Z _ _ _ | exact q6Z _ _ _ | exact q7Z _ _ _ | exact q8Z _ _ _ | exact q9Z _ _ _ | exact q0Z _ _ _ | exact qHZ (by omega) (by omega) | exact qIZ (by omega) (by omega) | exact qAZ _ | exact qBZ _ _ _ | exact qCZ _ _ _) ?_ | refine qQZ (gV_F rfl) ?_ | refine qQZ (gV_T rfl) ?_))
    refine qQZ (v := dealVal (s.re tp) cv dv tv' qv') (by obtain ⟨_, _, _, e, _⟩ := id sQ; subst e; rfl) ?_
    refine oRC_frame (dist18_spec (s := s.re tp) (hG.mono lRk) ((hok'.mono l7).mono lR) hwf' hT.D') lR9 fun v R2 H10 hv l10 f10 n10 => ?_
    obtain ⟨R3, tg3, jm, tp3, qs3, Sv3, Rv3, Fv3, lR3, rfl, hd3⟩ := hv
    have lR2 := lR3.trans hd3.lab.le
    obtain ⟨_, l910⟩ := hd9.lab.framed lR2 l10 f10 n10
    have hd10 := dealt_mono hd9 l910
    have hd11 := dealt_mono hd3 l10
    refine qQZ (v := .agg #[Sv3, Rv3, Fv3]) rfl (qQZ (v := qTZ jm) rfl (qQZ (v := .bool true) rfl ?_))
    refine st_var hd11.mats hd11.rows hd11.flags fun i11 H11 l11 hst2 => ?_
    (repeat (first | refine qQZ (qDZ _) ?_ | refine qQZ (qEZ _) ?_ | refine qQZ (qFZ _ _) ?_ | refine qQZ (qGZ _ _) ?_ | refine qQZ (by (try with_reducible first | refine gV_F ?_ | refine gV_T ?_); first | exact q1Z _ _ | exact q2Z _ _ _ | exact q3Z _ | exact q4Z _ | exact q5Z _ _ _ | exact q6Z _ _ _ | exact q7Z _ _ _ | exact q8Z _ _ _ | exact q9Z _ _ _ | exact q0Z _ _ _ | exact qHZ (by omega) (by omega) | exact qIZ (by omega) (by omega) | exact qAZ _ | exact qBZ _ _ _ | exact qCZ _ _ _) ?_ | refine qQZ (gV_F rfl) ?_ | refine qQZ (gV_T rfl) ?_))
    refine qLZ ?_
    unfold m9_2
    have lE : Le H9 H11 := l910.trans l11
    have l5E : Le H5 H11 := (((l6.trans l7).trans lR).trans lR9).trans lE
    exact sec_loop hT (fun _ => rfl) _ 0 H11 rfl (by omega) ⟨hsc5.mono l5E, (hok.mono (l15.trans l5E)).s, ⟨_, _, _, _, _, _, _, dealt_mono hd10 l11⟩, ⟨_, _, _, _, _, _, _, dealt_mono hd11 l11⟩⟩
end
end

end Go.Proofs.YtchhpagkdaaglaaDoor.SL
