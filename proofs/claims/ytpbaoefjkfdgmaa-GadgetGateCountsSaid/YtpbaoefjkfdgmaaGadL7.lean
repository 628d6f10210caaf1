/- GadgetComparisons. -/
import Derived.Test.YtpbaoefjkfdgmaaGadZ
import Derived.Test.YtpbaoefjkfdgmaaGadCo
set_option linter.unusedVariables false
set_option linter.unusedSimpArgs false
namespace Go.Proofs.Ytpbaoefjkfdgmaa.SL
open Go

theorem guard2 {u v : Value} {n m : Nat} {c : Int} {b : Bool} {A B : Prop} (hu : vLen u = some (.int .i64 n)) (hv : vLen v = some (.int .i64 m)) (hA : A) (hB : b = true → (n : Int) ≤ c → (m : Int) ≤ c → B) :
    oV (vUn .not (.bool b)) fun t16 => oV (gV t16 false (some u) (some undef)) fun t18 => oV (gV t16 false (vLen t18) (some undef)) fun t19 => oV (gV t16 false (vInt .gtr t19 (.int .i64 c)) (some undef)) fun t20 => oV (vPick t16 (.bool true) t20) fun t21 =>
      oV (gV t21 false (some v) (some undef)) fun t23 => oV (gV t21 false (vLen t23) (some undef)) fun t24 => oV (gV t21 false (vInt .gtr t24 (.int .i64 c)) (some undef)) fun t25 => oV (vPick t21 (.bool true) t25) fun t26 => condK t26 A B := by
  cases b with
  | false => exact condK_true hA
  | true =>
    simp only [↓hs_not, Bool.not_true, ↓hs_gFF, ↓hs_some, ↓oV_of hu, ↓hs_gtr, ↓hs_pickF]
    by_cases h : c < (n : Int)
    · rw [decide_eq_true h]
      exact condK_true hA
    · rw [decide_eq_false h]
      simp only [↓hs_gFF, ↓hs_some, ↓oV_of hv, ↓hs_gtr, ↓hs_pickF]
      exact condK_dec (fun _ => hA) (fun h2 => hB rfl (by omega) (by omega))
/-- The rows of the two parties. -/
theorem rows2 {K : Heap} {u w : Value} {xs ys : List Bool} {k : Value → Heap → Prop} (hu : WL K u xs) (hw : WL K w ys) (hx : xs.length ≤ 1000) (hk : ∀ s K', Le K K' → Sl (eSlice (eInt .u64)) K' s (words2 xs ys) → k s K') : oBuildS ty35 35 2 [((0, 1), u), ((1, 1), w)] K k := by
  obtain ⟨ub, uc, _, rfl, _⟩ := id hu
  obtain ⟨wb, wc, _, rfl, _⟩ := id hw
  show oNew [.slice ub (xs.map wordOf).length uc, .slice wb (ys.map wordOf).length wc] 2 35 K _
  intro i hi
  exact hk _ _ (Le.ins _ hi) (lit_rows (t := 35) (n := 2) (words2 xs ys) [.slice ub (xs.map wordOf).length uc, .slice wb (ys.map wordOf).length wc] rfl (by simp [words2]) hi (fun j hj => by
    match j, hj with
    | 0, _ => exact ⟨_, rfl, hu⟩
    | 1, _ => exact ⟨_, rfl, hw⟩))
theorem comparisons_law {H : Heap} {p : Int} {xv yv : Value} {xs ys : List Bool} (hx : Sl eBool H xv xs) (hy : Sl eBool H yv ys) : RCalls Try.prog 7 [.int .u64 p, xv, yv] H (Ret fun v _ => v = .bool true) := by
  apply call7
  unfold m7
  refine oRC_grow (awake_spec H) fun H2 l2 => ?_
  refine oV_eq rfl (condK_false ?_)
  refine oRC_grow (supported_spec H2 p) fun H3 l3 => ?_
  have l13 := l2.trans l3
  refine guard2 hx.len hy.len rfl fun hp hlx hly => ?_
  replace hp := of_decide_eq_true hp
  have hpp := hp.pos
  refine oRC_ret (words_spec (hx.mono l13) (by omega)) fun u H4 hv => ?_
  obtain ⟨N, hN, hu⟩ := hv
  replace hu : WL H4 u xs := hu.mono hN.2.1
  have l4 := l13.trans hN.1
  refine oRC_ret (words_spec (hy.mono l4) (by omega)) fun w H5 hv => ?_
  obtain ⟨M, hM, hw⟩ := hv
  replace hw : WL H5 w ys := hw.mono hM.2.1
  replace hu : WL H5 u xs := hu.mono hM.1
  refine oRC_ret (new_spec H5 p) fun b K1 h => ?_
  refine oV_eq hx.len ?_
  refine oRC_ret (ins_spec (f := 1) (n := xs.length) h (by simp; omega)) fun mv K2 hv => ?_
  obtain ⟨G1, g1, h, hm⟩ := hv
  refine oV_eq hy.len ?_
  refine oRC_ret (ins_spec (f := 2) (n := ys.length) h (by simp; omega)) fun nv K3 hv => ?_
  obtain ⟨G2, g2, h, hn⟩ := hv
  replace hm : Sl (eInt .i64) G2 mv (ids 0 xs.length) := hm.mono g2
  rw [List.nil_append, List.length_replicate] at hn
  replace h : Bd G2 K3 b p (inGates xs.length ys.length) [] := h
  have hg0 : (inGates xs.length ys.length).length = xs.length + ys.length := by simp [inGates]
  obtain ⟨w1, w2⟩ := start_wires (GExt.refl p (inGates xs.length ys.length))
  have hli : (ids 0 xs.length).length = xs.length := ids_len _ _
  have hlj : (ids xs.length ys.length).length = ys.length := ids_len _ _
  have hm7 : max xs.length ys.length * 7 ≤ 12 * 7 := Nat.mul_le_mul_right _ (by omega)
  refine oRC_ret (less_spec hp h hm hn (by omega) (by omega) (by omega)) fun v K4 hv => ?_
  obtain ⟨G3, rfl, g3, h⟩ := hv
  obtain ⟨e1, s1⟩ := pLess_sem hp w1 w2
  have n1 := pLess_len (ids 0 xs.length) (ids xs.length ys.length) (inGates xs.length ys.length)
  rw [hli, hlj] at n1
  generalize pLess (ids 0 xs.length) (ids xs.length ys.length) (inGates xs.length ys.length) = r1 at h e1 s1 n1 ⊢
  refine oRC_ret (output_spec h _ (Nat.le_of_ble_eq_true rfl)) fun v K5 h => ?_
  refine oRC_ret (equal_bits_spec hp h (hm.mono g3) (hn.mono g3) (by omega) (by omega) (by omega)) fun v K6 hv => ?_
  obtain ⟨G4, rfl, g4, h⟩ := hv
  obtain ⟨e2, s2⟩ := pEqual_sem hp (w1.ext e1) (w2.ext e1)
  have n2 := pEqual_len (ids 0 xs.length) (ids xs.length ys.length) r1.2
  rw [hli, hlj] at n2
  generalize pEqual (ids 0 xs.length) (ids xs.length ys.length) r1.2 = r2 at h e2 s2 n2 ⊢
  refine oRC_ret (output_spec h _ (Nat.le_of_ble_eq_true rfl)) fun v K7 h => ?_
  refine oRC_ret (compose_spec hp (hm.mono (g3.trans g4)) h (by omega)) fun v K8 hv => ?_
  obtain ⟨rfl, h⟩ := hv
  have e12 := e1.trans e2
  obtain ⟨e3, s3⟩ := pCompose_sem hp (w1.ext e12)
  have n3 := (pCompose_cost (ids 0 xs.length) r2.2 p).1
  rw [hli] at n3
  generalize pCompose p (ids 0 xs.length) r2.2 = r3 at h e3 s3 n3 ⊢
  refine oRC_ret (output_spec h _ (Nat.le_of_ble_eq_true rfl)) fun v K9 h => ?_
  have e13 := e12.trans e3
  have t1 := s1.ext (e2.trans e3)
  have t2 := s2.ext e3
  refine oRC_ret (circuit_spec h (by omega) (Nat.le_of_ble_eq_true rfl)) fun c K10 hv => ?_
  obtain ⟨G', hG, hB, hC⟩ := hv
  replace hC := hC.mono hB.le
  have lG := (g1.trans (g2.trans (g3.trans (g4.trans hG)))).trans hB.le
  refine rows2 (hu.mono lG) (hw.mono lG) (by omega) fun s K11 l11 hs => ?_
  have lK := lG.trans l11
  refine oRC_val (rless_spec (hu.mono lK) (hw.mono lK) (by omega)) ?_
  refine oRC_val (requal_spec (hu.mono lK) (hw.mono lK) (by omega)) ?_
  refine oRC_val (number_spec hp (hu.mono lK) (by omega)) ?_
  show oNew (([wordOf (lessB xs ys), wordOf (equalB xs ys), (num xs : Int) % p] : List Int).map (.int .u64)) 3 22 K11 _
  intro iw hiw
  have sw := lit_ints (k := .u64) (H := K11) (i := iw) (t := 22) (n := 3) [wordOf (lessB xs ys), wordOf (equalB xs ys), (num xs : Int) % p] (by simp)
  have lw := Le.ins (.cells (([wordOf (lessB xs ys), wordOf (equalB xs ys), (num xs : Int) % p] : List Int).map (.int .u64)) 3 22 true) hiw
  refine oRC_grow (tells_spec (gs := r3.2) (os := [r1.1, r2.1, r3.1]) ((hC.mono l11).mono lw) (hs.mono lw) sw (start_wf e13) (start_wfI xs ys) (by simp [words2]) ⟨hp, by omega, by simp, e13.val (start_valid hp _ _), ?_⟩ (start_fits hp e13) ?_) fun K _ => rfl
  · intro o ho
    simp only [List.mem_cons, List.not_mem_nil, or_false] at ho
    rcases ho with rfl | rfl | rfl
    · exact ⟨t1.lo, t1.hi⟩
    · exact ⟨t2.lo, t2.hi⟩
    · exact ⟨s3.lo, s3.hi⟩
  · rw [start_eff]
    simp only [outsOf, List.map_cons, List.map_nil, t1.at_, t2.at_, s3.at_]
theorem comparisons_in {H : Heap} {p : Int} {xv yv : Value} {xs ys : List Bool} (_ : 0 ≤ p ∧ p ≤ 18446744073709551615) (hx : Sl eBool H xv xs) (hy : Sl eBool H yv ys) : RCalls Try.prog 7 [.int .u64 p, xv, yv] H (Ret fun v _ => v = .bool true) := comparisons_law hx hy
end Go.Proofs.Ytpbaoefjkfdgmaa.SL
