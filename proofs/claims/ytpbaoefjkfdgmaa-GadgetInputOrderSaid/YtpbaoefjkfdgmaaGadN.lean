/- GadgetFieldGates. -/
import Derived.Test.YtpbaoefjkfdgmaaGadM
set_option linter.unusedVariables false
set_option linter.unusedSimpArgs false
namespace Go.Proofs.Ytpbaoefjkfdgmaa.SL
open Go

theorem op_spec0 (H : Heap) {p a b : Int} (hp : Supp p) (ha : 0 ≤ a) (hap : a < p) (hb : 0 ≤ b) (hbp : b < p) : RCalls Try.prog 20 [.int .u64 p, .int .i64 0, .int .u64 a, .int .u64 b, .int .u64 0] H (Val (.int .u64 ((a + b) % p)) H) := by
  have := hp.pos
  apply call20
  unfold m20
  exact oV_eq (vInt_eql _ _ _) (condK_true (oRC_val (radd_spec H (by omega) ha hb (by omega)) ⟨rfl, rfl⟩))
theorem op_spec1 (H : Heap) {p a b : Int} (hp : Supp p) (ha : 0 ≤ a) (hap : a < p) (hb : 0 ≤ b) (hbp : b < p) : RCalls Try.prog 20 [.int .u64 p, .int .i64 1, .int .u64 a, .int .u64 b, .int .u64 0] H (Val (.int .u64 ((a - b) % p)) H) := by
  have := hp.pos
  apply call20
  unfold m20
  exact oV_eq (vInt_eql _ _ _) (condK_false (oV_eq (vInt_eql _ _ _) (condK_true (oRC_val (rsub_spec H (by omega) ha hb (by omega) (by omega)) ⟨rfl, rfl⟩))))
theorem op_spec2 (H : Heap) {p a b : Int} (hp : Supp p) (ha : 0 ≤ a) (hap : a < p) (hb : 0 ≤ b) (hbp : b < p) : RCalls Try.prog 20 [.int .u64 p, .int .i64 2, .int .u64 a, .int .u64 b, .int .u64 0] H (Val (.int .u64 (a * b % p)) H) := by
  have := hp.pos
  apply call20
  unfold m20
  exact oV_eq (vInt_eql _ _ _) (condK_false (oV_eq (vInt_eql _ _ _) (condK_false (oV_eq (vInt_eql _ _ _) (condK_true (oRC_val (rmul_spec H hp ha hap hb hbp) ⟨rfl, rfl⟩))))))
theorem inCount_cons (f : Int) (g : Gate) (gs : List Gate) : inCount f (g :: gs) = inCount f gs + if g.kind = 1 ∧ g.frm = f then 1 else 0 := by
  unfold inCount
  rw [List.countP_cons]
  simp [inOf]
theorem inCount_nil (f : Int) : inCount f [] = 0 := rfl
def fgGates (k : Int) : List Gate := [⟨1, 1, 0, 0, 0⟩, ⟨1, 2, 0, 0, 0⟩, ⟨3, 0, 0, 1, 0⟩, ⟨4, 0, 0, 1, 0⟩, ⟨6, 0, 0, 1, 0⟩, ⟨5, 0, 0, 0, k⟩, ⟨2, 0, 0, 0, k⟩]
theorem fg_valid {p k : Int} (hp : Supp p) (hk : k < p) : validC p (fgGates k) [2, 3, 4, 5, 6, 0] := by
  refine ⟨hp, by simp [fgGates], by simp, ?_, by simp [fgGates]⟩
  intro i h
  have hi : i = 0 ∨ i = 1 ∨ i = 2 ∨ i = 3 ∨ i = 4 ∨ i = 5 ∨ i = 6 := by
    simp only [fgGates, List.length_cons, List.length_nil] at h
    omega
  rcases hi with rfl | rfl | rfl | rfl | rfl | rfl | rfl <;> simp [fgGates, validGate] <;> omega
theorem fg_fits {p k x0 x1 : Int} (h0 : x0 < p) (h1 : x1 < p) : fits p (fgGates k) [[x0], [x1]] := by
  refine ⟨fun i h hk => ?_, fun j hj => ?_⟩
  · have hi : i = 0 ∨ i = 1 ∨ i = 2 ∨ i = 3 ∨ i = 4 ∨ i = 5 ∨ i = 6 := by
      simp only [fgGates, List.length_cons, List.length_nil] at h
      omega
    rcases hi with rfl | rfl | rfl | rfl | rfl | rfl | rfl <;> simp [fgGates]
  · match j, hj with
    | 0, _ => exact ⟨by simp [fgGates, inCount_cons, inCount_nil], by simpa using h0⟩
    | 1, _ => exact ⟨by simp [fgGates, inCount_cons, inCount_nil], by simpa using h1⟩
theorem fg_outs (p k x0 x1 : Int) : outsOf p (eff (fgGates k) [[x0], [x1]]) (fgGates k) [2, 3, 4, 5, 6, 0] = [(x0 + x1) % p, (x0 - x1) % p, x0 * x1 % p, k * x0 % p, k, x0] := by
  have he : eff (fgGates k) [[x0], [x1]] = [[x0], [x1]] := by simp [eff, fgGates, badUpto, inOf, List.range_succ]
  rw [he]
  simp [outsOf, vals, valsTo, gval, fgGates, inCount_cons, inCount_nil]
theorem fieldGates_law (H : Heap) (p x0 x1 k : Int) (h0 : 0 ≤ x0) (h1 : 0 ≤ x1) (hk : 0 ≤ k) : RCalls Try.prog 3 [.int .u64 p, .agg #[.int .u64 x0, .int .u64 x1], .int .u64 k] H (Ret fun v _ => v = .bool true) := by
  apply call3
  unfold m3
  show oNew [.int .u64 x0, .int .u64 x1] 2 23 H _
  intro ix hix
  have hx : (hins H ix (.cells [.int .u64 x0, .int .u64 x1] 2 23 true)) ix = some (.cells [.int .u64 x0, .int .u64 x1] 2 23 true) := hins_self _ _ _
  generalize hins H ix (.cells [.int .u64 x0, .int .u64 x1] 2 23 true) = H1 at hx ⊢
  have a0 : vIdxA 2 1 (ptrTo ix) (.int .i64 0) = some (.pointer (some ⟨ix, 0, none⟩)) := rfl
  have a1 : vIdxA 2 1 (ptrTo ix) (.int .i64 1) = some (.pointer (some ⟨ix, 1, none⟩)) := rfl
  have ld : ∀ K, Le H1 K → vLoad ty22 (.pointer (some ⟨ix, 0, none⟩)) K = some (.int .u64 x0) ∧ vLoad ty22 (.pointer (some ⟨ix, 1, none⟩)) K = some (.int .u64 x1) := by
    intro K hK
    have := hK _ _ hx
    simp only [vLoad, this]
    exact ⟨rfl, rfl⟩
  refine oRC_grow (awake_spec H1) fun H2 l2 => ?_
  refine oV_eq rfl (condK_false ?_)
  refine oRC_grow (supported_spec H2 p) fun H3 l3 => ?_
  have l13 := l2.trans l3
  by_cases hp : Supp p
  case neg =>
    rw [decide_eq_false hp]
    exact condK_true rfl
  rw [decide_eq_true hp]
  refine oV_eq (v := .bool false) rfl (oV_eq a0 (oV_eq (ld _ l13).1 (oV_eq (v := .int .u64 p) rfl (oV_eq (vInt_geq .u64 x0 p) (oV_eq rfl ?_)))))
  by_cases c0 : p ≤ x0
  case pos =>
    rw [decide_eq_true c0]
    exact condK_true rfl
  rw [decide_eq_false c0]
  refine oV_eq a1 (oV_eq (ld _ l13).2 (oV_eq (v := .int .u64 p) rfl (oV_eq (vInt_geq .u64 x1 p) (oV_eq rfl ?_))))
  by_cases c1 : p ≤ x1
  case pos =>
    rw [decide_eq_true c1]
    exact condK_true rfl
  rw [decide_eq_false c1]
  refine oV_eq (v := .int .u64 k) rfl (oV_eq (v := .int .u64 p) rfl (oV_eq (vInt_geq .u64 k p) (oV_eq rfl ?_)))
  by_cases c2 : p ≤ k
  case pos =>
    rw [decide_eq_true c2]
    exact condK_true rfl
  rw [decide_eq_false c2]
  refine condK_false ?_
  have hpp := hp.pos
  refine oRC_ret (new_spec H3 p) fun b K1 h => ?_
  refine oRC_ret (input_puts b p 1 false _ _ _ _ h (Nat.le_of_ble_eq_true rfl)) fun v K2 hv => ?_
  obtain ⟨rfl, h⟩ := hv
  refine oRC_ret (input_puts b p 2 false _ _ _ _ h (Nat.le_of_ble_eq_true rfl)) fun v K3 hv => ?_
  obtain ⟨rfl, h⟩ := hv
  refine oRC_ret (add_puts b p _ _ _ _ _ _ h (Nat.le_of_ble_eq_true rfl)) fun v K4 hv => ?_
  obtain ⟨rfl, h⟩ := hv
  refine oRC_ret (output_spec h _ (Nat.le_of_ble_eq_true rfl)) fun v K5 h => ?_
  refine oRC_ret (sub_puts b p _ _ _ _ _ _ h (Nat.le_of_ble_eq_true rfl)) fun v K6 hv => ?_
  obtain ⟨rfl, h⟩ := hv
  refine oRC_ret (output_spec h _ (Nat.le_of_ble_eq_true rfl)) fun v K7 h => ?_
  refine oRC_ret (mul_puts b p _ _ _ _ _ _ h (Nat.le_of_ble_eq_true rfl)) fun v K8 hv => ?_
  obtain ⟨rfl, h⟩ := hv
  refine oRC_ret (output_spec h _ (Nat.le_of_ble_eq_true rfl)) fun v K9 h => ?_
  refine oRC_ret (scale_puts b p k _ _ _ _ _ h (Nat.le_of_ble_eq_true rfl)) fun v K10 hv => ?_
  obtain ⟨rfl, h⟩ := hv
  refine oRC_ret (output_spec h _ (Nat.le_of_ble_eq_true rfl)) fun v K11 h => ?_
  refine oRC_ret (const_puts b p k _ _ _ _ h (Nat.le_of_ble_eq_true rfl)) fun v K12 hv => ?_
  obtain ⟨rfl, h⟩ := hv
  refine oRC_ret (output_spec h _ (Nat.le_of_ble_eq_true rfl)) fun v K13 h => ?_
  refine oRC_ret (output_spec h _ (Nat.le_of_ble_eq_true rfl)) fun v K14 h => ?_
  have q := ld _ (l13.trans h.le)
  refine oV_eq a0 (oV_eq q.1 (oV_eq a1 (oV_eq q.2 (oV_eq a0 (oV_eq q.1 (oV_eq a1 (oV_eq q.2 (oV_eq a0 (oV_eq q.1 (oV_eq a1 (oV_eq q.2 (oV_eq a0 (oV_eq q.1 (oV_eq a0 (oV_eq q.1 ?_)))))))))))))))
  refine oRC_val (op_spec0 _ hp h0 (by omega) h1 (by omega)) ⟨q.1, q.1, q.2, q.1, q.2, q.1, ?_⟩
  refine oRC_val (op_spec1 _ hp h0 (by omega) h1 (by omega)) ⟨q.1, q.1, q.2, q.1, ?_⟩
  refine oRC_val (op_spec2 _ hp h0 (by omega) h1 (by omega)) ⟨q.1, q.1, ?_⟩
  refine oRC_val (rmul_spec _ hp hk (by omega) h0 (by omega)) ⟨q.1, ?_⟩
  show oNew (([(x0 + x1) % p, (x0 - x1) % p, x0 * x1 % p, k * x0 % p, k, x0] : List Int).map (.int .u64)) 6 22 K14 _
  intro iw hiw
  have hlw := Le.ins (.cells (([(x0 + x1) % p, (x0 - x1) % p, x0 * x1 % p, k * x0 % p, k, x0] : List Int).map (.int .u64)) 6 22 true) hiw
  have sw := lit_ints (k := .u64) (H := K14) (i := iw) (t := 22) (n := 6) [(x0 + x1) % p, (x0 - x1) % p, x0 * x1 % p, k * x0 % p, k, x0] (by simp)
  have hle3 : Le H3 (hins H3 iw (.cells (([(x0 + x1) % p, (x0 - x1) % p, x0 * x1 % p, k * x0 % p, k, x0] : List Int).map (.int .u64)) 6 22 true)) := Le.ins _ (none_le h.le hiw)
  have swG := lit_ints (k := .u64) (H := H3) (i := iw) (t := 22) (n := 6) [(x0 + x1) % p, (x0 - x1) % p, x0 * x1 % p, k * x0 % p, k, x0] (by simp)
  replace h := h.fresh hiw (.cells (([(x0 + x1) % p, (x0 - x1) % p, x0 * x1 % p, k * x0 % p, k, x0] : List Int).map (.int .u64)) 6 22 true)
  have q2 := ld _ ((l13.trans hle3).trans h.le)
  refine oV_eq a0 (oV_eq q2.1 (oV_eq a1 (oV_eq q2.2 ?_)))
  refine oRC_ret (circuit_spec h (Nat.le_of_ble_eq_true rfl) (Nat.le_of_ble_eq_true rfl)) fun c K16 hv => ?_
  obtain ⟨G', hG, hB, hC⟩ := hv
  have q3 := ld _ (((l13.trans hle3).trans hG).trans hB.le)
  refine ⟨q3.2, q3.1, ?_⟩
  replace hC := hC.mono hB.le
  replace swG := swG.mono (hG.trans hB.le)
  show oNew (([x0] : List Int).map (.int .u64)) 1 22 K16 _
  intro i1 hi1
  show oNew (([x1] : List Int).map (.int .u64)) 1 22 _ _
  intro i2 hi2
  show oNew [.slice (some ⟨i1, 0, none⟩) 1 1, .slice (some ⟨i2, 0, none⟩) 1 1] 2 35 _ _
  intro i3 hi3
  have s1 := (lit_ints (k := .u64) (H := K16) (i := i1) (t := 22) (n := 1) [x0] (by simp)).mono (Le.ins (.cells (([x1] : List Int).map (.int .u64)) 1 22 true) hi2)
  have s2 := lit_ints (k := .u64) (H := hins K16 i1 (.cells (([x0] : List Int).map (.int .u64)) 1 22 true)) (i := i2) (t := 22) (n := 1) [x1] (by simp)
  have s3 := lit_rows (t := 35) (n := 2) [[x0], [x1]] [.slice (some ⟨i1, 0, none⟩) 1 1, .slice (some ⟨i2, 0, none⟩) 1 1] rfl (by simp) hi3 (fun j hj => by
    match j, hj with
    | 0, _ => exact ⟨_, rfl, s1⟩
    | 1, _ => exact ⟨_, rfl, s2⟩)
  have hl3 := ((Le.ins (.cells (([x0] : List Int).map (.int .u64)) 1 22 true) hi1).trans (Le.ins (.cells (([x1] : List Int).map (.int .u64)) 1 22 true) hi2)).trans (Le.ins (.cells [.slice (some ⟨i1, 0, none⟩) 1 1, .slice (some ⟨i2, 0, none⟩) 1 1] 2 35 true) hi3)
  refine oRC_grow (tells_spec (gs := fgGates k) (os := [2, 3, 4, 5, 6, 0]) (hC.mono hl3) s3 (swG.mono hl3) ?_ ?_ (by simp) ?_ ?_ ?_) fun K _ => rfl
  · intro g hg
    simp only [fgGates, List.mem_cons, List.not_mem_nil, or_false] at hg
    rcases hg with rfl | rfl | rfl | rfl | rfl | rfl | rfl <;> simp <;> omega
  · intro l hl x hx
    simp only [List.mem_cons, List.not_mem_nil, or_false] at hl
    rcases hl with rfl | rfl <;> simp only [List.mem_cons, List.not_mem_nil, or_false] at hx <;> omega
  · exact fg_valid hp (by omega)
  · exact fg_fits (by omega) (by omega)
  · exact fg_outs p k x0 x1
theorem fieldGates_in {H : Heap} {p x0 x1 k : Int} (_ : 0 ≤ p ∧ p ≤ 18446744073709551615) (h0 : 0 ≤ x0 ∧ x0 ≤ 18446744073709551615) (h1 : 0 ≤ x1 ∧ x1 ≤ 18446744073709551615) (hk : 0 ≤ k ∧ k ≤ 18446744073709551615) :
    RCalls Try.prog 3 [.int .u64 p, .agg #[.int .u64 x0, .int .u64 x1], .int .u64 k] H (Ret fun v _ => v = .bool true) := fieldGates_law H p x0 x1 k h0.1 h1.1 hk.1
end Go.Proofs.Ytpbaoefjkfdgmaa.SL
