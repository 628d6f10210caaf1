/- GadgetGateCounts. -/
import Derived.Test.YtpbaoefjkfdgmaaGadL7
set_option linter.unusedVariables false
set_option linter.unusedSimpArgs false
namespace Go.Proofs.Ytpbaoefjkfdgmaa.SL
open Go

theorem max_spec (H : Heap) (a c : Nat) : RCalls Try.prog 44 [.int .i64 a, .int .i64 c] H (Val (.int .i64 ((max a c : Nat) : Int)) H) := by
  apply call44
  unfold m44
  refine oV_eq (vInt_gtr _ _ _) (condK_dec (fun h => ?_) (fun h => ?_))
  · rw [Nat.max_eq_left (by omega)]
    exact ⟨rfl, rfl⟩
  · rw [Nat.max_eq_right (by omega)]
    exact ⟨rfl, rfl⟩
theorem cost_tail {G K : Heap} {b : Value} {p : Int} {gs : List Gate} {os : List Int} {a c : Nat} {pp pp2 : List PanicEntry → Heap → Prop} {Q : Ending → Heap → Prop} (h : Bd G K b p gs os) (hl : gs.length ≤ 1000000) (ho : os.length ≤ 1000000) (ha : a ≤ 1000) (hc : c ≤ 1000) (hac : a + c ≤ gs.length)
    (hk : ∀ K', Le G K' → Q (.returned (.tuple #[.int .i64 (mulCount gs), .int .i64 ((gs.length - a - c : Nat) : Int)])) K') :
    oRC Try.prog 23 [b] K pp fun v_10 H_11 =>
      oNew ty40.zero.cells.toList ty40.zero.cells.toList.length 40 H_11 fun i_12 H_13 => oHeap (vStore ty40 (ptrTo i_12) v_10 H_13) fun H_14 =>
      oV (vLoad ty40 (ptrTo i_12) H_14) fun t58 => oV (vField 1 (ptrTo i_12)) fun t60 => oV (vLoad ty37 t60 H_14) fun t61 => oV (vLen t61) fun t62 => oV (vInt .sub t62 (.int .i64 a)) fun t64 => oV (vInt .sub t64 (.int .i64 c)) fun t66 =>
      oRC Try.prog 33 [t58] H_14 pp2 fun v_21 H_22 => (vLoad ty37 t60 H_22 = some t61 ∧ Q (.returned (.tuple #[v_21, t66])) H_22) := by
  refine oRC_ret (circuit_spec h (by omega) (by omega)) fun v K1 hv => ?_
  obtain ⟨G', hG, hB, hC⟩ := hv
  refine local_circ (hC.mono hB.le) fun i gv ov hi e sg so => ?_
  subst e
  have hl2 := Le.ins (.cells [.int .u64 p, gv, ov] 3 40 true) hi
  have hcc : CircAt (hins K1 i (.cells [.int .u64 p, gv, ov] 3 40 true)) i p gv ov gs os := ⟨hins_self _ _ _, sg.mono hl2, so.mono hl2⟩
  generalize hins K1 i (.cells [.int .u64 p, gv, ov] 3 40 true) = K2 at hl2 hcc ⊢
  refine oV_eq hcc.lc (oV_eq (vField_to _ _) (oV_eq hcc.lg (oV_eq hcc.gates.len (oV_eq (vInt_sub _ _ _) (oV_eq (vInt_sub _ _ _) ?_)))))
  rw [wrap_i64 (x := (gs.length : Int) - a) (by omega) (by omega), wrap_i64 (by omega) (by omega)]
  refine oRC_grow (muls_spec hcc.circ) fun K3 l3 => ⟨(hcc.mono l3).lg, ?_⟩
  have e : ((gs.length : Int) - a - c) = ((gs.length - a - c : Nat) : Int) := by omega
  rw [e]
  exact hk K3 (((hG.trans hB.le).trans hl2).trans l3)
/-- The bounds. -/
def mMax (a c : Nat) : Int → Nat := fun k => if k = 0 then max a c * 2 else if k = 1 then max a c * 2 + a else if k = 2 then 3 * a * c + 3 * (a + c) else if k = 3 then max a c * 2 else if k = 4 then max a c * 2 else 0
def nMax (a c : Nat) : Int → Nat := fun k => if k = 0 then max a c * 9 + 2 else if k = 1 then max a c * 11 + 4 + a else if k = 2 then 10 * a * c + 2 * (a + c) + 2 else if k = 3 then max a c * 7 + 2 else if k = 4 then max a c * 7 + 2 else 1 + 2 * a
theorem costs_spec (H : Heap) {p : Int} (hp : Supp p) {a c : Nat} (ha : a ≤ 16) (hc : c ≤ 16) {k : Int} (hk : k = 0 ∨ k = 1 ∨ k = 2 ∨ k = 3 ∨ k = 4 ∨ k = 5) :
    RCalls Try.prog 67 [.int .u64 p, .int .i64 k, .int .i64 a, .int .i64 c] H (Ret fun v H' => Le H H' ∧ ∃ m n : Nat, v = .tuple #[.int .i64 m, .int .i64 n] ∧ m ≤ mMax a c k ∧ n ≤ nMax a c k) := by
  apply call67
  unfold m67
  refine oRC_ret (new_spec H p) fun b K1 h => ?_
  refine oRC_ret (ins_spec (f := 1) (n := a) h (by simp; omega)) fun mv K2 hv => ?_
  obtain ⟨G1, g1, h, hm⟩ := hv
  refine oRC_ret (ins_spec (f := 2) (n := c) h (by simp; omega)) fun nv K3 hv => ?_
  obtain ⟨G2, g2, h, hn⟩ := hv
  replace hm : Sl (eInt .i64) G2 mv (ids 0 a) := hm.mono g2
  rw [List.nil_append, List.length_replicate] at hn
  replace h : Bd G2 K3 b p (inGates a c) [] := h
  have hg0 : (inGates a c).length = a + c := by simp [inGates]
  have hm0 : mulCount (inGates a c) = 0 := by
    simp only [inGates, mulCount, List.countP_append, List.countP_replicate]
    simp [inGate]
  have hli : (ids 0 a).length = a := ids_len _ _
  have hlj : (ids a c).length = c := ids_len _ _
  have l2 := g1.trans g2
  have b9 : max a c * 9 ≤ 16 * 9 := Nat.mul_le_mul_right _ (by omega)
  have b11 : max a c * 11 ≤ 16 * 11 := Nat.mul_le_mul_right _ (by omega)
  have b7 : max a c * 7 ≤ 16 * 7 := Nat.mul_le_mul_right _ (by omega)
  have b10 : 10 * a * c ≤ 10 * 16 * 16 := Nat.mul_le_mul (by omega) hc
  rcases hk with rfl | rfl | rfl | rfl | rfl | rfl
  · refine oV_eq (vInt_eql _ _ _) (condK_true (oRC_ret (addBits_spec hp h hm hn (by omega) (by omega) (by omega)) fun lv K4 hv => ?_))
    obtain ⟨G3, h, hg⟩ := hv
    obtain ⟨_, n2⟩ := pAddBits_len (ids 0 a) (ids a c) (inGates a c)
    have n3 := pAddBits_mul (ids 0 a) (ids a c) (inGates a c)
    rw [hli, hlj] at n2 n3
    have n4 : (inGates a c).length ≤ (pAddBits (ids 0 a) (ids a c) (inGates a c)).2.length := pAddBits_ge _ _ _
    refine cost_tail h (by omega) (by simp) (by omega) (by omega) (by omega) fun K' l => ⟨(l2.trans hg.1).trans l, _, _, rfl, ?_, ?_⟩
    · show _ ≤ max a c * 2
      omega
    · show _ ≤ max a c * 9 + 2
      omega
  · refine oV_eq (vInt_eql _ _ _) (condK_false (oV_eq (vInt_eql _ _ _) (condK_true (oRC_ret (subBits_spec hp h hm hn (by omega) (by omega) (by omega)) fun lv K4 hv => ?_))))
    obtain ⟨G3, h, hg⟩ := hv
    obtain ⟨_, n2⟩ := pSubBits_len (ids 0 a) (ids a c) (inGates a c)
    have n3 := pSubBits_mul (ids 0 a) (ids a c) (inGates a c)
    rw [hli, hlj] at n2 n3
    have n4 : (inGates a c).length ≤ (pSubBits (ids 0 a) (ids a c) (inGates a c)).2.length := pSubBits_ge _ _ _
    refine cost_tail h (by omega) (by simp) (by omega) (by omega) (by omega) fun K' l => ⟨(l2.trans hg.1).trans l, _, _, rfl, ?_, ?_⟩
    · show _ ≤ max a c * 2 + a
      omega
    · show _ ≤ max a c * 11 + 4 + a
      omega
  · refine oV_eq (vInt_eql _ _ _) (condK_false (oV_eq (vInt_eql _ _ _) (condK_false (oV_eq (vInt_eql _ _ _) (condK_true (oRC_ret (mulBits_spec hp h hm hn (by omega) (by omega) (by omega)) fun lv K4 hv => ?_))))))
    obtain ⟨G3, g3, h, hg⟩ := hv
    obtain ⟨_, n2, n3⟩ := pMulBits_cost (ids 0 a) (ids a c) (inGates a c)
    rw [hli, hlj] at n2 n3
    have n4 : (inGates a c).length ≤ (pMulBits (ids 0 a) (ids a c) (inGates a c)).2.length := pMulBits_ge _ _ _
    refine cost_tail h (by omega) (by simp) (by omega) (by omega) (by omega) fun K' l => ⟨(l2.trans g3).trans l, _, _, rfl, ?_, ?_⟩
    · show _ ≤ 3 * a * c + 3 * (a + c)
      omega
    · show _ ≤ 10 * a * c + 2 * (a + c) + 2
      omega
  · refine oV_eq (vInt_eql _ _ _) (condK_false (oV_eq (vInt_eql _ _ _) (condK_false (oV_eq (vInt_eql _ _ _) (condK_false (oV_eq (vInt_eql _ _ _) (condK_true (oRC_ret (less_spec hp h hm hn (by omega) (by omega) (by omega)) fun lv K4 hv => ?_))))))))
    obtain ⟨G3, rfl, g3, h⟩ := hv
    have n2 := pLess_len (ids 0 a) (ids a c) (inGates a c)
    have n3 := pLess_mul (ids 0 a) (ids a c) (inGates a c)
    rw [hli, hlj] at n2 n3
    have n4 : (inGates a c).length ≤ (pLess (ids 0 a) (ids a c) (inGates a c)).2.length := pLess_ge _ _ _
    refine cost_tail h (by omega) (by simp) (by omega) (by omega) (by omega) fun K' l => ⟨(l2.trans g3).trans l, _, _, rfl, ?_, ?_⟩
    · show _ ≤ max a c * 2
      omega
    · show _ ≤ max a c * 7 + 2
      omega
  · refine oV_eq (vInt_eql _ _ _) (condK_false (oV_eq (vInt_eql _ _ _) (condK_false (oV_eq (vInt_eql _ _ _) (condK_false (oV_eq (vInt_eql _ _ _) (condK_false (oV_eq (vInt_eql _ _ _) (condK_true (oRC_ret (equal_bits_spec hp h hm hn (by omega) (by omega) (by omega)) fun lv K4 hv => ?_))))))))))
    obtain ⟨G3, rfl, g3, h⟩ := hv
    have n2 := pEqual_len (ids 0 a) (ids a c) (inGates a c)
    have n3 := pEqual_mul (ids 0 a) (ids a c) (inGates a c)
    rw [hli, hlj] at n2 n3
    have n4 : (inGates a c).length ≤ (pEqual (ids 0 a) (ids a c) (inGates a c)).2.length := pEqual_ge _ _ _
    refine cost_tail h (by omega) (by simp) (by omega) (by omega) (by omega) fun K' l => ⟨(l2.trans g3).trans l, _, _, rfl, ?_, ?_⟩
    · show _ ≤ max a c * 2
      omega
    · show _ ≤ max a c * 7 + 2
      omega
  · refine oV_eq (vInt_eql _ _ _) (condK_false (oV_eq (vInt_eql _ _ _) (condK_false (oV_eq (vInt_eql _ _ _) (condK_false (oV_eq (vInt_eql _ _ _) (condK_false (oV_eq (vInt_eql _ _ _) (condK_false (oRC_ret (compose_spec hp hm h (by omega)) fun lv K4 hv => ?_))))))))))
    obtain ⟨rfl, h⟩ := hv
    obtain ⟨n2, n3⟩ := pCompose_cost (ids 0 a) (inGates a c) p
    rw [hli] at n2
    refine cost_tail h (by omega) (by simp) (by omega) (by omega) (by omega) fun K' l => ⟨l2.trans l, _, _, rfl, ?_, ?_⟩
    · show _ ≤ 0
      omega
    · show _ ≤ 1 + 2 * a
      omega
theorem cheap_spec (H : Heap) {p : Int} (hp : Supp p) {a c : Nat} (ha : a ≤ 16) (hc : c ≤ 16) {k M N : Int} (hk : k = 0 ∨ k = 1 ∨ k = 2 ∨ k = 3 ∨ k = 4 ∨ k = 5) (hM : (mMax a c k : Int) ≤ M) (hN : (nMax a c k : Int) ≤ N) :
    RCalls Try.prog 46 [.int .u64 p, .int .i64 k, .agg #[.int .i64 a, .int .i64 c], .int .i64 M, .int .i64 N] H (Grow (.bool true) H) := by
  apply call46
  unfold m46
  show oNew [.int .i64 a, .int .i64 c] 2 66 H _
  intro i hi
  have hl := Le.ins (.cells [.int .i64 (a : Int), .int .i64 (c : Int)] 2 66 true) hi
  have f0 : vLoad ty3 (.pointer (some ⟨i, 0, none⟩)) (hins H i (.cells [.int .i64 (a : Int), .int .i64 (c : Int)] 2 66 true)) = some (.int .i64 a) := by
    simp only [vLoad, hins_self]
    rfl
  have f1 : vLoad ty3 (.pointer (some ⟨i, 1, none⟩)) (hins H i (.cells [.int .i64 (a : Int), .int .i64 (c : Int)] 2 66 true)) = some (.int .i64 c) := by
    simp only [vLoad, hins_self]
    rfl
  generalize hins H i (.cells [.int .i64 (a : Int), .int .i64 (c : Int)] 2 66 true) = H1 at hl f0 f1 ⊢
  refine oV_eq (v := .pointer (some ⟨i, 0, none⟩)) rfl (oV_eq f0 (oV_eq (v := .pointer (some ⟨i, 1, none⟩)) rfl (oV_eq f1 ?_)))
  refine oRC_ret (costs_spec H1 hp ha hc hk) fun v H2 hv => ?_
  obtain ⟨l2, m, n, rfl, hm, hn⟩ := hv
  refine oV_eq (v := .int .i64 m) rfl (oV_eq (v := .int .i64 n) rfl (oV_eq (vInt_leq _ _ _) ?_))
  rw [decide_eq_true (show (m : Int) ≤ M by omega)]
  refine oV_eq (v := .int .i64 n) rfl (oV_eq (v := .int .i64 N) rfl (oV_eq (v := .bool (decide ((n : Int) ≤ N))) (vInt_leq .i64 (n : Int) N) ?_))
  rw [decide_eq_true (show (n : Int) ≤ N by omega)]
  exact oV_eq (v := .bool true) rfl ⟨rfl, hl.trans l2⟩
/-! ### One of each -/
theorem len_step {G0 G K : Heap} {b v : Value} {p : Int} {gs : List Gate} {os cs : List Int} {n : Nat} {pp : List PanicEntry → Heap → Prop} {k : Value → Heap → Prop} (h : Bd G K b p gs os) (hg : Grown G0 G 1 3 v n (icells cs)) (hl : gs.length ≤ 1000) (ho : os.length ≤ 1000) (hn : n ≤ 100)
    (hk : ∀ v' G' K', Bd G' K' b p gs os → Grown G0 G' 1 3 v' (n + 1) (icells (cs ++ [(gs.length : Int)])) → k v' K') :
    oRC Try.prog 23 [b] K pp fun v_15 H_16 => oV (vPart false 1 1 v_15) fun t24 => oV (vLen t24) fun t25 => oBuildS ty3 3 1 [((0, 1), t25)] H_16 fun s H_20 => oAppend ty3 3 v s H_20 k := by
  refine oRC_ret (circuit_spec h (by omega) (by omega)) fun c K1 hv => ?_
  obtain ⟨G', hG, hB, gv, ov, rfl, sg, so⟩ := hv
  refine oV_eq (v := gv) ?_ (oV_eq sg.len ?_)
  · obtain ⟨_, _, _, rfl, _⟩ := sg
    rfl
  refine bd_append (te := ty3) hB (hg.le hG) rfl rfl (fun c hc => by rw [List.mem_singleton.1 hc]; rfl) (by show 0 < 1; omega) (by show (n + 1) * 8 ≤ _; omega) (by omega) fun v' G2 H2 hB2 hg2 => ?_
  exact hk v' G2 H2 hB2 (by rw [icells, List.map_append]; exact hg2)
theorem single_spec (H : Heap) {p : Int} (hp : Supp p) : RCalls Try.prog 45 [.int .u64 p] H (Grow (.bool true) H) := by
  apply call45
  unfold m45
  refine oRC_ret (new_spec H p) fun b K1 h => ?_
  refine oRC_ret (input_puts b p 1 true _ _ _ _ h (Nat.le_of_ble_eq_true rfl)) fun v K2 hv => ?_
  obtain ⟨rfl, h⟩ := hv
  refine oRC_ret (input_puts b p 1 true _ _ _ _ h (Nat.le_of_ble_eq_true rfl)) fun v K3 hv => ?_
  obtain ⟨rfl, h⟩ := hv
  have n1 : (pIn 1 true (pIn 1 true []).2).2.length = 2 := rfl
  generalize (pIn 1 true (pIn 1 true []).2).2 = g1 at h n1
  refine oRC_ret (circuit_spec h (by omega) (Nat.le_of_ble_eq_true rfl)) fun c K4 hv => ?_
  obtain ⟨G1, l1, h, gv, ov, rfl, sg, so⟩ := hv
  refine oV_eq (v := gv) ?_ (oV_eq sg.len ?_)
  · obtain ⟨_, _, _, rfl, _⟩ := sg
    rfl
  rw [n1]
  refine oBuildS_one (te := ty3) rfl rfl fun s hs => ?_
  have hg : Grown H (hins G1 s (.cells (icells [(2 : Nat)]) 1 3 true)) 1 3 (.slice (some ⟨s, 0, none⟩) 1 1) 1 (icells [((2 : Nat) : Int)]) :=
    ⟨l1.trans (Le.ins _ (none_le h.le hs)), .inr ⟨s, 1, rfl, by omega, by omega, hins_self _ _ _, rfl⟩, fun j hj => by
      cases hj
      exact none_le l1 (none_le h.le hs)⟩
  replace h : Bd (hins G1 s (.cells (icells [(2 : Nat)]) 1 3 true)) _ b p g1 [] := h.fresh hs (.cells (icells [(2 : Nat)]) 1 3 true)
  generalize hins G1 s (.cells (icells [(2 : Nat)]) 1 3 true) = G2 at h hg
  refine oRC_ret (not_puts b p _ _ _ _ _ h (by omega)) fun v J0 hv => ?_
  obtain ⟨rfl, h⟩ := hv
  have n2 : (pNot (pIn 1 true []).1 g1).2.length = 4 := by simp [n1, pOr]
  generalize (pNot (pIn 1 true []).1 g1).2 = g2 at h n2
  refine len_step h hg (by omega) (by simp) (by omega) fun u0 G10 I0 h' hg' => ?_
  rw [n2] at hg'
  clear h hg
  have h := h'
  have hg := hg'
  clear h' hg'
  refine oRC_ret (and_puts b p _ _ _ _ _ _ h (by omega)) fun v J1 hv => ?_
  obtain ⟨rfl, h⟩ := hv
  have n3 : (pMul (pIn 1 true []).1 (pIn 1 true (pIn 1 true []).2).1 g2).2.length = 5 := by simp [n2, pOr]
  generalize (pMul (pIn 1 true []).1 (pIn 1 true (pIn 1 true []).2).1 g2).2 = g3 at h n3
  refine len_step h hg (by omega) (by simp) (by omega) fun u1 G11 I1 h' hg' => ?_
  rw [n3] at hg'
  clear h hg
  have h := h'
  have hg := hg'
  clear h' hg'
  refine oRC_ret (or_puts b p _ _ _ _ _ _ h (by omega)) fun v J2 hv => ?_
  obtain ⟨rfl, h⟩ := hv
  have n4 : (pOr (pIn 1 true []).1 (pIn 1 true (pIn 1 true []).2).1 g3).2.length = 8 := by simp [n3, pOr]
  generalize (pOr (pIn 1 true []).1 (pIn 1 true (pIn 1 true []).2).1 g3).2 = g4 at h n4
  refine len_step h hg (by omega) (by simp) (by omega) fun u2 G12 I2 h' hg' => ?_
  rw [n4] at hg'
  clear h hg
  have h := h'
  have hg := hg'
  clear h' hg'
  refine oRC_ret (xor_puts b p hp _ _ _ _ _ _ h (by omega)) fun v J3 hv => ?_
  obtain ⟨rfl, h⟩ := hv
  have n5 : (pXor (pIn 1 true []).1 (pIn 1 true (pIn 1 true []).2).1 g4).2.length = 12 := by simp [n4, pOr]
  generalize (pXor (pIn 1 true []).1 (pIn 1 true (pIn 1 true []).2).1 g4).2 = g5 at h n5
  refine len_step h hg (by omega) (by simp) (by omega) fun u3 G13 I3 h' hg' => ?_
  rw [n5] at hg'
  clear h hg
  have h := h'
  have hg := hg'
  clear h' hg'
  refine oRC_ret (select_puts b p _ _ _ _ _ _ _ h (by omega)) fun v J4 hv => ?_
  obtain ⟨rfl, h⟩ := hv
  have n6 : (pSelect (pIn 1 true []).1 (pIn 1 true (pIn 1 true []).2).1 (pIn 1 true []).1 g5).2.length = 15 := by simp [n5, pOr]
  generalize (pSelect (pIn 1 true []).1 (pIn 1 true (pIn 1 true []).2).1 (pIn 1 true []).1 g5).2 = g6 at h n6
  refine len_step h hg (by omega) (by simp) (by omega) fun u4 G14 I4 h' hg' => ?_
  rw [n6] at hg'
  clear h hg
  have h := h'
  have hg := hg'
  clear h' hg'
  refine oRC_ret (add_puts b p _ _ _ _ _ _ h (by omega)) fun v J5 hv => ?_
  obtain ⟨rfl, h⟩ := hv
  refine oRC_ret (const_puts b p _ _ _ _ _ h (by simp; omega)) fun v J6 hv => ?_
  obtain ⟨rfl, h⟩ := hv
  refine oRC_ret (sub_puts b p _ _ _ _ _ _ h (by simp; omega)) fun v J7 hv => ?_
  obtain ⟨rfl, h⟩ := hv
  refine oRC_ret (mul_puts b p _ _ _ _ _ _ h (by simp; omega)) fun v J8 hv => ?_
  obtain ⟨rfl, h⟩ := hv
  refine oRC_ret (scale_puts b p _ _ _ _ _ _ h (by simp; omega)) fun v J9 hv => ?_
  obtain ⟨rfl, h⟩ := hv
  refine len_step h hg (by simp; omega) (by simp) (by omega) fun w G20 I9 h' hg' => ?_
  have n7 : ∀ z1 z2 z3 z4 z5 z6 z7 z8, (pScale z1 z2 (pMul z3 z4 (pSub z5 z6 (pConst z7 (pAdd (pIn 1 true []).1 z8 g6).2).2).2).2).2.length = 20 := by
    intro z1 z2 z3 z4 z5 z6 z7 z8
    simp [n6]
  rw [n7] at hg'
  have hS : Sl (eInt .i64) I9 w [2, 4, 5, 8, 12, 15, 20] := (Own.sl_int (t := 3) (xs := [2, 4, 5, 8, 12, 15, 20]) hg'.2.1).mono h'.le
  obtain ⟨q0, e0, f0⟩ := hS.int .i64 (i := 0) (by omega) (by simp) (ti := ty3) rfl
  replace f0 : vLoad ty3 q0 I9 = some (.int .i64 2) := f0
  obtain ⟨q1, e1, f1⟩ := hS.int .i64 (i := 1) (by omega) (by simp) (ti := ty3) rfl
  replace f1 : vLoad ty3 q1 I9 = some (.int .i64 4) := f1
  obtain ⟨q2, e2, f2⟩ := hS.int .i64 (i := 2) (by omega) (by simp) (ti := ty3) rfl
  replace f2 : vLoad ty3 q2 I9 = some (.int .i64 5) := f2
  obtain ⟨q3, e3, f3⟩ := hS.int .i64 (i := 3) (by omega) (by simp) (ti := ty3) rfl
  replace f3 : vLoad ty3 q3 I9 = some (.int .i64 8) := f3
  obtain ⟨q4, e4, f4⟩ := hS.int .i64 (i := 4) (by omega) (by simp) (ti := ty3) rfl
  replace f4 : vLoad ty3 q4 I9 = some (.int .i64 12) := f4
  obtain ⟨q5, e5, f5⟩ := hS.int .i64 (i := 5) (by omega) (by simp) (ti := ty3) rfl
  replace f5 : vLoad ty3 q5 I9 = some (.int .i64 15) := f5
  obtain ⟨q6, e6, f6⟩ := hS.int .i64 (i := 6) (by omega) (by simp) (ti := ty3) rfl
  replace f6 : vLoad ty3 q6 I9 = some (.int .i64 20) := f6
  refine oV_eq e0 (oV_eq f0 (oV_eq (v := .bool true) rfl ?_))
  refine oV_eq (v := w) rfl (oV_eq (v := q1) e1 (oV_eq (v := .int .i64 4) f1 (oV_eq (v := w) rfl (oV_eq (v := q0) e0 (oV_eq (v := .int .i64 2) f0 (oV_eq (v := .int .i64 2) rfl (oV_eq (v := .bool true) rfl (oV_eq (v := .bool true) rfl ?_))))))))
  refine oV_eq (v := w) rfl (oV_eq (v := q2) e2 (oV_eq (v := .int .i64 5) f2 (oV_eq (v := w) rfl (oV_eq (v := q1) e1 (oV_eq (v := .int .i64 4) f1 (oV_eq (v := .int .i64 1) rfl (oV_eq (v := .bool true) rfl (oV_eq (v := .bool true) rfl ?_))))))))
  refine oV_eq (v := w) rfl (oV_eq (v := q3) e3 (oV_eq (v := .int .i64 8) f3 (oV_eq (v := w) rfl (oV_eq (v := q2) e2 (oV_eq (v := .int .i64 5) f2 (oV_eq (v := .int .i64 3) rfl (oV_eq (v := .bool true) rfl (oV_eq (v := .bool true) rfl ?_))))))))
  refine oV_eq (v := w) rfl (oV_eq (v := q4) e4 (oV_eq (v := .int .i64 12) f4 (oV_eq (v := w) rfl (oV_eq (v := q3) e3 (oV_eq (v := .int .i64 8) f3 (oV_eq (v := .int .i64 4) rfl (oV_eq (v := .bool true) rfl (oV_eq (v := .bool true) rfl ?_))))))))
  refine oV_eq (v := w) rfl (oV_eq (v := q5) e5 (oV_eq (v := .int .i64 15) f5 (oV_eq (v := w) rfl (oV_eq (v := q4) e4 (oV_eq (v := .int .i64 12) f4 (oV_eq (v := .int .i64 3) rfl (oV_eq (v := .bool true) rfl (oV_eq (v := .bool true) rfl ?_))))))))
  refine oV_eq (v := w) rfl (oV_eq (v := q6) e6 (oV_eq (v := .int .i64 20) f6 (oV_eq (v := w) rfl (oV_eq (v := q5) e5 (oV_eq (v := .int .i64 15) f5 (oV_eq (v := .int .i64 5) rfl (oV_eq (v := .bool true) rfl (oV_eq (v := .bool true) rfl ?_))))))))
  exact ⟨rfl, hg'.1.trans h'.le⟩
/-! ### The law -/
theorem g_mul {a b : Int} {u : Option Value} (h : -1000000 ≤ a * b ∧ a * b ≤ 1000000) : gV (.bool true) true (vInt .mul (.int .i64 a) (.int .i64 b)) u = some (.int .i64 (a * b)) := by
  show vInt .mul (.int .i64 a) (.int .i64 b) = _
  rw [vInt_mul, wrap_i64 (by omega) (by omega)]
theorem g_add {a b : Int} {u : Option Value} (h : -1000000 ≤ a + b ∧ a + b ≤ 1000000) : gV (.bool true) true (vInt .add (.int .i64 a) (.int .i64 b)) u = some (.int .i64 (a + b)) := by
  show vInt .add (.int .i64 a) (.int .i64 b) = _
  rw [vInt_add, wrap_i64 (by omega) (by omega)]
theorem gateCounts_law (H : Heap) {p x y : Int} (hx0 : 0 ≤ x) (hy0 : 0 ≤ y) : RCalls Try.prog 9 [.int .u64 p, .int .u8 x, .int .u8 y] H (Ret fun v _ => v = .bool true) := by
  apply call9
  unfold m9
  refine oRC_grow (awake_spec H) fun H2 l2 => ?_
  refine oV_eq rfl (condK_false ?_)
  refine oRC_grow (supported_spec H2 p) fun H3 l3 => ?_
  by_cases hp : Supp p
  case neg =>
    rw [decide_eq_false hp]
    exact condK_true rfl
  rw [decide_eq_true hp]
  refine oV_eq (v := .bool false) rfl (oV_eq (v := .int .u8 x) rfl (oV_eq (vInt_gtr .u8 x 16) (oV_eq rfl ?_)))
  by_cases c0 : 16 < x
  case pos =>
    rw [decide_eq_true c0]
    exact condK_true rfl
  rw [decide_eq_false c0]
  refine oV_eq (v := .int .u8 y) rfl (oV_eq (vInt_gtr .u8 y 16) (oV_eq rfl ?_))
  by_cases c1 : 16 < y
  case pos =>
    rw [decide_eq_true c1]
    exact condK_true rfl
  rw [decide_eq_false c1]
  refine condK_false ?_
  obtain ⟨a, rfl⟩ : ∃ a : Nat, x = a := ⟨x.toNat, by omega⟩
  obtain ⟨c, rfl⟩ : ∃ c : Nat, y = c := ⟨y.toNat, by omega⟩
  have ha : a ≤ 16 := by omega
  have hc : c ≤ 16 := by omega
  refine oV_eq (vConv_int _ _ _) (oV_eq (vConv_int _ _ _) ?_)
  rw [wrap_i64 (x := (a : Int)) (by omega) (by omega), wrap_i64 (x := (c : Int)) (by omega) (by omega)]
  refine oRC_val (max_spec H3 a c) ?_
  refine oV_eq (v := .agg #[.int .i64 a, .int .i64 c]) rfl ?_
  show oNew [.int .i64 0, .int .i64 0] 2 66 H3 _
  intro i hi
  have e1 : vStore ty66 (ptrTo i) (.agg #[.int .i64 (a : Int), .int .i64 (c : Int)]) (hins H3 i (.cells [.int .i64 0, .int .i64 0] 2 66 true)) = some (hins (hins H3 i (.cells [.int .i64 0, .int .i64 0] 2 66 true)) i (.cells [.int .i64 (a : Int), .int .i64 (c : Int)] 2 66 true)) := by
    simp only [vStore, ptrTo, hins_self]
    rfl
  rw [hins_hins] at e1
  refine oHeap_eq e1 ?_
  have ld : ∀ K, Le (hins H3 i (.cells [.int .i64 (a : Int), .int .i64 (c : Int)] 2 66 true)) K → vLoad ty66 (ptrTo i) K = some (.agg #[.int .i64 (a : Int), .int .i64 (c : Int)]) := fun K hK => by
    have := hK _ _ (hins_self _ _ _)
    simp only [vLoad, ptrTo, this]
    rfl
  generalize hins H3 i (.cells [.int .i64 (a : Int), .int .i64 (c : Int)] 2 66 true) = K0 at ld
  have hL : max a c ≤ 16 := by omega
  have h3 : 3 * a * c ≤ 3 * 16 * 16 := Nat.mul_le_mul (by omega) hc
  have h10 : 10 * a * c ≤ 10 * 16 * 16 := Nat.mul_le_mul (by omega) hc
  have i3 : (3 * (a : Int)) * (c : Int) = ((3 * a * c : Nat) : Int) := by push_cast; rfl
  have i10 : (10 * (a : Int)) * (c : Int) = ((10 * a * c : Nat) : Int) := by push_cast; rfl
  generalize hLL : max a c = L at hL
  have q0 : (mMax a c 0 : Int) = ((L * 2 : Nat) : Int) := by subst hLL; rfl
  have q1 : (mMax a c 1 : Int) = ((L * 2 + a : Nat) : Int) := by subst hLL; rfl
  have q2 : (mMax a c 2 : Int) = ((3 * a * c + 3 * (a + c) : Nat) : Int) := rfl
  have q3 : (mMax a c 3 : Int) = ((L * 2 : Nat) : Int) := by subst hLL; rfl
  have q4 : (mMax a c 4 : Int) = ((L * 2 : Nat) : Int) := by subst hLL; rfl
  have q5 : (mMax a c 5 : Int) = 0 := rfl
  have r0 : (nMax a c 0 : Int) = ((L * 9 + 2 : Nat) : Int) := by subst hLL; rfl
  have r1 : (nMax a c 1 : Int) = ((L * 11 + 4 + a : Nat) : Int) := by subst hLL; rfl
  have r2 : (nMax a c 2 : Int) = ((10 * a * c + 2 * (a + c) + 2 : Nat) : Int) := rfl
  have r3 : (nMax a c 3 : Int) = ((L * 7 + 2 : Nat) : Int) := by subst hLL; rfl
  have r4 : (nMax a c 4 : Int) = ((L * 7 + 2 : Nat) : Int) := by subst hLL; rfl
  have r5 : (nMax a c 5 : Int) = ((1 + 2 * a : Nat) : Int) := rfl
  refine oRC_grow (single_spec K0 hp) fun K1 k1 => ?_
  have w1 := k1
  refine oV_eq (v := .int .u64 p) rfl (oV_eq (v := .agg #[.int .i64 (a : Int), .int .i64 (c : Int)]) (ld _ w1) ?_)
  refine oV_eq (v := .int .i64 ((L : Int))) rfl ?_
  refine oV_eq (v := .int .i64 (2 * (L : Int))) (g_mul (by omega)) ?_
  refine oV_eq (v := .int .i64 ((L : Int))) rfl ?_
  refine oV_eq (v := .int .i64 (10 * (L : Int))) (g_mul (by omega)) ?_
  refine oV_eq (v := .int .i64 (10 * (L : Int) + 2)) (g_add (by omega)) ?_
  refine gK_TT (oRC_grow (cheap_spec _ hp ha hc (by omega) (by omega) (by omega)) fun K2 k2 => ?_)
  refine oV_eq (v := .bool true) rfl ?_
  have w2 := w1.trans k2
  refine oV_eq (v := .int .u64 p) rfl (oV_eq (v := .agg #[.int .i64 (a : Int), .int .i64 (c : Int)]) (ld _ w2) ?_)
  refine oV_eq (v := .int .i64 ((L : Int))) rfl ?_
  refine oV_eq (v := .int .i64 (3 * (L : Int))) (g_mul (by omega)) ?_
  refine oV_eq (v := .int .i64 ((a : Int))) rfl ?_
  refine oV_eq (v := .int .i64 (3 * (L : Int) + (a : Int))) (g_add (by omega)) ?_
  refine oV_eq (v := .int .i64 ((L : Int))) rfl ?_
  refine oV_eq (v := .int .i64 (12 * (L : Int))) (g_mul (by omega)) ?_
  refine oV_eq (v := .int .i64 ((a : Int))) rfl ?_
  refine oV_eq (v := .int .i64 (12 * (L : Int) + (a : Int))) (g_add (by omega)) ?_
  refine oV_eq (v := .int .i64 (12 * (L : Int) + (a : Int) + 4)) (g_add (by omega)) ?_
  refine gK_TT (oRC_grow (cheap_spec _ hp ha hc (by omega) (by omega) (by omega)) fun K3 k3 => ?_)
  refine oV_eq (v := .bool true) rfl ?_
  have w3 := w2.trans k3
  refine oV_eq (v := .int .u64 p) rfl (oV_eq (v := .agg #[.int .i64 (a : Int), .int .i64 (c : Int)]) (ld _ w3) ?_)
  refine oV_eq (v := .int .i64 ((a : Int))) rfl ?_
  refine oV_eq (v := .int .i64 (3 * (a : Int))) (g_mul (by omega)) ?_
  refine oV_eq (v := .int .i64 ((c : Int))) rfl ?_
  refine oV_eq (v := .int .i64 (3 * (a : Int) * (c : Int))) (g_mul (by omega)) ?_
  refine oV_eq (v := .int .i64 ((a : Int))) rfl ?_
  refine oV_eq (v := .int .i64 ((c : Int))) rfl ?_
  refine oV_eq (v := .int .i64 ((a : Int) + (c : Int))) (g_add (by omega)) ?_
  refine oV_eq (v := .int .i64 (3 * ((a : Int) + (c : Int)))) (g_mul (by omega)) ?_
  refine oV_eq (v := .int .i64 (3 * (a : Int) * (c : Int) + 3 * ((a : Int) + (c : Int)))) (g_add (by omega)) ?_
  refine oV_eq (v := .int .i64 ((a : Int))) rfl ?_
  refine oV_eq (v := .int .i64 (10 * (a : Int))) (g_mul (by omega)) ?_
  refine oV_eq (v := .int .i64 ((c : Int))) rfl ?_
  refine oV_eq (v := .int .i64 (10 * (a : Int) * (c : Int))) (g_mul (by omega)) ?_
  refine oV_eq (v := .int .i64 ((a : Int))) rfl ?_
  refine oV_eq (v := .int .i64 ((c : Int))) rfl ?_
  refine oV_eq (v := .int .i64 ((a : Int) + (c : Int))) (g_add (by omega)) ?_
  refine oV_eq (v := .int .i64 (2 * ((a : Int) + (c : Int)))) (g_mul (by omega)) ?_
  refine oV_eq (v := .int .i64 (10 * (a : Int) * (c : Int) + 2 * ((a : Int) + (c : Int)))) (g_add (by omega)) ?_
  refine oV_eq (v := .int .i64 (10 * (a : Int) * (c : Int) + 2 * ((a : Int) + (c : Int)) + 2)) (g_add (by omega)) ?_
  refine gK_TT (oRC_grow (cheap_spec _ hp ha hc (by omega) (by omega) (by omega)) fun K4 k4 => ?_)
  refine oV_eq (v := .bool true) rfl ?_
  have w4 := w3.trans k4
  refine oV_eq (v := .int .u64 p) rfl (oV_eq (v := .agg #[.int .i64 (a : Int), .int .i64 (c : Int)]) (ld _ w4) ?_)
  refine oV_eq (v := .int .i64 ((L : Int))) rfl ?_
  refine oV_eq (v := .int .i64 (3 * (L : Int))) (g_mul (by omega)) ?_
  refine oV_eq (v := .int .i64 ((L : Int))) rfl ?_
  refine oV_eq (v := .int .i64 (12 * (L : Int))) (g_mul (by omega)) ?_
  refine oV_eq (v := .int .i64 (12 * (L : Int) + 4)) (g_add (by omega)) ?_
  refine gK_TT (oRC_grow (cheap_spec _ hp ha hc (by omega) (by omega) (by omega)) fun K5 k5 => ?_)
  refine oV_eq (v := .bool true) rfl ?_
  have w5 := w4.trans k5
  refine oV_eq (v := .int .u64 p) rfl (oV_eq (v := .agg #[.int .i64 (a : Int), .int .i64 (c : Int)]) (ld _ w5) ?_)
  refine oV_eq (v := .int .i64 ((L : Int))) rfl ?_
  refine oV_eq (v := .int .i64 (2 * (L : Int))) (g_mul (by omega)) ?_
  refine oV_eq (v := .int .i64 ((L : Int))) rfl ?_
  refine oV_eq (v := .int .i64 (8 * (L : Int))) (g_mul (by omega)) ?_
  refine oV_eq (v := .int .i64 (8 * (L : Int) + 2)) (g_add (by omega)) ?_
  refine gK_TT (oRC_grow (cheap_spec _ hp ha hc (by omega) (by omega) (by omega)) fun K6 k6 => ?_)
  refine oV_eq (v := .bool true) rfl ?_
  have w6 := w5.trans k6
  refine oV_eq (v := .int .u64 p) rfl (oV_eq (v := .agg #[.int .i64 (a : Int), .int .i64 (c : Int)]) (ld _ w6) ?_)
  refine oV_eq (v := .int .i64 ((a : Int))) rfl ?_
  refine oV_eq (v := .int .i64 (2 * (a : Int))) (g_mul (by omega)) ?_
  refine oV_eq (v := .int .i64 (2 * (a : Int) + 1)) (g_add (by omega)) ?_
  refine gK_TT (oRC_grow (cheap_spec _ hp ha hc (by omega) (by omega) (by omega)) fun K7 k7 => ?_)
  refine oV_eq (v := .bool true) rfl ?_
  rfl
theorem gateCounts_in {H : Heap} {p x y : Int} (_ : 0 ≤ p ∧ p ≤ 18446744073709551615) (hx : 0 ≤ x ∧ x ≤ 255) (hy : 0 ≤ y ∧ y ≤ 255) : RCalls Try.prog 9 [.int .u64 p, .int .u8 x, .int .u8 y] H (Ret fun v _ => v = .bool true) := gateCounts_law H hx.1 hy.1
end Go.Proofs.Ytpbaoefjkfdgmaa.SL
