/- GadgetBooleanGates. -/
import Derived.Test.YtpbaoefjkfdgmaaGadO
set_option linter.unusedVariables false
set_option linter.unusedSimpArgs false
namespace Go.Proofs.Ytpbaoefjkfdgmaa.SL
open Go

theorem wordOf_rng (b : Bool) : 0 ≤ wordOf b ∧ wordOf b ≤ 1 := by cases b <;> decide
theorem op_spec3 (H : Heap) (p : Int) (b : Bool) : RCalls Try.prog 20 [.int .u64 p, .int .i64 3, .int .u64 (wordOf b), .int .u64 0, .int .u64 0] H (Val (.int .u64 (1 - wordOf b)) H) := by
  apply call20
  unfold m20
  refine oV_eq (vInt_eql _ _ _) (condK_false (oV_eq (vInt_eql _ _ _) (condK_false (oV_eq (vInt_eql _ _ _) (condK_false (oV_eq (vInt_eql _ _ _) (condK_true (oV_eq (vInt_sub _ _ _) ?_))))))))
  cases b <;> exact ⟨rfl, rfl⟩
theorem op_spec4 (H : Heap) (p : Int) (b c : Bool) : RCalls Try.prog 20 [.int .u64 p, .int .i64 4, .int .u64 (wordOf b), .int .u64 (wordOf c), .int .u64 0] H (Val (.int .u64 (wordOf (b && c))) H) := by
  apply call20
  unfold m20
  refine oV_eq (vInt_eql _ _ _) (condK_false (oV_eq (vInt_eql _ _ _) (condK_false (oV_eq (vInt_eql _ _ _) (condK_false (oV_eq (vInt_eql _ _ _) (condK_false (oV_eq (vInt_eql _ _ _) (condK_true (oV_eq (vInt_mul _ _ _) ?_))))))))))
  cases b <;> cases c <;> exact ⟨rfl, rfl⟩
theorem op_spec5 (H : Heap) (p : Int) (b c : Bool) : RCalls Try.prog 20 [.int .u64 p, .int .i64 5, .int .u64 (wordOf b), .int .u64 (wordOf c), .int .u64 0] H (Val (.int .u64 (wordOf (b || c))) H) := by
  apply call20
  unfold m20
  refine oV_eq (vInt_eql _ _ _) (condK_false (oV_eq (vInt_eql _ _ _) (condK_false (oV_eq (vInt_eql _ _ _) (condK_false (oV_eq (vInt_eql _ _ _) (condK_false (oV_eq (vInt_eql _ _ _) (condK_false (oV_eq (vInt_eql _ _ _) (condK_true (oV_eq (vInt_add _ _ _) (oV_eq (vInt_mul _ _ _) (oV_eq (vInt_sub _ _ _) ?_))))))))))))))
  cases b <;> cases c <;> exact ⟨rfl, rfl⟩
theorem op_spec6 (H : Heap) (p : Int) (b c : Bool) : RCalls Try.prog 20 [.int .u64 p, .int .i64 6, .int .u64 (wordOf b), .int .u64 (wordOf c), .int .u64 0] H (Val (.int .u64 (wordOf (b != c))) H) := by
  apply call20
  unfold m20
  refine oV_eq (vInt_eql _ _ _) (condK_false (oV_eq (vInt_eql _ _ _) (condK_false (oV_eq (vInt_eql _ _ _) (condK_false (oV_eq (vInt_eql _ _ _) (condK_false (oV_eq (vInt_eql _ _ _) (condK_false (oV_eq (vInt_eql _ _ _) (condK_false (oV_eq (vInt_eql _ _ _) (condK_true (oV_eq (vInt_add _ _ _) (oV_eq (vInt_mul _ _ _) (oV_eq (vInt_mul _ _ _) (oV_eq (vInt_sub _ _ _) ?_)))))))))))))))))
  cases b <;> cases c <;> exact ⟨rfl, rfl⟩
theorem op_spec7 (H : Heap) (p x y : Int) (c : Bool) : RCalls Try.prog 20 [.int .u64 p, .int .i64 7, .int .u64 x, .int .u64 y, .int .u64 (wordOf c)] H (Val (.int .u64 (if c then x else y)) H) := by
  apply call20
  unfold m20
  refine oV_eq (vInt_eql _ _ _) (condK_false (oV_eq (vInt_eql _ _ _) (condK_false (oV_eq (vInt_eql _ _ _) (condK_false (oV_eq (vInt_eql _ _ _) (condK_false (oV_eq (vInt_eql _ _ _) (condK_false (oV_eq (vInt_eql _ _ _) (condK_false (oV_eq (vInt_eql _ _ _) (condK_false (oV_eq (vInt_eql _ _ _) ?_))))))))))))))
  cases c
  · exact condK_false ⟨rfl, rfl⟩
  · exact condK_true ⟨rfl, rfl⟩
def bgGates : List Gate := [⟨1, 1, 0, 0, 1⟩, ⟨1, 1, 0, 0, 1⟩, ⟨1, 1, 0, 0, 1⟩, ⟨1, 2, 0, 0, 0⟩, ⟨1, 2, 0, 0, 0⟩, ⟨2, 0, 0, 0, 1⟩, ⟨4, 0, 5, 0, 0⟩, ⟨6, 0, 0, 1, 0⟩, ⟨3, 0, 0, 1, 0⟩, ⟨6, 0, 0, 1, 0⟩, ⟨4, 0, 8, 9, 0⟩, ⟨6, 0, 0, 1, 0⟩, ⟨3, 0, 0, 1, 0⟩, ⟨5, 0, 11, 0, 2⟩, ⟨4, 0, 12, 13, 0⟩, ⟨4, 0, 3, 4, 0⟩, ⟨6, 0, 2, 15, 0⟩, ⟨3, 0, 4, 16, 0⟩]
def bgOuts : List Int := [6, 7, 10, 14, 17]
theorem bg_valid {p : Int} (hp : Supp p) : validC p bgGates bgOuts := by
  refine ⟨hp, by decide, by decide, ?_, by decide⟩
  have := hp.pos
  have hall : ∀ (i : Nat) (h : i < bgGates.length), validGate 3 i bgGates[i] := by decide +kernel
  intro i h
  have h1 := hall i h
  unfold validGate at h1 ⊢
  omega
theorem bg_fits {p x0 x1 : Int} (a b c : Bool) (hp : Supp p) (h0 : x0 < p) (h1 : x1 < p) : fits p bgGates [[wordOf a, wordOf b, wordOf c], [x0, x1]] := by
  have := hp.pos
  have ha := wordOf_rng a
  have hb := wordOf_rng b
  have hc := wordOf_rng c
  refine ⟨?_, fun j hj => ?_⟩
  · have hall : ∀ (i : Nat) (h : i < bgGates.length), bgGates[i].kind = 1 → bgGates[i].frm ≤ 2 := by decide +kernel
    exact hall
  · match j, hj with
    | 0, _ => exact ⟨(show (3 : Nat) = inCount 1 bgGates by decide +kernel), by simp; omega⟩
    | 1, _ => exact ⟨(show (2 : Nat) = inCount 2 bgGates by decide +kernel), by simp; omega⟩
theorem sel_true (p x0 x1 : Int) (h0 : 0 ≤ x0) (h : x0 < p) : (x1 + 1 * ((x0 - x1) % p) % p) % p = x0 := by
  rw [Int.one_mul, Int.emod_emod, Int.add_emod, Int.emod_emod, ← Int.add_emod, show x1 + (x0 - x1) = x0 by omega, Int.emod_eq_of_lt h0 h]
theorem bg_outs {p x0 x1 : Int} (a b c : Bool) (hp : Supp p) (h0 : 0 ≤ x0 ∧ x0 < p) (h1 : 0 ≤ x1 ∧ x1 < p) :
    outsOf p (eff bgGates [[wordOf a, wordOf b, wordOf c], [x0, x1]]) bgGates bgOuts = [1 - wordOf a, wordOf (a && b), wordOf (a || b), wordOf (a != b), if c then x0 else x1] := by
  have hpp := hp.pos
  have he : eff bgGates [[wordOf a, wordOf b, wordOf c], [x0, x1]] = [[wordOf a, wordOf b, wordOf c], [x0, x1]] := by
    cases a <;> cases b <;> cases c <;> simp [eff, bgGates, badUpto, inOf, List.range_succ, wordOf, inCount_cons, inCount_nil]
  rw [he]
  have m1 : (1 : Int) % p = 1 := Int.emod_eq_of_lt (by omega) (by omega)
  have m2 : (2 : Int) % p = 2 := Int.emod_eq_of_lt (by omega) (by omega)
  have mx : x1 % p = x1 := Int.emod_eq_of_lt h1.1 h1.2
  have ms : (x1 + (x0 - x1)) % p = x0 := by rw [show x1 + (x0 - x1) = x0 by omega, Int.emod_eq_of_lt h0.1 h0.2]
  cases a <;> cases b <;> cases c <;> simp [outsOf, vals, valsTo, gval, bgGates, bgOuts, inCount_cons, inCount_nil, wordOf, m1, m2, mx, ms]
theorem booleanGates_law (H : Heap) (p x0 x1 : Int) (ba bb bc : Bool) (h0 : 0 ≤ x0) (h1 : 0 ≤ x1) :
    RCalls Try.prog 6 [.int .u64 p, .agg #[.bool ba, .bool bb, .bool bc], .agg #[.int .u64 x0, .int .u64 x1]] H (Ret fun v _ => v = .bool true) := by
  apply call6
  unfold m6
  show oNew [.bool ba, .bool bb, .bool bc] 3 51 H _
  intro iy hiy
  show oNew [.int .u64 x0, .int .u64 x1] 2 23 _ _
  intro ix hix
  have hy := hins_get hix (hins_self H iy (.cells [.bool ba, .bool bb, .bool bc] 3 51 true)) (b := .cells [.int .u64 x0, .int .u64 x1] 2 23 true)
  have hx : (hins (hins H iy (.cells [.bool ba, .bool bb, .bool bc] 3 51 true)) ix (.cells [.int .u64 x0, .int .u64 x1] 2 23 true)) ix = some (.cells [.int .u64 x0, .int .u64 x1] 2 23 true) := hins_self _ _ _
  generalize hins (hins H iy (.cells [.bool ba, .bool bb, .bool bc] 3 51 true)) ix (.cells [.int .u64 x0, .int .u64 x1] 2 23 true) = H1 at hx hy ⊢
  have a0 : vIdxA 2 1 (ptrTo ix) (.int .i64 0) = some (.pointer (some ⟨ix, 0, none⟩)) := rfl
  have a1 : vIdxA 2 1 (ptrTo ix) (.int .i64 1) = some (.pointer (some ⟨ix, 1, none⟩)) := rfl
  have b0 : vIdxA 3 1 (ptrTo iy) (.int .i64 0) = some (.pointer (some ⟨iy, 0, none⟩)) := rfl
  have b1 : vIdxA 3 1 (ptrTo iy) (.int .i64 1) = some (.pointer (some ⟨iy, 1, none⟩)) := rfl
  have b2 : vIdxA 3 1 (ptrTo iy) (.int .i64 2) = some (.pointer (some ⟨iy, 2, none⟩)) := rfl
  have ld : ∀ K, Le H1 K → vLoad ty22 (.pointer (some ⟨ix, 0, none⟩)) K = some (.int .u64 x0) ∧ vLoad ty22 (.pointer (some ⟨ix, 1, none⟩)) K = some (.int .u64 x1) := by
    intro K hK
    have := hK _ _ hx
    simp only [vLoad, this]
    exact ⟨rfl, rfl⟩
  have lb : ∀ K, Le H1 K → vLoad ty4 (.pointer (some ⟨iy, 0, none⟩)) K = some (.bool ba) ∧ vLoad ty4 (.pointer (some ⟨iy, 1, none⟩)) K = some (.bool bb) ∧ vLoad ty4 (.pointer (some ⟨iy, 2, none⟩)) K = some (.bool bc) := by
    intro K hK
    have := hK _ _ hy
    simp only [vLoad, this]
    exact ⟨rfl, rfl, rfl⟩
  refine oRC_grow (awake_spec H1) fun H2 l2 => ?_
  refine oV_eq rfl (condK_false ?_)
  refine oRC_grow (supported_spec H2 p) fun H3 l3 => ?_
  have l13 := l2.trans l3
  by_cases hp : Supp p
  case neg =>
    rw [decide_eq_false hp]
    exact condK_true rfl
  rw [decide_eq_true hp]
  refine oV_eq (v := .bool false) rfl (oV_eq a0 (oV_eq (ld _ l13).1 (oV_eq (v := .int .u64 p) rfl (oV_eq (vInt_geq .u64 x0 p) (oV_eq rfl ?_)))))
  by_cases c0 : p ≤ x0
  case pos =>
    rw [decide_eq_true c0]
    exact condK_true rfl
  rw [decide_eq_false c0]
  refine oV_eq a1 (oV_eq (ld _ l13).2 (oV_eq (v := .int .u64 p) rfl (oV_eq (vInt_geq .u64 x1 p) (oV_eq rfl ?_))))
  by_cases c1 : p ≤ x1
  case pos =>
    rw [decide_eq_true c1]
    exact condK_true rfl
  rw [decide_eq_false c1]
  refine condK_false ?_
  have hpp := hp.pos
  refine oRC_ret (new_spec H3 p) fun b K1 h => ?_
  refine oRC_ret (ins_spec (f := 1) (n := 3) h (Nat.le_of_ble_eq_true rfl)) fun cv K2 hv => ?_
  obtain ⟨G1, hG1, h, hcv⟩ := hv
  replace hcv : Sl (eInt .i64) G1 cv [0, 1, 2] := hcv
  refine oRC_ret (input_puts b p 2 false _ _ _ _ h (Nat.le_of_ble_eq_true rfl)) fun v K3 hv => ?_
  obtain ⟨rfl, h⟩ := hv
  refine oRC_ret (input_puts b p 2 false _ _ _ _ h (Nat.le_of_ble_eq_true rfl)) fun v K4 hv => ?_
  obtain ⟨rfl, h⟩ := hv
  have q := lb _ ((l13.trans hG1).trans h.le)
  refine oV_eq b0 (oV_eq q.1 (oV_eq b1 (oV_eq q.2.1 (oV_eq b2 (oV_eq q.2.2 ?_)))))
  show oNew (([ba, bb, bc] : List Bool).map .bool) 3 4 K4 _
  intro ib hib
  have hsb : Sl eBool (hins K4 ib (.cells (([ba, bb, bc] : List Bool).map .bool) 3 4 true)) (.slice (some ⟨ib, 0, none⟩) 3 3) [ba, bb, bc] :=
    ⟨some ⟨ib, 0, none⟩, 3, ([ba, bb, bc] : List Bool).map .bool, rfl, by simp, by simp, rdSlice_ins rfl, fun j x hx => one_get _ j (.bool x) (by rw [List.getElem?_map, hx]; rfl)⟩
  have hle1 : Le G1 (hins G1 ib (.cells (([ba, bb, bc] : List Bool).map .bool) 3 4 true)) := Le.ins _ (none_le h.le hib)
  replace h := h.fresh hib (.cells (([ba, bb, bc] : List Bool).map .bool) 3 4 true)
  replace hcv := hcv.mono hle1
  generalize hins G1 ib (.cells (([ba, bb, bc] : List Bool).map .bool) 3 4 true) = G2 at h hle1 hcv
  refine oRC_ret (words_spec hsb (by simp)) fun wv K6 hv => ?_
  obtain ⟨N, hN, hwv⟩ := hv
  have hNG : ∀ k, N k ≠ none → G2 k = none := fun k hk => none_le h.le (hN.2.2 k hk)
  replace h := h.news hN
  replace hwv : Sl (eInt .u64) (hun G2 N) wv [wordOf ba, wordOf bb, wordOf bc] := hwv.mono (hun_right hNG)
  replace hcv := hcv.mono (hun_left G2 N)
  have hl3 : Le H1 (hun G2 N) := ((l13.trans hG1).trans hle1).trans (hun_left G2 N)
  generalize hun G2 N = G3 at h hwv hcv hl3
  obtain ⟨u0, e0, f0⟩ := hcv.int .i64 (i := 0) (by omega) (by simp) (ti := ty3) rfl
  obtain ⟨u1, e1, f1⟩ := hcv.int .i64 (i := 1) (by omega) (by simp) (ti := ty3) rfl
  obtain ⟨u2, e2, f2⟩ := hcv.int .i64 (i := 2) (by omega) (by simp) (ti := ty3) rfl
  have vm := fun {K : Heap} (hl : Le G3 K) => And.intro (vLoad_mono hl f0) (And.intro (vLoad_mono hl f1) (vLoad_mono hl f2))
  refine oV_eq e0 (oV_eq (vm h.le).1 (oRC_ret (not_puts b p 0 _ _ _ _ h (Nat.le_of_ble_eq_true rfl)) fun v K7 hv => ?_))
  obtain ⟨rfl, h⟩ := hv
  refine oRC_ret (output_spec h _ (Nat.le_of_ble_eq_true rfl)) fun v K8 h => ?_
  refine oV_eq e0 (oV_eq (vm h.le).1 (oV_eq e1 (oV_eq (vm h.le).2.1 (oRC_ret (and_puts b p 0 1 _ _ _ _ h (Nat.le_of_ble_eq_true rfl)) fun v K9 hv => ?_))))
  obtain ⟨rfl, h⟩ := hv
  refine oRC_ret (output_spec h _ (Nat.le_of_ble_eq_true rfl)) fun v K10 h => ?_
  refine oV_eq e0 (oV_eq (vm h.le).1 (oV_eq e1 (oV_eq (vm h.le).2.1 (oRC_ret (or_puts b p 0 1 _ _ _ _ h (Nat.le_of_ble_eq_true rfl)) fun v K11 hv => ?_))))
  obtain ⟨rfl, h⟩ := hv
  refine oRC_ret (output_spec h _ (Nat.le_of_ble_eq_true rfl)) fun v K12 h => ?_
  refine oV_eq e0 (oV_eq (vm h.le).1 (oV_eq e1 (oV_eq (vm h.le).2.1 (oRC_ret (xor_puts b p hp 0 1 _ _ _ _ h (Nat.le_of_ble_eq_true rfl)) fun v K13 hv => ?_))))
  obtain ⟨rfl, h⟩ := hv
  refine oRC_ret (output_spec h _ (Nat.le_of_ble_eq_true rfl)) fun v K14 h => ?_
  refine oV_eq e2 (oV_eq (vm h.le).2.2 (oRC_ret (select_puts b p 2 _ _ _ _ _ _ h (Nat.le_of_ble_eq_true rfl)) fun v K15 hv => ?_))
  obtain ⟨rfl, h⟩ := hv
  refine oRC_ret (output_spec h _ (Nat.le_of_ble_eq_true rfl)) fun v K16 h => ?_
  replace h : Bd G3 K16 b p bgGates bgOuts := h
  obtain ⟨w0, g0, k0⟩ := hwv.int .i64 (i := 0) (by omega) (by simp) (ti := ty22) rfl
  obtain ⟨w1, g1, k1⟩ := hwv.int .i64 (i := 1) (by omega) (by simp) (ti := ty22) rfl
  obtain ⟨w2, g2, k2⟩ := hwv.int .i64 (i := 2) (by omega) (by simp) (ti := ty22) rfl
  replace k0 : vLoad ty22 w0 K16 = some (.int .u64 (wordOf ba)) := vLoad_mono h.le k0
  replace k1 : vLoad ty22 w1 K16 = some (.int .u64 (wordOf bb)) := vLoad_mono h.le k1
  replace k2 : vLoad ty22 w2 K16 = some (.int .u64 (wordOf bc)) := vLoad_mono h.le k2
  have q := ld _ (hl3.trans h.le)
  refine oV_eq g0 (oV_eq k0 (oV_eq g0 (oV_eq k0 (oV_eq g1 (oV_eq k1 (oV_eq g0 (oV_eq k0 (oV_eq g1 (oV_eq k1 (oV_eq g0 (oV_eq k0 (oV_eq g1 (oV_eq k1 (oV_eq a0 (oV_eq q.1 (oV_eq a1 (oV_eq q.2 (oV_eq g2 (oV_eq k2 ?_)))))))))))))))))))
  refine oRC_val (op_spec3 _ p ba) ⟨k2, q.2, q.1, k1, k0, k1, k0, k1, k0, ?_⟩
  refine oRC_val (op_spec4 _ p ba bb) ⟨k2, q.2, q.1, k1, k0, k1, k0, ?_⟩
  refine oRC_val (op_spec5 _ p ba bb) ⟨k2, q.2, q.1, k1, k0, ?_⟩
  refine oRC_val (op_spec6 _ p ba bb) ⟨k2, q.2, q.1, ?_⟩
  refine oRC_val (op_spec7 _ p x0 x1 bc) ?_
  show oNew (([1 - wordOf ba, wordOf (ba && bb), wordOf (ba || bb), wordOf (ba != bb), if bc then x0 else x1] : List Int).map (.int .u64)) 5 22 K16 _
  intro iw hiw
  have hle4 := Le.ins (.cells (([1 - wordOf ba, wordOf (ba && bb), wordOf (ba || bb), wordOf (ba != bb), if bc then x0 else x1] : List Int).map (.int .u64)) 5 22 true) (none_le h.le hiw)
  have swG := lit_ints (k := .u64) (H := G3) (i := iw) (t := 22) (n := 5) [1 - wordOf ba, wordOf (ba && bb), wordOf (ba || bb), wordOf (ba != bb), if bc then x0 else x1] (by simp)
  replace h := h.fresh hiw (.cells (([1 - wordOf ba, wordOf (ba && bb), wordOf (ba || bb), wordOf (ba != bb), if bc then x0 else x1] : List Int).map (.int .u64)) 5 22 true)
  have q2 := ld _ ((hl3.trans hle4).trans h.le)
  refine oV_eq a0 (oV_eq q2.1 (oV_eq a1 (oV_eq q2.2 ?_)))
  refine oRC_ret (circuit_spec h (by decide) (by decide)) fun c K18 hv => ?_
  obtain ⟨G', hG, hB, hC⟩ := hv
  have q3 := ld _ (((hl3.trans hle4).trans hG).trans hB.le)
  refine ⟨q3.2, q3.1, ?_⟩
  replace hC := hC.mono hB.le
  replace swG := swG.mono (hG.trans hB.le)
  replace hwv := hwv.mono ((hle4.trans hG).trans hB.le)
  show oNew (([x0, x1] : List Int).map (.int .u64)) 2 22 K18 _
  intro i1 hi1
  obtain ⟨wb, wcap, hwe⟩ : ∃ wb wcap, wv = .slice wb 3 wcap := by
    obtain ⟨wb, wcap, _, e, _⟩ := hwv
    exact ⟨wb, wcap, e⟩
  subst hwe
  show oNew [.slice wb 3 wcap, .slice (some ⟨i1, 0, none⟩) 2 2] 2 35 _ _
  intro i3 hi3
  have s1 := lit_ints (k := .u64) (H := K18) (i := i1) (t := 22) (n := 2) [x0, x1] (by simp)
  have s3 := lit_rows (t := 35) (n := 2) [[wordOf ba, wordOf bb, wordOf bc], [x0, x1]] [.slice wb 3 wcap, .slice (some ⟨i1, 0, none⟩) 2 2] rfl (by simp) hi3 (fun j hj => by
    match j, hj with
    | 0, _ => exact ⟨_, rfl, hwv.mono (Le.ins _ hi1)⟩
    | 1, _ => exact ⟨_, rfl, s1⟩)
  have hl5 := (Le.ins (.cells (([x0, x1] : List Int).map (.int .u64)) 2 22 true) hi1).trans (Le.ins (.cells [.slice wb 3 wcap, .slice (some ⟨i1, 0, none⟩) 2 2] 2 35 true) hi3)
  have ha := wordOf_rng ba
  have hb := wordOf_rng bb
  have hc := wordOf_rng bc
  refine oRC_grow (tells_spec (gs := bgGates) (os := bgOuts) (hC.mono hl5) s3 (swG.mono hl5) (by unfold wfG; decide +kernel) ?_ (by simp) (bg_valid hp) (bg_fits ba bb bc hp (by omega) (by omega)) (bg_outs ba bb bc hp ⟨h0, by omega⟩ ⟨h1, by omega⟩)) fun K21 l21 => ?_
  · intro l hl x hx
    simp only [List.mem_cons, List.not_mem_nil, or_false] at hl
    rcases hl with rfl | rfl <;> simp only [List.mem_cons, List.not_mem_nil, or_false] at hx <;> omega
  replace hB := (hB.grow hl5).grow l21
  refine oV_eq (v := b) rfl ?_
  refine gK_TT (oRC_ret (circuit_spec hB (by decide) (by decide)) fun c2 K22 hv => ?_)
  obtain ⟨G6, _, hB6, hC6⟩ := hv
  refine gK_TT (oRC_grow (muls_spec (hC6.mono hB6.le)) fun K23 _ => ?_)
  refine oV_eq (vInt_leq .i64 (mulCount bgGates) 4) ?_
  rw [show decide ((mulCount bgGates : Int) ≤ 4) = true by decide +kernel]
  exact oV_eq rfl rfl
theorem booleanGates_in {H : Heap} {p x0 x1 : Int} {ba bb bc : Bool} (_ : 0 ≤ p ∧ p ≤ 18446744073709551615) (h0 : 0 ≤ x0 ∧ x0 ≤ 18446744073709551615) (h1 : 0 ≤ x1 ∧ x1 ≤ 18446744073709551615) :
    RCalls Try.prog 6 [.int .u64 p, .agg #[.bool ba, .bool bb, .bool bc], .agg #[.int .u64 x0, .int .u64 x1]] H (Ret fun v _ => v = .bool true) := booleanGates_law H p x0 x1 ba bb bc h0.1 h1.1
end Go.Proofs.Ytpbaoefjkfdgmaa.SL
