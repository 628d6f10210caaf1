/- Compose; slices that are written down; the law's example. -/
import Derived.Test.YtpbaoefjkfdgmaaGadL
set_option linter.unusedVariables false
set_option linter.unusedSimpArgs false
namespace Go.Proofs.Ytpbaoefjkfdgmaa.SL
open Go

theorem lit_ints {k : IntKind} {H : Heap} {i : Nat} {t : TypeId} {n : Nat} (xs : List Int) (h : xs.length ≤ 1000000) : Sl (eInt k) (hins H i (.cells (xs.map (.int k)) n t true)) (.slice (some ⟨i, 0, none⟩) xs.length xs.length) xs := by
  refine ⟨some ⟨i, 0, none⟩, xs.length, xs.map (.int k), rfl, Nat.le_refl _, by omega, rdSlice_ins (by show _ = xs.length * 1; simp), fun j x hx => ?_⟩
  exact one_get _ j (.int k x) (by rw [List.getElem?_map, hx]; rfl)
theorem lit_rows {H : Heap} {i : Nat} {t : TypeId} {n : Nat} (xss : List (List Int)) (us : List Value) (hl : us.length = xss.length) (h : xss.length ≤ 1000000) (hi : H i = none) (hu : ∀ (j : Nat) (hj : j < xss.length), ∃ u, us[j]? = some u ∧ Sl (eInt .u64) H u xss[j]) :
    Sl (eSlice (eInt .u64)) (hins H i (.cells us n t true)) (.slice (some ⟨i, 0, none⟩) xss.length xss.length) xss := by
  refine ⟨some ⟨i, 0, none⟩, xss.length, us, rfl, Nat.le_refl _, by omega, rdSlice_ins (by show _ = xss.length * 1; omega), fun j x hx => ?_⟩
  obtain ⟨hj, rfl⟩ := List.getElem?_eq_some_iff.1 hx
  obtain ⟨u, h1, h2⟩ := hu j hj
  exact ⟨u, one_get _ j u h1, h2.mono (Le.ins _ hi)⟩
theorem fadd_spec (H : Heap) {p a b : Int} (hp : Supp p) (ha : 0 ≤ a) (hb : 0 ≤ b) (h : a + b ≤ 18446744073709551615) : RCalls Try.prog 60 [.int .u64 p, .int .u64 a, .int .u64 b] H (Val (.int .u64 ((a + b) % p)) H) := by
  apply call60
  unfold m60
  refine oV_eq (vInt_add _ _ _) ?_
  rw [wrap_u64 (by omega) h]
  refine oRC_val (fold_spec H hp (by omega) (by omega) (by omega) h) ⟨?_, rfl⟩
  simp
def pComposeL (p : Int) : List Int → Int → Int → List Gate → Int × List Gate
  | [], s, _, gs => (s, gs)
  | k :: r, s, w, gs =>
    let a := pScale w k gs
    let b := pAdd s a.1 a.2
    pComposeL p r b.1 ((w + w) % p) b.2
def pCompose (p : Int) (x : List Int) (gs : List Gate) : Int × List Gate :=
  let c := pConst 0 gs
  pComposeL p x c.1 1 c.2
theorem compose_loop {G : Heap} {b v : Value} {p : Int} {os : List Int} {xs : List Int} (hp : Supp p) (hx : Sl (eInt .i64) G v xs) {kn : Value → Heap → Prop} {Q : Ending → Heap → Prop} :
    ∀ (d i : Nat) (H : Heap) (gs : List Gate) (s w : Int), xs.length - i = d → i ≤ xs.length → 0 ≤ w → w < p → gs.length + 2 * d ≤ 1000000000 → Bd G H b p gs os →
      (∀ H', Bd G H' b p (pComposeL p (xs.drop i) s w gs).2 os → kn (.int .i64 (pComposeL p (xs.drop i) s w gs).1) H') → L36_3 b (.int .i64 s) (.int .u64 w) v (.int .i64 xs.length) (.int .i64 i) H kn Q
  | d, i, H, gs, s, w, hd, hi, hw0, hw1, hn, hB, hk => by
    apply L36_3_round
    unfold m36_4
    have hm := hx.max
    have hpp := hp.pos
    obtain ⟨jb, rfl⟩ := hB.ptr
    refine oV_eq (vInt_lss _ _ _) (condK_dec (fun hlt => ?_) (fun hlt => ?_))
    · have hlt' : i < xs.length := by omega
      obtain ⟨q, f1, f2⟩ := (hx.mono hB.le).int .i64 (i := (i : Int)) (by omega) (by omega) (ti := ty3) rfl
      have e : xs.getD (i : Int).toNat 0 = xs[i] := by simp [hlt']
      rw [e] at f2
      refine oV_eq f1 (oV_eq f2 (oRC_ret (scale_puts _ p w xs[i] _ _ _ _ hB (by omega)) fun v' H' hv => ?_))
      obtain ⟨rfl, hB1⟩ := hv
      refine oRC_ret (add_puts _ p s _ _ _ _ _ hB1 (by simp [pScale]; omega)) fun v' H'' hv => ?_
      obtain ⟨rfl, hB2⟩ := hv
      refine oV_eq (vNil_to _) (oV_eq (vField_to _ _) (oV_eq hB2.loadP (oRC_val (fadd_spec _ hp hw0 hw0 (by omega)) (oV_eq (vInt_add _ _ _) ?_))))
      rw [wrap_i64 (by omega) (by omega)]
      refine compose_loop hp hx (d - 1) (i + 1) H'' _ _ _ (by omega) (by omega) (Int.emod_nonneg _ (by omega)) (Int.emod_lt_of_pos _ (by omega)) (by simp [pScale, pAdd]; omega) hB2 fun H3 hB3 => ?_
      have := hk H3
      rw [List.drop_eq_getElem_cons hlt'] at this
      exact this hB3
    · have := hk H
      rw [List.drop_eq_nil_of_le (by omega)] at this
      exact this hB
  termination_by d => d
theorem compose_spec {G H : Heap} {b v : Value} {p : Int} {gs : List Gate} {os : List Int} {xs : List Int} (hp : Supp p) (hx : Sl (eInt .i64) G v xs) (h : Bd G H b p gs os) (hn : gs.length + 1 + 2 * xs.length ≤ 1000000000) :
    RCalls Try.prog 36 [b, v] H (Ret fun v H' => v = .int .i64 (pCompose p xs gs).1 ∧ Bd G H' b p (pCompose p xs gs).2 os) := by
  apply call36
  unfold m36
  refine oRC_ret (const_puts b p 0 _ _ _ _ h (by omega)) fun v' H' hv => ?_
  obtain ⟨rfl, hB⟩ := hv
  unfold m36_2
  have := hp.pos
  refine oV_eq hx.len (compose_loop hp hx _ 0 H' _ _ _ rfl (by omega) (by omega) (by omega) (by simp [pConst]; omega) hB fun H3 hB3 => ?_)
  unfold m36_1
  exact ⟨rfl, hB3⟩
/-! ### The law's example -/
theorem awake_spec (H : Heap) : RCalls Try.prog 10 [] H (Grow (.bool true) H) := by
  have hp : Supp 31 := .inl rfl
  apply call10
  unfold m10
  refine oRC_ret (new_spec H 31) fun b H1 h => ?_
  refine oRC_ret (input_puts b 31 1 true _ _ _ _ h (by decide)) fun v H2 hv => ?_
  obtain ⟨rfl, h⟩ := hv
  refine oRC_ret (input_puts b 31 2 true _ _ _ _ h (by decide)) fun v H3 hv => ?_
  obtain ⟨rfl, h⟩ := hv
  refine oRC_ret (input_puts b 31 1 false _ _ _ _ h (by decide)) fun v H4 hv => ?_
  obtain ⟨rfl, h⟩ := hv
  refine oRC_ret (or_puts b 31 _ _ _ _ _ _ h (by decide)) fun v H5 hv => ?_
  obtain ⟨rfl, h⟩ := hv
  refine oRC_ret (output_spec h _ (by decide)) fun v H6 h => ?_
  refine oRC_ret (xor_puts b 31 hp _ _ _ _ _ _ h (by decide)) fun v H7 hv => ?_
  obtain ⟨rfl, h⟩ := hv
  refine oRC_ret (output_spec h _ (by decide)) fun v H8 h => ?_
  refine oRC_ret (scale_puts b 31 3 _ _ _ _ _ h (by decide)) fun v H9 hv => ?_
  obtain ⟨rfl, h⟩ := hv
  refine oRC_ret (output_spec h _ (by decide)) fun v H10 h => ?_
  show oNew (([0, 1, 1] : List Int).map (.int .i64)) 3 3 H10 _
  intro i hi
  have hle0 : Le H (hins H i (.cells (([0, 1, 1] : List Int).map (.int .i64)) 3 3 true)) := Le.ins _ (none_le h.le hi)
  replace h := h.fresh hi (.cells (([0, 1, 1] : List Int).map (.int .i64)) 3 3 true)
  refine oRC_ret (compose_spec hp (lit_ints [0, 1, 1] (by decide)) h (by decide)) fun v H11 hv => ?_
  obtain ⟨rfl, h⟩ := hv
  refine oRC_ret (output_spec h _ (by decide)) fun v H12 h => ?_
  refine oRC_ret (circuit_spec h (by decide) (by decide)) fun c H13 hv => ?_
  obtain ⟨G', hG, hB, hC⟩ := hv
  have hH : Le H H13 := (hle0.trans hG).trans hB.le
  replace hC := hC.mono hB.le
  show oNew (([1, 5] : List Int).map (.int .u64)) 2 22 H13 _
  intro i1 hi1
  show oNew (([1] : List Int).map (.int .u64)) 1 22 _ _
  intro i2 hi2
  show oNew [.slice (some ⟨i1, 0, none⟩) 2 2, .slice (some ⟨i2, 0, none⟩) 1 1] 2 35 _ _
  intro i3 hi3
  have s1 := (lit_ints (k := .u64) (H := H13) (i := i1) (t := 22) (n := 2) [1, 5] (by decide)).mono (Le.ins (.cells (([1] : List Int).map (.int .u64)) 1 22 true) hi2)
  have s2 := lit_ints (k := .u64) (H := hins H13 i1 (.cells (([1, 5] : List Int).map (.int .u64)) 2 22 true)) (i := i2) (t := 22) (n := 1) [1] (by decide)
  have s3 := lit_rows (t := 35) (n := 2) [[1, 5], [1]] [.slice (some ⟨i1, 0, none⟩) 2 2, .slice (some ⟨i2, 0, none⟩) 1 1] rfl (by decide) hi3 (fun j hj => by
    match j, hj with
    | 0, _ => exact ⟨_, rfl, s1⟩
    | 1, _ => exact ⟨_, rfl, s2⟩)
  have hle3 := ((Le.ins (.cells (([1, 5] : List Int).map (.int .u64)) 2 22 true) hi1).trans (Le.ins (.cells (([1] : List Int).map (.int .u64)) 1 22 true) hi2)).trans (Le.ins (.cells [.slice (some ⟨i1, 0, none⟩) 2 2, .slice (some ⟨i2, 0, none⟩) 1 1] 2 35 true) hi3)
  refine oRC_ret (evaluate_spec (hC.mono hle3) s3 (by unfold wfG; decide +kernel) (by unfold wfI; decide +kernel) (by decide)) fun v H17 hv => ?_
  obtain ⟨hl, hy, _⟩ := hv
  obtain ⟨u, rfl, hu⟩ := hy ⟨by unfold validC validGates; decide +kernel, by unfold fits; decide +kernel⟩
  refine oV_eq (v := u) rfl (oV_eq (v := .int .i64 0) rfl (oV_eq (v := .bool true) rfl (oV_eq (v := u) rfl ?_)))
  refine gK_TT ?_
  show oNew (([1, 0, 15, 7] : List Int).map (.int .u64)) 4 22 _ _
  intro i4 hi4
  have s4 := lit_ints (k := .u64) (H := H17) (i := i4) (t := 22) (n := 4) [1, 0, 15, 7] (by decide)
  refine gK_TT (oRC_val (same_spec (hu.mono (Le.ins _ hi4)) s4) ?_)
  refine ⟨?_, (hH.trans hle3).trans (hl.trans (Le.ins _ hi4))⟩
  exact congrArg Value.bool (by decide +kernel)
end Go.Proofs.Ytpbaoefjkfdgmaa.SL
