/- GadgetBitArithmetic. -/
import Derived.Test.YtpbaoefjkfdgmaaGadL7
set_option linter.unusedVariables false
set_option linter.unusedSimpArgs false
namespace Go.Proofs.Ytpbaoefjkfdgmaa.SL
open Go

section
variable {G : Heap} {b lv u w x0 x1 x2 : Value} {p : Int} {gs : List Gate} {os : List Int} {xs ys bs : List Bool}
  {kn : Value → Value → Value → Value → Value → Value → Heap → Prop} {kx1 : Value → Value → Value → Value → Value → Value → Heap → Prop} {kx0 : Heap → Prop} {Q : Ending → Heap → Prop}
theorem outs_put {x7 x8 x9 : Value} {kn : Value → Value → Value → Value → Value → Value → Value → Heap → Prop} (hl : Sl (eInt .i64) G lv os) (hm : os.length ≤ 1000) (hk : ∀ K, Bd G K b p gs os → kn x0 x1 x2 x7 x8 x9 b K) :
    ∀ (d i : Nat) (K : Heap), os.length - i = d → i ≤ os.length → Bd G K b p gs (os.take i) → L8_11 x0 x1 x2 x7 x8 x9 b lv (.int .i64 i) K kn kx1 kx0 Q := by
  intro d
  induction d with
  | zero =>
    intro i K hd hi hB
    apply L8_11_round
    unfold m8_12
    refine oV_eq hl.len (oV_eq (vInt_lss _ _ _) (condK_dec (fun hlt => absurd hlt (by omega)) (fun _ => ?_)))
    rw [List.take_of_length_le (by omega)] at hB
    exact hk K hB
  | succ d ih =>
    intro i K hd hi hB
    apply L8_11_round
    unfold m8_12
    refine oV_eq hl.len (oV_eq (vInt_lss _ _ _) (condK_dec (fun hlt => ?_) (fun hlt => absurd (by omega) hlt)))
    have hil : i < os.length := by omega
    obtain ⟨q, f1, f2⟩ := (hl.mono hB.le).int .i64 (i := (i : Int)) (by omega) (by omega) (ti := ty3) rfl
    have e : os.getD (i : Int).toNat 0 = os[i] := by simp [hil]
    rw [e] at f2
    refine oV_eq f1 (oV_eq f2 (oRC_ret (output_spec hB _ (by rw [List.length_take]; omega)) fun v K2 hB2 => oV_eq (vInt_add _ _ _) ?_))
    rw [wrap_i64 (by omega) (by omega)]
    refine ih (i + 1) K2 (by omega) (by omega) ?_
    rw [List.take_succ_eq_append_getElem hil]
    exact hB2
theorem ba_tail {K : Heap} {kind : Int} (hp : Supp p) (hB : Bd G K b p gs []) (hl : Sl (eInt .i64) G lv os) (hu : WL G u xs) (hw : WL G w ys) (hxl : xs.length ≤ 10) (hyl : ys.length ≤ 10) (e : GExt p (inGates xs.length ys.length) gs) (ws : Wires p (words2 xs ys) gs os bs) (hgl : gs.length ≤ 20000) (hm : os.length ≤ 100)
    (hL : ∀ K, WL K u xs → WL K w ys → RCalls Try.prog 43 [.int .i64 kind, u, w] K (Lst bs K)) (hk : ∀ K', Le G K' → kn x0 x1 x2 u w (.int .i64 kind) K') :
    m8_8 x0 x1 x2 u w (.int .i64 kind) b lv K kn kx1 kx0 Q := by
  unfold m8_8 m8_10
  refine outs_put hl (by omega) (fun K2 hB2 => ?_) _ 0 K rfl (by omega) hB
  unfold m8_9
  refine oRC_ret (circuit_spec hB2 (by omega) (by omega)) fun c K3 hv => ?_
  obtain ⟨G', hG, hB3, hC⟩ := hv
  replace hC := hC.mono hB3.le
  have lG := hG.trans hB3.le
  refine rows2 (hu.mono lG) (hw.mono lG) (by omega) fun s K4 l4 hs => ?_
  have lK := lG.trans l4
  refine oRC_ret (hL K4 (hu.mono lK) (hw.mono lK)) fun v K5 hv => ?_
  obtain ⟨l5, hv⟩ := hv
  obtain ⟨ho, hr⟩ := wires_outs ws
  refine oRC_grow (tells_spec (gs := gs) (os := os) ((hC.mono l4).mono l5) (hs.mono l5) hv (start_wf e) (start_wfI xs ys) (by simp [words2]) ⟨hp, hgl, by omega, e.val (start_valid hp _ _), hr⟩ (start_fits hp e) (by rw [start_eff]; exact ho)) fun K6 l6 => ?_
  exact oV_eq rfl (condK_false (hk K6 ((lK.trans l5).trans l6)))
theorem ba_round {H : Heap} {kind : Int} (hp : Supp p) (hx : Sl eBool H x1 xs) (hy : Sl eBool H x2 ys) (hu : WL H u xs) (hw : WL H w ys) (hxl : xs.length ≤ 10) (hyl : ys.length ≤ 10) (hkd : kind = 0 ∨ kind = 1 ∨ kind = 2) (hk : ∀ K', Le H K' → kn (.int .u64 p) x1 x2 u w (.int .i64 kind) K') :
    m8_7 (.int .u64 p) x1 x2 u w (.int .i64 kind) H kn kx1 kx0 Q := by
  have hpp := hp.pos
  unfold m8_7
  refine oRC_ret (new_spec H p) fun b K1 h => ?_
  refine oV_eq hx.len ?_
  refine oRC_ret (ins_spec (f := 1) (n := xs.length) h (by simp; omega)) fun mv K2 hv => ?_
  obtain ⟨G1, g1, h, hm⟩ := hv
  refine oV_eq hy.len ?_
  refine oRC_ret (ins_spec (f := 2) (n := ys.length) h (by simp; omega)) fun nv K3 hv => ?_
  obtain ⟨G2, g2, h, hn⟩ := hv
  replace hm : Sl (eInt .i64) G2 mv (ids 0 xs.length) := hm.mono g2
  rw [List.nil_append, List.length_replicate] at hn
  replace h : Bd G2 K3 b p (inGates xs.length ys.length) [] := h
  have hg0 : (inGates xs.length ys.length).length = xs.length + ys.length := by simp [inGates]
  obtain ⟨w1, w2⟩ := start_wires (GExt.refl p (inGates xs.length ys.length))
  have hli : (ids 0 xs.length).length = xs.length := ids_len _ _
  have hlj : (ids xs.length ys.length).length = ys.length := ids_len _ _
  have l2 := g1.trans g2
  rcases hkd with rfl | rfl | rfl
  · refine oV_eq (vInt_eql _ _ _) (condK_true (oRC_ret (addBits_spec hp h hm hn (by omega) (by omega) (by omega)) fun lv K4 hv => ?_))
    obtain ⟨G3, h, hg⟩ := hv
    obtain ⟨e1, s1⟩ := pAddBits_sem hp w1 w2
    obtain ⟨n1, n2⟩ := pAddBits_len (ids 0 xs.length) (ids xs.length ys.length) (inGates xs.length ys.length)
    rw [hli, hlj] at n1 n2
    have hm9 : max xs.length ys.length * 9 ≤ 10 * 9 := Nat.mul_le_mul_right _ (by omega)
    have l3 := l2.trans hg.1
    have hlv : Sl (eInt .i64) G3 lv (pAddBits (ids 0 xs.length) (ids xs.length ys.length) (inGates xs.length ys.length)).1 := Own.sl_int (by rw [n1]; rw [hli, hlj] at hg; exact hg.2.1)
    exact ba_tail hp h hlv (hu.mono l3) (hw.mono l3) hxl hyl e1 s1 (by omega) (by omega) (fun K hu hw => lists_spec0 hu hw (by omega)) fun K' l => hk K' (l3.trans l)
  · refine oV_eq (vInt_eql _ _ _) (condK_false (oV_eq (vInt_eql _ _ _) (condK_true (oRC_ret (subBits_spec hp h hm hn (by omega) (by omega) (by omega)) fun lv K4 hv => ?_))))
    obtain ⟨G3, h, hg⟩ := hv
    obtain ⟨e1, s1⟩ := pSubBits_sem hp w1 w2
    obtain ⟨n1, n2⟩ := pSubBits_len (ids 0 xs.length) (ids xs.length ys.length) (inGates xs.length ys.length)
    rw [hli] at n1
    rw [hli, hlj] at n2
    have hm9 : max xs.length ys.length * 11 ≤ 10 * 11 := Nat.mul_le_mul_right _ (by omega)
    have l3 := l2.trans hg.1
    have hlv : Sl (eInt .i64) G3 lv (pSubBits (ids 0 xs.length) (ids xs.length ys.length) (inGates xs.length ys.length)).1 := Own.sl_int (by rw [n1]; rw [hli] at hg; exact hg.2.1)
    exact ba_tail hp h hlv (hu.mono l3) (hw.mono l3) hxl hyl e1 s1 (by omega) (by omega) (fun K hu hw => lists_spec1 hu hw (by omega)) fun K' l => hk K' (l3.trans l)
  · refine oV_eq (vInt_eql _ _ _) (condK_false (oV_eq (vInt_eql _ _ _) (condK_false (oRC_ret (mulBits_spec hp h hm hn (by omega) (by omega) (by omega)) fun lv K4 hv => ?_))))
    obtain ⟨G3, g3, h, hlv⟩ := hv
    obtain ⟨e1, s1⟩ := pMulBits_sem hp w1 w2
    obtain ⟨n1, n2, _⟩ := pMulBits_cost (ids 0 xs.length) (ids xs.length ys.length) (inGates xs.length ys.length)
    rw [hli, hlj] at n1 n2
    have hm9 : 10 * xs.length * ys.length ≤ 10 * 10 * 10 := Nat.mul_le_mul (by omega) (by omega)
    have l3 := l2.trans g3
    exact ba_tail hp h hlv (hu.mono l3) (hw.mono l3) hxl hyl e1 s1 (by omega) (by omega) (fun K hu hw => lists_spec2 hu hw (by omega)) fun K' l => hk K' (l3.trans l)
theorem ba_loop {H : Heap} {kn : Heap → Prop} (hp : Supp p) (hx : Sl eBool H x1 xs) (hy : Sl eBool H x2 ys) (hu : WL H u xs) (hw : WL H w ys) (hxl : xs.length ≤ 10) (hyl : ys.length ≤ 10) (hk : ∀ K, kn K) :
    ∀ (d kind : Nat) (K : Heap), 3 - kind = d → kind ≤ 3 → Le H K → L8_3 (.int .u64 p) x1 x2 u w (.int .i64 kind) K kn Q := by
  intro d
  induction d with
  | zero =>
    intro kind K hd hi hl
    apply L8_3_round
    unfold m8_4
    exact oV_eq (vInt_lss _ _ _) (condK_dec (fun hlt => absurd hlt (by omega)) (fun _ => hk K))
  | succ d ih =>
    intro kind K hd hi hl
    apply L8_3_round
    unfold m8_4
    refine oV_eq (vInt_lss _ _ _) (condK_dec (fun hlt => ?_) (fun hlt => absurd (by omega) hlt))
    unfold m8_6
    refine ba_round hp (hx.mono hl) (hy.mono hl) (hu.mono hl) (hw.mono hl) hxl hyl (by omega) fun K' l => ?_
    unfold m8_5
    refine oV_eq (vInt_add _ _ _) ?_
    rw [wrap_i64 (by omega) (by omega)]
    exact ih (kind + 1) K' (by omega) (by omega) (hl.trans l)
end
theorem bitArithmetic_law {H : Heap} {p : Int} {xv yv : Value} {xs ys : List Bool} (hx : Sl eBool H xv xs) (hy : Sl eBool H yv ys) : RCalls Try.prog 8 [.int .u64 p, xv, yv] H (Ret fun v _ => v = .bool true) := by
  apply call8
  unfold m8
  refine oRC_grow (awake_spec H) fun H2 l2 => ?_
  refine oV_eq rfl (condK_false ?_)
  refine oRC_grow (supported_spec H2 p) fun H3 l3 => ?_
  have l13 := l2.trans l3
  refine guard2 hx.len hy.len rfl fun hp hlx hly => ?_
  replace hp := of_decide_eq_true hp
  refine oRC_ret (words_spec (hx.mono l13) (by omega)) fun u H4 hv => ?_
  obtain ⟨N, hN, hu⟩ := hv
  replace hu : WL H4 u xs := hu.mono hN.2.1
  have l4 := l13.trans hN.1
  refine oRC_ret (words_spec (hy.mono l4) (by omega)) fun w H5 hv => ?_
  obtain ⟨M, hM, hw⟩ := hv
  replace hw : WL H5 w ys := hw.mono hM.2.1
  replace hu : WL H5 u xs := hu.mono hM.1
  have l5 := l4.trans hM.1
  unfold m8_2
  exact ba_loop hp (hx.mono l5) (hy.mono l5) hu hw (by omega) (by omega) (fun K => by unfold m8_1; rfl) _ 0 H5 rfl (by omega) (Le.refl _)
theorem bitArithmetic_in {H : Heap} {p : Int} {xv yv : Value} {xs ys : List Bool} (_ : 0 ≤ p ∧ p ≤ 18446744073709551615) (hx : Sl eBool H xv xs) (hy : Sl eBool H yv ys) : RCalls Try.prog 8 [.int .u64 p, xv, yv] H (Ret fun v _ => v = .bool true) := bitArithmetic_law hx hy
end Go.Proofs.Ytpbaoefjkfdgmaa.SL
