/- Which gates and circuits the program takes as valid. -/
import Derived.Test.YtpbaoefjkfdgmaaDoorCtA
set_option linter.unusedVariables false
set_option linter.unusedSimpArgs false
namespace Go.Proofs.YtpbaoefjkfdgmaaDoor.SL
open Go

theorem oCl_ret {X : Externs} {P : Program} {fid : FuncId} {first cap : Array Value} {args : List Value} {H : Heap} {p : List PanicEntry → Heap → Prop} {k : Value → Heap → Prop} {R : Value → Heap → Prop} (hx : X fid = none) (h : RCalls P fid (first.toList ++ args ++ cap.toList) H (Ret R)) (hk : ∀ v H', R v H' → k v H') :
    oCl X P (.func (.func fid) first cap) args H p k := by
  have := oRC_ret (p := p) h hk
  unfold oCl oCall
  simp only [hx]
  exact this
def sideOk (has : Bool) (x at_ : Int) : Prop := if has = true then 0 ≤ x ∧ x < at_ else x = 0
instance (has : Bool) (x at_ : Int) : Decidable (sideOk has x at_) := by unfold sideOk; infer_instance
theorem side_spec {H : Heap} (has : Bool) (x : Int) {i3 : Nat} {at_ : Int} (h3 : vLoad ty3 (ptrTo i3) H = some (.int .i64 at_)) : RCalls Tryd.prog 28 [.bool has, .int .i64 x, ptrTo i3] H (Val (.bool (decide (sideOk has x at_))) H) := by
  apply call28
  unfold m28
  cases has
  · refine oV_eq (v := .bool true) rfl (oV_eq (v := .int .i64 x) rfl (oV_eq (v := .bool (decide (x = 0))) (vInt_eql .i64 x 0) (oV_eq (v := .bool (decide (x = 0))) rfl ?_)))
    by_cases c : x = 0
    · rw [decide_eq_true c, decide_eq_true (show sideOk false x at_ from c)]
      exact ⟨rfl, rfl⟩
    · rw [decide_eq_false c, decide_eq_false (show ¬ sideOk false x at_ from c)]
      exact ⟨rfl, rfl⟩
  · refine oV_eq (v := .bool false) rfl (oV_eq (v := undef) rfl (oV_eq (v := undef) rfl (oV_eq (v := .bool false) rfl (oV_eq (v := .bool true) rfl (oV_eq (v := .bool true) rfl (oV_eq (v := .int .i64 x) rfl (oV_eq (v := .bool (decide (0 ≤ x))) (vInt_geq .i64 x 0) (oV_eq (v := .bool (decide (0 ≤ x))) rfl (oV_eq (v := .bool (decide (0 ≤ x))) rfl ?_)))))))))
    by_cases c : 0 ≤ x
    · rw [decide_eq_true c]
      refine oV_eq (v := .int .i64 x) rfl (oV_eq (v := .int .i64 at_) h3 (oV_eq (v := .bool (decide (x < at_))) (vInt_lss .i64 x at_) (oV_eq (v := .bool (decide (x < at_))) rfl (oV_eq (v := .bool (decide (x < at_))) rfl ⟨?_, rfl⟩))))
      congr 1
      exact decide_eq_decide.2 ⟨fun h => ⟨c, h⟩, fun h => h.2⟩
    · rw [decide_eq_false c, decide_eq_false (show ¬ sideOk true x at_ from fun h => c h.1)]
      exact ⟨rfl, rfl⟩
def fromOk (fr : Bool) (x : Int) : Prop := if fr = true then 1 ≤ x ∧ x ≤ 13 else x = 0
instance (fr : Bool) (x : Int) : Decidable (fromOk fr x) := by unfold fromOk; infer_instance
def constOk (k bit : Bool) (p x : Int) : Prop := if k = true then x < p else x = 0 ∨ bit = true
instance (k bit : Bool) (p x : Int) : Decidable (constOk k bit p x) := by unfold constOk; infer_instance
structure FAt (H : Heap) (i : Nat) (fr k a b bit : Bool) : Prop where
  blk : ∃ w kd, H i = some (.cells (formCells w kd fr k a b bit) 7 58 true)
section
variable {H G : Heap} {i i1 i10 : Nat} {fr kk a b bit : Bool} {g : Gate} {p : Int}
theorem FAt.mono (h : FAt H i fr kk a b bit) (hl : Le H G) : FAt G i fr kk a b bit := by
  obtain ⟨w, kd, h⟩ := h.blk
  exact ⟨w, kd, hl _ _ h⟩
theorem FAt.l2 (h : FAt H i fr kk a b bit) : vLoad ty4 (.pointer (some ⟨i, 2, none⟩)) H = some (.bool fr) := by obtain ⟨w, kd, h⟩ := h.blk; simp only [vLoad, h]; rfl
theorem FAt.l3 (h : FAt H i fr kk a b bit) : vLoad ty4 (.pointer (some ⟨i, 3, none⟩)) H = some (.bool kk) := by obtain ⟨w, kd, h⟩ := h.blk; simp only [vLoad, h]; rfl
theorem FAt.l4 (h : FAt H i fr kk a b bit) : vLoad ty4 (.pointer (some ⟨i, 4, none⟩)) H = some (.bool a) := by obtain ⟨w, kd, h⟩ := h.blk; simp only [vLoad, h]; rfl
theorem FAt.l5 (h : FAt H i fr kk a b bit) : vLoad ty4 (.pointer (some ⟨i, 5, none⟩)) H = some (.bool b) := by obtain ⟨w, kd, h⟩ := h.blk; simp only [vLoad, h]; rfl
theorem FAt.l6 (h : FAt H i fr kk a b bit) : vLoad ty4 (.pointer (some ⟨i, 6, none⟩)) H = some (.bool bit) := by obtain ⟨w, kd, h⟩ := h.blk; simp only [vLoad, h]; rfl
theorem partA {k : Value → Prop} (hf : FAt H i10 fr kk a b bit) (hg : GateAt H i1 g) (hk : k (.bool (decide (fromOk fr g.frm)))) :
    oV (vField 2 (ptrTo i10)) fun t19_14 => oV (vLoad ty4 t19_14 H) fun t20_15 => oV (vUn .not t20_15) fun t21_16 => oV (gV t21_16 true (vField 1 (ptrTo i1)) (some undef)) fun t23_17 => oV (gV t21_16 true (vLoad ty3 t23_17 H) (some undef)) fun t24_18 => oV (gV t21_16 true (vInt .eql t24_18 (.int .i64 0)) (some undef)) fun t25_19 => oV (vPick t21_16 t25_19 (.bool false)) fun t26_20 => oV (gV t26_20 false (vField 2 (ptrTo i10)) (some undef)) fun t28_21 => oV (gV t26_20 false (vLoad ty4 t28_21 H) (some undef)) fun t29_22 => oV (gV t26_20 false (some t29_22) (some undef)) fun t30_23 => oV (gV t30_23 true (vField 1 (ptrTo i1)) (some undef)) fun t31_24 => oV (gV t30_23 true (vLoad ty3 t31_24 H) (some undef)) fun t32_25 => oV (gV t30_23 true (vInt .geq t32_25 (.int .i64 1)) (some undef)) fun t33_26 => oV (gV t26_20 false (vPick t30_23 t33_26 (.bool false)) (some undef)) fun t34_27 => oV (gV t26_20 false (some t34_27) (some undef)) fun t35_28 => oV (gV t35_28 true (vField 1 (ptrTo i1)) (some undef)) fun t36_29 => oV (gV t35_28 true (vLoad ty3 t36_29 H) (some undef)) fun t37_30 => oV (gV t35_28 true (vInt .leq t37_30 (.int .i64 13)) (some undef)) fun t38_31 => oV (gV t26_20 false (vPick t35_28 t38_31 (.bool false)) (some undef)) fun t39_32 => oV (vPick t26_20 (.bool true) t39_32) k := by
  cases fr
  · refine oV_eq (vField_to _ _) (oV_eq hf.l2 (oV_eq (v := .bool true) rfl ?_))
    refine oV_eq (v := .pointer (some ⟨i1, 1, none⟩)) rfl (oV_eq (v := .int .i64 g.frm) hg.l1 (oV_eq (v := .bool (decide (g.frm = 0))) (vInt_eql .i64 g.frm 0) (oV_eq (v := .bool (decide (g.frm = 0))) rfl (?_))))
    by_cases c : g.frm = 0
    · rw [decide_eq_true (show fromOk false g.frm from c)] at hk
      rw [decide_eq_true c]
      exact hk
    · rw [decide_eq_false (show ¬ fromOk false g.frm from c)] at hk
      rw [decide_eq_false c]
      exact oV_eq (v := .pointer (some ⟨i10, 2, none⟩)) rfl (oV_eq (v := .bool false) hf.l2 (oV_eq (v := .bool false) rfl (hk)))
  · refine oV_eq (vField_to _ _) (oV_eq hf.l2 (oV_eq (v := .bool false) rfl ?_))
    refine oV_eq (v := undef) rfl (oV_eq (v := undef) rfl (oV_eq (v := undef) rfl (oV_eq (v := .bool false) rfl (oV_eq (v := .pointer (some ⟨i10, 2, none⟩)) rfl (oV_eq (v := .bool true) hf.l2 (oV_eq (v := .bool true) rfl (oV_eq (v := .pointer (some ⟨i1, 1, none⟩)) rfl (oV_eq (v := .int .i64 g.frm) hg.l1 (oV_eq (v := .bool (decide (1 ≤ g.frm))) (vInt_geq .i64 g.frm 1) (oV_eq (v := .bool (decide (1 ≤ g.frm))) rfl (oV_eq (v := .bool (decide (1 ≤ g.frm))) rfl (?_))))))))))))
    by_cases c : 1 ≤ g.frm
    · rw [decide_eq_true c]
      have e : decide (fromOk true g.frm) = decide (g.frm ≤ 13) := decide_eq_decide.2 ⟨fun h => h.2, fun h => ⟨c, h⟩⟩
      rw [e] at hk
      exact oV_eq (v := .pointer (some ⟨i1, 1, none⟩)) rfl (oV_eq (v := .int .i64 g.frm) hg.l1 (oV_eq (v := .bool (decide (g.frm ≤ 13))) (vInt_leq .i64 g.frm 13) (oV_eq (v := .bool (decide (g.frm ≤ 13))) rfl (oV_eq (v := .bool (decide (g.frm ≤ 13))) rfl (hk)))))
    · rw [decide_eq_false c]
      rw [decide_eq_false (show ¬ fromOk true g.frm from fun h => c h.1)] at hk
      exact hk
theorem partB {k : Value → Prop} (hf : FAt H i10 fr kk a b bit) (hg : GateAt H i1 g) (hk : k (.bool (decide (constOk kk bit p g.k)))) :
    oV (vField 3 (ptrTo i10)) fun t41_34 => oV (vLoad ty4 t41_34 H) fun t42_35 => oV (vUn .not t42_35) fun t43_36 => oV (gV t43_36 true (vField 4 (ptrTo i1)) (some undef)) fun t45_37 => oV (gV t43_36 true (vLoad ty22 t45_37 H) (some undef)) fun t46_38 => oV (gV t43_36 true (vInt .eql t46_38 (.int .u64 0)) (some undef)) fun t47_39 => oV (gV t43_36 true (some t47_39) (some undef)) fun t48_40 => oV (gV t48_40 false (vField 6 (ptrTo i10)) (some undef)) fun t49_41 => oV (gV t48_40 false (vLoad ty4 t49_41 H) (some undef)) fun t50_42 => oV (gV t43_36 true (vPick t48_40 (.bool true) t50_42) (some undef)) fun t51_43 => oV (vPick t43_36 t51_43 (.bool false)) fun t52_44 => oV (gV t52_44 false (vField 3 (ptrTo i10)) (some undef)) fun t54_45 => oV (gV t52_44 false (vLoad ty4 t54_45 H) (some undef)) fun t55_46 => oV (gV t52_44 false (some t55_46) (some undef)) fun t56_47 => oV (gV t56_47 true (vField 4 (ptrTo i1)) (some undef)) fun t57_48 => oV (gV t56_47 true (vLoad ty22 t57_48 H) (some undef)) fun t58_49 => oV (gV t56_47 true (some (.int .u64 p)) (some undef)) fun t59_50 => oV (gV t56_47 true (vInt .lss t58_49 t59_50) (some undef)) fun t60_51 => oV (gV t52_44 false (vPick t56_47 t60_51 (.bool false)) (some undef)) fun t61_52 => oV (vPick t52_44 (.bool true) t61_52) k := by
  cases kk
  · refine oV_eq (vField_to _ _) (oV_eq hf.l3 (oV_eq (v := .bool true) rfl ?_))
    refine oV_eq (v := .pointer (some ⟨i1, 4, none⟩)) rfl (oV_eq (v := .int .u64 g.k) hg.l4 (oV_eq (v := .bool (decide (g.k = 0))) (vInt_eql .u64 g.k 0) (oV_eq (v := .bool (decide (g.k = 0))) rfl (?_))))
    by_cases c : g.k = 0
    · rw [decide_eq_true (show constOk false bit p g.k from .inl c)] at hk
      rw [decide_eq_true c]
      exact hk
    · rw [decide_eq_false c]
      refine oV_eq (v := .pointer (some ⟨i10, 6, none⟩)) rfl (oV_eq (v := .bool bit) hf.l6 (oV_eq (v := .bool bit) rfl (oV_eq (v := .bool bit) rfl (?_))))
      cases bit
      · rw [decide_eq_false (show ¬ constOk false false p g.k from fun h => h.elim c (fun h => by cases h))] at hk
        exact oV_eq (v := .pointer (some ⟨i10, 3, none⟩)) rfl (oV_eq (v := .bool false) hf.l3 (oV_eq (v := .bool false) rfl (hk)))
      · rw [decide_eq_true (show constOk false true p g.k from .inr rfl)] at hk
        exact hk
  · refine oV_eq (vField_to _ _) (oV_eq hf.l3 (oV_eq (v := .bool false) rfl ?_))
    exact oV_eq (v := undef) rfl (oV_eq (v := undef) rfl (oV_eq (v := undef) rfl (oV_eq (v := undef) rfl (oV_eq (v := undef) rfl (oV_eq (v := undef) rfl (oV_eq (v := undef) rfl (oV_eq (v := .bool false) rfl (oV_eq (v := .pointer (some ⟨i10, 3, none⟩)) rfl (oV_eq (v := .bool true) hf.l3 (oV_eq (v := .bool true) rfl (oV_eq (v := .pointer (some ⟨i1, 4, none⟩)) rfl (oV_eq (v := .int .u64 g.k) hg.l4 (oV_eq (v := .int .u64 p) rfl (oV_eq (v := .bool (decide (g.k < p))) (vInt_lss .u64 g.k p) (oV_eq (v := .bool (decide (g.k < p))) rfl (oV_eq (v := .bool (decide (g.k < p))) rfl (hk)))))))))))))))))
theorem right_iff {q : Int} (hk0 : 0 ≤ g.k) (h : FormOf g fr kk a b bit) : (fromOk fr g.frm ∧ constOk kk bit p g.k ∧ sideOk a g.a q ∧ sideOk b g.b q) ↔ validGate p q g := by
  rcases h.eq with ⟨h1, rfl, rfl, rfl, rfl, h6⟩ | ⟨h1, rfl, rfl, rfl, rfl, rfl⟩ | ⟨h1, rfl, rfl, rfl, rfl, rfl⟩ | ⟨h1, rfl, rfl, rfl, rfl, rfl⟩
  · have hb : bit = true ↔ g.k = 1 := by rw [h6]; exact decide_eq_true_iff
    simp only [fromOk, constOk, sideOk, validGate, if_true, Bool.false_eq_true, if_false, hb]
    by_cases h1' : g.k = 1 <;> by_cases h0' : g.k = 0 <;> omega
  · simp only [fromOk, constOk, sideOk, validGate, if_true, Bool.false_eq_true, if_false]
    omega
  · simp only [fromOk, constOk, sideOk, validGate, if_true, Bool.false_eq_true, if_false]
    omega
  · simp only [fromOk, constOk, sideOk, validGate, if_true, Bool.false_eq_true, if_false, or_false]
    omega
theorem right_spec {H : Heap} (hG : GL H) (p : Int) (g : Gate) (q : Int) (hk0 : 0 ≤ g.k) : RCalls Tryd.prog 20 [.int .u64 p, g.val, .int .i64 q] H (Grow (.bool (decide (validGate p q g))) H) := by
  apply call20
  unfold m20
  refine gate_new g fun i1 H1 l1 hg => ?_
  show oNew [.int .i64 q] 1 3 H1 _
  intro i3 hi3
  have l3 := Le.ins (.cells [.int .i64 q] 1 3 true) hi3
  have h3 : vLoad ty3 (ptrTo i3) (hins H1 i3 (.cells [.int .i64 q] 1 3 true)) = some (.int .i64 q) := by
    simp only [vLoad, ptrTo, hins_self]
    rfl
  generalize hins H1 i3 (.cells [.int .i64 q] 1 3 true) = H2 at l3 h3 ⊢
  have hg2 := hg.mono l3
  have l2 := l1.trans l3
  refine oV_eq hg2.all (oRC_ret (of_spec (hG.mono l2) g) fun v H3 hv => ?_)
  obtain ⟨l4, hv⟩ := hv
  have form_local : ∀ (w : ByteArray) (kd : Int) (fr k a b bit : Bool) (K : Nat → Heap → Prop), (∀ i H', Le H3 H' → FAt H' i fr k a b bit → K i H') → oNew ty58.zero.cells.toList ty58.zero.cells.toList.length 58 H3 fun i H1 => oHeap (vStore ty58 (ptrTo i) (formVal w kd fr k a b bit) H1) fun H2 => K i H2 := by
    intro w kd fr k a b bit K hK
    show oNew [.string ByteArray.empty, .int .i64 0, .bool false, .bool false, .bool false, .bool false, .bool false] 7 58 H3 _
    intro i hi
    have e1 : vStore ty58 (ptrTo i) (formVal w kd fr k a b bit) (hins H3 i (.cells [.string ByteArray.empty, .int .i64 0, .bool false, .bool false, .bool false, .bool false, .bool false] 7 58 true)) = some (hins (hins H3 i (.cells [.string ByteArray.empty, .int .i64 0, .bool false, .bool false, .bool false, .bool false, .bool false] 7 58 true)) i (.cells (formCells w kd fr k a b bit) 7 58 true)) := by
      simp only [vStore, ptrTo, hins_self]
      rfl
    rw [e1, hins_hins]
    exact hK i _ (Le.ins _ hi) ⟨w, kd, hins_self _ _ _⟩
  rcases hv with ⟨w, kd, fr, k, a, b, bit, rfl, hfo⟩ | ⟨⟨w, kd, fr, k, a, b, bit, rfl⟩, hno⟩
  rotate_left
  · refine oV_eq (v := formVal w kd fr k a b bit) rfl (oV_eq (v := .bool false) rfl (form_local _ _ _ _ _ _ _ _ fun i H4 l5 hf => oV_eq rfl (condK_true ⟨?_, (l2.trans l4).trans l5⟩)))
    rw [decide_eq_false fun h => hno (by unfold validGate at h; omega)]
  refine oV_eq (v := formVal w kd fr k a b bit) rfl (oV_eq (v := .bool true) rfl (form_local _ _ _ _ _ _ _ _ fun i10 H4 l5 hf => oV_eq rfl (condK_false ?_)))
  have hg4 := (hg2.mono l4).mono l5
  have h34 : vLoad ty3 (ptrTo i3) H4 = some (.int .i64 q) := vLoad_mono (l4.trans l5) h3
  have l := (l2.trans l4).trans l5
  have hiff := right_iff (p := p) (q := q) hk0 hfo
  refine partA hf hg4 (partB hf hg4 ?_)
  by_cases cA : fromOk fr g.frm
  rotate_left
  · rw [decide_eq_false cA]
    refine gK_FT (gK_FT ?_)
    exact oV_eq (v := .bool false) rfl ⟨by rw [decide_eq_false fun h => cA (hiff.2 h).1], l⟩
  rw [decide_eq_true cA]
  by_cases cB : constOk k bit p g.k
  rotate_left
  · rw [decide_eq_false cB]
    refine gK_FT (gK_FT ?_)
    exact oV_eq (v := .bool false) rfl ⟨by rw [decide_eq_false fun h => cB (hiff.2 h).2.1], l⟩
  rw [decide_eq_true cB]
  refine oV_eq (v := .bool true) rfl (oV_eq (v := .bool true) rfl (oV_eq (v := .func (.func 28) #[] #[ptrTo i3]) rfl (oV_eq (v := .pointer (some ⟨i10, 4, none⟩)) rfl (oV_eq (v := .bool a) hf.l4 (oV_eq (v := .pointer (some ⟨i1, 2, none⟩)) rfl (oV_eq (v := .int .i64 g.a) hg4.l2 ?_))))))
  refine gK_TT (oCl_ret rfl (side_spec a g.a h34) fun v H5 hv => ?_)
  obtain ⟨rfl, rfl⟩ := hv
  by_cases cC : sideOk a g.a q
  rotate_left
  · rw [decide_eq_false cC]
    refine gK_FT ?_
    exact oV_eq (v := .bool false) rfl ⟨by rw [decide_eq_false fun h => cC (hiff.2 h).2.2.1], l⟩
  rw [decide_eq_true cC]
  refine oV_eq (v := .bool true) rfl (oV_eq (v := .func (.func 28) #[] #[ptrTo i3]) rfl (oV_eq (v := .pointer (some ⟨i10, 5, none⟩)) rfl (oV_eq (v := .bool b) hf.l5 (oV_eq (v := .pointer (some ⟨i1, 3, none⟩)) rfl (oV_eq (v := .int .i64 g.b) hg4.l3 ?_)))))
  refine gK_TT (oCl_ret rfl (side_spec b g.b h34) fun v H6 hv => ?_)
  obtain ⟨rfl, rfl⟩ := hv
  refine oV_eq (v := .bool (decide (sideOk b g.b q))) rfl ⟨?_, l⟩
  congr 1
  exact decide_eq_decide.2 ⟨fun h => hiff.1 ⟨cA, cB, cC, h⟩, fun h => (hiff.2 h).2.2.2⟩
end
/-! ### A circuit -/
section
variable {H : Heap} {jc : Nat} {p : Int} {gv ov : Value} {gs : List Gate} {os : List Int}
theorem bad_out {x : Int} (hc : CircAt H jc p gv ov gs os) : RCalls Tryd.prog 22 [.int .i64 x, ptrTo jc] H (Val (.bool (decide (x < 0 ∨ (gs.length : Int) ≤ x))) H) := by
  apply call22
  unfold m22
  refine oV_eq (vInt_lss _ _ _) ?_
  by_cases c : x < 0
  · rw [decide_eq_true c, decide_eq_true (show x < 0 ∨ (gs.length : Int) ≤ x from .inl c)]
    exact ⟨rfl, rfl⟩
  · rw [decide_eq_false c]
    refine oV_eq (v := .int .i64 x) rfl (oV_eq (v := .pointer (some ⟨jc, 1, none⟩)) rfl (oV_eq (v := gv) hc.lg (oV_eq (v := .int .i64 gs.length) hc.gates.len (oV_eq (v := .bool (decide ((gs.length : Int) ≤ x))) (vInt_geq .i64 x (gs.length : Int)) (oV_eq (v := .bool (decide ((gs.length : Int) ≤ x))) rfl ⟨?_, rfl⟩)))))
    congr 1
    exact decide_eq_decide.2 ⟨fun h => .inr h, fun h => h.resolve_left c⟩
theorem bads_loop (hc : CircAt H jc p gv ov gs os) {kn : Heap → Prop} {Q : Ending → Heap → Prop} (hk : (∀ o ∈ os, 0 ≤ o ∧ o < gs.length) → kn H) (hq : ∀ j : Nat, ¬ (∀ o ∈ os, 0 ≤ o ∧ o < gs.length) → Q (.returned (.int .i64 j)) H) :
    ∀ (d i : Nat), os.length - i = d → i ≤ os.length → (∀ o ∈ os.take i, 0 ≤ o ∧ o < gs.length) → L29_3 ov (.func (.func 22) #[] #[ptrTo jc]) (.int .i64 os.length) (.int .i64 i) H kn Q := by
  have hm := hc.outs.max
  intro d
  induction d with
  | zero =>
    intro i hd hi ha
    apply L29_3_round
    unfold m29_4
    refine oV_eq (vInt_lss _ _ _) (condK_dec (fun hlt => absurd hlt (by omega)) (fun _ => hk ?_))
    rwa [List.take_of_length_le (by omega)] at ha
  | succ d ih =>
    intro i hd hi ha
    apply L29_3_round
    unfold m29_4
    refine oV_eq (vInt_lss _ _ _) (condK_dec (fun hlt => ?_) (fun hlt => absurd (by omega) hlt))
    have hil : i < os.length := by omega
    obtain ⟨q, f1, f2⟩ := hc.outs.int .i64 (i := (i : Int)) (by omega) (by omega) (ti := ty3) rfl
    have e : os.getD (i : Int).toNat 0 = os[i] := by simp [hil]
    rw [e] at f2
    refine oV_eq f1 (oV_eq f2 (oCl_ret rfl (bad_out (x := os[i]) hc) fun v K hv => ?_))
    obtain ⟨rfl, rfl⟩ := hv
    refine condK_dec (fun hb => hq i fun h => ?_) (fun hb => oV_eq (vInt_add _ _ _) ?_)
    · have := h _ (List.getElem_mem hil)
      omega
    · rw [wrap_i64 (by omega) (by omega)]
      refine ih (i + 1) (by omega) (by omega) fun o ho => ?_
      rw [List.take_succ_eq_append_getElem hil] at ho
      rcases List.mem_append.1 ho with ho | ho
      · exact ha o ho
      · rw [List.mem_singleton.1 ho]
        omega
theorem bads_spec (hc : CircAt H jc p gv ov gs os) : RCalls Tryd.prog 21 [ov, .func (.func 22) #[] #[ptrTo jc]] H (Ret fun v H' => H' = H ∧ ∃ b : Bool, v = .bool b ∧ (b = false ↔ ∀ o ∈ os, 0 ≤ o ∧ o < gs.length)) := by
  apply call21
  unfold m21
  refine oRC_ret (R := fun r H' => H' = H ∧ ∃ n : Int, r = .int .i64 n ∧ (n < 0 ↔ ∀ o ∈ os, 0 ≤ o ∧ o < gs.length)) (call29 _ _ _ _ ?_) fun r H' hr => ?_
  · unfold m29 m29_2
    refine oV_eq hc.outs.len (bads_loop hc (fun ha => ?_) (fun j hn => ⟨rfl, j, rfl, fun h => absurd h (by omega), fun h => absurd h hn⟩) _ 0 rfl (by omega) (by simp))
    unfold m29_1
    exact ⟨rfl, -1, rfl, fun _ => ha, fun _ => by omega⟩
  · obtain ⟨rfl, n, rfl, hn⟩ := hr
    refine oV_eq (vInt_geq _ _ _) ⟨rfl, _, rfl, ?_⟩
    rw [decide_eq_false_iff_not, ← hn]
    omega
theorem cvalid_loop {G0 : Heap} (hG : GL G0) (hc : CircAt G0 jc p gv ov gs os) (hwf : wfG gs) {kn : Value → Heap → Prop} {Q : Ending → Heap → Prop} (hk : ∀ H, Le G0 H → validGates p gs → kn (ptrTo jc) H) (hq : ∀ H, Le G0 H → ¬ validGates p gs → Q (.returned (.bool false)) H) :
    ∀ (d i : Nat) (H : Heap), gs.length - i = d → i ≤ gs.length → Le G0 H → (∀ (j : Nat) (h : j < gs.length), j < i → validGate p j gs[j]) → L11_3 (ptrTo jc) gv (.int .i64 gs.length) (.int .i64 i) H kn Q := by
  have hm := hc.gates.max
  intro d
  induction d with
  | zero =>
    intro i H hd hi hl ha
    apply L11_3_round
    unfold m11_4
    exact oV_eq (vInt_lss _ _ _) (condK_dec (fun hlt => absurd hlt (by omega)) (fun _ => hk H hl fun j hj => ha j hj (by omega)))
  | succ d ih =>
    intro i H hd hi hl ha
    apply L11_3_round
    unfold m11_4
    refine oV_eq (vInt_lss _ _ _) (condK_dec (fun hlt => ?_) (fun hlt => absurd (by omega) hlt))
    have hil : i < gs.length := by omega
    obtain ⟨q, off, g1, g2, _, _⟩ := (hc.mono hl).gates.gate hil
    refine oV_eq g1 (oV_eq g2 (local_gate gs[i] fun x hx => ?_))
    have hga : GateAt (hins H x (.cells gs[i].cells 5 37 true)) x gs[i] := ⟨hins_self _ _ _⟩
    have hle := Le.ins (.cells gs[i].cells 5 37 true) hx
    generalize hins H x (.cells gs[i].cells 5 37 true) = H1 at hga hle ⊢
    have hl1 := hl.trans hle
    refine oV_eq (vField_to _ _) (oV_eq (hc.mono hl1).lp (oV_eq hga.all (oRC_grow (right_spec (hG.mono hl1) p gs[i] i (hwf _ (List.getElem_mem hil))) fun H2 l2 => ?_)))
    by_cases c : validGate p i gs[i]
    · rw [decide_eq_true c]
      refine oV_eq rfl (condK_false (oV_eq (vInt_add _ _ _) ?_))
      rw [wrap_i64 (by omega) (by omega)]
      refine ih (i + 1) H2 (by omega) (by omega) (hl1.trans l2) fun j hj hji => ?_
      by_cases e : j = i
      · subst e
        exact c
      · exact ha j hj (by omega)
    · rw [decide_eq_false c]
      exact oV_eq rfl (condK_true (hq H2 (hl1.trans l2) fun h => c (h i hil)))
theorem cvalid_spec {c : Value} (hG : GL H) (h : Circ H c p gs os) (hwf : wfG gs) : RCalls Tryd.prog 11 [c] H (Ret fun v H' => ∃ b : Bool, v = .bool b ∧ (b = true ↔ validC p gs os) ∧ Le H H') := by
  apply call11
  unfold m11
  refine circ_new h fun i H1 gv ov hl hc => ?_
  refine oV_eq (vField_to _ _) (oV_eq hc.lp (oRC_val (fsupported_spec (hG.mono hl) p) ?_))
  by_cases hp : Supp p
  case neg =>
    rw [decide_eq_false hp]
    exact condK_true ⟨false, rfl, ⟨fun h => (by cases h), fun h => absurd h.1 hp⟩, hl⟩
  rw [decide_eq_true hp]
  refine oV_eq (v := .bool false) rfl (oV_eq (v := .pointer (some ⟨i, 1, none⟩)) rfl (oV_eq (v := gv) hc.lg (oV_eq (v := .int .i64 gs.length) hc.gates.len (oV_eq (v := .bool (decide (20000 < (gs.length : Int)))) (vInt_gtr .i64 (gs.length : Int) 20000) (oV_eq (v := .bool (decide (20000 < (gs.length : Int)))) rfl ?_)))))
  by_cases c1 : 20000 < (gs.length : Int)
  case pos =>
    rw [decide_eq_true c1]
    exact condK_true ⟨false, rfl, ⟨fun h => (by cases h), fun h => absurd h.2.1 (by omega)⟩, hl⟩
  rw [decide_eq_false c1]
  refine oV_eq (v := .pointer (some ⟨i, 2, none⟩)) rfl (oV_eq (v := ov) hc.lo (oV_eq (v := .int .i64 os.length) hc.outs.len (oV_eq (v := .bool (decide (1000 < (os.length : Int)))) (vInt_gtr .i64 (os.length : Int) 1000) (oV_eq (v := .bool (decide (1000 < (os.length : Int)))) rfl ?_))))
  by_cases c2 : 1000 < (os.length : Int)
  case pos =>
    rw [decide_eq_true c2]
    exact condK_true ⟨false, rfl, ⟨fun h => (by cases h), fun h => absurd h.2.2.1 (by omega)⟩, hl⟩
  rw [decide_eq_false c2]
  refine condK_false ?_
  unfold m11_2
  refine oV_eq (vField_to _ _) (oV_eq hc.lg (oV_eq hc.gates.len ?_))
  refine cvalid_loop (hG.mono hl) hc hwf (fun H2 l2 hv => ?_) (fun H2 l2 hn => ⟨false, rfl, ⟨fun h => (by cases h), fun h => absurd h.2.2.2.1 hn⟩, hl.trans l2⟩) _ 0 H1 rfl (by omega) (Le.refl _) (fun j _ hj => absurd hj (by omega))
  unfold m11_1
  refine oV_eq (vField_to _ _) (oV_eq (hc.mono l2).lo (oRC_ret (bads_spec (hc.mono l2)) fun r H3 hr => ?_))
  obtain ⟨rfl, b, rfl, hb⟩ := hr
  refine oV_eq (v := .bool (!b)) rfl ⟨!b, rfl, ⟨fun h => ?_, fun h => ?_⟩, hl.trans l2⟩
  · exact ⟨hp, by omega, by omega, hv, hb.1 (by simpa using h)⟩
  · rw [hb.2 h.2.2.2.2]
    rfl
end
end Go.Proofs.YtpbaoefjkfdgmaaDoor.SL
