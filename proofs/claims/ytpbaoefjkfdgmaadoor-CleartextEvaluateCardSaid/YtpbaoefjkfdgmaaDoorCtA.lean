/- What the package's variables hold; the supported primes; the form of a gate. -/
import Derived.Test.YtpbaoefjkfdgmaaDoorCirL
set_option linter.unusedVariables false
set_option linter.unusedSimpArgs false
namespace Go.Proofs.YtpbaoefjkfdgmaaDoor.SL
open Go

/-- One form: its kind, whether it has a party, a constant, two sides, whether it is a bit. -/
def formCells (w : ByteArray) (kd : Int) (fr k a b bit : Bool) : List Value := [.string w, .int .i64 kd, .bool fr, .bool k, .bool a, .bool b, .bool bit]
def formVal (w : ByteArray) (kd : Int) (fr k a b bit : Bool) : Value := .agg #[.string w, .int .i64 kd, .bool fr, .bool k, .bool a, .bool b, .bool bit]
def formsCells (w0 w1 w2 w3 w4 w5 w6 : ByteArray) : List Value := formCells w0 1 true false false false false ++ formCells w1 1 true false false false true ++ formCells w2 2 false true false false false ++ formCells w3 3 false false true true false ++
  formCells w4 4 false false true true false ++ formCells w5 5 false true true false false ++ formCells w6 6 false false true true false
def fnV (f : FuncId) : Value := .func (.func f) #[] #[]
/-- What is laid in the package's variables. -/
structure GL (H : Heap) : Prop where
  g0 : ∃ n e w, H 0 = some (.cells [.nilFunc, fnV 48, fnV 49, fnV 50, fnV 52, fnV 54, fnV 56] n e w)
  g1 : ∃ n e w, H 1 = some (.cells [.int .i64 5, .int .i64 7, .int .i64 13, .int .i64 17, .int .i64 19, .int .i64 31, .int .i64 61] n e w)
  g2 : ∃ n e w w0 w1 w2 w3 w4 w5 w6, H 2 = some (.cells (formsCells w0 w1 w2 w3 w4 w5 w6) n e w)
theorem GL.mono {H G : Heap} (h : GL H) (hl : Le H G) : GL G := by
  obtain ⟨⟨n, e, w, h0⟩, ⟨n1, e1, w1, h1⟩, ⟨n2, e2, w2, a0, a1, a2, a3, a4, a5, a6, h2⟩⟩ := h
  exact ⟨⟨n, e, w, hl _ _ h0⟩, ⟨n1, e1, w1, hl _ _ h1⟩, ⟨n2, e2, w2, a0, a1, a2, a3, a4, a5, a6, hl _ _ h2⟩⟩
/-! ### Supported -/
theorem fexponent_spec {H : Heap} (hg : GL H) (p : Int) : RCalls Tryd.prog 26 [.int .u64 p] H (Val (.int .i64 (expo p)) H) := by
  apply call26
  unfold m26 m26_2
  obtain ⟨n, e, w, h1⟩ := hg.g1
  have ld : vLoad ty63 (.pointer (some ⟨1, 0, none⟩)) H = some (.agg #[.int .i64 5, .int .i64 7, .int .i64 13, .int .i64 17, .int .i64 19, .int .i64 31, .int .i64 61]) := by
    simp only [vLoad, h1]
    rfl
  refine oV_eq ld ?_
  apply L26_3_round
  unfold m26_4
  refine oV_eq (v := .bool true) rfl (condK_true (oV_eq (v := .int .i64 5) rfl (oV_eq (v := .int .u64 32) rfl (oV_eq (v := .int .u64 31) rfl (oV_eq (vInt_eql _ _ _) (condK_dec (fun h => ⟨by rw [h]; rfl, rfl⟩) (fun c0 => oV_eq (v := .int .i64 1) rfl ?_)))))))
  apply L26_3_round
  unfold m26_4
  refine oV_eq (v := .bool true) rfl (condK_true (oV_eq (v := .int .i64 7) rfl (oV_eq (v := .int .u64 128) rfl (oV_eq (v := .int .u64 127) rfl (oV_eq (vInt_eql _ _ _) (condK_dec (fun h => ⟨by rw [h]; rfl, rfl⟩) (fun c1 => oV_eq (v := .int .i64 2) rfl ?_)))))))
  apply L26_3_round
  unfold m26_4
  refine oV_eq (v := .bool true) rfl (condK_true (oV_eq (v := .int .i64 13) rfl (oV_eq (v := .int .u64 8192) rfl (oV_eq (v := .int .u64 8191) rfl (oV_eq (vInt_eql _ _ _) (condK_dec (fun h => ⟨by rw [h]; rfl, rfl⟩) (fun c2 => oV_eq (v := .int .i64 3) rfl ?_)))))))
  apply L26_3_round
  unfold m26_4
  refine oV_eq (v := .bool true) rfl (condK_true (oV_eq (v := .int .i64 17) rfl (oV_eq (v := .int .u64 131072) rfl (oV_eq (v := .int .u64 131071) rfl (oV_eq (vInt_eql _ _ _) (condK_dec (fun h => ⟨by rw [h]; rfl, rfl⟩) (fun c3 => oV_eq (v := .int .i64 4) rfl ?_)))))))
  apply L26_3_round
  unfold m26_4
  refine oV_eq (v := .bool true) rfl (condK_true (oV_eq (v := .int .i64 19) rfl (oV_eq (v := .int .u64 524288) rfl (oV_eq (v := .int .u64 524287) rfl (oV_eq (vInt_eql _ _ _) (condK_dec (fun h => ⟨by rw [h]; rfl, rfl⟩) (fun c4 => oV_eq (v := .int .i64 5) rfl ?_)))))))
  apply L26_3_round
  unfold m26_4
  refine oV_eq (v := .bool true) rfl (condK_true (oV_eq (v := .int .i64 31) rfl (oV_eq (v := .int .u64 2147483648) rfl (oV_eq (v := .int .u64 2147483647) rfl (oV_eq (vInt_eql _ _ _) (condK_dec (fun h => ⟨by rw [h]; rfl, rfl⟩) (fun c5 => oV_eq (v := .int .i64 6) rfl ?_)))))))
  apply L26_3_round
  unfold m26_4
  refine oV_eq (v := .bool true) rfl (condK_true (oV_eq (v := .int .i64 61) rfl (oV_eq (v := .int .u64 2305843009213693952) rfl (oV_eq (v := .int .u64 2305843009213693951) rfl (oV_eq (vInt_eql _ _ _) (condK_dec (fun h => ⟨by rw [h]; rfl, rfl⟩) (fun c6 => oV_eq (v := .int .i64 7) rfl ?_)))))))
  apply L26_3_round
  unfold m26_4
  refine oV_eq (v := .bool false) rfl (condK_false ?_)
  unfold m26_1
  exact ⟨by simp [expo, *], rfl⟩
theorem fsupported_spec {H : Heap} (hg : GL H) (p : Int) : RCalls Tryd.prog 19 [.int .u64 p] H (Val (.bool (decide (Supp p))) H) := by
  apply call19
  unfold m19
  refine oRC_val (fexponent_spec hg p) (oV_eq (vInt_neq _ _ _) ⟨?_, rfl⟩)
  congr 1
  refine decide_eq_decide.2 ((?_ : expo p ≠ 0 ↔ 0 < expo p).trans (expo_pos p))
  have : 0 ≤ expo p := by unfold expo; repeat' split <;> omega
  omega
/-! ### The form of a gate -/
theorem gate_new {H : Heap} {k : Nat → Heap → Prop} (g : Gate) (hk : ∀ i H', Le H H' → GateAt H' i g → k i H') : oNew g.val.cells.toList g.val.cells.toList.length 37 H k := by
  show oNew g.cells 5 37 H _
  intro i hi
  exact hk i _ (Le.ins _ hi) ⟨hins_self _ _ _⟩
theorem GateAt.all {H : Heap} {i : Nat} {g : Gate} (h : GateAt H i g) : vLoad ty37 (ptrTo i) H = some g.val := by simp only [vLoad, ptrTo, h.blk]; rfl
theorem of_round {H : Heap} {x2 x6 : Value} {i1 : Nat} {g : Gate} {j : Nat} {w : ByteArray} {kd : Int} {fr k a b bit : Bool} {kn : Value → Heap → Prop} {Q : Ending → Heap → Prop} (hg : GateAt H i1 g) (hj : j < 7) (hx : vIndexA true 7 7 x6 (.int .i64 j) = some (formVal w kd fr k a b bit))
    (hq : kd = g.kind → bit = (decide (g.kind = 1) && decide (g.k = 1)) → ∀ i H', Le H H' → H i = none → vLoad ty58 (ptrTo i) H' = some (formVal w kd fr k a b bit) → oHeap (vStore ty58 x2 (formVal w kd fr k a b bit) H') fun H_26 => retM ((vLoad ty58 x2 H_26).bind fun v => ((some []).map ((.bool true) :: ·)).map (v :: ·)) Q H_26)
    (hn : ¬ (kd = g.kind ∧ bit = (decide (g.kind = 1) && decide (g.k = 1))) → ∀ H', Le H H' → L27_3 (ptrTo i1) x2 x6 (.int .i64 ((j : Int) + 1)) H' kn Q) :
    L27_3 (ptrTo i1) x2 x6 (.int .i64 j) H kn Q := by
  apply L27_3_round
  unfold m27_4
  have w1 := wrap_i64 (show -9223372036854775808 ≤ (j : Int) + 1 by omega) (by omega)
  refine oV_eq (vInt_lss _ _ _) (condK_dec (fun _ => ?_) (fun h => absurd (by omega) h))
  refine oV_eq hx ?_
  show oNew [.string ByteArray.empty, .int .i64 0, .bool false, .bool false, .bool false, .bool false, .bool false] 7 58 H _
  intro i hi
  have e1 : vStore ty58 (ptrTo i) (formVal w kd fr k a b bit) (hins H i (.cells [.string ByteArray.empty, .int .i64 0, .bool false, .bool false, .bool false, .bool false, .bool false] 7 58 true)) = some (hins (hins H i (.cells [.string ByteArray.empty, .int .i64 0, .bool false, .bool false, .bool false, .bool false, .bool false] 7 58 true)) i (.cells (formCells w kd fr k a b bit) 7 58 true)) := by
    simp only [vStore, ptrTo, hins_self]
    rfl
  rw [hins_hins] at e1
  refine oHeap_eq e1 ?_
  have hl := Le.ins (.cells (formCells w kd fr k a b bit) 7 58 true) hi
  have hb : (hins H i (.cells (formCells w kd fr k a b bit) 7 58 true)) i = some (.cells (formCells w kd fr k a b bit) 7 58 true) := hins_self _ _ _
  generalize hins H i (.cells (formCells w kd fr k a b bit) 7 58 true) = H1 at hl hb
  have f1 : vLoad ty3 (.pointer (some ⟨i, 1, none⟩)) H1 = some (.int .i64 kd) := by simp only [vLoad, hb]; rfl
  have f6 : vLoad ty4 (.pointer (some ⟨i, 6, none⟩)) H1 = some (.bool bit) := by simp only [vLoad, hb]; rfl
  have fa : vLoad ty58 (ptrTo i) H1 = some (formVal w kd fr k a b bit) := by simp only [vLoad, ptrTo, hb]; rfl
  have hg1 := hg.mono hl
  have yes : (kd = g.kind ∧ bit = (decide (g.kind = 1) && decide (g.k = 1))) → oV (vLoad ty58 (ptrTo i) H1) fun t28 => oHeap (vStore ty58 x2 t28 H1) fun H_26 => retM ((vLoad ty58 x2 H_26).bind fun v => ((some []).map ((.bool true) :: ·)).map (v :: ·)) Q H_26 := fun h => oV_eq fa (hq h.1 h.2 i H1 hl hi fa)
  have no : ¬ (kd = g.kind ∧ bit = (decide (g.kind = 1) && decide (g.k = 1))) → oV (vInt .add (.int .i64 j) (.int .i64 1)) fun t29 => L27_3 (ptrTo i1) x2 x6 t29 H1 kn Q := fun h => by
    refine oV_eq (vInt_add _ _ _) ?_
    rw [w1]
    exact hn h H1 hl
  refine oV_eq (vField_to _ _) (oV_eq f1 (oV_eq (vField_to _ _) (oV_eq hg1.l0 (oV_eq (vInt_eql _ _ _) ?_))))
  by_cases c1 : kd = g.kind
  rotate_left
  · rw [decide_eq_false c1]
    exact condK_false (no fun h => c1 h.1)
  rw [decide_eq_true c1]
  refine oV_eq (v := .pointer (some ⟨i, 6, none⟩)) rfl (oV_eq (v := .bool bit) f6 (oV_eq (v := .pointer (some ⟨i1, 0, none⟩)) rfl (oV_eq (v := .int .i64 g.kind) hg1.l0 (oV_eq (v := .bool (decide (g.kind = 1))) (vInt_eql .i64 g.kind 1) (oV_eq (v := .bool (decide (g.kind = 1))) rfl ?_)))))
  by_cases c2 : g.kind = 1
  · rw [decide_eq_true c2]
    refine oV_eq (v := .pointer (some ⟨i1, 4, none⟩)) rfl (oV_eq (v := .int .u64 g.k) hg1.l4 (oV_eq (v := .bool (decide (g.k = 1))) (vInt_eql .u64 g.k 1) (oV_eq (v := .bool (decide (g.k = 1))) rfl ?_)))
    rw [decide_eq_true c2, Bool.true_and] at yes no
    cases bit <;> by_cases c3 : g.k = 1
    · rw [decide_eq_true c3] at yes no ⊢
      exact condK_false (no (by simp [c1]))
    · rw [decide_eq_false c3] at yes no ⊢
      exact condK_true (yes ⟨c1, rfl⟩)
    · rw [decide_eq_true c3] at yes no ⊢
      exact condK_true (yes ⟨c1, rfl⟩)
    · rw [decide_eq_false c3] at yes no ⊢
      exact condK_false (no (by simp [c1]))
  · rw [decide_eq_false c2]
    rw [decide_eq_false c2, Bool.false_and] at yes no
    cases bit
    · exact condK_true (yes ⟨c1, rfl⟩)
    · exact condK_false (no (by simp))
/-- Which form a gate has. -/
structure FormOf (g : Gate) (fr k a b bit : Bool) : Prop where
  eq : (g.kind = 1 ∧ fr = true ∧ k = false ∧ a = false ∧ b = false ∧ bit = decide (g.k = 1)) ∨ (g.kind = 2 ∧ fr = false ∧ k = true ∧ a = false ∧ b = false ∧ bit = false) ∨ (g.kind = 5 ∧ fr = false ∧ k = true ∧ a = true ∧ b = false ∧ bit = false) ∨
    ((g.kind = 3 ∨ g.kind = 4 ∨ g.kind = 6) ∧ fr = false ∧ k = false ∧ a = true ∧ b = true ∧ bit = false)
def noForm (g : Gate) : Prop := ¬ (g.kind = 1 ∨ g.kind = 2 ∨ g.kind = 3 ∨ g.kind = 4 ∨ g.kind = 5 ∨ g.kind = 6)
theorem of_spec {H : Heap} (hG : GL H) (g : Gate) : RCalls Tryd.prog 27 [g.val] H (Ret fun v H' => Le H H' ∧ ((∃ w kd fr k a b bit, v = .tuple #[formVal w kd fr k a b bit, .bool true] ∧ FormOf g fr k a b bit) ∨ (∃ w kd fr k a b bit, v = .tuple #[formVal w kd fr k a b bit, .bool false]) ∧ noForm g)) := by
  apply call27
  unfold m27
  refine gate_new g fun i1 H1 l1 hg => ?_
  show oNew [.string ByteArray.empty, .int .i64 0, .bool false, .bool false, .bool false, .bool false, .bool false] 7 58 H1 _
  intro i2 hi2
  have hb2 : (hins H1 i2 (.cells [.string ByteArray.empty, .int .i64 0, .bool false, .bool false, .bool false, .bool false, .bool false] 7 58 true)) i2 = some (.cells [.string ByteArray.empty, .int .i64 0, .bool false, .bool false, .bool false, .bool false, .bool false] 7 58 true) := hins_self _ _ _
  have l2 := Le.ins (.cells [.string ByteArray.empty, .int .i64 0, .bool false, .bool false, .bool false, .bool false, .bool false] 7 58 true) hi2
  have h2H : H i2 = none := none_le l1 hi2
  have hg2 := hg.mono l2
  have hG2 := hG.mono (l1.trans l2)
  have l12 := l1.trans l2
  generalize hins H1 i2 (.cells [.string ByteArray.empty, .int .i64 0, .bool false, .bool false, .bool false, .bool false, .bool false] 7 58 true) = H2 at hb2 l2 hg2 hG2 l12
  unfold m27_2
  obtain ⟨n, e, w, w0, w1, w2, w3, w4, w5, w6, hf⟩ := hG2.g2
  have ld : vLoad ty64 (.pointer (some ⟨2, 0, none⟩)) H2 = some (.agg (formsCells w0 w1 w2 w3 w4 w5 w6).toArray) := by
    simp only [vLoad, hf]
    rfl
  refine oV_eq ld ?_
  have fin : ∀ (w : ByteArray) (kd : Int) (fr k a b bit : Bool) (i : Nat) (K : Heap), Le H2 K → FormOf g fr k a b bit → oHeap (vStore ty58 (ptrTo i2) (formVal w kd fr k a b bit) K) fun H_26 => retM ((vLoad ty58 (ptrTo i2) H_26).bind fun v => ((some []).map ((.bool true) :: ·)).map (v :: ·)) (Ret fun v H' => Le H H' ∧ ((∃ w kd fr k a b bit, v = .tuple #[formVal w kd fr k a b bit, .bool true] ∧ FormOf g fr k a b bit) ∨ (∃ w kd fr k a b bit, v = .tuple #[formVal w kd fr k a b bit, .bool false]) ∧ noForm g)) H_26 := by
    intro w kd fr k a b bit i K hl hfo
    have hbK := hl _ _ hb2
    have st : vStore ty58 (ptrTo i2) (formVal w kd fr k a b bit) K = some (hins K i2 (.cells (formCells w kd fr k a b bit) 7 58 true)) := by
      simp only [vStore, ptrTo, hbK]
      rfl
    refine oHeap_eq st ?_
    have ld2 : vLoad ty58 (ptrTo i2) (hins K i2 (.cells (formCells w kd fr k a b bit) 7 58 true)) = some (formVal w kd fr k a b bit) := by
      simp only [vLoad, ptrTo, hins_self]
      rfl
    rw [ld2]
    refine ⟨fun q c hq => ?_, .inl ⟨w, kd, fr, k, a, b, bit, rfl, hfo⟩⟩
    rw [hins_other _ _ (fun e => by subst e; rw [h2H] at hq; cases hq)]
    exact hl _ _ (l12 _ _ hq)
  refine of_round (j := 0) (w := w0) (kd := 1) (fr := true) (k := false) (a := false) (b := false) (bit := false) (hg2.mono (Le.refl _)) (by decide) rfl (fun h1 h2 i K hK _ _ => fin _ _ _ _ _ _ _ i K ((Le.refl H2).trans hK) ⟨.inl ⟨h1.symm, rfl, rfl, rfl, rfl, by rw [h2, ← h1]; rfl⟩⟩) (fun n0 K0 hK => ?_)
  have k0 := (Le.refl H2).trans hK
  refine of_round (j := 1) (w := w1) (kd := 1) (fr := true) (k := false) (a := false) (b := false) (bit := true) (hg2.mono (k0)) (by decide) rfl (fun h1 h2 i K hK _ _ => fin _ _ _ _ _ _ _ i K ((k0).trans hK) ⟨.inl ⟨h1.symm, rfl, rfl, rfl, rfl, by rw [h2, ← h1]; rfl⟩⟩) (fun n1 K1 hK => ?_)
  have k1 := (k0).trans hK
  refine of_round (j := 2) (w := w2) (kd := 2) (fr := false) (k := true) (a := false) (b := false) (bit := false) (hg2.mono (k1)) (by decide) rfl (fun h1 h2 i K hK _ _ => fin _ _ _ _ _ _ _ i K ((k1).trans hK) ⟨.inr (.inl ⟨h1.symm, rfl, rfl, rfl, rfl, rfl⟩)⟩) (fun n2 K2 hK => ?_)
  have k2 := (k1).trans hK
  refine of_round (j := 3) (w := w3) (kd := 3) (fr := false) (k := false) (a := true) (b := true) (bit := false) (hg2.mono (k2)) (by decide) rfl (fun h1 h2 i K hK _ _ => fin _ _ _ _ _ _ _ i K ((k2).trans hK) ⟨.inr (.inr (.inr ⟨.inl h1.symm, rfl, rfl, rfl, rfl, rfl⟩))⟩) (fun n3 K3 hK => ?_)
  have k3 := (k2).trans hK
  refine of_round (j := 4) (w := w4) (kd := 4) (fr := false) (k := false) (a := true) (b := true) (bit := false) (hg2.mono (k3)) (by decide) rfl (fun h1 h2 i K hK _ _ => fin _ _ _ _ _ _ _ i K ((k3).trans hK) ⟨.inr (.inr (.inr ⟨.inr (.inl h1.symm), rfl, rfl, rfl, rfl, rfl⟩))⟩) (fun n4 K4 hK => ?_)
  have k4 := (k3).trans hK
  refine of_round (j := 5) (w := w5) (kd := 5) (fr := false) (k := true) (a := true) (b := false) (bit := false) (hg2.mono (k4)) (by decide) rfl (fun h1 h2 i K hK _ _ => fin _ _ _ _ _ _ _ i K ((k4).trans hK) ⟨.inr (.inr (.inl ⟨h1.symm, rfl, rfl, rfl, rfl, rfl⟩))⟩) (fun n5 K5 hK => ?_)
  have k5 := (k4).trans hK
  refine of_round (j := 6) (w := w6) (kd := 6) (fr := false) (k := false) (a := true) (b := true) (bit := false) (hg2.mono (k5)) (by decide) rfl (fun h1 h2 i K hK _ _ => fin _ _ _ _ _ _ _ i K ((k5).trans hK) ⟨.inr (.inr (.inr ⟨.inr (.inr h1.symm), rfl, rfl, rfl, rfl, rfl⟩))⟩) (fun n6 K6 hK => ?_)
  have k6 := (k5).trans hK
  apply L27_3_round
  unfold m27_4
  refine oV_eq (v := .bool false) rfl (condK_false ?_)
  unfold m27_1
  refine oV_eq (v := formVal ByteArray.empty 0 false false false false false) rfl ?_
  have hbK := k6 _ _ hb2
  have st : vStore ty58 (ptrTo i2) (formVal ByteArray.empty 0 false false false false false) K6 = some (hins K6 i2 (.cells (formCells ByteArray.empty 0 false false false false false) 7 58 true)) := by
    simp only [vStore, ptrTo, hbK]
    rfl
  refine oHeap_eq st ?_
  have ld2 : vLoad ty58 (ptrTo i2) (hins K6 i2 (.cells (formCells ByteArray.empty 0 false false false false false) 7 58 true)) = some (formVal ByteArray.empty 0 false false false false false) := by
    simp only [vLoad, ptrTo, hins_self]
    rfl
  rw [ld2]
  refine ⟨fun q c hq => ?_, .inr ⟨⟨_, _, _, _, _, _, _, rfl⟩, ?_⟩⟩
  · rw [hins_other _ _ (fun e => by subst e; rw [h2H] at hq; cases hq)]
    exact k6 _ _ (l12 _ _ hq)
  · intro hk
    by_cases hk1 : g.k = 1 <;> simp [hk1] at n0 n1 n2 n3 n4 n5 n6 <;> omega
end Go.Proofs.YtpbaoefjkfdgmaaDoor.SL
