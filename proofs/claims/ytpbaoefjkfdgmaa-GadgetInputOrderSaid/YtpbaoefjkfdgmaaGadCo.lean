/- What the gadgets cost. -/
import Derived.Test.YtpbaoefjkfdgmaaGadY
set_option linter.unusedVariables false
set_option linter.unusedSimpArgs false
namespace Go.Proofs.Ytpbaoefjkfdgmaa.SL
open Go

theorem mulCount_put (g : Gate) (gs : List Gate) : mulCount (put g gs).2 = mulCount gs + if g.kind = 6 then 1 else 0 := by
  simp only [put, mulCount, List.countP_append, List.countP_singleton]
  congr 1
  simp
section
variable (gs : List Gate) (x y z k : Int)
@[simp] theorem pConst_mul : mulCount (pConst k gs).2 = mulCount gs := by simp [pConst, mulCount_put]
@[simp] theorem pAdd_mul : mulCount (pAdd x y gs).2 = mulCount gs := by simp [pAdd, mulCount_put]
@[simp] theorem pSub_mul : mulCount (pSub x y gs).2 = mulCount gs := by simp [pSub, mulCount_put]
@[simp] theorem pScale_mul : mulCount (pScale k x gs).2 = mulCount gs := by simp [pScale, mulCount_put]
@[simp] theorem pMul_mul : mulCount (pMul x y gs).2 = mulCount gs + 1 := by simp [pMul, mulCount_put]
@[simp] theorem pNot_mul : mulCount (pNot x gs).2 = mulCount gs := by simp [pNot]
@[simp] theorem pWithout_mul : mulCount (pWithout x y z gs).2 = mulCount gs := by simp [pWithout]
@[simp] theorem pXor_mul : mulCount (pXor x y gs).2 = mulCount gs + 1 := by simp [pXor]
@[simp] theorem pSelect_mul : mulCount (pSelect x y z gs).2 = mulCount gs + 1 := by simp [pSelect]
@[simp] theorem oAdder_mul : mulCount (oAdder x y z gs).2 = mulCount gs + 2 := by simp [oAdder]
@[simp] theorem oTaker_mul : mulCount (oTaker x y z gs).2 = mulCount gs + 2 := by simp [oTaker]
@[simp] theorem oLess_mul : mulCount (oLess x y z gs).2 = mulCount gs + 2 := by simp [oLess]
@[simp] theorem oLike_mul : mulCount (oLike x y z gs).2 = mulCount gs + 2 := by simp [oLike]
end
theorem pBit_mul (x : List Int) (i : Nat) (nought : Int) (gs : List Gate) : mulCount (pBit x i nought gs).2.2 = mulCount gs := by
  unfold pBit
  split
  · rfl
  · split
    · exact pConst_mul gs 0
    · rfl
theorem pPairs_mul {one : One} {n : Nat} (h1 : ∀ x y s gs, mulCount (one x y s gs).2 = mulCount gs + n) (x y : List Int) : ∀ (d i : Nat) (nought left : Int) (out : List Int) (gs : List Gate),
    mulCount (pPairs one x y d i nought left out gs).2 = mulCount gs + d * n := by
  intro d
  induction d with
  | zero =>
    intro i nought left out gs
    simp [pPairs]
  | succ d ih =>
    intro i nought left out gs
    simp only [pPairs]
    rw [ih, h1, pBit_mul, pBit_mul, Nat.succ_mul]
    omega
theorem pPairsAll_mul {one : One} {n : Nat} (h1 : ∀ x y s gs, mulCount (one x y s gs).2 = mulCount gs + n) (x y : List Int) (left : Int) (gs : List Gate) : mulCount (pPairsAll one x y left gs).2 = mulCount gs + max x.length y.length * n := pPairs_mul h1 x y _ _ _ _ _ _
section
variable (x y : List Int) (gs : List Gate)
theorem pLess_len : (pLess x y gs).2.length ≤ gs.length + max x.length y.length * 7 + 2 := by
  obtain ⟨a, b⟩ := pPairsAll_len (one := oLess) (n := 7) (by simp) x y (pConst 0 gs).1 (pConst 0 gs).2
  rw [pConst_len] at b
  simp only [pLess]
  omega
theorem pEqual_len : (pEqual x y gs).2.length ≤ gs.length + max x.length y.length * 7 + 2 := by
  obtain ⟨a, b⟩ := pPairsAll_len (one := oLike) (n := 7) (by simp) x y (pConst 1 gs).1 (pConst 1 gs).2
  rw [pConst_len] at b
  simp only [pEqual]
  omega
theorem pLess_mul : mulCount (pLess x y gs).2 = mulCount gs + max x.length y.length * 2 := by
  simp only [pLess]
  rw [pPairsAll_mul (n := 2) (by simp), pConst_mul]
theorem pEqual_mul : mulCount (pEqual x y gs).2 = mulCount gs + max x.length y.length * 2 := by
  simp only [pEqual]
  rw [pPairsAll_mul (n := 2) (by simp), pConst_mul]
theorem pAddBits_mul : mulCount (pAddBits x y gs).2 = mulCount gs + max x.length y.length * 2 := by
  simp only [pAddBits]
  rw [pPairsAll_mul (n := 2) (by simp), pConst_mul]
theorem pRow_mul (k : Int) : ∀ (js : List Int) (gs : List Gate), mulCount (pRow k false js gs).2 = mulCount gs + js.length
  | [], gs => rfl
  | j :: r, gs => by
    simp only [pRow, Bool.false_eq_true, if_false]
    rw [pRow_mul k r, pMul_mul, List.length_cons]
    omega
theorem pSubBits_len : (pSubBits x y gs).1.length = x.length ∧ (pSubBits x y gs).2.length ≤ gs.length + max x.length y.length * 11 + 4 + x.length := by
  obtain ⟨a, b⟩ := pPairsAll_len (one := oTaker) (n := 11) (by simp) x y (pConst 0 gs).1 (pConst 0 gs).2
  rw [pConst_len] at b
  simp only [pSubBits]
  obtain ⟨c, d⟩ := pRow_len (pNot (pPairsAll oTaker x y (pConst 0 gs).1 (pConst 0 gs).2).1.2 (pPairsAll oTaker x y (pConst 0 gs).1 (pConst 0 gs).2).2).1 false ((pPairsAll oTaker x y (pConst 0 gs).1 (pConst 0 gs).2).1.1.take x.length) (pNot (pPairsAll oTaker x y (pConst 0 gs).1 (pConst 0 gs).2).1.2 (pPairsAll oTaker x y (pConst 0 gs).1 (pConst 0 gs).2).2).2
  rw [c, d, List.length_take, pNot_len]
  omega
theorem pSubBits_mul : mulCount (pSubBits x y gs).2 = mulCount gs + max x.length y.length * 2 + x.length := by
  obtain ⟨a, b⟩ := pPairsAll_len (one := oTaker) (n := 11) (by simp) x y (pConst 0 gs).1 (pConst 0 gs).2
  simp only [pSubBits]
  rw [pRow_mul, pNot_mul, pPairsAll_mul (n := 2) (by simp), pConst_mul, List.length_take]
  omega
theorem pComposeL_cost (p : Int) : ∀ (js : List Int) (s w : Int) (gs : List Gate), (pComposeL p js s w gs).2.length = gs.length + 2 * js.length ∧ mulCount (pComposeL p js s w gs).2 = mulCount gs
  | [], s, w, gs => ⟨rfl, rfl⟩
  | k :: r, s, w, gs => by
    simp only [pComposeL]
    obtain ⟨a, b⟩ := pComposeL_cost p r (pAdd s (pScale w k gs).1 (pScale w k gs).2).1 ((w + w) % p) (pAdd s (pScale w k gs).1 (pScale w k gs).2).2
    rw [a, b]
    simp
    omega
theorem pCompose_cost (p : Int) : (pCompose p x gs).2.length = gs.length + 1 + 2 * x.length ∧ mulCount (pCompose p x gs).2 = mulCount gs := by
  simp only [pCompose]
  obtain ⟨a, b⟩ := pComposeL_cost p x (pConst 0 gs).1 1 (pConst 0 gs).2
  rw [a, b]
  simp
theorem pPad_mul : ∀ (d : Nat) (out : List Int) (gs : List Gate), mulCount (pPad d out gs).2 = mulCount gs
  | 0, out, gs => rfl
  | d + 1, out, gs => by
    simp only [pPad]
    rw [pPad_mul d, pConst_mul]
theorem pMulL_cost : ∀ (ys : List Int) (i : Nat) (out : List Int) (gs : List Gate), 1 ≤ i → out.length ≤ x.length + i → i ≤ out.length + 1 →
    (pMulL x ys i out gs).2.length ≤ gs.length + ys.length * (10 * x.length + 2) + (i - out.length) ∧ mulCount (pMulL x ys i out gs).2 ≤ mulCount gs + ys.length * (3 * x.length) ∧ (ys ≠ [] → (pMulL x ys i out gs).1.length = x.length + i + ys.length) ∧ (ys = [] → (pMulL x ys i out gs).1 = out)
  | [], i, out, gs, _, _, _ => by simp [pMulL]
  | k :: ys, i, out, gs, hi, ho, hio => by
    have h0 : i ≠ 0 := by omega
    simp only [pMulL, if_neg h0]
    obtain ⟨rl1, rl2⟩ := pRow_len k false x gs
    have rm := pRow_mul k x gs
    generalize pRow k false x gs = r at rl1 rl2 rm ⊢
    obtain ⟨ol1, ol2⟩ := pPad_len (i - out.length) out r.2
    have om := pPad_mul (i - out.length) out r.2
    generalize pPad (i - out.length) out r.2 = o at ol1 ol2 om ⊢
    obtain ⟨sl1, sl2⟩ := pAddBits_len (o.1.drop i) r.1 o.2
    have sm := pAddBits_mul (o.1.drop i) r.1 o.2
    generalize pAddBits (o.1.drop i) r.1 o.2 = s at sl1 sl2 sm ⊢
    have dl : (o.1.drop i).length = o.1.length - i := List.length_drop
    have hm : max (o.1.drop i).length r.1.length = x.length := by omega
    rw [hm] at sl1 sl2 sm
    have hnl : (o.1.take i ++ s.1).length = i + x.length + 1 := by
      rw [List.length_append, List.length_take]
      omega
    obtain ⟨a, b, c, d⟩ := pMulL_cost ys (i + 1) (o.1.take i ++ s.1) s.2 (by omega) (by omega) (by omega)
    rw [List.length_cons]
    have e1 : (ys.length + 1) * (10 * x.length + 2) = ys.length * (10 * x.length + 2) + (10 * x.length + 2) := Nat.succ_mul _ _
    have e2 : (ys.length + 1) * (3 * x.length) = ys.length * (3 * x.length) + 3 * x.length := Nat.succ_mul _ _
    refine ⟨by omega, by omega, fun _ => ?_, fun h => by cases h⟩
    by_cases hy : ys = []
    · rw [d hy, hnl, hy]
      simp
      omega
    · rw [c hy]
      omega
theorem mul_ten (a c : Nat) : (c + 1) * (10 * a + 2) = 10 * a * (c + 1) + 2 * (c + 1) ∧ (c + 1) * (3 * a) = 3 * a * (c + 1) ∧ 10 * a * (c + 1) = 10 * a * c + 10 * a := by
  refine ⟨?_, ?_, ?_⟩
  · rw [Nat.mul_comm, Nat.add_mul]
  · rw [Nat.mul_comm]
  · rw [Nat.mul_add, Nat.mul_one]
theorem pMulBits_cost : (pMulBits x y gs).1.length = x.length + y.length ∧ (pMulBits x y gs).2.length ≤ gs.length + 10 * x.length * y.length + 2 * (x.length + y.length) + 2 ∧ mulCount (pMulBits x y gs).2 ≤ mulCount gs + 3 * x.length * y.length + 3 * (x.length + y.length) := by
  simp only [pMulBits]
  obtain ⟨zl1, zl2⟩ := pPad_len (x.length + y.length - (pMulL x y 0 [] gs).1.length) (pMulL x y 0 [] gs).1 (pMulL x y 0 [] gs).2
  have zm := pPad_mul (x.length + y.length - (pMulL x y 0 [] gs).1.length) (pMulL x y 0 [] gs).1 (pMulL x y 0 [] gs).2
  generalize pPad (x.length + y.length - (pMulL x y 0 [] gs).1.length) (pMulL x y 0 [] gs).1 (pMulL x y 0 [] gs).2 = z at zl1 zl2 zm ⊢
  refine ⟨by rw [List.length_take]; omega, ?_⟩
  match y with
  | [] =>
    simp only [pMulL, List.length_nil] at zl1 zl2 zm ⊢
    omega
  | k :: ys =>
    simp only [pMulL, if_true, Nat.zero_add] at zl1 zl2 zm ⊢
    obtain ⟨rl1, rl2⟩ := pRow_len k false x gs
    have rm := pRow_mul k x gs
    generalize pRow k false x gs = r at rl1 rl2 rm zl1 zl2 zm ⊢
    obtain ⟨a, b, c, d⟩ := pMulL_cost x ys 1 r.1 r.2 (by omega) (by omega) (by omega)
    rw [List.length_cons] at zl1 zl2 ⊢
    obtain ⟨m1, m2, m3⟩ := mul_ten x.length ys.length
    have m4 : (ys.length + 1) * (10 * x.length + 2) = ys.length * (10 * x.length + 2) + (10 * x.length + 2) := Nat.succ_mul _ _
    have m5 : (ys.length + 1) * (3 * x.length) = ys.length * (3 * x.length) + 3 * x.length := Nat.succ_mul _ _
    by_cases hy : ys = []
    · rw [d hy] at zl2
      have : ys.length = 0 := by rw [hy]; rfl
      omega
    · rw [c hy] at zl2
      omega
end
/-! ### Nothing is taken away -/
theorem pPairs_ge {one : One} (h1 : ∀ x y s gs, gs.length ≤ (one x y s gs).2.length) (x y : List Int) : ∀ (d i : Nat) (nought left : Int) (out : List Int) (gs : List Gate), gs.length ≤ (pPairs one x y d i nought left out gs).2.length := by
  intro d
  induction d with
  | zero =>
    intro i nought left out gs
    exact Nat.le_refl _
  | succ d ih =>
    intro i nought left out gs
    simp only [pPairs]
    have e1 := (pBit_len x i nought gs).1
    generalize pBit x i nought gs = r1 at e1 ⊢
    have e2 := (pBit_len y i r1.2.1 r1.2.2).1
    generalize pBit y i r1.2.1 r1.2.2 = r2 at e2 ⊢
    have e3 := h1 r1.1 r2.1 left r2.2.2
    generalize one r1.1 r2.1 left r2.2.2 = r3 at e3 ⊢
    have := ih (i + 1) r2.2.1 r3.1.2 (out ++ [r3.1.1]) r3.2
    omega
theorem pPairsAll_ge {one : One} (h1 : ∀ x y s gs, gs.length ≤ (one x y s gs).2.length) (x y : List Int) (left : Int) (gs : List Gate) : gs.length ≤ (pPairsAll one x y left gs).2.length := pPairs_ge h1 x y _ _ _ _ _ _
theorem pLess_ge (x y : List Int) (gs : List Gate) : gs.length ≤ (pLess x y gs).2.length := by
  have := pPairsAll_ge (one := oLess) (by simp) x y (pConst 0 gs).1 (pConst 0 gs).2
  rw [pConst_len] at this
  simp only [pLess]
  omega
theorem pEqual_ge (x y : List Int) (gs : List Gate) : gs.length ≤ (pEqual x y gs).2.length := by
  have := pPairsAll_ge (one := oLike) (by simp) x y (pConst 1 gs).1 (pConst 1 gs).2
  rw [pConst_len] at this
  simp only [pEqual]
  omega
theorem pAddBits_ge (x y : List Int) (gs : List Gate) : gs.length ≤ (pAddBits x y gs).2.length := by
  have := pPairsAll_ge (one := oAdder) (by simp) x y (pConst 0 gs).1 (pConst 0 gs).2
  rw [pConst_len] at this
  simp only [pAddBits]
  omega
theorem pSubBits_ge (x y : List Int) (gs : List Gate) : gs.length ≤ (pSubBits x y gs).2.length := by
  have := pPairsAll_ge (one := oTaker) (by simp) x y (pConst 0 gs).1 (pConst 0 gs).2
  rw [pConst_len] at this
  simp only [pSubBits]
  rw [(pRow_len _ _ _ _).2, pNot_len]
  omega
theorem pMulL_ge (x : List Int) : ∀ (ys : List Int) (i : Nat) (out : List Int) (gs : List Gate), gs.length ≤ (pMulL x ys i out gs).2.length
  | [], i, out, gs => Nat.le_refl _
  | k :: ys, i, out, gs => by
    simp only [pMulL]
    have rl := (pRow_len k false x gs).2
    generalize pRow k false x gs = r at rl ⊢
    split
    · have := pMulL_ge x ys (i + 1) r.1 r.2
      omega
    · have ol := (pPad_len (i - out.length) out r.2).2
      generalize pPad (i - out.length) out r.2 = o at ol ⊢
      have sl := pAddBits_ge (o.1.drop i) r.1 o.2
      generalize pAddBits (o.1.drop i) r.1 o.2 = s at sl ⊢
      have := pMulL_ge x ys (i + 1) (o.1.take i ++ s.1) s.2
      omega
theorem pMulBits_ge (x y : List Int) (gs : List Gate) : gs.length ≤ (pMulBits x y gs).2.length := by
  simp only [pMulBits]
  rw [(pPad_len _ _ _).2]
  have := pMulL_ge x y 0 [] gs
  omega
end Go.Proofs.Ytpbaoefjkfdgmaa.SL
