/- Lists of bits as numbers. -/
import Derived.Test.YtpbaoefjkfdgmaaGadT
set_option linter.unusedVariables false
set_option linter.unusedSimpArgs false
namespace Go.Proofs.Ytpbaoefjkfdgmaa.SL
open Go

def num : List Bool → Nat
  | [] => 0
  | b :: bs => b.toNat + 2 * num bs
theorem num_append : ∀ (xs ys : List Bool), num (xs ++ ys) = num xs + 2 ^ xs.length * num ys
  | [], ys => by simp [num]
  | b :: xs, ys => by
    show b.toNat + 2 * num (xs ++ ys) = b.toNat + 2 * num xs + 2 ^ (xs.length + 1) * num ys
    rw [num_append xs ys, Nat.mul_add, Nat.pow_succ, Nat.mul_comm (2 ^ xs.length) 2, Nat.mul_assoc]
    omega
theorem num_lt : ∀ (xs : List Bool), num xs < 2 ^ xs.length
  | [] => by simp [num]
  | b :: xs => by
    have := num_lt xs
    have h2 : b.toNat ≤ 1 := by cases b <;> decide
    show b.toNat + 2 * num xs < 2 ^ (xs.length + 1)
    rw [Nat.pow_succ]
    omega
theorem num_inj : ∀ {xs ys : List Bool}, xs.length = ys.length → num xs = num ys → xs = ys
  | [], [], _, _ => rfl
  | [], _ :: _, h, _ => by simp at h
  | _ :: _, [], h, _ => by simp at h
  | a :: xs, b :: ys, h, k => by
    have e : a.toNat + 2 * num xs = b.toNat + 2 * num ys := k
    have ha : a.toNat ≤ 1 := by cases a <;> decide
    have hb : b.toNat ≤ 1 := by cases b <;> decide
    have h1 : a.toNat = b.toNat := by omega
    have h2 : num xs = num ys := by omega
    rw [num_inj (by simpa using h) h2]
    congr 1
    cases a <;> cases b <;> first | rfl | exact absurd h1 (by decide)
theorem num_zeros : ∀ n, num (List.replicate n false) = 0
  | 0 => rfl
  | n + 1 => by
    rw [List.replicate_succ]
    simp [num, num_zeros n]
def pad (k : Nat) (xs : List Bool) : List Bool := (List.range k).map fun i => xs.getD i false
theorem pad_succ (k : Nat) (xs : List Bool) : pad (k + 1) xs = pad k xs ++ [xs.getD k false] := by simp [pad, List.range_succ]
theorem pad_len (k : Nat) (xs : List Bool) : (pad k xs).length = k := by simp [pad]
theorem pad_eq {k : Nat} {xs : List Bool} (h : xs.length ≤ k) : pad k xs = xs ++ List.replicate (k - xs.length) false := by
  apply List.ext_getElem?
  intro i
  by_cases c : i < xs.length
  · rw [List.getElem?_append_left c]
    simp [pad, show i < k by omega, c]
  · rw [List.getElem?_append_right (by omega)]
    by_cases d : i < k
    · simp [pad, d, c, show i - xs.length < k - xs.length by omega]
    · simp [pad, d, show ¬ i - xs.length < k - xs.length by omega]
theorem num_pad {k : Nat} {xs : List Bool} (h : xs.length ≤ k) : num (pad k xs) = num xs := by
  rw [pad_eq h, num_append, num_zeros]
  simp
theorem num_runS (xs ys : List Bool) (c : Bool) : ∀ k, num (runS fAdder xs ys c k).1 + 2 ^ k * (runS fAdder xs ys c k).2.toNat = num (pad k xs) + num (pad k ys) + c.toNat
  | 0 => by simp [runS, pad, num]
  | k + 1 => by
    have ih := num_runS xs ys c k
    rw [pad_succ, pad_succ, num_append, num_append, pad_len, pad_len]
    simp only [runS]
    rw [num_append, runS_len, Nat.pow_succ]
    generalize (runS fAdder xs ys c k).2 = cc at ih ⊢
    generalize 2 ^ k = P at ih ⊢
    generalize num (runS fAdder xs ys c k).1 = A at ih ⊢
    cases xs.getD k false <;> cases ys.getD k false <;> cases cc <;> simp [fAdder, num] at ih ⊢ <;> omega
def addB (xs ys : List Bool) : List Bool := (runS fAdder xs ys false (max xs.length ys.length)).1 ++ [(runS fAdder xs ys false (max xs.length ys.length)).2]
theorem addB_len (xs ys : List Bool) : (addB xs ys).length = max xs.length ys.length + 1 := by simp [addB, runS_len]
theorem num_addB (xs ys : List Bool) : num (addB xs ys) = num xs + num ys := by
  have := num_runS xs ys false (max xs.length ys.length)
  rw [num_pad (by omega), num_pad (by omega)] at this
  rw [addB, num_append, runS_len]
  simpa [num] using this
theorem runS_taker (xs ys : List Bool) (c : Bool) : ∀ k, (runS fTaker xs ys c k).2 = (runS fLess xs ys c k).2
  | 0 => rfl
  | k + 1 => by
    simp only [runS, runS_taker xs ys c k]
    rfl
theorem runS_take (f : Bit3) (xs ys : List Bool) (c : Bool) (m : Nat) : ∀ n, m ≤ n → (runS f xs ys c n).1.take m = (runS f xs ys c m).1
  | 0, h => by
    have : m = 0 := by omega
    subst this
    rfl
  | n + 1, h => by
    by_cases e : m = n + 1
    · subst e
      exact List.take_of_length_le (by rw [runS_len]; omega)
    · simp only [runS]
      rw [List.take_append_of_le_length (by rw [runS_len]; omega)]
      exact runS_take f xs ys c m n (by omega)
def lessB (xs ys : List Bool) : Bool := (runS fLess xs ys false (max xs.length ys.length)).2
def equalB (xs ys : List Bool) : Bool := (runS fLike xs ys true (max xs.length ys.length)).2
def subB (xs ys : List Bool) : List Bool := ((runS fTaker xs ys false xs.length).1).map fun b => b && !lessB xs ys
def rowB (xs : List Bool) (k : Bool) : List Bool := xs.map fun b => b && k
theorem num_rowB (xs : List Bool) (k : Bool) : num (rowB xs k) = num xs * k.toNat := by
  cases k
  · have : ∀ xs : List Bool, rowB xs false = List.replicate xs.length false := fun xs => by
      induction xs with
      | nil => rfl
      | cons a xs ih =>
        have ih' : List.map (fun b => b && false) xs = List.replicate xs.length false := ih
        show (a && false) :: List.map (fun b => b && false) xs = _
        rw [ih', Bool.and_false]
        rfl
    rw [this, num_zeros]
    simp
  · have : rowB xs true = xs := by simp [rowB]
    rw [this]
    simp
/-- After i rows. -/
def mulG (xs ys : List Bool) : Nat → List Bool
  | 0 => []
  | i + 1 =>
    let out := mulG xs ys i
    let row := rowB xs (ys.getD i false)
    if i = 0 then row else
      let o := out ++ List.replicate (i - out.length) false
      o.take i ++ addB (o.drop i) row
def mulB (xs ys : List Bool) : List Bool :=
  let o := mulG xs ys ys.length
  o ++ List.replicate (xs.length + ys.length - o.length) false
theorem mulG_len (xs ys : List Bool) : ∀ i, (mulG xs ys i).length ≤ xs.length + i
  | 0 => by simp [mulG]
  | i + 1 => by
    have ih := mulG_len xs ys i
    simp only [mulG]
    split
    · simp [rowB]
    · rw [List.length_append, addB_len, List.length_take, List.length_drop, List.length_append, List.length_replicate]
      simp only [rowB, List.length_map]
      omega
theorem num_take_succ (ys : List Bool) {i : Nat} (h : i < ys.length) : num (ys.take (i + 1)) = num (ys.take i) + 2 ^ i * (ys.getD i false).toNat := by
  rw [List.take_succ_eq_append_getElem h, num_append]
  have : (ys.take i).length = i := by rw [List.length_take]; omega
  rw [this]
  simp [num, h]
theorem num_split (o : List Bool) {i : Nat} (h : i ≤ o.length) : num o = num (o.take i) + 2 ^ i * num (o.drop i) := by
  have := num_append (o.take i) (o.drop i)
  rw [List.take_append_drop] at this
  rw [this, List.length_take, Nat.min_eq_left h]
theorem num_mulG (xs ys : List Bool) : ∀ i, i ≤ ys.length → num (mulG xs ys i) = num xs * num (ys.take i)
  | 0, _ => by simp [mulG, num]
  | i + 1, h => by
    have ih := num_mulG xs ys i (by omega)
    rw [num_take_succ ys (by omega)]
    simp only [mulG]
    split
    · rename_i e
      subst e
      rw [num_rowB]
      simp [num]
    · generalize mulG xs ys i = out at ih ⊢
      have h1 : num (out ++ List.replicate (i - out.length) false) = num out := by rw [num_append, num_zeros]; simp
      have hl : i ≤ (out ++ List.replicate (i - out.length) false).length := by simp; omega
      generalize out ++ List.replicate (i - out.length) false = o at h1 hl ⊢
      rw [num_append, num_addB, num_rowB, List.length_take, Nat.min_eq_left hl, Nat.mul_add (2 ^ i), ← Nat.add_assoc, ← num_split o hl, h1, ih, Nat.mul_add]
      congr 1
      rw [← Nat.mul_assoc, ← Nat.mul_assoc, Nat.mul_comm (2 ^ i)]
theorem mulB_len (xs ys : List Bool) : (mulB xs ys).length = xs.length + ys.length := by
  have := mulG_len xs ys ys.length
  simp [mulB]
  omega
theorem num_mulB (xs ys : List Bool) : num (mulB xs ys) = num xs * num ys := by
  simp only [mulB]
  rw [num_append, num_zeros, num_mulG xs ys _ (Nat.le_refl _), List.take_length]
  simp
/-- The reference's list after i rows. -/
def mulR (xs ys : List Bool) : Nat → List Bool
  | 0 => List.replicate (xs.length + ys.length) false
  | i + 1 =>
    let out := mulR xs ys i
    if ys.getD i false then out.take i ++ (runS fAdder (out.drop i) xs false (xs.length + ys.length - i)).1 else out
theorem mulR_len (xs ys : List Bool) : ∀ i, i ≤ ys.length → (mulR xs ys i).length = xs.length + ys.length
  | 0, _ => by simp [mulR]
  | i + 1, h => by
    have ih := mulR_len xs ys i (by omega)
    simp only [mulR]
    split
    · rw [List.length_append, runS_len, List.length_take, ih]
      omega
    · exact ih
theorem num_mulR (xs ys : List Bool) : ∀ i, i ≤ ys.length → num (mulR xs ys i) = num xs * num (ys.take i)
  | 0, _ => by simp [mulR, num_zeros, num]
  | i + 1, h => by
    have ih := num_mulR xs ys i (by omega)
    have hl := mulR_len xs ys i (by omega)
    rw [num_take_succ ys (by omega)]
    simp only [mulR]
    generalize mulR xs ys i = out at ih hl ⊢
    split
    · rename_i hb
      rw [hb]
      have h1 := num_runS (out.drop i) xs false (xs.length + ys.length - i)
      rw [num_pad (by rw [List.length_drop]; omega), num_pad (by omega)] at h1
      have h2 := num_split out (i := i) (by omega)
      rw [num_append, List.length_take, Nat.min_eq_left (by omega)]
      have hx := num_lt xs
      have hy : num (ys.take i) + 1 ≤ 2 ^ i := by
        have := num_lt (ys.take i)
        rw [List.length_take, Nat.min_eq_left (by omega)] at this
        exact this
      -- no carry is left
      have h3 : num out + 2 ^ i * num xs ≤ num xs * (2 ^ i + 2 ^ i) := by
        rw [ih, Nat.mul_add, Nat.mul_comm (2 ^ i)]
        exact Nat.add_le_add_right (Nat.mul_le_mul_left _ (by omega)) _
      have h4 : num xs * (2 ^ i + 2 ^ i) < 2 ^ (xs.length + ys.length) := by
        have e : 2 ^ i + 2 ^ i = 2 ^ (i + 1) := by rw [Nat.pow_succ]; omega
        rw [e]
        exact calc num xs * 2 ^ (i + 1) < 2 ^ xs.length * 2 ^ (i + 1) := Nat.mul_lt_mul_of_pos_right hx (Nat.pow_pos (by decide))
          _ = 2 ^ (xs.length + (i + 1)) := (Nat.pow_add _ _ _).symm
          _ ≤ 2 ^ (xs.length + ys.length) := Nat.pow_le_pow_right (by decide) (by omega)
      have h5 : 2 ^ (xs.length + ys.length) = 2 ^ i * 2 ^ (xs.length + ys.length - i) := by
        rw [← Nat.pow_add]
        congr 1
        omega
      have h6 : (runS fAdder (out.drop i) xs false (xs.length + ys.length - i)).2 = false := by
        cases hc : (runS fAdder (out.drop i) xs false (xs.length + ys.length - i)).2 with
        | false => rfl
        | true =>
          rw [hc] at h1
          simp only [Bool.toNat_true, Bool.toNat_false, Nat.mul_one, Nat.add_zero] at h1
          have h7 : 2 ^ (xs.length + ys.length - i) ≤ num (out.drop i) + num xs := by omega
          have h8 : 2 ^ i * 2 ^ (xs.length + ys.length - i) ≤ 2 ^ i * (num (out.drop i) + num xs) := Nat.mul_le_mul_left _ h7
          rw [Nat.mul_add] at h8
          omega
      rw [h6] at h1
      simp only [Bool.toNat_false, Nat.mul_zero, Nat.add_zero] at h1
      rw [h1, Nat.mul_add, ← Nat.add_assoc, ← h2, ih, Nat.mul_add]
      simp [Nat.mul_comm]
    · rename_i hb
      have : ys.getD i false = false := by simpa using hb
      rw [this, ih]
      simp
theorem mul_same (xs ys : List Bool) : mulR xs ys ys.length = mulB xs ys :=
  num_inj (by rw [mulR_len _ _ _ (Nat.le_refl _), mulB_len]) (by rw [num_mulR _ _ _ (Nat.le_refl _), num_mulB, List.take_length])
end Go.Proofs.Ytpbaoefjkfdgmaa.SL
