/- The reference's numbers, without the builder. -/
import Derived.Test.YtchhpagkdaaglaaDoorSlU
import Derived.Test.YtchhpagkdaaglaaDoorFn0
import Derived.Test.YtchhpagkdaaglaaDoorFn1
import Derived.Test.YtchhpagkdaaglaaDoorFn2
set_option linter.unusedVariables false
set_option linter.unusedSimpArgs false
namespace Go.Proofs.YtchhpagkdaaglaaDoor.SL
open Go

def expo (p : Int) : Int := if p = 31 then 5 else if p = 127 then 7 else if p = 8191 then 13 else if p = 131071 then 17 else if p = 524287 then 19 else if p = 2147483647 then 31 else if p = 2305843009213693951 then 61 else 0
def Supp (p : Int) : Prop := p = 31 ∨ p = 127 ∨ p = 8191 ∨ p = 131071 ∨ p = 524287 ∨ p = 2147483647 ∨ p = 2305843009213693951
instance (p : Int) : Decidable (Supp p) := by unfold Supp; infer_instance
theorem expo_pos (p : Int) : 0 < expo p ↔ Supp p := by
  unfold expo Supp
  repeat' split
  all_goals (first | omega | simp_all)
theorem Supp.pos {p : Int} (h : Supp p) : 31 ≤ p ∧ p ≤ 2305843009213693951 := by
  unfold Supp at h
  omega
/-- It gives x; what is known stays. -/
def Grow (x : Value) (H : Heap) : Ending → Heap → Prop := Ret fun v H' => v = x ∧ Le H H'
theorem oRC_grow {P : Program} {f : FuncId} {args : List Value} {H : Heap} {p : List PanicEntry → Heap → Prop} {k : Value → Heap → Prop} {x : Value} (h : RCalls P f args H (Grow x H)) (hk : ∀ H', Le H H' → k x H') : oRC P f args H p k :=
  oRC_ret h fun v H' hv => by
    obtain ⟨rfl, hl⟩ := hv
    exact hk _ hl
theorem exponent_spec (H : Heap) (p : Int) : RCalls Tryd.prog 141 [.int .u64 p] H (Grow (.int .i64 (expo p)) H) := by
  apply call141
  unfold m141
  refine oRC_ret (R := fun v H' => ∃ i, H i = none ∧ v = .slice (some ⟨i, 0, none⟩) 7 7 ∧ H' = hins H i (.cells [.int .i64 5, .int .i64 7, .int .i64 13, .int .i64 17, .int .i64 19, .int .i64 31, .int .i64 61] 7 3 true)) (call149 _ _ ?_) ?_
  · show oNew [.int .i64 5, .int .i64 7, .int .i64 13, .int .i64 17, .int .i64 19, .int .i64 31, .int .i64 61] 7 3 H _
    intro i hi
    exact ⟨i, hi, rfl, rfl⟩
  rintro v H' ⟨i, hi, rfl, rfl⟩
  unfold m141_2
  have hle := Le.ins (H := H) (i := i) (.cells [.int .i64 5, .int .i64 7, .int .i64 13, .int .i64 17, .int .i64 19, .int .i64 31, .int .i64 61] 7 3 true) hi
  generalize hH : hins H i (.cells [.int .i64 5, .int .i64 7, .int .i64 13, .int .i64 17, .int .i64 19, .int .i64 31, .int .i64 61] 7 3 true) = H' at hle ⊢
  generalize hkn : (fun H_14 => m141_1 H_14 (Grow (.int .i64 (expo p)) H)) = kn
  have round : ∀ (j : Nat) (q m : Int), j < 7 → ([5, 7, 13, 17, 19, 31, 61] : List Int)[j]? = some q → 0 ≤ q → q ≤ 64 → IntKind.u64.wrap (IntKind.u64.wrap (1 * 2 ^ (min q.toNat 64)) - 1) = m → (p = m → expo p = q) →
      (p ≠ m → L141_3 (.int .u64 p) (.slice (some ⟨i, 0, none⟩) 7 7) (.int .i64 ((j : Int) + 1)) H' kn (Grow (.int .i64 (expo p)) H)) → L141_3 (.int .u64 p) (.slice (some ⟨i, 0, none⟩) 7 7) (.int .i64 j) H' kn (Grow (.int .i64 (expo p)) H) := by
    intro j q m hj hq hq0 hq1 hm he hn
    apply L141_3_round
    unfold m141_4
    simp only [vLen_slice, oV_some, vInt_lss]
    refine condK_dec (fun _ => ?_) (fun h => absurd (by omega) h)
    have hx : vIdxS 1 (.slice (some ⟨i, 0, none⟩) 7 7) (.int .i64 j) = some (.pointer (some ⟨i, j, none⟩)) := by
      simp only [vIdxS]
      rw [if_pos (by omega)]
      simp
    have hl : vLoad ty3 (.pointer (some ⟨i, j, none⟩)) H' = some (.int .i64 q) := by
      subst hH
      simp only [vLoad, hins_self]
      show ([5, 7, 13, 17, 19, 31, 61].map (Value.int .i64))[j]? = _
      rw [List.getElem?_map, hq]
      rfl
    simp only [hx, hl, oV_some, vConv_int, vInt_shl, wrap_u64 hq0 (by omega)]
    rw [if_neg (by omega)]
    simp only [oV_some, vInt_sub, vInt_eql, vInt_add, IntKind.bits]
    rw [hm]
    refine condK_dec (fun h => ⟨by rw [he h], hle⟩) (fun h => ?_)
    rw [wrap_i64 (by omega) (by omega)]
    exact hn h
  refine round 0 5 31 (by omega) rfl (by omega) (by omega) (by decide) (fun e => by subst e; rfl) fun h0 => ?_
  refine round 1 7 127 (by omega) rfl (by omega) (by omega) (by decide) (fun e => by subst e; rfl) fun h1 => ?_
  refine round 2 13 8191 (by omega) rfl (by omega) (by omega) (by decide) (fun e => by subst e; rfl) fun h2 => ?_
  refine round 3 17 131071 (by omega) rfl (by omega) (by omega) (by decide) (fun e => by subst e; rfl) fun h3 => ?_
  refine round 4 19 524287 (by omega) rfl (by omega) (by omega) (by decide) (fun e => by subst e; rfl) fun h4 => ?_
  refine round 5 31 2147483647 (by omega) rfl (by omega) (by omega) (by decide) (fun e => by subst e; rfl) fun h5 => ?_
  refine round 6 61 2305843009213693951 (by omega) rfl (by omega) (by omega) (by decide) (fun e => by subst e; rfl) fun h6 => ?_
  apply L141_3_round
  unfold m141_4
  simp only [vLen_slice, oV_some, vInt_lss]
  refine condK_dec (fun h => absurd h (by decide)) (fun _ => ?_)
  subst hkn
  exact ⟨by simp [expo, h0, h1, h2, h3, h4, h5, h6], hle⟩
theorem supported_spec (H : Heap) (p : Int) : RCalls Tryd.prog 116 [.int .u64 p] H (Grow (.bool (decide (Supp p))) H) := by
  apply call116
  unfold m116
  refine oRC_grow (exponent_spec H p) fun H' hle => ?_
  simp only [vInt_gtr, oV_some]
  refine ⟨?_, hle⟩
  congr 1
  exact decide_eq_decide.2 (expo_pos p)
/-! ### Arithmetic -/
theorem radd_spec (H : Heap) {p a b : Int} (hp : 0 < p) (ha : 0 ≤ a) (hb : 0 ≤ b) (h : a + b ≤ 18446744073709551615) : RCalls Tryd.prog 75 [.int .u64 p, .int .u64 a, .int .u64 b] H (Val (.int .u64 ((a + b) % p)) H) := by
  apply call75
  unfold m75
  simp only [vInt_add, oV_some, vInt_rem, wrap_u64 (by omega : 0 ≤ a + b) h]
  rw [if_neg (by omega), oV_some, Int.tmod_eq_emod_of_nonneg (by omega)]
  exact ⟨rfl, rfl⟩
theorem mul_bounds {a b m : Int} (ha : 0 ≤ a) (hb : 0 ≤ b) (ham : a ≤ m) (hbm : b ≤ m) : 0 ≤ a * b ∧ a * b ≤ m * m :=
  ⟨Int.mul_nonneg ha hb, Int.mul_le_mul ham hbm hb (by omega)⟩
theorem split_mul (a1 a0 b1 b0 : Int) : (a1 * 2147483648 + a0) * (b1 * 2147483648 + b0) = (a1 * b1) * 4611686018427387904 + (a1 * b0 + a0 * b1) * 2147483648 + a0 * b0 := by
  rw [Int.add_mul, Int.mul_add, Int.mul_add]
  have e1 : a1 * 2147483648 * (b1 * 2147483648) = (a1 * b1) * 4611686018427387904 := by
    rw [Int.mul_assoc, Int.mul_left_comm 2147483648, ← Int.mul_assoc]
    rfl
  have e2 : a1 * 2147483648 * b0 = (a1 * b0) * 2147483648 := by rw [Int.mul_right_comm]
  have e3 : a0 * (b1 * 2147483648) = (a0 * b1) * 2147483648 := by rw [Int.mul_assoc]
  rw [e1, e2, e3, Int.add_mul]
  omega
theorem rmul_spec (H : Heap) {p a b : Int} (hp : Supp p) (ha : 0 ≤ a) (hap : a < p) (hb : 0 ≤ b) (hbp : b < p) : RCalls Tryd.prog 76 [.int .u64 p, .int .u64 a, .int .u64 b] H (Val (.int .u64 (a * b % p)) H) := by
  apply call76
  unfold m76
  have hpos := hp.pos
  by_cases hs : p < 2147483648
  · have hab := mul_bounds (m := 2147483647) ha hb (by omega) (by omega)
    simp only [vInt_gtr, oV_some, gV_bool, vInt_lss, vPick_bool, decide_eq_true (show 0 < p by omega), decide_eq_true hs, decide_eq_true (show a < 2147483648 by omega), decide_eq_true (show b < 2147483648 by omega), if_true]
    refine condK_true ?_
    simp only [vInt_mul, oV_some, vInt_rem, wrap_u64 hab.1 (by omega)]
    rw [if_neg (by omega), oV_some, Int.tmod_eq_emod_of_nonneg hab.1]
    exact ⟨rfl, rfl⟩
  · have he : p = 2305843009213693951 := by unfold Supp at hp; omega
    subst he
    simp only [vInt_gtr, oV_some, gV_bool, vInt_lss, vPick_bool, vInt_eql, decide_eq_true (show (0 : Int) < 2305843009213693951 by omega), decide_eq_false hs, decide_eq_true hap, decide_eq_true hbp, decide_true, if_true, Bool.false_eq_true, if_false]
    refine condK_false ?_
    refine condK_true ?_
    have f31 : ∀ x : Int, x.fdiv (2 ^ (min (31 : Int).toNat IntKind.u64.bits)) = x / 2147483648 := fun x => by
      rw [show ((2 : Int) ^ (min (31 : Int).toNat IntKind.u64.bits)) = 2147483648 from by decide]
      exact Int.fdiv_eq_ediv_of_nonneg _ (by omega)
    have f30 : ∀ x : Int, x.fdiv (2 ^ (min (30 : Int).toNat IntKind.u64.bits)) = x / 1073741824 := fun x => by
      rw [show ((2 : Int) ^ (min (30 : Int).toNat IntKind.u64.bits)) = 1073741824 from by decide]
      exact Int.fdiv_eq_ediv_of_nonneg _ (by omega)
    have g31 : ∀ x : Int, x.fdiv 2147483648 = x / 2147483648 := fun x => Int.fdiv_eq_ediv_of_nonneg _ (by omega)
    have g30 : ∀ x : Int, x.fdiv 1073741824 = x / 1073741824 := fun x => Int.fdiv_eq_ediv_of_nonneg _ (by omega)
    have s31 : ((2 : Int) ^ (min (31 : Int).toNat IntKind.u64.bits)) = 2147483648 := by decide
    obtain ⟨a1, ha1⟩ : ∃ x, x = a / 2147483648 := ⟨_, rfl⟩
    obtain ⟨a0, ha0⟩ : ∃ x, x = a % 2147483648 := ⟨_, rfl⟩
    obtain ⟨b1, hb1⟩ : ∃ x, x = b / 2147483648 := ⟨_, rfl⟩
    obtain ⟨b0, hb0⟩ : ∃ x, x = b % 2147483648 := ⟨_, rfl⟩
    have ea : a = a1 * 2147483648 + a0 := by omega
    have eb : b = b1 * 2147483648 + b0 := by omega
    have m1 := mul_bounds (a := a1) (b := b1) (m := 1073741823) (by omega) (by omega) (by omega) (by omega)
    have m0 := mul_bounds (a := a0) (b := b0) (m := 2147483647) (by omega) (by omega) (by omega) (by omega)
    have mx : 0 ≤ a1 * b0 ∧ a1 * b0 ≤ 1073741823 * 2147483647 := ⟨Int.mul_nonneg (by omega) (by omega), Int.mul_le_mul (by omega) (by omega) (by omega) (by omega)⟩
    have my : 0 ≤ a0 * b1 ∧ a0 * b1 ≤ 2147483647 * 1073741823 := ⟨Int.mul_nonneg (by omega) (by omega), Int.mul_le_mul (by omega) (by omega) (by omega) (by omega)⟩
    have key : a * b % 2305843009213693951 = (2 * (a1 * b1) + (a1 * b0 + a0 * b1) / 1073741824 + (a1 * b0 + a0 * b1) % 1073741824 * 2147483648 + a0 * b0) % 2305843009213693951 := by
      rw [ea, eb, split_mul]
      generalize a1 * b1 = A at *
      generalize a1 * b0 + a0 * b1 = C at *
      generalize a0 * b0 = B at *
      omega
    have tm : ∀ x : Int, 0 ≤ x → ∀ y, x.tmod y = x % y := fun x hx y => Int.tmod_eq_emod_of_nonneg hx
    have e2 : 2 * a1 * b1 = 2 * (a1 * b1) := Int.mul_assoc _ _ _
    simp only [vInt_shr, vInt_rem, vInt_mul, vInt_add, vInt_shl, oV_some, show ¬ ((31 : Int) < 0) by omega, show ¬ ((30 : Int) < 0) by omega, show ¬ ((2147483648 : Int) = 0) by omega, show ¬ ((1073741824 : Int) = 0) by omega, show ¬ ((2305843009213693951 : Int) = 0) by omega, if_false, f31, g31, tm a ha, tm b hb, ← ha1, ← ha0, ← hb1, ← hb0,
      wrap_u64 mx.1 (by omega : a1 * b0 ≤ _), wrap_u64 my.1 (by omega : a0 * b1 ≤ _), wrap_u64 (show 0 ≤ a1 * b0 + a0 * b1 by omega) (by omega), wrap_u64 (show 0 ≤ 2 * a1 by omega) (by omega), e2, wrap_u64 (show 0 ≤ 2 * (a1 * b1) by omega) (by omega), f30, g30,
      wrap_u64 (show 0 ≤ 2 * (a1 * b1) + (a1 * b0 + a0 * b1) / 1073741824 by omega) (by omega), tm (a1 * b0 + a0 * b1) (by omega), s31, wrap_u64 (show 0 ≤ (a1 * b0 + a0 * b1) % 1073741824 * 2147483648 by omega) (by omega),
      wrap_u64 (show 0 ≤ 2 * (a1 * b1) + (a1 * b0 + a0 * b1) / 1073741824 + (a1 * b0 + a0 * b1) % 1073741824 * 2147483648 by omega) (by omega), wrap_u64 m0.1 (by omega), wrap_u64 (show 0 ≤ 2 * (a1 * b1) + (a1 * b0 + a0 * b1) / 1073741824 + (a1 * b0 + a0 * b1) % 1073741824 * 2147483648 + a0 * b0 by omega) (by omega),
      tm (2 * (a1 * b1) + (a1 * b0 + a0 * b1) / 1073741824 + (a1 * b0 + a0 * b1) % 1073741824 * 2147483648 + a0 * b0) (by omega)]
    exact ⟨by rw [key], rfl⟩
end Go.Proofs.YtchhpagkdaaglaaDoor.SL
