/- field.fold; the rest of the builder's methods; its circuit. -/
import Derived.Test.YtchhpagkdaaglaaDoorNum
set_option linter.unusedVariables false
set_option linter.unusedSimpArgs false
namespace Go.Proofs.YtchhpagkdaaglaaDoor.SL
open Go

theorem and_low (x : Int) (q : Nat) (hq : q ≤ 64) (h0 : 0 ≤ x) (h1 : x ≤ 18446744073709551615) : ((BitVec.ofInt 64 x &&& BitVec.ofInt 64 (2 ^ q - 1)).toNat : Int) = x % 2 ^ q := by
  obtain ⟨n, rfl⟩ := Int.eq_ofNat_of_zero_le h0
  have e2 : ((2 : Int) ^ q - 1) = ((2 ^ q - 1 : Nat) : Int) := by
    have : 0 < 2 ^ q := Nat.pow_pos (by omega)
    rw [Int.ofNat_sub (by omega)]
    simp
  have hlt : 2 ^ q - 1 < 2 ^ 64 := by
    have := Nat.pow_le_pow_right (show 2 > 0 by omega) hq
    omega
  rw [e2, BitVec.ofInt_natCast, BitVec.ofInt_natCast, BitVec.toNat_and, BitVec.toNat_ofNat, BitVec.toNat_ofNat, Nat.mod_eq_of_lt (by omega : n < 2 ^ 64), Nat.mod_eq_of_lt hlt, Nat.and_two_pow_sub_one_eq_mod]
  simp
theorem or_add (a b : Nat) (i : Nat) (ha : a < 2 ^ i) (hb : 2 ^ i * b + a < 2 ^ 64) : ((BitVec.ofInt 64 (a : Int) ||| BitVec.ofInt 64 ((2 ^ i * b : Nat) : Int)).toNat) = 2 ^ i * b + a := by
  rw [BitVec.ofInt_natCast, BitVec.ofInt_natCast, BitVec.toNat_or, BitVec.toNat_ofNat, BitVec.toNat_ofNat, Nat.mod_eq_of_lt (by omega), Nat.mod_eq_of_lt (by omega), Nat.or_comm, ← Nat.two_pow_add_eq_or_of_lt ha]
/-- What fold needs to know of the prime p = 2^q - 1. -/
structure FN (p q : Int) : Prop where
  dvd : (p + 1) ∣ 18446744073709551616
  rng : 5 ≤ q ∧ q ≤ 61
  and : ∀ x : Int, 0 ≤ x → x ≤ 18446744073709551615 → IntKind.u64.wrap ((BitVec.ofInt IntKind.u64.bits x &&& BitVec.ofInt IntKind.u64.bits p).toNat) = x % (p + 1)
  shr : ∀ x : Int, x.fdiv (2 ^ (min q.toNat IntKind.u64.bits)) = x / (p + 1)
  or : ∀ hi lo : Int, 0 ≤ hi → hi ≤ 18446744073709551615 → 0 ≤ lo → lo ≤ 18446744073709551615 → ∃ X : Int, IntKind.u64.wrap ((BitVec.ofInt IntKind.u64.bits (lo / (p + 1)) ||| BitVec.ofInt IntKind.u64.bits (IntKind.u64.wrap (hi * 2 ^ (min (64 - q).toNat IntKind.u64.bits)))).toNat) = X ∧ 0 ≤ X ∧ X ≤ 18446744073709551615 ∧ (hi * 18446744073709551616 + lo) / (p + 1) = hi / (p + 1) * 18446744073709551616 + X
theorem FN.of {p q : Int} (k : Nat) (hk : k ≤ 64) (P R : Nat) (hP : 2 ^ k = P) (hR : 2 ^ (64 - k) = R) (hp : p + 1 = P) (hq : q = k) (hr : 5 ≤ q ∧ q ≤ 61) (hd : ((P : Int) ∣ 18446744073709551616))
    (hX : ∀ hi lo : Int, 0 ≤ hi → hi ≤ 18446744073709551615 → 0 ≤ lo → lo ≤ 18446744073709551615 → hi * R % 18446744073709551616 = R * (hi % P) ∧ lo / P < R ∧ 0 ≤ lo / P ∧ R * (hi % P) + lo / P ≤ 18446744073709551615 ∧ (hi * 18446744073709551616 + lo) / P = hi / P * 18446744073709551616 + (R * (hi % P) + lo / P)) : FN p q := by
  have hPi : ((2 : Int) ^ k) = P := by rw [← hP]; simp
  have hPpos : 0 < P := by rw [← hP]; exact Nat.pow_pos (by omega)
  refine ⟨by rw [hp]; exact hd, hr, fun x h0 h1 => ?_, fun x => ?_, fun hi lo a0 a1 b0 b1 => ?_⟩
  · have : p = 2 ^ k - 1 := by omega
    show IntKind.u64.wrap ((BitVec.ofInt 64 x &&& BitVec.ofInt 64 p).toNat) = x % (p + 1)
    rw [this, and_low x k hk h0 h1, hPi, ← hp, wrap_u64]
    · congr 1; omega
    · exact Int.emod_nonneg _ (by omega)
    · have := Int.emod_lt_of_pos x (show 0 < (p + 1) by omega)
      have hm : x % (p + 1) ≤ x := by
        by_cases h : x < p + 1
        · rw [Int.emod_eq_of_lt h0 h]; omega
        · omega
      omega
  · show x.fdiv (2 ^ (min q.toNat 64)) = x / (p + 1)
    rw [hq, Int.toNat_natCast, Nat.min_eq_left hk, hPi, hp]
    exact Int.fdiv_eq_ediv_of_nonneg _ (by omega)
  · obtain ⟨c1, c2, c3, c4, c5⟩ := hX hi lo a0 a1 b0 b1
    have hRi : ((2 : Int) ^ (min (64 - q).toNat 64)) = R := by
      rw [hq, show ((64 : Int) - (k : Int)).toNat = 64 - k by omega, Nat.min_eq_left (by omega), ← hR]
      simp
    obtain ⟨a, ha⟩ := Int.eq_ofNat_of_zero_le c3
    have hm0 : 0 ≤ hi % (P : Int) := Int.emod_nonneg _ (by omega)
    obtain ⟨b, hb⟩ := Int.eq_ofNat_of_zero_le hm0
    have hor := or_add a b (64 - k) (by rw [hR]; omega) (by
      rw [hR]
      rw [hb, ha] at c4
      have : ((R * b + a : Nat) : Int) ≤ 18446744073709551615 := by
        rw [Int.natCast_add, Int.natCast_mul]
        exact c4
      omega)
    refine ⟨R * (hi % P) + lo / P, ?_, ?_, c4, by rw [hp]; exact c5⟩
    · show IntKind.u64.wrap ((BitVec.ofInt 64 (lo / (p + 1)) ||| BitVec.ofInt 64 (IntKind.u64.wrap (hi * 2 ^ (min (64 - q).toNat 64)))).toNat) = R * (hi % P) + lo / P
      have hin : IntKind.u64.wrap (hi * R) = R * (hi % P) := by rw [wrap_u64_mod, c1]
      rw [hRi, hin, hp, ha, hb]
      have e : ((R : Int) * (b : Int)) = ((2 ^ (64 - k) * b : Nat) : Int) := by rw [hR]; simp
      rw [e, hor]
      have e2 : ((2 ^ (64 - k) * b + a : Nat) : Int) = R * b + a := by rw [hR]; simp
      rw [hb, ha] at c4
      rw [e2, wrap_u64 (by omega) c4, ← e2]
      simp
    · have := Int.mul_nonneg (show 0 ≤ (R : Int) by omega) hm0
      omega
theorem fn_supp {p : Int} (hp : Supp p) : FN p (expo p) := by
  unfold Supp at hp
  rcases hp with rfl | rfl | rfl | rfl | rfl | rfl | rfl
  · exact FN.of 5 (by omega) 32 576460752303423488 (by simp) (by simp) (by simp) (by simp [expo]) (by simp [expo]) (by decide) (by intros; omega)
  · exact FN.of 7 (by omega) 128 144115188075855872 (by simp) (by simp) (by simp) (by simp [expo]) (by simp [expo]) (by decide) (by intros; omega)
  · exact FN.of 13 (by omega) 8192 2251799813685248 (by simp) (by simp) (by simp) (by simp [expo]) (by simp [expo]) (by decide) (by intros; omega)
  · exact FN.of 17 (by omega) 131072 140737488355328 (by simp) (by simp) (by simp) (by simp [expo]) (by simp [expo]) (by decide) (by intros; omega)
  · exact FN.of 19 (by omega) 524288 35184372088832 (by simp) (by simp) (by simp) (by simp [expo]) (by simp [expo]) (by decide) (by intros; omega)
  · exact FN.of 31 (by omega) 2147483648 8589934592 (by simp) (by simp) (by simp) (by simp [expo]) (by simp [expo]) (by decide) (by intros; omega)
  · exact FN.of 61 (by omega) 2305843009213693952 8 (by simp) (by simp) (by simp) (by simp [expo]) (by simp [expo]) (by decide) (by intros; omega)
set_option maxRecDepth 100000 in
theorem len64_spec (H : Heap) {p : Int} (hp : Supp p) : RCalls Tryd.prog 152 [.int .u64 p] H (Val (.int .i64 (expo p)) H) := by
  apply call152
  unfold m152
  unfold Supp at hp
  rcases hp with rfl | rfl | rfl | rfl | rfl | rfl | rfl
  · exact condK_false (condK_false (condK_false (Eq.mpr (by kernel_rfl : _ = (Value.int .i64 5 = Value.int .i64 5 ∧ H = H)) ⟨rfl, rfl⟩)))
  · exact condK_false (condK_false (condK_false (Eq.mpr (by kernel_rfl : _ = (Value.int .i64 7 = Value.int .i64 7 ∧ H = H)) ⟨rfl, rfl⟩)))
  · exact condK_false (condK_false (condK_true (Eq.mpr (by kernel_rfl : _ = (Value.int .i64 13 = Value.int .i64 13 ∧ H = H)) ⟨rfl, rfl⟩)))
  · exact condK_false (condK_true (condK_false (Eq.mpr (by kernel_rfl : _ = (Value.int .i64 17 = Value.int .i64 17 ∧ H = H)) ⟨rfl, rfl⟩)))
  · exact condK_false (condK_true (condK_false (Eq.mpr (by kernel_rfl : _ = (Value.int .i64 19 = Value.int .i64 19 ∧ H = H)) ⟨rfl, rfl⟩)))
  · exact condK_false (condK_true (condK_true (Eq.mpr (by kernel_rfl : _ = (Value.int .i64 31 = Value.int .i64 31 ∧ H = H)) ⟨rfl, rfl⟩)))
  · exact condK_true (condK_true (condK_true (Eq.mpr (by kernel_rfl : _ = (Value.int .i64 61 = Value.int .i64 61 ∧ H = H)) ⟨rfl, rfl⟩)))
theorem width_spec (H : Heap) {p : Int} (hp : Supp p) : RCalls Tryd.prog 150 [.int .u64 p] H (Val (.int .u64 (expo p)) H) := by
  apply call150
  unfold m150
  refine oRC_val (len64_spec H hp) ?_
  have := (fn_supp hp).rng
  simp only [vConv_int, oV_some, wrap_u64 (by omega : 0 ≤ expo p) (by omega)]
  exact ⟨rfl, rfl⟩
theorem fold_loop {H : Heap} {p q : Int} (hq : FN p q) (hp : 31 ≤ p ∧ p ≤ 2305843009213693951) {kn : Value → Value → Heap → Prop} {Q : Ending → Heap → Prop} :
    ∀ (d : Nat) (hi lo : Int), (hi * 18446744073709551616 + lo).toNat ≤ d → 0 ≤ hi → hi ≤ 18446744073709551615 → 0 ≤ lo → lo ≤ 18446744073709551615 →
      (∀ x, 0 ≤ x → x ≤ p → x % p = (hi * 18446744073709551616 + lo) % p → kn (.int .u64 p) (.int .u64 x) H) → L146_2 (.int .u64 p) (.int .u64 hi) (.int .u64 lo) (.int .u64 q) H kn Q := by
  intro d
  induction d with
  | zero =>
    intro hi lo hd h0 h1 l0 l1 hk
    have : hi = 0 := by omega
    have : lo = 0 := by omega
    subst_vars
    apply L146_2_round
    unfold m146_3
    simp only [vInt_neq, oV_some, gV_bool, vPick_bool, vInt_gtr, ne_eq, not_true_eq_false, decide_false, if_true, Bool.false_eq_true, if_false, show ¬ (p < 0) by omega]
    exact condK_false (hk 0 (by omega) (by omega) rfl)
  | succ d ih =>
    intro hi lo hd h0 h1 l0 l1 hk
    apply L146_2_round
    unfold m146_3
    simp only [vInt_neq, oV_some, gV_bool]
    by_cases hz : hi = 0 ∧ lo ≤ p
    · obtain ⟨rfl, hl⟩ := hz
      simp only [ne_eq, not_true_eq_false, decide_false, if_true, oV_some, vInt_gtr, vPick_bool, Bool.false_eq_true, if_false, show ¬ (p < lo) by omega]
      exact condK_false (hk lo l0 hl (by simp))
    · have hc : ∀ A B : Prop, A → oV (if decide (hi ≠ 0) = false then some (Value.int .u64 lo) else some undef) (fun t16 => oV (if decide (hi ≠ 0) = false then some (Value.int .u64 p) else some undef) fun t17 =>
          oV (if decide (hi ≠ 0) = false then vInt .gtr t16 t17 else some undef) fun t18 => oV (vPick (.bool (decide (hi ≠ 0))) (.bool true) t18) fun t19 => condK t19 A B) := by
        intro A B hA
        by_cases he : hi = 0
        · simp only [he, ne_eq, not_true_eq_false, decide_false, if_true, oV_some, vInt_gtr, vPick_bool, Bool.false_eq_true, if_false, show p < lo by omega, decide_true]
          exact condK_true hA
        · simp only [he, ne_eq, not_false_eq_true, decide_true, if_true, oV_some, vPick_bool, Bool.true_eq_false, if_false]
          exact condK_true hA
      apply hc
      have hr := hq.rng
      obtain ⟨X, hX, x0, x1, hN⟩ := hq.or hi lo h0 h1 l0 l1
      have ew : IntKind.u64.wrap (64 - q) = 64 - q := wrap_u64 (by omega) (by omega)
      simp only [vInt_and, vInt_shr, vInt_sub, vInt_shl, vInt_or, vInt_add, oV_some, hq.and lo l0 l1, hq.shr, ew, if_neg (show ¬ (q < 0) by omega), if_neg (show ¬ (64 - q < 0) by omega), hX]
      have hP : 0 < p + 1 := by omega
      have hm0 := Int.emod_nonneg lo (show p + 1 ≠ 0 by omega)
      have hm1 := Int.emod_lt_of_pos lo hP
      have hNm : (hi * 18446744073709551616 + lo) % (p + 1) = lo % (p + 1) := by
        obtain ⟨c, hc⟩ := hq.dvd
        rw [hc, Int.mul_left_comm, Int.add_comm, Int.add_mul_emod_self_left]
      have hdiv := Int.mul_ediv_add_emod (hi * 18446744073709551616 + lo) (p + 1)
      rw [hN, hNm] at hdiv
      have hh0 : 0 ≤ hi / (p + 1) := Int.ediv_nonneg h0 (by omega)
      have hh1 : hi / (p + 1) ≤ hi := Int.ediv_le_self _ h0
      have hh2 : hi / (p + 1) ≤ 18446744073709551615 / 32 := by
        have h1 := Int.mul_ediv_add_emod hi (p + 1)
        have h2 := Int.emod_nonneg hi (show p + 1 ≠ 0 by omega)
        have h3 : 32 * (hi / (p + 1)) ≤ (p + 1) * (hi / (p + 1)) := Int.mul_le_mul_of_nonneg_right (by omega) hh0
        omega
      simp only [vAdd64, if_pos (show 0 ≤ X ∧ 0 ≤ lo % (p + 1) ∧ (0 : Int) ≤ 0 ∧ (0 : Int) ≤ 1 by omega), oV_some, vExtract_tuple]
      try simp only [List.getElem?_toArray, List.getElem?_cons_zero, List.getElem?_cons_succ, oV_some, vInt_add]
      have hlt64 : lo % (p + 1) ≤ lo := by
        have h1 := Int.mul_ediv_add_emod lo (p + 1)
        have h2 := Int.ediv_nonneg l0 (show 0 ≤ p + 1 by omega)
        have h3 := Int.mul_nonneg (show 0 ≤ p + 1 by omega) h2
        omega
      have hcar : (X + lo % (p + 1) + 0) / 18446744073709551616 ≤ 1 := by omega
      rw [wrap_u64 (by omega) (by omega)]
      have hsum : (hi / (p + 1) + (X + lo % (p + 1) + 0) / 18446744073709551616) * 18446744073709551616 + (X + lo % (p + 1) + 0) % 18446744073709551616 = hi / (p + 1) * 18446744073709551616 + X + lo % (p + 1) := by omega
      generalize hM : hi / (p + 1) * 18446744073709551616 + X = M at *
      have hM0 : 0 ≤ M := by omega
      have hlin : (p + 1) * M = p * M + M := by rw [Int.add_mul, Int.one_mul]
      have hbig : p < hi * 18446744073709551616 + lo := by omega
      have hM1 : 1 ≤ M := by
        by_cases hM2 : M = 0
        · subst hM2
          omega
        · omega
      have hpm : p ≤ p * M := by
        have := Int.mul_le_mul_of_nonneg_left hM1 (show 0 ≤ p by omega)
        omega
      refine ih _ _ (by rw [hsum]; omega) (by omega) (by omega) (by omega) (by omega) fun x a0 a1 hx => hk x a0 a1 ?_
      rw [hx, hsum, ← hdiv, hlin, Int.add_assoc, Int.add_comm (p * M), Int.add_mul_emod_self_left]
theorem fold_spec (H : Heap) {p hi lo : Int} (hp : Supp p) (h0 : 0 ≤ hi) (h1 : hi ≤ 18446744073709551615) (l0 : 0 ≤ lo) (l1 : lo ≤ 18446744073709551615) :
    RCalls Tryd.prog 146 [.int .u64 p, .int .u64 hi, .int .u64 lo] H (Val (.int .u64 ((hi * 18446744073709551616 + lo) % p)) H) := by
  apply call146
  unfold m146
  refine oRC_val (width_spec H hp) ?_
  refine fold_loop (fn_supp hp) hp.pos _ hi lo (Nat.le_refl _) h0 h1 l0 l1 fun x a0 a1 hx => ?_
  unfold m146_1
  simp only [vInt_eql, oV_some]
  have := hp.pos
  refine condK_dec (fun h => ⟨?_, rfl⟩) (fun h => ⟨?_, rfl⟩)
  · subst h
    rw [← hx, Int.emod_self]
  · rw [← hx, Int.emod_eq_of_lt a0 (by omega)]
end Go.Proofs.YtchhpagkdaaglaaDoor.SL
