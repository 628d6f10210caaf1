/- The reference's arithmetic on lists of bits: the walks. -/
import Derived.Test.YtpbaoefjkfdgmaaGadY
set_option linter.unusedVariables false
set_option linter.unusedSimpArgs false
namespace Go.Proofs.Ytpbaoefjkfdgmaa.SL
open Go

theorem or_lt {u v x : Value} {i n m : Nat} {A B : Prop} (hu : vLen u = some (.int .i64 n)) (hv : vLen v = some (.int .i64 m)) (hx : x = .int .i64 i) (ha : i < max n m → A) (hb : ¬ i < max n m → B) :
    oV (vLen u) fun t11 => oV (vInt .lss x t11) fun t12 => oV (gV t12 false (some x) (some undef)) fun t14 => oV (gV t12 false (some v) (some undef)) fun t15 => oV (gV t12 false (vLen t15) (some undef)) fun t16 =>
      oV (gV t12 false (vInt .lss t14 t16) (some undef)) fun t17 => oV (vPick t12 (.bool true) t17) fun t18 => condK t18 A B := by
  subst hx
  refine oV_eq hu (oV_eq (vInt_lss _ _ _) ?_)
  by_cases h : (i : Int) < n
  · rw [decide_eq_true h]
    simp only [↓hs_gTF, ↓hs_some, ↓hs_pickT]
    exact condK_true (ha (by omega))
  · rw [decide_eq_false h]
    simp only [↓hs_gFF, ↓hs_some, ↓oV_of hv, ↓hs_lss, ↓hs_pickF]
    exact condK_dec (fun h2 => ha (by omega)) (fun h2 => hb (by omega))
abbrev WL (H : Heap) (v : Value) (bs : List Bool) : Prop := Sl (eInt .u64) H v (bs.map wordOf)
theorem WL.len' {H : Heap} {v : Value} {bs : List Bool} (h : WL H v bs) : vLen v = some (.int .i64 bs.length) := by
  have := Sl.len h
  rwa [List.length_map] at this
theorem rbit_spec {H : Heap} {u : Value} {bs : List Bool} (h : WL H u bs) (i : Nat) : RCalls Try.prog 61 [u, .int .i64 i] H (Val (.int .u64 (wordOf (bs.getD i false))) H) := by
  apply call61
  unfold m61
  refine oV_eq h.len' (oV_eq (vInt_lss _ _ _) (condK_dec (fun hlt => ?_) (fun hlt => ?_)))
  · have hi : i < bs.length := by omega
    obtain ⟨q, f1, f2⟩ := Sl.int h .i64 (i := (i : Int)) (by omega) (by simp; omega) (ti := ty22) rfl
    have e : (bs.map wordOf).getD (i : Int).toNat 0 = wordOf (bs.getD i false) := by simp [hi]
    rw [e] at f2
    exact oV_eq f1 (oV_eq f2 ⟨rfl, rfl⟩)
  · have e : bs.getD i false = false := by
      rw [List.getD_eq_getElem?_getD, List.getElem?_eq_none (by omega)]
      rfl
    rw [e]
    exact ⟨rfl, rfl⟩
theorem wordOf_inj {a b : Bool} : wordOf a = wordOf b ↔ a = b := by cases a <;> cases b <;> decide
section
variable {H : Heap} {u v : Value} {xs ys : List Bool}
theorem rless_loop (hu : WL H u xs) (hv : WL H v ys) (hm : max xs.length ys.length ≤ 1000000) {kn : Value → Heap → Prop} {Q : Ending → Heap → Prop} (hk : kn (.int .u64 (wordOf (lessB xs ys))) H) :
    ∀ (d i : Nat), max xs.length ys.length - i = d → i ≤ max xs.length ys.length → L37_3 u v (.int .u64 (wordOf (runS fLess xs ys false i).2)) (.int .i64 i) H kn Q := by
  intro d
  induction d with
  | zero =>
    intro i hd hi
    apply L37_3_round
    unfold m37_4
    refine or_lt hu.len' hv.len' rfl (fun h => absurd h (by omega)) (fun _ => ?_)
    have : i = max xs.length ys.length := by omega
    subst this
    exact hk
  | succ d ih =>
    intro i hd hi
    apply L37_3_round
    unfold m37_4
    refine or_lt hu.len' hv.len' rfl (fun _ => ?_) (fun h => absurd (by omega) h)
    have := ih (i + 1) (by omega) (by omega)
    simp only [runS] at this
    refine oRC_val (rbit_spec hu i) (oRC_val (rbit_spec hv i) (oV_eq (vInt_neq _ _ _) (condK_dec (fun hne => ?_) (fun hne => ?_))))
    · refine oV_eq (vInt_add _ _ _) ?_
      rw [wrap_i64 (by omega) (by omega)]
      have e : (xs.getD i false != ys.getD i false) = true := bne_iff_ne.2 fun e => hne (by rw [e])
      simp only [fLess, e, if_true] at this
      exact this
    · refine oV_eq (vInt_add _ _ _) ?_
      rw [wrap_i64 (by omega) (by omega)]
      have e : xs.getD i false = ys.getD i false := by
        have h2 : wordOf (xs.getD i false) = wordOf (ys.getD i false) := by simpa using hne
        exact wordOf_inj.1 h2
      simp only [fLess, e, bne_self_eq_false, Bool.false_eq_true, if_false] at this
      exact this
theorem rless_spec (hu : WL H u xs) (hv : WL H v ys) (hm : max xs.length ys.length ≤ 1000000) : RCalls Try.prog 37 [u, v] H (Val (.int .u64 (wordOf (lessB xs ys))) H) := by
  apply call37
  unfold m37 m37_2
  exact rless_loop hu hv hm (by unfold m37_1; exact ⟨rfl, rfl⟩) _ 0 rfl (by omega)
theorem like_stay (xs ys : List Bool) (c : Bool) (i : Nat) (h : (runS fLike xs ys c i).2 = false) : ∀ d, (runS fLike xs ys c (i + d)).2 = false
  | 0 => h
  | d + 1 => by
    show (fLike _ _ (runS fLike xs ys c (i + d)).2).2 = false
    rw [like_stay xs ys c i h d]
    rfl
theorem requal_loop (hu : WL H u xs) (hv : WL H v ys) (hm : max xs.length ys.length ≤ 1000000) {kn : Heap → Prop} {Q : Ending → Heap → Prop} (hk : equalB xs ys = true → kn H) (hq : equalB xs ys = false → Q (.returned (.int .u64 0)) H) :
    ∀ (d i : Nat), max xs.length ys.length - i = d → i ≤ max xs.length ys.length → (runS fLike xs ys true i).2 = true → L38_3 u v (.int .i64 i) H kn Q := by
  intro d
  induction d with
  | zero =>
    intro i hd hi hs
    apply L38_3_round
    unfold m38_4
    refine or_lt hu.len' hv.len' rfl (fun h => absurd h (by omega)) (fun _ => ?_)
    have : i = max xs.length ys.length := by omega
    subst this
    exact hk hs
  | succ d ih =>
    intro i hd hi hs
    apply L38_3_round
    unfold m38_4
    refine or_lt hu.len' hv.len' rfl (fun _ => ?_) (fun h => absurd (by omega) h)
    have hstep : (runS fLike xs ys true (i + 1)).2 = !(xs.getD i false != ys.getD i false) := by
      show (fLike _ _ (runS fLike xs ys true i).2).2 = _
      rw [hs]
      simp [fLike]
    refine oRC_val (rbit_spec hu i) (oRC_val (rbit_spec hv i) (oV_eq (vInt_neq _ _ _) (condK_dec (fun hne => ?_) (fun hne => ?_))))
    · have e : (xs.getD i false != ys.getD i false) = true := bne_iff_ne.2 fun e => hne (by rw [e])
      rw [e] at hstep
      have := like_stay xs ys true (i + 1) hstep (max xs.length ys.length - (i + 1))
      rw [show i + 1 + (max xs.length ys.length - (i + 1)) = max xs.length ys.length by omega] at this
      exact hq this
    · refine oV_eq (vInt_add _ _ _) ?_
      rw [wrap_i64 (by omega) (by omega)]
      have e : xs.getD i false = ys.getD i false := by
        have h2 : wordOf (xs.getD i false) = wordOf (ys.getD i false) := by simpa using hne
        exact wordOf_inj.1 h2
      rw [e] at hstep
      exact ih (i + 1) (by omega) (by omega) (by simpa using hstep)
theorem requal_spec (hu : WL H u xs) (hv : WL H v ys) (hm : max xs.length ys.length ≤ 1000000) : RCalls Try.prog 38 [u, v] H (Val (.int .u64 (wordOf (equalB xs ys))) H) := by
  apply call38
  unfold m38 m38_2
  refine requal_loop hu hv hm (fun h => ?_) (fun h => ?_) _ 0 rfl (by omega) rfl
  · unfold m38_1
    rw [h]
    exact ⟨rfl, rfl⟩
  · rw [h]
    exact ⟨rfl, rfl⟩
/-- It gives the words of the bits; what is known stays. -/
def Lst (bs : List Bool) (H : Heap) : Ending → Heap → Prop := Ret fun v H' => Le H H' ∧ WL H' v bs
theorem add_word (a b c : Bool) : (IntKind.u64.wrap (IntKind.u64.wrap (wordOf a + wordOf b) + wordOf c)).tmod 2 = wordOf (fAdder a b c).1 ∧ IntKind.u64.wrap ((IntKind.u64.wrap (IntKind.u64.wrap (wordOf a + wordOf b) + wordOf c)).tdiv 2) = wordOf (fAdder a b c).2 := by
  cases a <;> cases b <;> cases c <;> decide
theorem WL.of_grown {H0 : Heap} {w : Value} {n : Nat} {bs : List Bool} (hl : bs.length = n) (h : Grown H0 H 1 22 w n ((bs.map wordOf).map (.int .u64))) : WL H w bs := Own.sl_int (t := 22) (by rw [List.length_map, hl]; exact h.2.1)
theorem radd_loop (hu : WL H u xs) (hv : WL H v ys) (hm : max xs.length ys.length ≤ 1000000) {kn : Value → Value → Heap → Prop} {Q : Ending → Heap → Prop} (hk : ∀ w K, Grown H K 1 22 w (max xs.length ys.length) (((runS fAdder xs ys false (max xs.length ys.length)).1.map wordOf).map (.int .u64)) → kn w (.int .u64 (wordOf (runS fAdder xs ys false (max xs.length ys.length)).2)) K) :
    ∀ (d i : Nat) (K : Heap) (w : Value), max xs.length ys.length - i = d → i ≤ max xs.length ys.length → Grown H K 1 22 w i (((runS fAdder xs ys false i).1.map wordOf).map (.int .u64)) → L64_3 u v w (.int .u64 (wordOf (runS fAdder xs ys false i).2)) (.int .i64 i) K kn Q := by
  intro d
  induction d with
  | zero =>
    intro i K w hd hi hg
    apply L64_3_round
    unfold m64_4
    refine or_lt hu.len' hv.len' rfl (fun h => absurd h (by omega)) (fun _ => ?_)
    have : i = max xs.length ys.length := by omega
    subst this
    exact hk w K hg
  | succ d ih =>
    intro i K w hd hi hg
    apply L64_3_round
    unfold m64_4
    refine or_lt hu.len' hv.len' rfl (fun _ => ?_) (fun h => absurd (by omega) h)
    obtain ⟨a1, a2⟩ := add_word (xs.getD i false) (ys.getD i false) (runS fAdder xs ys false i).2
    refine oRC_val (rbit_spec (Sl.mono hg.1 hu) i) (oRC_val (rbit_spec (Sl.mono hg.1 hv) i) (oV_eq (vInt_add _ _ _) (oV_eq (vInt_add _ _ _) (oV_eq (v := .int .u64 (wordOf (fAdder (xs.getD i false) (ys.getD i false) (runS fAdder xs ys false i).2).1)) ?_ ?_))))
    · rw [vInt_rem, if_neg (by decide), a1]
    refine Grown.append (te := ty22) hg rfl rfl (fun c hc => by rw [List.mem_singleton.1 hc]; rfl) (by show 0 < 1; omega) (by show (i + 1) * 8 ≤ _; omega) (by omega) fun w' K' hg' => ?_
    refine oV_eq (v := .int .u64 (wordOf (fAdder (xs.getD i false) (ys.getD i false) (runS fAdder xs ys false i).2).2)) ?_ (oV_eq (vInt_add _ _ _) ?_)
    · rw [vInt_quo, if_neg (by decide), a2]
    rw [wrap_i64 (by omega) (by omega)]
    refine ih (i + 1) K' w' (by omega) (by omega) ?_
    simp only [runS, List.map_append]
    exact hg'
theorem raddB_spec (hu : WL H u xs) (hv : WL H v ys) (hm : max xs.length ys.length ≤ 1000000) : RCalls Try.prog 64 [u, v] H (Lst (addB xs ys) H) := by
  apply call64
  unfold m64 m64_2
  refine radd_loop hu hv hm (fun w K hg => ?_) _ 0 H _ rfl (by omega) (Grown.nil _ _ _)
  unfold m64_1
  refine Grown.append (te := ty22) hg rfl rfl (fun c hc => by rw [List.mem_singleton.1 hc]; rfl) (by show 0 < 1; omega) (by show (max xs.length ys.length + 1) * 8 ≤ _; omega) (by omega) fun w' K' hg' => ?_
  refine ⟨hg'.1, WL.of_grown (H0 := H) (addB_len xs ys) ?_⟩
  simp only [addB, List.map_append]
  exact hg'
theorem sub_word (a b c : Bool) : (IntKind.u64.wrap (IntKind.u64.wrap (IntKind.u64.wrap (2 + wordOf a) - wordOf b) - wordOf c)).tmod 2 = wordOf (fTaker a b c).1 ∧ IntKind.u64.wrap (1 - IntKind.u64.wrap ((IntKind.u64.wrap (IntKind.u64.wrap (IntKind.u64.wrap (2 + wordOf a) - wordOf b) - wordOf c)).tdiv 2)) = wordOf (fTaker a b c).2 := by
  cases a <;> cases b <;> cases c <;> decide
theorem rsub_loop (hu : WL H u xs) (hv : WL H v ys) (hm : max xs.length ys.length ≤ 1000000) (no : Bool) {kn : Value → Heap → Prop} {Q : Ending → Heap → Prop} (hk : ∀ w K, Grown H K 1 22 w xs.length ((((runS fTaker xs ys false xs.length).1.map fun b => b && !no).map wordOf).map (.int .u64)) → kn w K) :
    ∀ (d i : Nat) (K : Heap) (w : Value), xs.length - i = d → i ≤ xs.length → Grown H K 1 22 w i ((((runS fTaker xs ys false i).1.map fun b => b && !no).map wordOf).map (.int .u64)) → L65_3 u v w (.bool no) (.int .u64 (wordOf (runS fTaker xs ys false i).2)) (.int .i64 i) K kn Q := by
  intro d
  induction d with
  | zero =>
    intro i K w hd hi hg
    apply L65_3_round
    unfold m65_4
    refine oV_eq hu.len' (oV_eq (vInt_lss _ _ _) (condK_dec (fun hlt => absurd hlt (by omega)) (fun _ => ?_)))
    have : i = xs.length := by omega
    subst this
    exact hk w K hg
  | succ d ih =>
    intro i K w hd hi hg
    apply L65_3_round
    unfold m65_4
    refine oV_eq hu.len' (oV_eq (vInt_lss _ _ _) (condK_dec (fun hlt => ?_) (fun hlt => absurd (by omega) hlt)))
    obtain ⟨a1, a2⟩ := sub_word (xs.getD i false) (ys.getD i false) (runS fTaker xs ys false i).2
    refine oRC_val (rbit_spec (Sl.mono hg.1 hu) i) (oV_eq (vInt_add _ _ _) (oRC_val (rbit_spec (Sl.mono hg.1 hv) i) (oV_eq (vInt_sub _ _ _) (oV_eq (vInt_sub _ _ _) ?_))))
    refine oV_eq (by rw [vInt_quo, if_neg (by decide)]) (oV_eq (vInt_sub _ _ _) ?_)
    rw [a2]
    have next : ∀ (z : Bool) w' K', Grown H K' 1 22 w' (i + 1) ((((runS fTaker xs ys false i).1.map fun b => b && !no).map wordOf).map (.int .u64) ++ [.int .u64 (wordOf z)]) → z = ((fTaker (xs.getD i false) (ys.getD i false) (runS fTaker xs ys false i).2).1 && !no) →
        L65_3 u v w' (.bool no) (.int .u64 (wordOf (fTaker (xs.getD i false) (ys.getD i false) (runS fTaker xs ys false i).2).2)) (.int .i64 ((i : Int) + 1)) K' kn Q := fun z w' K' hg' hz => by
      refine ih (i + 1) K' w' (by omega) (by omega) ?_
      simp only [runS, List.map_append]
      subst hz
      exact hg'
    cases no with
    | true =>
      refine condK_true (Grown.append (te := ty22) hg rfl rfl (fun c hc => by rw [List.mem_singleton.1 hc]; rfl) (by show 0 < 1; omega) (by show (i + 1) * 8 ≤ _; omega) (by omega) fun w' K' hg' => oV_eq (vInt_add _ _ _) ?_)
      rw [wrap_i64 (by omega) (by omega)]
      exact next false w' K' hg' (by simp)
    | false =>
      refine condK_false (oV_eq (v := .int .u64 (wordOf (fTaker (xs.getD i false) (ys.getD i false) (runS fTaker xs ys false i).2).1)) (by rw [vInt_rem, if_neg (by decide), a1]) ?_)
      refine Grown.append (te := ty22) hg rfl rfl (fun c hc => by rw [List.mem_singleton.1 hc]; rfl) (by show 0 < 1; omega) (by show (i + 1) * 8 ≤ _; omega) (by omega) fun w' K' hg' => oV_eq (vInt_add _ _ _) ?_
      rw [wrap_i64 (by omega) (by omega)]
      exact next _ w' K' hg' (by simp)
theorem rsubB_spec (hu : WL H u xs) (hv : WL H v ys) (hm : max xs.length ys.length ≤ 1000000) : RCalls Try.prog 65 [u, v] H (Lst (subB xs ys) H) := by
  apply call65
  unfold m65
  refine oRC_val (rless_spec hu hv hm) ?_
  have e : vInt .eql (.int .u64 (wordOf (lessB xs ys))) (.int .u64 1) = some (.bool (lessB xs ys)) := by
    rw [vInt_eql]
    cases lessB xs ys <;> rfl
  refine oV_eq e ?_
  unfold m65_2
  refine rsub_loop hu hv hm (lessB xs ys) (fun w K hg => ?_) _ 0 H _ rfl (by omega) (Grown.nil _ _ _)
  unfold m65_1
  exact ⟨hg.1, WL.of_grown (by simp [subB, runS_len]) hg⟩
/-! ### Mul -/
theorem set_mid {α : Type} (A B C : List α) (x y : α) : (A ++ B ++ x :: C).set (A.length + B.length) y = A ++ (B ++ [y]) ++ C := by
  rw [show A.length + B.length = (A ++ B).length by simp, List.set_append_right _ _ (Nat.le_refl _), Nat.sub_self]
  simp
theorem add_word0 (a b c : Bool) : (IntKind.u64.wrap (IntKind.u64.wrap (wordOf a + wordOf b) + wordOf c)).tmod 2 = wordOf (fAdder a b c).1 := (add_word a b c).1
theorem rmul_inner {H0 : Heap} (hu : WL H0 u xs) {x1 : Value} {out : List Bool} {n i : Nat} (hn : out.length = n) (hi : i ≤ n) (hm : n ≤ 1000000) {kn : Value → Value → Value → Value → Heap → Prop} {kx1 : Value → Value → Value → Value → Heap → Prop} {kx0 : Value → Heap → Prop} {Q : Ending → Heap → Prop}
    (hk : ∀ w K, Grown H0 K 1 22 w n (((out.take i ++ (runS fAdder (out.drop i) xs false (n - i)).1).map wordOf).map (.int .u64)) → kn u x1 w (.int .i64 i) K) :
    ∀ (d k : Nat) (K : Heap) (w : Value), n - i - k = d → i + k ≤ n → Grown H0 K 1 22 w n (((out.take i ++ (runS fAdder (out.drop i) xs false k).1 ++ out.drop (i + k)).map wordOf).map (.int .u64)) →
      L66_8 u x1 w (.int .i64 i) (.int .u64 (wordOf (runS fAdder (out.drop i) xs false k).2)) (.int .i64 k) K kn kx1 kx0 Q := by
  intro d
  induction d with
  | zero =>
    intro k K w hd hik hg
    apply L66_8_round
    unfold m66_9
    refine oV_eq (vInt_add _ _ _) ?_
    rw [wrap_i64 (by omega) (by omega)]
    refine oV_eq hg.2.1.len (oV_eq (vInt_lss _ _ _) (condK_dec (fun hlt => absurd hlt (by omega)) (fun _ => ?_)))
    have e : k = n - i := by omega
    subst e
    have e2 : out.drop (i + (n - i)) = [] := List.drop_eq_nil_of_le (by omega)
    rw [e2, List.append_nil] at hg
    exact hk w K hg
  | succ d ih =>
    intro k K w hd hik hg
    apply L66_8_round
    unfold m66_9
    refine oV_eq (vInt_add _ _ _) ?_
    have ea : IntKind.i64.wrap ((i : Int) + (k : Int)) = ((i + k : Nat) : Int) := by
      rw [wrap_i64 (by omega) (by omega)]
      omega
    rw [ea]
    refine oV_eq hg.2.1.len (oV_eq (vInt_lss _ _ _) (condK_dec (fun hlt => ?_) (fun hlt => absurd (by omega) hlt)))
    obtain ⟨q, x, g1, g2, g3, g4⟩ := hg.ix .i64 (i := i + k) (by omega)
    have hik' : i + k < out.length := by omega
    have hd2 : out.drop (i + k) = out[i + k] :: out.drop (i + k + 1) := List.drop_eq_getElem_cons hik'
    have tl : (out.take i).length = i := by rw [List.length_take]; omega
    have rl := runS_len fAdder (out.drop i) xs false k
    have ex : x = .int .u64 (wordOf ((out.drop i).getD k false)) := by
      rw [List.getElem?_map, List.getElem?_map, List.getElem?_append_right (by simp; omega), List.getElem?_drop] at g2
      have e0 : i + k + (i + k - (out.take i ++ (runS fAdder (out.drop i) xs false k).1).length) = i + k := by
        rw [List.length_append, tl, rl]
        omega
      rw [e0, List.getElem?_eq_getElem hik'] at g2
      have := (Option.some.inj g2).symm
      rw [this]
      simp [hik']
    subst ex
    obtain ⟨a1, a2⟩ := add_word ((out.drop i).getD k false) (xs.getD k false) (runS fAdder (out.drop i) xs false k).2
    obtain ⟨K2, s1, s2, _, _⟩ := g4 ty22 (.int .u64 (wordOf (fAdder ((out.drop i).getD k false) (xs.getD k false) (runS fAdder (out.drop i) xs false k).2).1)) rfl rfl rfl
    refine oV_eq (vInt_add _ _ _) ?_
    rw [ea]
    refine oV_eq g1 (oV_eq (g3 ty22 rfl) (oRC_val (rbit_spec (Sl.mono hg.1 hu) k) ⟨g3 ty22 rfl, ?_⟩))
    refine oV_eq (vInt_add _ _ _) (oV_eq (vInt_add _ _ _) (oV_eq (vInt_add _ _ _) ?_))
    rw [ea]
    refine oV_eq (by rw [vInt_rem, if_neg (by decide), a1]) (oV_eq g1 (oHeap_eq s1 (oV_eq (by rw [vInt_quo, if_neg (by decide), a2]) (oV_eq (vInt_add _ _ _) ?_))))
    rw [wrap_i64 (by omega) (by omega)]
    refine ih (k + 1) K2 w (by omega) (by omega) ?_
    have e3 := set_mid (out.take i) (runS fAdder (out.drop i) xs false k).1 (out.drop (i + k + 1)) out[i + k] (fAdder ((out.drop i).getD k false) (xs.getD k false) (runS fAdder (out.drop i) xs false k).2).1
    rw [← hd2, tl, rl] at e3
    simp only [runS]
    rw [show i + (k + 1) = i + k + 1 by omega, ← e3, List.map_set, List.map_set]
    exact s2
theorem rmul_outer {H0 : Heap} (hu : WL H0 u xs) (hv : WL H0 v ys) (hm : xs.length + ys.length ≤ 1000000) {kn : Value → Heap → Prop} {Q : Ending → Heap → Prop}
    (hk : ∀ w K, Grown H0 K 1 22 w (xs.length + ys.length) (((mulR xs ys ys.length).map wordOf).map (.int .u64)) → kn w K) :
    ∀ (d i : Nat) (K : Heap) (w : Value), ys.length - i = d → i ≤ ys.length → Grown H0 K 1 22 w (xs.length + ys.length) (((mulR xs ys i).map wordOf).map (.int .u64)) → L66_3 u v w (.int .i64 i) K kn Q := by
  intro d
  induction d with
  | zero =>
    intro i K w hd hi hg
    apply L66_3_round
    unfold m66_4
    refine oV_eq hv.len' (oV_eq (vInt_lss _ _ _) (condK_dec (fun hlt => absurd hlt (by omega)) (fun _ => ?_)))
    have : i = ys.length := by omega
    subst this
    exact hk w K hg
  | succ d ih =>
    intro i K w hd hi hg
    apply L66_3_round
    unfold m66_4
    refine oV_eq hv.len' (oV_eq (vInt_lss _ _ _) (condK_dec (fun hlt => ?_) (fun hlt => absurd (by omega) hlt)))
    unfold m66_6 m66_7
    obtain ⟨q, f1, f2⟩ := Sl.int (Sl.mono hg.1 hv) .i64 (i := (i : Int)) (by omega) (by simp; omega) (ti := ty22) rfl
    have hil : i < ys.length := by omega
    have e : (ys.map wordOf).getD (i : Int).toNat 0 = wordOf (ys.getD i false) := by simp [hil]
    rw [e] at f2
    have next : ∀ w' K', Grown H0 K' 1 22 w' (xs.length + ys.length) (((mulR xs ys (i + 1)).map wordOf).map (.int .u64)) → m66_5 u v w' (.int .i64 i) K' (fun y0 y1 y5 y6 H => L66_3 y0 y1 y5 y6 H kn Q) kn Q := fun w' K' hg' => by
      unfold m66_5
      refine oV_eq (vInt_add _ _ _) ?_
      rw [wrap_i64 (by omega) (by omega)]
      exact ih (i + 1) K' w' (by omega) (by omega) hg'
    simp only [mulR] at next
    refine oV_eq f1 (oV_eq f2 (oV_eq (vInt_eql _ _ _) (condK_dec (fun h0 => ?_) (fun h0 => ?_))))
    · have hb : ys.getD i false = false := by
        cases h : ys.getD i false with
        | false => rfl
        | true => rw [h] at h0; exact absurd h0 (by decide)
      rw [hb] at next
      exact next w K hg
    · have hb : ys.getD i false = true := by
        cases h : ys.getD i false with
        | true => rfl
        | false => rw [h] at h0; exact absurd rfl h0
      rw [hb, if_pos rfl] at next
      have hl := mulR_len xs ys i (by omega)
      refine rmul_inner (H0 := H0) hu (out := mulR xs ys i) (n := xs.length + ys.length) (i := i) hl (by omega) hm (fun w' K' hg' => next w' K' hg') _ 0 K w rfl (by omega) ?_
      simp only [runS, List.append_nil, Nat.add_zero, List.take_append_drop]
      exact hg
theorem rmulB_spec (hu : WL H u xs) (hv : WL H v ys) (hm : xs.length + ys.length ≤ 1000000) : RCalls Try.prog 66 [u, v] H (Lst (mulB xs ys) H) := by
  apply call66
  unfold m66
  refine oV_eq hu.len' (oV_eq hv.len' (oV_eq (vInt_add _ _ _) ?_))
  have e : IntKind.i64.wrap ((xs.length : Int) + (ys.length : Int)) = ((xs.length + ys.length : Nat) : Int) := by
    rw [wrap_i64 (by omega) (by omega)]
    omega
  rw [e]
  refine oMake_own (te := ty22) rfl (by show 8 * _ ≤ _; omega) (by omega) fun w K hg => ?_
  unfold m66_2
  have hz : zerosL ty22 (xs.length + ys.length) = ((mulR xs ys 0).map wordOf).map (.int .u64) := by
    rw [zerosL_one rfl, mulR, List.map_replicate, List.map_replicate]
    rfl
  rw [hz] at hg
  refine rmul_outer hu hv hm (fun w K hg => ?_) _ 0 K w rfl (by omega) hg
  unfold m66_1
  rw [mul_same] at hg
  exact ⟨hg.1, WL.of_grown (mulB_len xs ys) hg⟩
theorem lists_spec0 (hu : WL H u xs) (hv : WL H v ys) (hm : xs.length + ys.length ≤ 1000000) : RCalls Try.prog 43 [.int .i64 0, u, v] H (Lst (addB xs ys) H) := by
  apply call43
  unfold m43
  exact oV_eq (vInt_eql _ _ _) (condK_true (oRC_ret (raddB_spec hu hv (by omega)) fun w K r => r))
theorem lists_spec1 (hu : WL H u xs) (hv : WL H v ys) (hm : xs.length + ys.length ≤ 1000000) : RCalls Try.prog 43 [.int .i64 1, u, v] H (Lst (subB xs ys) H) := by
  apply call43
  unfold m43
  exact oV_eq (vInt_eql _ _ _) (condK_false (oV_eq (vInt_eql _ _ _) (condK_true (oRC_ret (rsubB_spec hu hv (by omega)) fun w K r => r))))
theorem lists_spec2 (hu : WL H u xs) (hv : WL H v ys) (hm : xs.length + ys.length ≤ 1000000) : RCalls Try.prog 43 [.int .i64 2, u, v] H (Lst (mulB xs ys) H) := by
  apply call43
  unfold m43
  exact oV_eq (vInt_eql _ _ _) (condK_false (oV_eq (vInt_eql _ _ _) (condK_false (oRC_ret (rmulB_spec hu hv hm) fun w K r => r))))
/-! ### Number -/
theorem number_mod (p n : Int) (b : Bool) : ((n % p + n % p) % p + wordOf b) % p = (wordOf b + 2 * n) % p := by
  rw [← Int.add_emod, Int.add_emod, Int.emod_emod, ← Int.add_emod]
  congr 1
  omega
theorem number_loop {p : Int} (hp : Supp p) (hu : WL H u xs) (hm : xs.length ≤ 1000000) {kn : Value → Heap → Prop} {Q : Ending → Heap → Prop} (hk : kn (.int .u64 ((num xs : Int) % p)) H) :
    ∀ (d : Nat), d ≤ xs.length → L39_3 (.int .u64 p) u (.int .u64 ((num (xs.drop d) : Int) % p)) (.int .i64 ((d : Int) - 1)) H kn Q := by
  have hpp := hp.pos
  intro d
  induction d with
  | zero =>
    intro hd
    apply L39_3_round
    unfold m39_4
    refine oV_eq (vInt_geq _ _ _) (condK_dec (fun hlt => absurd hlt (by omega)) (fun _ => ?_))
    exact hk
  | succ d ih =>
    intro hd
    apply L39_3_round
    unfold m39_4
    have e1 : (((d + 1 : Nat) : Int) - 1) = (d : Int) := by omega
    rw [e1]
    refine oV_eq (vInt_geq _ _ _) (condK_dec (fun _ => ?_) (fun hlt => absurd (by omega) hlt))
    have hdl : d < xs.length := by omega
    obtain ⟨q, f1, f2⟩ := Sl.int hu .i64 (i := (d : Int)) (by omega) (by simp; omega) (ti := ty22) rfl
    have e : (xs.map wordOf).getD (d : Int).toNat 0 = wordOf xs[d] := by simp [hdl]
    rw [e] at f2
    have hw := wordOf_rng xs[d]
    have h0 := Int.emod_nonneg (num (xs.drop (d + 1)) : Int) (show p ≠ 0 by omega)
    have h1 := Int.emod_lt_of_pos (num (xs.drop (d + 1)) : Int) (show 0 < p by omega)
    have h2 := Int.emod_nonneg (((num (xs.drop (d + 1)) : Int) % p + (num (xs.drop (d + 1)) : Int) % p)) (show p ≠ 0 by omega)
    have h3 := Int.emod_lt_of_pos (((num (xs.drop (d + 1)) : Int) % p + (num (xs.drop (d + 1)) : Int) % p)) (show 0 < p by omega)
    refine oV_eq f1 (oV_eq f2 (oRC_val (radd_spec H (by omega) h0 h0 (by omega)) ⟨f2, oRC_val (radd_spec H (by omega) h2 hw.1 (by omega)) (oV_eq (vInt_sub _ _ _) ?_)⟩))
    rw [wrap_i64 (by omega) (by omega), number_mod]
    have := ih (by omega)
    rw [List.drop_eq_getElem_cons hdl] at this
    have e2 : ((num (xs[d] :: xs.drop (d + 1)) : Nat) : Int) = wordOf xs[d] + 2 * (num (xs.drop (d + 1)) : Int) := by
      cases xs[d] <;> simp [num, wordOf]
    rw [e2] at this
    exact this
theorem number_spec {p : Int} (hp : Supp p) (hu : WL H u xs) (hm : xs.length ≤ 1000000) : RCalls Try.prog 39 [.int .u64 p, u] H (Val (.int .u64 ((num xs : Int) % p)) H) := by
  have hpp := hp.pos
  apply call39
  unfold m39 m39_2
  refine oV_eq hu.len' (oV_eq (vInt_sub _ _ _) ?_)
  rw [wrap_i64 (by omega) (by omega)]
  have := number_loop hp hu hm (kn := fun y5 K => m39_1 y5 K (Val (.int .u64 ((num xs : Int) % p)) H)) (Q := Val (.int .u64 ((num xs : Int) % p)) H) (by unfold m39_1; exact ⟨rfl, rfl⟩) xs.length (Nat.le_refl _)
  rw [List.drop_length] at this
  simpa [num] using this
end
end Go.Proofs.Ytpbaoefjkfdgmaa.SL
