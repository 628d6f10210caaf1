/- Slices of slices; comparing, adding, subtracting lists of bits: the walks. -/
import Derived.Test.YtpbaoefjkfdgmaaGadT
import Derived.Test.YtpbaoefjkfdgmaaGadR
set_option linter.unusedVariables false
set_option linter.unusedSimpArgs false
namespace Go.Proofs.Ytpbaoefjkfdgmaa.SL
open Go

/-! ### Slices of whole numbers -/
theorem Sl.ints {k : IntKind} {H : Heap} {v : Value} {xs : List Int} (h : Sl (eInt k) H v xs) : ∃ b cap, v = .slice b xs.length cap ∧ xs.length ≤ cap ∧ xs.length ≤ 9223372036854775807 ∧ rdSlice 1 H b xs.length = some (xs.map (.int k)) := by
  obtain ⟨b, cap, cs, h1, h2, h3, h4, h5⟩ := h
  refine ⟨b, cap, h1, h2, h3, ?_⟩
  have e : cs = xs.map (.int k) := by
    have hl := rdSlice_len h4
    apply List.ext_getElem?
    intro i
    by_cases hi : i < xs.length
    · have := h5 i xs[i] (List.getElem?_eq_getElem hi)
      have e1 : (cs.drop (i * 1)).take 1 = [.int k xs[i]] := this
      have e2 := congrArg (·[0]?) e1
      simp only [List.getElem?_take, List.getElem?_drop] at e2
      simpa [hi] using e2
    · rw [List.getElem?_eq_none (by rw [hl]; show xs.length * 1 ≤ i; omega), List.getElem?_eq_none (by simp; omega)]
  rw [← e]
  exact h4
theorem Sl.of_ints {k : IntKind} {H : Heap} {xs : List Int} {b : Option Addr} {n cap : Nat} (h1 : xs.length = n) (h2 : n ≤ cap) (h3 : n ≤ 9223372036854775807) (h4 : rdSlice 1 H b n = some (xs.map (.int k))) : Sl (eInt k) H (.slice b n cap) xs := by
  subst h1
  exact ⟨b, cap, _, rfl, h2, h3, h4, fun i x hx => one_get _ i (.int k x) (by rw [List.getElem?_map, hx]; rfl)⟩
theorem rdSlice_sub {H : Heap} {i off n l m : Nat} {cs : List Value} (h : rdSlice 1 H (some ⟨i, off, none⟩) n = some cs) (hm : l + m ≤ n) (o : Nat) (ho : o = off + l ∨ m = 0) : rdSlice 1 H (some ⟨i, o, none⟩) m = some ((cs.drop l).take m) := by
  unfold rdSlice at h ⊢
  by_cases hm0 : m = 0
  · subst hm0
    simp
  rw [if_neg hm0]
  rw [if_neg (by omega)] at h
  have : o = off + l := by omega
  subst this
  simp only [rdCells, Nat.mul_one] at h ⊢
  cases hc : H i with
  | none => rw [hc] at h; cases h
  | some c =>
    rw [hc] at h
    cases c with
    | cells ds a e w =>
      simp only at h ⊢
      by_cases hle : off + n ≤ ds.length
      · rw [if_pos hle] at h
        cases h
        rw [if_pos (by omega)]
        congr 1
        apply List.ext_getElem?
        intro j
        simp only [List.getElem?_take, List.getElem?_drop]
        by_cases hj : j < m
        · rw [if_pos hj, if_pos hj, if_pos (by omega)]
          congr 1
          omega
        · rw [if_neg hj, if_neg hj]
      · rw [if_neg hle] at h
        cases h
    | _ => cases h
theorem vBound_nat {y i : Nat} (h : i ≤ y) : vBound y (.int .i64 i) = some i := by
  show (if (0 : Int) ≤ i ∧ (i : Int) ≤ y then some (i : Int).toNat else none) = some i
  rw [if_pos (by omega)]
  simp
theorem Own.from_ {k : IntKind} {e : TypeId} {H : Heap} {v : Value} {n : Nat} {xs : List Int} (h : Own 1 e H v n (xs.map (.int k))) {i : Nat} (hi : i ≤ n) : ∃ u, vSlice 1 v (some (.int .i64 i)) none none = some u ∧ Sl (eInt k) H u (xs.drop i) := by
  have hn : xs.length = n := by simpa using h.length
  have hlen : (xs.drop i).length = n - i := by rw [List.length_drop, hn]
  obtain ⟨b, cap, e1, hc, hr⟩ := h.read
  rcases h with ⟨h1, h2, h3⟩ | ⟨j, cap', h1, h2, h3, h4, h5⟩
  · subst h1
    cases e1
    have : i = 0 := by omega
    subst this
    have : xs = [] := by simpa using h3
    subst this
    exact ⟨.slice none 0 0, rfl, Sl.of_ints rfl (by omega) (by omega) rfl⟩
  · subst h1
    cases e1
    refine ⟨.slice (some ⟨j, if cap = i then 0 else 0 + i * 1, none⟩) (n - i) (cap - i), ?_, Sl.of_ints hlen (by omega) (by omega) ?_⟩
    · simp only [vSlice, Option.bind_some, Option.isSome_none, Bool.false_eq_true, if_false, vBound_nat hi]
    · rw [rdSlice_sub hr (l := i) (m := n - i) (by omega) _ (by split <;> omega), ← List.map_drop, List.take_of_length_le (by simp [hn])]
theorem Own.upto {k : IntKind} {e : TypeId} {H : Heap} {v : Value} {n : Nat} {xs : List Int} (h : Own 1 e H v n (xs.map (.int k))) {i : Nat} (hi : i ≤ n) : ∃ u, vSlice 1 v none (some (.int .i64 i)) none = some u ∧ Sl (eInt k) H u (xs.take i) := by
  have hn : xs.length = n := by simpa using h.length
  have hlen : (xs.take i).length = i := by rw [List.length_take]; omega
  have hmx := h.max
  obtain ⟨b, cap, e1, hc, hr⟩ := h.read
  rcases h with ⟨h1, h2, h3⟩ | ⟨j, cap', h1, h2, h3, h4, h5⟩
  · subst h1
    cases e1
    have : i = 0 := by omega
    subst this
    have : xs = [] := by simpa using h3
    subst this
    exact ⟨.slice none 0 0, rfl, Sl.of_ints rfl (by omega) (by omega) rfl⟩
  · subst h1
    cases e1
    refine ⟨.slice (some ⟨j, if cap = 0 then 0 else 0 + 0 * 1, none⟩) (i - 0) (cap - 0), ?_, Sl.of_ints (by omega) (by omega) (by omega) ?_⟩
    · simp only [vSlice, Option.bind_some, Option.isSome_none, Bool.false_eq_true, if_false, vBound_nat (show i ≤ cap by omega)]
    · rw [rdSlice_sub hr (l := 0) (m := i - 0) (by omega) _ (by split <;> omega), List.drop_zero, List.map_take]
      rfl
theorem clone_own {H : Heap} {v : Value} {xs : List Int} (h : Sl (eInt .i64) H v xs) (hn : xs.length ≤ 1000000000) : RCalls Try.prog 55 [v] H (Ret fun v' H' => Grown H H' 1 3 v' xs.length (icells xs)) := by
  apply call55
  unfold m55
  obtain ⟨b, cap, rfl, h2, h3, h4⟩ := h.ints
  cases b with
  | none =>
    have : xs.length = 0 := by
      rcases Nat.eq_zero_or_pos xs.length with e | e
      · exact e
      · unfold rdSlice at h4
        rw [if_neg (by omega)] at h4
        cases h4
    have : xs = [] := List.eq_nil_of_length_eq_zero this
    subst this
    exact condK_true (Grown.nil H 1 3)
  | some a =>
    refine condK_false (append_copy (te := ty3) h4 ?_ (by show 0 < 1; omega) (by show xs.length * 8 ≤ _; omega) (by omega) (by simp [ty3]) fun v' H' hg => hg)
    intro v hv
    obtain ⟨x, _, rfl⟩ := List.mem_map.1 hv
    rfl
/-- What has grown is new. -/
theorem Grown.new {G H H' : Heap} {sz n : Nat} {e : TypeId} {v : Value} {cs : List Value} (h : Grown H H' sz e v n cs) (hl : Le G H) : ∃ N, New H H' N ∧ Grown G (hun G N) sz e v n cs := by
  rcases h.2.1 with ⟨h1, h2, h3⟩ | ⟨j, cap, h1, h2, h3, h4, h5⟩
  · subst h1
    subst h2
    subst h3
    refine ⟨fun _ => none, ⟨h.1, fun i c hc => (by cases hc), fun i hi => absurd rfl hi⟩, hun_left _ _, .nil _ _ _, fun j hj => (by cases hj)⟩
  · have hj := h.2.2 j (by rw [h1]; rfl)
    have hjG : G j = none := none_le hl hj
    refine ⟨hone j (.cells cs (cap * sz) e true), ⟨h.1, hone_le h4, fun i hi => ?_⟩, hun_left _ _, .inr ⟨j, cap, h1, h2, h3, ?_, h5⟩, fun i hi => ?_⟩
    · by_cases c : i = j
      · subst c
        exact hj
      · simp [hone, c] at hi
    · simp [hun, hjG, hone]
    · rw [h1] at hi
      cases hi
      exact hjG
theorem bd_appendS {te : TI} {e : TypeId} {v : Value} {n : Nat} {cs new : List Value} {xb : Option Addr} {xl xc : Nat} {G0 G H : Heap} {b : Value} {p : Int} {gs : List Gate} {os : List Int} {k : Value → Heap → Prop} (hB : Bd G H b p gs os) (hg : Grown G0 G te.size e v n cs) (hx : rdSlice te.size H xb xl = some new)
    (h1 : ∀ c ∈ new, c.oneCell' = true) (hp : 0 < xl) (hs : 0 < te.size) (hb : (n + xl) * te.bytes ≤ 140737488355328) (hm : n + xl ≤ 9223372036854775807) (hl : new.length = xl * te.size)
    (hk : ∀ v' G' H', Bd G' H' b p gs os → Grown G0 G' te.size e v' (n + xl) (cs ++ new) → k v' H') :
    oAppend te e v (.slice xb xl xc) H k := by
  have ho : Own te.size e H v n cs := hg.2.1.mono fun j hj => by
    obtain ⟨_, _, h⟩ := hg.2.1.at_ hj
    rw [h, hB.le _ _ h]
  refine oAppend_own ho hx h1 hp hs hb hm hl fun j cap hj hc hc2 => hk _ (hins G j (.cells (cs ++ new) (cap * te.size) e true)) _ ?_ ⟨?_, .inr ⟨j, cap, rfl, hc, hc2, hins_self _ _ _, ?_⟩, fun i hi => ?_⟩
  · rcases hj with hj | hj
    · obtain ⟨_, _, h⟩ := hg.2.1.at_ hj
      exact hB.put (by rw [h]; simp) _
    · exact hB.fresh hj _
  · have hj0 : G0 j = none := by
      rcases hj with hj | hj
      · exact hg.2.2 j hj
      · exact none_le hg.1 (none_le hB.le hj)
    intro i c hi
    rw [hins_other _ _ (fun e => by subst e; rw [hj0] at hi; cases hi)]
    exact hg.1 i c hi
  · rw [List.length_append, hg.2.1.length, hl, Nat.add_mul]
  · cases hi
    rcases hj with hj | hj
    · exact hg.2.2 _ hj
    · exact none_le hg.1 (none_le hB.le hj)
/-! ### Lengths -/
section
variable (gs : List Gate) (x y z k : Int)
@[simp] theorem pConst_len : (pConst k gs).2.length = gs.length + 1 := by simp [pConst]
@[simp] theorem pAdd_len : (pAdd x y gs).2.length = gs.length + 1 := by simp [pAdd]
@[simp] theorem pSub_len : (pSub x y gs).2.length = gs.length + 1 := by simp [pSub]
@[simp] theorem pScale_len : (pScale k x gs).2.length = gs.length + 1 := by simp [pScale]
@[simp] theorem pMul_len : (pMul x y gs).2.length = gs.length + 1 := by simp [pMul]
@[simp] theorem pNot_len : (pNot x gs).2.length = gs.length + 2 := by simp [pNot]
@[simp] theorem pWithout_len : (pWithout x y z gs).2.length = gs.length + 3 := by simp [pWithout]
@[simp] theorem pXor_len : (pXor x y gs).2.length = gs.length + 4 := by simp [pXor]
@[simp] theorem pSelect_len : (pSelect x y z gs).2.length = gs.length + 3 := by simp [pSelect]
@[simp] theorem oAdder_len : (oAdder x y z gs).2.length = gs.length + 9 := by simp [oAdder]
@[simp] theorem oTaker_len : (oTaker x y z gs).2.length = gs.length + 11 := by simp [oTaker]
@[simp] theorem oLess_len : (oLess x y z gs).2.length = gs.length + 7 := by simp [oLess]
@[simp] theorem oLike_len : (oLike x y z gs).2.length = gs.length + 7 := by simp [oLike]
end
theorem pBit_len2 (x : List Int) (i : Nat) (nought : Int) (gs : List Gate) : (pBit x i nought gs).2.2.length + (if (pBit x i nought gs).2.1 < 0 then 1 else 0) ≤ gs.length + (if nought < 0 then 1 else 0) := by
  unfold pBit
  split
  · exact Nat.le_refl _
  · split
    · rename_i h
      have h2 : ¬ ((gs.length : Int) < 0) := by omega
      simp only [if_neg h2]
      simp
    · rename_i h
      simp [h]
theorem pPairs_len {one : One} {n : Nat} (h1 : ∀ x y s gs, (one x y s gs).2.length = gs.length + n) (x y : List Int) : ∀ (d i : Nat) (nought left : Int) (out : List Int) (gs : List Gate),
    (pPairs one x y d i nought left out gs).1.1.length = out.length + d ∧ (pPairs one x y d i nought left out gs).2.length ≤ gs.length + d * n + (if nought < 0 then 1 else 0) := by
  intro d
  induction d with
  | zero =>
    intro i nought left out gs
    exact ⟨rfl, by simp only [pPairs]; omega⟩
  | succ d ih =>
    intro i nought left out gs
    simp only [pPairs]
    have e1 := pBit_len2 x i nought gs
    generalize pBit x i nought gs = r1 at e1 ⊢
    have e2 := pBit_len2 y i r1.2.1 r1.2.2
    generalize pBit y i r1.2.1 r1.2.2 = r2 at e2 ⊢
    have e3 := h1 r1.1 r2.1 left r2.2.2
    generalize one r1.1 r2.1 left r2.2.2 = r3 at e3 ⊢
    obtain ⟨a, b⟩ := ih (i + 1) r2.2.1 r3.1.2 (out ++ [r3.1.1]) r3.2
    rw [Nat.succ_mul]
    refine ⟨by rw [a]; simp; omega, by omega⟩
theorem pPairsAll_len {one : One} {n : Nat} (h1 : ∀ x y s gs, (one x y s gs).2.length = gs.length + n) (x y : List Int) (left : Int) (gs : List Gate) :
    (pPairsAll one x y left gs).1.1.length = max x.length y.length ∧ (pPairsAll one x y left gs).2.length ≤ gs.length + max x.length y.length * n + 1 := by
  obtain ⟨a, b⟩ := pPairs_len h1 x y (max x.length y.length) 0 (-1) left [] gs
  simp at a b
  exact ⟨a, b⟩
/-! ### The four -/
section
variable {b : Value} {p : Int} (hp : Supp p)
include hp
theorem less_ones : Ones 58 b p oLess 7 := by
  intro G H gs os x y s h hn
  refine ⟨call58 _ _ _ _ _ _ ?_, by simp⟩
  unfold m58
  refine oRC_ret (xor_puts b p hp x y _ _ _ _ h (by omega)) fun v H' hv => ?_
  obtain ⟨rfl, h⟩ := hv
  refine oRC_ret (select_puts b p _ y s _ _ _ _ h (by simp; omega)) fun v H' hv => ?_
  obtain ⟨rfl, h⟩ := hv
  exact ⟨rfl, h⟩
theorem like_ones : Ones 59 b p oLike 7 := by
  intro G H gs os x y s h hn
  refine ⟨call59 _ _ _ _ _ _ ?_, by simp⟩
  unfold m59
  refine oRC_ret (xor_puts b p hp x y _ _ _ _ h (by omega)) fun v H' hv => ?_
  obtain ⟨rfl, h⟩ := hv
  refine oRC_ret (not_puts b p _ _ _ _ _ h (by simp; omega)) fun v H' hv => ?_
  obtain ⟨rfl, h⟩ := hv
  refine oRC_ret (mul_puts b p s _ _ _ _ _ h (by simp; omega)) fun v H' hv => ?_
  obtain ⟨rfl, h⟩ := hv
  exact ⟨rfl, h⟩
theorem adder_ones : Ones 62 b p oAdder 9 := by
  intro G H gs os x y s h hn
  refine ⟨call62 _ _ _ _ _ _ ?_, by simp⟩
  unfold m62
  refine oRC_ret (mul_puts b p x y _ _ _ _ h (by omega)) fun v H' hv => ?_
  obtain ⟨rfl, h⟩ := hv
  refine oRC_ret (without_puts b p hp x y _ _ _ _ _ h (by simp; omega)) fun v H' hv => ?_
  obtain ⟨rfl, h⟩ := hv
  refine oRC_ret (mul_puts b p _ s _ _ _ _ h (by simp; omega)) fun v H' hv => ?_
  obtain ⟨rfl, h⟩ := hv
  refine oRC_ret (without_puts b p hp _ s _ _ _ _ _ h (by simp; omega)) fun v H' hv => ?_
  obtain ⟨rfl, h⟩ := hv
  refine oRC_ret (add_puts b p _ _ _ _ _ _ h (by simp; omega)) fun v H' hv => ?_
  obtain ⟨rfl, h⟩ := hv
  exact ⟨rfl, h⟩
theorem taker_ones : Ones 63 b p oTaker 11 := by
  intro G H gs os x y s h hn
  refine ⟨call63 _ _ _ _ _ _ ?_, by simp⟩
  unfold m63
  refine oRC_ret (mul_puts b p x y _ _ _ _ h (by omega)) fun v H' hv => ?_
  obtain ⟨rfl, h⟩ := hv
  refine oRC_ret (without_puts b p hp x y _ _ _ _ _ h (by simp; omega)) fun v H' hv => ?_
  obtain ⟨rfl, h⟩ := hv
  refine oRC_ret (mul_puts b p _ s _ _ _ _ h (by simp; omega)) fun v H' hv => ?_
  obtain ⟨rfl, h⟩ := hv
  refine oRC_ret (without_puts b p hp _ s _ _ _ _ _ h (by simp; omega)) fun v H' hv => ?_
  obtain ⟨rfl, h⟩ := hv
  refine oRC_ret (sub_puts b p y _ _ _ _ _ h (by simp; omega)) fun v H' hv => ?_
  obtain ⟨rfl, h⟩ := hv
  refine oRC_ret (sub_puts b p s _ _ _ _ _ h (by simp; omega)) fun v H' hv => ?_
  obtain ⟨rfl, h⟩ := hv
  refine oRC_ret (add_puts b p _ _ _ _ _ _ h (by simp; omega)) fun v H' hv => ?_
  obtain ⟨rfl, h⟩ := hv
  exact ⟨rfl, h⟩
end
/-! ### Less, Equal, AddBits, SubBits -/
def pLess (x y : List Int) (gs : List Gate) : Int × List Gate :=
  let c := pConst 0 gs
  let r := pPairsAll oLess x y c.1 c.2
  (r.1.2, r.2)
def pEqual (x y : List Int) (gs : List Gate) : Int × List Gate :=
  let c := pConst 1 gs
  let r := pPairsAll oLike x y c.1 c.2
  (r.1.2, r.2)
def pAddBits (x y : List Int) (gs : List Gate) : List Int × List Gate :=
  let c := pConst 0 gs
  let r := pPairsAll oAdder x y c.1 c.2
  (r.1.1 ++ [r.1.2], r.2)
/-- One row: each of js times k. -/
def pRow (k : Int) (flip : Bool) : List Int → List Gate → List Int × List Gate
  | [], gs => ([], gs)
  | j :: r, gs =>
    let m := if flip then pMul k j gs else pMul j k gs
    let t := pRow k flip r m.2
    (m.1 :: t.1, t.2)
def pSubBits (x y : List Int) (gs : List Gate) : List Int × List Gate :=
  let c := pConst 0 gs
  let r := pPairsAll oTaker x y c.1 c.2
  let n := pNot r.1.2 r.2
  pRow n.1 false (r.1.1.take x.length) n.2
@[simp] theorem pRow_len (k : Int) (f : Bool) : ∀ (js : List Int) (gs : List Gate), (pRow k f js gs).1.length = js.length ∧ (pRow k f js gs).2.length = gs.length + js.length
  | [], gs => ⟨rfl, rfl⟩
  | j :: r, gs => by
    have := pRow_len k f r (if f then pMul k j gs else pMul j k gs).2
    simp only [pRow, List.length_cons]
    have e : (if f then pMul k j gs else pMul j k gs).2.length = gs.length + 1 := by cases f <;> simp
    omega
section
variable {G H : Heap} {b xv yv : Value} {p : Int} {gs : List Gate} {os : List Int} {x y : List Int}
theorem less_spec (hp : Supp p) (h : Bd G H b p gs os) (hx : Sl (eInt .i64) G xv x) (hy : Sl (eInt .i64) G yv y) (hlx : x.length ≤ 1000) (hly : y.length ≤ 1000) (hgl : gs.length ≤ 900000) :
    RCalls Try.prog 34 [b, xv, yv] H (Ret fun v H' => ∃ G', v = .int .i64 (pLess x y gs).1 ∧ Le G G' ∧ Bd G' H' b p (pLess x y gs).2 os) := by
  apply call34
  unfold m34
  refine oRC_ret (const_puts b p 0 _ _ _ _ h (by omega)) fun v H' hv => ?_
  obtain ⟨rfl, h⟩ := hv
  refine oRC_ret (pairs_spec h hx hy (less_ones hp) (by simp) rfl hlx hly (by omega) (by simp; omega)) fun v H' hv => ?_
  obtain ⟨u, G', rfl, hB, hg⟩ := hv
  exact oV_eq (v := u) rfl (oV_eq (v := .int .i64 _) rfl ⟨G', rfl, hg.1, hB⟩)
theorem equal_bits_spec (hp : Supp p) (h : Bd G H b p gs os) (hx : Sl (eInt .i64) G xv x) (hy : Sl (eInt .i64) G yv y) (hlx : x.length ≤ 1000) (hly : y.length ≤ 1000) (hgl : gs.length ≤ 900000) :
    RCalls Try.prog 35 [b, xv, yv] H (Ret fun v H' => ∃ G', v = .int .i64 (pEqual x y gs).1 ∧ Le G G' ∧ Bd G' H' b p (pEqual x y gs).2 os) := by
  apply call35
  unfold m35
  refine oRC_ret (const_puts b p 1 _ _ _ _ h (by omega)) fun v H' hv => ?_
  obtain ⟨rfl, h⟩ := hv
  refine oRC_ret (pairs_spec h hx hy (like_ones hp) (by simp) rfl hlx hly (by omega) (by simp; omega)) fun v H' hv => ?_
  obtain ⟨u, G', rfl, hB, hg⟩ := hv
  exact oV_eq (v := u) rfl (oV_eq (v := .int .i64 _) rfl ⟨G', rfl, hg.1, hB⟩)
theorem addBits_spec (hp : Supp p) (h : Bd G H b p gs os) (hx : Sl (eInt .i64) G xv x) (hy : Sl (eInt .i64) G yv y) (hlx : x.length ≤ 1000) (hly : y.length ≤ 1000) (hgl : gs.length ≤ 900000) :
    RCalls Try.prog 40 [b, xv, yv] H (Ret fun v H' => ∃ G', Bd G' H' b p (pAddBits x y gs).2 os ∧ Grown G G' 1 3 v (max x.length y.length + 1) (icells (pAddBits x y gs).1)) := by
  apply call40
  unfold m40
  refine oRC_ret (const_puts b p 0 _ _ _ _ h (by omega)) fun v H' hv => ?_
  obtain ⟨rfl, h⟩ := hv
  refine oRC_ret (pairs_spec h hx hy (adder_ones hp) (by simp) rfl hlx hly (by omega) (by simp; omega)) fun v H' hv => ?_
  obtain ⟨u, G', rfl, hB, hg⟩ := hv
  refine oV_eq (v := u) rfl (oV_eq (v := .int .i64 _) rfl ?_)
  refine bd_append (te := ty3) hB hg rfl rfl (fun c hc => by rw [List.mem_singleton.1 hc]; rfl) (by show 0 < 1; omega) (by show (max x.length y.length + 1) * 8 ≤ _; omega) (by omega) fun v' G2 H2 hB2 hg2 => ?_
  refine ⟨G2, hB2, ?_⟩
  simp only [pAddBits, icells, List.map_append]
  exact hg2
theorem sub_loop {G0 : Heap} {lv : Value} {l : List Int} {may : Int} {n : Nat} (hl : Sl (eInt .i64) G0 lv l) (hn : n ≤ l.length) (hn2 : n ≤ 1000) {kn : Value → Heap → Prop} {Q : Ending → Heap → Prop} :
    ∀ (d i : Nat) (G H : Heap) (v : Value) (out : List Int) (gs : List Gate), n - i = d → i ≤ n → Bd G H b p gs os → Grown G0 G 1 3 v i (icells out) → gs.length + d ≤ 100000000 →
      (∀ v G H, Bd G H b p (pRow may false ((l.take n).drop i) gs).2 os → Grown G0 G 1 3 v n (icells (out ++ (pRow may false ((l.take n).drop i) gs).1)) → kn v H) →
      L41_3 b lv (.int .i64 may) v (.int .i64 n) (.int .i64 i) H kn Q := by
  intro d
  induction d with
  | zero =>
    intro i G H v out gs hd hi hB hg hb hk
    apply L41_3_round
    unfold m41_4
    refine oV_eq (vInt_lss _ _ _) (condK_dec (fun hlt => absurd hlt (by omega)) (fun _ => ?_))
    have : i = n := by omega
    subst this
    rw [List.drop_eq_nil_of_le (by rw [List.length_take]; omega)] at hk
    simp only [pRow, List.append_nil] at hk
    exact hk v G H hB hg
  | succ d ih =>
    intro i G H v out gs hd hi hB hg hb hk
    apply L41_3_round
    unfold m41_4
    refine oV_eq (vInt_lss _ _ _) (condK_dec (fun hlt => ?_) (fun hlt => absurd (by omega) hlt))
    obtain ⟨q, f1, f2⟩ := ((hl.mono hg.1).mono hB.le).int .i64 (i := (i : Int)) (by omega) (by omega) (ti := ty3) rfl
    have hil : i < (l.take n).length := by rw [List.length_take]; omega
    have e : l.getD (i : Int).toNat 0 = (l.take n)[i] := by
      rw [List.getElem_take]
      simp [show i < l.length by omega]
    rw [e] at f2
    rw [List.drop_eq_getElem_cons hil] at hk
    generalize (l.take n)[i] = j at f2 hk
    simp only [pRow, Bool.false_eq_true, if_false] at hk
    refine oV_eq f1 (oV_eq f2 (oRC_ret (mul_puts b p j may _ _ _ _ hB (by omega)) fun v1 H1 hv => ?_))
    obtain ⟨rfl, hB1⟩ := hv
    refine bd_append (te := ty3) hB1 hg rfl rfl (fun c hc => by rw [List.mem_singleton.1 hc]; rfl) (by show 0 < 1; omega) (by show (i + 1) * 8 ≤ _; omega) (by omega) fun v' G2 H2 hB2 hg2 => ?_
    refine oV_eq (vInt_add _ _ _) ?_
    rw [wrap_i64 (by omega) (by omega)]
    refine ih (i + 1) G2 H2 v' (out ++ [(pMul j may gs).1]) _ (by omega) (by omega) hB2 (by rw [icells, List.map_append]; exact hg2) (by simp; omega) fun v3 G3 H3 hB3 hg3 => ?_
    refine hk v3 G3 H3 hB3 ?_
    rw [List.append_assoc] at hg3
    exact hg3
theorem subBits_spec (hp : Supp p) (h : Bd G H b p gs os) (hx : Sl (eInt .i64) G xv x) (hy : Sl (eInt .i64) G yv y) (hlx : x.length ≤ 1000) (hly : y.length ≤ 1000) (hgl : gs.length ≤ 900000) :
    RCalls Try.prog 41 [b, xv, yv] H (Ret fun v H' => ∃ G', Bd G' H' b p (pSubBits x y gs).2 os ∧ Grown G G' 1 3 v x.length (icells (pSubBits x y gs).1)) := by
  apply call41
  unfold m41
  refine oRC_ret (const_puts b p 0 _ _ _ _ h (by omega)) fun v H' hv => ?_
  obtain ⟨rfl, h⟩ := hv
  refine oRC_ret (pairs_spec h hx hy (taker_ones hp) (by simp) rfl hlx hly (by omega) (by simp; omega)) fun v H' hv => ?_
  obtain ⟨u, G', rfl, hB, hg⟩ := hv
  refine oV_eq (v := u) rfl (oV_eq (v := .int .i64 _) rfl ?_)
  obtain ⟨hl1, hl2⟩ := pPairsAll_len (one := oTaker) (n := 11) (by simp) x y (pConst 0 gs).1 (pConst 0 gs).2
  have hm : max x.length y.length * 11 ≤ 1000 * 11 := Nat.mul_le_mul_right _ (by omega)
  rw [pConst_len] at hl2
  refine oRC_ret (not_puts b p _ _ _ _ _ hB (by omega)) fun v H2 hv => ?_
  obtain ⟨rfl, hB2⟩ := hv
  unfold m41_2
  have hul : Sl (eInt .i64) G' u (pPairsAll oTaker x y (pConst 0 gs).1 (pConst 0 gs).2).1.1 := Own.sl_int (by rw [hl1]; exact hg.2.1)
  refine oV_eq hx.len ?_
  refine sub_loop (G0 := G') hul (by rw [hl1]; omega) hlx x.length 0 G' H2 _ [] _ (by omega) (by omega) hB2 (Grown.nil _ _ _) (by rw [pNot_len]; omega) fun v G3 H3 hB3 hg3 => ?_
  unfold m41_1
  rw [List.drop_zero, List.nil_append] at hg3
  exact ⟨G3, hB3, hg3.less hg.1⟩
end
end Go.Proofs.Ytpbaoefjkfdgmaa.SL
