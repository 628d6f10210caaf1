/- The meaning of wires: what the gadgets' gates compute. -/
import Derived.Test.YtpbaoefjkfdgmaaGadS
set_option linter.unusedVariables false
set_option linter.unusedSimpArgs false
namespace Go.Proofs.Ytpbaoefjkfdgmaa.SL
open Go

/-- Gates were added; none is an input; validity stays. -/
structure GExt (p : Int) (gs gs' : List Gate) : Prop where
  app : ∃ hs, gs' = gs ++ hs ∧ ∀ g ∈ hs, g.kind ≠ 1 ∧ 0 ≤ g.k
  val : validGates p gs → validGates p gs'
theorem GExt.refl (p : Int) (gs : List Gate) : GExt p gs gs := ⟨⟨[], by simp, by simp⟩, id⟩
theorem GExt.trans {p : Int} {a b c : List Gate} (h : GExt p a b) (k : GExt p b c) : GExt p a c := by
  obtain ⟨⟨x, rfl, hx⟩, hv⟩ := h
  obtain ⟨⟨y, rfl, hy⟩, kv⟩ := k
  refine ⟨⟨x ++ y, by simp, fun g hg => ?_⟩, fun h => kv (hv h)⟩
  rcases List.mem_append.1 hg with h | h
  · exact hx g h
  · exact hy g h
theorem GExt.len {p : Int} {a b : List Gate} (h : GExt p a b) : a.length ≤ b.length := by
  obtain ⟨⟨x, rfl, hx⟩, hv⟩ := h
  simp
theorem GExt.inCount {p : Int} {a b : List Gate} (h : GExt p a b) (f : Int) : inCount f b = inCount f a := by
  obtain ⟨⟨x, rfl, hx⟩, hv⟩ := h
  unfold SL.inCount
  rw [List.countP_append]
  have : List.countP (inOf f) x = 0 := by
    rw [List.countP_eq_zero]
    intro g hg
    simp [inOf, (hx g hg).1]
  omega
theorem vals_app (p : Int) (l : List (List Int)) : ∀ (hs gs : List Gate) (i : Nat), i < gs.length → (vals p l (gs ++ hs)).getD i 0 = (vals p l gs).getD i 0
  | [], gs, i, h => by simp
  | g :: hs, gs, i, h => by
    have h1 := vals_app p l hs (gs ++ [g]) i (by simp; omega)
    rw [List.append_assoc] at h1
    refine h1.trans ?_
    rw [vals_snoc, List.getD_eq_getElem?_getD, List.getElem?_append_left (by rw [vals_len]; exact h), ← List.getD_eq_getElem?_getD]
structure Wire (p : Int) (l : List (List Int)) (gs : List Gate) (i v : Int) : Prop where
  lo : 0 ≤ i
  hi : i < gs.length
  at_ : (vals p l gs).getD i.toNat 0 = v
theorem Wire.ext {p : Int} {l : List (List Int)} {gs gs' : List Gate} {i v : Int} (h : Wire p l gs i v) (k : GExt p gs gs') : Wire p l gs' i v := by
  obtain ⟨⟨x, rfl, hx⟩, hv⟩ := k
  refine ⟨h.lo, ?_, ?_⟩
  · have := h.hi
    simp
    omega
  · rw [vals_app _ _ _ _ _ (by have := h.hi; have := h.lo; omega)]
    exact h.at_
def Makes (p : Int) (l : List (List Int)) (gs : List Gate) (r : Int × List Gate) (v : Int) : Prop := GExt p gs r.2 ∧ Wire p l r.2 r.1 v
theorem put_sem {p : Int} {l : List (List Int)} {gs : List Gate} (g : Gate) (hk : g.kind ≠ 1) (h0 : 0 ≤ g.k) (hv : validGate p gs.length g) : Makes p l gs (put g gs) (gval p l gs (vals p l gs) g) := by
  refine ⟨⟨⟨[g], rfl, fun x hx => ?_⟩, fun h i hi => ?_⟩, ?_, ?_, ?_⟩
  · rw [List.mem_singleton.1 hx]
    exact ⟨hk, h0⟩
  · simp only [put] at hi ⊢
    by_cases c : i < gs.length
    · rw [List.getElem_append_left c]
      exact h i c
    · have : i = gs.length := by simp at hi; omega
      subst this
      simpa using hv
  · simp [put]
  · simp [put]
    omega
  · simp only [put, vals_snoc]
    rw [List.getD_eq_getElem?_getD, List.getElem?_append_right (by rw [vals_len]; simp), vals_len]
    simp
section
variable {p : Int} {l : List (List Int)} {gs : List Gate} {x y z u v : Int} {a b c : Bool}
theorem const_sem {k : Int} (h0 : 0 ≤ k) (h1 : k < p) : Makes p l gs (pConst k gs) k := by
  have := put_sem (p := p) (l := l) (gs := gs) ⟨2, 0, 0, 0, k⟩ (by simp) h0 (by simp [validGate, h1])
  simp [gval] at this
  exact this
theorem add_sem (hx : Wire p l gs x u) (hy : Wire p l gs y v) : Makes p l gs (pAdd x y gs) ((u + v) % p) := by
  have := put_sem (p := p) (l := l) (gs := gs) ⟨3, 0, x, y, 0⟩ (by simp) (by simp) (by simp [validGate, hx.lo, hx.hi, hy.lo, hy.hi])
  simp only [gval, hx.at_, hy.at_] at this
  simp at this
  exact this
theorem sub_sem (hx : Wire p l gs x u) (hy : Wire p l gs y v) : Makes p l gs (pSub x y gs) ((u - v) % p) := by
  have := put_sem (p := p) (l := l) (gs := gs) ⟨4, 0, x, y, 0⟩ (by simp) (by simp) (by simp [validGate, hx.lo, hx.hi, hy.lo, hy.hi])
  simp only [gval, hx.at_, hy.at_] at this
  simp at this
  exact this
theorem mul_sem (hx : Wire p l gs x u) (hy : Wire p l gs y v) : Makes p l gs (pMul x y gs) (u * v % p) := by
  have := put_sem (p := p) (l := l) (gs := gs) ⟨6, 0, x, y, 0⟩ (by simp) (by simp) (by simp [validGate, hx.lo, hx.hi, hy.lo, hy.hi])
  simp only [gval, hx.at_, hy.at_] at this
  simp at this
  exact this
theorem scale_sem {k : Int} (h0 : 0 ≤ k) (h1 : k < p) (hx : Wire p l gs x u) : Makes p l gs (pScale k x gs) (k * u % p) := by
  have := put_sem (p := p) (l := l) (gs := gs) ⟨5, 0, x, 0, k⟩ (by simp) h0 (by simp [validGate, hx.lo, hx.hi, h1])
  simp only [gval, hx.at_] at this
  simp at this
  exact this
theorem Makes.val {r : Int × List Gate} (h : Makes p l gs r u) (e : u = v) : Makes p l gs r v := e ▸ h
theorem Makes.then {gs' : List Gate} {r : Int × List Gate} (h : GExt p gs gs') (k : Makes p l gs' r u) : Makes p l gs r u := ⟨h.trans k.1, k.2⟩
theorem mod1 (hp : Supp p) : (1 : Int) % p = 1 ∧ (2 : Int) % p = 2 := by
  have := hp.pos
  exact ⟨Int.emod_eq_of_lt (by omega) (by omega), Int.emod_eq_of_lt (by omega) (by omega)⟩
theorem not_sem (hp : Supp p) (hx : Wire p l gs x (wordOf a)) : Makes p l gs (pNot x gs) (wordOf (!a)) := by
  have hpp := hp.pos
  obtain ⟨e1, w1⟩ := const_sem (p := p) (l := l) (gs := gs) (k := 1) (by omega) (by omega)
  refine (Makes.then e1 (sub_sem w1 (hx.ext e1))).val ?_
  have := mod1 hp
  cases a <;> simp [wordOf, this]
theorem and_sem (hp : Supp p) (hx : Wire p l gs x (wordOf a)) (hy : Wire p l gs y (wordOf b)) : Makes p l gs (pMul x y gs) (wordOf (a && b)) := by
  refine (mul_sem hx hy).val ?_
  have := mod1 hp
  cases a <;> cases b <;> simp [wordOf, this]
theorem without_sem (hp : Supp p) (hx : Wire p l gs x (wordOf a)) (hy : Wire p l gs y (wordOf b)) (hz : Wire p l gs z (wordOf (a && b))) : Makes p l gs (pWithout x y z gs) (wordOf (a != b)) := by
  have hpp := hp.pos
  obtain ⟨e1, w1⟩ := add_sem hx hy
  obtain ⟨e2, w2⟩ := scale_sem (k := 2) (by omega) (by omega) (hz.ext e1)
  refine (Makes.then e1 (Makes.then e2 (sub_sem (w1.ext e2) w2))).val ?_
  have := mod1 hp
  cases a <;> cases b <;> simp [wordOf, this]
theorem xor_sem (hp : Supp p) (hx : Wire p l gs x (wordOf a)) (hy : Wire p l gs y (wordOf b)) : Makes p l gs (pXor x y gs) (wordOf (a != b)) := by
  obtain ⟨e1, w1⟩ := and_sem hp hx hy
  exact Makes.then e1 (without_sem hp (hx.ext e1) (hy.ext e1) w1)
theorem sel_sem (hp : Supp p) (hx : Wire p l gs x (wordOf c)) (hy : Wire p l gs y (wordOf a)) (hz : Wire p l gs z (wordOf b)) : Makes p l gs (pSelect x y z gs) (wordOf (if c then a else b)) := by
  have hpp := hp.pos
  obtain ⟨e1, w1⟩ := sub_sem hy hz
  obtain ⟨e2, w2⟩ := mul_sem (hx.ext e1) w1
  refine (Makes.then e1 (Makes.then e2 (add_sem ((hz.ext e1).ext e2) w2))).val ?_
  have := mod1 hp
  cases c
  · cases a <;> cases b <;> simp [wordOf, this]
  · cases a <;> cases b <;> simp [wordOf, this]
end
/-! ### One bit of each number -/
def oAdder : One := fun x y s gs =>
  let m := pMul x y gs
  let t := pWithout x y m.1 m.2
  let k := pMul t.1 s t.2
  let z := pWithout t.1 s k.1 k.2
  let c := pAdd m.1 k.1 z.2
  ((z.1, c.1), c.2)
def oTaker : One := fun x y s gs =>
  let m := pMul x y gs
  let t := pWithout x y m.1 m.2
  let k := pMul t.1 s t.2
  let z := pWithout t.1 s k.1 k.2
  let f := pSub y m.1 z.2
  let g := pSub s k.1 f.2
  let c := pAdd f.1 g.1 g.2
  ((z.1, c.1), c.2)
def oLess : One := fun x y s gs =>
  let t := pXor x y gs
  let c := pSelect t.1 y s t.2
  ((t.1, c.1), c.2)
def oLike : One := fun x y s gs =>
  let t := pXor x y gs
  let n := pNot t.1 t.2
  let c := pMul s n.1 n.2
  ((t.1, c.1), c.2)
abbrev Bit3 := Bool → Bool → Bool → Bool × Bool
def fAdder : Bit3 := fun a b c => ((a != b) != c, (a && b) || ((a != b) && c))
def fTaker : Bit3 := fun a b c => ((a != b) != c, if a != b then b else c)
def fLess : Bit3 := fun a b c => (a != b, if a != b then b else c)
def fLike : Bit3 := fun a b c => (a != b, c && !(a != b))
def OneSem (p : Int) (l : List (List Int)) (one : One) (f : Bit3) : Prop := ∀ gs x y s a b c, Wire p l gs x (wordOf a) → Wire p l gs y (wordOf b) → Wire p l gs s (wordOf c) →
  GExt p gs (one x y s gs).2 ∧ Wire p l (one x y s gs).2 (one x y s gs).1.1 (wordOf (f a b c).1) ∧ Wire p l (one x y s gs).2 (one x y s gs).1.2 (wordOf (f a b c).2)
section
variable {p : Int} (hp : Supp p) (l : List (List Int))
include hp
theorem adder_sem : OneSem p l oAdder fAdder := by
  intro gs x y s a b c hx hy hs
  obtain ⟨e1, w1⟩ := and_sem hp hx hy
  obtain ⟨e2, w2⟩ := without_sem hp (hx.ext e1) (hy.ext e1) w1
  have e12 := e1.trans e2
  obtain ⟨e3, w3⟩ := and_sem hp w2 (hs.ext e12)
  obtain ⟨e4, w4⟩ := without_sem hp (w2.ext e3) (hs.ext (e12.trans e3)) w3
  obtain ⟨e5, w5⟩ := add_sem (w1.ext (e2.trans (e3.trans e4))) (w3.ext e4)
  refine ⟨e12.trans (e3.trans (e4.trans e5)), w4.ext e5, ?_⟩
  have h := mod1 hp
  have : (wordOf (a && b) + wordOf ((a != b) && c)) % p = wordOf (fAdder a b c).2 := by cases a <;> cases b <;> cases c <;> simp [wordOf, fAdder, h]
  rw [← this]
  exact w5
theorem taker_sem : OneSem p l oTaker fTaker := by
  intro gs x y s a b c hx hy hs
  obtain ⟨e1, w1⟩ := and_sem hp hx hy
  obtain ⟨e2, w2⟩ := without_sem hp (hx.ext e1) (hy.ext e1) w1
  have e12 := e1.trans e2
  obtain ⟨e3, w3⟩ := and_sem hp w2 (hs.ext e12)
  obtain ⟨e4, w4⟩ := without_sem hp (w2.ext e3) (hs.ext (e12.trans e3)) w3
  have e14 := e12.trans (e3.trans e4)
  obtain ⟨e5, w5⟩ := sub_sem (hy.ext e14) (w1.ext (e2.trans (e3.trans e4)))
  obtain ⟨e6, w6⟩ := sub_sem (hs.ext (e14.trans e5)) (w3.ext (e4.trans e5))
  obtain ⟨e7, w7⟩ := add_sem (w5.ext e6) w6
  refine ⟨e14.trans (e5.trans (e6.trans e7)), w4.ext (e5.trans (e6.trans e7)), ?_⟩
  have h := mod1 hp
  have : ((wordOf b - wordOf (a && b)) % p + (wordOf c - wordOf ((a != b) && c)) % p) % p = wordOf (fTaker a b c).2 := by cases a <;> cases b <;> cases c <;> simp [wordOf, fTaker, h]
  rw [← this]
  exact w7
theorem less_sem : OneSem p l oLess fLess := by
  intro gs x y s a b c hx hy hs
  obtain ⟨e1, w1⟩ := xor_sem hp hx hy
  obtain ⟨e2, w2⟩ := sel_sem hp w1 (hy.ext e1) (hs.ext e1)
  exact ⟨e1.trans e2, w1.ext e2, w2⟩
theorem like_sem : OneSem p l oLike fLike := by
  intro gs x y s a b c hx hy hs
  obtain ⟨e1, w1⟩ := xor_sem hp hx hy
  obtain ⟨e2, w2⟩ := not_sem hp w1
  obtain ⟨e3, w3⟩ := and_sem hp (hs.ext (e1.trans e2)) w2
  exact ⟨e1.trans (e2.trans e3), w1.ext (e2.trans e3), w3⟩
end
/-! ### All bits -/
def runS (f : Bit3) (xs ys : List Bool) (c : Bool) : Nat → List Bool × Bool
  | 0 => ([], c)
  | k + 1 =>
    let r := runS f xs ys c k
    let z := f (xs.getD k false) (ys.getD k false) r.2
    (r.1 ++ [z.1], z.2)
theorem runS_len (f : Bit3) (xs ys : List Bool) (c : Bool) : ∀ k, (runS f xs ys c k).1.length = k
  | 0 => rfl
  | k + 1 => by simp [runS, runS_len f xs ys c k]
/-- The wires is carry the bits bs. -/
structure Wires (p : Int) (l : List (List Int)) (gs : List Gate) (is : List Int) (bs : List Bool) : Prop where
  len : is.length = bs.length
  at_ : ∀ k, k < bs.length → Wire p l gs (is.getD k 0) (wordOf (bs.getD k false))
theorem Wires.ext {p : Int} {l : List (List Int)} {gs gs' : List Gate} {is : List Int} {bs : List Bool} (h : Wires p l gs is bs) (k : GExt p gs gs') : Wires p l gs' is bs := ⟨h.len, fun i hi => (h.at_ i hi).ext k⟩
theorem Wires.nil (p : Int) (l : List (List Int)) (gs : List Gate) : Wires p l gs [] [] := ⟨rfl, fun k h => by simp at h⟩
theorem getD_snoc {α : Type} (xs : List α) (x d : α) (k : Nat) : (xs ++ [x]).getD k d = if k < xs.length then xs.getD k d else if k = xs.length then x else d := by
  rw [List.getD_eq_getElem?_getD, List.getD_eq_getElem?_getD]
  by_cases h : k < xs.length
  · rw [if_pos h, List.getElem?_append_left h]
  · rw [if_neg h, List.getElem?_append_right (by omega)]
    by_cases e : k = xs.length
    · subst e
      simp
    · rw [if_neg e, List.getElem?_eq_none (by simp; omega)]
      rfl
theorem Wires.snoc {p : Int} {l : List (List Int)} {gs : List Gate} {is : List Int} {bs : List Bool} {i : Int} {b : Bool} (h : Wires p l gs is bs) (w : Wire p l gs i (wordOf b)) : Wires p l gs (is ++ [i]) (bs ++ [b]) := by
  refine ⟨by simp [h.len], fun k hk => ?_⟩
  rw [getD_snoc, getD_snoc, h.len]
  by_cases c : k < bs.length
  · rw [if_pos c, if_pos c]
    exact h.at_ k c
  · have : k = bs.length := by simp at hk; omega
    rw [if_neg c, if_neg c, if_pos this, if_pos this]
    exact w
theorem Wires.append {p : Int} {l : List (List Int)} {gs : List Gate} : ∀ {js : List Int} {cs : List Bool} {is : List Int} {bs : List Bool}, Wires p l gs is bs → Wires p l gs js cs → Wires p l gs (is ++ js) (bs ++ cs) := by
  intro js cs is bs h k
  refine ⟨by simp [h.len, k.len], fun i hi => ?_⟩
  simp only [List.getD_eq_getElem?_getD]
  by_cases c : i < bs.length
  · rw [List.getElem?_append_left (by rw [h.len]; exact c), List.getElem?_append_left c]
    simpa [List.getD_eq_getElem?_getD] using h.at_ i c
  · rw [List.getElem?_append_right (by rw [h.len]; omega), List.getElem?_append_right (by omega), h.len]
    simpa [List.getD_eq_getElem?_getD] using k.at_ (i - bs.length) (by simp at hi; omega)
theorem Wires.take {p : Int} {l : List (List Int)} {gs : List Gate} {is : List Int} {bs : List Bool} (h : Wires p l gs is bs) (n : Nat) : Wires p l gs (is.take n) (bs.take n) := by
  refine ⟨by simp [h.len], fun i hi => ?_⟩
  have : i < n ∧ i < bs.length := by simp at hi; omega
  have := h.at_ i this.2
  simp only [List.getD_eq_getElem?_getD] at this ⊢
  rw [List.getElem?_take_of_lt (by omega), List.getElem?_take_of_lt (by omega)]
  exact this
theorem Wires.drop {p : Int} {l : List (List Int)} {gs : List Gate} {is : List Int} {bs : List Bool} (h : Wires p l gs is bs) (n : Nat) : Wires p l gs (is.drop n) (bs.drop n) := by
  refine ⟨by simp [h.len], fun i hi => ?_⟩
  have : n + i < bs.length := by simp at hi; omega
  have := h.at_ _ this
  simp only [List.getD_eq_getElem?_getD] at this ⊢
  rw [List.getElem?_drop, List.getElem?_drop]
  exact this
section
variable {p : Int} {l : List (List Int)}
theorem pBit_sem (hp : Supp p) {gs : List Gate} {x : List Int} {xs : List Bool} {nought : Int} (hx : Wires p l gs x xs) (hn : nought < 0 ∨ Wire p l gs nought (wordOf false)) (i : Nat) :
    GExt p gs (pBit x i nought gs).2.2 ∧ Wire p l (pBit x i nought gs).2.2 (pBit x i nought gs).1 (wordOf (xs.getD i false)) ∧ ((pBit x i nought gs).2.1 < 0 ∨ Wire p l (pBit x i nought gs).2.2 (pBit x i nought gs).2.1 (wordOf false)) := by
  have hpp := hp.pos
  unfold pBit
  have he : ¬ i < x.length → xs.getD i false = false := fun h => by
    rw [List.getD_eq_getElem?_getD, List.getElem?_eq_none (by rw [← hx.len]; omega)]
    rfl
  split
  · rename_i h
    exact ⟨GExt.refl _ _, hx.at_ i (by rw [← hx.len]; exact h), hn⟩
  · rename_i h
    rw [he h]
    split
    · obtain ⟨e, w⟩ := const_sem (p := p) (l := l) (gs := gs) (k := 0) (by omega) (by omega)
      exact ⟨e, w, .inr w⟩
    · rename_i h2
      rcases hn with hn | hn
      · exact absurd hn h2
      · exact ⟨GExt.refl _ _, hn, .inr hn⟩
theorem pPairs_sem (hp : Supp p) {one : One} {f : Bit3} (h1 : OneSem p l one f) {x y : List Int} {xs ys : List Bool} {c : Bool} :
    ∀ (d i : Nat) (nought left : Int) (out : List Int) (gs : List Gate), Wires p l gs x xs → Wires p l gs y ys → (nought < 0 ∨ Wire p l gs nought (wordOf false)) → Wire p l gs left (wordOf (runS f xs ys c i).2) → Wires p l gs out (runS f xs ys c i).1 →
      GExt p gs (pPairs one x y d i nought left out gs).2 ∧ Wires p l (pPairs one x y d i nought left out gs).2 (pPairs one x y d i nought left out gs).1.1 (runS f xs ys c (i + d)).1 ∧
      Wire p l (pPairs one x y d i nought left out gs).2 (pPairs one x y d i nought left out gs).1.2 (wordOf (runS f xs ys c (i + d)).2) := by
  intro d
  induction d with
  | zero =>
    intro i nought left out gs hx hy hn hl ho
    exact ⟨GExt.refl _ _, ho, hl⟩
  | succ d ih =>
    intro i nought left out gs hx hy hn hl ho
    simp only [pPairs]
    obtain ⟨e1, w1, n1⟩ := pBit_sem hp hx hn i
    generalize hr1 : pBit x i nought gs = r1 at e1 w1 n1 ⊢
    obtain ⟨e2, w2, n2⟩ := pBit_sem hp (hy.ext e1) n1 i
    generalize hr2 : pBit y i r1.2.1 r1.2.2 = r2 at e2 w2 n2 ⊢
    have e12 := e1.trans e2
    obtain ⟨e3, w3, w4⟩ := h1 r2.2.2 _ _ _ _ _ _ (w1.ext e2) w2 (hl.ext e12)
    generalize hr3 : one r1.1 r2.1 left r2.2.2 = r3 at e3 w3 w4 ⊢
    have e13 := e12.trans e3
    obtain ⟨e4, w5, w6⟩ := ih (i + 1) r2.2.1 r3.1.2 (out ++ [r3.1.1]) r3.2 (hx.ext e13) (hy.ext e13) (n2.imp id fun w => w.ext e3) w4 ((ho.ext e13).snoc w3)
    rw [show i + (d + 1) = i + 1 + d by omega]
    exact ⟨e13.trans e4, w5, w6⟩
theorem pPairsAll_sem (hp : Supp p) {one : One} {f : Bit3} (h1 : OneSem p l one f) {gs : List Gate} {x y : List Int} {xs ys : List Bool} {left : Int} {c : Bool} (hx : Wires p l gs x xs) (hy : Wires p l gs y ys) (hl : Wire p l gs left (wordOf c)) :
    GExt p gs (pPairsAll one x y left gs).2 ∧ Wires p l (pPairsAll one x y left gs).2 (pPairsAll one x y left gs).1.1 (runS f xs ys c (max xs.length ys.length)).1 ∧
      Wire p l (pPairsAll one x y left gs).2 (pPairsAll one x y left gs).1.2 (wordOf (runS f xs ys c (max xs.length ys.length)).2) := by
  have := pPairs_sem hp h1 (c := c) (max x.length y.length) 0 (-1) left [] gs hx hy (.inl (by omega)) hl (Wires.nil _ _ _)
  rw [Nat.zero_add] at this
  rw [← hx.len, ← hy.len]
  exact this
end
end Go.Proofs.Ytpbaoefjkfdgmaa.SL
