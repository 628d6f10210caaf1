/- What the gadgets on lists of bits compute; the inputs' wires; costs. -/
import Derived.Test.YtpbaoefjkfdgmaaGadV
import Derived.Test.YtpbaoefjkfdgmaaGadX
set_option linter.unusedVariables false
set_option linter.unusedSimpArgs false
namespace Go.Proofs.Ytpbaoefjkfdgmaa.SL
open Go

section
variable {p : Int} {l : List (List Int)} {gs : List Gate} {x y : List Int} {xs ys : List Bool}
theorem pLess_sem (hp : Supp p) (hx : Wires p l gs x xs) (hy : Wires p l gs y ys) : Makes p l gs (pLess x y gs) (wordOf (lessB xs ys)) := by
  have hpp := hp.pos
  obtain ⟨e1, w1⟩ := const_sem (p := p) (l := l) (gs := gs) (k := 0) (by omega) (by omega)
  obtain ⟨e2, _, w2⟩ := pPairsAll_sem hp (less_sem hp l) (c := false) (hx.ext e1) (hy.ext e1) w1
  exact ⟨e1.trans e2, w2⟩
theorem pEqual_sem (hp : Supp p) (hx : Wires p l gs x xs) (hy : Wires p l gs y ys) : Makes p l gs (pEqual x y gs) (wordOf (equalB xs ys)) := by
  have hpp := hp.pos
  obtain ⟨e1, w1⟩ := const_sem (p := p) (l := l) (gs := gs) (k := 1) (by omega) (by omega)
  obtain ⟨e2, _, w2⟩ := pPairsAll_sem hp (like_sem hp l) (c := true) (hx.ext e1) (hy.ext e1) w1
  exact ⟨e1.trans e2, w2⟩
theorem pAddBits_sem (hp : Supp p) (hx : Wires p l gs x xs) (hy : Wires p l gs y ys) : GExt p gs (pAddBits x y gs).2 ∧ Wires p l (pAddBits x y gs).2 (pAddBits x y gs).1 (addB xs ys) := by
  have hpp := hp.pos
  obtain ⟨e1, w1⟩ := const_sem (p := p) (l := l) (gs := gs) (k := 0) (by omega) (by omega)
  obtain ⟨e2, w2, w3⟩ := pPairsAll_sem hp (adder_sem hp l) (c := false) (hx.ext e1) (hy.ext e1) w1
  exact ⟨e1.trans e2, w2.snoc w3⟩
theorem Wires.cons {i : Int} {is : List Int} {bs : List Bool} (h : Wires p l gs (i :: is) bs) : ∃ b cs, bs = b :: cs ∧ Wire p l gs i (wordOf b) ∧ Wires p l gs is cs := by
  match bs, h with
  | [], h => exact absurd h.len (by simp)
  | b :: cs, h =>
    refine ⟨b, cs, rfl, ?_, by simpa using h.len, fun k hk => ?_⟩
    · have := h.at_ 0 (by simp)
      simpa using this
    · have := h.at_ (k + 1) (by simpa using hk)
      simpa using this
theorem Wires.mk_cons {i : Int} {is : List Int} {b : Bool} {cs : List Bool} (w : Wire p l gs i (wordOf b)) (h : Wires p l gs is cs) : Wires p l gs (i :: is) (b :: cs) := by
  refine ⟨by simp [h.len], fun k hk => ?_⟩
  cases k with
  | zero => simpa using w
  | succ k => simpa using h.at_ k (by simpa using hk)
theorem pRow_sem (hp : Supp p) {k : Int} {c : Bool} : ∀ {js : List Int} {bs : List Bool} {gs : List Gate}, Wire p l gs k (wordOf c) → Wires p l gs js bs → GExt p gs (pRow k false js gs).2 ∧ Wires p l (pRow k false js gs).2 (pRow k false js gs).1 (rowB bs c)
  | [], bs, gs, hk, hj => by
    have : bs = [] := by simpa using hj.len.symm
    subst this
    exact ⟨GExt.refl _ _, Wires.nil _ _ _⟩
  | j :: r, bs, gs, hk, hj => by
    obtain ⟨b, cs, rfl, w, hr⟩ := hj.cons
    obtain ⟨e1, w1⟩ := and_sem hp w hk
    obtain ⟨e2, w2⟩ := pRow_sem hp (hk.ext e1) (hr.ext e1)
    exact ⟨e1.trans e2, Wires.mk_cons (w1.ext e2) w2⟩
theorem pSubBits_sem (hp : Supp p) (hx : Wires p l gs x xs) (hy : Wires p l gs y ys) : GExt p gs (pSubBits x y gs).2 ∧ Wires p l (pSubBits x y gs).2 (pSubBits x y gs).1 (subB xs ys) := by
  have hpp := hp.pos
  obtain ⟨e1, w1⟩ := const_sem (p := p) (l := l) (gs := gs) (k := 0) (by omega) (by omega)
  obtain ⟨e2, w2, w3⟩ := pPairsAll_sem hp (taker_sem hp l) (c := false) (hx.ext e1) (hy.ext e1) w1
  rw [runS_taker] at w3
  obtain ⟨e3, w4⟩ := not_sem hp w3
  have w5 := (w2.take x.length).ext e3
  rw [hx.len, runS_take _ _ _ _ _ _ (by omega)] at w5
  obtain ⟨e4, w6⟩ := pRow_sem hp w4 w5
  simp only [pSubBits, hx.len]
  exact ⟨e1.trans (e2.trans (e3.trans e4)), w6⟩
theorem pPad_sem (hp : Supp p) : ∀ (d : Nat) {out : List Int} {bs : List Bool} {gs : List Gate}, Wires p l gs out bs → GExt p gs (pPad d out gs).2 ∧ Wires p l (pPad d out gs).2 (pPad d out gs).1 (bs ++ List.replicate d false)
  | 0, out, bs, gs, h => by
    rw [List.replicate_zero, List.append_nil]
    exact ⟨GExt.refl _ _, h⟩
  | d + 1, out, bs, gs, h => by
    have hpp := hp.pos
    obtain ⟨e1, w1⟩ := const_sem (p := p) (l := l) (gs := gs) (k := 0) (by omega) (by omega)
    obtain ⟨e2, w2⟩ := pPad_sem hp d ((h.ext e1).snoc (b := false) w1)
    rw [List.append_assoc] at w2
    exact ⟨e1.trans e2, w2⟩
theorem pMulL_sem (hp : Supp p) : ∀ (rem : List Int) (i : Nat) (out : List Int) (gs : List Gate), y.drop i = rem → i ≤ y.length → Wires p l gs x xs → Wires p l gs y ys → Wires p l gs out (mulG xs ys i) →
    GExt p gs (pMulL x rem i out gs).2 ∧ Wires p l (pMulL x rem i out gs).2 (pMulL x rem i out gs).1 (mulG xs ys ys.length)
  | [], i, out, gs, hr, hi, hx, hy, ho => by
    have h1 : (y.drop i).length = 0 := by rw [hr]; rfl
    rw [List.length_drop] at h1
    have : i = ys.length := by have := hy.len; omega
    subst this
    exact ⟨GExt.refl _ _, ho⟩
  | k :: r, i, out, gs, hr, hi, hx, hy, ho => by
    have h1 : (y.drop i).length = r.length + 1 := by rw [hr]; rfl
    rw [List.length_drop] at h1
    have hil : i < y.length := by omega
    rw [List.drop_eq_getElem_cons hil] at hr
    obtain ⟨hk, hr'⟩ := List.cons.inj hr
    have hw := hy.at_ i (by rw [← hy.len]; exact hil)
    have ek : y.getD i 0 = k := by rw [← hk]; simp [hil]
    rw [ek] at hw
    simp only [pMulL]
    obtain ⟨e1, w1⟩ := pRow_sem hp hw hx
    generalize pRow k false x gs = a at e1 w1 ⊢
    split
    · rename_i h0
      subst h0
      obtain ⟨e2, w2⟩ := pMulL_sem hp r 1 a.1 a.2 hr' (by omega) (hx.ext e1) (hy.ext e1) (by simpa [mulG] using w1)
      exact ⟨e1.trans e2, w2⟩
    · rename_i h0
      obtain ⟨e2, w2⟩ := pPad_sem hp (i - out.length) (ho.ext e1)
      generalize pPad (i - out.length) out a.2 = o at e2 w2 ⊢
      obtain ⟨e3, w3⟩ := pAddBits_sem hp (w2.drop i) (w1.ext e2)
      generalize pAddBits (o.1.drop i) a.1 o.2 = s at e3 w3 ⊢
      have e13 := e1.trans (e2.trans e3)
      obtain ⟨e4, w4⟩ := pMulL_sem hp r (i + 1) (o.1.take i ++ s.1) s.2 hr' (by omega) (hx.ext e13) (hy.ext e13) (by
        have := ((w2.take i).ext e3).append w3
        rw [ho.len] at this
        simp only [mulG, if_neg h0]
        exact this)
      exact ⟨e13.trans e4, w4⟩
theorem pMulBits_sem (hp : Supp p) (hx : Wires p l gs x xs) (hy : Wires p l gs y ys) : GExt p gs (pMulBits x y gs).2 ∧ Wires p l (pMulBits x y gs).2 (pMulBits x y gs).1 (mulB xs ys) := by
  obtain ⟨e1, w1⟩ := pMulL_sem hp y 0 [] gs (by simp) (by omega) hx hy (Wires.nil _ _ _)
  obtain ⟨e2, w2⟩ := pPad_sem hp (x.length + y.length - (pMulL x y 0 [] gs).1.length) w1
  refine ⟨e1.trans e2, ?_⟩
  have := w2.take (x.length + y.length)
  rw [w1.len, hx.len, hy.len] at this
  have e : (mulG xs ys ys.length ++ List.replicate (xs.length + ys.length - (mulG xs ys ys.length).length) false).take (xs.length + ys.length) = mulB xs ys := by
    apply List.take_of_length_le
    have := mulB_len xs ys
    simp only [mulB] at this
    omega
  rw [e] at this
  simp only [pMulBits, hx.len, hy.len, w1.len]
  exact this
theorem compose_mod (s w b n p : Int) : ((s + w * b % p) % p + (w + w) % p * n) % p = (s + w * (b + 2 * n)) % p := by
  have h1 : (w + w) % p * n % p = (w + w) * n % p := by rw [Int.mul_emod, Int.emod_emod, ← Int.mul_emod]
  have h2 : (s + w * b % p) % p = (s + w * b) % p := by rw [Int.add_emod, Int.emod_emod, ← Int.add_emod]
  rw [Int.add_emod, h1, h2, Int.emod_emod, ← Int.add_emod]
  congr 1
  rw [Int.mul_add, ← Int.mul_assoc w 2 n, Int.mul_comm w 2, Int.two_mul, Int.add_assoc]
theorem pComposeL_sem (hp : Supp p) : ∀ (js : List Int) (bs : List Bool) (s w sv : Int) (gs : List Gate), Wires p l gs js bs → Wire p l gs s sv → 0 ≤ w → w < p → 0 ≤ sv → sv < p → Makes p l gs (pComposeL p js s w gs) ((sv + w * num bs) % p)
  | [], bs, s, w, sv, gs, hj, hs, h0, h1, h2, h3 => by
    have : bs = [] := by simpa using hj.len.symm
    subst this
    have e : (sv + w * (num [] : Nat)) % p = sv := by
      simp only [num, Int.ofNat_zero, Int.mul_zero, Int.add_zero]
      exact Int.emod_eq_of_lt h2 h3
    rw [e]
    exact ⟨GExt.refl _ _, hs⟩
  | k :: r, bs, s, w, sv, gs, hj, hs, h0, h1, h2, h3 => by
    have hpp := hp.pos
    obtain ⟨b, cs, rfl, wk, hr⟩ := hj.cons
    simp only [pComposeL]
    obtain ⟨e1, w1⟩ := scale_sem h0 h1 wk
    obtain ⟨e2, w2⟩ := add_sem (hs.ext e1) w1
    refine (Makes.then (e1.trans e2) (pComposeL_sem hp r cs _ ((w + w) % p) _ _ (hr.ext (e1.trans e2)) w2 (Int.emod_nonneg _ (by omega)) (Int.emod_lt_of_pos _ (by omega)) (Int.emod_nonneg _ (by omega)) (Int.emod_lt_of_pos _ (by omega)))).val ?_
    rw [compose_mod]
    have : (wordOf b + 2 * ((num cs : Nat) : Int)) = ((num (b :: cs) : Nat) : Int) := by
      cases b <;> simp [num, wordOf]
    rw [this]
theorem pCompose_sem (hp : Supp p) (hx : Wires p l gs x xs) : Makes p l gs (pCompose p x gs) ((num xs : Int) % p) := by
  have hpp := hp.pos
  obtain ⟨e1, w1⟩ := const_sem (p := p) (l := l) (gs := gs) (k := 0) (by omega) (by omega)
  refine (Makes.then e1 (pComposeL_sem hp x xs _ 1 0 _ (hx.ext e1) w1 (by omega) (by omega) (by omega) (by omega))).val ?_
  simp
/-! ### Inputs -/
theorem vals_at {i : Nat} (h : i < gs.length) : (vals p l gs).getD i 0 = gval p l (gs.take i) (vals p l (gs.take i)) gs[i] := by
  have h1 := vals_app p l (gs.drop (i + 1)) (gs.take (i + 1)) i (by rw [List.length_take]; omega)
  rw [List.take_append_drop] at h1
  rw [h1, List.take_succ_eq_append_getElem h, vals_snoc, getD_snoc, vals_len, List.length_take, if_neg (by omega), if_pos (by omega)]
theorem inCount_rep (f : Int) (n : Nat) : inCount f (List.replicate n (inGate f)) = n := by
  unfold inCount
  rw [List.countP_replicate]
  simp [inOf, inGate]
theorem inCount_rep' (f g : Int) (n : Nat) (h : f ≠ g) : inCount f (List.replicate n (inGate g)) = 0 := by
  unfold inCount
  rw [List.countP_replicate]
  simp [inOf, inGate, h.symm]
theorem inCount_append (f : Int) (a b : List Gate) : inCount f (a ++ b) = inCount f a + inCount f b := by
  unfold inCount
  exact List.countP_append
theorem in_wires {A B : List Gate} {f : Int} {n : Nat} {bs : List Bool} (hl : l.getD (f - 1).toNat [] = bs.map wordOf) (h0 : inCount f A = 0) (hn : bs.length = n) : Wires p l (A ++ List.replicate n (inGate f) ++ B) (ids A.length n) bs := by
  refine ⟨by rw [ids_len, hn], fun k hk => ?_⟩
  have e : (ids A.length n).getD k 0 = ((A.length + k : Nat) : Int) := by
    simp [ids, show k < n by omega]
  have hlen : A.length + k < (A ++ List.replicate n (inGate f) ++ B).length := by simp; omega
  rw [e]
  refine ⟨by omega, by omega, ?_⟩
  rw [Int.toNat_natCast, vals_at hlen]
  have g1 : (A ++ List.replicate n (inGate f) ++ B)[A.length + k] = inGate f := by
    rw [List.getElem_append_left (by simp; omega), List.getElem_append_right (by omega)]
    simp
  have g2 : (A ++ List.replicate n (inGate f) ++ B).take (A.length + k) = A ++ List.replicate k (inGate f) := by
    rw [List.append_assoc, List.take_length_add_append, List.take_append_of_le_length (by simp; omega), List.take_replicate, Nat.min_eq_left (by omega)]
  rw [g1, g2]
  simp only [gval]
  rw [if_pos (show (inGate f).kind = 1 from rfl)]
  show (l.getD (f - 1).toNat []).getD (inCount f (A ++ List.replicate k (inGate f))) 0 = _
  rw [hl, inCount_append, h0, inCount_rep, Nat.zero_add]
  simp [hk]
def inGates (n m : Nat) : List Gate := List.replicate n (inGate 1) ++ List.replicate m (inGate 2)
def words2 (xs ys : List Bool) : List (List Int) := [xs.map wordOf, ys.map wordOf]
theorem start_wires {gs : List Gate} (h : GExt p (inGates xs.length ys.length) gs) : Wires p (words2 xs ys) gs (ids 0 xs.length) xs ∧ Wires p (words2 xs ys) gs (ids xs.length ys.length) ys := by
  have h1 := in_wires (p := p) (l := words2 xs ys) (A := []) (B := List.replicate ys.length (inGate 2)) (f := 1) (n := xs.length) (bs := xs) rfl rfl rfl
  have h2 := in_wires (p := p) (l := words2 xs ys) (A := List.replicate xs.length (inGate 1)) (B := []) (f := 2) (n := ys.length) (bs := ys) rfl (inCount_rep' _ _ _ (by decide)) rfl
  rw [List.append_nil, List.length_replicate] at h2
  exact ⟨Wires.ext h1 h, Wires.ext h2 h⟩
theorem mem_inGates {n m : Nat} {g : Gate} (h : g ∈ inGates n m) : g = inGate 1 ∨ g = inGate 2 := by
  rcases List.mem_append.1 h with h | h
  · exact .inl (List.eq_of_mem_replicate h)
  · exact .inr (List.eq_of_mem_replicate h)
theorem start_valid (hp : Supp p) (n m : Nat) : validGates p (inGates n m) := by
  have := hp.pos
  intro i h
  rcases mem_inGates (List.getElem_mem h) with e | e <;> rw [e] <;> simp [validGate, inGate]
theorem start_wf {gs : List Gate} {n m : Nat} (h : GExt p (inGates n m) gs) : wfG gs := by
  obtain ⟨⟨hs, rfl, hh⟩, _⟩ := h
  intro g hg
  rcases List.mem_append.1 hg with hg | hg
  · rcases mem_inGates hg with rfl | rfl <;> simp [inGate]
  · exact (hh g hg).2
theorem start_fits (hp : Supp p) {gs : List Gate} (h : GExt p (inGates xs.length ys.length) gs) : fits p gs (words2 xs ys) := by
  have hpp := hp.pos
  have hc := h.inCount
  obtain ⟨⟨hs, rfl, hh⟩, _⟩ := h
  refine ⟨fun i hi hk => ?_, fun j hj => ?_⟩
  · rcases List.mem_append.1 (List.getElem_mem hi) with hg | hg
    · rcases mem_inGates hg with e | e <;> rw [e] <;> simp [inGate, words2]
    · exact absurd hk (hh _ hg).1
  · have hw : ∀ (bs : List Bool), ∀ x ∈ bs.map wordOf, x < p := by
      intro bs x hx
      obtain ⟨b, _, rfl⟩ := List.mem_map.1 hx
      have := wordOf_rng b
      omega
    match j, hj with
    | 0, _ =>
      refine ⟨?_, hw xs⟩
      show (xs.map wordOf).length = inCount (0 + 1) _
      rw [List.length_map, show ((0 : Int) + 1) = 1 from rfl, hc, inGates, inCount_append, inCount_rep, inCount_rep' _ _ _ (by decide)]
      rfl
    | 1, _ =>
      refine ⟨?_, hw ys⟩
      show (ys.map wordOf).length = inCount (1 + 1) _
      rw [List.length_map, show ((1 : Int) + 1) = 2 from rfl, hc, inGates, inCount_append, inCount_rep, inCount_rep' _ _ _ (by decide), Nat.zero_add]
theorem badUpto_bits {gs : List Gate} {l : List Int} {f : Int} (h : ∀ x ∈ l, x ≤ 1) : ∀ i, badUpto gs l f i = false
  | 0 => rfl
  | i + 1 => by
    simp only [badUpto, badUpto_bits h i, Bool.false_or]
    split
    · rename_i g _
      have : ¬ 1 < l.getD (inCount f (gs.take i)) 0 := by
        rw [List.getD_eq_getElem?_getD]
        cases he : l[inCount f (gs.take i)]? with
        | none => simp
        | some y =>
          have := h y (List.mem_of_getElem? he)
          simp
          omega
      rw [decide_eq_false this, Bool.and_false, Bool.and_false]
    · rfl
theorem eff_bits {gs : List Gate} {ins : List (List Int)} (h : ∀ l ∈ ins, ∀ x ∈ l, x ≤ 1) : eff gs ins = ins := by
  apply List.ext_getElem?
  intro j
  by_cases hj : j < ins.length
  · have hb := badUpto_bits (gs := gs) (f := (j : Int) + 1) (h _ (List.getElem_mem hj)) gs.length
    rw [eff_get gs ins hj, hb, List.getElem?_eq_getElem hj]
    rfl
  · rw [List.getElem?_eq_none (by rw [eff_len]; omega), List.getElem?_eq_none (by omega)]
theorem start_eff (gs : List Gate) (xs ys : List Bool) : eff gs (words2 xs ys) = words2 xs ys := by
  apply eff_bits
  intro l hl x hx
  have key : ∀ bs : List Bool, x ∈ bs.map wordOf → x ≤ 1 := fun bs hx => by
    obtain ⟨b, _, rfl⟩ := List.mem_map.1 hx
    exact (wordOf_rng b).2
  simp only [words2, List.mem_cons, List.not_mem_nil, or_false] at hl
  rcases hl with rfl | rfl
  · exact key _ hx
  · exact key _ hx
theorem start_wfI (xs ys : List Bool) : wfI (words2 xs ys) := by
  intro l hl x hx
  have key : ∀ bs : List Bool, x ∈ bs.map wordOf → 0 ≤ x := fun bs hx => by
    obtain ⟨b, _, rfl⟩ := List.mem_map.1 hx
    exact (wordOf_rng b).1
  simp only [words2, List.mem_cons, List.not_mem_nil, or_false] at hl
  rcases hl with rfl | rfl
  · exact key _ hx
  · exact key _ hx
theorem wires_outs {os : List Int} {bs : List Bool} (h : Wires p l gs os bs) : outsOf p l gs os = bs.map wordOf ∧ ∀ o ∈ os, 0 ≤ o ∧ o < gs.length := by
  have hl := h.len
  refine ⟨?_, fun o ho => ?_⟩
  · apply List.ext_getElem?
    intro i
    by_cases hi : i < os.length
    · have := (h.at_ i (by omega)).at_
      simp only [outsOf, List.getElem?_map, List.getElem?_eq_getElem hi, List.getElem?_eq_getElem (show i < bs.length by omega), Option.map_some]
      have e1 : os.getD i 0 = os[i] := by simp [hi]
      have e2 : bs.getD i false = bs[i]'(by omega) := by simp [show i < bs.length by omega]
      rw [e1, e2] at this
      exact congrArg some this
    · rw [List.getElem?_eq_none (by simp [outsOf]; omega), List.getElem?_eq_none (by simp; omega)]
  · obtain ⟨i, hi, rfl⟩ := List.mem_iff_getElem.1 ho
    have := h.at_ i (by omega)
    have e : os.getD i 0 = os[i] := by simp [hi]
    rw [e] at this
    exact ⟨this.lo, this.hi⟩
end
end Go.Proofs.Ytpbaoefjkfdgmaa.SL
