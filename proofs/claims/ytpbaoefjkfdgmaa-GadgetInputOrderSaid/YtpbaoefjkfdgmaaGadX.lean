/- MulBits: the walk. -/
import Derived.Test.YtpbaoefjkfdgmaaGadW
set_option linter.unusedVariables false
set_option linter.unusedSimpArgs false
namespace Go.Proofs.Ytpbaoefjkfdgmaa.SL
open Go

/-- All that is known beside the slice. -/
theorem Grown.others {A B C : Heap} {sz n sz' m : Nat} {e e' : TypeId} {v w : Value} {cs ds : List Value} (h : Grown A B sz e v n cs) (k : Grown B C sz' e' w m ds) : ∃ R, Grown R C sz e v n cs ∧ Le A R ∧ Own sz' e' R w m ds := by
  refine ⟨fun i => if blkOf v = some i then none else C i, ⟨fun i c hi => ?_, (h.le k.1).2.1, fun j hj => by simp [hj]⟩, fun i c hi => ?_, k.2.1.mono fun j hj => ?_⟩
  · by_cases e : blkOf v = some i
    · simp [e] at hi
    · simpa [e] using hi
  · have hne : blkOf v ≠ some i := fun e => by rw [h.2.2 i e] at hi; cases hi
    simp only [if_neg hne]
    exact k.1 _ _ (h.1 _ _ hi)
  · have hne : blkOf v ≠ some j := fun e => by
      obtain ⟨_, _, h1⟩ := h.2.1.at_ e
      rw [k.2.2 j hj] at h1
      cases h1
    simp only [if_neg hne]
def pPad : Nat → List Int → List Gate → List Int × List Gate
  | 0, out, gs => (out, gs)
  | d + 1, out, gs =>
    let c := pConst 0 gs
    pPad d (out ++ [c.1]) c.2
theorem pPad_len : ∀ (d : Nat) (out : List Int) (gs : List Gate), (pPad d out gs).1.length = out.length + d ∧ (pPad d out gs).2.length = gs.length + d
  | 0, _, _ => ⟨rfl, rfl⟩
  | d + 1, out, gs => by
    have := pPad_len d (out ++ [(pConst 0 gs).1]) (pConst 0 gs).2
    simp only [pPad]
    simp at this
    omega
theorem pAddBits_len (x y : List Int) (gs : List Gate) : (pAddBits x y gs).1.length = max x.length y.length + 1 ∧ (pAddBits x y gs).2.length ≤ gs.length + max x.length y.length * 9 + 2 := by
  obtain ⟨a, b⟩ := pPairsAll_len (one := oAdder) (n := 9) (by simp) x y (pConst 0 gs).1 (pConst 0 gs).2
  rw [pConst_len] at b
  simp only [pAddBits, List.length_append, List.length_singleton]
  omega
def pMulL (x : List Int) : List Int → Nat → List Int → List Gate → List Int × List Gate
  | [], _, out, gs => (out, gs)
  | k :: ys, i, out, gs =>
    let r := pRow k false x gs
    if i = 0 then pMulL x ys (i + 1) r.1 r.2 else
      let o := pPad (i - out.length) out r.2
      let s := pAddBits (o.1.drop i) r.1 o.2
      pMulL x ys (i + 1) (o.1.take i ++ s.1) s.2
def pMulBits (x y : List Int) (gs : List Gate) : List Int × List Gate :=
  let o := pMulL x y 0 [] gs
  let z := pPad (x.length + y.length - o.1.length) o.1 o.2
  (z.1.take (x.length + y.length), z.2)
theorem pMulL_len0 (x : List Int) : ∀ (ys : List Int) (i : Nat) (out : List Int) (gs : List Gate), x.length ≤ 100 → i + ys.length ≤ 100 → out.length ≤ x.length + i → (pMulL x ys i out gs).2.length ≤ gs.length + ys.length * 5000
  | [], i, out, gs, _, _, _ => by simp [pMulL]
  | k :: ys, i, out, gs, hx, hi, ho => by
    simp only [pMulL]
    obtain ⟨rl1, rl2⟩ := pRow_len k false x gs
    generalize pRow k false x gs = r at rl1 rl2 ⊢
    rw [List.length_cons] at hi ⊢
    have hmul : (ys.length + 1) * 5000 = ys.length * 5000 + 5000 := Nat.succ_mul _ _
    split
    · rename_i h0
      have := pMulL_len0 x ys (i + 1) r.1 r.2 hx (by omega) (by omega)
      omega
    · obtain ⟨ol1, ol2⟩ := pPad_len (i - out.length) out r.2
      generalize pPad (i - out.length) out r.2 = o at ol1 ol2 ⊢
      obtain ⟨sl1, sl2⟩ := pAddBits_len (o.1.drop i) r.1 o.2
      generalize pAddBits (o.1.drop i) r.1 o.2 = s at sl1 sl2 ⊢
      have dl : (o.1.drop i).length = o.1.length - i := List.length_drop
      have hm9 : max (o.1.drop i).length r.1.length * 9 ≤ 100 * 9 := Nat.mul_le_mul_right _ (by omega)
      have := pMulL_len0 x ys (i + 1) (o.1.take i ++ s.1) s.2 hx (by omega) (by rw [List.length_append, List.length_take]; omega)
      omega
theorem pMulL_len (x y : List Int) (gs : List Gate) (hx : x.length ≤ 100) (hy : y.length ≤ 100) : (pMulL x y 0 [] gs).2.length ≤ gs.length + y.length * 5000 := pMulL_len0 x y 0 [] gs hx (by omega) (by simp)
section
variable {b xv yv : Value} {p : Int} {os : List Int} {x y : List Int}
theorem row_loop {G0 : Heap} {x2 x7 x8 x14 x15 x16 : Value} {k : Int} (hx : Sl (eInt .i64) G0 xv x) (hlx : x.length ≤ 1000) {kn : Value → Value → Value → Value → Value → Value → Value → Value → Value → Heap → Prop} {kx1 : Value → Value → Value → Value → Value → Value → Value → Heap → Prop} {kx0 : Value → Value → Value → Value → Heap → Prop} {Q : Ending → Heap → Prop} :
    ∀ (d i : Nat) (G H : Heap) (v : Value) (out : List Int) (gs : List Gate), x.length - i = d → i ≤ x.length → Bd G H b p gs os → Grown G0 G 1 3 v i (icells out) → gs.length + d ≤ 100000000 →
      (∀ v G H, Bd G H b p (pRow k false (x.drop i) gs).2 os → Grown G0 G 1 3 v x.length (icells (out ++ (pRow k false (x.drop i) gs).1)) → kn b xv x2 x7 x8 v x14 x15 x16 H) →
      L42_16 b xv x2 x7 x8 (.int .i64 k) v x14 x15 x16 xv (.int .i64 x.length) (.int .i64 i) H kn kx1 kx0 Q := by
  intro d
  induction d with
  | zero =>
    intro i G H v out gs hd hi hB hg hb hk
    apply L42_16_round
    unfold m42_17
    refine oV_eq (vInt_lss _ _ _) (condK_dec (fun hlt => absurd hlt (by omega)) (fun _ => ?_))
    have : i = x.length := by omega
    subst this
    rw [List.drop_eq_nil_of_le (by omega)] at hk
    simp only [pRow, List.append_nil] at hk
    exact hk v G H hB hg
  | succ d ih =>
    intro i G H v out gs hd hi hB hg hb hk
    apply L42_16_round
    unfold m42_17
    refine oV_eq (vInt_lss _ _ _) (condK_dec (fun hlt => ?_) (fun hlt => absurd (by omega) hlt))
    obtain ⟨q, f1, f2⟩ := ((hx.mono hg.1).mono hB.le).int .i64 (i := (i : Int)) (by omega) (by omega) (ti := ty3) rfl
    have hil : i < x.length := by omega
    have e : x.getD (i : Int).toNat 0 = x[i] := by simp [hil]
    rw [e] at f2
    rw [List.drop_eq_getElem_cons hil] at hk
    generalize x[i] = j at f2 hk
    simp only [pRow, Bool.false_eq_true, if_false] at hk
    refine oV_eq f1 (oV_eq f2 (oRC_ret (mul_puts b p j k _ _ _ _ hB (by omega)) fun v1 H1 hv => ?_))
    obtain ⟨rfl, hB1⟩ := hv
    refine bd_append (te := ty3) hB1 hg rfl rfl (fun c hc => by rw [List.mem_singleton.1 hc]; rfl) (by show 0 < 1; omega) (by show (i + 1) * 8 ≤ _; omega) (by omega) fun v' G2 H2 hB2 hg2 => ?_
    refine oV_eq (vInt_add _ _ _) ?_
    rw [wrap_i64 (by omega) (by omega)]
    refine ih (i + 1) G2 H2 v' (out ++ [(pMul j k gs).1]) _ (by omega) (by omega) hB2 (by rw [icells, List.map_append]; exact hg2) (by simp; omega) fun v3 G3 H3 hB3 hg3 => ?_
    refine hk v3 G3 H3 hB3 ?_
    rw [List.append_assoc] at hg3
    exact hg3
theorem pad_loop13 {R : Heap} {x1 x2 x10 x14 x15 x16 : Value} {n : Nat} (hn : n ≤ 10000) {kn : Value → Value → Value → Value → Value → Value → Value → Value → Value → Heap → Prop} {kx1 : Value → Value → Value → Value → Value → Value → Value → Heap → Prop} {kx0 : Value → Value → Value → Value → Heap → Prop} {Q : Ending → Heap → Prop} :
    ∀ (d m : Nat) (G H : Heap) (v : Value) (out : List Int) (gs : List Gate), n - m = d → Bd G H b p gs os → Grown R G 1 3 v m (icells out) → gs.length + d ≤ 100000000 →
      (∀ v G H, Bd G H b p (pPad d out gs).2 os → Grown R G 1 3 v (m + d) (icells (pPad d out gs).1) → kn b x1 x2 v (.int .i64 n) x10 x14 x15 x16 H) →
      L42_13 b x1 x2 v (.int .i64 n) x10 x14 x15 x16 H kn kx1 kx0 Q := by
  intro d
  induction d with
  | zero =>
    intro m G H v out gs hd hB hg hb hk
    apply L42_13_round
    unfold m42_14
    refine oV_eq hg.2.1.len (oV_eq (vInt_lss _ _ _) (condK_dec (fun hlt => absurd hlt (by omega)) (fun _ => ?_)))
    exact hk v G H hB hg
  | succ d ih =>
    intro m G H v out gs hd hB hg hb hk
    apply L42_13_round
    unfold m42_14
    refine oV_eq hg.2.1.len (oV_eq (vInt_lss _ _ _) (condK_dec (fun hlt => ?_) (fun hlt => absurd (by omega) hlt)))
    refine oRC_ret (const_puts b p 0 _ _ _ _ hB (by omega)) fun v1 H1 hv => ?_
    obtain ⟨rfl, hB1⟩ := hv
    refine bd_append (te := ty3) hB1 hg rfl rfl (fun c hc => by rw [List.mem_singleton.1 hc]; rfl) (by show 0 < 1; omega) (by show (m + 1) * 8 ≤ _; omega) (by omega) fun v' G2 H2 hB2 hg2 => ?_
    refine ih (m + 1) G2 H2 v' (out ++ [(pConst 0 gs).1]) _ (by omega) hB2 (by rw [icells, List.map_append]; exact hg2) (by simp; omega) fun v3 G3 H3 hB3 hg3 => ?_
    exact hk v3 G3 H3 hB3 (by rw [show m + (d + 1) = m + 1 + d by omega]; exact hg3)
theorem pad_loop3 {R : Heap} {n : Nat} (hn : n ≤ 10000) {kn : Value → Value → Heap → Prop} {Q : Ending → Heap → Prop} :
    ∀ (d m : Nat) (G H : Heap) (v : Value) (out : List Int) (gs : List Gate), n - m = d → Bd G H b p gs os → Grown R G 1 3 v m (icells out) → gs.length + d ≤ 100000000 →
      (∀ v G H, Bd G H b p (pPad d out gs).2 os → Grown R G 1 3 v (m + d) (icells (pPad d out gs).1) → kn v (.int .i64 n) H) →
      L42_3 b v (.int .i64 n) H kn Q := by
  intro d
  induction d with
  | zero =>
    intro m G H v out gs hd hB hg hb hk
    apply L42_3_round
    unfold m42_4
    refine oV_eq hg.2.1.len (oV_eq (vInt_lss _ _ _) (condK_dec (fun hlt => absurd hlt (by omega)) (fun _ => ?_)))
    exact hk v G H hB hg
  | succ d ih =>
    intro m G H v out gs hd hB hg hb hk
    apply L42_3_round
    unfold m42_4
    refine oV_eq hg.2.1.len (oV_eq (vInt_lss _ _ _) (condK_dec (fun hlt => ?_) (fun hlt => absurd (by omega) hlt)))
    refine oRC_ret (const_puts b p 0 _ _ _ _ hB (by omega)) fun v1 H1 hv => ?_
    obtain ⟨rfl, hB1⟩ := hv
    refine bd_append (te := ty3) hB1 hg rfl rfl (fun c hc => by rw [List.mem_singleton.1 hc]; rfl) (by show 0 < 1; omega) (by show (m + 1) * 8 ≤ _; omega) (by omega) fun v' G2 H2 hB2 hg2 => ?_
    refine ih (m + 1) G2 H2 v' (out ++ [(pConst 0 gs).1]) _ (by omega) hB2 (by rw [icells, List.map_append]; exact hg2) (by simp; omega) fun v3 G3 H3 hB3 hg3 => ?_
    exact hk v3 G3 H3 hB3 (by rw [show m + (d + 1) = m + 1 + d by omega]; exact hg3)
theorem mul_loop {G0 : Heap} (hp : Supp p) (hx : Sl (eInt .i64) G0 xv x) (hy : Sl (eInt .i64) G0 yv y) (hlx : x.length ≤ 100) (hly : y.length ≤ 100) {kn : Value → Value → Value → Value → Heap → Prop} {Q : Ending → Heap → Prop} :
    ∀ (d i : Nat) (G H : Heap) (v : Value) (out : List Int) (gs : List Gate), y.length - i = d → i ≤ y.length → Bd G H b p gs os → Grown G0 G 1 3 v out.length (icells out) → out.length ≤ x.length + i → gs.length + d * 5000 ≤ 800000 →
      (∀ v G H, Bd G H b p (pMulL x (y.drop i) i out gs).2 os → Grown G0 G 1 3 v (pMulL x (y.drop i) i out gs).1.length (icells (pMulL x (y.drop i) i out gs).1) → kn b xv yv v H) →
      L42_6 b xv yv v yv (.int .i64 y.length) (.int .i64 i) H kn Q := by
  intro d
  induction d with
  | zero =>
    intro i G H v out gs hd hi hB hg ho hb hk
    apply L42_6_round
    unfold m42_7
    refine oV_eq (vInt_lss _ _ _) (condK_dec (fun hlt => absurd hlt (by omega)) (fun _ => ?_))
    rw [List.drop_eq_nil_of_le (by omega)] at hk
    exact hk v G H hB hg
  | succ d ih =>
    intro i G H v out gs hd hi hB hg ho hb hk
    apply L42_6_round
    unfold m42_7
    refine oV_eq (vInt_lss _ _ _) (condK_dec (fun hlt => ?_) (fun hlt => absurd (by omega) hlt))
    unfold m42_9 m42_10
    have hil : i < y.length := by omega
    obtain ⟨q, f1, f2⟩ := ((hy.mono hg.1).mono hB.le).int .i64 (i := (i : Int)) (by omega) (by omega) (ti := ty3) rfl
    have e : y.getD (i : Int).toNat 0 = y[i] := by simp [hil]
    rw [e] at f2
    rw [List.drop_eq_getElem_cons hil] at hk
    generalize y[i] = k at f2 hk
    simp only [pMulL] at hk
    have hmul : (d + 1) * 5000 = d * 5000 + 5000 := Nat.succ_mul _ _
    refine oV_eq f1 (oV_eq f2 ?_)
    unfold m42_15
    refine oV_eq hx.len ?_
    refine row_loop (G0 := G) (hx.mono hg.1) (by omega) x.length 0 G H _ [] gs (by omega) (by omega) hB (Grown.nil _ _ _) (by omega) fun w G1 H1 hB1 hg1 => ?_
    rw [List.drop_zero] at hB1 hg1
    rw [List.nil_append] at hg1
    obtain ⟨rl1, rl2⟩ := pRow_len k false x gs
    generalize pRow k false x gs = r at hB1 hg1 rl1 rl2 hk
    unfold m42_11
    refine oV_eq (vInt_eql _ _ _) (condK_dec (fun h0 => ?_) (fun h0 => ?_))
    · have : i = 0 := by omega
      subst this
      unfold m42_8
      refine oV_eq (vInt_add _ _ _) ?_
      rw [wrap_i64 (by omega) (by omega)]
      simp only [if_true] at hk
      refine ih (0 + 1) G1 H1 w r.1 r.2 (by omega) (by omega) hB1 (by rw [rl1]; exact hg1.less hg.1) (by omega) (by omega) hk
    · have h0' : i ≠ 0 := by omega
      simp only [if_neg h0'] at hk
      obtain ⟨R, hR, hRA, hRw⟩ := hg.others hg1
      refine pad_loop13 (R := R) (n := i) (by omega) (i - out.length) out.length G1 H1 v out r.2 rfl hB1 hR (by omega) fun v2 G2 H2 hB2 hg2 => ?_
      obtain ⟨ol1, ol2⟩ := pPad_len (i - out.length) out r.2
      generalize pPad (i - out.length) out r.2 = o at hB2 hg2 ol1 ol2 hk
      have hol : out.length + (i - out.length) = o.1.length := by omega
      rw [hol] at hg2
      unfold m42_12
      obtain ⟨u1, s1, t1⟩ := Own.upto (k := .i64) hg2.2.1 (i := i) (by omega)
      obtain ⟨u2, s2, t2⟩ := Own.from_ (k := .i64) hg2.2.1 (i := i) (by omega)
      refine oV_eq s1 (oV_eq s2 ?_)
      have tl : (o.1.take i).length = i := by rw [List.length_take]; omega
      have dl : (o.1.drop i).length = o.1.length - i := List.length_drop
      refine oRC_ret (clone_own (t1.mono hB2.le) (by omega)) fun cv H3 hcg => ?_
      obtain ⟨N, hN, hcN⟩ := hcg.new hB2.le
      replace hB2 := hB2.news hN
      have hrow : Sl (eInt .i64) R w r.1 := Own.sl_int (by rw [rl1]; exact hRw)
      have hrow2 := (hrow.mono hg2.1).mono hcN.1
      refine oRC_ret (addBits_spec hp hB2 (t2.mono hcN.1) hrow2 (by omega) (by omega) (by omega)) fun av H4 hv => ?_
      obtain ⟨G4, hB4, hg4⟩ := hv
      obtain ⟨sl1, sl2⟩ := pAddBits_len (o.1.drop i) r.1 o.2
      generalize pAddBits (o.1.drop i) r.1 o.2 = s at hB4 hg4 sl1 sl2 hk
      have hc4 := hcN.le hg4.1
      have hown := hg4.2.1.mono fun j hj => by
        obtain ⟨_, _, h1⟩ := hg4.2.1.at_ hj
        exact (hB4.le _ _ h1).trans h1.symm
      obtain ⟨xb, xc, hav, hxc, hxr⟩ := hown.read
      subst hav
      have hmx : max (o.1.drop i).length r.1.length ≤ 100 := by omega
      refine bd_appendS (te := ty3) hB4 hc4 hxr (fun c hc => ?_) (by omega) (by show 0 < 1; omega) (by show (_ + _) * 8 ≤ _; omega) (by omega) ?_ fun v5 G5 H5 hB5 hg5 => ?_
      · obtain ⟨z, _, rfl⟩ := List.mem_map.1 hc
        rfl
      · rw [icells, List.length_map, sl1]
        show _ = _ * 1
        omega
      · unfold m42_8
        refine oV_eq (vInt_add _ _ _) ?_
        rw [wrap_i64 (by omega) (by omega)]
        have hlen : (o.1.take i ++ s.1).length = i + (max (o.1.drop i).length r.1.length + 1) := by rw [List.length_append, tl, sl1]
        have hm9 : max (o.1.drop i).length r.1.length * 9 ≤ 100 * 9 := Nat.mul_le_mul_right _ hmx
        refine ih (i + 1) G5 H5 v5 (o.1.take i ++ s.1) s.2 (by omega) (by omega) hB5 ?_ (by omega) (by omega) hk
        rw [hlen, icells, List.map_append]
        have := (hg5.less hg2.1).less hRA
        rw [tl] at this
        exact this
theorem mulBits_spec {G H : Heap} {gs : List Gate} (hp : Supp p) (h : Bd G H b p gs os) (hx : Sl (eInt .i64) G xv x) (hy : Sl (eInt .i64) G yv y) (hlx : x.length ≤ 100) (hly : y.length ≤ 100) (hgl : gs.length ≤ 1000) :
    RCalls Try.prog 42 [b, xv, yv] H (Ret fun v H' => ∃ G', Le G G' ∧ Bd G' H' b p (pMulBits x y gs).2 os ∧ Sl (eInt .i64) G' v (pMulBits x y gs).1) := by
  apply call42
  unfold m42 m42_5
  refine oV_eq hy.len ?_
  refine mul_loop (G0 := G) hp hx hy hlx hly y.length 0 G H _ [] gs (by omega) (by omega) h (Grown.nil _ _ _) (by simp) (by omega) fun v G1 H1 hB1 hg1 => ?_
  rw [List.drop_zero] at hB1 hg1
  unfold m42_1
  refine oV_eq hx.len (oV_eq hy.len (oV_eq (vInt_add _ _ _) ?_))
  rw [wrap_i64 (by omega) (by omega)]
  have e : ((x.length : Int) + (y.length : Int)) = ((x.length + y.length : Nat) : Int) := by omega
  rw [e]
  have hbd := pMulL_len x y gs hlx hly
  refine pad_loop3 (R := G) (n := x.length + y.length) (by omega) _ (pMulL x y 0 [] gs).1.length G1 H1 v _ _ rfl hB1 hg1 (by omega) fun v2 G2 H2 hB2 hg2 => ?_
  unfold m42_2
  obtain ⟨u1, s1, t1⟩ := Own.upto (k := .i64) hg2.2.1 (i := x.length + y.length) (by omega)
  exact oV_eq s1 ⟨G2, hg2.1, hB2, t1⟩
end
end Go.Proofs.Ytpbaoefjkfdgmaa.SL
