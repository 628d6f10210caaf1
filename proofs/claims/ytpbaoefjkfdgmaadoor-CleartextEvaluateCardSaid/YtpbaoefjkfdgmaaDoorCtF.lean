/- SameList, Few, the law's example; the law. -/
import Derived.Test.YtpbaoefjkfdgmaaDoorCtE
set_option linter.unusedVariables false
set_option linter.unusedSimpArgs false
namespace Go.Proofs.YtpbaoefjkfdgmaaDoor.SL
open Go

section
variable {H : Heap} {a b : Value} {xs : List Int}
theorem same_spec (ha : Sl (eInt .u64) H a xs) (hb : Sl (eInt .u64) H b xs) : RCalls Tryd.prog 10 [a, b] H (Val (.bool true) H) := by
  have hmx := ha.max
  apply call10
  unfold m10
  refine oV_eq ha.len (oV_eq hb.len (oV_eq (vInt_neq _ _ _) ?_))
  rw [decide_eq_false (by simp)]
  refine condK_false ?_
  unfold m10_2
  have key : ∀ (n i : Nat), xs.length - i = n → i ≤ xs.length → L10_3 a b (.int .i64 i) H (fun H_40 => m10_1 H_40 (Val (.bool true) H)) (Val (.bool true) H) := by
    intro n
    induction n with
    | zero =>
      intro i hd hi
      apply L10_3_round
      unfold m10_4
      refine oV_eq ha.len (oV_eq (vInt_lss _ _ _) (condK_dec (fun hlt => absurd hlt (by omega)) (fun _ => ?_)))
      unfold m10_1
      exact ⟨rfl, rfl⟩
    | succ n ih =>
      intro i hd hi
      apply L10_3_round
      unfold m10_4
      refine oV_eq ha.len (oV_eq (vInt_lss _ _ _) (condK_dec (fun hlt => ?_) (fun hlt => absurd (by omega) hlt)))
      obtain ⟨qa, f1, f2⟩ := ha.int .i64 (i := (i : Int)) (by omega) (by omega) (ti := ty22) rfl
      obtain ⟨qb, g1, g2⟩ := hb.int .i64 (i := (i : Int)) (by omega) (by omega) (ti := ty22) rfl
      refine oV_eq f1 (oV_eq f2 (oV_eq g1 (oV_eq g2 (oV_eq (vInt_neq _ _ _) ?_))))
      rw [decide_eq_false (by simp)]
      refine condK_false (oV_eq (vInt_add _ _ _) ?_)
      rw [wrap_i64 (by omega) (by omega)]
      exact ih (i + 1) (by omega) (by omega)
  exact key _ 0 rfl (by omega)
/-! ### Few -/
theorem few_spec {c iv : Value} {p n : Int} {gs : List Gate} {os : List Int} {ins : List (List Int)} (h : Circ H c p gs os) (hin : Sl (eSlice (eInt .u64)) H iv ins) :
    RCalls Tryd.prog 4 [c, iv, .int .i64 n] H (Ret fun v H' => ∃ b : Bool, v = .bool b ∧ (b = true → ins.length ≤ 20) ∧ Le H H') := by
  have hmx := hin.max
  apply call4
  unfold m4
  refine circ_new h fun i H1 gv ov hl hc => ?_
  have hin1 := hin.mono hl
  refine oV_eq (vField_to _ _) (oV_eq hc.lg (oV_eq hc.gates.len (oV_eq (vInt_gtr _ _ _) ?_)))
  have no : (Ret fun v H' => ∃ b : Bool, v = .bool b ∧ (b = true → ins.length ≤ 20) ∧ Le H H') (.returned (.bool false)) H1 := ⟨false, rfl, fun h => (by cases h), hl⟩
  by_cases c1 : n < (gs.length : Int)
  · rw [decide_eq_true c1]
    exact condK_true no
  rw [decide_eq_false c1]
  refine oV_eq (v := .pointer (some ⟨i, 2, none⟩)) rfl (oV_eq (v := ov) hc.lo (oV_eq (v := .int .i64 os.length) hc.outs.len (oV_eq (v := .int .i64 n) rfl (oV_eq (v := .bool (decide (n < (os.length : Int)))) (vInt_gtr .i64 (os.length : Int) n) (oV_eq (v := .bool (decide (n < (os.length : Int)))) rfl ?_)))))
  by_cases c2 : n < (os.length : Int)
  · rw [decide_eq_true c2]
    exact condK_true no
  rw [decide_eq_false c2]
  refine oV_eq (v := iv) rfl (oV_eq (v := .int .i64 ins.length) hin1.len (oV_eq (v := .bool (decide (20 < (ins.length : Int)))) (vInt_gtr .i64 (ins.length : Int) 20) (oV_eq (v := .bool (decide (20 < (ins.length : Int)))) rfl ?_)))
  refine condK_dec (fun c3 => no) (fun c3 => ?_)
  unfold m4_2
  have key : ∀ (d j : Nat), ins.length - j = d → j ≤ ins.length → L4_3 iv (.int .i64 n) (.int .i64 j) H1 (fun H_40 => m4_1 H_40 (Ret fun v H' => ∃ b : Bool, v = .bool b ∧ (b = true → ins.length ≤ 20) ∧ Le H H')) (Ret fun v H' => ∃ b : Bool, v = .bool b ∧ (b = true → ins.length ≤ 20) ∧ Le H H') := by
    intro d
    induction d with
    | zero =>
      intro j hd hj
      apply L4_3_round
      unfold m4_4
      refine oV_eq hin1.len (oV_eq (vInt_lss _ _ _) (condK_dec (fun hlt => absurd hlt (by omega)) (fun _ => ?_)))
      unfold m4_1
      exact ⟨true, rfl, fun _ => by omega, hl⟩
    | succ d ih =>
      intro j hd hj
      apply L4_3_round
      unfold m4_4
      refine oV_eq hin1.len (oV_eq (vInt_lss _ _ _) (condK_dec (fun hlt => ?_) (fun hlt => absurd (by omega) hlt)))
      obtain ⟨pi, ui, i1, i2, i3⟩ := hin1.slice .i64 (i := (j : Int)) (by omega) (by omega) (ti := ty30) rfl
      refine oV_eq i1 (oV_eq i2 (oV_eq i3.len (oV_eq (vInt_gtr _ _ _) (condK_dec (fun _ => no) (fun _ => oV_eq (vInt_add _ _ _) ?_)))))
      rw [wrap_i64 (by omega) (by omega)]
      exact ih (j + 1) (by omega) (by omega)
  exact key _ 0 rfl (by omega)
/-! ### Literals -/
theorem lit_ints {k : IntKind} {H : Heap} {i : Nat} {t : TypeId} {n : Nat} (xs : List Int) (h : xs.length ≤ 1000000) : Sl (eInt k) (hins H i (.cells (xs.map (.int k)) n t true)) (.slice (some ⟨i, 0, none⟩) xs.length xs.length) xs := by
  refine ⟨some ⟨i, 0, none⟩, xs.length, xs.map (.int k), rfl, Nat.le_refl _, by omega, rdSlice_ins (by show _ = xs.length * 1; simp), fun j x hx => ?_⟩
  exact one_get _ j (.int k x) (by rw [List.getElem?_map, hx]; rfl)
theorem lit_rows {H : Heap} {i : Nat} {t : TypeId} {n : Nat} (xss : List (List Int)) (us : List Value) (hl : us.length = xss.length) (h : xss.length ≤ 1000000) (hi : H i = none) (hu : ∀ (j : Nat) (hj : j < xss.length), ∃ u, us[j]? = some u ∧ Sl (eInt .u64) H u xss[j]) :
    Sl (eSlice (eInt .u64)) (hins H i (.cells us n t true)) (.slice (some ⟨i, 0, none⟩) xss.length xss.length) xss := by
  refine ⟨some ⟨i, 0, none⟩, xss.length, us, rfl, Nat.le_refl _, by omega, rdSlice_ins (by show _ = xss.length * 1; omega), fun j x hx => ?_⟩
  obtain ⟨hj, rfl⟩ := List.getElem?_eq_some_iff.1 hx
  obtain ⟨u, h1, h2⟩ := hu j hj
  exact ⟨u, one_get _ j u h1, h2.mono (Le.ins _ hi)⟩
theorem lit_gates {H : Heap} {i : Nat} {t : TypeId} {n : Nat} (gs : List Gate) (h : gs.length ≤ 1000000) : Sl eGate (hins H i (.cells (gcells gs) n t true)) (.slice (some ⟨i, 0, none⟩) gs.length gs.length) gs :=
  ⟨some ⟨i, 0, none⟩, gs.length, gcells gs, rfl, Nat.le_refl _, by omega, rdSlice_ins (gcells_len gs), fun j x hx => gcells_get gs j x hx⟩
variable {k : Value → Heap → Prop}
theorem build1 (a : Int) (hk : ∀ v H', Le H H' → Sl (eInt .u64) H' v [a] → k v H') : oBuildS ty22 22 1 [((0, 1), .int .u64 a)] H k := by
  show oNew (([a] : List Int).map (.int .u64)) 1 22 H _
  intro i hi
  exact hk _ _ (Le.ins _ hi) (lit_ints [a] (by simp))
theorem build2 (a b : Int) (hk : ∀ v H', Le H H' → Sl (eInt .u64) H' v [a, b] → k v H') : oBuildS ty22 22 2 [((0, 1), .int .u64 a), ((1, 1), .int .u64 b)] H k := by
  show oNew (([a, b] : List Int).map (.int .u64)) 2 22 H _
  intro i hi
  exact hk _ _ (Le.ins _ hi) (lit_ints [a, b] (by simp))
theorem ibuild1 (a : Int) (hk : ∀ v H', Le H H' → Sl (eInt .i64) H' v [a] → k v H') : oBuildS ty3 3 1 [((0, 1), .int .i64 a)] H k := by
  show oNew (([a] : List Int).map (.int .i64)) 1 3 H _
  intro i hi
  exact hk _ _ (Le.ins _ hi) (lit_ints [a] (by simp))
theorem ibuild2 (a b : Int) (hk : ∀ v H', Le H H' → Sl (eInt .i64) H' v [a, b] → k v H') : oBuildS ty3 3 2 [((0, 1), .int .i64 a), ((1, 1), .int .i64 b)] H k := by
  show oNew (([a, b] : List Int).map (.int .i64)) 2 3 H _
  intro i hi
  exact hk _ _ (Le.ins _ hi) (lit_ints [a, b] (by simp))
theorem gbuild4 (a b c d : Gate) (hk : ∀ v H', Le H H' → Sl eGate H' v [a, b, c, d] → k v H') : oBuildS ty37 37 4 [((0, 5), a.val), ((5, 5), b.val), ((10, 5), c.val), ((15, 5), d.val)] H k := by
  show oNew (gcells [a, b, c, d]) 20 37 H _
  intro i hi
  exact hk _ _ (Le.ins _ hi) (lit_gates [a, b, c, d] (by simp))
theorem gbuild2 (a b : Gate) (hk : ∀ v H', Le H H' → Sl eGate H' v [a, b] → k v H') : oBuildS ty37 37 2 [((0, 5), a.val), ((5, 5), b.val)] H k := by
  show oNew (gcells [a, b]) 10 37 H _
  intro i hi
  exact hk _ _ (Le.ins _ hi) (lit_gates [a, b] (by simp))
theorem rbuild1 {u1 : Value} {r1 : List Int} (h1 : Sl (eInt .u64) H u1 r1) (hk : ∀ v H', Le H H' → Sl (eSlice (eInt .u64)) H' v [r1] → k v H') :
    oBuildS ty30 30 1 [((0, 1), u1)] H k := by
  obtain ⟨b1, c1, _, rfl, _⟩ := id h1
  show oNew [.slice b1 r1.length c1] 1 30 H _
  intro i hi
  exact hk _ _ (Le.ins _ hi) (lit_rows [r1] [.slice b1 r1.length c1] rfl (by simp) hi (fun j hj => by
    match j, hj with
    | 0, _ => exact ⟨_, rfl, h1⟩))
theorem rbuild2 {u1 u2 : Value} {r1 r2 : List Int} (h1 : Sl (eInt .u64) H u1 r1) (h2 : Sl (eInt .u64) H u2 r2) (hk : ∀ v H', Le H H' → Sl (eSlice (eInt .u64)) H' v [r1, r2] → k v H') :
    oBuildS ty30 30 2 [((0, 1), u1), ((1, 1), u2)] H k := by
  obtain ⟨b1, c1, _, rfl, _⟩ := id h1
  obtain ⟨b2, c2, _, rfl, _⟩ := id h2
  show oNew [.slice b1 r1.length c1, .slice b2 r2.length c2] 2 30 H _
  intro i hi
  exact hk _ _ (Le.ins _ hi) (lit_rows [r1, r2] [.slice b1 r1.length c1, .slice b2 r2.length c2] rfl (by simp) hi (fun j hj => by
    match j, hj with
    | 0, _ => exact ⟨_, rfl, h1⟩
    | 1, _ => exact ⟨_, rfl, h2⟩))
theorem circ_local {gv ov : Value} {p : Int} {gs : List Gate} {os : List Int} {k : Nat → Heap → Prop} (h1 : Sl eGate H gv gs) (h2 : Sl (eInt .i64) H ov os) (hk : ∀ i H', Le H H' → CircAt H' i p gv ov gs os → k i H') :
    oV (vBuild ty26 [((0, 1), .int .u64 p), ((1, 1), gv), ((2, 1), ov)]) fun t => oNew (Value.cells ty26.zero).toList (Value.cells ty26.zero).toList.length 26 H fun i H1 => oHeap (vStore ty26 (ptrTo i) t H1) fun H2 => k i H2 := by
  obtain ⟨b1, c1, _, rfl, _⟩ := id h1
  obtain ⟨b2, c2, _, rfl, _⟩ := id h2
  refine oV_eq (v := .agg #[.int .u64 p, .slice b1 gs.length c1, .slice b2 os.length c2]) rfl ?_
  show oNew [.int .u64 0, .slice none 0 0, .slice none 0 0] 3 26 H _
  intro i hi
  have e : vStore ty26 (ptrTo i) (.agg #[.int .u64 p, .slice b1 gs.length c1, .slice b2 os.length c2]) (hins H i (.cells [.int .u64 0, .slice none 0 0, .slice none 0 0] 3 26 true)) = some (hins (hins H i (.cells [.int .u64 0, .slice none 0 0, .slice none 0 0] 3 26 true)) i (.cells [.int .u64 p, .slice b1 gs.length c1, .slice b2 os.length c2] 3 26 true)) := by
    simp only [vStore, ptrTo, hins_self]
    rfl
  rw [hins_hins] at e
  have hl := Le.ins (.cells [.int .u64 p, .slice b1 gs.length c1, .slice b2 os.length c2] 3 26 true) hi
  exact oHeap_eq e (hk i _ hl ⟨hins_self _ _ _, h1.mono hl, h2.mono hl⟩)
/-! ### The example -/
def exG : List Gate := [⟨1, 1, 0, 0, 0⟩, ⟨1, 2, 0, 0, 0⟩, ⟨6, 0, 0, 1, 0⟩, ⟨5, 0, 2, 0, 3⟩]
def exB : List Gate := [⟨1, 1, 0, 0, 0⟩, ⟨1, 1, 0, 0, 1⟩]
theorem exG_valid : validC 31 exG [3] := ⟨.inl rfl, by decide, by decide, by unfold validGates; decide, by decide⟩
theorem exB_valid : validC 31 exB [0, 1] := ⟨.inl rfl, by decide, by decide, by unfold validGates; decide, by decide⟩
theorem exG_fits : fits 31 exG [[4], [5]] := by unfold fits; decide
theorem exG_not : ¬ fits 31 exG [[4]] := by unfold fits; decide
theorem exB_fits : fits 31 exB [[7, 2]] := by unfold fits; decide
theorem exB_fits1 : fits 31 exB [[7, 1]] := by unfold fits; decide
theorem exG_out : outsOf 31 (eff exG [[4], [5]]) exG [3] = [29] := by decide
theorem exB_out : outsOf 31 (eff exB [[7, 2]]) exB [0, 1] = [0, 0] := by decide
theorem exB_out1 : outsOf 31 (eff exB [[7, 1]]) exB [0, 1] = [7, 1] := by decide
theorem exG_wf : wfG exG := by unfold wfG; decide
theorem exB_wf : wfG exB := by unfold wfG; decide
theorem awake_spec (hG : GL H) : RCalls Tryd.prog 5 [] H (Ret fun v H' => v = .bool true ∧ Le H H') := by
  apply call5
  unfold m5
  refine oV_eq (v := Gate.val ⟨1, 1, 0, 0, 0⟩) rfl (oV_eq (v := Gate.val ⟨1, 2, 0, 0, 0⟩) rfl (oV_eq (v := Gate.val ⟨6, 0, 0, 1, 0⟩) rfl (oV_eq (v := Gate.val ⟨5, 0, 2, 0, 3⟩) rfl ?_)))
  refine gbuild4 _ _ _ _ fun s5 H1 l1 hs5 => ?_
  replace hs5 : Sl eGate H1 s5 exG := hs5
  refine ibuild1 3 fun s7 H2 l2 hs7 => ?_
  refine circ_local (hs5.mono l2) hs7 fun i H3 l3 hc => ?_
  refine oV_eq hc.lc ?_
  refine build1 4 fun s14 H4 l4 h14 => ?_
  refine build1 5 fun s16 H5 l5 h16 => ?_
  refine rbuild2 (h14.mono l5) h16 fun s18 H6 l6 h18 => ?_
  have m6 := ((((l1.trans l2).trans l3).trans l4).trans l5).trans l6
  replace hc := hc.mono ((l4.trans l5).trans l6)
  refine oRC_ret (cevaluate_spec (hG.mono m6) hc.circ h18 exG_wf (by unfold wfI; decide) (by decide)) fun v H7 hv => ?_
  obtain ⟨l7, hv, _⟩ := hv
  obtain ⟨u1, rfl, hu1⟩ := hv ⟨exG_valid, exG_fits⟩
  rw [exG_out] at hu1
  replace hc := hc.mono l7
  refine oV_eq (v := u1) rfl (oV_eq (v := .int .i64 0) rfl (oV_eq hc.lc ?_))
  refine build1 4 fun s25 H8 l8 h25 => ?_
  refine rbuild1 h25 fun s27 H9 l9 h27 => ?_
  have m9 := ((m6.trans l7).trans l8).trans l9
  replace hu1 := hu1.mono (l8.trans l9)
  replace hc := hc.mono (l8.trans l9)
  refine oRC_ret (cevaluate_spec (hG.mono m9) hc.circ h27 exG_wf (by unfold wfI; decide) (by decide)) fun v H10 hv => ?_
  obtain ⟨l10, _, hv⟩ := hv
  obtain rfl := hv fun h => exG_not h.2
  replace hu1 := hu1.mono l10
  refine oV_eq (v := .slice none 0 0) rfl (oV_eq (v := .int .i64 1) rfl (oV_eq (v := Gate.val ⟨1, 1, 0, 0, 0⟩) rfl (oV_eq (v := Gate.val ⟨1, 1, 0, 0, 1⟩) rfl ?_)))
  refine gbuild2 _ _ fun s35 H11 l11 hs35 => ?_
  replace hs35 : Sl eGate H11 s35 exB := hs35
  refine ibuild2 0 1 fun s37 H12 l12 hs37 => ?_
  refine circ_local (hs35.mono l12) hs37 fun i2 H13 l13 hc => ?_
  refine oV_eq hc.lc ?_
  refine build2 7 2 fun s44 H14 l14 h44 => ?_
  refine rbuild1 h44 fun s46 H15 l15 h46 => ?_
  have m15 := (((((m9.trans l10).trans l11).trans l12).trans l13).trans l14).trans l15
  replace hu1 := hu1.mono ((((l11.trans l12).trans l13).trans l14).trans l15)
  replace hc := hc.mono (l14.trans l15)
  refine oRC_ret (cevaluate_spec (hG.mono m15) hc.circ h46 exB_wf (by unfold wfI; decide) (by decide)) fun v H16 hv => ?_
  obtain ⟨l16, hv, _⟩ := hv
  obtain ⟨u2, rfl, hu2⟩ := hv ⟨exB_valid, exB_fits⟩
  rw [exB_out] at hu2
  replace hc := hc.mono l16
  replace hu1 := hu1.mono l16
  refine oV_eq (v := u2) rfl (oV_eq (v := .int .i64 0) rfl (oV_eq hc.lc ?_))
  refine build2 7 1 fun s53 H17 l17 h53 => ?_
  refine rbuild1 h53 fun s55 H18 l18 h55 => ?_
  have m18 := ((m15.trans l16).trans l17).trans l18
  replace hu1 := hu1.mono (l17.trans l18)
  replace hu2 := hu2.mono (l17.trans l18)
  replace hc := hc.mono (l17.trans l18)
  refine oRC_ret (cevaluate_spec (hG.mono m18) hc.circ h55 exB_wf (by unfold wfI; decide) (by decide)) fun v H19 hv => ?_
  obtain ⟨l19, hv, _⟩ := hv
  obtain ⟨u3, rfl, hu3⟩ := hv ⟨exB_valid, exB_fits1⟩
  rw [exB_out1] at hu3
  replace hu1 := hu1.mono l19
  replace hu2 := hu2.mono l19
  have m19 := m18.trans l19
  refine oV_eq (v := u3) rfl (oV_eq (v := .int .i64 0) rfl (oV_eq (v := .bool true) rfl (oV_eq (v := u1) rfl ?_)))
  refine gK_TT (build1 29 fun s105 H20 l20 h105 => ?_)
  refine gK_TT (oRC_val (same_spec (hu1.mono l20) h105) ?_)
  refine oV_eq (v := .bool true) rfl (oV_eq (v := .int .i64 1) rfl (oV_eq (v := .bool true) rfl (oV_eq (v := .bool true) rfl (oV_eq (v := .int .i64 0) rfl (oV_eq (v := .bool true) rfl (oV_eq (v := .bool true) rfl (oV_eq (v := u2) rfl ?_)))))))
  refine gK_TT (build2 0 0 fun s101 H21 l21 h101 => ?_)
  refine gK_TT (oRC_val (same_spec ((hu2.mono l20).mono l21) h101) ?_)
  refine oV_eq (v := .bool true) rfl (oV_eq (v := .int .i64 0) rfl (oV_eq (v := .bool true) rfl (oV_eq (v := .bool true) rfl (oV_eq (v := u3) rfl ?_))))
  refine gK_TT (build2 7 1 fun s97 H22 l22 h97 => ?_)
  refine gK_TT (oRC_val (same_spec (((hu3.mono l20).mono l21).mono l22) h97) ?_)
  exact oV_eq (v := .bool true) rfl ⟨rfl, ((m19.trans l20).trans l21).trans l22⟩
/-! ### The law -/
open Classical in
noncomputable def errOf (p : Int) (gs : List Gate) (os : List Int) (ins : List (List Int)) : Int := if validC p gs os ∧ fits p gs ins then 0 else 1
open Classical in
noncomputable def resOf (p : Int) (gs : List Gate) (os : List Int) (ins : List (List Int)) (res : List Int) : List Int := if validC p gs os ∧ fits p gs ins then res else []
theorem two_res {p : Int} {gs : List Gate} {os : List Int} {ins : List (List Int)} {res : List Int} {v : Value} {H' : Heap} (h : EvalRes p gs os ins res H (.returned v) H') :
    Le H H' ∧ ∃ u, v = .tuple #[u, .int .i64 (errOf p gs os ins)] ∧ Sl (eInt .u64) H' u (resOf p gs os ins res) := by
  obtain ⟨hl, h1, h2⟩ := h
  unfold errOf resOf
  by_cases c : validC p gs os ∧ fits p gs ins
  · obtain ⟨u, rfl, hu⟩ := h1 c
    rw [if_pos c, if_pos c]
    exact ⟨hl, u, rfl, hu⟩
  · rw [if_neg c, if_neg c]
    exact ⟨hl, _, h2 c, Sl.nil _ _⟩
theorem law_spec {c iv : Value} {p : Int} {gs : List Gate} {os : List Int} {ins : List (List Int)} (hG : GL H) (h : Circ H c p gs os) (hin : Sl (eSlice (eInt .u64)) H iv ins) (hwf : wfG gs) (hwi : wfI ins) :
    RCalls Tryd.prog 3 [c, iv] H (Ret fun v _ => v = .bool true) := by
  apply call3
  unfold m3
  refine circ_new h fun i H1 gv ov hl hc => ?_
  have hin1 := hin.mono hl
  refine oV_eq hc.lc (oRC_ret (few_spec hc.circ hin1) fun v H2 hv => ?_)
  obtain ⟨b, rfl, hb, l2⟩ := hv
  have g2 := hG.mono (hl.trans l2)
  cases b with
  | false =>
    exact oV_eq (v := .bool true) rfl (condK_true (oRC_ret (awake_spec g2) fun v H3 hv => hv.1))
  | true =>
    have hmx : ins.length ≤ 1000000 := by have := hb rfl; omega
    have hc2 := hc.mono l2
    have hin2 := hin1.mono l2
    refine oV_eq (v := .bool false) rfl (condK_false (oV_eq hc2.lc (oRC_ret (cevalGates_spec g2 hc2.circ hin2 hwf hwi hmx) fun v H3 hv => ?_)))
    obtain ⟨l3, u1, rfl, hu1⟩ := two_res hv
    have hc3 := hc2.mono l3
    have hin3 := hin2.mono l3
    refine oV_eq (v := u1) rfl (oV_eq rfl (oV_eq hc3.lc (oRC_ret (evalGates_spec hc3.circ hin3 hwf hwi hmx) fun v H4 hv => ?_)))
    obtain ⟨l4, u2, rfl, hu2⟩ := two_res hv
    have hc4 := hc3.mono l4
    have hin4 := hin3.mono l4
    refine oV_eq (v := u2) rfl (oV_eq rfl (oV_eq hc4.lc (oRC_ret (cevaluate_spec (g2.mono (l3.trans l4)) hc4.circ hin4 hwf hwi hmx) fun v H5 hv => ?_)))
    obtain ⟨l5, u3, rfl, hu3⟩ := two_res hv
    have hc5 := hc4.mono l5
    have hin5 := hin4.mono l5
    refine oV_eq (v := u3) rfl (oV_eq rfl (oV_eq hc5.lc (oRC_ret (evaluate_spec hc5.circ hin5 hwf hwi hmx) fun v H6 hv => ?_)))
    obtain ⟨l6, u4, rfl, hu4⟩ := two_res hv
    refine oV_eq (v := u4) rfl (oV_eq rfl (oRC_ret (awake_spec (g2.mono (((l3.trans l4).trans l5).trans l6))) fun v H7 hv => ?_))
    obtain ⟨rfl, l7⟩ := hv
    generalize errOf p gs os ins = r
    refine oV_eq (v := .int .i64 r) rfl (oV_eq (v := .int .i64 r) rfl (oV_eq (v := .bool true) ?_ (oV_eq (v := .bool true) rfl (oV_eq (v := .int .i64 r) rfl (oV_eq (v := .int .i64 r) rfl (oV_eq (v := .bool true) ?_ (oV_eq (v := .bool true) rfl (oV_eq (v := u1) rfl (oV_eq (v := u2) rfl ?_)))))))))
    · show vInt .eql (.int .i64 r) (.int .i64 r) = _
      rw [vInt_eql, decide_eq_true rfl]
    · show vInt .eql (.int .i64 r) (.int .i64 r) = _
      rw [vInt_eql, decide_eq_true rfl]
    have e1 := (((hu1.mono l4).mono l5).mono l6).mono l7
    have e2 := ((hu2.mono l5).mono l6).mono l7
    refine gK_TT (oRC_val (same_spec e1 e2) ?_)
    refine oV_eq (v := .bool true) rfl (oV_eq (v := u3) rfl (oV_eq (v := u4) rfl ?_))
    refine gK_TT (oRC_val (same_spec ((hu3.mono l6).mono l7) (hu4.mono l7)) ?_)
    exact oV_eq (v := .bool true) rfl rfl
end
end Go.Proofs.YtpbaoefjkfdgmaaDoor.SL
