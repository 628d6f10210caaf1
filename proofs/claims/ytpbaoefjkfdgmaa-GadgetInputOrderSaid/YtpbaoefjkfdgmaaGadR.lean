/- GadgetCircuitSnapshots. -/
import Derived.Test.YtpbaoefjkfdgmaaGadQ
set_option linter.unusedVariables false
set_option linter.unusedSimpArgs false
namespace Go.Proofs.Ytpbaoefjkfdgmaa.SL
open Go

theorem local_circ {p : Int} {c : Value} {gs : List Gate} {os : List Int} {H : Heap} {K : Nat → Heap → Prop} (h : Circ H c p gs os) (hk : ∀ i gv ov, H i = none → c = .agg #[.int .u64 p, gv, ov] → Sl eGate H gv gs → Sl (eInt .i64) H ov os → K i (hins H i (.cells [.int .u64 p, gv, ov] 3 40 true))) :
    oNew ty40.zero.cells.toList ty40.zero.cells.toList.length 40 H fun i H1 => oHeap (vStore ty40 (ptrTo i) c H1) fun H2 => K i H2 := by
  obtain ⟨gv, ov, rfl, h1, h2⟩ := h
  show oNew [.int .u64 0, .slice none 0 0, .slice none 0 0] 3 40 H _
  intro i hi
  have e : vStore ty40 (ptrTo i) (.agg #[.int .u64 p, gv, ov]) (hins H i (.cells [.int .u64 0, .slice none 0 0, .slice none 0 0] 3 40 true)) = some (hins H i (.cells [.int .u64 p, gv, ov] 3 40 true)) := by
    have : vStore ty40 (ptrTo i) (.agg #[.int .u64 p, gv, ov]) (hins H i (.cells [.int .u64 0, .slice none 0 0, .slice none 0 0] 3 40 true)) = some (hins (hins H i (.cells [.int .u64 0, .slice none 0 0, .slice none 0 0] 3 40 true)) i (.cells [.int .u64 p, gv, ov] 3 40 true)) := by
      obtain ⟨_, _, _, rfl, _⟩ := h1
      obtain ⟨_, _, _, rfl, _⟩ := h2
      simp only [vStore, ptrTo, hins_self]
      rfl
    rw [this, hins_hins]
  exact oHeap_eq e (hk i gv ov hi rfl h1 h2)
theorem rdSlice_len {sz n : Nat} {H : Heap} {b : Option Addr} {cs : List Value} (h : rdSlice sz H b n = some cs) : cs.length = n * sz := by
  unfold rdSlice at h
  split at h
  · subst_vars
    cases h
    simp
  · split at h
    · unfold rdCells at h
      split at h
      · split at h
        · cases h
          simp only [List.length_take, List.length_drop]
          omega
        · cases h
      · cases h
    · cases h
theorem Sl.cells {v : Value} {H : Heap} {gs : List Gate} (h : Sl eGate H v gs) : ∃ b cap, v = .slice b gs.length cap ∧ rdSlice 5 H b gs.length = some (gcells gs) := by
  obtain ⟨b, cap, cs, rfl, h1, h2, h3, h4⟩ := h
  refine ⟨b, cap, rfl, ?_⟩
  have hl := rdSlice_len h3
  have : cs = gcells gs := by
    apply List.ext_getElem?
    intro j
    by_cases hj : j < gs.length * 5
    · have hg : j / 5 < gs.length := by omega
      have e1 := h4 (j / 5) gs[j / 5] (List.getElem?_eq_getElem hg)
      have e1 : (cs.drop (j / 5 * 5)).take 5 = gs[j / 5].cells := e1
      have e2 := gcells_get gs (j / 5) gs[j / 5] (List.getElem?_eq_getElem hg)
      have e3 := congrArg (·[j % 5]?) (e1.trans e2.symm)
      simp only [List.getElem?_take, List.getElem?_drop] at e3
      rw [if_pos (by omega), if_pos (by omega)] at e3
      rw [show j / 5 * 5 + j % 5 = j by omega] at e3
      exact e3
    · rw [List.getElem?_eq_none (by rw [hl]; show gs.length * 5 ≤ j; omega), List.getElem?_eq_none (by rw [gcells_len]; omega)]
  rw [← this]
  exact h3
theorem validGate_mono {q p i : Int} {g : Gate} (h : validGate q i g) (hq : q ≤ p) : validGate p i g := by
  unfold validGate at *
  rcases h with h | h | h | h
  · exact .inl h
  · exact .inr (.inl ⟨h.1, h.2.1, h.2.2.1, h.2.2.2.1, by omega⟩)
  · exact .inr (.inr (.inl ⟨h.1, h.2.1, h.2.2.1, by omega, h.2.2.2.2⟩))
  · exact .inr (.inr (.inr h))
def snGates : List Gate := [⟨1, 1, 0, 0, 0⟩, ⟨1, 2, 0, 0, 0⟩, ⟨3, 0, 0, 1, 0⟩]
def snGates2 : List Gate := [⟨1, 1, 0, 0, 0⟩, ⟨1, 2, 0, 0, 0⟩, ⟨3, 0, 0, 1, 0⟩, ⟨6, 0, 0, 1, 0⟩]
theorem sn_valid {p : Int} (hp : Supp p) : validC p snGates [2] ∧ validC p snGates2 [2, 3] := by
  have := hp.pos
  have h1 : ∀ (i : Nat) (h : i < snGates.length), validGate 3 i snGates[i] := by decide +kernel
  have h2 : ∀ (i : Nat) (h : i < snGates2.length), validGate 3 i snGates2[i] := by decide +kernel
  refine ⟨⟨hp, by decide, by decide, fun i h => ?_, by decide⟩, ⟨hp, by decide, by decide, fun i h => ?_, by decide⟩⟩
  · exact validGate_mono (h1 i h) (by omega)
  · exact validGate_mono (h2 i h) (by omega)
theorem sn_fits {p x0 x1 : Int} (h0 : x0 < p) (h1 : x1 < p) : fits p snGates [[x0], [x1]] ∧ fits p snGates2 [[x0], [x1]] := by
  have a1 : ∀ (i : Nat) (h : i < snGates.length), snGates[i].kind = 1 → snGates[i].frm ≤ 2 := by decide +kernel
  have a2 : ∀ (i : Nat) (h : i < snGates2.length), snGates2[i].kind = 1 → snGates2[i].frm ≤ 2 := by decide +kernel
  refine ⟨⟨a1, fun j hj => ?_⟩, ⟨a2, fun j hj => ?_⟩⟩
  · match j, hj with
    | 0, _ => exact ⟨(show (1 : Nat) = inCount 1 snGates by decide +kernel), by simpa using h0⟩
    | 1, _ => exact ⟨(show (1 : Nat) = inCount 2 snGates by decide +kernel), by simpa using h1⟩
  · match j, hj with
    | 0, _ => exact ⟨(show (1 : Nat) = inCount 1 snGates2 by decide +kernel), by simpa using h0⟩
    | 1, _ => exact ⟨(show (1 : Nat) = inCount 2 snGates2 by decide +kernel), by simpa using h1⟩
theorem sn_outs (p x0 x1 : Int) : outsOf p (eff snGates [[x0], [x1]]) snGates [2] = [(x0 + x1) % p] ∧ outsOf p (eff snGates2 [[x0], [x1]]) snGates2 [2, 3] = [(x0 + x1) % p, x0 * x1 % p] := by
  have e1 : eff snGates [[x0], [x1]] = [[x0], [x1]] := by simp [eff, snGates, badUpto, inOf, List.range_succ]
  have e2 : eff snGates2 [[x0], [x1]] = [[x0], [x1]] := by simp [eff, snGates2, badUpto, inOf, List.range_succ]
  rw [e1, e2]
  simp [outsOf, vals, valsTo, gval, snGates, snGates2, inCount_cons, inCount_nil]
theorem append_copy1 {te : TI} {e : TypeId} {b : Option Addr} {n cap : Nat} {cs : List Value} {H : Heap} {k : Value → Heap → Prop} (hr : rdSlice te.size H b n = some cs) (h1 : ∀ v ∈ cs, v.oneCell' = true) (hs : 0 < te.size) (hb : n * te.bytes ≤ 140737488355328)
    (hm : n ≤ 9223372036854775807) (hl : cs.length = n * te.size) (hk : ∀ v' H', Grown H H' te.size e v' n cs → k v' H') : ∀ i, H i = none → oAppend te e (.slice (some ⟨i, 0, none⟩) 0 0) (.slice b n cap) (hins H i (.cells [] 0 e true)) k := by
  have h := append_copy (cap := cap) hr h1 hs hb hm hl hk
  simp only [oBuildS, fillL, zerosL, List.replicate_zero, List.flatten_nil, oNew, Nat.zero_mul] at h
  exact h
theorem snapshots_law (H : Heap) (p x0 x1 : Int) (h0 : 0 ≤ x0) (h1 : 0 ≤ x1) : RCalls Try.prog 5 [.int .u64 p, .agg #[.int .u64 x0, .int .u64 x1]] H (Ret fun v _ => v = .bool true) := by
  apply call5
  unfold m5
  show oNew [.int .u64 x0, .int .u64 x1] 2 23 H _
  intro ix hix
  have hx : (hins H ix (.cells [.int .u64 x0, .int .u64 x1] 2 23 true)) ix = some (.cells [.int .u64 x0, .int .u64 x1] 2 23 true) := hins_self _ _ _
  generalize hins H ix (.cells [.int .u64 x0, .int .u64 x1] 2 23 true) = H1 at hx ⊢
  have a0 : vIdxA 2 1 (ptrTo ix) (.int .i64 0) = some (.pointer (some ⟨ix, 0, none⟩)) := rfl
  have a1 : vIdxA 2 1 (ptrTo ix) (.int .i64 1) = some (.pointer (some ⟨ix, 1, none⟩)) := rfl
  have ld : ∀ K, Le H1 K → vLoad ty22 (.pointer (some ⟨ix, 0, none⟩)) K = some (.int .u64 x0) ∧ vLoad ty22 (.pointer (some ⟨ix, 1, none⟩)) K = some (.int .u64 x1) := by
    intro K hK
    have := hK _ _ hx
    simp only [vLoad, this]
    exact ⟨rfl, rfl⟩
  refine oRC_grow (awake_spec H1) fun H2 l2 => ?_
  refine oV_eq rfl (condK_false ?_)
  refine oRC_grow (supported_spec H2 p) fun H3 l3 => ?_
  have l13 := l2.trans l3
  by_cases hp : Supp p
  case neg =>
    rw [decide_eq_false hp]
    exact condK_true rfl
  rw [decide_eq_true hp]
  refine oV_eq (v := .bool false) rfl (oV_eq a0 (oV_eq (ld _ l13).1 (oV_eq (v := .int .u64 p) rfl (oV_eq (vInt_geq .u64 x0 p) (oV_eq rfl ?_)))))
  by_cases c0 : p ≤ x0
  case pos =>
    rw [decide_eq_true c0]
    exact condK_true rfl
  rw [decide_eq_false c0]
  refine oV_eq a1 (oV_eq (ld _ l13).2 (oV_eq (v := .int .u64 p) rfl (oV_eq (vInt_geq .u64 x1 p) (oV_eq rfl ?_))))
  by_cases c1 : p ≤ x1
  case pos =>
    rw [decide_eq_true c1]
    exact condK_true rfl
  rw [decide_eq_false c1]
  refine condK_false ?_
  have hpp := hp.pos
  refine oRC_ret (new_spec H3 p) fun b K1 h => ?_
  refine oRC_ret (input_puts b p 1 false _ _ _ _ h (by decide)) fun v K2 hv => ?_
  obtain ⟨rfl, h⟩ := hv
  refine oRC_ret (input_puts b p 2 false _ _ _ _ h (by decide)) fun v K3 hv => ?_
  obtain ⟨rfl, h⟩ := hv
  refine oRC_ret (add_puts b p _ _ _ _ _ _ h (by decide)) fun v K4 hv => ?_
  obtain ⟨rfl, h⟩ := hv
  refine oRC_ret (output_spec h _ (by decide)) fun v K5 h => ?_
  replace h : Bd H3 K5 b p snGates [2] := h
  refine oRC_ret (circuit_spec h (by decide) (by decide)) fun c K6 hv => ?_
  obtain ⟨G1, hG1, h, hC⟩ := hv
  obtain ⟨gv, ov, rfl, hgv, hov⟩ := hC
  refine local_circ (p := p) (gs := snGates) (os := [2]) ⟨gv, ov, rfl, hgv.mono h.le, hov.mono h.le⟩ fun ic gv' ov' hic e _ _ => ?_
  obtain ⟨rfl, rfl⟩ : gv' = gv ∧ ov' = ov := by
    have := congrArg (fun v => match v with | .agg a => a.toList | _ => []) e
    simp at this
    exact ⟨this.1.symm, this.2.symm⟩
  have hl2 : Le G1 (hins G1 ic (.cells [.int .u64 p, gv', ov'] 3 40 true)) := Le.ins _ (none_le h.le hic)
  have hcA : CircAt (hins G1 ic (.cells [.int .u64 p, gv', ov'] 3 40 true)) ic p gv' ov' snGates [2] := ⟨hins_self _ _ _, hgv.mono hl2, hov.mono hl2⟩
  replace h := h.fresh hic (.cells [.int .u64 p, gv', ov'] 3 40 true)
  have l2' := (l13.trans hG1).trans hl2
  generalize hins G1 ic (.cells [.int .u64 p, gv', ov'] 3 40 true) = G2 at h hcA l2'
  generalize hins K6 ic (.cells [.int .u64 p, gv', ov'] 3 40 true) = K7 at h ⊢
  obtain ⟨gb, gcap, hgb, hgr⟩ := (hcA.gates.mono h.le).cells
  refine oBuildS_none fun s hs => ?_
  refine oV_eq (vField_to _ _) (oV_eq ((hcA.mono h.le).mono (Le.ins _ hs)).lg ?_)
  rw [hgb]
  refine append_copy1 (te := ty47) hgr (gcells_one _) (by decide) (by decide) (by decide) (gcells_len _) (fun cv K8 hg => ?_) s hs
  obtain ⟨N, hN, hcv⟩ := hg.made (e := eGate) (xs := snGates) (fun K k x hx => gcells_get snGates k x hx)
  have hNG : ∀ k, N k ≠ none → G2 k = none := fun k hk => none_le h.le (hN.2.2 k hk)
  replace h := h.news hN
  replace hcv := hcv.mono (hun_right hNG)
  replace hcA := hcA.mono (hun_left G2 N)
  replace l2' := l2'.trans (hun_left G2 N)
  generalize hun G2 N = G3 at h hcv hcA l2'
  refine oRC_ret (mul_puts b p _ _ _ _ _ _ h (by decide)) fun v K9 hv => ?_
  obtain ⟨rfl, h⟩ := hv
  refine oRC_ret (output_spec h _ (by decide)) fun v K10 h => ?_
  replace h : Bd G3 K10 b p snGates2 [2, 3] := h
  refine oRC_ret (circuit_spec h (by decide) (by decide)) fun d K11 hv => ?_
  obtain ⟨G4, hG4, h, hD⟩ := hv
  obtain ⟨gw, ow, rfl, hgw, how⟩ := hD
  replace hcv := hcv.mono (hG4.trans h.le)
  replace hcA := hcA.mono (hG4.trans h.le)
  replace l2' := (l2'.trans hG4).trans h.le
  refine local_circ (p := p) (gs := snGates2) (os := [2, 3]) ⟨gw, ow, rfl, hgw.mono h.le, how.mono h.le⟩ fun id gw' ow' hid e _ _ => ?_
  obtain ⟨rfl, rfl⟩ : gw' = gw ∧ ow' = ow := by
    have := congrArg (fun v => match v with | .agg a => a.toList | _ => []) e
    simp at this
    exact ⟨this.1.symm, this.2.symm⟩
  have hl5 : Le K11 (hins K11 id (.cells [.int .u64 p, gw', ow'] 3 40 true)) := Le.ins _ hid
  have hdA : CircAt (hins K11 id (.cells [.int .u64 p, gw', ow'] 3 40 true)) id p gw' ow' snGates2 [2, 3] := ⟨hins_self _ _ _, (hgw.mono h.le).mono hl5, (how.mono h.le).mono hl5⟩
  replace hcv := hcv.mono hl5
  replace hcA := hcA.mono hl5
  replace l2' := l2'.trans hl5
  generalize hins K11 id (.cells [.int .u64 p, gw', ow'] 3 40 true) = K12 at hdA hcv hcA l2' ⊢
  have e1 : vBuild ty40 [((0, 1), .int .u64 p), ((1, 1), cv), ((2, 1), ov')] = some (.agg #[.int .u64 p, cv, ov']) := by
    obtain ⟨_, _, _, rfl, _⟩ := hcv
    obtain ⟨_, _, _, rfl, _⟩ := hcA.outs
    rfl
  refine oV_eq hcA.lc (oV_eq (vField_to _ _) (oV_eq hcA.lo (oV_eq e1 ?_)))
  refine oRC_grow (equal_spec hcA.circ ⟨cv, ov', rfl, hcv, hcA.outs⟩) fun K13 l3' => ?_
  replace hcA := hcA.mono l3'
  replace hdA := hdA.mono l3'
  replace l2' := l2'.trans l3'
  refine oV_eq (v := .bool false) rfl (oV_eq (vField_to 2 ic) (oV_eq hcA.lo (oV_eq hcA.outs.len (oV_eq (vInt_neq .i64 1 1) (oV_eq rfl ?_)))))
  refine condK_dec (fun h => absurd rfl h) (fun _ => ?_)
  have q := ld _ l2'
  refine oV_eq a0 (oV_eq q.1 ?_)
  show oNew (([x0] : List Int).map (.int .u64)) 1 22 K13 _
  intro i1 hi1
  have q2 := ld _ (l2'.trans (Le.ins (.cells (([x0] : List Int).map (.int .u64)) 1 22 true) hi1))
  refine oV_eq a1 (oV_eq q2.2 ?_)
  show oNew (([x1] : List Int).map (.int .u64)) 1 22 _ _
  intro i2 hi2
  show oNew [.slice (some ⟨i1, 0, none⟩) 1 1, .slice (some ⟨i2, 0, none⟩) 1 1] 2 35 _ _
  intro i3 hi3
  have s1 := (lit_ints (k := .u64) (H := K13) (i := i1) (t := 22) (n := 1) [x0] (by simp)).mono (Le.ins (.cells (([x1] : List Int).map (.int .u64)) 1 22 true) hi2)
  have s2 := lit_ints (k := .u64) (H := hins K13 i1 (.cells (([x0] : List Int).map (.int .u64)) 1 22 true)) (i := i2) (t := 22) (n := 1) [x1] (by simp)
  have s3 := lit_rows (t := 35) (n := 2) [[x0], [x1]] [.slice (some ⟨i1, 0, none⟩) 1 1, .slice (some ⟨i2, 0, none⟩) 1 1] rfl (by simp) hi3 (fun j hj => by
    match j, hj with
    | 0, _ => exact ⟨_, rfl, s1⟩
    | 1, _ => exact ⟨_, rfl, s2⟩)
  have hl3 := ((Le.ins (.cells (([x0] : List Int).map (.int .u64)) 1 22 true) hi1).trans (Le.ins (.cells (([x1] : List Int).map (.int .u64)) 1 22 true) hi2)).trans (Le.ins (.cells [.slice (some ⟨i1, 0, none⟩) 1 1, .slice (some ⟨i2, 0, none⟩) 1 1] 2 35 true) hi3)
  replace hcA := hcA.mono hl3
  replace hdA := hdA.mono hl3
  replace l2' := l2'.trans hl3
  generalize hins (hins (hins K13 i1 (.cells (([x0] : List Int).map (.int .u64)) 1 22 true)) i2 (.cells (([x1] : List Int).map (.int .u64)) 1 22 true)) i3 (.cells [.slice (some ⟨i1, 0, none⟩) 1 1, .slice (some ⟨i2, 0, none⟩) 1 1] 2 35 true) = K14 at s3 hcA hdA l2' ⊢
  have q := ld _ l2'
  refine oV_eq hcA.lc (oV_eq a0 (oV_eq q.1 (oV_eq a1 (oV_eq q.2 ?_))))
  refine oRC_val (op_spec0 _ hp h0 (by omega) h1 (by omega)) ⟨hcA.lc, ?_⟩
  show oNew (([(x0 + x1) % p] : List Int).map (.int .u64)) 1 22 K14 _
  intro iw hiw
  have sw := lit_ints (k := .u64) (H := K14) (i := iw) (t := 22) (n := 1) [(x0 + x1) % p] (by simp)
  have hl4 := Le.ins (.cells (([(x0 + x1) % p] : List Int).map (.int .u64)) 1 22 true) hiw
  have hwi : wfI [[x0], [x1]] := by
    intro l hl x hx
    simp only [List.mem_cons, List.not_mem_nil, or_false] at hl
    rcases hl with rfl | rfl <;> simp only [List.mem_cons, List.not_mem_nil, or_false] at hx <;> omega
  have hfit := sn_fits (p := p) (x0 := x0) (x1 := x1) (by omega) (by omega)
  refine oRC_grow (tells_spec (gs := snGates) (os := [2]) (hcA.circ.mono hl4) (s3.mono hl4) sw (by unfold wfG; decide +kernel) hwi (by simp) (sn_valid hp).1 hfit.1 (sn_outs p x0 x1).1) fun K15 l15 => ?_
  replace hdA := (hdA.mono hl4).mono l15
  replace s3 := (s3.mono hl4).mono l15
  replace l2' := (l2'.trans hl4).trans l15
  have q := ld _ l2'
  refine oV_eq hdA.lc (oV_eq rfl (oV_eq rfl (oV_eq a0 (oV_eq q.1 (oV_eq a1 (oV_eq q.2 (oV_eq rfl (oV_eq a0 (oV_eq q.1 (oV_eq a1 (oV_eq q.2 ?_)))))))))))
  refine gK_TT (oRC_val (op_spec0 _ hp h0 (by omega) h1 (by omega)) ⟨q.2, q.1, hdA.lc, ?_⟩)
  refine gK_TT (oRC_val (op_spec2 _ hp h0 (by omega) h1 (by omega)) ⟨hdA.lc, ?_⟩)
  refine gK_TT ?_
  show oNew (([(x0 + x1) % p, x0 * x1 % p] : List Int).map (.int .u64)) 2 22 K15 _
  intro iv hiv
  have sv := lit_ints (k := .u64) (H := K15) (i := iv) (t := 22) (n := 2) [(x0 + x1) % p, x0 * x1 % p] (by simp)
  have hl6 := Le.ins (.cells (([(x0 + x1) % p, x0 * x1 % p] : List Int).map (.int .u64)) 2 22 true) hiv
  refine gK_TT (oRC_grow (tells_spec (gs := snGates2) (os := [2, 3]) (hdA.circ.mono hl6) (s3.mono hl6) sv (by unfold wfG; decide +kernel) hwi (by simp) (sn_valid hp).2 hfit.2 (sn_outs p x0 x1).2) fun K16 l16 => ?_)
  exact rfl
theorem snapshots_in {H : Heap} {p x0 x1 : Int} (_ : 0 ≤ p ∧ p ≤ 18446744073709551615) (h0 : 0 ≤ x0 ∧ x0 ≤ 18446744073709551615) (h1 : 0 ≤ x1 ∧ x1 ≤ 18446744073709551615) :
    RCalls Try.prog 5 [.int .u64 p, .agg #[.int .u64 x0, .int .u64 x1]] H (Ret fun v _ => v = .bool true) := snapshots_law H p x0 x1 h0.1 h1.1
end Go.Proofs.Ytpbaoefjkfdgmaa.SL
