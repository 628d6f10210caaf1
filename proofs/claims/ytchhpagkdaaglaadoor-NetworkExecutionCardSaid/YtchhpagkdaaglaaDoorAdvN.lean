/- ApplyToMessages of the program: the walk. -/
import Derived.Test.YtchhpagkdaaglaaDoorAdvM
set_option linter.unusedVariables false
set_option linter.unusedSimpArgs false
namespace Go.Proofs.YtchhpagkdaaglaaDoor.SL
open Go

section
variable {s : Scn} {cv dv tv ov sv v : Value} {rd : Int} {out mat : List (List (List Int))} {d : Dev} {said : List Int} {i3 x : Nat}
theorem hit_body {R H : Heap} {f j : Nat} {k : Heap → Prop} (hp : Supp s.P) (hN : s.N ≤ 1000) (hok : ScnOk R s cv dv tv) (hs : SAt R i3 s cv dv tv) (hdx : DAt R x d) (hd : DevOk s.N d) (hsv : Sl (eInt .u64) R sv said) (hsr : rng s.P said) (hM : Mx R H v mat) (hm : MsgsM s.P s.N mat) (hf : d.fr - 1 = f) (hfl : f < mat.length) (hj : j < (mat.getD f []).length)
    (hk : ∀ R' H', Le R R' → Mx R' H' v (mat.set f ((mat.getD f []).set j (told s.P s.bad d ((mat.getD f []).getD j []) said))) → k H') :
    oV (vField 1 (ptrTo x)) fun t84 => oV (vLoad ty3 t84 H) fun t85 => oV (vInt .sub t85 (.int .i64 1)) fun t86 => oV (vIdxS 1 v t86) fun t87 => oV (vLoad ty27 t87 H) fun t88 => oV (vLoad ty29 (ptrTo i3) H) fun t90 => oV (vLoad ty109 (ptrTo x) H) fun t91 =>
      oV (vField 1 (ptrTo x)) fun t93 => oV (vLoad ty3 t93 H) fun t94 => oV (vInt .sub t94 (.int .i64 1)) fun t95 => oV (vIdxS 1 v t95) fun t96 => oV (vLoad ty27 t96 H) fun t97 => oV (vIdxS 1 t97 (.int .i64 j)) fun t99 => oV (vLoad ty52 t99 H) fun t100 =>
      oRC Tryd.prog 111 [t90, t91, t100, sv] H noP fun v_32 H_33 => (vLoad ty27 t87 H_33 = some t88 ∧ (vLoad ty3 t84 H_33 = some t85 ∧ oV (vIdxS 1 t88 (.int .i64 j)) fun t103 => oHeap (vStore ty52 t103 v_32 H_33) fun H_35 => k H_35)) := by
  have hpp := hp.pos
  have hle := hM.le
  have hf1 := hd.fr1
  have hf2 := hd.fr2
  have wf : IntKind.i64.wrap (d.fr - 1) = (f : Int) := by rw [wrap_i64 (by omega) (by omega), hf]
  obtain ⟨pt, u, a1, a2, a3, a4, a5⟩ := hM.get hfl
  obtain ⟨pt2, w, b1, b2, b3⟩ := a3.get hj
  have hrow := (hm.get hfl).get j
  refine oV_eq (vField_to _ _) (oV_eq (hdx.mono hle).l1 (oV_eq (vInt_sub _ _ _) ?_))
  rw [wf]
  refine oV_eq a1 (oV_eq a2 (oV_eq (hs.mono hle).all (oV_eq (hdx.mono hle).all (oV_eq (vField_to _ _) (oV_eq (hdx.mono hle).l1 (oV_eq (vInt_sub _ _ _) ?_))))))
  rw [wf]
  refine oV_eq a1 (oV_eq a2 (oV_eq b1 (oV_eq b2 ?_)))
  refine oRC_ret (upon_spec hp (hok.bad.mono hle) (b3.mono hle) (hsv.mono hle) hrow.1 hsr (by omega) hd) fun y H3 hy => ?_
  obtain ⟨N, hNw, hyN⟩ := hy
  refine ⟨a4 hNw, (hdx.mono (hle.trans hNw.1)).l1, ?_⟩
  have hsw := hyN R hle b3
  obtain ⟨pt', u', c1, c2, _, _, c5⟩ := (hM.news hNw).get hfl
  rw [a1] at c1
  cases c1
  rw [a4 hNw] at c2
  cases c2
  obtain ⟨pt3, H4, d1, d2, d3⟩ := c5 hj hsw
  exact oV_eq d1 (oHeap_eq d2 (hk _ H4 (hun_left _ _) d3))
theorem inner_loop {R0 : Heap} {f N : Nat} {x32 x33 : Value} (hp : Supp s.P) (hN : s.N ≤ 1000) (hok : ScnOk R0 s cv dv tv) (hs : SAt R0 i3 s cv dv tv) (hdx : DAt R0 x d) (hd : DevOk s.N d) (hsv : Sl (eInt .u64) R0 sv said) (hsr : rng s.P said) (hm : MsgsM s.P s.N mat) (hf : d.fr - 1 = f) (hfl : f < mat.length) (hNn : s.N = N)
    {kn kx3 : Value → Value → Value → Value → Value → Value → Value → Heap → Prop} {kx2 : Value → Heap → Prop} {Q : Ending → Heap → Prop}
    (hk : ∀ R H, Le R0 R → Mx R H v (mat.set f (rowTo s d said (mat.getD f []) N)) → kn (.int .i64 rd) ov (ptrTo i3) v dv x32 x33 H) :
    ∀ (n j : Nat) (R H : Heap), N - j = n → j ≤ N → Le R0 R → Mx R H v (mat.set f (rowTo s d said (mat.getD f []) j)) →
      L80_10 (.int .i64 rd) ov (ptrTo i3) v (ptrTo x) sv dv x32 x33 (.int .i64 N) (.int .i64 j) H kn kx3 kx2 Q := by
  have hpp := hp.pos
  have hrow0 := hm.get hfl
  intro n
  induction n with
  | zero =>
    intro j R H hn hj h0 hM
    apply L80_10_round
    unfold m80_11
    refine oV_eq (vInt_lss _ _ _) (condK_dec (fun hlt => absurd hlt (by omega)) (fun _ => ?_))
    have : j = N := by omega
    subst this
    exact hk R H h0 hM
  | succ n ih =>
    intro j R H hn hj h0 hM
    apply L80_10_round
    unfold m80_11
    refine oV_eq (vInt_lss _ _ _) (condK_dec (fun hlt => ?_) (fun hlt => absurd (by omega) hlt))
    have w1 := wrap_i64 (show -9223372036854775808 ≤ (j : Int) + 1 by omega) (by omega)
    have hle := h0.trans hM.le
    have next := fun R' H' => ih (j + 1) R' H' (by omega) (by omega)
    simp only [rowTo] at next
    have hrowj := rowTo_msgs (d := d) (said := said) (show 0 < s.P by omega) hrow0 j
    have hg : (mat.set f (rowTo s d said (mat.getD f []) j)).getD f [] = rowTo s d said (mat.getD f []) j := by rw [getD_set _ _ _ _ _ hfl, if_pos rfl]
    have hlen := hrowj.len
    have miss : ¬ hits d j → oV (vInt .add (.int .i64 j) (.int .i64 1)) fun t104 => L80_10 (.int .i64 rd) ov (ptrTo i3) v (ptrTo x) sv dv x32 x33 (.int .i64 N) t104 H kn kx3 kx2 Q := fun hh => by
      refine oV_eq (vInt_add _ _ _) ?_
      rw [w1]
      simp only [if_neg hh] at next
      exact next R H h0 hM
    have hit := fun (hh : hits d j) => hit_body (R := R) (H := H) (f := f) (j := j) (mat := mat.set f (rowTo s d said (mat.getD f []) j)) (k := fun H_35 => oV (vInt .add (.int .i64 j) (.int .i64 1)) fun t104 => L80_10 (.int .i64 rd) ov (ptrTo i3) v (ptrTo x) sv dv x32 x33 (.int .i64 N) t104 H_35 kn kx3 kx2 Q)
      hp hN (hok.mono h0) (hs.mono h0) (hdx.mono h0) hd (hsv.mono h0) hsr hM ⟨by rw [List.length_set]; exact hm.len, fun m hmm => by
        rcases List.mem_or_eq_of_mem_set hmm with hmm | rfl
        · exact hm.rows m hmm
        · exact hrowj⟩ hf (by rw [List.length_set]; exact hfl) (by rw [hg]; omega) (fun R' H' hl hM' => by
        refine oV_eq (vInt_add _ _ _) ?_
        rw [w1]
        simp only [if_pos hh] at next
        refine next R' H' (h0.trans hl) ?_
        rw [hg, List.set_set] at hM'
        exact hM')
    refine oV_eq (vInt_add _ _ _) ?_
    rw [w1]
    refine oV_eq (vField_to _ _) (oV_eq (hdx.mono hle).l1 (oV_eq (vInt_neq _ _ _) ?_))
    by_cases c1 : (j : Int) + 1 ≠ d.fr
    rotate_left
    · rw [decide_eq_false c1]
      exact condK_false (miss fun h => c1 h.1)
    rw [decide_eq_true c1]
    refine oV_eq (v := .pointer (some ⟨x, 2, none⟩)) rfl (oV_eq (v := .int .i64 d.to_) (hdx.mono hle).l2 (oV_eq (v := .bool (decide (d.to_ = 0))) (vInt_eql .i64 d.to_ 0) (oV_eq (v := .bool (decide (d.to_ = 0))) rfl ?_)))
    by_cases c2 : d.to_ = 0
    · rw [decide_eq_true c2]
      exact condK_true (hit ⟨c1, .inl c2⟩)
    rw [decide_eq_false c2]
    have ea : gV (.bool false) false (vInt .add (.int .i64 (j : Int)) (.int .i64 1)) (some undef) = some (.int .i64 ((j : Int) + 1)) := by
      show vInt .add (.int .i64 (j : Int)) (.int .i64 1) = _
      rw [vInt_add, w1]
    refine oV_eq (v := .pointer (some ⟨x, 2, none⟩)) rfl (oV_eq (v := .int .i64 d.to_) (hdx.mono hle).l2 (oV_eq (v := .int .i64 j) rfl (oV_eq ea (oV_eq (v := .bool (decide (d.to_ = (j : Int) + 1))) (vInt_eql .i64 d.to_ ((j : Int) + 1)) (oV_eq (v := .bool (decide (d.to_ = (j : Int) + 1))) rfl (oV_eq (v := .bool (decide (d.to_ = (j : Int) + 1))) rfl (condK_dec (fun c3 => hit ⟨c1, .inr c3⟩) (fun c3 => miss fun h => h.2.elim c2 c3))))))))
theorem clones_loop {R0 : Heap} (ho : Sl (eSlice (eSlice (eInt .u64))) R0 ov out) (hm : MsgsM s.P s.N out) (hN : s.N ≤ 1000) {x1 x3 : Value} {kn : Value → Value → Value → Value → Heap → Prop} {Q : Ending → Heap → Prop}
    (hk : ∀ R H, Le R0 R → Mx R H v out → kn x1 ov x3 v H) :
    ∀ (n i : Nat) (H : Heap), out.length - i = n → i ≤ out.length → Mx R0 H v (out.take i ++ List.replicate (out.length - i) []) → L80_13 x1 ov x3 v ov (.int .i64 out.length) (.int .i64 i) H kn Q := by
  have hlen := hm.len
  intro n
  induction n with
  | zero =>
    intro i H hn hi hM
    apply L80_13_round
    unfold m80_14
    refine oV_eq (vInt_lss _ _ _) (condK_dec (fun hlt => absurd hlt (by omega)) (fun _ => ?_))
    have : i = out.length := by omega
    subst this
    rw [List.take_length, Nat.sub_self, List.replicate_zero, List.append_nil] at hM
    exact hk R0 H (Le.refl _) hM
  | succ n ih =>
    intro i H hn hi hM
    apply L80_13_round
    unfold m80_14
    refine oV_eq (vInt_lss _ _ _) (condK_dec (fun hlt => ?_) (fun hlt => absurd (by omega) hlt))
    have hil : i < out.length := by omega
    obtain ⟨pt, u, a1, a2, a3⟩ := (ho.mono hM.le).slice .i64 (i := (i : Int)) (by omega) (by omega) (ti := ty27) rfl
    obtain ⟨pt0, u0, z1, z2, z3⟩ := ho.slice .i64 (i := (i : Int)) (by omega) (by omega) (ti := ty27) rfl
    rw [a1] at z1
    cases z1
    have := vLoad_mono hM.le z2
    rw [a2] at this
    cases this
    have e : out.getD (i : Int).toNat [] = out[i] := by
      rw [Int.toNat_natCast, List.getD_eq_getElem?_getD, List.getElem?_eq_getElem hil]
      rfl
    rw [e] at a3 z3
    have hmi := hm.rows _ (List.getElem_mem hil)
    have hmil := hmi.len
    refine oV_eq a1 (oV_eq a2 ?_)
    obtain ⟨zb, zc, zus, zv, zl, zm, zr, zul, zs⟩ := z3.slices
    refine oRC_ret (R := fun w H2 => Le H H2 ∧ Rw R0 H2 w out[i] ∧ ∀ b, blkOf w = some b → H b = none) (call109 _ _ _ ?_) fun w H2 hw => ?_
    · unfold m109
      subst zv
      cases zb with
      | none =>
        have : out[i] = [] := List.eq_nil_of_length_eq_zero (rdSlice_none zr)
        rw [this]
        exact condK_true ⟨Le.refl _, ⟨[], rfl, (Grown.nil H 1 52).less hM.le, fun j u r hu => by simp at hu⟩, fun b hb => by cases hb⟩
      | some a =>
        refine condK_false (append_copy (te := ty52) (rdSlice_mono hM.le zr) ?_ (by show 0 < 1; omega) (by show out[i].length * 24 ≤ _; omega) (by omega) (by rw [zul]; exact (Nat.mul_one _).symm) fun v' H' hg => ⟨hg.1, ⟨zus, zul, hg.less hM.le, zs⟩, hg.2.2⟩)
        intro y hy
        obtain ⟨j, hj, rfl⟩ := List.mem_iff_getElem.1 hy
        exact (zs j zus[j] (out[i][j]'(by omega)) (List.getElem?_eq_getElem hj) (List.getElem?_eq_getElem _)).one
    · obtain ⟨hl2, hrw, hnew⟩ := hw
      obtain ⟨pt2, H3, b1, b2, b3⟩ := hM.setRow (i := i) (by simp; omega) hl2 hrw hnew
      refine oV_eq b1 (oHeap_eq b2 (oV_eq (vInt_add _ _ _) ?_))
      rw [wrap_i64 (by omega) (by omega)]
      refine ih (i + 1) H3 (by omega) (by omega) ?_
      have e2 : (out.take i ++ List.replicate (out.length - i) []).set i out[i] = out.take (i + 1) ++ List.replicate (out.length - (i + 1)) [] := by
        have tl : (out.take i).length = i := by rw [List.length_take]; omega
        rw [List.set_append_right _ _ (by omega), tl, Nat.sub_self, show out.length - i = (out.length - (i + 1)) + 1 by omega, List.replicate_succ, List.take_succ_eq_append_getElem hil, List.append_assoc]
        rfl
      rw [e2] at b3
      exact b3
theorem applyM_loop {R0 : Heap} (hp : Supp s.P) (hok : ScnOk R0 s cv dv tv) (hs : SAt R0 i3 s cv dv tv) (ho : Sl (eSlice (eSlice (eInt .u64))) R0 ov out) (hm : MsgsM s.P s.N out) (hds : ∀ d ∈ s.devs, DevOk s.N d) (hN : s.N ≤ 1000) {kn : Value → Heap → Prop} {Q : Ending → Heap → Prop}
    (hk : ∀ R H, Le R0 R → Mx R H v (applyM s rd out s.devs.length) → kn v H) :
    ∀ (n i : Nat) (R H : Heap), s.devs.length - i = n → i ≤ s.devs.length → Le R0 R → Mx R H v (applyM s rd out i) → L80_4 (.int .i64 rd) ov (ptrTo i3) v dv (.int .i64 s.devs.length) (.int .i64 i) H kn Q := by
  have hpp := hp.pos
  have hdm := hok.devs.max
  intro n
  induction n with
  | zero =>
    intro i R H hn hi h0 hM
    apply L80_4_round
    unfold m80_5
    refine oV_eq (vInt_lss _ _ _) (condK_dec (fun hlt => absurd hlt (by omega)) (fun _ => ?_))
    have : i = s.devs.length := by omega
    subst this
    exact hk R H h0 hM
  | succ n ih =>
    intro i R H hn hi h0 hM
    apply L80_4_round
    unfold m80_5
    refine oV_eq (vInt_lss _ _ _) (condK_dec (fun hlt => ?_) (fun hlt => absurd (by omega) hlt))
    unfold m80_7 m80_8
    have hil : i < s.devs.length := by omega
    have hms := applyM_msgs (rd := rd) (show 0 < s.P by omega) hds hm i (by omega)
    have next := fun R' H' => ih (i + 1) R' H' (by omega) (by omega)
    rw [applyM_succ hil] at next
    have hdok := hds _ (List.getElem_mem hil)
    have w1 := wrap_i64 (show -9223372036854775808 ≤ (i : Int) + 1 by omega) (by omega)
    have go : ∀ (R' H' : Heap), Le R0 R' → Mx R' H' v (stepM s rd out (applyM s rd out i) s.devs[i]) → m80_6 (.int .i64 rd) ov (ptrTo i3) v dv (.int .i64 s.devs.length) (.int .i64 i) H' (fun y1 y2 y3 y7 y31 y32 y33 H => L80_4 y1 y2 y3 y7 y31 y32 y33 H kn Q) kn Q := fun R' H' hl hM' => by
      unfold m80_6
      refine oV_eq (vInt_add _ _ _) ?_
      rw [w1]
      exact next R' H' hl hM'
    obtain ⟨q, f1, f2⟩ := (hok.devs.mono (h0.trans hM.le)).dev hil
    refine oV_eq f1 (oV_eq f2 ?_)
    -- the local copy is new: it may be told beside
    show oNew [.int .i64 0, .int .i64 0, .int .i64 0, .int .i64 0, .int .i64 0, .int .u64 0, .int .i64 0, .int .i64 0] 8 109 H _
    intro x hx
    generalize s.devs[i] = d at go next hdok f2 ⊢
    have e : vStore ty109 (ptrTo x) d.val (hins H x (.cells [.int .i64 0, .int .i64 0, .int .i64 0, .int .i64 0, .int .i64 0, .int .u64 0, .int .i64 0, .int .i64 0] 8 109 true)) = some (hins (hins H x (.cells [.int .i64 0, .int .i64 0, .int .i64 0, .int .i64 0, .int .i64 0, .int .u64 0, .int .i64 0, .int .i64 0] 8 109 true)) x (.cells d.cells 8 109 true)) := by
      simp only [vStore, ptrTo, hins_self]
      rfl
    rw [hins_hins] at e
    refine oHeap_eq e ?_
    have hNx : New H (hins H x (.cells d.cells 8 109 true)) (hone x (.cells d.cells 8 109 true)) := ⟨Le.ins _ hx, hone_le (hins_self _ _ _), fun k hk => by
      by_cases c : k = x
      · subst c; exact hx
      · simp [hone, c] at hk⟩
    have hRx : R x = none := none_le hM.le hx
    replace hM := hM.news hNx
    have hdx : DAt (hun R (hone x (.cells d.cells 8 109 true))) x d := ⟨by simp [hun, hRx, hone]⟩
    replace h0 := h0.trans (hun_left R (hone x (.cells d.cells 8 109 true)))
    generalize hun R (hone x (.cells d.cells 8 109 true)) = R1 at hM hdx h0
    generalize hins H x (.cells d.cells 8 109 true) = H1 at hM ⊢
    have hle := h0.trans hM.le
    refine oV_eq (hs.mono hle).all (oV_eq (hdx.mono hM.le).all (oRC_grow (done_spec (hok.bad.mono hle)) fun H2 l2 => ?_))
    replace hM := hM.grow l2
    by_cases c : d.rd = rd ∧ d.fr ∈ s.bad
    rotate_left
    · rw [decide_eq_false c]
      refine oV_eq rfl (condK_true ?_)
      simp only [stepM, if_neg c] at go
      exact go R1 H2 h0 hM
    rw [decide_eq_true c]
    simp only [stepM, if_pos c] at go
    refine oV_eq rfl (condK_false ?_)
    have hf1 := hdok.fr1
    have hf2 := hdok.fr2
    have hlen := hms.len
    have hml := hm.len
    obtain ⟨f, hf⟩ : ∃ f : Nat, d.fr - 1 = f := ⟨(d.fr - 1).toNat, by omega⟩
    obtain ⟨N, hNn⟩ : ∃ N : Nat, s.N = N := ⟨s.N.toNat, by omega⟩
    have wf : IntKind.i64.wrap (d.fr - 1) = (f : Int) := by rw [wrap_i64 (by omega) (by omega), hf]
    have hfl : f < (applyM s rd out i).length := by omega
    have hfn : (d.fr - 1).toNat = f := by omega
    rw [hfn, show s.N.toNat = N by omega] at go
    have tail : ∀ (sv : Value) (said : List Int), Sl (eInt .u64) R1 sv said → rng s.P said → rowTo s d said ((applyM s rd out i).getD f []) N = rowTo s d (saidM out d) ((applyM s rd out i).getD f []) N →
        m80_9 (.int .i64 rd) ov (ptrTo i3) v (ptrTo x) sv dv (.int .i64 s.devs.length) (.int .i64 i) H2 (fun y1 y2 y3 y7 y31 y32 y33 H => m80_6 y1 y2 y3 y7 y31 y32 y33 H (fun y1 y2 y3 y7 y31 y32 y33 H => L80_4 y1 y2 y3 y7 y31 y32 y33 H kn Q) kn Q) (fun y1 y2 y3 y7 y31 y32 y33 H => m80_6 y1 y2 y3 y7 y31 y32 y33 H (fun y1 y2 y3 y7 y31 y32 y33 H => L80_4 y1 y2 y3 y7 y31 y32 y33 H kn Q) kn Q) kn Q := by
      intro sv said hsv hsr he
      unfold m80_9
      obtain ⟨pt, u, a1, a2, a3, _, _⟩ := hM.get hfl
      have hrl := (hms.get hfl).len
      refine oV_eq (vField_to _ _) (oV_eq (hdx.mono hM.le).l1 (oV_eq (vInt_sub _ _ _) ?_))
      rw [wf]
      refine oV_eq a1 (oV_eq a2 (oV_eq a3.len ?_))
      rw [hrl, hNn]
      refine inner_loop (R0 := R1) hp hN (hok.mono h0) (hs.mono h0) hdx hdok hsv hsr hms hf hfl hNn (fun R' H' hl hM' => ?_) _ 0 R1 H2 rfl (by omega) (Le.refl _) ?_
      · rw [he] at hM'
        exact go R' H' (h0.trans hl) hM'
      · simp only [rowTo]
        rw [set_getD _ _ _ hfl]
        exact hM
    refine oV_eq (vField_to _ _) (oV_eq (hdx.mono hM.le).l4 (oV_eq (vInt_eql _ _ _) (condK_dec (fun k3 => ?_) (fun k3 => ?_))))
    · have ho1 := hdok.of3 k3
      have ho2 := hdok.of2
      have wo : IntKind.i64.wrap (d.of_ - 1) = d.of_ - 1 := wrap_i64 (by omega) (by omega)
      have hmo := hm.get (j := (d.of_ - 1).toNat) (by omega)
      have hmol := hmo.len
      obtain ⟨po, uo, o1, o2, o3⟩ := (ho.mono h0).slice .i64 (i := d.of_ - 1) (by omega) (by omega) (ti := ty27) rfl
      obtain ⟨pi, ui, i1, i2, i3'⟩ := o3.slice .i64 (i := d.fr - 1) (by omega) (by omega) (ti := ty52) rfl
      refine oV_eq (vField_to _ _) (oV_eq (hdx.mono hM.le).l6 (oV_eq (vInt_sub _ _ _) ?_))
      rw [wo]
      refine oV_eq o1 (oV_eq (vLoad_mono hM.le o2) (oV_eq (vField_to _ _) (oV_eq (hdx.mono hM.le).l1 (oV_eq (vInt_sub _ _ _) ?_))))
      rw [wrap_i64 (x := d.fr - 1) (by omega) (by omega)]
      refine oV_eq i1 (oV_eq (vLoad_mono hM.le i2) ?_)
      exact tail ui _ i3' (hmo.get _).1 rfl
    · exact tail _ [] (Sl.nil _ _) (fun x hx => by cases hx) (rowTo_said k3 _ _ _)
theorem applyM_spec {H : Heap} (hp : Supp s.P) (hok : ScnOk H s cv dv tv) (ho : Sl (eSlice (eSlice (eInt .u64))) H ov out) (hm : MsgsM s.P s.N out) (hds : ∀ d ∈ s.devs, DevOk s.N d) (hN : s.N ≤ 1000) :
    RCalls Tryd.prog 80 [scnVal s cv dv tv, .int .i64 rd, ov] H (Ret fun v H' => Le H H' ∧ Sl (eSlice (eSlice (eInt .u64))) H' v (applyM s rd out s.devs.length)) := by
  have hml := hm.len
  apply call80
  unfold m80
  refine scn_new s cv dv tv fun i1 H1 l1 hs1 => ?_
  refine oV_eq ho.len (oMake_own (te := ty27) rfl (by show 24 * _ ≤ _; omega) (by omega) fun v H2 hg => ?_)
  rw [zerosL_one rfl] at hg
  unfold m80_12
  refine oV_eq ho.len ?_
  have hM0 : Mx H1 H2 v ([] ++ List.replicate (out.length - 0) []) := by
    replace hg : Grown H1 H2 1 27 v out.length (List.replicate out.length (.slice none 0 0)) := hg
    refine ⟨List.replicate out.length (.slice none 0 0), by simp, by simpa using hg, fun j u m hu hmm => ?_, fun i j u w b _ hu _ hb => ?_⟩
    · rw [List.nil_append] at hmm
      rw [List.getElem?_replicate] at hu hmm
      by_cases c : j < out.length
      · rw [if_pos c] at hu
        rw [if_pos (by omega)] at hmm
        cases hu
        cases hmm
        exact ⟨[], rfl, (Grown.nil H2 1 52).less hg.1, fun j u r hu => by simp at hu⟩
      · rw [if_neg c] at hu
        cases hu
    · rw [List.getElem?_replicate] at hu
      by_cases c : i < out.length
      · rw [if_pos c] at hu
        cases hu
        cases hb
      · rw [if_neg c] at hu
        cases hu
  refine clones_loop (R0 := H1) (s := s) (ho.mono l1) hm hN (fun R K hR hM => ?_) _ 0 H2 rfl (by omega) hM0
  unfold m80_1 m80_3
  have hsK := hs1.mono (hR.trans hM.le)
  refine oV_eq (vField_to _ _) (oV_eq hsK.ds (oV_eq hok.devs.len ?_))
  refine applyM_loop (R0 := R) hp (hok.mono (l1.trans hR)) (hs1.mono hR) ((ho.mono l1).mono hR) hm hds hN (fun R' K' hR' hM' => ?_) _ 0 R K rfl (by omega) (Le.refl _) hM
  unfold m80_2
  exact ⟨((l1.trans hR).trans hR').trans hM'.le, hM'.sl⟩
end
end Go.Proofs.YtchhpagkdaaglaaDoor.SL
