/- The deviations of a round upon broadcast messages, in the program and in the reference; Same. -/
import Derived.Test.YtchhpagkdaaglaaDoorAdvB
set_option linter.unusedVariables false
set_option linter.unusedSimpArgs false
namespace Go.Proofs.YtchhpagkdaaglaaDoor.SL
open Go

theorem gK_TT {A B : Prop} (h : A) : gK (.bool true) true A B := ⟨fun _ => h, fun h => absurd rfl h⟩
theorem gK_FF {A B : Prop} (h : A) : gK (.bool false) false A B := ⟨fun _ => h, fun h => absurd rfl h⟩
theorem gK_TF {A B : Prop} (h : B) : gK (.bool true) false A B := ⟨fun h => (by cases h), fun _ => h⟩
theorem gK_FT {A B : Prop} (h : B) : gK (.bool false) true A B := ⟨fun h => (by cases h), fun _ => h⟩
theorem rows_sl {H : Heap} {t : TypeId} {v : Value} {us : List Value} {xss : List (List Int)} (h : Own 1 t H v xss.length us) (hx : ∀ (j : Nat) (hj : j < xss.length), ∃ u, us[j]? = some u ∧ Sl (eInt .u64) H u xss[j]) : Sl (eSlice (eInt .u64)) H v xss :=
  h.sl (e := eSlice (eInt .u64)) fun i x hi => by
    obtain ⟨hl, rfl⟩ := List.getElem?_eq_some_iff.1 hi
    obtain ⟨u, hu, hs⟩ := hx i hl
    exact ⟨u, one_get _ i u hu, hs⟩
/-- A slice of one's own, of messages that R knows. -/
def Rw (R H : Heap) (v : Value) (rows : List (List Int)) : Prop := ∃ us, us.length = rows.length ∧ Grown R H 1 52 v rows.length us ∧ ∀ (j : Nat) u r, us[j]? = some u → rows[j]? = some r → Sl (eInt .u64) R u r
section
variable {R H : Heap} {v : Value} {rows : List (List Int)}
theorem Rw.le (h : Rw R H v rows) : Le R H := by
  obtain ⟨us, h1, h2, h3⟩ := h
  exact h2.1
theorem Rw.grow {K : Heap} (h : Rw R H v rows) (hl : Le H K) : Rw R K v rows := by
  obtain ⟨us, h1, h2, h3⟩ := h
  exact ⟨us, h1, h2.le hl, h3⟩
theorem Rw.news {H' N : Heap} (h : Rw R H v rows) (hN : New H H' N) : Rw (hun R N) H' v rows := by
  obtain ⟨us, h1, h2, h3⟩ := h
  exact ⟨us, h1, h2.news hN, fun j u r hu hr => (h3 j u r hu hr).mono (hun_left _ _)⟩
theorem Rw.fresh {i : Nat} (h : Rw R H v rows) (hi : H i = none) (c : Blk) : Rw (hins R i c) (hins H i c) v rows := by
  obtain ⟨us, h1, h2, h3⟩ := h
  exact ⟨us, h1, h2.fresh hi c, fun j u r hu hr => (h3 j u r hu hr).mono (Le.ins _ (none_le h2.1 hi))⟩
theorem Rw.len (h : Rw R H v rows) : vLen v = some (.int .i64 rows.length) := by
  obtain ⟨us, h1, h2, h3⟩ := h
  exact h2.2.1.len
theorem Rw.sl (h : Rw R H v rows) : Sl (eSlice (eInt .u64)) H v rows := by
  obtain ⟨us, h1, h2, h3⟩ := h
  refine rows_sl h2.2.1 fun j hj => ?_
  have hj' : j < us.length := by omega
  exact ⟨us[j], List.getElem?_eq_getElem hj', (h3 j _ _ (List.getElem?_eq_getElem hj') (List.getElem?_eq_getElem hj)).mono h2.1⟩
theorem Rw.get (h : Rw R H v rows) {j : Nat} (hj : j < rows.length) : ∃ pt u, vIdxS 1 v (.int .i64 j) = some pt ∧ vLoad ty52 pt H = some u ∧ Sl (eInt .u64) R u (rows.getD j []) := by
  obtain ⟨us, h1, h2, h3⟩ := h
  obtain ⟨pt, x, g1, g2, g3, g4⟩ := h2.ix .i64 hj
  refine ⟨pt, x, g1, g3 ty52 rfl, ?_⟩
  have : rows.getD j [] = rows[j] := by simp [hj]
  rw [this]
  exact h3 j x rows[j] g2 (List.getElem?_eq_getElem hj)
theorem Rw.put (h : Rw R H v rows) {j : Nat} (hj : j < rows.length) {u : Value} {r : List Int} (hu : Sl (eInt .u64) R u r) : ∃ pt H', vIdxS 1 v (.int .i64 j) = some pt ∧ vStore ty52 pt u H = some H' ∧ Rw R H' v (rows.set j r) := by
  obtain ⟨us, h1, h2, h3⟩ := h
  obtain ⟨pt, x, g1, g2, g3, g4⟩ := h2.ix .i64 hj
  obtain ⟨H', s1, s2, _⟩ := g4 ty52 u rfl rfl hu.one
  refine ⟨pt, H', g1, s1, us.set j u, by simpa using h1, by rw [List.length_set]; exact s2, fun i w z hw hz => ?_⟩
  by_cases c : j = i
  · subst c
    rw [List.getElem?_set_self (by omega)] at hw hz
    cases hw
    cases hz
    exact hu
  · rw [List.getElem?_set_ne c] at hw hz
    exact h3 i w z hw hz
end
theorem done_spec {H : Heap} {s : Scn} {cv dv tv : Value} {d : Dev} {rd : Int} (hb : Sl (eInt .i64) H cv s.bad) : RCalls Tryd.prog 110 [scnVal s cv dv tv, d.val, .int .i64 rd] H (Grow (.bool (decide (d.rd = rd ∧ d.fr ∈ s.bad))) H) := by
  apply call110
  unfold m110
  refine scn_new s cv dv tv fun i1 H1 l1 hs1 => ?_
  refine dev_new d fun i2 H2 l2 hd2 => ?_
  have hs2 := hs1.mono l2
  have l12 := l1.trans l2
  refine oV_eq (vField_to _ _) (oV_eq hd2.l0 (oV_eq (vInt_eql _ _ _) ?_))
  by_cases c : d.rd = rd
  · rw [decide_eq_true c]
    refine oV_eq (v := .pointer (some ⟨i1, 3, none⟩)) rfl (oV_eq (v := cv) hs2.c (oV_eq (v := .pointer (some ⟨i2, 1, none⟩)) rfl (oV_eq (v := .int .i64 d.fr) hd2.l1 ?_)))
    refine gK_TT (oRC_val (contains_spec (hb.mono l12)) ?_)
    refine oV_eq (v := .bool (decide (d.fr ∈ s.bad))) rfl ⟨?_, l12⟩
    congr 1
    exact decide_eq_decide.2 ⟨fun h => ⟨c, h⟩, fun h => h.2⟩
  · rw [decide_eq_false c]
    refine gK_FT ?_
    refine oV_eq (v := .bool false) rfl ⟨?_, l12⟩
    rw [decide_eq_false fun h => c h.1]
def stepB (s : Scn) (rd : Int) (out rows : List (List Int)) (d : Dev) : List (List Int) :=
  if d.rd = rd ∧ d.fr ∈ s.bad then rows.set (d.fr - 1).toNat (told s.P s.bad d (rows.getD (d.fr - 1).toNat []) (out.getD (d.of_ - 1).toNat [])) else rows
def applyB (s : Scn) (rd : Int) (out : List (List Int)) (i : Nat) : List (List Int) := (s.devs.take i).foldl (stepB s rd out) out
theorem told_said {p : Int} {bad : List Int} {d : Dev} {l : List Int} (h : d.kd ≠ 3) (a b : List Int) : told p bad d l a = told p bad d l b := by
  unfold told
  simp only [if_neg h]
/-- Messages of n parties, short and of the field. -/
structure Msgs (p : Int) (n : Int) (rows : List (List Int)) : Prop where
  len : (rows.length : Int) = n
  rng : ∀ r ∈ rows, rng p r ∧ r.length ≤ 20
theorem Msgs.get {p n : Int} {rows : List (List Int)} (h : Msgs p n rows) (j : Nat) : SL.rng p (rows.getD j []) ∧ (rows.getD j []).length ≤ 20 := by
  rw [List.getD_eq_getElem?_getD]
  cases he : rows[j]? with
  | none => exact ⟨fun x hx => by simp at hx, by simp⟩
  | some r => exact h.rng r (List.mem_of_getElem? he)
theorem stepB_msgs {s : Scn} {rd : Int} {out rows : List (List Int)} {d : Dev} (hp : 0 < s.P) (h : Msgs s.P s.N rows) : Msgs s.P s.N (stepB s rd out rows d) := by
  unfold stepB
  split
  · refine ⟨by rw [List.length_set]; exact h.len, fun r hr => ?_⟩
    rcases List.mem_or_eq_of_mem_set hr with hr | rfl
    · exact h.rng r hr
    · have := h.get (d.fr - 1).toNat
      exact ⟨told_rng hp this.1, Nat.le_trans told_len this.2⟩
  · exact h
theorem applyB_succ {s : Scn} {rd : Int} {out : List (List Int)} {i : Nat} (h : i < s.devs.length) : applyB s rd out (i + 1) = stepB s rd out (applyB s rd out i) s.devs[i] := by
  simp only [applyB, List.take_succ_eq_append_getElem h, List.foldl_append, List.foldl_cons, List.foldl_nil]
theorem applyB_msgs {s : Scn} {rd : Int} {out : List (List Int)} (hp : 0 < s.P) (h : Msgs s.P s.N out) : ∀ i, i ≤ s.devs.length → Msgs s.P s.N (applyB s rd out i)
  | 0, _ => h
  | i + 1, hi => by
    rw [applyB_succ (by omega)]
    exact stepB_msgs hp (applyB_msgs hp h i (by omega))
section
variable {s : Scn} {cv dv tv ov : Value} {rd : Int} {out : List (List Int)}
theorem applyB_loop {R0 : Heap} {i3 : Nat} (hp : Supp s.P) (hok : ScnOk R0 s cv dv tv) (hs : SAt R0 i3 s cv dv tv) (ho : Sl (eSlice (eInt .u64)) R0 ov out) (hm : Msgs s.P s.N out) (hds : ∀ d ∈ s.devs, DevOk s.N d) (hN : s.N ≤ 1000) {kn : Value → Heap → Prop} {Q : Ending → Heap → Prop}
    (hk : ∀ v R H, Le R0 R → Rw R H v (applyB s rd out s.devs.length) → kn v H) :
    ∀ (n i : Nat) (R H : Heap) (v : Value), s.devs.length - i = n → i ≤ s.devs.length → Le R0 R → Rw R H v (applyB s rd out i) → L81_3 (.int .i64 rd) ov (ptrTo i3) v dv (.int .i64 s.devs.length) (.int .i64 i) H kn Q := by
  have hpp := hp.pos
  have hdm := hok.devs.max
  intro n
  induction n with
  | zero =>
    intro i R H v hd hi h0 hR
    apply L81_3_round
    unfold m81_4
    refine oV_eq (vInt_lss _ _ _) (condK_dec (fun hlt => absurd hlt (by omega)) (fun _ => ?_))
    have : i = s.devs.length := by omega
    subst this
    exact hk v R H h0 hR
  | succ n ih =>
    intro i R H v hd hi h0 hR
    apply L81_3_round
    unfold m81_4
    refine oV_eq (vInt_lss _ _ _) (condK_dec (fun hlt => ?_) (fun hlt => absurd (by omega) hlt))
    have hil : i < s.devs.length := by omega
    have hms := applyB_msgs (rd := rd) (show 0 < s.P by omega) hm i (by omega)
    have next := fun R' H' v' => ih (i + 1) R' H' v' (by omega) (by omega)
    rw [applyB_succ hil] at next
    have hdok := hds _ (List.getElem_mem hil)
    have w1 := wrap_i64 (show -9223372036854775808 ≤ (i : Int) + 1 by omega) (by omega)
    obtain ⟨q, f1, f2⟩ := (hok.devs.mono (h0.trans hR.le)).dev hil
    refine oV_eq f1 (oV_eq f2 (dev_local _ fun x H1 l1 hdx => ?_))
    generalize s.devs[i] = d at hdx next hdok ⊢
    replace hR := hR.grow l1
    have hsH := hs.mono (h0.trans hR.le)
    refine oV_eq hsH.all (oV_eq hdx.all (oRC_grow (done_spec (hok.bad.mono (h0.trans hR.le))) fun H2 l2 => ?_))
    replace hR := hR.grow l2
    replace hdx := hdx.mono l2
    replace hsH := hsH.mono l2
    by_cases c : d.rd = rd ∧ d.fr ∈ s.bad
    rotate_left
    · rw [decide_eq_false c]
      refine oV_eq rfl (condK_true (oV_eq (vInt_add _ _ _) ?_))
      rw [w1]
      simp only [stepB, if_neg c] at next
      exact next R H2 v h0 hR
    rw [decide_eq_true c]
    simp only [stepB, if_pos c] at next
    refine oV_eq rfl (condK_false ?_)
    have hf1 := hdok.fr1
    have hf2 := hdok.fr2
    have hlen := hms.len
    have wf : IntKind.i64.wrap (d.fr - 1) = ((d.fr - 1).toNat : Nat) := by
      rw [wrap_i64 (by omega) (by omega)]
      omega
    have hj : (d.fr - 1).toNat < (applyB s rd out i).length := by omega
    have hrow := hms.get (d.fr - 1).toNat
    have hsaid := hm.get (d.of_ - 1).toNat
    obtain ⟨pt, u, a1, a2, a3⟩ := hR.get hj
    have tail : ∀ (sv : Value) (said : List Int), Sl (eInt .u64) H2 sv said → rng s.P said → told s.P s.bad d ((applyB s rd out i).getD (d.fr - 1).toNat []) said = told s.P s.bad d ((applyB s rd out i).getD (d.fr - 1).toNat []) (out.getD (d.of_ - 1).toNat []) →
        oRC Tryd.prog 111 [scnVal s cv dv tv, d.val, u, sv] H2 noP fun v_31 H_32 => (vLoad ty3 (.pointer (some ⟨x, 1, none⟩)) H_32 = some (.int .i64 d.fr) ∧ oV (vIdxS 1 v (.int .i64 ((d.fr - 1).toNat : Nat))) fun t48 => oHeap (vStore ty52 t48 v_31 H_32) fun H_34 =>
          oV (vInt .add (.int .i64 i) (.int .i64 1)) fun t49 => L81_3 (.int .i64 rd) ov (ptrTo i3) v dv (.int .i64 s.devs.length) t49 H_34 kn Q) := by
      intro sv said hsv hsr he
      refine oRC_ret (upon_spec hp (hok.bad.mono (h0.trans hR.le)) (a3.mono hR.le) hsv hrow.1 hsr (by omega) hdok) fun w H3 hw => ?_
      obtain ⟨N, hN, hwN⟩ := hw
      refine ⟨(hdx.mono hN.1).l1, ?_⟩
      have hsw := hwN R hR.le a3
      rw [he] at hsw
      obtain ⟨pt2, H4, b1, b2, b3⟩ := (hR.news hN).put hj hsw
      refine oV_eq b1 (oHeap_eq b2 (oV_eq (vInt_add _ _ _) ?_))
      rw [w1]
      exact next (hun R N) H4 v (h0.trans (hun_left _ _)) b3
    refine oV_eq (vField_to _ _) (oV_eq hdx.l4 (oV_eq (vInt_eql _ _ _) (condK_dec (fun k3 => ?_) (fun k3 => ?_))))
    · have ho1 := hdok.of3 k3
      have ho2 := hdok.of2
      have wo : IntKind.i64.wrap (d.of_ - 1) = d.of_ - 1 := wrap_i64 (by omega) (by omega)
      have hml := hm.len
      obtain ⟨po, uo, o1, o2, o3⟩ := (ho.mono (h0.trans hR.le)).slice .i64 (i := d.of_ - 1) (by omega) (by omega) (ti := ty52) rfl
      refine oV_eq (vField_to _ _) (oV_eq hdx.l6 (oV_eq (vInt_sub _ _ _) ?_))
      rw [wo]
      refine oV_eq o1 (oV_eq o2 (oV_eq (vField_to _ _) (oV_eq hdx.l1 (oV_eq (vInt_sub _ _ _) ?_))))
      rw [wf]
      refine oV_eq hsH.all (oV_eq hdx.all (oV_eq (vField_to _ _) (oV_eq hdx.l1 (oV_eq (vInt_sub _ _ _) ?_))))
      rw [wf]
      exact oV_eq a1 (oV_eq a2 (tail uo _ o3 hsaid.1 rfl))
    · refine oV_eq (vField_to _ _) (oV_eq hdx.l1 (oV_eq (vInt_sub _ _ _) ?_))
      rw [wf]
      refine oV_eq hsH.all (oV_eq hdx.all (oV_eq (vField_to _ _) (oV_eq hdx.l1 (oV_eq (vInt_sub _ _ _) ?_))))
      rw [wf]
      exact oV_eq a1 (oV_eq a2 (tail _ [] (Sl.nil _ _) (fun x hx => by cases hx) (told_said k3 _ _)))
theorem applyB_spec {H : Heap} (hp : Supp s.P) (hok : ScnOk H s cv dv tv) (ho : Sl (eSlice (eInt .u64)) H ov out) (hm : Msgs s.P s.N out) (hds : ∀ d ∈ s.devs, DevOk s.N d) (hN : s.N ≤ 1000) :
    RCalls Tryd.prog 81 [scnVal s cv dv tv, .int .i64 rd, ov] H (Ret fun v H' => Le H H' ∧ Sl (eSlice (eInt .u64)) H' v (applyB s rd out s.devs.length)) := by
  have hml := hm.len
  apply call81
  unfold m81
  refine scn_new s cv dv tv fun i1 H1 l1 hs1 => ?_
  refine oRC_ret (clone_rows (ho.mono l1) (by omega)) fun v H2 hv => ?_
  obtain ⟨us, u1, u2, u3⟩ := hv
  unfold m81_2
  refine oV_eq (vField_to _ _) (oV_eq (hs1.mono u2.1).ds (oV_eq hok.devs.len ?_))
  refine applyB_loop (R0 := H1) hp (hok.mono l1) hs1 (ho.mono l1) hm hds hN (fun w R K hR hw => ?_) _ 0 H1 H2 v rfl (by omega) (Le.refl _) ⟨us, u1, u2, u3⟩
  unfold m81_1
  exact ⟨(l1.trans hR).trans hw.le, hw.sl⟩
/-! ### The reference -/
theorem rapplyB_loop {R0 : Heap} {i3 : Nat} (hp : Supp s.P) (hok : ScnOk R0 s cv dv tv) (hs : SAt R0 i3 s cv dv tv) (ho : Sl (eSlice (eInt .u64)) R0 ov out) (hm : Msgs s.P s.N out) (hds : ∀ d ∈ s.devs, DevOk s.N d) (hN : s.N ≤ 1000) {kn : Value → Heap → Prop} {Q : Ending → Heap → Prop}
    (hk : ∀ v R H, Le R0 R → Rw R H v (applyB s rd out s.devs.length) → kn v H) :
    ∀ (n i : Nat) (R H : Heap) (v : Value), s.devs.length - i = n → i ≤ s.devs.length → Le R0 R → Rw R H v (applyB s rd out i) → L93_3 (.int .i64 rd) ov (ptrTo i3) v (.int .i64 i) H kn Q := by
  have hpp := hp.pos
  have hdm := hok.devs.max
  intro n
  induction n with
  | zero =>
    intro i R H v hd hi h0 hR
    apply L93_3_round
    unfold m93_4
    refine oV_eq (vField_to _ _) (oV_eq (hs.mono (h0.trans hR.le)).ds (oV_eq hok.devs.len (oV_eq (vInt_lss _ _ _) (condK_dec (fun hlt => absurd hlt (by omega)) (fun _ => ?_)))))
    have : i = s.devs.length := by omega
    subst this
    exact hk v R H h0 hR
  | succ n ih =>
    intro i R H v hd hi h0 hR
    apply L93_3_round
    unfold m93_4
    have hsH0 := hs.mono (h0.trans hR.le)
    refine oV_eq (vField_to _ _) (oV_eq hsH0.ds (oV_eq hok.devs.len (oV_eq (vInt_lss _ _ _) (condK_dec (fun hlt => ?_) (fun hlt => absurd (by omega) hlt)))))
    have hil : i < s.devs.length := by omega
    have hms := applyB_msgs (rd := rd) (show 0 < s.P by omega) hm i (by omega)
    have next := fun R' H' v' => ih (i + 1) R' H' v' (by omega) (by omega)
    rw [applyB_succ hil] at next
    have hdok := hds _ (List.getElem_mem hil)
    have w1 := wrap_i64 (show -9223372036854775808 ≤ (i : Int) + 1 by omega) (by omega)
    obtain ⟨q, f1, f2⟩ := (hok.devs.mono (h0.trans hR.le)).dev hil
    refine oV_eq (vField_to _ _) (oV_eq hsH0.ds (oV_eq f1 (oV_eq f2 (dev_local _ fun x H1 l1 hdx => ?_))))
    generalize s.devs[i] = d at hdx next hdok ⊢
    replace hR := hR.grow l1
    have hsH := hs.mono (h0.trans hR.le)
    refine oV_eq (vField_to _ _) (oV_eq hdx.l0 (oV_eq (vInt_eql _ _ _) ?_))
    by_cases c1 : d.rd = rd
    rotate_left
    · rw [decide_eq_false c1]
      refine gK_FT ?_
      refine oV_eq (v := .bool false) rfl (condK_false (oV_eq (vInt_add _ _ _) ?_))
      rw [w1]
      simp only [stepB, if_neg (show ¬ (d.rd = rd ∧ d.fr ∈ s.bad) from fun h => c1 h.1)] at next
      exact next R H1 v h0 hR
    rw [decide_eq_true c1]
    refine oV_eq (v := scnVal s cv dv tv) hsH.all (oV_eq (v := .pointer (some ⟨x, 1, none⟩)) rfl (oV_eq (v := .int .i64 d.fr) hdx.l1 ?_))
    refine gK_TT (oRC_grow (bad_spec (hok.bad.mono (h0.trans hR.le))) fun H2 l2 => ?_)
    replace hR := hR.grow l2
    replace hdx := hdx.mono l2
    replace hsH := hsH.mono l2
    refine oV_eq (v := .bool (decide (d.fr ∈ s.bad))) rfl (condK_dec (fun c2 => ?_) (fun c2 => ?_))
    rotate_left
    · refine oV_eq (vInt_add _ _ _) ?_
      rw [w1]
      simp only [stepB, if_neg (show ¬ (d.rd = rd ∧ d.fr ∈ s.bad) from fun h => c2 h.2)] at next
      exact next R H2 v h0 hR
    simp only [stepB, if_pos (show d.rd = rd ∧ d.fr ∈ s.bad from ⟨c1, c2⟩)] at next
    have hf1 := hdok.fr1
    have hf2 := hdok.fr2
    have hlen := hms.len
    have wf : IntKind.i64.wrap (d.fr - 1) = ((d.fr - 1).toNat : Nat) := by
      rw [wrap_i64 (by omega) (by omega)]
      omega
    have hj : (d.fr - 1).toNat < (applyB s rd out i).length := by omega
    have hrow := hms.get (d.fr - 1).toNat
    have hsaid := hm.get (d.of_ - 1).toNat
    obtain ⟨pt, u, a1, a2, a3⟩ := hR.get hj
    have tail : ∀ (sv : Value) (said : List Int), Sl (eInt .u64) H2 sv said → rng s.P said → told s.P s.bad d ((applyB s rd out i).getD (d.fr - 1).toNat []) said = told s.P s.bad d ((applyB s rd out i).getD (d.fr - 1).toNat []) (out.getD (d.of_ - 1).toNat []) →
        oRC Tryd.prog 118 [scnVal s cv dv tv, d.val, u, sv] H2 noP fun v_31 H_32 => (vLoad ty3 (.pointer (some ⟨x, 1, none⟩)) H_32 = some (.int .i64 d.fr) ∧ oV (vIdxS 1 v (.int .i64 ((d.fr - 1).toNat : Nat))) fun t48 => oHeap (vStore ty52 t48 v_31 H_32) fun H_34 =>
          oV (vInt .add (.int .i64 i) (.int .i64 1)) fun t49 => L93_3 (.int .i64 rd) ov (ptrTo i3) v t49 H_34 kn Q) := by
      intro sv said hsv hsr he
      refine oRC_ret (told_spec hp (hok.bad.mono (h0.trans hR.le)) (a3.mono hR.le) hsv hrow.1 hsr (by omega) hdok) fun w H3 hw => ?_
      obtain ⟨N, hN, hwN⟩ := hw
      refine ⟨(hdx.mono hN.1).l1, ?_⟩
      have hsw := hwN R hR.le a3
      rw [he] at hsw
      obtain ⟨pt2, H4, b1, b2, b3⟩ := (hR.news hN).put hj hsw
      refine oV_eq b1 (oHeap_eq b2 (oV_eq (vInt_add _ _ _) ?_))
      rw [w1]
      exact next (hun R N) H4 v (h0.trans (hun_left _ _)) b3
    have ho0 := hdok.of0
    have ho2 := hdok.of2
    refine oV_eq (vField_to _ _) (oV_eq hdx.l6 (oV_eq (vInt_geq _ _ _) (condK_dec (fun k3 => ?_) (fun k3 => ?_))))
    · have wo : IntKind.i64.wrap (d.of_ - 1) = d.of_ - 1 := wrap_i64 (by omega) (by omega)
      have hml := hm.len
      obtain ⟨po, uo, o1, o2, o3⟩ := (ho.mono (h0.trans hR.le)).slice .i64 (i := d.of_ - 1) (by omega) (by omega) (ti := ty52) rfl
      refine oV_eq (vField_to _ _) (oV_eq hdx.l6 (oV_eq (vInt_sub _ _ _) ?_))
      rw [wo]
      refine oV_eq o1 (oV_eq o2 (oV_eq (vField_to _ _) (oV_eq hdx.l1 (oV_eq (vInt_sub _ _ _) ?_))))
      rw [wf]
      refine oV_eq hsH.all (oV_eq hdx.all (oV_eq (vField_to _ _) (oV_eq hdx.l1 (oV_eq (vInt_sub _ _ _) ?_))))
      rw [wf]
      exact oV_eq a1 (oV_eq a2 (tail uo _ o3 hsaid.1 rfl))
    · refine oV_eq (vField_to _ _) (oV_eq hdx.l1 (oV_eq (vInt_sub _ _ _) ?_))
      rw [wf]
      refine oV_eq hsH.all (oV_eq hdx.all (oV_eq (vField_to _ _) (oV_eq hdx.l1 (oV_eq (vInt_sub _ _ _) ?_))))
      rw [wf]
      exact oV_eq a1 (oV_eq a2 (tail _ [] (Sl.nil _ _) (fun x hx => by cases hx) (told_said (fun h => by have := hdok.of3 h; omega) _ _)))
theorem rapplyB_spec {H : Heap} (hp : Supp s.P) (hok : ScnOk H s cv dv tv) (ho : Sl (eSlice (eInt .u64)) H ov out) (hm : Msgs s.P s.N out) (hds : ∀ d ∈ s.devs, DevOk s.N d) (hN : s.N ≤ 1000) :
    RCalls Tryd.prog 93 [scnVal s cv dv tv, .int .i64 rd, ov] H (Ret fun v H' => Le H H' ∧ Sl (eSlice (eInt .u64)) H' v (applyB s rd out s.devs.length)) := by
  have hml := hm.len
  apply call93
  unfold m93
  refine scn_new s cv dv tv fun i1 H1 l1 hs1 => ?_
  obtain ⟨b, cap, us, rfl, e2, e3, e4, e5, e6⟩ := (ho.mono l1).slices
  refine append_copy (te := ty52) e4 (fun w hw => ?_) (by show 0 < 1; omega) (by show out.length * 24 ≤ _; omega) (by omega) (by rw [e5]; exact (Nat.mul_one _).symm) fun v H2 hg => ?_
  · obtain ⟨j, hj, rfl⟩ := List.mem_iff_getElem.1 hw
    exact (e6 j us[j] (out[j]'(by omega)) (List.getElem?_eq_getElem hj) (List.getElem?_eq_getElem _)).one
  unfold m93_2
  refine rapplyB_loop (R0 := H1) hp (hok.mono l1) hs1 (ho.mono l1) hm hds hN (fun w R K hR hw => ?_) _ 0 H1 H2 v rfl (by omega) (Le.refl _) ⟨us, e5, hg, e6⟩
  unfold m93_1
  exact ⟨(l1.trans hR).trans hw.le, hw.sl⟩
end
end Go.Proofs.YtchhpagkdaaglaaDoor.SL
