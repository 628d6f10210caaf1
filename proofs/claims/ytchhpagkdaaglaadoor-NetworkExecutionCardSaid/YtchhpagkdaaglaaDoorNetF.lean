/- Send and Broadcast of the reference. -/
import Derived.Test.YtchhpagkdaaglaaDoorNetE
set_option linter.unusedVariables false
set_option linter.unusedSimpArgs false
namespace Go.Proofs.YtchhpagkdaaglaaDoor.SL
open Go

/-- A copy by append to an empty list, with other steps between. -/
theorem copy_empty {H : Heap} {k : Value → Heap → Prop} (hk : ∀ s H1, Le H H1 → (∀ (v : Value) (xs : List Int) (k' : Value → Heap → Prop), Sl (eInt .u64) H v xs → xs.length ≤ 1000000 → (∀ v' H', Grown H H' 1 22 v' xs.length (xs.map (.int .u64)) → k' v' H') → oAppend ty22 22 s v H1 k') → k s H1) : oBuildS ty22 22 0 [] H k := by
  refine oBuildS_none fun i hi => hk _ _ (Le.ins _ hi) fun v xs k' h hm hk' => ?_
  obtain ⟨b, cap, rfl, e2, e3, e4⟩ := h.ints
  have h1 : ∀ v ∈ xs.map (Value.int .u64), v.oneCell' = true := fun v hv => by obtain ⟨x, _, rfl⟩ := List.mem_map.1 hv; rfl
  have ho : Own 1 22 (hins H i (.cells [] 0 22 true)) (.slice (some ⟨i, 0, none⟩) 0 0) 0 [] := .inr ⟨i, 0, rfl, by omega, by omega, by rw [hins_self, Nat.zero_mul], by simp⟩
  have hr' : rdSlice 1 (hins H i (.cells [] 0 22 true)) b xs.length = some (xs.map (.int .u64)) := rdSlice_mono (Le.ins _ hi) e4
  by_cases hp : 0 < xs.length
  · refine oAppend_own (te := ty22) ho hr' h1 hp (by show 0 < 1; omega) (by show (0 + xs.length) * 8 ≤ _; omega) (by omega) (by simp [ty22]) fun j' c hj' hc' hc2 => ?_
    rw [Nat.zero_add] at hc' ⊢
    rw [List.nil_append]
    have hj0 : H j' = none := by
      rcases hj' with e | e
      · cases e
        exact hi
      · exact (hins_none e).2
    refine hk' _ _ ⟨fun k d hk => ?_, .inr ⟨j', c, rfl, hc', hc2, hins_self _ _ _, by simp⟩, fun k hk => by cases hk; exact hj0⟩
    rw [hins_other _ _ (fun e => by subst e; rw [hj0] at hk; cases hk)]
    exact hins_get hi hk
  · have e0 : xs = [] := List.eq_nil_of_length_eq_zero (by omega)
    subst e0
    refine ⟨[], [], rfl, hr', h1, by simp, by simp, fun _ => ?_, fun h => absurd h (by simp)⟩
    simp only [oRoom, if_true]
    exact hk' _ _ ⟨Le.ins _ hi, ho, fun j hj => by cases hj; exact hi⟩
section
variable {R0 : Heap} {F0 : Nat → Prop} {H0 : Heap} {jn : Nat} {s : Scn} {cv dv tv tp : Value} {rd : Int} {iv sv ov : Value} {said out : List (List (List Int))} {n : Nat}
theorem rsend_row (hn : (n : Int) = s.N) {j B : Nat} {vs0 : List (List Ev)} (hn13 : n ≤ 1000) (hj : j < n) (hsl : said.length = n) (hsr : ∀ i, i < n → (said.getD i []).length = n) (hsw : ∀ i j, ((said.getD i []).getD j []).length ≤ 1000000) (hvl : vs0.length = n) (hB : Few vs0 B) (hB2 : B + n ≤ 1000000)
    {kn : Value → Value → Value → Value → Heap → Prop} {kx1 : Value → Value → Value → Value → Heap → Prop} {kx0 : Value → Value → Heap → Prop} {Q : Ending → Heap → Prop}
    (hk : ∀ R F Fi H rows, SendSt R0 F0 H0 103 jn s cv dv tv tp rd iv sv said n R F Fi H (rowV rd said j vs0 n) rows j n → kn (ptrTo jn) sv iv (.int .i64 j) H) :
    ∀ (d i : Nat) (R : Heap) (F Fi : Nat → Prop) (H : Heap) (rows : List (List Value)), n - i = d → i ≤ n → SendSt R0 F0 H0 103 jn s cv dv tv tp rd iv sv said n R F Fi H (rowV rd said j vs0 i) rows j i →
      L59_8 (ptrTo jn) sv iv (.int .i64 j) (.int .i64 i) H kn kx1 kx0 Q := by
  intro d
  induction d with
  | zero =>
    intro i R F Fi H rows hd hi h
    apply L59_8_round
    unfold m59_9
    have hnl := h.net.n
    rw [← hn] at hnl
    refine oV_eq (v := ptrTo jn) rfl (oV_eq (vField_to _ _) (oV_eq (v := .pointer (some ⟨jn, 0, none⟩)) rfl (oV_eq (v := .pointer (some ⟨jn, 1, none⟩)) rfl (oV_eq hnl (oV_eq (vInt_lss _ _ _) (condK_dec (fun hlt => absurd hlt (by omega)) (fun _ => ?_)))))))
    have : i = n := by omega
    subst this
    exact hk R F Fi H rows h
  | succ d ih =>
    intro i R F Fi H rows hd hi h
    apply L59_8_round
    unfold m59_9
    have hnl := h.net.n
    rw [← hn] at hnl
    refine oV_eq (v := ptrTo jn) rfl (oV_eq (vField_to _ _) (oV_eq (v := .pointer (some ⟨jn, 0, none⟩)) rfl (oV_eq (v := .pointer (some ⟨jn, 1, none⟩)) rfl (oV_eq hnl (oV_eq (vInt_lss _ _ _) (condK_dec (fun hlt => ?_) (fun hlt => absurd (by omega) hlt)))))))
    have hin : i < n := by omega
    refine copy_empty fun e0 K lK hK => ?_
    obtain ⟨p1, u1, a1, a2, a3⟩ := (h.sl.mono h.net.le).slice .i64 (i := (i : Int)) (by omega) (by omega) (ti := ty27) rfl
    rw [Int.toNat_natCast] at a3
    have hsi := hsr i hin
    obtain ⟨p2, u2, b1, b2, b3⟩ := a3.slice .i64 (i := (j : Int)) (by omega) (by omega) (ti := ty52) rfl
    rw [Int.toNat_natCast] at b3
    have hw := hsw i j
    refine oV_eq a1 (oV_eq (vLoad_mono lK a2) (oV_eq b1 (oV_eq (vLoad_mono lK b2) (hK _ _ _ b3 hw fun w H1 hg => ?_))))
    obtain ⟨N, hN, hNs⟩ := words_made hg
    have h1 := h.news hN
    have hlN : Le N (hun R N) := hun_right fun k hk => none_le h.net.le (hN.2.2 k hk)
    have hws := hNs.mono hlN
    obtain ⟨pt, u, c1, c2, c3⟩ := h1.push hj (by omega) hws
    refine oV_eq c1 (oV_eq c2 (c3 _ fun u' H2 H3 Fi' rows' st h3 => oV_eq c1 (oHeap_eq st ?_)))
    have hlv := rowV_len rd said j vs0 i
    have hfw := hB.row rd said j i
    refine oRC_ret (hear_spec (who := j) (fr := i) h3.net (by omega) (by have := hfw j; omega) hws (by omega)) fun v H4 hv => ?_
    obtain ⟨R4, F4, q1, q2, q3, q4, q5⟩ := hv
    have h4 := h3.noted q1 q2 q3 q4 q5
    refine oV_eq (vInt_add _ _ _) ?_
    rw [wrap_i64 (by omega) (by omega)]
    exact ih (i + 1) R4 F4 Fi' H4 rows' (by omega) (by omega) h4
theorem rsend_rows {B : Nat} {vs0 : List (List Ev)} (hn : (n : Int) = s.N) (hn13 : n ≤ 1000) (hsl : said.length = n) (hsr : ∀ i, i < n → (said.getD i []).length = n) (hsw : ∀ i j, ((said.getD i []).getD j []).length ≤ 1000000) (hvl : vs0.length = n) (hB : Few vs0 B) (hB2 : B + (n + 1) * n ≤ 1000000)
    {kn : Value → Value → Heap → Prop} {Q : Ending → Heap → Prop}
    (hk : ∀ R F Fi H rows, SendSt R0 F0 H0 103 jn s cv dv tv tp rd iv sv said n R F Fi H (sendV rd said n vs0 n) rows n 0 → kn (ptrTo jn) iv H) :
    ∀ (d j : Nat) (R : Heap) (F Fi : Nat → Prop) (H : Heap) (rows : List (List Value)), n - j = d → j ≤ n → SendSt R0 F0 H0 103 jn s cv dv tv tp rd iv sv said n R F Fi H (sendV rd said n vs0 j) rows j 0 →
      L59_3 (ptrTo jn) sv iv (.int .i64 j) H kn Q := by
  intro d
  induction d with
  | zero =>
    intro j R F Fi H rows hd hj h
    apply L59_3_round
    unfold m59_4
    have hnl := h.net.n
    rw [← hn] at hnl
    refine oV_eq (v := ptrTo jn) rfl (oV_eq (vField_to _ _) (oV_eq (v := .pointer (some ⟨jn, 0, none⟩)) rfl (oV_eq (v := .pointer (some ⟨jn, 1, none⟩)) rfl (oV_eq hnl (oV_eq (vInt_lss _ _ _) (condK_dec (fun hlt => absurd hlt (by omega)) (fun _ => ?_)))))))
    have : j = n := by omega
    subst this
    exact hk R F Fi H rows h
  | succ d ih =>
    intro j R F Fi H rows hd hj h
    apply L59_3_round
    unfold m59_4
    have hnl := h.net.n
    rw [← hn] at hnl
    refine oV_eq (v := ptrTo jn) rfl (oV_eq (vField_to _ _) (oV_eq (v := .pointer (some ⟨jn, 0, none⟩)) rfl (oV_eq (v := .pointer (some ⟨jn, 1, none⟩)) rfl (oV_eq hnl (oV_eq (vInt_lss _ _ _) (condK_dec (fun hlt => ?_) (fun hlt => absurd (by omega) hlt)))))))
    have hjn : j < n := by omega
    unfold m59_6 m59_7
    have hmul : (j + 1) * n ≤ (n + 1) * n := Nat.mul_le_mul_right n (by omega)
    rw [Nat.succ_mul] at hmul
    refine rsend_row hn hn13 hjn hsl hsr hsw (by rw [sendV_len]; exact hvl) (hB.send rd said n j) (by omega) (fun R F Fi H rows h2 => ?_) _ 0 R F Fi H rows rfl (by omega) h
    unfold m59_5
    refine oV_eq (vInt_add _ _ _) ?_
    rw [wrap_i64 (by omega) (by omega)]
    exact ih (j + 1) R F Fi H rows (by omega) (by omega) h2.next
end
section
variable {R R1 H H1 : Heap} {F : Nat → Prop} {tn : TypeId} {jn : Nat} {s : Scn} {cv dv tv tp ov : Value} {rd : Int} {views : List (List Ev)}
theorem rsend_spec {out : List (List (List Int))} {B : Nat} (h : NetAt R F 103 H jn s cv dv tv tp rd views) (hV : ScnV s) (ho : Sl (eSlice (eSlice (eInt .u64))) R ov out) (hm : MsgsM s.P s.N out) (hvl : (views.length : Int) = s.N) (hB : Few views B) (hB2 : B ≤ 900000) (hr0 : 0 ≤ rd) (hr1 : rd ≤ 1000000) :
    RCalls Tryd.prog 59 [ptrTo jn, ov] H (Sent (eSlice (eSlice (eInt .u64))) R F 103 H jn s cv dv tv tp (rd + 1) (sendV rd (applyM s rd out s.devs.length) views.length views views.length) (recv (applyM s rd out s.devs.length) views.length)) := by
  obtain ⟨hp, hn4, hn13, _⟩ := hV.par
  have hds : ∀ d ∈ s.devs, DevOk s.N d := fun d hd => (hV.devs d hd).2
  have hpp := hp.pos
  have hsm := applyM_msgs (rd := rd) (show 0 < s.P by omega) hds hm s.devs.length (Nat.le_refl _)
  have hsl := hsm.len
  apply call59
  unfold m59
  refine oV_eq (v := ptrTo jn) rfl (oV_eq (vField_to _ _) (oV_eq h.scn (oV_eq (v := ptrTo jn) rfl (oV_eq (vField_to _ _) (oV_eq h.r ?_)))))
  refine oRC_frame (rapplyM_spec hp h.ok ho hm hds (by omega)) h.le fun sv R1 H1 hq hl1 h3 h4 => ?_
  obtain ⟨hR, hsv⟩ := hq
  obtain ⟨h1, hle⟩ := h.framed hR hl1 h3 h4
  have hnl := h1.n
  rw [← hvl] at hnl
  refine oV_eq (v := ptrTo jn) rfl (oV_eq (vField_to _ _) (oV_eq (v := .pointer (some ⟨jn, 0, none⟩)) rfl (oV_eq (v := .pointer (some ⟨jn, 1, none⟩)) rfl (oV_eq hnl ?_))))
  refine oMake_own (te := ty27) rfl (by show 24 * _ ≤ _; omega) (by omega) fun iv H2 hg => ?_
  rw [zerosL_one rfl] at hg
  have hs := SendSt.init h h1 hle hR h4 hsv hg
  generalize applyM s rd out s.devs.length = said at hsm hsl hsv hs ⊢
  unfold m59_2
  have hmul : (views.length + 1) * views.length ≤ 14 * 13 := Nat.mul_le_mul (by omega) (by omega)
  refine rsend_rows hvl (by omega) (by omega) (fun i hi => by have := hsm.row i (by omega); omega) hsm.word rfl hB (by omega) (fun R' F' Fi' H' rows' hd => ?_) _ 0 R1 F _ H2 _ rfl (by omega) hs
  unfold m59_1
  obtain ⟨K, t1, t2⟩ := hd.done (rd + 1)
  refine oV_eq (v := ptrTo jn) rfl (oV_eq (vField_to _ _) (oV_eq hd.net.r (oV_eq (vInt_add _ _ _) ?_)))
  rw [wrap_i64 (by omega) (by omega)]
  exact oV_eq (v := ptrTo jn) rfl (oV_eq (vField_to _ _) (oHeap_eq t1 t2))
end
section
variable {R0 : Heap} {F0 : Nat → Prop} {H0 : Heap} {jn : Nat} {s : Scn} {cv dv tv tp : Value} {rd : Int} {sv ov : Value} {said out : List (List Int)} {n : Nat} {R H : Heap} {F : Nat → Prop} {views : List (List Ev)}
theorem rcast_row {av lv : Value} {i B : Nat} {vs0 : List (List Ev)} {rows : List (List Int)} (hn : (n : Int) = s.N) (hn13 : n ≤ 1000) (hi : i < n) (hsw : (said.getD i []).length ≤ 1000000) (hvl : vs0.length = n) (hB : Few vs0 B) (hB2 : B + n ≤ 1000000)
    {kn : Value → Value → Value → Value → Heap → Prop} {kx1 : Value → Value → Value → Value → Heap → Prop} {kx0 : Value → Value → Heap → Prop} {Q : Ending → Heap → Prop}
    (hk : ∀ R F Fi H, CastSt R0 F0 H0 103 jn s cv dv tv tp rd av sv said R F Fi H (castRow rd said i vs0 n) rows → kn (ptrTo jn) sv av (.int .i64 i) H) :
    ∀ (d j : Nat) (R : Heap) (F Fi : Nat → Prop) (H : Heap), n - j = d → j ≤ n → Sl (eInt .u64) R lv (said.getD i []) → CastSt R0 F0 H0 103 jn s cv dv tv tp rd av sv said R F Fi H (castRow rd said i vs0 j) rows →
      L58_8 (ptrTo jn) sv av (.int .i64 i) lv (.int .i64 j) H kn kx1 kx0 Q := by
  intro d
  induction d with
  | zero =>
    intro j R F Fi H hd hj hlv h
    apply L58_8_round
    unfold m58_9
    have hnl := h.net.n
    rw [← hn] at hnl
    refine oV_eq (v := ptrTo jn) rfl (oV_eq (vField_to _ _) (oV_eq (v := .pointer (some ⟨jn, 0, none⟩)) rfl (oV_eq (v := .pointer (some ⟨jn, 1, none⟩)) rfl (oV_eq hnl (oV_eq (vInt_lss _ _ _) (condK_dec (fun hlt => absurd hlt (by omega)) (fun _ => ?_)))))))
    have : j = n := by omega
    subst this
    exact hk R F Fi H h
  | succ d ih =>
    intro j R F Fi H hd hj hlv h
    apply L58_8_round
    unfold m58_9
    have hnl := h.net.n
    rw [← hn] at hnl
    refine oV_eq (v := ptrTo jn) rfl (oV_eq (vField_to _ _) (oV_eq (v := .pointer (some ⟨jn, 0, none⟩)) rfl (oV_eq (v := .pointer (some ⟨jn, 1, none⟩)) rfl (oV_eq hnl (oV_eq (vInt_lss _ _ _) (condK_dec (fun hlt => ?_) (fun hlt => absurd (by omega) hlt)))))))
    have hlv2 := castRow_len rd said i vs0 j
    have hfw := hB.castRow rd said i j
    refine oRC_ret (hear_spec (who := j) (fr := i) h.net (by omega) (by have := hfw j; omega) hlv (by omega)) fun v H4 hv => ?_
    obtain ⟨R4, F4, q1, q2, q3, q4, q5⟩ := hv
    refine oV_eq (vInt_add _ _ _) ?_
    rw [wrap_i64 (by omega) (by omega)]
    exact ih (j + 1) R4 F4 Fi H4 (by omega) (by omega) (hlv.mono q1) (h.noted q1 q2 q3 q4 q5)
theorem rcast_rows {B : Nat} {vs0 : List (List Ev)} (hn : (n : Int) = s.N) (hn13 : n ≤ 1000) (hsl : said.length = n) (hsw : ∀ i, (said.getD i []).length ≤ 1000000) (hvl : vs0.length = n) (hB : Few vs0 B) (hB2 : B + (n + 1) * n ≤ 1000000)
    {kn : Value → Value → Heap → Prop} {Q : Ending → Heap → Prop}
    (hk : ∀ av R F Fi H, CastSt R0 F0 H0 103 jn s cv dv tv tp rd av sv said R F Fi H (castV rd said n vs0 n) said → kn (ptrTo jn) av H) :
    ∀ (d i : Nat) (av : Value) (R : Heap) (F Fi : Nat → Prop) (H : Heap), n - i = d → i ≤ n → CastSt R0 F0 H0 103 jn s cv dv tv tp rd av sv said R F Fi H (castV rd said n vs0 i) (said.take i) →
      L58_3 (ptrTo jn) sv av (.int .i64 i) H kn Q := by
  intro d
  induction d with
  | zero =>
    intro i av R F Fi H hd hi h
    apply L58_3_round
    unfold m58_4
    have hnl := h.net.n
    rw [← hn] at hnl
    refine oV_eq (v := ptrTo jn) rfl (oV_eq (vField_to _ _) (oV_eq (v := .pointer (some ⟨jn, 0, none⟩)) rfl (oV_eq (v := .pointer (some ⟨jn, 1, none⟩)) rfl (oV_eq hnl (oV_eq (vInt_lss _ _ _) (condK_dec (fun hlt => absurd hlt (by omega)) (fun _ => ?_)))))))
    have : i = n := by omega
    subst this
    rw [List.take_of_length_le (by omega)] at h
    exact hk av R F Fi H h
  | succ d ih =>
    intro i av R F Fi H hd hi h
    apply L58_3_round
    unfold m58_4
    have hnl := h.net.n
    rw [← hn] at hnl
    refine oV_eq (v := ptrTo jn) rfl (oV_eq (vField_to _ _) (oV_eq (v := .pointer (some ⟨jn, 0, none⟩)) rfl (oV_eq (v := .pointer (some ⟨jn, 1, none⟩)) rfl (oV_eq hnl (oV_eq (vInt_lss _ _ _) (condK_dec (fun hlt => ?_) (fun hlt => absurd (by omega) hlt)))))))
    have hin : i < n := by omega
    unfold m58_6 m58_7
    refine copy_empty fun e0 K lK hK => ?_
    obtain ⟨p1, u1, a1, a2, a3⟩ := (h.sl.mono h.net.le).slice .i64 (i := (i : Int)) (by omega) (by omega) (ti := ty52) rfl
    rw [Int.toNat_natCast] at a3
    refine oV_eq a1 (oV_eq (vLoad_mono lK a2) (hK _ _ _ a3 (hsw i) fun w H1 hg => ?_))
    obtain ⟨N, hN, hNs⟩ := words_made hg
    have h1 := h.news hN
    have hws := hNs.mono (hun_right fun k hk => none_le h.net.le (hN.2.2 k hk))
    refine h1.rw.appB hws (by rw [List.length_take]; omega) h1.own fun av' H2 Fi' c1 c2 c3 c4 c5 => ?_
    have h2 := h1.moved c1 c3 c4 c5 c2
    have hmul : (i + 1) * n ≤ (n + 1) * n := Nat.mul_le_mul_right n (by omega)
    rw [Nat.succ_mul] at hmul
    refine rcast_row (rows := said.take i ++ [said.getD i []]) hn hn13 hin (hsw i) (by rw [castV_len]; exact hvl) (hB.cast rd said n i) (by omega) (fun R F Fi H h3 => ?_) _ 0 _ F Fi' H2 rfl (by omega) hws h2
    unfold m58_5
    refine oV_eq (vInt_add _ _ _) ?_
    rw [wrap_i64 (by omega) (by omega)]
    refine ih (i + 1) av' R F Fi H (by omega) (by omega) ?_
    have hil : i < said.length := by omega
    have eg : said.getD i [] = said[i] := by simp [hil]
    rw [List.take_succ_eq_append_getElem hil, ← eg]
    exact h3
theorem rcast_spec {B : Nat} (h : NetAt R F 103 H jn s cv dv tv tp rd views) (hV : ScnV s) (ho : Sl (eSlice (eInt .u64)) R ov out) (hm : Msgs s.P s.N out) (hvl : (views.length : Int) = s.N) (hB : Few views B) (hB2 : B ≤ 900000) (hr0 : 0 ≤ rd) (hr1 : rd ≤ 1000000) :
    RCalls Tryd.prog 58 [ptrTo jn, ov] H (Sent (eSlice (eInt .u64)) R F 103 H jn s cv dv tv tp (rd + 1) (castV rd (applyB s rd out s.devs.length) views.length views views.length) (applyB s rd out s.devs.length)) := by
  obtain ⟨hp, hn4, hn13, _⟩ := hV.par
  have hds : ∀ d ∈ s.devs, DevOk s.N d := fun d hd => (hV.devs d hd).2
  have hpp := hp.pos
  have hsm := applyB_msgs (rd := rd) (show 0 < s.P by omega) hm s.devs.length (Nat.le_refl _)
  have hsl := hsm.len
  apply call58
  unfold m58
  refine oV_eq (v := ptrTo jn) rfl (oV_eq (vField_to _ _) (oV_eq h.scn (oV_eq (v := ptrTo jn) rfl (oV_eq (vField_to _ _) (oV_eq h.r ?_)))))
  refine oRC_frame (rapplyB_spec hp h.ok ho hm hds (by omega)) h.le fun sv R1 H1 hq hl1 h3 h4 => ?_
  obtain ⟨hR, hsv⟩ := hq
  obtain ⟨h1, hle⟩ := h.framed hR hl1 h3 h4
  have hs := CastSt.init (n := 0) (av := .slice none 0 0) h h1 hle hR h4 hsv (Grown.nil H1 1 52)
  generalize applyB s rd out s.devs.length = said at hsm hsl hsv hs ⊢
  unfold m58_2
  have hmul : (views.length + 1) * views.length ≤ 14 * 13 := Nat.mul_le_mul (by omega) (by omega)
  refine rcast_rows hvl (by omega) (by omega) (fun i => by have := (hsm.get i).2; omega) rfl hB (by omega) (fun av R' F' Fi' H' hd => ?_) _ 0 _ R1 F _ H1 rfl (by omega) hs
  unfold m58_1
  obtain ⟨K, t1, t2⟩ := hd.done (rd + 1)
  refine oV_eq (v := ptrTo jn) rfl (oV_eq (vField_to _ _) (oV_eq hd.net.r (oV_eq (vInt_add _ _ _) ?_)))
  rw [wrap_i64 (by omega) (by omega)]
  exact oV_eq (v := ptrTo jn) rfl (oV_eq (vField_to _ _) (oHeap_eq t1 t2))
end
end Go.Proofs.YtchhpagkdaaglaaDoor.SL
