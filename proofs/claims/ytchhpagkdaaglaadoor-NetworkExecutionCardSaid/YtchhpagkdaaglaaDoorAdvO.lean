/- ApplyToMessages of the reference. -/
import Derived.Test.YtchhpagkdaaglaaDoorAdvN
set_option linter.unusedVariables false
set_option linter.unusedSimpArgs false
namespace Go.Proofs.YtchhpagkdaaglaaDoor.SL
open Go

theorem oAppend_mono {te : TI} {e : TypeId} {s x : Value} {H : Heap} {k k' : Value → Heap → Prop} (h : oAppend te e s x H k) (hk : ∀ v H, k v H → k' v H) : oAppend te e s x H k' := by
  unfold oAppend at h ⊢
  split at h
  · obtain ⟨old, new, h1, h2, h3, h4, h5, h6, h7⟩ := h
    refine ⟨old, new, h1, h2, h3, h4, h5, fun hle => ?_, fun hlt i c hi hc hm => hk _ _ (h7 hlt i c hi hc hm)⟩
    have := h6 hle
    unfold oRoom at this ⊢
    split at this
    · rename_i hn
      rw [if_pos hn]
      exact hk _ _ this
    · rename_i hn
      rw [if_neg hn]
      revert this
      split
      · split
        · rintro ⟨a, b, c⟩
          exact ⟨a, b, hk _ _ c⟩
        · exact id
      · exact id
  · exact h.elim
theorem Mx.push {R H H1 : Heap} {v w : Value} {mat : List (List (List Int))} {m : List (List Int)} {k : Value → Heap → Prop} (h : Mx R H v mat) (hl : Le H H1) (hw : Rw R H1 w m) (hnew : ∀ b, blkOf w = some b → H b = none) (hb : mat.length ≤ 1000) (hk : ∀ v' H', Mx R H' v' (mat ++ [m]) → k v' H') :
    oBuildS ty27 27 1 [((0, 1), w)] H1 fun s H2 => oAppend ty27 27 v s H2 k := by
  obtain ⟨us, h1, h2, h3, h4⟩ := h
  have hg := h2.le hl
  have hwo : ∃ b n c, w = .slice b n c := by
    obtain ⟨ws, w1, w2, w3⟩ := hw
    obtain ⟨b, c, e, _⟩ := w2.2.1.read
    exact ⟨b, _, c, e⟩
  have hcells : w.cells.toList = [w] := by
    obtain ⟨b, n, c, rfl⟩ := hwo
    rfl
  refine append_own (te := ty27) hg.2.1 rfl (by obtain ⟨b, n, c, rfl⟩ := hwo; rfl) (fun c hc => by rw [hcells, List.mem_singleton] at hc; rw [hc]; exact hw.one) (by show 0 < 1; omega) (by show (mat.length + 1) * 24 ≤ _; omega) (by omega) fun s j cap hs hjs hj hc hc2 => hk _ _ ?_
  have hRj : R j = none := by
    rcases hj with hj | hj
    · exact hg.2.2 j hj
    · exact none_le hg.1 hj
  have hne : ∀ u q, Rw R H1 u q → blkOf u ≠ some j := fun u q hu e0 => by
    obtain ⟨_, _, _, h5⟩ := hu.blk e0
    rcases hj with hj | hj
    · obtain ⟨_, _, h6⟩ := hg.2.1.at_ hj
      rw [h5] at h6
      simp at h6
    · rw [hj] at h5
      cases h5
  have keep : ∀ u q, Rw R H1 u q → Rw R (hins (hins H1 s (.cells w.cells.toList (ty27).size 27 true)) j (.cells (us ++ w.cells.toList) (cap * (ty27).size) 27 true)) u q := fun u q hu => (hu.grow (Le.ins _ hs)).put_other hRj (hne u q hu) _
  have hul : us.length = mat.length := h1
  refine ⟨us ++ [w], by simp [h1], ⟨fun x c hx => ?_, .inr ⟨j, cap, by rw [List.length_append]; rfl, by rw [List.length_append]; exact hc, hc2, ?_, by simp [h1]⟩, fun x hx => by cases hx; exact hRj⟩, fun i u q hu hq => ?_, fun i i' u u' b hii hu hu' hb' => ?_⟩
  · rw [hins_other _ _ (fun e => by subst e; rw [hRj] at hx; cases hx)]
    exact hins_get hs (hg.1 x c hx)
  · rw [hins_self, hcells]
    rfl
  · by_cases c : i < us.length
    · rw [List.getElem?_append_left c] at hu
      rw [List.getElem?_append_left (by omega)] at hq
      exact keep u q ((h3 i u q hu hq).grow hl)
    · rw [List.getElem?_append_right (by omega)] at hu
      rw [List.getElem?_append_right (by omega)] at hq
      have e0 : i - us.length = 0 := by
        by_cases e0 : i - us.length = 0
        · exact e0
        · rw [List.getElem?_eq_none (by simp; omega)] at hu
          cases hu
      rw [e0] at hu
      rw [show i - mat.length = 0 by omega] at hq
      cases hu
      cases hq
      exact keep w m hw
  · have key : ∀ (z : Value) (x : Nat) (bb : Nat), us[x]? = some z → blkOf z = some bb → blkOf w ≠ some bb := fun z x bb hz hzb e0 => by
      have hx : x < us.length := (List.getElem?_eq_some_iff.1 hz).1
      obtain ⟨_, _, _, h5⟩ := (h3 x z (mat[x]'(by omega)) hz (List.getElem?_eq_getElem _)).blk hzb
      rw [hnew bb e0] at h5
      cases h5
    have last : ∀ (x : Nat) (z : Value), ¬ x < us.length → (us ++ [w])[x]? = some z → x = us.length ∧ z = w := fun x z hx hz => by
      rw [List.getElem?_append_right (by omega)] at hz
      by_cases e0 : x - us.length = 0
      · rw [e0] at hz
        cases hz
        exact ⟨by omega, rfl⟩
      · rw [List.getElem?_eq_none (by simp; omega)] at hz
        cases hz
    by_cases c : i < us.length
    · rw [List.getElem?_append_left c] at hu
      by_cases c' : i' < us.length
      · rw [List.getElem?_append_left c'] at hu'
        exact h4 i i' u u' b hii hu hu' hb'
      · obtain ⟨_, rfl⟩ := last i' u' c' hu'
        exact key u i b hu hb'
    · obtain ⟨e1, rfl⟩ := last i u c hu
      have c' : i' < us.length := by
        by_cases c' : i' < us.length
        · exact c'
        · obtain ⟨e2, _⟩ := last i' u' c' hu'
          omega
      rw [List.getElem?_append_left c'] at hu'
      exact fun e0 => key u' i' b hu' e0 hb'
section
variable {s : Scn} {cv dv tv ov v : Value} {rd : Int} {out mat : List (List (List Int))} {d : Dev} {i3 x : Nat}
def heardM (out : List (List (List Int))) (d : Dev) : List Int := if d.of_ < 1 then [] else saidM out d
theorem heard_spec {G H : Heap} (ho : Sl (eSlice (eSlice (eInt .u64))) G ov out) (hl : Le G H) (hm : MsgsM s.P s.N out) (hd : DevOk s.N d) (hN : s.N ≤ 1000) : RCalls Tryd.prog 119 [ov, d.val] H (Ret fun u H' => Le H H' ∧ Sl (eInt .u64) G u (heardM out d)) := by
  have ho2 := hd.of2
  have hf1 := hd.fr1
  have hf2 := hd.fr2
  have ho0 := hd.of0
  have hml := hm.len
  apply call119
  unfold m119
  refine dev_new d fun i1 H1 l1 hd1 => ?_
  refine oV_eq (vField_to _ _) (oV_eq hd1.l6 (oV_eq (vInt_lss _ _ _) (condK_dec (fun c => ?_) (fun c => ?_))))
  · rw [heardM, if_pos c]
    exact ⟨l1, Sl.nil _ _⟩
  · rw [heardM, if_neg c]
    have hmo := hm.get (j := (d.of_ - 1).toNat) (by omega)
    have hmol := hmo.len
    obtain ⟨po, uo, o1, o2, o3⟩ := ho.slice .i64 (i := d.of_ - 1) (by omega) (by omega) (ti := ty27) rfl
    obtain ⟨pi, ui, i1', i2', i3'⟩ := o3.slice .i64 (i := d.fr - 1) (by omega) (by omega) (ti := ty52) rfl
    refine oV_eq (vField_to _ _) (oV_eq hd1.l6 (oV_eq (vInt_sub _ _ _) ?_))
    rw [wrap_i64 (x := d.of_ - 1) (by omega) (by omega)]
    refine oV_eq o1 (oV_eq (vLoad_mono (hl.trans l1) o2) (oV_eq (vField_to _ _) (oV_eq hd1.l1 (oV_eq (vInt_sub _ _ _) ?_))))
    rw [wrap_i64 (x := d.fr - 1) (by omega) (by omega)]
    exact oV_eq i1' (oV_eq (vLoad_mono (hl.trans l1) i2') ⟨l1, i3'⟩)
theorem rhit_body {R0 R H : Heap} {f j : Nat} {k : Heap → Prop} (hp : Supp s.P) (hN : s.N ≤ 1000) (ho : Sl (eSlice (eSlice (eInt .u64))) R0 ov out) (hmo : MsgsM s.P s.N out) (h0 : Le R0 R) (hok : ScnOk R s cv dv tv) (hs : SAt R i3 s cv dv tv) (hdx : DAt R x d) (hd : DevOk s.N d) (hM : Mx R H v mat) (hm : MsgsM s.P s.N mat) (hf : d.fr - 1 = f) (hfl : f < mat.length) (hj : j < (mat.getD f []).length) (hj2 : j ≤ 1000)
    (hk : ∀ R' H', Le R R' → Mx R' H' v (mat.set f ((mat.getD f []).set j (told s.P s.bad d ((mat.getD f []).getD j []) (heardM out d)))) → k H') :
    oV (vField 1 (ptrTo x)) fun t73 => oV (vLoad ty3 t73 H) fun t74 => oV (vInt .sub t74 (.int .i64 1)) fun t75 => oV (vIdxS 1 v t75) fun t76 => oV (vLoad ty27 t76 H) fun t77 => oV (vInt .sub (.int .i64 ((j : Int) + 1)) (.int .i64 1)) fun t79 => oV (vLoad ty29 (ptrTo i3) H) fun t80 => oV (vLoad ty109 (ptrTo x) H) fun t81 =>
      oV (vField 1 (ptrTo x)) fun t83 => oV (vLoad ty3 t83 H) fun t84 => oV (vInt .sub t84 (.int .i64 1)) fun t85 => oV (vIdxS 1 v t85) fun t86 => oV (vLoad ty27 t86 H) fun t87 => oV (vInt .sub (.int .i64 ((j : Int) + 1)) (.int .i64 1)) fun t89 => oV (vIdxS 1 t87 t89) fun t90 => oV (vLoad ty52 t90 H) fun t91 => oV (vLoad ty109 (ptrTo x) H) fun t93 =>
      oRC Tryd.prog 119 [ov, t93] H noP fun v_36 H_37 => (vLoad ty52 t90 H_37 = some t91 ∧ (vLoad ty27 t86 H_37 = some t87 ∧ (vLoad ty3 t83 H_37 = some t84 ∧ (vLoad ty109 (ptrTo x) H_37 = some t81 ∧ (vLoad ty29 (ptrTo i3) H_37 = some t80 ∧ (vLoad ty27 t76 H_37 = some t77 ∧ (vLoad ty3 t73 H_37 = some t74 ∧
      oRC Tryd.prog 118 [t80, t81, t91, v_36] H_37 noP fun v_38 H_39 => (vLoad ty27 t76 H_39 = some t77 ∧ (vLoad ty3 t73 H_39 = some t74 ∧ oV (vIdxS 1 t77 t79) fun t96 => oHeap (vStore ty52 t96 v_38 H_39) fun H_41 => k H_41))))))))) := by
  have hpp := hp.pos
  have hle := hM.le
  have hf1 := hd.fr1
  have hf2 := hd.fr2
  have wf : IntKind.i64.wrap (d.fr - 1) = (f : Int) := by rw [wrap_i64 (by omega) (by omega), hf]
  have wj : IntKind.i64.wrap ((j : Int) + 1 - 1) = (j : Int) := by
    rw [wrap_i64 (by omega) (by omega)]
    omega
  obtain ⟨pt, u, a1, a2, a3, a4, _⟩ := hM.get hfl
  obtain ⟨pt2, w, b1, b2, b3⟩ := a3.get hj
  have hrow := (hm.get hfl).get j
  refine oV_eq (vField_to _ _) (oV_eq (hdx.mono hle).l1 (oV_eq (vInt_sub _ _ _) ?_))
  rw [wf]
  refine oV_eq a1 (oV_eq a2 (oV_eq (vInt_sub _ _ _) ?_))
  rw [wj]
  refine oV_eq (hs.mono hle).all (oV_eq (hdx.mono hle).all (oV_eq (vField_to _ _) (oV_eq (hdx.mono hle).l1 (oV_eq (vInt_sub _ _ _) ?_))))
  rw [wf]
  refine oV_eq a1 (oV_eq a2 (oV_eq (vInt_sub _ _ _) ?_))
  rw [wj]
  refine oV_eq b1 (oV_eq b2 (oV_eq (hdx.mono hle).all ?_))
  refine oRC_ret (heard_spec (s := s) ho (h0.trans hle) hmo hd hN) fun hv H2 hh => ?_
  obtain ⟨l2, hhv⟩ := hh
  have hle2 := hle.trans l2
  refine ⟨vLoad_mono l2 b2, vLoad_mono l2 a2, (hdx.mono hle2).l1, (hdx.mono hle2).all, (hs.mono hle2).all, vLoad_mono l2 a2, (hdx.mono hle2).l1, ?_⟩
  have hsr : rng s.P (heardM out d) := by
    unfold heardM
    split
    · intro z hz; cases hz
    · have := hmo.len
      have := hd.of2
      exact ((hmo.get (j := (d.of_ - 1).toNat) (by omega)).get _).1
  refine oRC_ret (told_spec hp (hok.bad.mono hle2) (b3.mono hle2) ((hhv.mono h0).mono hle2) hrow.1 hsr (by omega) hd) fun y H3 hy => ?_
  obtain ⟨N, hNw, hyN⟩ := hy
  have a2' := vLoad_mono hNw.1 (vLoad_mono l2 a2)
  refine ⟨a2', (hdx.mono (hle2.trans hNw.1)).l1, ?_⟩
  have hsw := hyN R hle2 b3
  obtain ⟨pt', u', c1, c2, _, _, c5⟩ := ((hM.grow l2).news hNw).get hfl
  rw [a1] at c1
  cases c1
  rw [a2'] at c2
  cases c2
  obtain ⟨pt3, H4, d1, d2, d3⟩ := c5 hj hsw
  exact oV_eq d1 (oHeap_eq d2 (hk _ H4 (hun_left _ _) d3))
theorem rinner_loop {R0 : Heap} {f N : Nat} {x9 : Value} (hp : Supp s.P) (hN : s.N ≤ 1000) (ho : Sl (eSlice (eSlice (eInt .u64))) R0 ov out) (hmo : MsgsM s.P s.N out) (hok : ScnOk R0 s cv dv tv) (hs : SAt R0 i3 s cv dv tv) (hdx : DAt R0 x d) (hd : DevOk s.N d) (hm : MsgsM s.P s.N mat) (hf : d.fr - 1 = f) (hfl : f < mat.length) (hNn : s.N = N)
    {kn kx3 : Value → Value → Value → Value → Value → Heap → Prop} {kx2 : Value → Heap → Prop} {Q : Ending → Heap → Prop}
    (hk : ∀ R H, Le R0 R → Mx R H v (mat.set f (rowTo s d (heardM out d) (mat.getD f []) N)) → kn (.int .i64 rd) ov (ptrTo i3) v x9 H) :
    ∀ (n j : Nat) (R H : Heap), N - j = n → j ≤ N → Le R0 R → Mx R H v (mat.set f (rowTo s d (heardM out d) (mat.getD f []) j)) →
      L95_9 (.int .i64 rd) ov (ptrTo i3) v x9 (ptrTo x) (.int .i64 ((j : Int) + 1)) H kn kx3 kx2 Q := by
  have hpp := hp.pos
  have hrow0 := hm.get hfl
  intro n
  induction n with
  | zero =>
    intro j R H hn hj h0 hM
    apply L95_9_round
    unfold m95_10
    have hle := h0.trans hM.le
    refine oV_eq (vField_to _ _) (oV_eq (v := .pointer (some ⟨i3, 1, none⟩)) rfl (oV_eq (hs.mono hle).n (oV_eq (vInt_leq _ _ _) (condK_dec (fun hlt => absurd hlt (by omega)) (fun _ => ?_)))))
    have : j = N := by omega
    subst this
    exact hk R H h0 hM
  | succ n ih =>
    intro j R H hn hj h0 hM
    apply L95_9_round
    unfold m95_10
    have hle := h0.trans hM.le
    refine oV_eq (vField_to _ _) (oV_eq (v := .pointer (some ⟨i3, 1, none⟩)) rfl (oV_eq (hs.mono hle).n (oV_eq (vInt_leq _ _ _) (condK_dec (fun hlt => ?_) (fun hlt => absurd (by omega) hlt)))))
    have w1 := wrap_i64 (show -9223372036854775808 ≤ (j : Int) + 1 + 1 by omega) (by omega)
    have next := fun R' H' => ih (j + 1) R' H' (by omega) (by omega)
    simp only [rowTo] at next
    have ej : (((j + 1 : Nat) : Int) + 1) = (j : Int) + 1 + 1 := by omega
    rw [ej] at next
    have hrowj := rowTo_msgs (d := d) (said := heardM out d) (show 0 < s.P by omega) hrow0 j
    have hg : (mat.set f (rowTo s d (heardM out d) (mat.getD f []) j)).getD f [] = rowTo s d (heardM out d) (mat.getD f []) j := by rw [getD_set _ _ _ _ _ hfl, if_pos rfl]
    have hlen := hrowj.len
    have miss : ¬ hits d j → oV (vInt .add (.int .i64 ((j : Int) + 1)) (.int .i64 1)) fun t104 => L95_9 (.int .i64 rd) ov (ptrTo i3) v x9 (ptrTo x) t104 H kn kx3 kx2 Q := fun hh => by
      refine oV_eq (vInt_add _ _ _) ?_
      rw [w1]
      simp only [if_neg hh] at next
      exact next R H h0 hM
    have hit := fun (hh : hits d j) => rhit_body (R0 := R0) (R := R) (H := H) (f := f) (j := j) (mat := mat.set f (rowTo s d (heardM out d) (mat.getD f []) j)) (k := fun H_35 => oV (vInt .add (.int .i64 ((j : Int) + 1)) (.int .i64 1)) fun t104 => L95_9 (.int .i64 rd) ov (ptrTo i3) v x9 (ptrTo x) t104 H_35 kn kx3 kx2 Q)
      hp hN ho hmo h0 (hok.mono h0) (hs.mono h0) (hdx.mono h0) hd hM ⟨by rw [List.length_set]; exact hm.len, fun m hmm => by
        rcases List.mem_or_eq_of_mem_set hmm with hmm | rfl
        · exact hm.rows m hmm
        · exact hrowj⟩ hf (by rw [List.length_set]; exact hfl) (by rw [hg]; omega) (by omega) (fun R' H' hl hM' => by
        refine oV_eq (vInt_add _ _ _) ?_
        rw [w1]
        simp only [if_pos hh] at next
        refine next R' H' (h0.trans hl) ?_
        rw [hg, List.set_set] at hM'
        exact hM')
    refine oV_eq (vField_to _ _) (oV_eq (hdx.mono hle).l1 (oV_eq (vInt_neq _ _ _) ?_))
    by_cases c1 : (j : Int) + 1 ≠ d.fr
    rotate_left
    · rw [decide_eq_false c1]
      exact condK_false (miss fun h => c1 h.1)
    rw [decide_eq_true c1]
    refine oV_eq (v := .pointer (some ⟨x, 2, none⟩)) rfl (oV_eq (v := .int .i64 d.to_) (hdx.mono hle).l2 (oV_eq (v := .bool (decide (d.to_ = 0))) (vInt_eql .i64 d.to_ 0) (oV_eq (v := .bool (decide (d.to_ = 0))) rfl ?_)))
    by_cases c2 : d.to_ = 0
    · rw [decide_eq_true c2]
      exact condK_true (hit ⟨c1, .inl c2⟩)
    rw [decide_eq_false c2]
    refine oV_eq (v := .pointer (some ⟨x, 2, none⟩)) rfl (oV_eq (v := .int .i64 d.to_) (hdx.mono hle).l2 (oV_eq (v := .int .i64 ((j : Int) + 1)) rfl (oV_eq (v := .bool (decide (d.to_ = (j : Int) + 1))) (vInt_eql .i64 d.to_ ((j : Int) + 1)) (oV_eq (v := .bool (decide (d.to_ = (j : Int) + 1))) rfl (oV_eq (v := .bool (decide (d.to_ = (j : Int) + 1))) rfl (condK_dec (fun c3 => hit ⟨c1, .inr c3⟩) (fun c3 => miss fun h => h.2.elim c2 c3)))))))
theorem copies_loop {R0 : Heap} (ho : Sl (eSlice (eSlice (eInt .u64))) R0 ov out) (hm : MsgsM s.P s.N out) (hN : s.N ≤ 1000) {x1 x3 : Value} {kn : Value → Value → Value → Value → Heap → Prop} {Q : Ending → Heap → Prop}
    (hk : ∀ v H, Mx R0 H v out → kn x1 ov x3 v H) :
    ∀ (n i : Nat) (v : Value) (H : Heap), out.length - i = n → i ≤ out.length → Mx R0 H v (out.take i) → L95_12 x1 ov x3 v (.int .i64 i) H kn Q := by
  have hlen := hm.len
  intro n
  induction n with
  | zero =>
    intro i v H hn hi hM
    apply L95_12_round
    unfold m95_13
    refine oV_eq ho.len (oV_eq (vInt_lss _ _ _) (condK_dec (fun hlt => absurd hlt (by omega)) (fun _ => ?_)))
    rw [List.take_of_length_le (by omega)] at hM
    exact hk v H hM
  | succ n ih =>
    intro i v H hn hi hM
    apply L95_12_round
    unfold m95_13
    refine oV_eq ho.len (oV_eq (vInt_lss _ _ _) (condK_dec (fun hlt => ?_) (fun hlt => absurd (by omega) hlt)))
    have hil : i < out.length := by omega
    obtain ⟨pt, u, a1, a2, a3⟩ := ho.slice .i64 (i := (i : Int)) (by omega) (by omega) (ti := ty27) rfl
    have e : out.getD (i : Int).toNat [] = out[i] := by
      rw [Int.toNat_natCast, List.getD_eq_getElem?_getD, List.getElem?_eq_getElem hil]
      rfl
    rw [e] at a3
    have hmi := (hm.rows _ (List.getElem_mem hil)).len
    obtain ⟨zb, zc, zus, rfl, zl, zm, zr, zul, zs⟩ := a3.slices
    have hcp := append_copy (te := ty52) (e := 52) (cap := zc) (H := H) (k := fun w H2 => Le H H2 ∧ Rw R0 H2 w out[i] ∧ ∀ b, blkOf w = some b → H b = none) (rdSlice_mono hM.le zr) (fun y hy => by
      obtain ⟨j, hj, rfl⟩ := List.mem_iff_getElem.1 hy
      exact (zs j zus[j] (out[i][j]'(by omega)) (List.getElem?_eq_getElem hj) (List.getElem?_eq_getElem _)).one) (by show 0 < 1; omega) (by show out[i].length * 24 ≤ _; omega) (by omega) (by rw [zul]; exact (Nat.mul_one _).symm) fun v' H' hg => ⟨hg.1, ⟨zus, zul, hg.less hM.le, zs⟩, hg.2.2⟩
    refine oBuildS_none fun q hq => ?_
    refine oV_eq a1 (oV_eq (vLoad_mono (hM.le.trans (Le.ins _ hq)) a2) ?_)
    have hcq := hcp q hq
    refine oAppend_mono hcq fun w H2 hw => ?_
    obtain ⟨hl2, hrw, hnew⟩ := hw
    refine hM.push hl2 hrw hnew (by rw [List.length_take]; omega) fun v' H3 hM3 => ?_
    refine oV_eq (vInt_add _ _ _) ?_
    rw [wrap_i64 (by omega) (by omega)]
    refine ih (i + 1) v' H3 (by omega) (by omega) ?_
    rw [List.take_succ_eq_append_getElem hil]
    exact hM3
theorem rapplyM_loop {R0 : Heap} (hp : Supp s.P) (hok : ScnOk R0 s cv dv tv) (hs : SAt R0 i3 s cv dv tv) (ho : Sl (eSlice (eSlice (eInt .u64))) R0 ov out) (hm : MsgsM s.P s.N out) (hds : ∀ d ∈ s.devs, DevOk s.N d) (hN : s.N ≤ 1000) {kn : Value → Heap → Prop} {Q : Ending → Heap → Prop}
    (hk : ∀ R H, Le R0 R → Mx R H v (applyM s rd out s.devs.length) → kn v H) :
    ∀ (n i : Nat) (R H : Heap), s.devs.length - i = n → i ≤ s.devs.length → Le R0 R → Mx R H v (applyM s rd out i) → L95_4 (.int .i64 rd) ov (ptrTo i3) v (.int .i64 i) H kn Q := by
  have hpp := hp.pos
  have hdm := hok.devs.max
  intro n
  induction n with
  | zero =>
    intro i R H hn hi h0 hM
    apply L95_4_round
    unfold m95_5
    refine oV_eq (vField_to _ _) (oV_eq (hs.mono (h0.trans hM.le)).ds (oV_eq hok.devs.len (oV_eq (vInt_lss _ _ _) (condK_dec (fun hlt => absurd hlt (by omega)) (fun _ => ?_)))))
    have : i = s.devs.length := by omega
    subst this
    exact hk R H h0 hM
  | succ n ih =>
    intro i R H hn hi h0 hM
    apply L95_4_round
    unfold m95_5
    have hsH := hs.mono (h0.trans hM.le)
    refine oV_eq (vField_to _ _) (oV_eq hsH.ds (oV_eq hok.devs.len (oV_eq (vInt_lss _ _ _) (condK_dec (fun hlt => ?_) (fun hlt => absurd (by omega) hlt)))))
    unfold m95_7 m95_8
    have hil : i < s.devs.length := by omega
    have hms := applyM_msgs (rd := rd) (show 0 < s.P by omega) hds hm i (by omega)
    have next := fun R' H' => ih (i + 1) R' H' (by omega) (by omega)
    rw [applyM_succ hil] at next
    have hdok := hds _ (List.getElem_mem hil)
    have w1 := wrap_i64 (show -9223372036854775808 ≤ (i : Int) + 1 by omega) (by omega)
    have go : ∀ (R' H' : Heap), Le R0 R' → Mx R' H' v (stepM s rd out (applyM s rd out i) s.devs[i]) → m95_6 (.int .i64 rd) ov (ptrTo i3) v (.int .i64 i) H' (fun y1 y2 y3 y7 y9 H => L95_4 y1 y2 y3 y7 y9 H kn Q) kn Q := fun R' H' hl hM' => by
      unfold m95_6
      refine oV_eq (vInt_add _ _ _) ?_
      rw [w1]
      exact next R' H' hl hM'
    obtain ⟨q, f1, f2⟩ := (hok.devs.mono (h0.trans hM.le)).dev hil
    refine oV_eq (vField_to _ _) (oV_eq hsH.ds (oV_eq f1 (oV_eq f2 ?_)))
    show oNew [.int .i64 0, .int .i64 0, .int .i64 0, .int .i64 0, .int .i64 0, .int .u64 0, .int .i64 0, .int .i64 0] 8 109 H _
    intro x hx
    generalize s.devs[i] = d at go next hdok f2 ⊢
    have e : vStore ty109 (ptrTo x) d.val (hins H x (.cells [.int .i64 0, .int .i64 0, .int .i64 0, .int .i64 0, .int .i64 0, .int .u64 0, .int .i64 0, .int .i64 0] 8 109 true)) = some (hins (hins H x (.cells [.int .i64 0, .int .i64 0, .int .i64 0, .int .i64 0, .int .i64 0, .int .u64 0, .int .i64 0, .int .i64 0] 8 109 true)) x (.cells d.cells 8 109 true)) := by
      simp only [vStore, ptrTo, hins_self]
      rfl
    rw [hins_hins] at e
    refine oHeap_eq e ?_
    have hNx : New H (hins H x (.cells d.cells 8 109 true)) (hone x (.cells d.cells 8 109 true)) := ⟨Le.ins _ hx, hone_le (hins_self _ _ _), fun k hk => by
      by_cases c : k = x
      · subst c; exact hx
      · simp [hone, c] at hk⟩
    have hRx : R x = none := none_le hM.le hx
    replace hM := hM.news hNx
    have hdx : DAt (hun R (hone x (.cells d.cells 8 109 true))) x d := ⟨by simp [hun, hRx, hone]⟩
    replace h0 := h0.trans (hun_left R (hone x (.cells d.cells 8 109 true)))
    generalize hun R (hone x (.cells d.cells 8 109 true)) = R1 at hM hdx h0
    generalize hins H x (.cells d.cells 8 109 true) = H1 at hM ⊢
    have hle := h0.trans hM.le
    refine oV_eq (vField_to _ _) (oV_eq (hdx.mono hM.le).l0 (oV_eq (vInt_neq _ _ _) ?_))
    by_cases c1 : d.rd ≠ rd
    · rw [decide_eq_true c1]
      refine gK_TF (condK_true ?_)
      simp only [stepM, if_neg (show ¬ (d.rd = rd ∧ d.fr ∈ s.bad) from fun h => c1 h.1)] at go
      exact go R1 H1 h0 hM
    rw [decide_eq_false c1]
    refine oV_eq (v := scnVal s cv dv tv) (hs.mono hle).all (oV_eq (v := .pointer (some ⟨x, 1, none⟩)) rfl (oV_eq (v := .int .i64 d.fr) (hdx.mono hM.le).l1 ?_))
    refine gK_FF (oRC_grow (bad_spec (hok.bad.mono hle)) fun H2 l2 => ?_)
    replace hM := hM.grow l2
    by_cases c2 : d.fr ∈ s.bad
    rotate_left
    · rw [decide_eq_false c2]
      refine oV_eq (v := .bool true) rfl (oV_eq (v := .bool true) rfl (condK_true ?_))
      simp only [stepM, if_neg (show ¬ (d.rd = rd ∧ d.fr ∈ s.bad) from fun h => c2 h.2)] at go
      exact go R1 H2 h0 hM
    rw [decide_eq_true c2]
    have c : d.rd = rd ∧ d.fr ∈ s.bad := ⟨by simpa using c1, c2⟩
    simp only [stepM, if_pos c] at go
    refine oV_eq (v := .bool false) rfl (oV_eq (v := .bool false) rfl (condK_false ?_))
    have hf1 := hdok.fr1
    have hf2 := hdok.fr2
    have hlen := hms.len
    have hml := hm.len
    obtain ⟨f, hf⟩ : ∃ f : Nat, d.fr - 1 = f := ⟨(d.fr - 1).toNat, by omega⟩
    obtain ⟨N, hNn⟩ : ∃ N : Nat, s.N = N := ⟨s.N.toNat, by omega⟩
    have hfl : f < (applyM s rd out i).length := by omega
    have hfn : (d.fr - 1).toNat = f := by omega
    rw [hfn, show s.N.toNat = N by omega] at go
    have he : rowTo s d (heardM out d) ((applyM s rd out i).getD f []) N = rowTo s d (saidM out d) ((applyM s rd out i).getD f []) N := by
      by_cases h1 : d.of_ < 1
      · exact rowTo_said (fun h3 => by have := hdok.of3 h3; omega) _ _ _
      · rw [heardM, if_neg h1]
    refine rinner_loop (R0 := R1) hp hN (ho.mono h0) hm (hok.mono h0) (hs.mono h0) hdx hdok hms hf hfl hNn (fun R' H' hl hM' => ?_) _ 0 R1 H2 rfl (by omega) (Le.refl _) ?_
    · rw [he] at hM'
      exact go R' H' (h0.trans hl) hM'
    · simp only [rowTo]
      rw [set_getD _ _ _ hfl]
      exact hM
theorem rapplyM_spec {H : Heap} (hp : Supp s.P) (hok : ScnOk H s cv dv tv) (ho : Sl (eSlice (eSlice (eInt .u64))) H ov out) (hm : MsgsM s.P s.N out) (hds : ∀ d ∈ s.devs, DevOk s.N d) (hN : s.N ≤ 1000) :
    RCalls Tryd.prog 95 [scnVal s cv dv tv, .int .i64 rd, ov] H (Ret fun v H' => Le H H' ∧ Sl (eSlice (eSlice (eInt .u64))) H' v (applyM s rd out s.devs.length)) := by
  have hml := hm.len
  apply call95
  unfold m95
  refine scn_new s cv dv tv fun i1 H1 l1 hs1 => ?_
  unfold m95_11
  refine copies_loop (R0 := H1) (s := s) (ho.mono l1) hm hN (fun v K hM => ?_) _ 0 _ H1 rfl (by omega) ⟨[], rfl, Grown.nil H1 1 27, fun j u m hu => by simp at hu, fun i j u w b _ hu => by simp at hu⟩
  unfold m95_1 m95_3
  refine rapplyM_loop (R0 := H1) hp (hok.mono l1) hs1 (ho.mono l1) hm hds hN (fun R' K' hR' hM' => ?_) _ 0 H1 K rfl (by omega) (Le.refl _) hM
  unfold m95_2
  exact ⟨(l1.trans hR').trans hM'.le, hM'.sl⟩
end
end Go.Proofs.YtchhpagkdaaglaaDoor.SL
