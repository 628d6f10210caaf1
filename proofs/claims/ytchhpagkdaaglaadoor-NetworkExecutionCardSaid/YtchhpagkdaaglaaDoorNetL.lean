/- The law's example holds. -/
import Derived.Test.YtchhpagkdaaglaaDoorNetK
set_option linter.unusedVariables false
set_option linter.unusedSimpArgs false
namespace Go.Proofs.YtchhpagkdaaglaaDoor.SL
open Go

theorem getA {n : Int} (h : n = 4) : (vInt .neq (.int .i64 n) (.int .i64 4)) = some (.bool false) := by subst h; rfl
theorem awake_spec {H : Heap} (hG : GL H) : RCalls Tryd.prog 10 [] H (Grow (.bool true) H) := by
  apply call10
  unfold m10
  refine oRC_ret (ex_spec H) fun v H1 hv => ?_
  obtain ⟨l1, tv, rfl, hok⟩ := hv
  refine oRC_ret (new_spec (hG.mono l1) hok (fun d hd => by cases hd)) fun v H2 hv => ?_
  rcases hv with ⟨_, jn, R, F, tp, rfl, lR, hn⟩ | ⟨hno, _, _⟩
  case inr => exact absurd exV hno
  refine oV_eq (v := ptrTo jn) rfl (oV_eq (v := .int .i64 0) rfl (oV_eq (v := scnVal ⟨0, 0, 0, [], [], []⟩ (.slice none 0 0) (.slice none 0 0) (.slice none 0 0)) rfl ?_))
  refine oRC_ret (new_spec (hG.mono (l1.trans (lR.trans hn.le))) (s := ⟨0, 0, 0, [], [], []⟩) ⟨Sl.nil _ _, Sl.nil _ _, Sl.nil _ _⟩ (fun d hd => by cases hd)) fun v H3 hv => ?_
  rcases hv with ⟨hno, _⟩ | ⟨_, rfl, l3⟩
  · exact absurd hno.par.2.1 (by decide)
  replace hn := hn.mono l3
  refine oV_eq (v := .pointer none) rfl (oV_eq (v := .int .i64 1) rfl (oV_eq (v := .bool false) rfl (oV_eq (v := .int .i64 1) rfl (oV_eq (v := .bool false) rfl (oV_eq (v := .bool false) rfl (condK_false ?_))))))
  -- the messages
  refine oRC_frame (none_spec R) hn.le fun mv K4 H4 hM lK4 k4 f4 => ?_
  obtain ⟨pt, u, i1, i2, i3, i4, _⟩ := hM.get (i := 1) (by decide)
  refine oV_eq i1 (oV_eq (vLoad_mono lK4 i2) ?_)
  refine lit1 7 fun w H5 N5 hN5 s5 => ?_
  have hN5' : New K4 (hun K4 N5) N5 := ⟨hun_left _ _, hN5.right lK4, fun i hi => none_le lK4 (hN5.2.2 i hi)⟩
  have hM5 := hM.news hN5'
  have lK5 := hN5.le lK4
  obtain ⟨pt', u', j1, j2, _, _, j5⟩ := hM5.get (i := 1) (by decide)
  have e1 : pt' = pt := by rw [i1] at j1; exact (Option.some.inj j1).symm
  subst e1
  have e2 : u' = u := by
    have := i4 hN5'
    rw [this] at j2
    exact (Option.some.inj j2).symm
  subst e2
  obtain ⟨pt2, K6, j6, j7, hM6⟩ := j5 (j := 2) (w := w) (r := [7]) (by decide) (s5.mono (hN5.right (hM.le.trans lK4)))
  refine oV_eq j6 ?_
  obtain ⟨H6, q1, lK6, q3, q4⟩ := vStore_le j7 lK5
  refine oHeap_eq q1 ?_
  have lR6 : Le R K6 := (hun_left R N5).trans hM6.le
  -- the network beside them
  have hn5 : ∀ b c, F b ∨ b = jn → H3 b = some c → H6 b = some c := fun b c hb hc => by
    have hbR : R b = none := by
      rcases hb with hb | rfl
      · exact hn.off b hb
      · exact hn.jR
    have h4b := k4 b c hc hbR
    have hK4 : K4 b = none := by
      cases he : K4 b with
      | none => rfl
      | some d =>
        rcases f4 b (by rw [he]; simp) with h | h
        · exact absurd hbR h
        · rw [hc] at h; cases h
    refine q3 b c (hN5.1 b c h4b) (hun_none.2 ⟨hK4, ?_⟩)
    cases he : N5 b with
    | none => rfl
    | some d => rw [hN5.2.2 b (by rw [he]; simp)] at h4b; cases h4b
  have off6 : ∀ b, F b ∨ b = jn → K6 b = none := fun b hb => by
    cases he : K6 b with
    | none => rfl
    | some d =>
      have h0 := q4 b (by rw [he]; simp)
      have hbR : R b = none := by
        rcases hb with hb | rfl
        · exact hn.off b hb
        · exact hn.jR
      have hbH : H3 b ≠ none := by
        rcases hb with hb | rfl
        · exact hn.kn b hb
        · obtain ⟨_, _, e, _⟩ := hn.body
          rw [e]; simp
      have hK4 : K4 b = none := by
        cases he : K4 b with
        | none => rfl
        | some d =>
          rcases f4 b (by rw [he]; simp) with h | h
          · exact absurd hbR h
          · exact absurd h hbH
      cases hc : H3 b with
      | none => exact absurd hc hbH
      | some c =>
        have h4b := k4 b c hc hbR
        refine absurd (hun_none.2 ⟨hK4, ?_⟩) h0
        cases he : N5 b with
        | none => rfl
        | some d => rw [hN5.2.2 b (by rw [he]; simp)] at h4b; cases h4b
  have hn6 : NetAt K6 F 98 H6 jn exS (.slice none 0 0) (.slice none 0 0) tv tp 0 (List.replicate exS.N.toNat []) := hn.keep lR6 lK6 hn5 (fun b hb => off6 b (.inl hb)) (off6 jn (.inr rfl))
  have lH6 : Le H K6 := (l1.trans lR).trans lR6
  have exM : MsgsM exS.P exS.N [[[], [], [], []], [[], [], [7], []], [[], [], [], []], [[], [], [], []]] := by
    have em : Msgs 31 4 [[], [], [], []] := ⟨rfl, fun r hr => by
      simp only [List.mem_cons, List.not_mem_nil, or_false, or_self] at hr
      subst hr
      exact ⟨fun x hx => (by cases hx), by decide⟩⟩
    refine ⟨rfl, fun m hm => ?_⟩
    simp only [List.mem_cons, List.not_mem_nil, or_false] at hm
    rcases hm with rfl | rfl | rfl | rfl
    · exact em
    · refine ⟨rfl, fun r hr => ?_⟩
      simp only [List.mem_cons, List.not_mem_nil, or_false] at hr
      rcases hr with rfl | rfl | rfl | rfl
      · exact ⟨fun x hx => (by cases hx), by decide⟩
      · exact ⟨fun x hx => (by cases hx), by decide⟩
      · refine ⟨fun x hx => ?_, by decide⟩
        rw [List.mem_singleton.1 hx]
        decide
      · exact ⟨fun x hx => (by cases hx), by decide⟩
    · exact em
    · exact em
  have few0 : Few (List.replicate exS.N.toNat []) 0 := fun k => by
    rw [List.getD_eq_getElem?_getD, List.getElem?_replicate]
    split <;> simp
  refine oRC_ret (send_spec hn6 exV hM6.sl exM rfl few0 (by decide) (by decide) (by decide)) fun gv H7 hv => ?_
  obtain ⟨R7, F7, l7, f7, hn7, s7, w7, o7⟩ := hv
  replace s7 : Sl (eSlice (eSlice (eInt .u64))) R7 gv [[[], [], [], []], [[], [], [], []], [[], [7], [], []], [[], [], [], []]] := s7
  replace hn7 : NetAt R7 F7 98 H7 jn exS (.slice none 0 0) (.slice none 0 0) tv tp 1 [[], [], [⟨0, 2, [7]⟩], []] := hn7
  -- the broadcast
  refine lit1 1 fun a1 H8 N8 hN8 s8 => ?_
  have hn8 := hn7.news hN8
  refine lit2 2 3 fun a2 H9 N9 hN9 s9 => ?_
  have hn9 := hn8.news hN9
  have r8 := hN8.right hn7.le
  have r9 := hN9.right hn8.le
  refine lit4r hn9.le ((s8.mono r8).mono (hun_left _ _)) (Sl.nil _ _) (Sl.nil _ _) (s9.mono r9) fun av H10 N10 hN10 s10 => ?_
  have hn10 := hn9.news hN10
  have few1 : Few [[], [], [⟨0, 2, [7]⟩], []] 1 := fun k => by
    match k with
    | 0 => decide
    | 1 => decide
    | 2 => decide
    | 3 => decide
    | k + 4 => exact Nat.zero_le _
  have exB : Msgs exS.P exS.N [[1], [], [], [2, 3]] := ⟨rfl, fun r hr => by
    simp only [List.mem_cons, List.not_mem_nil, or_false] at hr
    rcases hr with rfl | rfl | rfl | rfl
    · refine ⟨fun x hx => ?_, by decide⟩
      rw [List.mem_singleton.1 hx]
      decide
    · exact ⟨fun x hx => (by cases hx), by decide⟩
    · exact ⟨fun x hx => (by cases hx), by decide⟩
    · refine ⟨fun x hx => ?_, by decide⟩
      simp at hx
      rcases hx with rfl | rfl <;> decide⟩
  refine oRC_ret (cast_spec hn10 exV s10 exB rfl few1 (by decide) (by decide) (by decide)) fun bv H11 hv => ?_
  obtain ⟨R11, F11, l11, f11, hn11, s11, w11, o11⟩ := hv
  replace s11 : Sl (eSlice (eInt .u64)) R11 bv [[1], [], [], [2, 3]] := s11
  replace hn11 : NetAt R11 F11 98 H11 jn exS (.slice none 0 0) (.slice none 0 0) tv tp 2 [[⟨1, 4, [2, 3]⟩], [⟨1, 1, [1]⟩, ⟨1, 4, [2, 3]⟩], [⟨0, 2, [7]⟩, ⟨1, 1, [1]⟩, ⟨1, 4, [2, 3]⟩], [⟨1, 1, [1]⟩]] := hn11
  have lR11 : Le K6 R11 := ((l7.trans (hun_left _ _)).trans ((hun_left _ _).trans (hun_left _ _))).trans l11
  replace s7 := s7.mono (((hun_left R7 N8).trans ((hun_left _ N9).trans (hun_left _ N10))).trans l11)
  have lH11 := lH6.trans lR11
  obtain ⟨p2, u2, a21, a22, a23⟩ := (s7.mono hn11.le).row (i := 2) (by decide) (ti := ty27) rfl
  obtain ⟨p0, u0, a01, a02, a03⟩ := (s7.mono hn11.le).row (i := 0) (by decide) (ti := ty27) rfl
  replace a23 : Sl (eSlice (eInt .u64)) H11 u2 [[], [7], [], []] := a23
  replace a03 : Sl (eSlice (eInt .u64)) H11 u0 [[], [], [], []] := a03
  refine oV_eq (s7.mono hn11.le).len (oV_eq (v := .bool false) rfl (oV_eq (v := gv) rfl (oV_eq a21 (oV_eq a22 (oV_eq a23.len (oV_eq (v := .bool false) rfl (oV_eq (v := .bool false) rfl ?_)))))))
  refine oV_eq (v := gv) rfl (oV_eq a01 (oV_eq a02 (oV_eq a03.len (oV_eq (v := .bool false) rfl (oV_eq (v := .bool false) rfl ?_)))))
  refine oV_eq (v := bv) rfl (oV_eq (s11.mono hn11.le).len (oV_eq (v := .bool false) rfl (oV_eq (v := .bool false) rfl (condK_false ?_))))
  obtain ⟨p21, w21, b1, b2, b3⟩ := a23.row (i := 1) (by decide) (ti := ty52) rfl
  replace b3 : Sl (eInt .u64) H11 w21 [7] := b3
  refine oV_eq a21 (oV_eq a22 (oV_eq b1 (oV_eq b2 ?_)))
  refine lit1 7 fun c1 H12 N12 hN12 s12 => ?_
  have hn12 := hn11.news hN12
  have r12 := hN12.right hn11.le
  refine oRC_val (words_spec (b3.mono hN12.1) ((s12.mono r12).mono hn12.le)) ?_
  obtain ⟨p01, w01, d1, d2, d3⟩ := a03.row (i := 1) (by decide) (ti := ty52) rfl
  replace d3 : Sl (eInt .u64) H11 w01 [] := d3
  refine oV_eq (v := gv) rfl (oV_eq a01 (oV_eq (vLoad_mono hN12.1 a02) (oV_eq d1 (oV_eq (vLoad_mono hN12.1 d2) (oV_eq d3.len (oV_eq (v := .bool true) rfl (oV_eq (v := .bool true) rfl ?_)))))))
  obtain ⟨p3, w3, e1, e2, e3⟩ := (s11.mono hn11.le).row (i := 3) (by decide) (ti := ty52) rfl
  replace e3 : Sl (eInt .u64) H11 w3 [2, 3] := e3
  refine oV_eq (v := bv) rfl (oV_eq e1 (oV_eq (vLoad_mono hN12.1 e2) ?_))
  refine gK_TT (lit2 2 3 fun c2 H13 N13 hN13 s13 => ?_)
  have hn13 := hn12.news hN13
  have r13 := hN13.right hn12.le
  refine gK_TT (oRC_val (words_spec ((e3.mono hN12.1).mono hN13.1) ((s13.mono r13).mono hn13.le)) ?_)
  refine oV_eq (v := .bool true) rfl (oV_eq (v := ptrTo jn) rfl (gK_TT (oRC_val (rounds_spec hn13) ?_)))
  refine oV_eq (v := .bool true) rfl (oV_eq (v := .bool true) rfl (oV_eq (v := ptrTo jn) rfl ?_))
  refine gK_TT (oRC_ret (view_spec hn13 (i := 2) (by decide) (by decide)) fun vv H14 hv => ?_)
  obtain ⟨l14, hv14⟩ := hv
  replace hv14 : Sl eEv H14 vv [⟨0, 2, [7]⟩, ⟨1, 1, [1]⟩, ⟨1, 4, [2, 3]⟩] := hv14
  replace hn13 := hn13.mono l14
  refine gK_TT (lit1 7 fun g1 H15 N15 hN15 s15 => ?_)
  have hn15 := hn13.news hN15
  refine oV_eq (v := .agg #[.int .i64 0, .int .i64 2, g1]) (by obtain ⟨_, _, _, rfl, _⟩ := id s15; rfl) ?_
  refine gK_TT (lit1 1 fun g2 H16 N16 hN16 s16 => ?_)
  have hn16 := hn15.news hN16
  refine oV_eq (v := .agg #[.int .i64 1, .int .i64 1, g2]) (by obtain ⟨_, _, _, rfl, _⟩ := id s16; rfl) ?_
  refine gK_TT (lit2 2 3 fun g3 H17 N17 hN17 s17 => ?_)
  have hn17 := hn16.news hN17
  refine oV_eq (v := .agg #[.int .i64 1, .int .i64 4, g3]) (by obtain ⟨_, _, _, rfl, _⟩ := id s17; rfl) ?_
  refine gK_TT (lit_ev3 hn17.le (((s15.mono (hN15.right hn13.le)).mono (hun_left _ _)).mono (hun_left _ _)) ((s16.mono (hN16.right hn15.le)).mono (hun_left _ _)) (s17.mono (hN17.right hn16.le)) fun ev H18 N18 hN18 s18 => ?_)
  have hn18 := hn17.news hN18
  refine gK_TT (oRC_val (views_spec ((((hv14.mono hN15.1).mono hN16.1).mono hN17.1).mono hN18.1) (s18.mono hn18.le)) ?_)
  refine oV_eq (v := .bool true) rfl (oV_eq (v := ptrTo jn) rfl ?_)
  refine gK_TT (oRC_ret (view_spec hn18 (i := 0) (by decide) (by decide)) fun v1 H19 hv => ?_)
  obtain ⟨l19, hv19⟩ := hv
  replace hv19 : Sl eEv H19 v1 [⟨1, 4, [2, 3]⟩] := hv19
  replace hn18 := hn18.mono l19
  refine gK_TT (lit2 2 3 fun g4 H20 N20 hN20 s20 => ?_)
  have hn20 := hn18.news hN20
  refine oV_eq (v := .agg #[.int .i64 1, .int .i64 4, g4]) (by obtain ⟨_, _, _, rfl, _⟩ := id s20; rfl) ?_
  refine gK_TT (lit_ev1 hn20.le (s20.mono (hN20.right hn18.le)) fun e1v H21 N21 hN21 s21 => ?_)
  have hn21 := hn20.news hN21
  refine gK_TT (oRC_val (views_spec ((hv19.mono hN20.1).mono hN21.1) (s21.mono hn21.le)) ?_)
  refine oV_eq (v := .bool true) rfl ?_
  refine gK_TT (lit3 1 2 3 fun h1v H22 N22 hN22 s22 => ?_)
  have hn22 := hn21.news hN22
  refine gK_TT (oRC_ret (resize_spec ((s22.mono (hN22.right hn21.le)).mono hn22.le) (n := 2) (by decide)) fun z1 H23 hz => ?_)
  obtain ⟨N23, hN23, o23⟩ := hz.made1
  have hn23 := hn22.news hN23
  refine gK_TT (lit2 1 2 fun h2v H24 N24 hN24 s24 => ?_)
  have hn24 := hn23.news hN24
  have z1s : Sl (eInt .u64) H24 z1 [1, 2] := ((Own.sl_int (xs := [1, 2]) o23).mono (hN23.right hn22.le)).mono ((hun_left _ N24).trans hn24.le)
  refine gK_TT (oRC_val (words_spec z1s ((s24.mono (hN24.right hn23.le)).mono hn24.le)) ?_)
  refine oV_eq (v := .bool true) rfl ?_
  refine gK_TT (lit1 1 fun h3v H25 N25 hN25 s25 => ?_)
  have hn25 := hn24.news hN25
  refine gK_TT (oRC_ret (resize_spec ((s25.mono (hN25.right hn24.le)).mono hn25.le) (n := 3) (by decide)) fun z2 H26 hz => ?_)
  obtain ⟨N26, hN26, o26⟩ := hz.made1
  have hn26 := hn25.news hN26
  refine gK_TT (lit3 1 0 0 fun h4v H27 N27 hN27 s27 => ?_)
  have hn27 := hn26.news hN27
  have z2s : Sl (eInt .u64) H27 z2 [1, 0, 0] := ((Own.sl_int (xs := [1, 0, 0]) o26).mono (hN26.right hn25.le)).mono ((hun_left _ N27).trans hn27.le)
  refine gK_TT (oRC_val (words_spec z2s ((s27.mono (hN27.right hn26.le)).mono hn27.le)) ?_)
  refine oV_eq (v := .bool true) rfl ⟨rfl, ?_⟩
  refine lH11.trans (Le.trans ?_ hn27.le)
  exact ((((((((((hun_left _ N12).trans (hun_left _ N13)).trans (hun_left _ N15)).trans (hun_left _ N16)).trans (hun_left _ N17)).trans (hun_left _ N18)).trans (hun_left _ N20)).trans (hun_left _ N21)).trans (hun_left _ N22)).trans ((hun_left _ N23).trans (hun_left _ N24))).trans (((hun_left _ N25).trans (hun_left _ N26)).trans (hun_left _ N27))
end Go.Proofs.YtchhpagkdaaglaaDoor.SL
