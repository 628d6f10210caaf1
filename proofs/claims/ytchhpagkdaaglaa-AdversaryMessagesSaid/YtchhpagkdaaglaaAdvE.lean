/- The law's example; AdversaryBroadcasts. -/
import Derived.Test.YtchhpagkdaaglaaAdvD
set_option linter.unusedVariables false
set_option linter.unusedSimpArgs false
namespace Go.Proofs.Ytchhpagkdaaglaa.SL
open Go

section
variable {H : Heap} {k : Value → Heap → Prop}
theorem lit_ints {k : IntKind} {H : Heap} {i : Nat} {t : TypeId} {n : Nat} (xs : List Int) (h : xs.length ≤ 1000000) : Sl (eInt k) (hins H i (.cells (xs.map (.int k)) n t true)) (.slice (some ⟨i, 0, none⟩) xs.length xs.length) xs := by
  refine ⟨some ⟨i, 0, none⟩, xs.length, xs.map (.int k), rfl, Nat.le_refl _, by omega, rdSlice_ins (by show _ = xs.length * 1; simp), fun j x hx => ?_⟩
  exact one_get _ j (.int k x) (by rw [List.getElem?_map, hx]; rfl)
theorem lit_rows {H : Heap} {i : Nat} {t : TypeId} {n : Nat} (xss : List (List Int)) (us : List Value) (hl : us.length = xss.length) (h : xss.length ≤ 1000000) (hi : H i = none) (hu : ∀ (j : Nat) (hj : j < xss.length), ∃ u, us[j]? = some u ∧ Sl (eInt .u64) H u xss[j]) :
    Sl (eSlice (eInt .u64)) (hins H i (.cells us n t true)) (.slice (some ⟨i, 0, none⟩) xss.length xss.length) xss := by
  refine ⟨some ⟨i, 0, none⟩, xss.length, us, rfl, Nat.le_refl _, by omega, rdSlice_ins (by show _ = xss.length * 1; omega), fun j x hx => ?_⟩
  obtain ⟨hj, rfl⟩ := List.getElem?_eq_some_iff.1 hx
  obtain ⟨u, h1, h2⟩ := hu j hj
  exact ⟨u, one_get _ j u h1, h2.mono (Le.ins _ hi)⟩
theorem build1 (a : Int) (hk : ∀ v H', Le H H' → Sl (eInt .u64) H' v [a] → k v H') : oBuildS ty22 22 1 [((0, 1), .int .u64 a)] H k := by
  show oNew (([a] : List Int).map (.int .u64)) 1 22 H _
  intro i hi
  exact hk _ _ (Le.ins _ hi) (lit_ints [a] (by simp))
theorem build2 (a b : Int) (hk : ∀ v H', Le H H' → Sl (eInt .u64) H' v [a, b] → k v H') : oBuildS ty22 22 2 [((0, 1), .int .u64 a), ((1, 1), .int .u64 b)] H k := by
  show oNew (([a, b] : List Int).map (.int .u64)) 2 22 H _
  intro i hi
  exact hk _ _ (Le.ins _ hi) (lit_ints [a, b] (by simp))
theorem build4 {u1 u2 u3 u4 : Value} {r1 r2 r3 r4 : List Int} (h1 : Sl (eInt .u64) H u1 r1) (h2 : Sl (eInt .u64) H u2 r2) (h3 : Sl (eInt .u64) H u3 r3) (h4 : Sl (eInt .u64) H u4 r4) (hk : ∀ v H', Le H H' → Sl (eSlice (eInt .u64)) H' v [r1, r2, r3, r4] → k v H') :
    oBuildS ty41 41 4 [((0, 1), u1), ((1, 1), u2), ((2, 1), u3), ((3, 1), u4)] H k := by
  obtain ⟨b1, c1, _, rfl, _⟩ := id h1
  obtain ⟨b2, c2, _, rfl, _⟩ := id h2
  obtain ⟨b3, c3, _, rfl, _⟩ := id h3
  obtain ⟨b4, c4, _, rfl, _⟩ := id h4
  show oNew [.slice b1 r1.length c1, .slice b2 r2.length c2, .slice b3 r3.length c3, .slice b4 r4.length c4] 4 41 H _
  intro i hi
  exact hk _ _ (Le.ins _ hi) (lit_rows [r1, r2, r3, r4] [.slice b1 r1.length c1, .slice b2 r2.length c2, .slice b3 r3.length c3, .slice b4 r4.length c4] rfl (by simp) hi (fun j hj => by
    match j, hj with
    | 0, _ => exact ⟨_, rfl, h1⟩
    | 1, _ => exact ⟨_, rfl, h2⟩
    | 2, _ => exact ⟨_, rfl, h3⟩
    | 3, _ => exact ⟨_, rfl, h4⟩))
theorem build_dev (d : Dev) (hk : ∀ v H', Le H H' → Sl eDev H' v [d] → k v H') : oBuildS ty44 44 1 [((0, 8), d.val)] H k := by
  show oNew d.cells 8 44 H _
  intro i hi
  refine hk _ _ (Le.ins _ hi) ⟨some ⟨i, 0, none⟩, 1, d.cells, rfl, Nat.le_refl _, by simp, rdSlice_ins rfl, fun j x hx => ?_⟩
  match j, hx with
  | 0, rfl => rfl
end
def fourS (ds : List Dev) : Scn := ⟨31, 4, 1, [2], ds, [[], [], [], []]⟩
theorem four_spec {H : Heap} {v : Value} {ds : List Dev} (hv : Sl eDev H v ds) : RCalls Try.prog 15 [v] H (Ret fun w H' => Le H H' ∧ ∃ cv tv, w = scnVal (fourS ds) cv v tv ∧ ScnOk H' (fourS ds) cv v tv) := by
  apply call15
  unfold m15
  show oNew [.int .u64 0, .int .i64 0, .int .i64 0, .slice none 0 0, .slice none 0 0, .slice none 0 0] 6 29 H _
  intro i hi
  refine oV_eq (v := .agg #[.int .u64 31, .int .i64 4, .int .i64 1]) rfl ?_
  show oNew (([2] : List Int).map (.int .i64)) 1 3 _ _
  intro j hj
  show oNew [.slice none 0 0, .slice none 0 0, .slice none 0 0, .slice none 0 0] 4 41 _ _
  intro q hq
  obtain ⟨hji, hjH⟩ := hins_none hj
  obtain ⟨hqj, hq2⟩ := hins_none hq
  obtain ⟨hqi, hqH⟩ := hins_none hq2
  obtain ⟨vb, vc, _, rfl, _⟩ := id hv
  refine oV_eq (v := scnVal (fourS ds) (.slice (some ⟨j, 0, none⟩) 1 1) (.slice vb ds.length vc) (.slice (some ⟨q, 0, none⟩) 4 4)) rfl ?_
  have hb3 : (hins (hins (hins H i (.cells [.int .u64 0, .int .i64 0, .int .i64 0, .slice none 0 0, .slice none 0 0, .slice none 0 0] 6 29 true)) j (.cells (([2] : List Int).map (.int .i64)) 1 3 true)) q (.cells [.slice none 0 0, .slice none 0 0, .slice none 0 0, .slice none 0 0] 4 41 true)) i = some (.cells [.int .u64 0, .int .i64 0, .int .i64 0, .slice none 0 0, .slice none 0 0, .slice none 0 0] 6 29 true) := by
    rw [hins_other _ _ (Ne.symm hqi), hins_other _ _ (Ne.symm hji), hins_self]
  have hlast : Le (hins (hins H j (.cells (([2] : List Int).map (.int .i64)) 1 3 true)) q (.cells [.slice none 0 0, .slice none 0 0, .slice none 0 0, .slice none 0 0] 4 41 true)) (hins (hins (hins (hins H i (.cells [.int .u64 0, .int .i64 0, .int .i64 0, .slice none 0 0, .slice none 0 0, .slice none 0 0] 6 29 true)) j (.cells (([2] : List Int).map (.int .i64)) 1 3 true)) q (.cells [.slice none 0 0, .slice none 0 0, .slice none 0 0, .slice none 0 0] 4 41 true)) i (.cells [.int .u64 31, .int .i64 4, .int .i64 1, .slice (some ⟨j, 0, none⟩) 1 1, .slice vb ds.length vc, .slice (some ⟨q, 0, none⟩) 4 4] 6 29 true)) := by
    intro x c hx
    have hxi : x ≠ i := by
      rintro rfl
      rw [hins_other _ _ (Ne.symm hqi), hins_other _ _ (Ne.symm hji), hi] at hx
      cases hx
    rw [hins_other _ _ hxi]
    by_cases e1 : x = q
    · subst e1
      rw [hins_self] at hx ⊢
      exact hx
    · rw [hins_other _ _ e1] at hx ⊢
      by_cases e2 : x = j
      · subst e2
        rw [hins_self] at hx ⊢
        exact hx
      · rw [hins_other _ _ e2] at hx ⊢
        rw [hins_other _ _ hxi]
        exact hx
  generalize hins (hins (hins H i (.cells [.int .u64 0, .int .i64 0, .int .i64 0, .slice none 0 0, .slice none 0 0, .slice none 0 0] 6 29 true)) j (.cells (([2] : List Int).map (.int .i64)) 1 3 true)) q (.cells [.slice none 0 0, .slice none 0 0, .slice none 0 0, .slice none 0 0] 4 41 true) = H3 at hb3 hlast ⊢
  have st : vStore ty29 (ptrTo i) (scnVal (fourS ds) (.slice (some ⟨j, 0, none⟩) 1 1) (.slice vb ds.length vc) (.slice (some ⟨q, 0, none⟩) 4 4)) H3 = some (hins H3 i (.cells [.int .u64 31, .int .i64 4, .int .i64 1, .slice (some ⟨j, 0, none⟩) 1 1, .slice vb ds.length vc, .slice (some ⟨q, 0, none⟩) 4 4] 6 29 true)) := by
    simp only [vStore, ptrTo, hb3]
    rfl
  refine oHeap_eq st ?_
  have ld : vLoad ty29 (ptrTo i) (hins H3 i (.cells [.int .u64 31, .int .i64 4, .int .i64 1, .slice (some ⟨j, 0, none⟩) 1 1, .slice vb ds.length vc, .slice (some ⟨q, 0, none⟩) 4 4] 6 29 true)) = some (scnVal (fourS ds) (.slice (some ⟨j, 0, none⟩) 1 1) (.slice vb ds.length vc) (.slice (some ⟨q, 0, none⟩) 4 4)) := by
    simp only [vLoad, ptrTo, hins_self]
    rfl
  rw [ld]
  have lj := Le.ins (.cells (([2] : List Int).map (.int .i64)) 1 3 true) hjH
  have hqj' : (hins H j (.cells (([2] : List Int).map (.int .i64)) 1 3 true)) q = none := by rw [hins_other _ _ hqj]; exact hqH
  have lq := Le.ins (.cells [.slice none 0 0, .slice none 0 0, .slice none 0 0, .slice none 0 0] 4 41 true) hqj'
  refine ⟨(lj.trans lq).trans hlast, _, _, rfl, ⟨?_, hv.mono ((lj.trans lq).trans hlast), ?_⟩⟩
  · exact ((lit_ints (k := .i64) (H := H) (i := j) (t := 3) (n := 1) [2] (by simp)).mono lq).mono hlast
  · refine Sl.mono hlast (lit_rows (t := 41) (n := 4) [[], [], [], []] [.slice none 0 0, .slice none 0 0, .slice none 0 0, .slice none 0 0] rfl (by simp) hqj' fun k hk => ?_)
    match k, hk with
    | 0, _ => exact ⟨_, rfl, Sl.nil _ _⟩
    | 1, _ => exact ⟨_, rfl, Sl.nil _ _⟩
    | 2, _ => exact ⟨_, rfl, Sl.nil _ _⟩
    | 3, _ => exact ⟨_, rfl, Sl.nil _ _⟩
def exOut : List (List Int) := [[7], [5, 6], [], [1]]
theorem exMsgs : Msgs 31 4 exOut := ⟨rfl, fun r hr => by
  simp only [exOut, List.mem_cons, List.not_mem_nil, or_false] at hr
  rcases hr with rfl | rfl | rfl | rfl <;> refine ⟨fun x hx => ?_, by simp⟩ <;> simp at hx <;> omega⟩
theorem one_apply {H : Heap} {d : Dev} {ov : Value} {want : List (List Int)} {pp pp2 : List PanicEntry → Heap → Prop} {k : Value → Heap → Prop} (ho : Sl (eSlice (eInt .u64)) H ov exOut) (hd : DevOk 4 d) (hw : applyB (fourS [d]) 0 exOut 1 = want) (hk : ∀ v H', Le H H' → Sl (eSlice (eInt .u64)) H' v want → k v H') :
    oBuildS ty44 44 1 [((0, 8), d.val)] H fun s_10 H_11 => oRC Try.prog 15 [s_10] H_11 pp fun v_12 H_13 => oRC Try.prog 8 [v_12, .int .i64 0, ov] H_13 pp2 k := by
  refine build_dev d fun dv H1 l1 hdv => ?_
  refine oRC_ret (four_spec hdv) fun w H2 hw2 => ?_
  obtain ⟨l2, cv, tv, rfl, hok⟩ := hw2
  refine oRC_ret (applyB_spec (s := fourS [d]) (rd := 0) (by exact .inl rfl) hok ((ho.mono l1).mono l2) exMsgs (fun x hx => by rw [List.mem_singleton.1 hx]; exact hd) (by show (4 : Int) ≤ 1000; omega)) fun v H3 hv => ?_
  obtain ⟨l3, hs⟩ := hv
  have : (fourS [d]).devs.length = 1 := rfl
  rw [this, hw] at hs
  exact hk v H3 ((l1.trans l2).trans l3) hs
theorem awake_spec (H : Heap) : RCalls Try.prog 6 [] H (Grow (.bool true) H) := by
  apply call6
  unfold m6
  refine build1 7 fun s1 H1 l1 hs1 => ?_
  refine build2 5 6 fun s3 H2 l2 hs3 => ?_
  refine build1 1 fun s5 H3 l3 hs5 => ?_
  refine build4 ((hs1.mono l2).mono l3) (hs3.mono l3) (Sl.nil _ _) hs5 fun ov H4 l4 ho => ?_
  replace ho : Sl (eSlice (eInt .u64)) H4 ov exOut := ho
  have l := ((l1.trans l2).trans l3).trans l4
  refine oV_eq (v := Dev.val ⟨0, 2, 0, 1, 2, 30, 1, 0⟩) rfl ?_
  refine one_apply (d := ⟨0, 2, 0, 1, 2, 30, 1, 0⟩) (want := [[7], [5, 5], [], [1]]) ho ⟨by decide, by decide, by decide, by decide, by decide, by decide, by decide, by decide, by decide, by decide, by decide, by decide, by decide⟩ (by decide +kernel) fun a H5 l5 ha => ?_
  refine oV_eq (v := Dev.val ⟨0, 2, 0, 0, 3, 2, 1, 0⟩) rfl ?_
  refine one_apply (d := ⟨0, 2, 0, 0, 3, 2, 1, 0⟩) (want := [[7], [19, 6], [], [1]]) (ho.mono l5) ⟨by decide, by decide, by decide, by decide, by decide, by decide, by decide, by decide, by decide, by decide, by decide, by decide, by decide⟩ (by decide +kernel) fun b H6 l6 hb => ?_
  refine oV_eq (v := Dev.val ⟨0, 3, 0, 0, 4, 0, 1, 0⟩) rfl ?_
  refine one_apply (d := ⟨0, 3, 0, 0, 4, 0, 1, 0⟩) (want := exOut) ((ho.mono l5).mono l6) ⟨by decide, by decide, by decide, by decide, by decide, by decide, by decide, by decide, by decide, by decide, by decide, by decide, by decide⟩ (by decide +kernel) fun c H7 l7 hc => ?_
  refine build1 7 fun t1 H8 l8 ht1 => ?_
  refine build2 5 5 fun t3 H9 l9 ht3 => ?_
  refine build1 1 fun t5 H10 l10 ht5 => ?_
  refine build4 ((ht1.mono l9).mono l10) (ht3.mono l10) (Sl.nil _ _) ht5 fun wv H11 l11 hw => ?_
  have l711 := ((l8.trans l9).trans l10).trans l11
  refine oRC_val (same_spec (ha.mono ((l6.trans l7).trans l711)) hw) ?_
  refine oV_eq (v := b) rfl ?_
  refine gK_TT (build1 7 fun t1 H12 l12 ht1 => ?_)
  refine gK_TT (build2 19 6 fun t3 H13 l13 ht3 => ?_)
  refine gK_TT (build1 1 fun t5 H14 l14 ht5 => ?_)
  refine gK_TT (build4 ((ht1.mono l13).mono l14) (ht3.mono l14) (Sl.nil _ _) ht5 fun wv H15 l15 hw => ?_)
  have l1115 := ((l12.trans l13).trans l14).trans l15
  refine gK_TT (oRC_val (same_spec (hb.mono ((l7.trans l711).trans l1115)) hw) ?_)
  refine oV_eq (v := .bool true) rfl (oV_eq (v := c) rfl (oV_eq (v := ov) rfl ?_))
  refine gK_TT (oRC_val (same_spec (hc.mono (l711.trans l1115)) (ho.mono ((((l5.trans l6).trans l7).trans l711).trans l1115))) ?_)
  exact oV_eq (v := .bool true) rfl ⟨rfl, ((((l.trans l5).trans l6).trans l7).trans l711).trans l1115⟩
/-! ### The law -/
theorem broadcasts_law {H : Heap} {z : Ask} {cv dv tv mv av : Value} (hok : AskOk H z cv dv tv mv av) (hwf : AskWf z) : RCalls Try.prog 3 [askVal z cv dv tv mv av] H (Ret fun v _ => v = .bool true) := by
  apply call3
  unfold m3
  refine ask_new z cv dv tv mv av fun i H1 l1 hs => ?_
  refine oV_eq hs.ask (oRC_ret (may_spec (hok.mono l1) hwf) fun r H2 hr => ?_)
  obtain ⟨l2, b, rfl, hb⟩ := hr
  cases b with
  | false => exact oV_eq rfl (condK_true (oRC_grow (awake_spec H2) fun H3 l3 => rfl))
  | true =>
    obtain ⟨⟨hp, hn4, hn13, hds⟩, ha, _, _⟩ := hb rfl
    refine oV_eq rfl (condK_false (oRC_grow (awake_spec H2) fun H3 l3 => ?_))
    replace hs := (hs.mono l2).mono l3
    replace hok := hok.mono ((l1.trans l2).trans l3)
    refine oV_eq (v := .pointer (some ⟨i, 0, none⟩)) rfl (oV_eq (v := scnVal z.s cv dv tv) hs.scn (oV_eq (v := .pointer (some ⟨i, 6, none⟩)) rfl (oV_eq (v := .int .i64 z.rd) hs.rd (oV_eq (v := .pointer (some ⟨i, 8, none⟩)) rfl (oV_eq (v := av) hs.a (oV_eq (v := .pointer (some ⟨i, 0, none⟩)) rfl (oV_eq (v := scnVal z.s cv dv tv) hs.scn (oV_eq (v := .pointer (some ⟨i, 6, none⟩)) rfl (oV_eq (v := .int .i64 z.rd) hs.rd (oV_eq (v := .pointer (some ⟨i, 8, none⟩)) rfl (oV_eq (v := av) hs.a ?_)))))))))))
    refine gK_TT (oRC_ret (applyB_spec hp hok.s hok.a ha hds (by omega)) fun v H4 hv => ?_)
    obtain ⟨l4, hv⟩ := hv
    replace hs := hs.mono l4
    replace hok := hok.mono l4
    refine ⟨hs.a, hs.rd, hs.scn, ?_⟩
    refine gK_TT (oRC_ret (rapplyB_spec hp hok.s hok.a ha hds (by omega)) fun w H5 hw => ?_)
    obtain ⟨l5, hw⟩ := hw
    refine gK_TT (oRC_val (same_spec (hv.mono l5) hw) ?_)
    exact oV_eq (v := .bool true) rfl rfl
end Go.Proofs.Ytchhpagkdaaglaa.SL
