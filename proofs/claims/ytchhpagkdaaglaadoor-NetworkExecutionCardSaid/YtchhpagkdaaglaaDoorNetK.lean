/- The law's example. -/
import Derived.Test.YtchhpagkdaaglaaDoorNetJ
import Derived.Test.YtchhpagkdaaglaaDoorLit
set_option linter.unusedVariables false
set_option linter.unusedSimpArgs false
namespace Go.Proofs.YtchhpagkdaaglaaDoor.SL
open Go

theorem vStore_le {ti : TI} {p x : Value} {K K' H : Heap} (h : vStore ti p x K = some K') (hl : Le K H) : ∃ H', vStore ti p x H = some H' ∧ Le K' H' ∧ (∀ i c, H i = some c → K i = none → H' i = some c) ∧ ∀ i, K' i ≠ none → K i ≠ none := by
  unfold vStore at h
  split at h
  · rename_i i off
    cases hc : K i with
    | none => rw [hc] at h; cases h
    | some b =>
      rw [hc] at h
      cases b with
      | obj o => cases h
      | cells cs n e wr =>
        cases wr with
        | false => cases h
        | true =>
          simp only at h
          obtain ⟨cs', hcs, rfl⟩ := Option.map_eq_some_iff.1 h
          refine ⟨hins H i (.cells cs' n e true), ?_, fun j c hj => ?_, fun j c hj hn => ?_, fun j hj => ?_⟩
          · simp only [vStore, hl i _ hc, hcs]
            rfl
          · by_cases e : j = i
            · subst e; rw [hins_self] at hj ⊢; exact hj
            · rw [hins_other _ _ e] at hj ⊢; exact hl j c hj
          · rw [hins_other _ _ (fun e => by subst e; rw [hc] at hn; cases hn)]
            exact hj
          · by_cases e : j = i
            · subst e; rw [hc]; simp
            · rwa [hins_other _ _ e] at hj
  · cases h
theorem none_spec (H : Heap) : RCalls Tryd.prog 46 [] H (Ret fun v H' => Mx H H' v (List.replicate 4 (List.replicate 4 []))) := by
  apply call46
  unfold m46 m46_2
  suffices key : ∀ (d k : Nat) (v : Value) (K : Heap), 4 - k = d → k ≤ 4 → Mx H K v (List.replicate k (List.replicate 4 [])) → L46_3 v (.int .i64 k) K _ _ from key _ 0 _ H rfl (by omega) ⟨[], rfl, Grown.nil H 1 27, fun j u m hu => by simp at hu, fun i j u w b _ hu => by simp at hu⟩
  intro d
  induction d with
  | zero =>
    intro k v K hd hk hM
    apply L46_3_round
    unfold m46_4
    (repeat (first | refine oV_eq (vField_to _ _) ?_ | refine oV_eq (vField_ptr _ _ _) ?_ | refine oV_eq (vNil_to _) ?_ | refine oV_eq (vNil_ptr _) ?_ | refine oV_eq (vInt_eql _ _ _) ?_ | refine oV_eq (vInt_neq _ _ _) ?_ | refine oV_eq (vInt_lss _ _ _) ?_ | refine oV_eq (vInt_leq _ _ _) ?_ | refine oV_eq (vInt_gtr _ _ _) ?_ | refine oV_eq (vInt_geq _ _ _) ?_ | refine oV_eq (i64_add (by omega) (by omega)) ?_ | refine oV_eq (i64_sub (by omega) (by omega)) ?_ | refine oV_eq (vUn_not _) ?_ | refine oV_eq (vLen_slice _ _ _) ?_ | refine oV_eq (vConv_int _ _ _) ?_ | refine oV_eq (gV_F (vField_to _ _)) ?_ | refine oV_eq (gV_F (vField_ptr _ _ _)) ?_ | refine oV_eq (gV_F (vNil_to _)) ?_ | refine oV_eq (gV_F (vNil_ptr _)) ?_ | refine oV_eq (gV_F (vInt_eql _ _ _)) ?_ | refine oV_eq (gV_F (vInt_neq _ _ _)) ?_ | refine oV_eq (gV_F (vInt_lss _ _ _)) ?_ | refine oV_eq (gV_F (vInt_leq _ _ _)) ?_ | refine oV_eq (gV_F (vInt_gtr _ _ _)) ?_ | refine oV_eq (gV_F (vInt_geq _ _ _)) ?_ | refine oV_eq (gV_F (i64_add (by omega) (by omega))) ?_ | refine oV_eq (gV_F (i64_sub (by omega) (by omega))) ?_ | refine oV_eq (gV_F (vUn_not _)) ?_ | refine oV_eq (gV_F (vLen_slice _ _ _)) ?_ | refine oV_eq (gV_F (vConv_int _ _ _)) ?_ | refine oV_eq (gV_T (vField_to _ _)) ?_ | refine oV_eq (gV_T (vField_ptr _ _ _)) ?_ | refine oV_eq (gV_T (vNil_to _)) ?_ | refine oV_eq (gV_T (vNil_ptr _)) ?_ | refine oV_eq (gV_T (vInt_eql _ _ _)) ?_ | refine oV_eq (gV_T (vInt_neq _ _ _)) ?_ | refine oV_eq (gV_T (vInt_lss _ _ _)) ?_ | refine oV_eq (gV_T (vInt_leq _ _ _)) ?_ | refine oV_eq (gV_T (vInt_gtr _ _ _)) ?_ | refine oV_eq (gV_T (vInt_geq _ _ _)) ?_ | refine oV_eq (gV_T (i64_add (by omega) (by omega))) ?_ | refine oV_eq (gV_T (i64_sub (by omega) (by omega))) ?_ | refine oV_eq (gV_T (vUn_not _)) ?_ | refine oV_eq (gV_T (vLen_slice _ _ _)) ?_ | refine oV_eq (gV_T (vConv_int _ _ _)) ?_ | refine oV_eq (gV_skipF _) ?_ | refine oV_eq (gV_skipT _) ?_ | refine oV_eq (pick_T _ _) ?_ | refine oV_eq (pick_F _ _) ?_ | refine oV_eq (gV_F rfl) ?_ | refine oV_eq (gV_T rfl) ?_))
    refine condK_dec (fun hlt => absurd hlt (by omega)) (fun _ => ?_)
    have e : k = 4 := by omega
    subst e
    exact hM
  | succ d ih =>
    intro k v K hd hk hM
    apply L46_3_round
    unfold m46_4
    (repeat (first | refine oV_eq (vField_to _ _) ?_ | refine oV_eq (vField_ptr _ _ _) ?_ | refine oV_eq (vNil_to _) ?_ | refine oV_eq (vNil_ptr _) ?_ | refine oV_eq (vInt_eql _ _ _) ?_ | refine oV_eq (vInt_neq _ _ _) ?_ | refine oV_eq (vInt_lss _ _ _) ?_ | refine oV_eq (vInt_leq _ _ _) ?_ | refine oV_eq (vInt_gtr _ _ _) ?_ | refine oV_eq (vInt_geq _ _ _) ?_ | refine oV_eq (i64_add (by omega) (by omega)) ?_ | refine oV_eq (i64_sub (by omega) (by omega)) ?_ | refine oV_eq (vUn_not _) ?_ | refine oV_eq (vLen_slice _ _ _) ?_ | refine oV_eq (vConv_int _ _ _) ?_ | refine oV_eq (gV_F (vField_to _ _)) ?_ | refine oV_eq (gV_F (vField_ptr _ _ _)) ?_ | refine oV_eq (gV_F (vNil_to _)) ?_ | refine oV_eq (gV_F (vNil_ptr _)) ?_ | refine oV_eq (gV_F (vInt_eql _ _ _)) ?_ | refine oV_eq (gV_F (vInt_neq _ _ _)) ?_ | refine oV_eq (gV_F (vInt_lss _ _ _)) ?_ | refine oV_eq (gV_F (vInt_leq _ _ _)) ?_ | refine oV_eq (gV_F (vInt_gtr _ _ _)) ?_ | refine oV_eq (gV_F (vInt_geq _ _ _)) ?_ | refine oV_eq (gV_F (i64_add (by omega) (by omega))) ?_ | refine oV_eq (gV_F (i64_sub (by omega) (by omega))) ?_ | refine oV_eq (gV_F (vUn_not _)) ?_ | refine oV_eq (gV_F (vLen_slice _ _ _)) ?_ | refine oV_eq (gV_F (vConv_int _ _ _)) ?_ | refine oV_eq (gV_T (vField_to _ _)) ?_ | refine oV_eq (gV_T (vField_ptr _ _ _)) ?_ | refine oV_eq (gV_T (vNil_to _)) ?_ | refine oV_eq (gV_T (vNil_ptr _)) ?_ | refine oV_eq (gV_T (vInt_eql _ _ _)) ?_ | refine oV_eq (gV_T (vInt_neq _ _ _)) ?_ | refine oV_eq (gV_T (vInt_lss _ _ _)) ?_ | refine oV_eq (gV_T (vInt_leq _ _ _)) ?_ | refine oV_eq (gV_T (vInt_gtr _ _ _)) ?_ | refine oV_eq (gV_T (vInt_geq _ _ _)) ?_ | refine oV_eq (gV_T (i64_add (by omega) (by omega))) ?_ | refine oV_eq (gV_T (i64_sub (by omega) (by omega))) ?_ | refine oV_eq (gV_T (vUn_not _)) ?_ | refine oV_eq (gV_T (vLen_slice _ _ _)) ?_ | refine oV_eq (gV_T (vConv_int _ _ _)) ?_ | refine oV_eq (gV_skipF _) ?_ | refine oV_eq (gV_skipT _) ?_ | refine oV_eq (pick_T _ _) ?_ | refine oV_eq (pick_F _ _) ?_ | refine oV_eq (gV_F rfl) ?_ | refine oV_eq (gV_T rfl) ?_))
    refine condK_dec (fun hlt => ?_) (fun hlt => absurd (by omega) hlt)
    refine oMake_own (te := ty52) (n := 4) rfl (by decide) (by decide) fun w K2 hg => ?_
    rw [zerosL_one rfl] at hg
    refine hM.push (m := List.replicate 4 []) hg.1 ⟨List.replicate 4 (.slice none 0 0), by simp, hg.less hM.le, fun j u r hu hr => ?_⟩ hg.2.2 (by simp; omega) fun v' K3 hM3 => ?_
    · have hj : j < 4 := by simpa using (List.getElem?_eq_some_iff.1 hu).1
      rw [List.getElem?_replicate, if_pos hj] at hu hr
      cases hu
      cases hr
      exact Sl.nil _ _
    · (repeat (first | refine oV_eq (vField_to _ _) ?_ | refine oV_eq (vField_ptr _ _ _) ?_ | refine oV_eq (vNil_to _) ?_ | refine oV_eq (vNil_ptr _) ?_ | refine oV_eq (vInt_eql _ _ _) ?_ | refine oV_eq (vInt_neq _ _ _) ?_ | refine oV_eq (vInt_lss _ _ _) ?_ | refine oV_eq (vInt_leq _ _ _) ?_ | refine oV_eq (vInt_gtr _ _ _) ?_ | refine oV_eq (vInt_geq _ _ _) ?_ | refine oV_eq (i64_add (by omega) (by omega)) ?_ | refine oV_eq (i64_sub (by omega) (by omega)) ?_ | refine oV_eq (vUn_not _) ?_ | refine oV_eq (vLen_slice _ _ _) ?_ | refine oV_eq (vConv_int _ _ _) ?_ | refine oV_eq (gV_F (vField_to _ _)) ?_ | refine oV_eq (gV_F (vField_ptr _ _ _)) ?_ | refine oV_eq (gV_F (vNil_to _)) ?_ | refine oV_eq (gV_F (vNil_ptr _)) ?_ | refine oV_eq (gV_F (vInt_eql _ _ _)) ?_ | refine oV_eq (gV_F (vInt_neq _ _ _)) ?_ | refine oV_eq (gV_F (vInt_lss _ _ _)) ?_ | refine oV_eq (gV_F (vInt_leq _ _ _)) ?_ | refine oV_eq (gV_F (vInt_gtr _ _ _)) ?_ | refine oV_eq (gV_F (vInt_geq _ _ _)) ?_ | refine oV_eq (gV_F (i64_add (by omega) (by omega))) ?_ | refine oV_eq (gV_F (i64_sub (by omega) (by omega))) ?_ | refine oV_eq (gV_F (vUn_not _)) ?_ | refine oV_eq (gV_F (vLen_slice _ _ _)) ?_ | refine oV_eq (gV_F (vConv_int _ _ _)) ?_ | refine oV_eq (gV_T (vField_to _ _)) ?_ | refine oV_eq (gV_T (vField_ptr _ _ _)) ?_ | refine oV_eq (gV_T (vNil_to _)) ?_ | refine oV_eq (gV_T (vNil_ptr _)) ?_ | refine oV_eq (gV_T (vInt_eql _ _ _)) ?_ | refine oV_eq (gV_T (vInt_neq _ _ _)) ?_ | refine oV_eq (gV_T (vInt_lss _ _ _)) ?_ | refine oV_eq (gV_T (vInt_leq _ _ _)) ?_ | refine oV_eq (gV_T (vInt_gtr _ _ _)) ?_ | refine oV_eq (gV_T (vInt_geq _ _ _)) ?_ | refine oV_eq (gV_T (i64_add (by omega) (by omega))) ?_ | refine oV_eq (gV_T (i64_sub (by omega) (by omega))) ?_ | refine oV_eq (gV_T (vUn_not _)) ?_ | refine oV_eq (gV_T (vLen_slice _ _ _)) ?_ | refine oV_eq (gV_T (vConv_int _ _ _)) ?_ | refine oV_eq (gV_skipF _) ?_ | refine oV_eq (gV_skipT _) ?_ | refine oV_eq (pick_T _ _) ?_ | refine oV_eq (pick_F _ _) ?_ | refine oV_eq (gV_F rfl) ?_ | refine oV_eq (gV_T rfl) ?_))
      refine ih (k + 1) v' K3 (by omega) (by omega) ?_
      rw [List.replicate_succ']
      exact hM3
def exS : Scn := ⟨31, 4, 1, [], [], [[5, 6], [], [], []]⟩
theorem exV : ScnV exS := ⟨⟨.inl rfl, by decide, by decide, by decide, by decide, by decide, by decide⟩, ⟨by decide, fun j h => absurd h (by simp [exS])⟩, rfl, fun d hd => (by cases hd), fun l hl x hx => by
  simp only [exS, List.mem_cons, List.not_mem_nil, or_false] at hl
  rcases hl with rfl | rfl | rfl | rfl <;> simp at hx
  rcases hx with rfl | rfl <;> decide⟩
theorem ex_spec (H : Heap) : RCalls Tryd.prog 45 [] H (Ret fun v H' => Le H H' ∧ ∃ tv, v = scnVal exS (.slice none 0 0) (.slice none 0 0) tv ∧ ScnOk H' exS (.slice none 0 0) (.slice none 0 0) tv) := by
  apply call45
  unfold m45
  show oNew [.int .u64 0, .int .i64 0, .int .i64 0, .slice none 0 0, .slice none 0 0, .slice none 0 0] 6 29 H _
  intro i hi
  refine oV_eq (v := .agg #[.int .u64 31, .int .i64 4, .int .i64 1]) rfl ?_
  have hl0 : Le H _ := Le.ins (.cells [.int .u64 0, .int .i64 0, .int .i64 0, .slice none 0 0, .slice none 0 0, .slice none 0 0] 6 29 true) hi
  have k0 : hins H i (.cells [.int .u64 0, .int .i64 0, .int .i64 0, .slice none 0 0, .slice none 0 0, .slice none 0 0] 6 29 true) i = some (.cells [.int .u64 0, .int .i64 0, .int .i64 0, .slice none 0 0, .slice none 0 0, .slice none 0 0] 6 29 true) := hins_self _ _ _
  generalize hins H i (.cells [.int .u64 0, .int .i64 0, .int .i64 0, .slice none 0 0, .slice none 0 0, .slice none 0 0] 6 29 true) = H1 at hl0 k0
  refine lit2 5 6 fun u1 H2 N1 hN1 s1 => ?_
  have n1 := hN1.not hi (by rw [k0]; simp)
  refine lit4r (hN1.le hl0) (s1.mono (hN1.right hl0)) (Sl.nil _ _) (Sl.nil _ _) (Sl.nil _ _) fun tv H3 N2 hN2 s2 => ?_
  have k2 := hN1.1 _ _ k0
  have n2 := hN2.not n1 (by rw [k2]; simp)
  have k3 := hN2.1 _ _ k2
  have hl := (hN2.le (hN1.le hl0)).put (c := .cells [.int .u64 31, .int .i64 4, .int .i64 1, .slice none 0 0, .slice none 0 0, tv] 6 29 true) n2
  have lH : Le H (hins H3 i (.cells [.int .u64 31, .int .i64 4, .int .i64 1, .slice none 0 0, .slice none 0 0, tv] 6 29 true)) := Le.trans (Le.trans (hun_left _ N1) (hun_left _ N2)) hl
  obtain ⟨tb, tc, _, rfl, _⟩ := id s2
  refine oV_eq (v := scnVal exS (.slice none 0 0) (.slice none 0 0) (.slice tb 4 tc)) rfl ?_
  refine oHeap_eq (v := hins H3 i (.cells [.int .u64 31, .int .i64 4, .int .i64 1, .slice none 0 0, .slice none 0 0, .slice tb 4 tc] 6 29 true)) (by simp only [vStore, ptrTo, k3]; rfl) ?_
  rw [show vLoad ty29 (ptrTo i) (hins H3 i (.cells [.int .u64 31, .int .i64 4, .int .i64 1, .slice none 0 0, .slice none 0 0, .slice tb 4 tc] 6 29 true)) = some (scnVal exS (.slice none 0 0) (.slice none 0 0) (.slice tb 4 tc)) by simp only [vLoad, ptrTo, hins_self]; rfl]
  exact ⟨lH, .slice tb 4 tc, rfl, Sl.nil _ _, Sl.nil _ _, s2.mono hl⟩
/-- Events laid out. -/
theorem lit_cs {α : Type} {e : El α} {R H : Heap} {cs : List Value} {xs : List α} {t : TypeId} (h : Cs e R cs xs) (hx : xs.length ≤ 1000000) {i : Nat} (hl : Le R H) (hi : H i = none) : Sl e (hun R (hone i (.cells cs (xs.length * e.sz) t true))) (.slice (some ⟨i, 0, none⟩) xs.length xs.length) xs := by
  have hR := (New.one (c := .cells cs (xs.length * e.sz) t true) hi).right hl
  refine ⟨some ⟨i, 0, none⟩, xs.length, cs, rfl, Nat.le_refl _, by omega, rdSlice_mono hR (rdSlice_ins (H := fun _ => none) h.1), fun j x hj => e.mono (hun_left _ _) (h.2 j x hj)⟩
theorem ev_cs {R : Heap} {cs : List Value} {es : List Ev} {u : Value} {ev : Ev} (h : Cs eEv R cs es) (hu : Sl (eInt .u64) R u ev.ws) : Cs eEv R (cs ++ [.int .i64 ev.rd, .int .i64 ev.fr, u]) (es ++ [ev]) := h.snoc ⟨u, rfl, hu⟩
theorem lit_ev1 {R H : Heap} {k : Value → Heap → Prop} {u1 : Value} {a1 b1 : Int} {w1 : List Int} (hl : Le R H) (h1 : Sl (eInt .u64) R u1 w1) (hk : ∀ v H' N, New H H' N → Sl eEv (hun R N) v [⟨a1, b1, w1⟩] → k v H') : oBuildS ty90 90 1 [((0, 3), .agg #[.int .i64 a1, .int .i64 b1, u1])] H k := by
  have hc : Cs eEv R [.int .i64 a1, .int .i64 b1, u1] [⟨a1, b1, w1⟩] := ev_cs (ev := ⟨a1, b1, w1⟩) (Cs.nil _ _) h1
  show oNew [.int .i64 a1, .int .i64 b1, u1] 3 90 H _
  intro i hi
  exact hk _ _ _ (New.one hi) (lit_cs hc (by simp) hl hi)
theorem lit_ev3 {R H : Heap} {k : Value → Heap → Prop} {u1 u2 u3 : Value} {a1 b1 a2 b2 a3 b3 : Int} {w1 w2 w3 : List Int} (hl : Le R H) (h1 : Sl (eInt .u64) R u1 w1) (h2 : Sl (eInt .u64) R u2 w2) (h3 : Sl (eInt .u64) R u3 w3) (hk : ∀ v H' N, New H H' N → Sl eEv (hun R N) v [⟨a1, b1, w1⟩, ⟨a2, b2, w2⟩, ⟨a3, b3, w3⟩] → k v H') :
    oBuildS ty90 90 3 [((0, 3), .agg #[.int .i64 a1, .int .i64 b1, u1]), ((3, 3), .agg #[.int .i64 a2, .int .i64 b2, u2]), ((6, 3), .agg #[.int .i64 a3, .int .i64 b3, u3])] H k := by
  have hc : Cs eEv R [.int .i64 a1, .int .i64 b1, u1, .int .i64 a2, .int .i64 b2, u2, .int .i64 a3, .int .i64 b3, u3] [⟨a1, b1, w1⟩, ⟨a2, b2, w2⟩, ⟨a3, b3, w3⟩] := ev_cs (ev := ⟨a3, b3, w3⟩) (ev_cs (ev := ⟨a2, b2, w2⟩) (ev_cs (ev := ⟨a1, b1, w1⟩) (Cs.nil _ _) h1) h2) h3
  show oNew [.int .i64 a1, .int .i64 b1, u1, .int .i64 a2, .int .i64 b2, u2, .int .i64 a3, .int .i64 b3, u3] 9 90 H _
  intro i hi
  exact hk _ _ _ (New.one hi) (lit_cs hc (by simp) hl hi)
end Go.Proofs.YtchhpagkdaaglaaDoor.SL
