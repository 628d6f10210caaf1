/- Part 26 of the proof of LawHd: VdR VdS, one behind the other. -/
import Derived.Test.YtchhpagkdaaglaaDoorHde
section
set_option linter.unusedVariables false
set_option linter.unusedSimpArgs false
namespace Go.Proofs.YtchhpagkdaaglaaDoor.SL
open Go

section
variable {R H G : Heap} {k : Value → Heap → Prop}
theorem sl_cs {α : Type} {e : El α} {cs : List Value} {xs : List (List α)} {u : Value} {r : List α} (h : Cs (eSlice e) R cs xs) (hu : Sl e R u r) : Cs (eSlice e) R (cs ++ [u]) (xs ++ [r]) := h.snoc ⟨u, rfl, hu⟩
theorem lit_m1 {u : Value} {r : List Int} (hl : Le R H) (h1 : Sl (eInt .u64) R u r) (hk : ∀ v H' N, New H H' N → Sl (eSlice (eInt .u64)) (hun R N) v [r] → k v H') : oBuildS ty52 52 1 [((0, 1), u)] H k := by
  have hc : Cs (eSlice (eInt .u64)) R [u] [r] := sl_cs (Cs.nil _ _) h1
  obtain ⟨b1, c1, _, rfl, _⟩ := id h1
  show oNew [.slice b1 r.length c1] 1 52 H _
  intro i hi
  exact hk _ _ _ (New.one hi) (lit_cs hc (by simp) hl hi)
theorem lit_q4 {u1 u2 u3 u4 : Value} {r1 r2 r3 r4 : List (List Int)} (hl : Le R H) (h1 : Sl (eSlice (eInt .u64)) R u1 r1) (h2 : Sl (eSlice (eInt .u64)) R u2 r2) (h3 : Sl (eSlice (eInt .u64)) R u3 r3) (h4 : Sl (eSlice (eInt .u64)) R u4 r4) (hk : ∀ v H' N, New H H' N → Sl (eSlice (eSlice (eInt .u64))) (hun R N) v [r1, r2, r3, r4] → k v H') :
    oBuildS ty27 27 4 [((0, 1), u1), ((1, 1), u2), ((2, 1), u3), ((3, 1), u4)] H k := by
  have hc : Cs (eSlice (eSlice (eInt .u64))) R [u1, u2, u3, u4] [r1, r2, r3, r4] := sl_cs (sl_cs (sl_cs (sl_cs (Cs.nil _ _) h1) h2) h3) h4
  obtain ⟨b1, c1, _, rfl, _⟩ := id h1
  obtain ⟨b2, c2, _, rfl, _⟩ := id h2
  obtain ⟨b3, c3, _, rfl, _⟩ := id h3
  obtain ⟨b4, c4, _, rfl, _⟩ := id h4
  show oNew [.slice b1 r1.length c1, .slice b2 r2.length c2, .slice b3 r3.length c3, .slice b4 r4.length c4] 4 27 H _
  intro i hi
  exact hk _ _ _ (New.one hi) (lit_cs hc (by simp) hl hi)
theorem lit4 (a b c d : Int) (hk : ∀ v H' N, New H H' N → Sl (eInt .u64) N v [a, b, c, d] → k v H') : oBuildS ty22 22 4 [((0, 1), .int .u64 a), ((1, 1), .int .u64 b), ((2, 1), .int .u64 c), ((3, 1), .int .u64 d)] H k := by
  show oNew (([a, b, c, d] : List Int).map (.int .u64)) 4 22 H _
  intro i hi
  exact hk _ _ _ (New.one hi) (hone_ints [a, b, c, d] (by simp))
theorem st_var {Sv Rv Fv : Value} {S T : List (List (List (List Int)))} {F : List (List (List Int))} {k : Nat → Heap → Prop} (hS : Sl (eSlice eMat) G Sv S) (hR : Sl (eSlice eMat) G Rv T) (hF : Sl (eSlice (eSlice (eInt .u64))) G Fv F) (hk : ∀ i H', Le H H' → StAt H' i Sv Rv Fv → k i H') :
    oNew (Value.cells ty71.zero).toList (Value.cells ty71.zero).toList.length 71 H fun i H1 => oHeap (vStore ty71 (ptrTo i) (.agg #[Sv, Rv, Fv]) H1) fun H2 => k i H2 := by
  obtain ⟨_, _, _, rfl, _⟩ := id hS
  obtain ⟨_, _, _, rfl, _⟩ := id hR
  obtain ⟨_, _, _, rfl, _⟩ := id hF
  show oNew [.slice none 0 0, .slice none 0 0, .slice none 0 0] 3 71 H _
  intro i hi
  refine oHeap_eq (v := hins (hins H i (.cells [.slice none 0 0, .slice none 0 0, .slice none 0 0] 3 71 true)) i _) (by simp only [vStore, ptrTo, hins_self]; rfl) ?_
  rw [hins_hins]
  exact hk i _ (Le.ins _ hi) ⟨hins_self _ _ _⟩
end
def zS : Scn := ⟨31, 4, 1, [], [], [[3], [], [], []]⟩
def zQ : List (List (List Int)) := [[[5, 2]], [], [], []]
theorem zV : ScnV zS := ⟨⟨.inl rfl, by decide, by decide, by decide, by decide, by decide, by decide⟩, ⟨by decide, fun j h => absurd h (by simp [zS])⟩, rfl, fun d hd => (by cases hd), fun l hl x hx => by
  simp only [zS, List.mem_cons, List.not_mem_nil, or_false] at hl
  rcases hl with rfl | rfl | rfl | rfl <;> simp at hx
  subst hx
  decide⟩
theorem zD : DealOk zS zQ := by
  have t4 : ∀ d : Nat, zS.tapes.getD d [] = [3] ∨ zS.tapes.getD d [] = [] := fun d => match d with
    | 0 => .inl rfl
    | 1 => .inr rfl
    | 2 => .inr rfl
    | 3 => .inr rfl
    | (d + 4) => .inr rfl
  refine ⟨zV, by decide, rfl, by decide, by unfold rng; decide, by decide, fun d => ?_, fun d => ?_⟩
  · rcases t4 d with h | h <;> rw [h]
    · unfold rng; decide
    · intro x hx; cases hx
  · rcases t4 d with h | h <;> rw [h] <;> decide
def zRows : List (List Int) := [[7, 5], [9, 8], [11, 11], [13, 14]]
theorem zR : ∀ k, k < 4 → ((dRows zS zQ).getD k []).getD 0 [] = [zRows.getD k []] := by decide +kernel
theorem zF : ∀ k, k < 4 → ((dFlags zS zQ).getD k []).getD 0 [] = [0, 0, 0, 0] := by decide +kernel
theorem awake18_loop {Sv Rv Fv rv : Value} {i : Nat} {H0 : Heap} {S T : List (List (List (List Int)))} {F : List (List (List Int))} (hsh : DShape 4 zQ S T F) (hR : Sl (eSlice eMat) H0 Rv T) (hF : Sl (eSlice (eSlice (eInt .u64))) H0 Fv F) (hst : StAt H0 i Sv Rv Fv) (hr : Sl (eSlice (eInt .u64)) H0 rv zRows)
    (eR : ∀ k, k < 4 → (T.getD k []).getD 0 [] = [zRows.getD k []]) (eF : ∀ k, k < 4 → (F.getD k []).getD 0 [] = [0, 0, 0, 0]) {kn : Heap → Prop} {Q : Ending → Heap → Prop} (hk : ∀ H, Le H0 H → kn H) :
    ∀ (d k : Nat) (H : Heap), 4 - k = d → k ≤ 4 → Le H0 H → L32_3 (ptrTo i) rv (.int .i64 k) H kn Q := by
  intro d
  induction d with
  | zero =>
    intro k H hd hk4 l
    apply L32_3_round
    unfold m32_4
    (repeat (first | refine oV_eq (gV_skipF _) ?_ | refine oV_eq (gV_skipT _) ?_ | refine oV_eq (pick_T _ _) ?_ | refine oV_eq (pick_F _ _) ?_ | refine oV_eq (by (try with_reducible refine gV_F ?_); (try with_reducible refine gV_T ?_); first | exact vField_to _ _ | exact vField_ptr _ _ _ | exact vNil_to _ | exact vNil_ptr _ | exact vInt_eql _ _ _ | exact vInt_neq _ _ _ | exact vInt_lss _ _ _ | exact vInt_leq _ _ _ | exact vInt_gtr _ _ _ | exact vInt_geq _ _ _ | exact i64_add (by omega) (by omega) | exact i64_sub (by omega) (by omega) | exact vUn_not _ | exact vLen_slice _ _ _ | exact vConv_int _ _ _) ?_ | refine oV_eq (gV_F rfl) ?_ | refine oV_eq (gV_T rfl) ?_))
    refine condK_dec (fun hlt => absurd hlt (by omega)) (fun _ => hk H l)
  | succ d ih =>
    intro k H hd hk4 l
    apply L32_3_round
    unfold m32_4
    (repeat (first | refine oV_eq (gV_skipF _) ?_ | refine oV_eq (gV_skipT _) ?_ | refine oV_eq (pick_T _ _) ?_ | refine oV_eq (pick_F _ _) ?_ | refine oV_eq (by (try with_reducible refine gV_F ?_); (try with_reducible refine gV_T ?_); first | exact vField_to _ _ | exact vField_ptr _ _ _ | exact vNil_to _ | exact vNil_ptr _ | exact vInt_eql _ _ _ | exact vInt_neq _ _ _ | exact vInt_lss _ _ _ | exact vInt_leq _ _ _ | exact vInt_gtr _ _ _ | exact vInt_geq _ _ _ | exact i64_add (by omega) (by omega) | exact i64_sub (by omega) (by omega) | exact vUn_not _ | exact vLen_slice _ _ _ | exact vConv_int _ _ _) ?_ | refine oV_eq (gV_F rfl) ?_ | refine oV_eq (gV_T rfl) ?_))
    refine condK_dec (fun hlt => ?_) (fun hlt => absurd (by omega) hlt)
    have hrl := hsh.rl
    have hfl := hsh.fl
    replace hR := hR.mono l
    replace hF := hF.mono l
    replace hst := hst.mono l
    replace hr := hr.mono l
    obtain ⟨p1, u1, a1, a2, a3⟩ := hR.row (i := k) (by omega) (ti := ty44) rfl
    have r1 := hsh.ri k (by omega)
    obtain ⟨p2, u2, b1, b2, b3⟩ := a3.row (i := 0) (by omega) (ti := ty27) rfl
    obtain ⟨p4, u4, d1, d2, d3⟩ := hF.row (i := k) (by omega) (ti := ty27) rfl
    have r3 := hsh.fi k (by omega)
    obtain ⟨p5, u5, e1, e2, e3⟩ := d3.row (i := 0) (by omega) (ti := ty52) rfl
    have x1 : T[k][0] = [zRows.getD k []] := by rw [← eR k (by omega), getD_lt (show k < T.length by omega), getD_lt (show 0 < T[k].length by omega)]
    have x2 : F[k][0] = [0, 0, 0, 0] := by rw [← eF k (by omega), getD_lt (show k < F.length by omega), getD_lt (show 0 < F[k].length by omega)]
    rw [x1] at b3
    rw [x2] at e3
    obtain ⟨w, f1, f2⟩ := hr.part (a := k) (b := k + 1) (k1 := .i64) (k2 := .i64) (by decide) (by omega) (by show k + 1 ≤ 4; omega)
    have x3 : (zRows.drop k).take (k + 1 - k) = [zRows.getD k []] := by
      have : ∀ k, k < 4 → (zRows.drop k).take (k + 1 - k) = [zRows.getD k []] := by decide
      exact this k (by omega)
    rw [x3] at f2
    (repeat (first | refine oV_eq (gV_skipF _) ?_ | refine oV_eq (gV_skipT _) ?_ | refine oV_eq (pick_T _ _) ?_ | refine oV_eq (pick_F _ _) ?_ | refine oV_eq (by (try with_reducible refine gV_F ?_); (try with_reducible refine gV_T ?_); first | exact hst.lR | exact a1 | exact a2 | exact a3.len | exact vInt_neq .i64 (T[k].length : Int) 4 | exact vField_to _ _ | exact vField_ptr _ _ _ | exact vNil_to _ | exact vNil_ptr _ | exact vInt_eql _ _ _ | exact vInt_neq _ _ _ | exact vInt_lss _ _ _ | exact vInt_leq _ _ _ | exact vInt_gtr _ _ _ | exact vInt_geq _ _ _ | exact i64_add (by omega) (by omega) | exact i64_sub (by omega) (by omega) | exact vUn_not _ | exact vLen_slice _ _ _ | exact vConv_int _ _ _) ?_ | refine oV_eq (gV_F rfl) ?_ | refine oV_eq (gV_T rfl) ?_))
    rw [decide_eq_false (fun h => h (by omega))]
    (repeat (first | refine oV_eq (gV_skipF _) ?_ | refine oV_eq (gV_skipT _) ?_ | refine oV_eq (pick_T _ _) ?_ | refine oV_eq (pick_F _ _) ?_ | refine oV_eq (by (try with_reducible refine gV_F ?_); (try with_reducible refine gV_T ?_); first | exact hst.lR | exact a1 | exact a2 | exact b1 | exact b2 | exact add_one (n := k) (by omega) | exact f1 | exact vField_to _ _ | exact vField_ptr _ _ _ | exact vNil_to _ | exact vNil_ptr _ | exact vInt_eql _ _ _ | exact vInt_neq _ _ _ | exact vInt_lss _ _ _ | exact vInt_leq _ _ _ | exact vInt_gtr _ _ _ | exact vInt_geq _ _ _ | exact i64_add (by omega) (by omega) | exact i64_sub (by omega) (by omega) | exact vUn_not _ | exact vLen_slice _ _ _ | exact vConv_int _ _ _) ?_ | refine oV_eq (gV_F rfl) ?_ | refine oV_eq (gV_T rfl) ?_))
    refine gK_FF (oRC_val (sameM_spec b3 f2) ?_)
    (repeat (first | refine oV_eq (gV_skipF _) ?_ | refine oV_eq (gV_skipT _) ?_ | refine oV_eq (pick_T _ _) ?_ | refine oV_eq (pick_F _ _) ?_ | refine oV_eq (by (try with_reducible refine gV_F ?_); (try with_reducible refine gV_T ?_); first | exact hst.lF | exact d1 | exact d2 | exact d3.len | exact vInt_neq .i64 (F[k].length : Int) 4 | exact vField_to _ _ | exact vField_ptr _ _ _ | exact vNil_to _ | exact vNil_ptr _ | exact vInt_eql _ _ _ | exact vInt_neq _ _ _ | exact vInt_lss _ _ _ | exact vInt_leq _ _ _ | exact vInt_gtr _ _ _ | exact vInt_geq _ _ _ | exact i64_add (by omega) (by omega) | exact i64_sub (by omega) (by omega) | exact vUn_not _ | exact vLen_slice _ _ _ | exact vConv_int _ _ _) ?_ | refine oV_eq (gV_F rfl) ?_ | refine oV_eq (gV_T rfl) ?_))
    rw [decide_eq_false (fun h => h (by omega))]
    (repeat (first | refine oV_eq (gV_skipF _) ?_ | refine oV_eq (gV_skipT _) ?_ | refine oV_eq (pick_T _ _) ?_ | refine oV_eq (pick_F _ _) ?_ | refine oV_eq (by (try with_reducible refine gV_F ?_); (try with_reducible refine gV_T ?_); first | exact hst.lF | exact d1 | exact d2 | exact e1 | exact e2 | exact vField_to _ _ | exact vField_ptr _ _ _ | exact vNil_to _ | exact vNil_ptr _ | exact vInt_eql _ _ _ | exact vInt_neq _ _ _ | exact vInt_lss _ _ _ | exact vInt_leq _ _ _ | exact vInt_gtr _ _ _ | exact vInt_geq _ _ _ | exact i64_add (by omega) (by omega) | exact i64_sub (by omega) (by omega) | exact vUn_not _ | exact vLen_slice _ _ _ | exact vConv_int _ _ _) ?_ | refine oV_eq (gV_F rfl) ?_ | refine oV_eq (gV_T rfl) ?_))
    refine gK_FF (lit4 0 0 0 0 fun v H2 N hN sv => ?_)
    refine gK_FF (oRC_val (sameList_spec (e3.mono hN.1) (sv.mono hN.2.1)) ?_)
    (repeat (first | refine oV_eq (gV_skipF _) ?_ | refine oV_eq (gV_skipT _) ?_ | refine oV_eq (pick_T _ _) ?_ | refine oV_eq (pick_F _ _) ?_ | refine oV_eq (by (try with_reducible refine gV_F ?_); (try with_reducible refine gV_T ?_); first | exact vField_to _ _ | exact vField_ptr _ _ _ | exact vNil_to _ | exact vNil_ptr _ | exact vInt_eql _ _ _ | exact vInt_neq _ _ _ | exact vInt_lss _ _ _ | exact vInt_leq _ _ _ | exact vInt_gtr _ _ _ | exact vInt_geq _ _ _ | exact i64_add (by omega) (by omega) | exact i64_sub (by omega) (by omega) | exact vUn_not _ | exact vLen_slice _ _ _ | exact vConv_int _ _ _) ?_ | refine oV_eq (gV_F rfl) ?_ | refine oV_eq (gV_T rfl) ?_))
    refine condK_false ?_
    (repeat (first | refine oV_eq (gV_skipF _) ?_ | refine oV_eq (gV_skipT _) ?_ | refine oV_eq (pick_T _ _) ?_ | refine oV_eq (pick_F _ _) ?_ | refine oV_eq (by (try with_reducible refine gV_F ?_); (try with_reducible refine gV_T ?_); first | exact add_one (n := k) (by omega) | exact vField_to _ _ | exact vField_ptr _ _ _ | exact vNil_to _ | exact vNil_ptr _ | exact vInt_eql _ _ _ | exact vInt_neq _ _ _ | exact vInt_lss _ _ _ | exact vInt_leq _ _ _ | exact vInt_gtr _ _ _ | exact vInt_geq _ _ _ | exact i64_add (by omega) (by omega) | exact i64_sub (by omega) (by omega) | exact vUn_not _ | exact vLen_slice _ _ _ | exact vConv_int _ _ _) ?_ | refine oV_eq (gV_F rfl) ?_ | refine oV_eq (gV_T rfl) ?_))
    exact ih (k + 1) H2 (by omega) (by omega) (l.trans hN.1)
theorem awake18_spec {H : Heap} (hG : GL H) : RCalls Tryd.prog 32 [] H (Grow (.bool true) H) := by
  apply call32
  unfold m32
  refine oV_eq (v := .agg #[.int .u64 31, .int .i64 4, .int .i64 1]) rfl ?_
  refine lit1 3 fun u1 H1 N1 hN1 s1 => ?_
  refine lit4r (hN1.le (Le.refl _)) (s1.mono (hN1.right (Le.refl _))) (Sl.nil _ _) (Sl.nil _ _) (Sl.nil _ _) fun tv H2 N2 hN2 s2 => ?_
  have l2 : Le H H2 := hN1.1.trans hN2.1
  replace s2 := s2.mono (hN2.le (hN1.le (Le.refl H)))
  obtain ⟨tb, tc, _, rfl, _⟩ := id s2
  refine oV_eq (v := scnVal zS (.slice none 0 0) (.slice none 0 0) (.slice tb 4 tc)) rfl ?_
  show oNew [.int .u64 0, .int .i64 0, .int .i64 0, .slice none 0 0, .slice none 0 0, .slice none 0 0] 6 29 H2 _
  intro i hi
  refine oHeap_eq (v := hins (hins H2 i (.cells [.int .u64 0, .int .i64 0, .int .i64 0, .slice none 0 0, .slice none 0 0, .slice none 0 0] 6 29 true)) i (.cells [.int .u64 31, .int .i64 4, .int .i64 1, .slice none 0 0, .slice none 0 0, .slice tb 4 tc] 6 29 true)) (by simp only [vStore, ptrTo, hins_self]; rfl) ?_
  rw [hins_hins]
  have l3 : Le H2 (hins H2 i (.cells [.int .u64 31, .int .i64 4, .int .i64 1, .slice none 0 0, .slice none 0 0, .slice tb 4 tc] 6 29 true)) := Le.ins _ hi
  refine oV_eq (v := scnVal zS (.slice none 0 0) (.slice none 0 0) (.slice tb 4 tc)) (by simp only [vLoad, ptrTo, hins_self]; rfl) ?_
  generalize hins H2 i (.cells [.int .u64 31, .int .i64 4, .int .i64 1, .slice none 0 0, .slice none 0 0, .slice tb 4 tc] 6 29 true) = H3 at l3
  have hok : ScnOk H3 zS (.slice none 0 0) (.slice none 0 0) (.slice tb 4 tc) := ⟨Sl.nil _ _, Sl.nil _ _, s2.mono l3⟩
  refine oRC_ret (new_tapes (hG.mono (l2.trans l3)) hok (fun d hd => by cases hd)) fun v H4 hv => ?_
  rcases hv with ⟨_, jn, R, tg, tp, qs, rfl, lR, lab, net, tap, few⟩ | ⟨hno, _, _⟩
  case inr => exact absurd zV hno
  refine oV_eq (v := ptrTo jn) rfl (oV_eq (v := .int .i64 0) rfl (oV_eq (v := .bool false) rfl (condK_false ?_)))
  refine lit2 5 2 fun u5 H5 N5 hN5 s5 => ?_
  have lab5 := lab.news hN5
  have net5 := net.stay (F := fun _ => True) (by decide) lab5 (hun_left _ _) (Stays.news hN5)
  have tap5 := tap.stay (hun_left R N5) (Stays.news (tg := tg) hN5)
  replace s5 := s5.mono (hN5.right lab.le)
  refine lit_m1 lab5.le s5 fun u6 H6 N6 hN6 s6 => ?_
  have lab6 := lab5.news hN6
  have net6 := net5.stay (F := fun _ => True) (by decide) lab6 (hun_left _ _) (Stays.news hN6)
  have tap6 := tap5.stay (hun_left _ N6) (Stays.news (tg := tg) hN6)
  refine lit_q4 lab6.le s6 (Sl.nil _ _) (Sl.nil _ _) (Sl.nil _ _) fun u7 H7 N7 hN7 s7 => ?_
  have lab7 := lab6.news hN7
  have net7 := net6.stay (F := fun _ => True) (by decide) lab7 (hun_left _ _) (Stays.news hN7)
  have tap7 := tap6.stay (hun_left _ N7) (Stays.news (tg := tg) hN7)
  refine oRC_ret (deal_spec zD lab7 net7 tap7 few s7) fun v H8 hv => ?_
  obtain ⟨R8, tg8, Sv, Rv, Fv, l8, rfl, hd8⟩ := hv
  have lH : Le H R8 := (((((l2.trans l3).trans lR).trans (hun_left _ _)).trans (hun_left _ _)).trans (hun_left _ _)).trans l8
  refine st_var hd8.mats hd8.rows hd8.flags fun i9 H9 l9 hst => ?_
  have hd9 := dealt_mono hd8 l9
  obtain ⟨F0, _, hn9⟩ := id hd9.net
  refine oRC_val (rounds_spec hn9) ?_
  have hsh := shape_ok zD
  have eR := zR
  have eF := zF
  have hS := hd9.mats.mono hd9.lab.le
  have hR := hd9.rows.mono hd9.lab.le
  have hF := hd9.flags.mono hd9.lab.le
  have lH9 := lH.trans hd9.lab.le
  replace hsh : DShape 4 zQ (matsA zS zQ) (dRows zS zQ) (dFlags zS zQ) := hsh
  generalize matsA zS zQ = S at hsh hS
  generalize dRows zS zQ = T at hsh hR eR
  generalize dFlags zS zQ = F at hsh hF eF
  have hsl := hsh.sl
  have hrl := hsh.rl
  have hfl := hsh.fl
  refine oV_eq (v := .bool false) rfl ?_
  (repeat (first | refine oV_eq (gV_skipF _) ?_ | refine oV_eq (gV_skipT _) ?_ | refine oV_eq (pick_T _ _) ?_ | refine oV_eq (pick_F _ _) ?_ | refine oV_eq (by (try with_reducible refine gV_F ?_); (try with_reducible refine gV_T ?_); first | exact hst.lR | exact hR.len | exact vInt_neq .i64 (T.length : Int) 4 | exact vField_to _ _ | exact vField_ptr _ _ _ | exact vNil_to _ | exact vNil_ptr _ | exact vInt_eql _ _ _ | exact vInt_neq _ _ _ | exact vInt_lss _ _ _ | exact vInt_leq _ _ _ | exact vInt_gtr _ _ _ | exact vInt_geq _ _ _ | exact i64_add (by omega) (by omega) | exact i64_sub (by omega) (by omega) | exact vUn_not _ | exact vLen_slice _ _ _ | exact vConv_int _ _ _) ?_ | refine oV_eq (gV_F rfl) ?_ | refine oV_eq (gV_T rfl) ?_))
  rw [decide_eq_false (fun h => h (by omega))]
  (repeat (first | refine oV_eq (gV_skipF _) ?_ | refine oV_eq (gV_skipT _) ?_ | refine oV_eq (pick_T _ _) ?_ | refine oV_eq (pick_F _ _) ?_ | refine oV_eq (by (try with_reducible refine gV_F ?_); (try with_reducible refine gV_T ?_); first | exact hst.lF | exact hF.len | exact vInt_neq .i64 (F.length : Int) 4 | exact vField_to _ _ | exact vField_ptr _ _ _ | exact vNil_to _ | exact vNil_ptr _ | exact vInt_eql _ _ _ | exact vInt_neq _ _ _ | exact vInt_lss _ _ _ | exact vInt_leq _ _ _ | exact vInt_gtr _ _ _ | exact vInt_geq _ _ _ | exact i64_add (by omega) (by omega) | exact i64_sub (by omega) (by omega) | exact vUn_not _ | exact vLen_slice _ _ _ | exact vConv_int _ _ _) ?_ | refine oV_eq (gV_F rfl) ?_ | refine oV_eq (gV_T rfl) ?_))
  rw [decide_eq_false (fun h => h (by omega))]
  (repeat (first | refine oV_eq (gV_skipF _) ?_ | refine oV_eq (gV_skipT _) ?_ | refine oV_eq (pick_T _ _) ?_ | refine oV_eq (pick_F _ _) ?_ | refine oV_eq (by (try with_reducible refine gV_F ?_); (try with_reducible refine gV_T ?_); first | exact hst.lS | exact hS.len | exact vInt_neq .i64 (S.length : Int) 4 | exact vField_to _ _ | exact vField_ptr _ _ _ | exact vNil_to _ | exact vNil_ptr _ | exact vInt_eql _ _ _ | exact vInt_neq _ _ _ | exact vInt_lss _ _ _ | exact vInt_leq _ _ _ | exact vInt_gtr _ _ _ | exact vInt_geq _ _ _ | exact i64_add (by omega) (by omega) | exact i64_sub (by omega) (by omega) | exact vUn_not _ | exact vLen_slice _ _ _ | exact vConv_int _ _ _) ?_ | refine oV_eq (gV_F rfl) ?_ | refine oV_eq (gV_T rfl) ?_))
  rw [decide_eq_false (fun h => h (by omega))]
  (repeat (first | refine oV_eq (gV_skipF _) ?_ | refine oV_eq (gV_skipT _) ?_ | refine oV_eq (pick_T _ _) ?_ | refine oV_eq (pick_F _ _) ?_ | refine oV_eq (by (try with_reducible refine gV_F ?_); (try with_reducible refine gV_T ?_); first | exact vField_to _ _ | exact vField_ptr _ _ _ | exact vNil_to _ | exact vNil_ptr _ | exact vInt_eql _ _ _ | exact vInt_neq _ _ _ | exact vInt_lss _ _ _ | exact vInt_leq _ _ _ | exact vInt_gtr _ _ _ | exact vInt_geq _ _ _ | exact i64_add (by omega) (by omega) | exact i64_sub (by omega) (by omega) | exact vUn_not _ | exact vLen_slice _ _ _ | exact vConv_int _ _ _) ?_ | refine oV_eq (gV_F rfl) ?_ | refine oV_eq (gV_T rfl) ?_))
  refine condK_false ?_
  refine lit2 7 5 fun v1 K1 M1 h1 t1 => ?_
  refine lit2 9 8 fun v2 K2 M2 h2 t2 => ?_
  refine lit2 11 11 fun v3 K3 M3 h3 t3 => ?_
  refine lit2 13 14 fun v4 K4 M4 h4 t4 => ?_
  replace t1 := t1.mono (((h1.2.1.trans h2.1).trans h3.1).trans h4.1)
  replace t2 := t2.mono ((h2.2.1.trans h3.1).trans h4.1)
  replace t3 := t3.mono (h3.2.1.trans h4.1)
  replace t4 := t4.mono h4.2.1
  have l4 := ((h1.1.trans h2.1).trans h3.1).trans h4.1
  refine lit4r (Le.refl _) t1 t2 t3 t4 fun rv K5 M5 h5 t5 => ?_
  replace t5 := t5.mono (h5.le (Le.refl _))
  have l5 := l4.trans h5.1
  unfold m32_2
  exact awake18_loop hsh (hR.mono l5) (hF.mono l5) (hst.mono l5) t5 eR eF (fun K lK => ⟨rfl, (lH9.trans l5).trans lK⟩) _ 0 K5 rfl (by omega) (Le.refl _)
end Go.Proofs.YtchhpagkdaaglaaDoor.SL
end

section
set_option linter.unusedVariables false
set_option linter.unusedSimpArgs false
namespace Go.Proofs.YtchhpagkdaaglaaDoor.SL
open Go

section
variable {s : Scn} {q : List (List (List Int))} {i j k c : Nat}
theorem mat_at (h : DealOk s q) (hk : k < s.n) (hc : c < (q.getD k []).length) : ∃ first rest, ((matsA s q).getD k []).getD c [] = newM first rest ∧ newOk first rest ∧ rng s.P first ∧ rng s.P rest := by
  obtain ⟨hn, hqn, _, _⟩ := h.n
  have hkq : k < q.length := by omega
  have hm := h.newOk hkq hc
  refine ⟨_, _, ?_, hm, ?_, ?_⟩
  · rw [matsA_at hkq, getD_lt (by rw [mats_len]; exact hc), mats_at hc]
  · rw [getD_lt hc]
    exact (h.qw k hkq _ (List.getElem_mem hc)).2
  · exact rng_take (rng_drop (h.tr k) _) _
theorem flag_self (h : DealOk s q) (hk : k < s.n) (hi : i < s.n) (h1 : (i : Int) + 1 ∉ s.bad) : (((dFlags s q).getD i []).getD k []).getD i 0 = 0 := by
  obtain ⟨hn, hqn, hn7, hn4⟩ := h.n
  rw [dFlags, flagsT_at hi, dAll, applyB_honest h.fr h1 _ (Nat.le_refl _), dSaid, getD_lt (l := flagsAll s.P s.n q (dRows s q) (dIn1 s q)) (by rw [flagsAll_len]; exact hi), flagsAll_at hi, rsz_same (flagsAcc_len _ _ _ _ _ _ _), getD_lt (l := chunks s.n s.n (flagsAcc s.P s.n q i ((dRows s q).getD i []) ((dIn1 s q).getD i []) s.n)) (by rw [chunks_len]; exact hk), chunks_at hk]
  have e1 : (((flagsAcc s.P s.n q i ((dRows s q).getD i []) ((dIn1 s q).getD i []) s.n).drop (k * s.n)).take s.n).getD i 0 = (flagsAcc s.P s.n q i ((dRows s q).getD i []) ((dIn1 s q).getD i []) s.n).getD (k * s.n + i) 0 := by
    rw [List.getD_eq_getElem?_getD, List.getElem?_take, if_pos hi, List.getElem?_drop, ← List.getD_eq_getElem?_getD]
  rw [e1, flagsAcc_get hqn hk hi s.n (Nat.le_refl _), if_neg (fun h => h.2.1 rfl)]
theorem map_getD {α β : Type} {f : α → β} {l : List α} {c : Nat} {d : α} {e : β} (h : c < l.length) : (l.map f).getD c e = f (l.getD c d) := by
  rw [getD_lt (by simpa using h), List.getElem_map, getD_lt h]
theorem flag_zero (h : DealOk s q) (hk : k < s.n) (hi : i < s.n) (hj : j < s.n) (h0 : (k : Int) + 1 ∉ s.bad) (h1 : (i : Int) + 1 ∉ s.bad) (h2 : (j : Int) + 1 ∉ s.bad) : (((dFlags s q).getD i []).getD k []).getD j 0 = 0 := by
  obtain ⟨hn, hqn, hn7, hn4⟩ := h.n
  have hp := h.pos
  by_cases hij : j = i
  · subst hij
    exact flag_self h hk hj h2
  rw [flag_honest h hk hi hj hij h1 h2, if_neg]
  rintro ⟨c, hc, hne⟩
  refine hne ?_
  have hl : ((matsA s q).getD k []).length = (q.getD k []).length := by rw [matsA_at (by omega), mats_len]
  rw [rows_honest h hk hj h0, rows_honest h hk hi h0, map_getD (d := []) (by omega), map_getD (d := []) (by omega)]
  obtain ⟨f, r, e, a, b, d⟩ := mat_at h hk hc
  rw [e]
  exact sym_rows (by omega) a b d _ _
theorem row_honest (h : DealOk s q) (hk : k < s.n) (hi : i < s.n) (hc : c < (q.getD k []).length) (h0 : (k : Int) + 1 ∉ s.bad) : (((dRows s q).getD i []).getD k []).getD c [] = rowL s.P ((i : Int) + 1) (((matsA s q).getD k []).getD c []) := by
  obtain ⟨hn, hqn, hn7, hn4⟩ := h.n
  have hl : ((matsA s q).getD k []).length = (q.getD k []).length := by rw [matsA_at (by omega), mats_len]
  rw [rows_honest h hk hi h0, map_getD (d := []) (by omega)]
theorem getD3 {α : Type} {l : List (List (List α))} {a b c : Nat} {d : α} (h1 : a < l.length) (h2 : b < l[a].length) (h3 : c < l[a][b].length) : l[a][b][c] = ((l.getD a []).getD b []).getD c d := by
  rw [getD_lt h1, getD_lt h2, getD_lt h3]
theorem getD2 {α : Type} {l : List (List α)} {a b : Nat} {d : α} (h1 : a < l.length) (h2 : b < l[a].length) : l[a][b] = (l.getD a []).getD b d := by
  rw [getD_lt h1, getD_lt h2]
end
structure LAt (H : Heap) (i1 i3 i6 : Nat) (s : Scn) (q : List (List (List Int))) (cv dv tv qv Sv Rv Fv : Value) : Prop where
  z : ZAt H i1 s cv dv tv qv
  st : StAt H i3 Sv Rv Fv
  sc : SAt H i6 s cv dv tv
  ok : DzOk H s q cv dv tv qv
  S : Sl (eSlice eMat) H Sv (matsA s q)
  R : Sl (eSlice eMat) H Rv (dRows s q)
  F : Sl (eSlice (eSlice (eInt .u64))) H Fv (dFlags s q)
def Yes : Ending → Heap → Prop := Ret fun v _ => v = .bool true
section
variable {H H0 G : Heap} {i1 i3 i6 : Nat} {s : Scn} {q : List (List (List Int))} {cv dv tv qv Sv Rv Fv : Value} {k i : Nat}
theorem LAt.mono (h : LAt H i1 i3 i6 s q cv dv tv qv Sv Rv Fv) (hl : Le H G) : LAt G i1 i3 i6 s q cv dv tv qv Sv Rv Fv := ⟨h.z.mono hl, h.st.mono hl, h.sc.mono hl, h.ok.mono hl, h.S.mono hl, h.R.mono hl, h.F.mono hl⟩
theorem scn_var {k : Nat → Heap → Prop} (hok : ScnOk G s cv dv tv) (hk : ∀ i H', Le H H' → SAt H' i s cv dv tv → k i H') :
    oNew (Value.cells ty29.zero).toList (Value.cells ty29.zero).toList.length 29 H fun i H1 => oHeap (vStore ty29 (ptrTo i) (scnVal s cv dv tv) H1) fun H2 => k i H2 := by
  obtain ⟨_, _, _, rfl, _⟩ := id hok.bad
  obtain ⟨_, _, _, rfl, _⟩ := id hok.devs
  obtain ⟨_, _, _, rfl, _⟩ := id hok.tapes
  show oNew [.int .u64 0, .int .i64 0, .int .i64 0, .slice none 0 0, .slice none 0 0, .slice none 0 0] 6 29 H _
  intro i hi
  refine oHeap_eq (v := hins (hins H i (.cells [.int .u64 0, .int .i64 0, .int .i64 0, .slice none 0 0, .slice none 0 0, .slice none 0 0] 6 29 true)) i _) (by simp only [vStore, ptrTo, hins_self]; rfl) ?_
  rw [hins_hins]
  exact hk i _ (Le.ins _ hi) ⟨hins_self _ _ _⟩
theorem hd_flags (hD : DealOk s q) (hA : LAt H0 i1 i3 i6 s q cv dv tv qv Sv Rv Fv) (hk : k < s.n) (hi : i < s.n) (h0 : (k : Int) + 1 ∉ s.bad) (h1 : (i : Int) + 1 ∉ s.bad) {kn : Value → Value → Value → Value → Value → Heap → Prop} {kx3 kx2 kx1 kx0} (hkn : ∀ H, Le H0 H → kn (ptrTo i1) (ptrTo i3) (ptrTo i6) (.int .i64 k) (.int .i64 i) H) :
    ∀ (d j : Nat) (H : Heap), s.n - j = d → j ≤ s.n → Le H0 H → L6_14 (ptrTo i1) (ptrTo i3) (ptrTo i6) (.int .i64 k) (.int .i64 i) (.int .i64 j) H kn kx3 kx2 kx1 kx0 Yes := by
  obtain ⟨hn, hqn, hn7, hn4⟩ := hD.n
  have hsh := shape_ok hD
  intro d
  induction d with
  | zero =>
    intro j H hd hj l
    apply L6_14_round
    unfold m6_15
    (repeat (first | refine oV_eq (gV_skipF _) ?_ | refine oV_eq (gV_skipT _) ?_ | refine oV_eq (pick_T _ _) ?_ | refine oV_eq (pick_F _ _) ?_ | refine oV_eq (by (try with_reducible refine gV_F ?_); (try with_reducible refine gV_T ?_); first | exact (hA.mono l).sc.n | exact vField_to _ _ | exact vField_ptr _ _ _ | exact vNil_to _ | exact vNil_ptr _ | exact vInt_eql _ _ _ | exact vInt_neq _ _ _ | exact vInt_lss _ _ _ | exact vInt_leq _ _ _ | exact vInt_gtr _ _ _ | exact vInt_geq _ _ _ | exact i64_add (by omega) (by omega) | exact i64_sub (by omega) (by omega) | exact vUn_not _ | exact vLen_slice _ _ _ | exact vConv_int _ _ _) ?_ | refine oV_eq (gV_F rfl) ?_ | refine oV_eq (gV_T rfl) ?_))
    refine condK_dec (fun hlt => absurd hlt (by omega)) (fun _ => hkn H l)
  | succ d ih =>
    intro j H hd hj l
    apply L6_14_round
    unfold m6_15
    (repeat (first | refine oV_eq (gV_skipF _) ?_ | refine oV_eq (gV_skipT _) ?_ | refine oV_eq (pick_T _ _) ?_ | refine oV_eq (pick_F _ _) ?_ | refine oV_eq (by (try with_reducible refine gV_F ?_); (try with_reducible refine gV_T ?_); first | exact (hA.mono l).sc.n | exact vField_to _ _ | exact vField_ptr _ _ _ | exact vNil_to _ | exact vNil_ptr _ | exact vInt_eql _ _ _ | exact vInt_neq _ _ _ | exact vInt_lss _ _ _ | exact vInt_leq _ _ _ | exact vInt_gtr _ _ _ | exact vInt_geq _ _ _ | exact i64_add (by omega) (by omega) | exact i64_sub (by omega) (by omega) | exact vUn_not _ | exact vLen_slice _ _ _ | exact vConv_int _ _ _) ?_ | refine oV_eq (gV_F rfl) ?_ | refine oV_eq (gV_T rfl) ?_))
    refine condK_dec (fun hlt => ?_) (fun hlt => absurd (by omega) hlt)
    (repeat (first | refine oV_eq (gV_skipF _) ?_ | refine oV_eq (gV_skipT _) ?_ | refine oV_eq (pick_T _ _) ?_ | refine oV_eq (pick_F _ _) ?_ | refine oV_eq (by (try with_reducible refine gV_F ?_); (try with_reducible refine gV_T ?_); first | exact (hA.mono l).sc.all | exact add_one (a := j) (by omega) | exact vField_to _ _ | exact vField_ptr _ _ _ | exact vNil_to _ | exact vNil_ptr _ | exact vInt_eql _ _ _ | exact vInt_neq _ _ _ | exact vInt_lss _ _ _ | exact vInt_leq _ _ _ | exact vInt_gtr _ _ _ | exact vInt_geq _ _ _ | exact i64_add (by omega) (by omega) | exact i64_sub (by omega) (by omega) | exact vUn_not _ | exact vLen_slice _ _ _ | exact vConv_int _ _ _) ?_ | refine oV_eq (gV_F rfl) ?_ | refine oV_eq (gV_T rfl) ?_))
    refine oRC_grow (honest_spec ((hA.mono l).ok.s.bad) ((j + 1 : Nat) : Int)) fun H2 l2 => ?_
    have lH := l.trans l2
    have hB := hA.mono lH
    have nxt : L6_14 (ptrTo i1) (ptrTo i3) (ptrTo i6) (.int .i64 k) (.int .i64 i) (.int .i64 (j + 1 : Nat)) H2 kn kx3 kx2 kx1 kx0 Yes := ih (j + 1) H2 (by omega) (by omega) lH
    by_cases hb : ((j + 1 : Nat) : Int) ∈ s.bad
    · rw [decide_eq_false (fun h => h hb)]
      (repeat (first | refine oV_eq (gV_skipF _) ?_ | refine oV_eq (gV_skipT _) ?_ | refine oV_eq (pick_T _ _) ?_ | refine oV_eq (pick_F _ _) ?_ | refine oV_eq (by (try with_reducible refine gV_F ?_); (try with_reducible refine gV_T ?_); first | exact vField_to _ _ | exact vField_ptr _ _ _ | exact vNil_to _ | exact vNil_ptr _ | exact vInt_eql _ _ _ | exact vInt_neq _ _ _ | exact vInt_lss _ _ _ | exact vInt_leq _ _ _ | exact vInt_gtr _ _ _ | exact vInt_geq _ _ _ | exact i64_add (by omega) (by omega) | exact i64_sub (by omega) (by omega) | exact vUn_not _ | exact vLen_slice _ _ _ | exact vConv_int _ _ _) ?_ | refine oV_eq (gV_F rfl) ?_ | refine oV_eq (gV_T rfl) ?_))
      refine condK_false ?_
      (repeat (first | refine oV_eq (gV_skipF _) ?_ | refine oV_eq (gV_skipT _) ?_ | refine oV_eq (pick_T _ _) ?_ | refine oV_eq (pick_F _ _) ?_ | refine oV_eq (by (try with_reducible refine gV_F ?_); (try with_reducible refine gV_T ?_); first | exact add_one (a := j) (by omega) | exact vField_to _ _ | exact vField_ptr _ _ _ | exact vNil_to _ | exact vNil_ptr _ | exact vInt_eql _ _ _ | exact vInt_neq _ _ _ | exact vInt_lss _ _ _ | exact vInt_leq _ _ _ | exact vInt_gtr _ _ _ | exact vInt_geq _ _ _ | exact i64_add (by omega) (by omega) | exact i64_sub (by omega) (by omega) | exact vUn_not _ | exact vLen_slice _ _ _ | exact vConv_int _ _ _) ?_ | refine oV_eq (gV_F rfl) ?_ | refine oV_eq (gV_T rfl) ?_))
      exact nxt
    · rw [decide_eq_true hb]
      have hfl := hsh.fl
      obtain ⟨p4, u4, d1, d2, d3⟩ := hB.F.row (i := i) (by omega) (ti := ty27) rfl
      have r3 := hsh.fi i (by omega)
      obtain ⟨p5, u5, e1, e2, e3⟩ := d3.row (i := k) (by omega) (ti := ty52) rfl
      have r4 := hsh.fij i k (by omega) (by omega)
      obtain ⟨p6, g1, g2⟩ := e3.word (i := j) (by omega) (ti := ty22) rfl
      have x : (dFlags s q)[i][k][j] = 0 := by
        rw [getD3 (d := 0) (by omega) (by omega) (by omega)]
        exact flag_zero hD hk hi (by omega) h0 h1 (by simpa using hb)
      rw [x] at g2
      (repeat (first | refine oV_eq (gV_skipF _) ?_ | refine oV_eq (gV_skipT _) ?_ | refine oV_eq (pick_T _ _) ?_ | refine oV_eq (pick_F _ _) ?_ | refine oV_eq (by (try with_reducible refine gV_F ?_); (try with_reducible refine gV_T ?_); first | exact hB.st.lF | exact d1 | exact d2 | exact e1 | exact e2 | exact g1 | exact g2 | exact vField_to _ _ | exact vField_ptr _ _ _ | exact vNil_to _ | exact vNil_ptr _ | exact vInt_eql _ _ _ | exact vInt_neq _ _ _ | exact vInt_lss _ _ _ | exact vInt_leq _ _ _ | exact vInt_gtr _ _ _ | exact vInt_geq _ _ _ | exact i64_add (by omega) (by omega) | exact i64_sub (by omega) (by omega) | exact vUn_not _ | exact vLen_slice _ _ _ | exact vConv_int _ _ _) ?_ | refine oV_eq (gV_F rfl) ?_ | refine oV_eq (gV_T rfl) ?_))
      refine condK_false ?_
      (repeat (first | refine oV_eq (gV_skipF _) ?_ | refine oV_eq (gV_skipT _) ?_ | refine oV_eq (pick_T _ _) ?_ | refine oV_eq (pick_F _ _) ?_ | refine oV_eq (by (try with_reducible refine gV_F ?_); (try with_reducible refine gV_T ?_); first | exact add_one (a := j) (by omega) | exact vField_to _ _ | exact vField_ptr _ _ _ | exact vNil_to _ | exact vNil_ptr _ | exact vInt_eql _ _ _ | exact vInt_neq _ _ _ | exact vInt_lss _ _ _ | exact vInt_leq _ _ _ | exact vInt_gtr _ _ _ | exact vInt_geq _ _ _ | exact i64_add (by omega) (by omega) | exact i64_sub (by omega) (by omega) | exact vUn_not _ | exact vLen_slice _ _ _ | exact vConv_int _ _ _) ?_ | refine oV_eq (gV_F rfl) ?_ | refine oV_eq (gV_T rfl) ?_))
      exact nxt
theorem hd_rows (hD : DealOk s q) (hA : LAt H0 i1 i3 i6 s q cv dv tv qv Sv Rv Fv) (hk : k < s.n) (hi : i < s.n) (h0 : (k : Int) + 1 ∉ s.bad) {kn : Value → Value → Value → Value → Value → Heap → Prop} {kx3 kx2 kx1 kx0} (hkn : ∀ H, Le H0 H → kn (ptrTo i1) (ptrTo i3) (ptrTo i6) (.int .i64 k) (.int .i64 i) H) :
    ∀ (d c : Nat) (H : Heap), (q.getD k []).length - c = d → c ≤ (q.getD k []).length → Le H0 H → L6_17 (ptrTo i1) (ptrTo i3) (ptrTo i6) (.int .i64 k) (.int .i64 i) (.int .i64 c) H kn kx3 kx2 kx1 kx0 Yes := by
  obtain ⟨hn, hqn, hn7, hn4⟩ := hD.n
  have hsh := shape_ok hD
  have hp := hD.pos
  have hq3 := hD.q3 k (by omega)
  have eq : q.getD k [] = q[k]'(by omega) := getD_lt (by omega)
  intro d
  induction d with
  | zero =>
    intro c H hd hc l
    have hB := hA.mono l
    obtain ⟨p3, u3, c1, c2, c3⟩ := hB.ok.q.row (i := k) (by omega) (ti := ty27) rfl
    rw [← eq] at c3
    apply L6_17_round
    unfold m6_18
    (repeat (first | refine oV_eq (gV_skipF _) ?_ | refine oV_eq (gV_skipT _) ?_ | refine oV_eq (pick_T _ _) ?_ | refine oV_eq (pick_F _ _) ?_ | refine oV_eq (by (try with_reducible refine gV_F ?_); (try with_reducible refine gV_T ?_); first | exact hB.z.qq | exact c1 | exact c2 | exact c3.len | exact vField_to _ _ | exact vField_ptr _ _ _ | exact vNil_to _ | exact vNil_ptr _ | exact vInt_eql _ _ _ | exact vInt_neq _ _ _ | exact vInt_lss _ _ _ | exact vInt_leq _ _ _ | exact vInt_gtr _ _ _ | exact vInt_geq _ _ _ | exact i64_add (by omega) (by omega) | exact i64_sub (by omega) (by omega) | exact vUn_not _ | exact vLen_slice _ _ _ | exact vConv_int _ _ _) ?_ | refine oV_eq (gV_F rfl) ?_ | refine oV_eq (gV_T rfl) ?_))
    refine condK_dec (fun hlt => absurd hlt (by omega)) (fun _ => hkn H l)
  | succ d ih =>
    intro c H hd hc l
    have hB := hA.mono l
    obtain ⟨p3, u3, c1, c2, c3⟩ := hB.ok.q.row (i := k) (by omega) (ti := ty27) rfl
    rw [← eq] at c3
    apply L6_17_round
    unfold m6_18
    (repeat (first | refine oV_eq (gV_skipF _) ?_ | refine oV_eq (gV_skipT _) ?_ | refine oV_eq (pick_T _ _) ?_ | refine oV_eq (pick_F _ _) ?_ | refine oV_eq (by (try with_reducible refine gV_F ?_); (try with_reducible refine gV_T ?_); first | exact hB.z.qq | exact c1 | exact c2 | exact c3.len | exact vField_to _ _ | exact vField_ptr _ _ _ | exact vNil_to _ | exact vNil_ptr _ | exact vInt_eql _ _ _ | exact vInt_neq _ _ _ | exact vInt_lss _ _ _ | exact vInt_leq _ _ _ | exact vInt_gtr _ _ _ | exact vInt_geq _ _ _ | exact i64_add (by omega) (by omega) | exact i64_sub (by omega) (by omega) | exact vUn_not _ | exact vLen_slice _ _ _ | exact vConv_int _ _ _) ?_ | refine oV_eq (gV_F rfl) ?_ | refine oV_eq (gV_T rfl) ?_))
    refine condK_dec (fun hlt => ?_) (fun hlt => absurd (by omega) hlt)
    have hrl := hsh.rl
    have hsl := hsh.sl
    have r0 := hsh.si k (by omega) (by omega)
    obtain ⟨p1, u1, a1, a2, a3⟩ := hB.R.row (i := i) (by omega) (ti := ty44) rfl
    have r1 := hsh.ri i (by omega)
    obtain ⟨p2, u2, b1, b2, b3⟩ := a3.row (i := k) (by omega) (ti := ty27) rfl
    have r2 := hsh.rij i k (by omega) (by omega) (by omega)
    have eql := congrArg List.length eq
    obtain ⟨p4, u4, d1, d2, d3⟩ := b3.row (i := c) (by omega) (ti := ty52) rfl
    obtain ⟨p5, u5, e1, e2, e3⟩ := hB.S.row (i := k) (by omega) (ti := ty44) rfl
    obtain ⟨p6, u6, f1, f2, f3⟩ := e3.row (i := c) (by omega) (ti := ty27) rfl
    have x : (dRows s q)[i][k][c] = rowL s.P ((i + 1 : Nat) : Int) ((matsA s q)[k][c]) := by
      rw [getD3 (d := []) (by omega) (by omega) (by omega), row_honest hD hk hi (by omega) h0, getD2 (d := []) (by omega) (by omega)]
      rfl
    rw [x] at d3
    have hm : (matsA s q)[k][c] ∈ (matsA s q).getD k [] := by
      rw [getD_lt (by omega)]
      exact List.getElem_mem _
    obtain ⟨sq, sw⟩ := hD.sok.sq k hk _ hm
    have hw3 := hD.w
    obtain ⟨hsp, _⟩ := hD.v.par
    (repeat (first | refine oV_eq (gV_skipF _) ?_ | refine oV_eq (gV_skipT _) ?_ | refine oV_eq (pick_T _ _) ?_ | refine oV_eq (pick_F _ _) ?_ | refine oV_eq (by (try with_reducible refine gV_F ?_); (try with_reducible refine gV_T ?_); first | exact hB.st.lR | exact a1 | exact a2 | exact b1 | exact b2 | exact d1 | exact d2 | exact hB.sc.p | exact hB.st.lS | exact e1 | exact e2 | exact f1 | exact f2 | exact add_one (a := i) (by omega) | exact conv_u64 (x := ((i + 1 : Nat) : Int)) (by omega) (by omega) | exact vField_to _ _ | exact vField_ptr _ _ _ | exact vNil_to _ | exact vNil_ptr _ | exact vInt_eql _ _ _ | exact vInt_neq _ _ _ | exact vInt_lss _ _ _ | exact vInt_leq _ _ _ | exact vInt_gtr _ _ _ | exact vInt_geq _ _ _ | exact i64_add (by omega) (by omega) | exact i64_sub (by omega) (by omega) | exact vUn_not _ | exact vLen_slice _ _ _ | exact vConv_int _ _ _) ?_ | refine oV_eq (gV_F rfl) ?_ | refine oV_eq (gV_T rfl) ?_))
    refine oRC_ret (rowR_spec f3 hsp sq (by omega) (by omega) (by omega)) fun w H2 hw => ?_
    have hC := hA.mono (l.trans hw.le)
    refine ⟨vLoad_mono hw.le d2, vLoad_mono hw.le b2, vLoad_mono hw.le a2, hC.st.lR, oRC_val (sameList_spec (d3.mono hw.le) hw.sl) ?_⟩
    (repeat (first | refine oV_eq (gV_skipF _) ?_ | refine oV_eq (gV_skipT _) ?_ | refine oV_eq (pick_T _ _) ?_ | refine oV_eq (pick_F _ _) ?_ | refine oV_eq (by (try with_reducible refine gV_F ?_); (try with_reducible refine gV_T ?_); first | exact vField_to _ _ | exact vField_ptr _ _ _ | exact vNil_to _ | exact vNil_ptr _ | exact vInt_eql _ _ _ | exact vInt_neq _ _ _ | exact vInt_lss _ _ _ | exact vInt_leq _ _ _ | exact vInt_gtr _ _ _ | exact vInt_geq _ _ _ | exact i64_add (by omega) (by omega) | exact i64_sub (by omega) (by omega) | exact vUn_not _ | exact vLen_slice _ _ _ | exact vConv_int _ _ _) ?_ | refine oV_eq (gV_F rfl) ?_ | refine oV_eq (gV_T rfl) ?_))
    refine condK_false ?_
    (repeat (first | refine oV_eq (gV_skipF _) ?_ | refine oV_eq (gV_skipT _) ?_ | refine oV_eq (pick_T _ _) ?_ | refine oV_eq (pick_F _ _) ?_ | refine oV_eq (by (try with_reducible refine gV_F ?_); (try with_reducible refine gV_T ?_); first | exact add_one (a := c) (by omega) | exact vField_to _ _ | exact vField_ptr _ _ _ | exact vNil_to _ | exact vNil_ptr _ | exact vInt_eql _ _ _ | exact vInt_neq _ _ _ | exact vInt_lss _ _ _ | exact vInt_leq _ _ _ | exact vInt_gtr _ _ _ | exact vInt_geq _ _ _ | exact i64_add (by omega) (by omega) | exact i64_sub (by omega) (by omega) | exact vUn_not _ | exact vLen_slice _ _ _ | exact vConv_int _ _ _) ?_ | refine oV_eq (gV_F rfl) ?_ | refine oV_eq (gV_T rfl) ?_))
    exact ih (c + 1) H2 (by omega) (by omega) (l.trans hw.le)
theorem hd_parties (hD : DealOk s q) (hA : LAt H0 i1 i3 i6 s q cv dv tv qv Sv Rv Fv) (hk : k < s.n) (h0 : (k : Int) + 1 ∉ s.bad) {kn : Value → Value → Value → Value → Heap → Prop} {kx1 kx0} (hkn : ∀ H, Le H0 H → kn (ptrTo i1) (ptrTo i3) (ptrTo i6) (.int .i64 k) H) :
    ∀ (d i : Nat) (H : Heap), s.n - i = d → i ≤ s.n → Le H0 H → L6_8 (ptrTo i1) (ptrTo i3) (ptrTo i6) (.int .i64 k) (.int .i64 i) H kn kx1 kx0 Yes := by
  obtain ⟨hn, hqn, hn7, hn4⟩ := hD.n
  intro d
  induction d with
  | zero =>
    intro i H hd hi l
    apply L6_8_round
    unfold m6_9
    (repeat (first | refine oV_eq (gV_skipF _) ?_ | refine oV_eq (gV_skipT _) ?_ | refine oV_eq (pick_T _ _) ?_ | refine oV_eq (pick_F _ _) ?_ | refine oV_eq (by (try with_reducible refine gV_F ?_); (try with_reducible refine gV_T ?_); first | exact (hA.mono l).sc.n | exact vField_to _ _ | exact vField_ptr _ _ _ | exact vNil_to _ | exact vNil_ptr _ | exact vInt_eql _ _ _ | exact vInt_neq _ _ _ | exact vInt_lss _ _ _ | exact vInt_leq _ _ _ | exact vInt_gtr _ _ _ | exact vInt_geq _ _ _ | exact i64_add (by omega) (by omega) | exact i64_sub (by omega) (by omega) | exact vUn_not _ | exact vLen_slice _ _ _ | exact vConv_int _ _ _) ?_ | refine oV_eq (gV_F rfl) ?_ | refine oV_eq (gV_T rfl) ?_))
    refine condK_dec (fun hlt => absurd hlt (by omega)) (fun _ => hkn H l)
  | succ d ih =>
    intro i H hd hi l
    apply L6_8_round
    unfold m6_9
    (repeat (first | refine oV_eq (gV_skipF _) ?_ | refine oV_eq (gV_skipT _) ?_ | refine oV_eq (pick_T _ _) ?_ | refine oV_eq (pick_F _ _) ?_ | refine oV_eq (by (try with_reducible refine gV_F ?_); (try with_reducible refine gV_T ?_); first | exact (hA.mono l).sc.n | exact vField_to _ _ | exact vField_ptr _ _ _ | exact vNil_to _ | exact vNil_ptr _ | exact vInt_eql _ _ _ | exact vInt_neq _ _ _ | exact vInt_lss _ _ _ | exact vInt_leq _ _ _ | exact vInt_gtr _ _ _ | exact vInt_geq _ _ _ | exact i64_add (by omega) (by omega) | exact i64_sub (by omega) (by omega) | exact vUn_not _ | exact vLen_slice _ _ _ | exact vConv_int _ _ _) ?_ | refine oV_eq (gV_F rfl) ?_ | refine oV_eq (gV_T rfl) ?_))
    refine condK_dec (fun hlt => ?_) (fun hlt => absurd (by omega) hlt)
    unfold m6_11 m6_12
    (repeat (first | refine oV_eq (gV_skipF _) ?_ | refine oV_eq (gV_skipT _) ?_ | refine oV_eq (pick_T _ _) ?_ | refine oV_eq (pick_F _ _) ?_ | refine oV_eq (by (try with_reducible refine gV_F ?_); (try with_reducible refine gV_T ?_); first | exact (hA.mono l).sc.all | exact add_one (a := i) (by omega) | exact vField_to _ _ | exact vField_ptr _ _ _ | exact vNil_to _ | exact vNil_ptr _ | exact vInt_eql _ _ _ | exact vInt_neq _ _ _ | exact vInt_lss _ _ _ | exact vInt_leq _ _ _ | exact vInt_gtr _ _ _ | exact vInt_geq _ _ _ | exact i64_add (by omega) (by omega) | exact i64_sub (by omega) (by omega) | exact vUn_not _ | exact vLen_slice _ _ _ | exact vConv_int _ _ _) ?_ | refine oV_eq (gV_F rfl) ?_ | refine oV_eq (gV_T rfl) ?_))
    refine oRC_grow (honest_spec ((hA.mono l).ok.s.bad) ((i + 1 : Nat) : Int)) fun H2 l2 => ?_
    have lH := l.trans l2
    have nxt : ∀ K, Le H0 K → m6_10 (ptrTo i1) (ptrTo i3) (ptrTo i6) (.int .i64 k) (.int .i64 i) K (fun y1 y3 y6 y7 y8 H => L6_8 y1 y3 y6 y7 y8 H kn kx1 kx0 Yes) kn kx1 kx0 Yes := fun K lK => by
      unfold m6_10
      (repeat (first | refine oV_eq (gV_skipF _) ?_ | refine oV_eq (gV_skipT _) ?_ | refine oV_eq (pick_T _ _) ?_ | refine oV_eq (pick_F _ _) ?_ | refine oV_eq (by (try with_reducible refine gV_F ?_); (try with_reducible refine gV_T ?_); first | exact add_one (a := i) (by omega) | exact vField_to _ _ | exact vField_ptr _ _ _ | exact vNil_to _ | exact vNil_ptr _ | exact vInt_eql _ _ _ | exact vInt_neq _ _ _ | exact vInt_lss _ _ _ | exact vInt_leq _ _ _ | exact vInt_gtr _ _ _ | exact vInt_geq _ _ _ | exact i64_add (by omega) (by omega) | exact i64_sub (by omega) (by omega) | exact vUn_not _ | exact vLen_slice _ _ _ | exact vConv_int _ _ _) ?_ | refine oV_eq (gV_F rfl) ?_ | refine oV_eq (gV_T rfl) ?_))
      exact ih (i + 1) K (by omega) (by omega) lK
    by_cases hb : ((i + 1 : Nat) : Int) ∈ s.bad
    · rw [decide_eq_false (fun h => h hb)]
      (repeat (first | refine oV_eq (gV_skipF _) ?_ | refine oV_eq (gV_skipT _) ?_ | refine oV_eq (pick_T _ _) ?_ | refine oV_eq (pick_F _ _) ?_ | refine oV_eq (by (try with_reducible refine gV_F ?_); (try with_reducible refine gV_T ?_); first | exact vField_to _ _ | exact vField_ptr _ _ _ | exact vNil_to _ | exact vNil_ptr _ | exact vInt_eql _ _ _ | exact vInt_neq _ _ _ | exact vInt_lss _ _ _ | exact vInt_leq _ _ _ | exact vInt_gtr _ _ _ | exact vInt_geq _ _ _ | exact i64_add (by omega) (by omega) | exact i64_sub (by omega) (by omega) | exact vUn_not _ | exact vLen_slice _ _ _ | exact vConv_int _ _ _) ?_ | refine oV_eq (gV_F rfl) ?_ | refine oV_eq (gV_T rfl) ?_))
      exact condK_true (nxt H2 lH)
    · rw [decide_eq_true hb]
      have h1 : (i : Int) + 1 ∉ s.bad := by simpa using hb
      (repeat (first | refine oV_eq (gV_skipF _) ?_ | refine oV_eq (gV_skipT _) ?_ | refine oV_eq (pick_T _ _) ?_ | refine oV_eq (pick_F _ _) ?_ | refine oV_eq (by (try with_reducible refine gV_F ?_); (try with_reducible refine gV_T ?_); first | exact vField_to _ _ | exact vField_ptr _ _ _ | exact vNil_to _ | exact vNil_ptr _ | exact vInt_eql _ _ _ | exact vInt_neq _ _ _ | exact vInt_lss _ _ _ | exact vInt_leq _ _ _ | exact vInt_gtr _ _ _ | exact vInt_geq _ _ _ | exact i64_add (by omega) (by omega) | exact i64_sub (by omega) (by omega) | exact vUn_not _ | exact vLen_slice _ _ _ | exact vConv_int _ _ _) ?_ | refine oV_eq (gV_F rfl) ?_ | refine oV_eq (gV_T rfl) ?_))
      refine condK_false ?_
      unfold m6_16
      refine hd_rows hD hA hk (by omega) h0 (fun K lK => ?_) _ 0 H2 rfl (by omega) lH
      unfold m6_13
      exact hd_flags hD hA hk (by omega) h0 h1 (fun K2 lK2 => nxt K2 lK2) _ 0 K rfl (by omega) lK
theorem hd_dealers (hD : DealOk s q) (hA : LAt H0 i1 i3 i6 s q cv dv tv qv Sv Rv Fv) {kn : Heap → Prop} (hkn : ∀ H, Le H0 H → kn H) :
    ∀ (d k : Nat) (H : Heap), s.n - k = d → k ≤ s.n → Le H0 H → L6_3 (ptrTo i1) (ptrTo i3) (ptrTo i6) (.int .i64 k) H kn Yes := by
  obtain ⟨hn, hqn, hn7, hn4⟩ := hD.n
  intro d
  induction d with
  | zero =>
    intro k H hd hk l
    apply L6_3_round
    unfold m6_4
    (repeat (first | refine oV_eq (gV_skipF _) ?_ | refine oV_eq (gV_skipT _) ?_ | refine oV_eq (pick_T _ _) ?_ | refine oV_eq (pick_F _ _) ?_ | refine oV_eq (by (try with_reducible refine gV_F ?_); (try with_reducible refine gV_T ?_); first | exact (hA.mono l).sc.n | exact vField_to _ _ | exact vField_ptr _ _ _ | exact vNil_to _ | exact vNil_ptr _ | exact vInt_eql _ _ _ | exact vInt_neq _ _ _ | exact vInt_lss _ _ _ | exact vInt_leq _ _ _ | exact vInt_gtr _ _ _ | exact vInt_geq _ _ _ | exact i64_add (by omega) (by omega) | exact i64_sub (by omega) (by omega) | exact vUn_not _ | exact vLen_slice _ _ _ | exact vConv_int _ _ _) ?_ | refine oV_eq (gV_F rfl) ?_ | refine oV_eq (gV_T rfl) ?_))
    refine condK_dec (fun hlt => absurd hlt (by omega)) (fun _ => hkn H l)
  | succ d ih =>
    intro k H hd hk l
    apply L6_3_round
    unfold m6_4
    (repeat (first | refine oV_eq (gV_skipF _) ?_ | refine oV_eq (gV_skipT _) ?_ | refine oV_eq (pick_T _ _) ?_ | refine oV_eq (pick_F _ _) ?_ | refine oV_eq (by (try with_reducible refine gV_F ?_); (try with_reducible refine gV_T ?_); first | exact (hA.mono l).sc.n | exact vField_to _ _ | exact vField_ptr _ _ _ | exact vNil_to _ | exact vNil_ptr _ | exact vInt_eql _ _ _ | exact vInt_neq _ _ _ | exact vInt_lss _ _ _ | exact vInt_leq _ _ _ | exact vInt_gtr _ _ _ | exact vInt_geq _ _ _ | exact i64_add (by omega) (by omega) | exact i64_sub (by omega) (by omega) | exact vUn_not _ | exact vLen_slice _ _ _ | exact vConv_int _ _ _) ?_ | refine oV_eq (gV_F rfl) ?_ | refine oV_eq (gV_T rfl) ?_))
    refine condK_dec (fun hlt => ?_) (fun hlt => absurd (by omega) hlt)
    unfold m6_6 m6_7
    (repeat (first | refine oV_eq (gV_skipF _) ?_ | refine oV_eq (gV_skipT _) ?_ | refine oV_eq (pick_T _ _) ?_ | refine oV_eq (pick_F _ _) ?_ | refine oV_eq (by (try with_reducible refine gV_F ?_); (try with_reducible refine gV_T ?_); first | exact (hA.mono l).sc.all | exact add_one (a := k) (by omega) | exact vField_to _ _ | exact vField_ptr _ _ _ | exact vNil_to _ | exact vNil_ptr _ | exact vInt_eql _ _ _ | exact vInt_neq _ _ _ | exact vInt_lss _ _ _ | exact vInt_leq _ _ _ | exact vInt_gtr _ _ _ | exact vInt_geq _ _ _ | exact i64_add (by omega) (by omega) | exact i64_sub (by omega) (by omega) | exact vUn_not _ | exact vLen_slice _ _ _ | exact vConv_int _ _ _) ?_ | refine oV_eq (gV_F rfl) ?_ | refine oV_eq (gV_T rfl) ?_))
    refine oRC_grow (honest_spec ((hA.mono l).ok.s.bad) ((k + 1 : Nat) : Int)) fun H2 l2 => ?_
    have lH := l.trans l2
    have nxt : ∀ K, Le H0 K → m6_5 (ptrTo i1) (ptrTo i3) (ptrTo i6) (.int .i64 k) K (fun y1 y3 y6 y7 H => L6_3 y1 y3 y6 y7 H kn Yes) (fun H => kn H) Yes := fun K lK => by
      unfold m6_5
      (repeat (first | refine oV_eq (gV_skipF _) ?_ | refine oV_eq (gV_skipT _) ?_ | refine oV_eq (pick_T _ _) ?_ | refine oV_eq (pick_F _ _) ?_ | refine oV_eq (by (try with_reducible refine gV_F ?_); (try with_reducible refine gV_T ?_); first | exact add_one (a := k) (by omega) | exact vField_to _ _ | exact vField_ptr _ _ _ | exact vNil_to _ | exact vNil_ptr _ | exact vInt_eql _ _ _ | exact vInt_neq _ _ _ | exact vInt_lss _ _ _ | exact vInt_leq _ _ _ | exact vInt_gtr _ _ _ | exact vInt_geq _ _ _ | exact i64_add (by omega) (by omega) | exact i64_sub (by omega) (by omega) | exact vUn_not _ | exact vLen_slice _ _ _ | exact vConv_int _ _ _) ?_ | refine oV_eq (gV_F rfl) ?_ | refine oV_eq (gV_T rfl) ?_))
      exact ih (k + 1) K (by omega) (by omega) lK
    by_cases hb : ((k + 1 : Nat) : Int) ∈ s.bad
    · rw [decide_eq_false (fun h => h hb)]
      (repeat (first | refine oV_eq (gV_skipF _) ?_ | refine oV_eq (gV_skipT _) ?_ | refine oV_eq (pick_T _ _) ?_ | refine oV_eq (pick_F _ _) ?_ | refine oV_eq (by (try with_reducible refine gV_F ?_); (try with_reducible refine gV_T ?_); first | exact vField_to _ _ | exact vField_ptr _ _ _ | exact vNil_to _ | exact vNil_ptr _ | exact vInt_eql _ _ _ | exact vInt_neq _ _ _ | exact vInt_lss _ _ _ | exact vInt_leq _ _ _ | exact vInt_gtr _ _ _ | exact vInt_geq _ _ _ | exact i64_add (by omega) (by omega) | exact i64_sub (by omega) (by omega) | exact vUn_not _ | exact vLen_slice _ _ _ | exact vConv_int _ _ _) ?_ | refine oV_eq (gV_F rfl) ?_ | refine oV_eq (gV_T rfl) ?_))
      exact condK_true (nxt H2 lH)
    · rw [decide_eq_true hb]
      have h0 : (k : Int) + 1 ∉ s.bad := by simpa using hb
      (repeat (first | refine oV_eq (gV_skipF _) ?_ | refine oV_eq (gV_skipT _) ?_ | refine oV_eq (pick_T _ _) ?_ | refine oV_eq (pick_F _ _) ?_ | refine oV_eq (by (try with_reducible refine gV_F ?_); (try with_reducible refine gV_T ?_); first | exact vField_to _ _ | exact vField_ptr _ _ _ | exact vNil_to _ | exact vNil_ptr _ | exact vInt_eql _ _ _ | exact vInt_neq _ _ _ | exact vInt_lss _ _ _ | exact vInt_leq _ _ _ | exact vInt_gtr _ _ _ | exact vInt_geq _ _ _ | exact i64_add (by omega) (by omega) | exact i64_sub (by omega) (by omega) | exact vUn_not _ | exact vLen_slice _ _ _ | exact vConv_int _ _ _) ?_ | refine oV_eq (gV_F rfl) ?_ | refine oV_eq (gV_T rfl) ?_))
      refine condK_false ?_
      exact hd_parties hD hA (by omega) h0 (fun K lK => nxt K lK) _ 0 H2 rfl (by omega) lH
theorem honest18_spec (hG : GL H) (hok : DzOk H s q cv dv tv qv) (hwf : DzWf s q) : RCalls Tryd.prog 6 [dealVal s cv dv tv qv] H Yes := by
  apply call6
  unfold m6
  refine deal_new s cv dv tv qv fun i1 H1 _ _ l1 hz => ?_
  refine oRC_grow (awake18_spec (hG.mono l1)) fun H2 l2 => ?_
  refine oV_eq (v := .bool false) rfl (condK_false ?_)
  have l12 := l1.trans l2
  replace hz := hz.mono l2
  (repeat (first | refine oV_eq (gV_skipF _) ?_ | refine oV_eq (gV_skipT _) ?_ | refine oV_eq (pick_T _ _) ?_ | refine oV_eq (pick_F _ _) ?_ | refine oV_eq (by (try with_reducible refine gV_F ?_); (try with_reducible refine gV_T ?_); first | exact hz.scn | exact hz.qq | exact vField_to _ _ | exact vField_ptr _ _ _ | exact vNil_to _ | exact vNil_ptr _ | exact vInt_eql _ _ _ | exact vInt_neq _ _ _ | exact vInt_lss _ _ _ | exact vInt_leq _ _ _ | exact vInt_gtr _ _ _ | exact vInt_geq _ _ _ | exact i64_add (by omega) (by omega) | exact i64_sub (by omega) (by omega) | exact vUn_not _ | exact vLen_slice _ _ _ | exact vConv_int _ _ _) ?_ | refine oV_eq (gV_F rfl) ?_ | refine oV_eq (gV_T rfl) ?_))
  refine oRC_ret (fair18_spec (hok.mono l12) hwf) fun r H3 hr => ?_
  obtain ⟨l3, b, rfl, hb⟩ := hr
  cases b with
  | false => exact oV_eq (v := .bool true) rfl (condK_true rfl)
  | true =>
    have hD := hb rfl
    have hq := hD.n
    refine oV_eq (v := .bool false) rfl (condK_false ?_)
    have l13 := l12.trans l3
    (repeat (first | refine oV_eq (gV_skipF _) ?_ | refine oV_eq (gV_skipT _) ?_ | refine oV_eq (pick_T _ _) ?_ | refine oV_eq (pick_F _ _) ?_ | refine oV_eq (by (try with_reducible refine gV_F ?_); (try with_reducible refine gV_T ?_); first | exact (hz.mono l3).all | exact vField_to _ _ | exact vField_ptr _ _ _ | exact vNil_to _ | exact vNil_ptr _ | exact vInt_eql _ _ _ | exact vInt_neq _ _ _ | exact vInt_lss _ _ _ | exact vInt_leq _ _ _ | exact vInt_gtr _ _ _ | exact vInt_geq _ _ _ | exact i64_add (by omega) (by omega) | exact i64_sub (by omega) (by omega) | exact vUn_not _ | exact vLen_slice _ _ _ | exact vConv_int _ _ _) ?_ | refine oV_eq (gV_F rfl) ?_ | refine oV_eq (gV_T rfl) ?_))
    refine oRC_ret (dist18_spec (hG.mono l13) (hok.mono l13) hwf hD) fun v H4 hv => ?_
    obtain ⟨R, tg, jn, tp, qs, Sv, Rv, Fv, lR, rfl, hd⟩ := hv
    refine oV_eq (v := .agg #[Sv, Rv, Fv]) rfl (oV_eq (v := ptrTo jn) rfl (oV_eq (v := .bool true) rfl ?_))
    refine st_var hd.mats hd.rows hd.flags fun i3 H5 l5 hst => ?_
    have hl := hd.lab.le
    have l15 := ((l13.trans lR).trans hl).trans l5
    have hz5 := hz.mono (((l3.trans lR).trans hl).trans l5)
    have lR5 := hl.trans l5
    (repeat (first | refine oV_eq (gV_skipF _) ?_ | refine oV_eq (gV_skipT _) ?_ | refine oV_eq (pick_T _ _) ?_ | refine oV_eq (pick_F _ _) ?_ | refine oV_eq (by (try with_reducible refine gV_F ?_); (try with_reducible refine gV_T ?_); first | exact hz5.all | exact hst.all | exact vField_to _ _ | exact vField_ptr _ _ _ | exact vNil_to _ | exact vNil_ptr _ | exact vInt_eql _ _ _ | exact vInt_neq _ _ _ | exact vInt_lss _ _ _ | exact vInt_leq _ _ _ | exact vInt_gtr _ _ _ | exact vInt_geq _ _ _ | exact i64_add (by omega) (by omega) | exact i64_sub (by omega) (by omega) | exact vUn_not _ | exact vLen_slice _ _ _ | exact vConv_int _ _ _) ?_ | refine oV_eq (gV_F rfl) ?_ | refine oV_eq (gV_T rfl) ?_))
    refine gK_FF (oRC_grow (well_spec (hok.mono l15) (hd.mats.mono lR5) (hd.rows.mono lR5) (hd.flags.mono lR5) (shape_ok hD) hq.1 (by omega)) fun H6 l6 => ?_)
    (repeat (first | refine oV_eq (gV_skipF _) ?_ | refine oV_eq (gV_skipT _) ?_ | refine oV_eq (pick_T _ _) ?_ | refine oV_eq (pick_F _ _) ?_ | refine oV_eq (by (try with_reducible refine gV_F ?_); (try with_reducible refine gV_T ?_); first | exact vField_to _ _ | exact vField_ptr _ _ _ | exact vNil_to _ | exact vNil_ptr _ | exact vInt_eql _ _ _ | exact vInt_neq _ _ _ | exact vInt_lss _ _ _ | exact vInt_leq _ _ _ | exact vInt_gtr _ _ _ | exact vInt_geq _ _ _ | exact i64_add (by omega) (by omega) | exact i64_sub (by omega) (by omega) | exact vUn_not _ | exact vLen_slice _ _ _ | exact vConv_int _ _ _) ?_ | refine oV_eq (gV_F rfl) ?_ | refine oV_eq (gV_T rfl) ?_))
    refine condK_false ?_
    have hz6 := hz5.mono l6
    have l16 := l15.trans l6
    have lR6 := lR5.trans l6
    (repeat (first | refine oV_eq (gV_skipF _) ?_ | refine oV_eq (gV_skipT _) ?_ | refine oV_eq (pick_T _ _) ?_ | refine oV_eq (pick_F _ _) ?_ | refine oV_eq (by (try with_reducible refine gV_F ?_); (try with_reducible refine gV_T ?_); first | exact hz6.scn | exact vField_to _ _ | exact vField_ptr _ _ _ | exact vNil_to _ | exact vNil_ptr _ | exact vInt_eql _ _ _ | exact vInt_neq _ _ _ | exact vInt_lss _ _ _ | exact vInt_leq _ _ _ | exact vInt_gtr _ _ _ | exact vInt_geq _ _ _ | exact i64_add (by omega) (by omega) | exact i64_sub (by omega) (by omega) | exact vUn_not _ | exact vLen_slice _ _ _ | exact vConv_int _ _ _) ?_ | refine oV_eq (gV_F rfl) ?_ | refine oV_eq (gV_T rfl) ?_))
    refine scn_var (hok.mono l16).s fun i6 H7 l7 hsc => ?_
    have lR7 := lR6.trans l7
    have hA : LAt H7 i1 i3 i6 s q cv dv tv qv Sv Rv Fv := ⟨hz6.mono l7, hst.mono (l6.trans l7), hsc, hok.mono (l16.trans l7), hd.mats.mono lR7, hd.rows.mono lR7, hd.flags.mono lR7⟩
    unfold m6_2
    exact hd_dealers hD hA (fun K lK => rfl) _ 0 H7 rfl (by omega) (Le.refl _)
end
end Go.Proofs.YtchhpagkdaaglaaDoor.SL
end
