/- EvaluateGates and Evaluate. -/
import Derived.Test.YtpbaoefjkfdgmaaDoorCtD
set_option linter.unusedVariables false
set_option linter.unusedSimpArgs false
namespace Go.Proofs.YtpbaoefjkfdgmaaDoor.SL
open Go

section
variable {R H : Heap} {ik jc : Nat} {p : Int} {gv ov wv iv c : Value} {gs : List Gate} {os : List Int} {ins l : List (List Int)}
theorem ceval_loop (hG : GL R) (hc : CircAt R jc p gv ov gs os) (hp : Supp p) (hv : validGates p gs) (hgl : gs.length ≤ 20000) (hwf : wfG gs) (ho : InOk p gs l) {kn : Value → Heap → Prop} {Q : Ending → Heap → Prop}
    (h1 : ∀ K v, KSt R K ik p v wv (vals p l gs) (restOf l gs gs.length) → kn (ptrTo ik) K) :
    ∀ (n i : Nat) (K : Heap) (v : Value), gs.length - i = n → i ≤ gs.length → KSt R K ik p v wv (valsTo p l gs i) (restOf l gs i) → L6_3 (ptrTo ik) gv (.int .i64 gs.length) (.int .i64 i) K kn Q := by
  intro n
  induction n with
  | zero =>
    intro i K v hd hi hK
    apply L6_3_round
    unfold m6_4
    refine oV_eq (vInt_lss _ _ _) (condK_dec (fun hlt => absurd hlt (by omega)) (fun _ => ?_))
    have : i = gs.length := by omega
    subst this
    exact h1 K v hK
  | succ n ih =>
    intro i K v hd hi hK
    apply L6_3_round
    unfold m6_4
    refine oV_eq (vInt_lss _ _ _) (condK_dec (fun hlt => ?_) (fun hlt => absurd (by omega) hlt))
    have hlt' : i < gs.length := by omega
    obtain ⟨q, off, g1, g2, _, _⟩ := (hc.mono hK.le).gates.gate hlt'
    refine oV_eq g1 (oV_eq g2 (local_gate gs[i] fun x hx => ?_))
    have hga : GateAt (hins K x (.cells gs[i].cells 5 37 true)) x gs[i] := ⟨hins_self _ _ _⟩
    have hle := Le.ins (.cells gs[i].cells 5 37 true) hx
    generalize hins K x (.cells gs[i].cells 5 37 true) = K1 at hga hle ⊢
    replace hK := hK.mono hle
    have w1 := wrap_i64 (show -9223372036854775808 ≤ (i : Int) + 1 by omega) (by omega)
    obtain ⟨f, f1, f2, f3, f4⟩ := any_gate hG hp ho hv hwf hlt' hK
    refine oV_eq (v := ptrTo ik) rfl (oV_eq (vField_to _ _) (oV_eq hK.lv (oV_eq (vField_to _ _) (oV_eq hga.l0 (oV_eq f1 (oV_eq f2 (oV_eq hga.all ?_)))))))
    refine oCl_ret f3 (by simpa using f4) fun w K2 hw => ?_
    obtain ⟨rfl, hK2⟩ := hw
    refine ⟨hK2.lv, ?_⟩
    refine hK2.push (by rw [valsTo_len p l gs i (by omega)]; omega) fun v' K3 hK3 => ?_
    refine oV_eq (vInt_add _ _ _) ?_
    rw [w1]
    refine ih (i + 1) K3 v' (by omega) (by omega) ?_
    rw [valsTo_succ p l gs hlt']
    exact hK3
theorem rwOne {v : Value} {rows : List (List Int)} (h : Rw R H v rows) : ∃ b n cap, v = .slice b n cap := by
  obtain ⟨us, h1, h2, h3⟩ := h
  obtain ⟨b, cap, rfl, _⟩ := h2.2.1.read
  exact ⟨_, _, _, rfl⟩
theorem eff_ok (hwi : wfI ins) (hv : validGates p gs) (hf : fits p gs ins) (hp : 0 < p) (hmx : ins.length ≤ 1000000) : InOk p gs (eff gs ins) :=
  ⟨by rw [eff_len]; exact hmx, fun i h h1 => by have := hf.1 i h h1; rw [eff_len]; exact this, eff_in hwi hf hp⟩
theorem cevalGates_spec (hG : GL H) (h : Circ H c p gs os) (hin : Sl (eSlice (eInt .u64)) H iv ins) (hwf : wfG gs) (hwi : wfI ins) (hmx : ins.length ≤ 1000000) :
    RCalls Tryd.prog 6 [c, iv] H (EvalRes p gs os ins (vals p (eff gs ins) gs) H) := by
  apply call6
  unfold m6
  refine circ_new h fun i H1 gv ov hl hc => ?_
  have hin1 := hin.mono hl
  refine oV_eq hc.lc ?_
  refine oRC_ret (cvalid_spec (hG.mono hl) hc.circ hwf) fun v H2 hv => ?_
  obtain ⟨b, rfl, hb, hl2⟩ := hv
  have hc2 := hc.mono hl2
  have hin2 := hin1.mono hl2
  cases b with
  | false =>
    have hnv : ¬ validC p gs os := fun h => by have := hb.2 h; cases this
    exact oV_eq (v := .bool true) rfl (condK_true ⟨hl.trans hl2, fun h => absurd h.1 hnv, fun _ => rfl⟩)
  | true =>
    have hvc := hb.1 rfl
    refine oV_eq (v := .bool false) rfl (condK_false (oV_eq hc2.lc ?_))
    refine oRC_ret (counted_spec hc2.circ hin2 hvc.2.2.2.1 hvc.2.1 hmx) fun v H3 hv => ?_
    rcases hv with ⟨hf, u, R, rfl, hR, hr⟩ | ⟨hn, rfl, hl3⟩
    rotate_left
    · exact oV_eq (v := .slice none 0 0) rfl (oV_eq (v := .bool false) rfl (oV_eq (v := .bool true) rfl (condK_true ⟨(hl.trans hl2).trans hl3, fun h => absurd h.2 hn, fun _ => rfl⟩)))
    have hpos := hvc.1.pos
    have h03 := (hl.trans hl2).trans (hR.trans hr.le)
    have hc3 := hc2.mono (hR.trans hr.le)
    obtain ⟨ub, un, uc, rfl⟩ := rwOne hr
    refine oV_eq (v := .slice ub un uc) rfl (oV_eq (v := .bool true) rfl (oV_eq (v := .bool false) rfl (condK_false (oV_eq (vField_to _ _) (oV_eq hc3.lp (oV_eq (v := .agg #[.int .u64 p, .slice none 0 0, .slice ub un uc]) rfl ?_))))))
    show oNew [.int .u64 p, .slice none 0 0, .slice ub un uc] 3 43 H3 _
    intro ik hik
    have l4 := Le.ins (.cells [.int .u64 p, .slice none 0 0, .slice ub un uc] 3 43 true) hik
    have hK : KSt R (hins H3 ik (.cells [.int .u64 p, .slice none 0 0, .slice ub un uc] 3 43 true)) ik p (.slice none 0 0) (.slice ub un uc) (valsTo p (eff gs ins) gs 0) (restOf (eff gs ins) gs 0) := by
      refine ⟨none_le hr.le hik, hins_self _ _ _, (Grown.nil R _ _).le (hr.le.trans l4), ?_⟩
      rw [rest_zero]
      exact hr.grow l4
    have lR := (hl.trans hl2).trans hR
    generalize hins H3 ik (.cells [.int .u64 p, .slice none 0 0, .slice ub un uc] 3 43 true) = H4 at l4 hK
    unfold m6_2
    have hc4 := hc3.mono l4
    refine oV_eq (vField_to _ _) (oV_eq hc4.lg (oV_eq hc4.gates.len ?_))
    refine ceval_loop (hG.mono lR) (hc2.mono hR) hvc.1 hvc.2.2.2.1 hvc.2.1 hwf (eff_ok hwi hvc.2.2.2.1 hf (by omega) hmx) (fun K v hKf => ?_) _ 0 H4 _ rfl (by omega) hK
    unfold m6_1
    exact oV_eq (v := ptrTo ik) rfl (oV_eq (vField_to _ _) (oV_eq hKf.lv ⟨lR.trans hKf.le, fun _ => ⟨v, rfl, hKf.sl⟩, fun hn => absurd ⟨hvc, hf⟩ hn⟩))
theorem couts_loop {G : Heap} {vv uv : Value} {vs : List Int} (hs : Sl (eInt .i64) G uv os) (hv : Sl (eInt .u64) G vv vs) (ho : ∀ o ∈ os, 0 ≤ o ∧ o < vs.length) (hol : os.length ≤ 1000) {kn : Value → Heap → Prop} {Q : Ending → Heap → Prop}
    (h1 : ∀ v K, Grown G K 1 22 v os.length ((os.map fun o => vs.getD o.toNat 0).map (.int .u64)) → kn v K) :
    ∀ (d i : Nat) (K : Heap) (v : Value), os.length - i = d → i ≤ os.length → Grown G K 1 22 v i (((os.map fun o => vs.getD o.toNat 0).take i).map (.int .u64)) → L8_3 vv v uv (.int .i64 os.length) (.int .i64 i) K kn Q
  | d, i, K, v, hd, hi, hg => by
    apply L8_3_round
    unfold m8_4
    refine oV_eq (vInt_lss _ _ _) (condK_dec (fun hlt => ?_) (fun hlt => ?_))
    · have hlt' : i < os.length := by omega
      obtain ⟨q, f1, f2⟩ := (hs.mono hg.1).int .i64 (i := (i : Int)) (by omega) (by omega) (ti := ty3) rfl
      have e : os.getD (i : Int).toNat 0 = os[i] := by simp [hlt']
      rw [e] at f2
      have hr := ho os[i] (List.getElem_mem _)
      obtain ⟨r, g1, g2⟩ := (hv.mono hg.1).int .i64 (i := os[i]) hr.1 hr.2 (ti := ty22) rfl
      have w1 := wrap_i64 (show -9223372036854775808 ≤ (i : Int) + 1 by omega) (by omega)
      refine oV_eq f1 (oV_eq f2 (oV_eq g1 (oV_eq g2 ?_)))
      refine Grown.append (te := ty22) hg rfl rfl (fun c hc => by rw [List.mem_singleton.1 hc]; rfl) (by show 0 < 1; omega) (by show (i + 1) * 8 ≤ _; omega) (by omega) fun v' K2 hg2 => ?_
      refine oV_eq (vInt_add _ _ _) ?_
      rw [w1]
      refine couts_loop hs hv ho hol h1 (d - 1) (i + 1) K2 v' (by omega) (by omega) ?_
      rw [List.take_succ_eq_append_getElem (by simpa using hlt'), List.map_append]
      simp only [List.getElem_map, List.map_cons, List.map_nil]
      exact hg2
    · have hie : i = os.length := by omega
      subst hie
      rw [List.take_of_length_le (by simp)] at hg
      exact h1 v K hg
  termination_by d => d
theorem cevaluate_spec (hG : GL H) (h : Circ H c p gs os) (hin : Sl (eSlice (eInt .u64)) H iv ins) (hwf : wfG gs) (hwi : wfI ins) (hmx : ins.length ≤ 1000000) :
    RCalls Tryd.prog 8 [c, iv] H (EvalRes p gs os ins (outsOf p (eff gs ins) gs os) H) := by
  apply call8
  unfold m8
  refine circ_new h fun i H1 gv ov hl hc => ?_
  have hin1 := hin.mono hl
  refine oV_eq hc.lc ?_
  refine oRC_ret (cevalGates_spec (hG.mono hl) hc.circ hin1 hwf hwi hmx) fun v H2 hv => ?_
  obtain ⟨hl2, hy, hn⟩ := hv
  by_cases hvf : validC p gs os ∧ fits p gs ins
  · obtain ⟨u, rfl, hu⟩ := hy hvf
    have hol := hvf.1.2.2.1
    refine oV_eq rfl (oV_eq rfl (oV_eq (vInt_neq _ _ _) ?_))
    refine condK_dec (fun h => absurd rfl h) (fun _ => ?_)
    unfold m8_2
    have hc2 := hc.mono hl2
    refine oV_eq (vField_to _ _) (oV_eq hc2.lo (oV_eq hc2.outs.len ?_))
    refine couts_loop hc2.outs hu (by rw [vals_len]; exact hvf.1.2.2.2.2) hol (fun v K hg => ?_) _ 0 H2 _ rfl (by omega) (Grown.nil _ _ _)
    unfold m8_1
    exact ⟨(hl.trans hl2).trans hg.1, fun _ => ⟨v, rfl, Own.sl_int (by simp only [outsOf, List.length_map]; exact hg.2.1)⟩, fun hn => absurd hvf hn⟩
  · obtain rfl := hn hvf
    refine oV_eq rfl (oV_eq rfl (oV_eq (vInt_neq _ _ _) ?_))
    refine condK_dec (fun _ => ?_) (fun h => absurd (fun h => by cases h) h)
    exact ⟨hl.trans hl2, fun h => absurd h hvf, fun _ => rfl⟩
end
end Go.Proofs.YtpbaoefjkfdgmaaDoor.SL
