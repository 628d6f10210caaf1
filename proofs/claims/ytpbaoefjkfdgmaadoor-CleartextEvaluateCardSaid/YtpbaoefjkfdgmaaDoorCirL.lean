/- The reference's evaluation of a circuit, to the end; what a law tells of a circuit. -/
import Derived.Test.YtpbaoefjkfdgmaaDoorCirK
set_option linter.unusedVariables false
set_option linter.unusedSimpArgs false
namespace Go.Proofs.YtpbaoefjkfdgmaaDoor.SL
open Go

theorem gK_TT {A B : Prop} (h : A) : gK (.bool true) true A B := ⟨fun _ => h, fun h => absurd rfl h⟩
theorem gK_FF {A B : Prop} (h : A) : gK (.bool false) false A B := ⟨fun _ => h, fun h => absurd rfl h⟩
theorem gK_TF {A B : Prop} (h : B) : gK (.bool true) false A B := ⟨fun h => (by cases h), fun _ => h⟩
theorem gK_FT {A B : Prop} (h : B) : gK (.bool false) true A B := ⟨fun h => (by cases h), fun _ => h⟩
section
variable {p : Int} {iv wv : Value} {gs : List Gate} {os : List Int} {ins : List (List Int)} {H : Heap} {c : Value}
/-- What EvaluateGates gives. -/
def EvalRes (p : Int) (gs : List Gate) (os : List Int) (ins : List (List Int)) (res : List Int) (H : Heap) : Ending → Heap → Prop := Ret fun v H' => Le H H' ∧
  ((validC p gs os ∧ fits p gs ins) → ∃ u, v = .tuple #[u, .int .i64 0] ∧ Sl (eInt .u64) H' u res) ∧ (¬ (validC p gs os ∧ fits p gs ins) → v = .tuple #[.slice none 0 0, .int .i64 1])
theorem eff_in (hwi : wfI ins) (hf : fits p gs ins) (hp : 0 < p) : ∀ (j : Nat) (h : j < (eff gs ins).length), (eff gs ins)[j].length = inCount (j + 1) gs ∧ ∀ x ∈ (eff gs ins)[j], 0 ≤ x ∧ x < p := by
  intro j h
  have hj : j < ins.length := by rw [eff_len] at h; exact h
  have he := eff_get gs ins hj
  rw [List.getElem?_eq_getElem h] at he
  have he := Option.some.inj he
  rw [he]
  have h1 := hf.2 j hj
  split
  · refine ⟨by rw [List.length_replicate]; exact h1.1, fun x hx => ?_⟩
    obtain ⟨_, rfl⟩ := List.mem_replicate.1 hx
    omega
  · exact ⟨h1.1, fun x hx => ⟨hwi _ (List.getElem_mem _) x hx, h1.2 x hx⟩⟩
theorem evalGates_spec (h : Circ H c p gs os) (hin : Sl (eSlice (eInt .u64)) H iv ins) (hwf : wfG gs) (hwi : wfI ins) (hmx : ins.length ≤ 1000000) :
    RCalls Tryd.prog 7 [c, iv] H (EvalRes p gs os ins (vals p (eff gs ins) gs) H) := by
  apply call7
  unfold m7
  refine circ_new h fun i H1 gv ov hl hc => ?_
  have hin1 := hin.mono hl
  refine oV_eq hc.lc ?_
  refine oRC_ret (valid_spec hc.circ) fun v H2 hv => ?_
  obtain ⟨b, rfl, hb, hl2⟩ := hv
  have hc2 := hc.mono hl2
  have hin2 := hin1.mono hl2
  cases b with
  | false =>
    have hnv : ¬ validC p gs os := fun h => by have := hb.2 h; cases this
    refine oV_eq rfl (oV_eq rfl (oV_eq rfl ?_))
    exact gK_TF (condK_true ⟨hl.trans hl2, fun h => absurd h.1 hnv, fun _ => rfl⟩)
  | true =>
    have hvc := hb.1 rfl
    refine oV_eq rfl (oV_eq hc2.lc (oV_eq rfl ?_))
    refine gK_FF (oRC_ret (fits_spec hc2.circ hin2) fun v H3 hv => ?_)
    obtain ⟨b, rfl, hb, hl3⟩ := hv
    cases b with
    | false =>
      have hnf : ¬ fits p gs ins := fun h => by have := hb.2 h; cases this
      exact condK_true ⟨(hl.trans hl2).trans hl3, fun h => absurd h.2 hnf, fun _ => rfl⟩
    | true =>
      have hf := hb.1 rfl
      have hc3 := hc2.mono hl3
      have hin3 := hin2.mono hl3
      refine oV_eq rfl (oV_eq rfl (condK_false (oV_eq hc3.lc ?_)))
      refine oRC_ret (counts_spec hc3.circ hin3 hvc.2.2.2.1 hf hmx hvc.2.1) fun lv H4 hv => ?_
      obtain ⟨hl4, hsl⟩ := hv
      have hel := eff_len gs ins
      have hpos := hvc.1.pos
      refine oV_eq hsl.len ?_
      refine oMake_own (te := ty3) rfl (by show 8 * _ ≤ _; omega) (by omega) fun av H5 ha => ?_
      rw [zerosL_one rfl] at ha
      unfold m7_2
      refine eval_loop (G := H4) (hc3.mono hl4) hsl hvc.1 hvc.2.2.2.1 hvc.2.1 hwf (by omega) (fun k hk h1 => by have := hf.1 k hk h1; omega) (eff_in hwi hf (by omega)) (fun u K hu _ => ?_) _ 0 H5 _ rfl (by omega) ?_ (Grown.less (Grown.nil H5 _ _) ha.1) (fun x hx => by cases hx)
      · unfold m7_1
        refine ⟨(((hl.trans hl2).trans hl3).trans hl4).trans hu.1, fun _ => ⟨u, rfl, Own.sl_int (by rw [vals_len]; exact hu.2.1)⟩, fun hn => absurd ⟨hvc, hf⟩ hn⟩
      · have h0 : counts (eff gs ins).length (gs.take 0) = List.replicate (eff gs ins).length 0 := by
          apply List.ext_getElem?
          intro x
          by_cases hx : x < (eff gs ins).length
          · rw [counts_get _ _ hx]
            simp [hx, inCount]
          · rw [List.getElem?_eq_none (by rw [counts_len]; omega), List.getElem?_eq_none (by simp; omega)]
        rw [h0, icells, List.map_replicate]
        exact ha
def outsOf (p : Int) (l : List (List Int)) (gs : List Gate) (os : List Int) : List Int := os.map fun o => (vals p l gs).getD o.toNat 0
theorem outs_loop {G : Heap} {jc : Nat} {gv ov vv : Value} {vs : List Int} (hc : CircAt G jc p gv ov gs os) (hv : Sl (eInt .u64) G vv vs) (ho : ∀ o ∈ os, 0 ≤ o ∧ o < vs.length) (hol : os.length ≤ 1000) {kn : Value → Heap → Prop} {Q : Ending → Heap → Prop}
    (h1 : ∀ v K, Grown G K 1 22 v os.length ((os.map fun o => vs.getD o.toNat 0).map (.int .u64)) → kn v K) :
    ∀ (d i : Nat) (K : Heap) (v : Value), os.length - i = d → i ≤ os.length → Grown G K 1 22 v i (((os.map fun o => vs.getD o.toNat 0).take i).map (.int .u64)) → L9_3 (ptrTo jc) vv v (.int .i64 i) K kn Q
  | d, i, K, v, hd, hi, hg => by
    apply L9_3_round
    unfold m9_4
    have hcK := hc.mono hg.1
    simp only [↓hs_some, ↓hs_fieldto, ↓hs_field, ↓hs_nilto, ↓hs_nilp, ↓hs_gTT, ↓hs_gFF, ↓hs_gTF, ↓hs_gFT, ↓hs_pickT, ↓hs_pickF, ↓hs_not, ↓hs_len, ↓hs_conv, ↓hs_ex0, ↓hs_ex1, ↓hs_add, ↓hs_sub, ↓hs_mul, ↓hs_eql, ↓hs_neq, ↓hs_lss, ↓hs_leq, ↓hs_gtr, ↓hs_geq, ↓oV_of hcK.lo, ↓oV_of hcK.outs.len]
    refine condK_dec (fun hlt => ?_) (fun hlt => ?_)
    · have hlt' : i < os.length := by omega
      obtain ⟨q, f1, f2⟩ := hcK.outs.int .i64 (i := (i : Int)) (by omega) (by omega) (ti := ty3) rfl
      have e : os.getD (i : Int).toNat 0 = os[i] := by simp [hlt']
      rw [e] at f2
      have hr := ho os[i] (List.getElem_mem _)
      obtain ⟨r, g1, g2⟩ := (hv.mono hg.1).int .i64 (i := os[i]) hr.1 hr.2 (ti := ty22) rfl
      have w1 := wrap_i64 (show -9223372036854775808 ≤ (i : Int) + 1 by omega) (by omega)
      simp only [↓hs_some, ↓hs_fieldto, ↓hs_field, ↓hs_nilto, ↓hs_nilp, ↓hs_gTT, ↓hs_gFF, ↓hs_gTF, ↓hs_gFT, ↓hs_pickT, ↓hs_pickF, ↓hs_not, ↓hs_len, ↓hs_conv, ↓hs_ex0, ↓hs_ex1, ↓hs_add, ↓hs_sub, ↓hs_mul, ↓hs_eql, ↓hs_neq, ↓hs_lss, ↓hs_leq, ↓hs_gtr, ↓hs_geq, ↓oV_of hcK.lo, ↓oV_of f1, ↓oV_of f2, ↓oV_of g1, ↓oV_of g2]
      refine Grown.append (te := ty22) hg rfl rfl (fun c hc => by rw [List.mem_singleton.1 hc]; rfl) (by show 0 < 1; omega) (by show (i + 1) * 8 ≤ _; omega) (by omega) fun v' K2 hg2 => ?_
      simp only [↓hs_some, ↓hs_fieldto, ↓hs_field, ↓hs_nilto, ↓hs_nilp, ↓hs_gTT, ↓hs_gFF, ↓hs_gTF, ↓hs_gFT, ↓hs_pickT, ↓hs_pickF, ↓hs_not, ↓hs_len, ↓hs_conv, ↓hs_ex0, ↓hs_ex1, ↓hs_add, ↓hs_sub, ↓hs_mul, ↓hs_eql, ↓hs_neq, ↓hs_lss, ↓hs_leq, ↓hs_gtr, ↓hs_geq, w1]
      refine outs_loop hc hv ho hol h1 (d - 1) (i + 1) K2 v' (by omega) (by omega) ?_
      rw [List.take_succ_eq_append_getElem (by simpa using hlt'), List.map_append]
      simp only [List.getElem_map, List.map_cons, List.map_nil]
      exact hg2
    · have hie : i = os.length := by omega
      subst hie
      rw [List.take_of_length_le (by simp)] at hg
      exact h1 v K hg
  termination_by d => d
theorem evaluate_spec (h : Circ H c p gs os) (hin : Sl (eSlice (eInt .u64)) H iv ins) (hwf : wfG gs) (hwi : wfI ins) (hmx : ins.length ≤ 1000000) :
    RCalls Tryd.prog 9 [c, iv] H (EvalRes p gs os ins (outsOf p (eff gs ins) gs os) H) := by
  apply call9
  unfold m9
  refine circ_new h fun i H1 gv ov hl hc => ?_
  have hin1 := hin.mono hl
  refine oV_eq hc.lc ?_
  refine oRC_ret (evalGates_spec hc.circ hin1 hwf hwi hmx) fun v H2 hv => ?_
  obtain ⟨hl2, hy, hn⟩ := hv
  by_cases hvf : validC p gs os ∧ fits p gs ins
  · obtain ⟨u, rfl, hu⟩ := hy hvf
    have hol := hvf.1.2.2.1
    refine oV_eq rfl (oV_eq rfl (oV_eq (vInt_neq _ _ _) ?_))
    refine condK_dec (fun h => absurd rfl h) (fun _ => ?_)
    unfold m9_2
    refine outs_loop (hc.mono hl2) hu (by rw [vals_len]; exact hvf.1.2.2.2.2) hol (fun v K hg => ?_) _ 0 H2 _ rfl (by omega) (Grown.nil _ _ _)
    unfold m9_1
    exact ⟨(hl.trans hl2).trans hg.1, fun _ => ⟨v, rfl, Own.sl_int (by simp only [outsOf, List.length_map]; exact hg.2.1)⟩, fun hn => absurd hvf hn⟩
  · obtain rfl := hn hvf
    refine oV_eq rfl (oV_eq rfl (oV_eq (vInt_neq _ _ _) ?_))
    refine condK_dec (fun _ => ?_) (fun h => absurd (fun h => by cases h) h)
    exact ⟨hl.trans hl2, fun h => absurd h hvf, fun _ => rfl⟩
end
end Go.Proofs.YtpbaoefjkfdgmaaDoor.SL
