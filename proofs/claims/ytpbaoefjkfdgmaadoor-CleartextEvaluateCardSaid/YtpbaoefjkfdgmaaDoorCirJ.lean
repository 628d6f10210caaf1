/- The reference's effective inputs, to the end; the values of the gates. -/
import Derived.Test.YtpbaoefjkfdgmaaDoorCirI
set_option linter.unusedVariables false
set_option linter.unusedSimpArgs false
namespace Go.Proofs.YtpbaoefjkfdgmaaDoor.SL
open Go

theorem eff_len (gs : List Gate) (ins : List (List Int)) : (eff gs ins).length = ins.length := by simp [eff]
theorem eff_get (gs : List Gate) (ins : List (List Int)) {j : Nat} (h : j < ins.length) : (eff gs ins)[j]? = some (if badUpto gs ins[j] (j + 1) gs.length then List.replicate ins[j].length 0 else ins[j]) := by
  simp [eff, h]
theorem rows_sl {H : Heap} {t : TypeId} {v : Value} {us : List Value} {xss : List (List Int)} (h : Own 1 t H v xss.length us) (hx : ∀ (j : Nat) (hj : j < xss.length), ∃ u, us[j]? = some u ∧ Sl (eInt .u64) H u xss[j]) : Sl (eSlice (eInt .u64)) H v xss :=
  h.sl (e := eSlice (eInt .u64)) fun i x hi => by
    obtain ⟨hl, rfl⟩ := List.getElem?_eq_some_iff.1 hi
    obtain ⟨u, hu, hs⟩ := hx i hl
    exact ⟨u, one_get _ i u hu, hs⟩
section
variable {jc : Nat} {p : Int} {gv ov iv bv : Value} {gs : List Gate} {os : List Int} {ins : List (List Int)}
theorem eff_loop {G0 : Heap} {kn : Value → Heap → Prop} {Q : Ending → Heap → Prop} (hmx : ins.length ≤ 1000000) (hmy : ∀ l ∈ ins, l.length ≤ 1000000) (h1 : ∀ v K, Le G0 K → Sl (eSlice (eInt .u64)) K v (eff gs ins) → kn v K) :
    ∀ (d i : Nat) (G K : Heap) (v : Value) (us : List Value), Le G0 G → Sl (eSlice (eInt .u64)) G iv ins → Sl eBool G bv (bads ins gs gs.length) → ins.length - i = d → i ≤ ins.length → Grown G K 1 30 v i us →
      (∀ (j : Nat) (hj : j < (eff gs ins).length), j < i → ∃ u, us[j]? = some u ∧ Sl (eInt .u64) G u (eff gs ins)[j]) → L15_4 iv bv v (.int .i64 i) K kn Q
  | d, i, G, K, v, us, h0, hin, hb, hd, hi, hg, hu => by
    apply L15_4_round
    unfold m15_5
    have hel := eff_len gs ins
    simp only [↓hs_some, ↓hs_fieldto, ↓hs_field, ↓hs_nilto, ↓hs_nilp, ↓hs_gTT, ↓hs_gFF, ↓hs_gTF, ↓hs_gFT, ↓hs_pickT, ↓hs_pickF, ↓hs_not, ↓hs_len, ↓hs_conv, ↓hs_ex0, ↓hs_ex1, ↓hs_add, ↓hs_sub, ↓hs_mul, ↓hs_eql, ↓hs_neq, ↓hs_lss, ↓hs_leq, ↓hs_gtr, ↓hs_geq, ↓oV_of hin.len]
    refine condK_dec (fun hlt => ?_) (fun hlt => ?_)
    · have hlt' : i < ins.length := by omega
      have hbK := hb.mono hg.1
      obtain ⟨pb, b1, b2⟩ := hbK.bool .i64 (i := (i : Int)) (by omega) (by rw [bads_len]; omega) (ti := ty4) rfl
      have eb : (bads ins gs gs.length).getD (i : Int).toNat false = badUpto gs ins[i] (i + 1) gs.length := by
        rw [Int.toNat_natCast, List.getD_eq_getElem?_getD, bads_get _ _ _ hlt']
        rfl
      rw [eb] at b2
      obtain ⟨pi, ui, i1, i2, i3⟩ := (hin.mono hg.1).slice .i64 (i := (i : Int)) (by omega) (by omega) (ti := ty30) rfl
      have ei : ins.getD (i : Int).toNat [] = ins[i] := by simp [hlt']
      rw [ei] at i3
      have w1 := wrap_i64 (show -9223372036854775808 ≤ (i : Int) + 1 by omega) (by omega)
      have ee : (eff gs ins)[i]'(by omega) = if badUpto gs ins[i] (i + 1) gs.length then List.replicate ins[i].length 0 else ins[i] := by
        have := eff_get gs ins hlt'
        rw [List.getElem?_eq_getElem (by omega)] at this
        exact Option.some.inj this
      have hlen := hmy ins[i] (List.getElem_mem _)
      have hul := hg.2.1.length
      have next : ∀ (G' K' : Heap) (u v' : Value), Le G G' → Sl (eInt .u64) G' u ((eff gs ins)[i]'(by omega)) → Grown G' K' 1 30 v' (i + 1) (us ++ [u]) → L15_4 iv bv v' (.int .i64 ((i : Int) + 1)) K' kn Q := by
        intro G' K' u v' hl hs hg'
        refine eff_loop hmx hmy h1 (d - 1) (i + 1) G' K' v' _ (h0.trans hl) (hin.mono hl) (hb.mono hl) (by omega) (by omega) hg' (fun j hj hji => ?_)
        by_cases e : j = i
        · subst e
          refine ⟨u, ?_, hs⟩
          rw [List.getElem?_append_right (by omega)]
          simp [show us.length = j by omega]
        · obtain ⟨u', hu', hs'⟩ := hu j hj (by omega)
          exact ⟨u', by rw [List.getElem?_append_left (by omega)]; exact hu', hs'.mono hl⟩
      simp only [↓hs_some, ↓hs_fieldto, ↓hs_field, ↓hs_nilto, ↓hs_nilp, ↓hs_gTT, ↓hs_gFF, ↓hs_gTF, ↓hs_gFT, ↓hs_pickT, ↓hs_pickF, ↓hs_not, ↓hs_len, ↓hs_conv, ↓hs_ex0, ↓hs_ex1, ↓hs_add, ↓hs_sub, ↓hs_mul, ↓hs_eql, ↓hs_neq, ↓hs_lss, ↓hs_leq, ↓hs_gtr, ↓hs_geq, ↓oV_of b1, ↓oV_of b2]
      cases hbd : badUpto gs ins[i] (i + 1) gs.length with
      | true =>
        rw [hbd, if_pos rfl] at ee
        refine condK_true ?_
        simp only [↓hs_some, ↓hs_fieldto, ↓hs_field, ↓hs_nilto, ↓hs_nilp, ↓hs_gTT, ↓hs_gFF, ↓hs_gTF, ↓hs_gFT, ↓hs_pickT, ↓hs_pickF, ↓hs_not, ↓hs_len, ↓hs_conv, ↓hs_ex0, ↓hs_ex1, ↓hs_add, ↓hs_sub, ↓hs_mul, ↓hs_eql, ↓hs_neq, ↓hs_lss, ↓hs_leq, ↓hs_gtr, ↓hs_geq, ↓oV_of i1, ↓oV_of i2, ↓oV_of i3.len]
        refine oMake_own (te := ty22) rfl (by show 8 * _ ≤ _; omega) (by omega) fun s K1 hs => ?_
        rw [zerosL_one rfl] at hs
        have hs' : Grown K K1 (eInt .u64).sz 22 s (List.replicate ins[i].length (0 : Int)).length (List.replicate ins[i].length (.int .u64 0)) := by
          rw [List.length_replicate]
          exact hs
        obtain ⟨N, hN, hsl⟩ := hs'.made (e := eInt .u64) (fun K' j x hx => one_get _ j (.int .u64 x) (by
          obtain ⟨hj, rfl⟩ := List.getElem?_eq_some_iff.1 hx
          simp at hj
          simp [hj]))
        have hg1 := hg.news hN
        have hNG : ∀ k, N k ≠ none → G k = none := fun k hk => none_le hg.1 (hN.2.2 k hk)
        refine Grown.append (te := ty30) hg1 rfl ?_ ?_ (by show 0 < 1; omega) (by show (i + 1) * 24 ≤ _; omega) (by omega) fun v' K2 hg2 => ?_
        · obtain ⟨_, _, _, rfl, _⟩ := hsl
          rfl
        · intro c hc
          obtain ⟨_, _, _, rfl, _⟩ := hsl
          have : c = _ := List.mem_singleton.1 hc
          subst this
          rfl
        · simp only [↓hs_some, ↓hs_fieldto, ↓hs_field, ↓hs_nilto, ↓hs_nilp, ↓hs_gTT, ↓hs_gFF, ↓hs_gTF, ↓hs_gFT, ↓hs_pickT, ↓hs_pickF, ↓hs_not, ↓hs_len, ↓hs_conv, ↓hs_ex0, ↓hs_ex1, ↓hs_add, ↓hs_sub, ↓hs_mul, ↓hs_eql, ↓hs_neq, ↓hs_lss, ↓hs_leq, ↓hs_gtr, ↓hs_geq, w1]
          refine next (hun G N) K2 s v' (hun_left _ _) ?_ ?_
          · rw [ee]
            exact hsl.mono (hun_right hNG)
          · obtain ⟨_, _, _, rfl, _⟩ := hsl
            exact hg2
      | false =>
        rw [hbd, if_neg (by simp)] at ee
        refine condK_false ?_
        simp only [↓hs_some, ↓hs_fieldto, ↓hs_field, ↓hs_nilto, ↓hs_nilp, ↓hs_gTT, ↓hs_gFF, ↓hs_gTF, ↓hs_gFT, ↓hs_pickT, ↓hs_pickF, ↓hs_not, ↓hs_len, ↓hs_conv, ↓hs_ex0, ↓hs_ex1, ↓hs_add, ↓hs_sub, ↓hs_mul, ↓hs_eql, ↓hs_neq, ↓hs_lss, ↓hs_leq, ↓hs_gtr, ↓hs_geq, ↓oV_of i1, ↓oV_of i2]
        obtain ⟨pi', ui', j1, j2, j3⟩ := hin.slice .i64 (i := (i : Int)) (by omega) (by omega) (ti := ty30) rfl
        rw [ei] at j3
        rw [i1] at j1
        cases j1
        have := vLoad_mono hg.1 j2
        rw [i2] at this
        cases this
        refine Grown.append (te := ty30) hg rfl ?_ ?_ (by show 0 < 1; omega) (by show (i + 1) * 24 ≤ _; omega) (by omega) fun v' K2 hg2 => ?_
        · obtain ⟨_, _, _, rfl, _⟩ := j3
          rfl
        · intro c hc
          obtain ⟨_, _, _, rfl, _⟩ := j3
          have : c = _ := List.mem_singleton.1 hc
          subst this
          rfl
        · simp only [↓hs_some, ↓hs_fieldto, ↓hs_field, ↓hs_nilto, ↓hs_nilp, ↓hs_gTT, ↓hs_gFF, ↓hs_gTF, ↓hs_gFT, ↓hs_pickT, ↓hs_pickF, ↓hs_not, ↓hs_len, ↓hs_conv, ↓hs_ex0, ↓hs_ex1, ↓hs_add, ↓hs_sub, ↓hs_mul, ↓hs_eql, ↓hs_neq, ↓hs_lss, ↓hs_leq, ↓hs_gtr, ↓hs_geq, w1]
          refine next G K2 ui v' (Le.refl _) ?_ ?_
          · rw [ee]
            exact j3
          · obtain ⟨_, _, _, rfl, _⟩ := j3
            exact hg2
    · have hie : i = (eff gs ins).length := by omega
      subst hie
      refine h1 v K (h0.trans hg.1) (rows_sl hg.2.1 (fun j hj => ?_))
      obtain ⟨u, hu1, hu2⟩ := hu j hj hj
      exact ⟨u, hu1, hu2.mono hg.1⟩
  termination_by d => d
theorem counts_spec {H : Heap} {c : Value} (h : Circ H c p gs os) (hin : Sl (eSlice (eInt .u64)) H iv ins) (hv : validGates p gs) (hf : fits p gs ins) (hmx : ins.length ≤ 1000000) (hgl : gs.length ≤ 20000) :
    RCalls Tryd.prog 15 [c, iv] H (Ret fun v H' => Le H H' ∧ Sl (eSlice (eInt .u64)) H' v (eff gs ins)) := by
  apply call15
  unfold m15
  refine circ_new h fun i H1 gv ov hl hc => ?_
  have hin1 := hin.mono hl
  simp only [↓hs_some, ↓hs_fieldto, ↓hs_field, ↓hs_nilto, ↓hs_nilp, ↓hs_gTT, ↓hs_gFF, ↓hs_gTF, ↓hs_gFT, ↓hs_pickT, ↓hs_pickF, ↓hs_not, ↓hs_len, ↓hs_conv, ↓hs_ex0, ↓hs_ex1, ↓hs_add, ↓hs_sub, ↓hs_mul, ↓hs_eql, ↓hs_neq, ↓hs_lss, ↓hs_leq, ↓hs_gtr, ↓hs_geq, ↓oV_of hin1.len]
  refine oMake_own (te := ty3) rfl (by show 8 * _ ≤ _; omega) (by omega) fun av H2 ha => ?_
  refine oMake_own (te := ty4) rfl (by show 1 * _ ≤ _; omega) (by omega) fun bv H3 hb => ?_
  rw [zerosL_one rfl] at ha hb
  unfold m15_6
  have hb1 := hb.less ha.1
  refine counts_loop hc hin1 hv hf (fun K hK => ?_) _ 0 H3 rfl (by omega) ?_ ?_
  · unfold m15_1 m15_3
    have hbl := bads_len ins gs gs.length
    have hbs : Sl eBool K bv (bads ins gs gs.length) := Own.sl_bool (by rw [hbl]; exact hK.2.1)
    refine eff_loop (G0 := H) hmx ?_ (fun v K' hl' hs => ⟨hl', hs⟩) _ 0 K K _ [] (hl.trans hK.1) (hin1.mono hK.1) hbs rfl (by omega) (Grown.nil _ _ _) (fun j hj h => absurd h (by omega))
    intro l hl
    obtain ⟨j, hj, rfl⟩ := List.mem_iff_getElem.1 hl
    rw [(hf.2 j hj).1]
    have : inCount ((j : Int) + 1) gs ≤ gs.length := List.countP_le_length
    omega
  · have h0 : counts ins.length (gs.take 0) = List.replicate ins.length 0 := by
      apply List.ext_getElem?
      intro x
      by_cases hx : x < ins.length
      · rw [counts_get _ _ hx]
        simp [hx, inCount]
      · rw [List.getElem?_eq_none (by rw [counts_len]; omega), List.getElem?_eq_none (by simp; omega)]
    have := ha.le hb.1
    rw [h0, icells, List.map_replicate]
    exact this
  · have h0 : bads ins gs 0 = List.replicate ins.length false := by
      apply List.ext_getElem?
      intro x
      by_cases hx : x < ins.length
      · rw [bads_get _ _ _ hx]
        simp [hx, badUpto]
      · rw [List.getElem?_eq_none (by rw [bads_len]; omega), List.getElem?_eq_none (by simp; omega)]
    rw [h0, List.map_replicate]
    exact hb1
end
end Go.Proofs.YtpbaoefjkfdgmaaDoor.SL
