/- Broadcast of the program. -/
import Derived.Test.YtchhpagkdaaglaaDoorNetD
set_option linter.unusedVariables false
set_option linter.unusedSimpArgs false
namespace Go.Proofs.YtchhpagkdaaglaaDoor.SL
open Go

section
variable {R H : Heap} {v u : Value} {rows : List (List Int)} {r : List Int} {Fi : Nat → Prop}
theorem Rw.putB (h : Rw R H v rows) {j : Nat} (hj : j < rows.length) (hu : Sl (eInt .u64) R u r) (hF : ∀ b, blkOf v = some b → Fi b) :
    ∃ pt H', vIdxS 1 v (.int .i64 j) = some pt ∧ vStore ty52 pt u H = some H' ∧ Rw R H' v (rows.set j r) ∧ Off Fi H H' ∧ ∀ b, H b ≠ none → H' b ≠ none := by
  obtain ⟨us, h1, h2, h3⟩ := h
  obtain ⟨jo, cap, rfl, b1, b2, b3, b4⟩ := h2.ixb hj
  obtain ⟨s1, s2⟩ := b4 ty52 u rfl rfl (by obtain ⟨_, _, _, rfl, _⟩ := hu; rfl)
  refine ⟨_, _, b3, s1, ⟨us.set j u, by simpa using h1, by rw [List.length_set]; exact s2, fun i w z hw hz => ?_⟩, fun b c hb hn => ?_, fun b hb => ?_⟩
  · by_cases c : j = i
    · subst c
      rw [List.getElem?_set_self (by omega)] at hw hz
      cases hw
      cases hz
      exact hu
    · rw [List.getElem?_set_ne c] at hw hz
      exact h3 i w z hw hz
  · rw [hins_other _ _ (fun e => by subst e; exact hn (hF _ rfl))]
    exact hb
  · by_cases e : b = jo
    · subst e
      rw [hins_self]; simp
    · rw [hins_other _ _ e]; exact hb
theorem Rw.appB {k : Value → Heap → Prop} (h : Rw R H v rows) (hu : Sl (eInt .u64) R u r) (hl : rows.length ≤ 1000) (hF : ∀ b, blkOf v = some b → Fi b)
    (hk : ∀ v' H' Fi', Rw R H' v' (rows ++ [r]) → (∀ b, blkOf v' = some b → Fi' b) → Off Fi H H' → Wide Fi H Fi' → (∀ b, Fi' b → (Fi b → H b ≠ none) → H' b ≠ none) → k v' H') :
    oBuildS ty52 52 1 [((0, 1), u)] H fun s H1 => oAppend ty52 52 v s H1 k := by
  obtain ⟨us, h1, h2, h3⟩ := h
  have hu1 : u.cells.toList = [u] := by obtain ⟨_, _, _, rfl, _⟩ := hu; rfl
  have hu2 : u.cells.size = 1 := by obtain ⟨_, _, _, rfl, _⟩ := hu; rfl
  have huo : u.oneCell' = true := by obtain ⟨_, _, _, rfl, _⟩ := hu; rfl
  refine append_own (te := ty52) h2.2.1 rfl hu2 (fun c hc => by rw [hu1, List.mem_singleton] at hc; rw [hc]; exact huo) (by show 0 < 1; omega) (by show (rows.length + 1) * 24 ≤ _; omega) (by omega) fun s j cap hs hjs hj hc hc2 => ?_
  have hRj : R j = none := by
    rcases hj with hj | hj
    · exact h2.2.2 j hj
    · exact none_le h2.1 hj
  have hoff : ∀ b c, H b = some c → b ≠ j → hins (hins H s (.cells u.cells.toList (ty52).size 52 true)) j (.cells (us ++ u.cells.toList) (cap * (ty52).size) 52 true) b = some c := fun b c hb hbj => by
    rw [hins_other _ _ hbj]
    exact hins_get hs hb
  have hown : Own 1 52 (hins (hins H s (.cells u.cells.toList (ty52).size 52 true)) j (.cells (us ++ u.cells.toList) (cap * (ty52).size) 52 true)) (.slice (some ⟨j, 0, none⟩) (rows.length + 1) cap) (rows ++ [r]).length (us ++ [u]) := by
    refine .inr ⟨j, cap, by simp, by simpa using hc, hc2, ?_, by simp [h1]⟩
    rw [hins_self, hu1]
    rfl
  refine hk _ _ (fun b => Fi b ∨ b = j) ⟨us ++ [u], by simp [h1], ⟨fun x c hx => hoff x c (h2.1 x c hx) (fun e => by subst e; rw [hRj] at hx; cases hx), hown, fun x hx => by cases hx; exact hRj⟩, fun i w z hw hz => ?_⟩ (fun b hb => by cases hb; exact .inr rfl) (fun b c hb hn => hoff b c hb fun e => ?_) ⟨fun b hb => .inl hb, fun b hb => ?_⟩ (fun b hb hkn => ?_)
  · by_cases c : i < us.length
    · rw [List.getElem?_append_left (by omega)] at hw hz
      exact h3 i w z hw hz
    · rw [List.getElem?_append_right (by omega)] at hw hz
      have e : i - us.length = 0 := by
        by_cases e : i - us.length = 0
        · exact e
        · rw [List.getElem?_eq_none (by simp; omega)] at hw; cases hw
      rw [e] at hw
      rw [show i - rows.length = 0 by omega] at hz
      cases hw
      cases hz
      exact hu
  · subst e
    rcases hj with hj | hj
    · exact hn (hF b hj)
    · rw [hj] at hb; cases hb
  · rcases hb with hb | rfl
    · exact .inl hb
    · rcases hj with hj | hj
      · exact .inl (hF _ hj)
      · exact .inr hj
  · by_cases e : b = j
    · subst e
      rw [hins_self]; simp
    · rcases hb with hb | hb
      · cases he : H b with
        | none => exact absurd he (hkn hb)
        | some c => rw [hoff b c he e]; simp
      · exact absurd hb e
end
/-- In the course of Broadcast. -/
structure CastSt (R0 : Heap) (F0 : Nat → Prop) (H0 : Heap) (tn : TypeId) (jn : Nat) (s : Scn) (cv dv tv tp : Value) (rd : Int) (av sv : Value) (said : List (List Int)) (R : Heap) (F Fi : Nat → Prop) (H : Heap) (views : List (List Ev)) (rows : List (List Int)) : Prop where
  net : NetAt R F tn H jn s cv dv tv tp rd views
  rw : Rw R H av rows
  own : ∀ b, blkOf av = some b → Fi b
  bes : Beside R H F jn Fi
  sl : Sl (eSlice (eInt .u64)) R sv said
  le : Le R0 R
  fresh : ∀ b, R b ≠ none → R0 b ≠ none ∨ H0 b = none
  wide : Wide F0 H0 F
  off : Off (fun b => F0 b ∨ b = jn) H0 H
  new : ∀ b, Fi b → H0 b = none
section
variable {R0 : Heap} {F0 : Nat → Prop} {H0 : Heap} {tn : TypeId} {jn : Nat} {s : Scn} {cv dv tv tp : Value} {rd : Int} {av sv : Value} {said : List (List Int)} {R : Heap} {F Fi : Nat → Prop} {H H1 N : Heap} {views views' : List (List Ev)} {rows : List (List Int)}
theorem CastSt.known (h : CastSt R0 F0 H0 tn jn s cv dv tv tp rd av sv said R F Fi H views rows) : ∀ b, H0 b ≠ none → H b ≠ none := fun b hb => by
  by_cases e : F0 b ∨ b = jn
  · rcases e with e | rfl
    · exact h.net.kn b (h.wide.1 b e)
    · obtain ⟨vv, rows, b1, _⟩ := h.net.body
      rw [b1]; simp
  · cases he : H0 b with
    | none => exact absurd he hb
    | some c => rw [h.off b c he e]; simp
theorem CastSt.news (h : CastSt R0 F0 H0 tn jn s cv dv tv tp rd av sv said R F Fi H views rows) (hN : New H H1 N) : CastSt R0 F0 H0 tn jn s cv dv tv tp rd av sv said (hun R N) F Fi H1 views rows :=
  ⟨h.net.news hN, h.rw.news hN, h.own, h.bes.news hN, h.sl.mono (hun_left _ _), h.le.trans (hun_left _ _), fun b hb => by
    by_cases e : R b = none
    · have e2 : N b ≠ none := fun e2 => hb (hun_none.2 ⟨e, e2⟩)
      refine .inr ?_
      cases he : H0 b with
      | none => rfl
      | some c => exact absurd (hN.2.2 b e2) (h.known b (by rw [he]; simp))
    · exact h.fresh b e, h.wide, fun b c hb hn => hN.1 b c (h.off b c hb hn), h.new⟩
theorem CastSt.moved {av' : Value} {rows' : List (List Int)} {Fi' : Nat → Prop} (h : CastSt R0 F0 H0 tn jn s cv dv tv tp rd av sv said R F Fi H views rows) (hr : Rw R H1 av' rows') (ho : Off Fi H H1) (hw : Wide Fi H Fi') (hk : ∀ b, Fi' b → (Fi b → H b ≠ none) → H1 b ≠ none) (hown : ∀ b, blkOf av' = some b → Fi' b) :
    CastSt R0 F0 H0 tn jn s cv dv tv tp rd av' sv said R F Fi' H1 views rows' := by
  obtain ⟨n1, n2⟩ := h.net.beside h.bes ho hw hk
  refine ⟨n1, hr, hown, n2, h.sl, h.le, h.fresh, h.wide, fun b c hb hn => ho b c (h.off b c hb hn) fun hf => by rw [h.new b hf] at hb; exact (nomatch hb), fun b hb => ?_⟩
  rcases hw.2 b hb with e | e
  · exact h.new b e
  · cases he : H0 b with
    | none => rfl
    | some c => exact absurd e (h.known b (by rw [he]; simp))
theorem CastSt.noted (h : CastSt R0 F0 H0 tn jn s cv dv tv tp rd av sv said R F Fi H views rows) {R' : Heap} {F' : Nat → Prop} (h1 : Le R R') (h2 : ∀ i, R' i ≠ none → R i ≠ none ∨ H i = none) (h3 : NetAt R' F' tn H1 jn s cv dv tv tp rd views') (h4 : Wide F H F') (h5 : Off F H H1) :
    CastSt R0 F0 H0 tn jn s cv dv tv tp rd av sv said R' F' Fi H1 views' rows := by
  have hb := h.bes.noted h2 h4 h5
  refine ⟨h3, ?_, h.own, hb, h.sl.mono h1, h.le.trans h1, fun b hb => ?_, ⟨fun b hb => h4.1 b (h.wide.1 b hb), fun b hb => ?_⟩, fun b c hb hn => ?_, h.new⟩
  · obtain ⟨us, r1, r2, r3⟩ := h.rw
    refine ⟨us, r1, ⟨h3.le, r2.2.1.mono fun b hbb => ?_, fun b hbb => hb.off b (h.own b hbb)⟩, fun j u r hu hr => (r3 j u r hu hr).mono h1⟩
    obtain ⟨_, _, e⟩ := r2.2.1.at_ hbb
    rw [e, h5 b _ e (h.bes.dj b (h.own b hbb)).1]
  · rcases h2 b hb with e | e
    · exact h.fresh b e
    · refine .inr ?_
      cases he : H0 b with
      | none => rfl
      | some c => exact absurd e (h.known b (by rw [he]; simp))
  · rcases h4.2 b hb with e | e
    · exact h.wide.2 b e
    · refine .inr ?_
      cases he : H0 b with
      | none => rfl
      | some c => exact absurd e (h.known b (by rw [he]; simp))
  · refine h5 b c (h.off b c hb hn) fun hF => ?_
    rcases h.wide.2 b hF with e | e
    · exact hn (.inl e)
    · rw [hb] at e; cases e
theorem CastSt.done (h : CastSt R0 F0 H0 tn jn s cv dv tv tp rd av sv said R F Fi H views rows) (r : Int) : ∃ H', vStore ty3 (.pointer (some ⟨jn, 6, none⟩)) (.int .i64 r) H = some H' ∧ Sent (eSlice (eInt .u64)) R0 F0 tn H0 jn s cv dv tv tp r views rows (.returned av) H' := by
  obtain ⟨H', t1, t2, t3⟩ := h.net.tick r
  have hFi : ∀ b, Fi b → H' b = H b := fun b hb => t3 b (h.bes.dj b hb).2
  have hlR : Le (hun R (hres H' Fi)) H' := hun_le t2.le (hres_le _ _)
  refine ⟨H', t1, hun R (hres H' Fi), F, h.le.trans (hun_left _ _), fun b hb => ?_, ?_, ?_, h.wide, fun b c hb hn => ?_⟩
  · by_cases e : R b = none
    · have e2 : hres H' Fi b ≠ none := fun e2 => hb (hun_none.2 ⟨e, e2⟩)
      by_cases e3 : Fi b
      · exact .inr (h.new b e3)
      · exact absurd (hres_out e3) e2
    · exact h.fresh b e
  · exact t2.keep (hun_left _ _) hlR (fun b c _ hc => hc) (fun b hb => hun_none.2 ⟨t2.off b hb, hres_out fun e => (h.bes.dj b e).1 hb⟩) (hun_none.2 ⟨t2.jR, hres_out fun e => (h.bes.dj jn e).2 rfl⟩)
  · obtain ⟨us, r1, r2, r3⟩ := h.rw
    refine rows_sl (r2.2.1.mono fun b hb => ?_) fun k hk => ⟨us[k]'(by omega), List.getElem?_eq_getElem (by omega), (r3 k _ _ (List.getElem?_eq_getElem (by omega)) (List.getElem?_eq_getElem hk)).mono (hun_left _ _)⟩
    have hf := h.own b hb
    have hR : R b = none := h.bes.off b hf
    simp only [hun, hR]
    rw [hres_in hf, hFi b hf]
  · rw [t3 b fun e => hn (.inr e)]
    exact h.off b c hb hn
theorem CastSt.init {H2 : Heap} {R1 : Heap} {n : Nat} (h : NetAt R F tn H jn s cv dv tv tp rd views) (h1 : NetAt R1 F tn H1 jn s cv dv tv tp rd views) (hle : Le H H1) (hR : Le R R1) (h4 : ∀ i, R1 i ≠ none → R i ≠ none ∨ H i = none) (hsl : Sl (eSlice (eInt .u64)) R1 sv said) (hg : Grown H1 H2 1 52 av n (List.replicate n (.slice none 0 0))) :
    CastSt R F H tn jn s cv dv tv tp rd av sv said R1 F (fun b => blkOf av = some b) H2 views (List.replicate n []) := by
  refine ⟨h1.mono hg.1, ⟨List.replicate n (.slice none 0 0), by simp, by rw [List.length_replicate]; exact hg.less h1.le, fun k u r hu hr => ?_⟩, fun b hb => hb, ⟨fun b hb => none_le h1.le (hg.2.2 b hb), fun b hb => ?_, fun b hb => ⟨fun hF => h1.kn b hF (hg.2.2 b hb), fun e => ?_⟩⟩, hsl, hR, h4, Wide.refl _ _, Off.of_le (hle.trans hg.1), fun b hb => none_le hle (hg.2.2 b hb)⟩
  · have hlt : k < n := by simpa using (List.getElem?_eq_some_iff.1 hu).1
    rw [List.getElem?_replicate, if_pos hlt] at hu hr
    cases hu
    cases hr
    exact Sl.nil _ _
  · obtain ⟨_, _, e⟩ := hg.2.1.at_ hb
    rw [e]; simp
  · subst e
    obtain ⟨vv, rows, b1, _⟩ := h1.body
    rw [hg.2.2 b hb] at b1
    cases b1
end
section
variable {R0 : Heap} {F0 : Nat → Prop} {H0 : Heap} {jn : Nat} {s : Scn} {cv dv tv tp : Value} {rd : Int} {av sv ov : Value} {said out : List (List Int)} {n : Nat} {R H : Heap} {F : Nat → Prop} {views : List (List Ev)}
theorem cast_row {i B : Nat} {vs0 : List (List Ev)} {rows : List (List Int)} (hn13 : n ≤ 1000) (hi : i < n) (hrl : rows.length = n) (hri : rows.getD i [] = said.getD i []) (hsw : (said.getD i []).length ≤ 1000000) (hvl : vs0.length = n) (hB : Few vs0 B) (hB2 : B + n ≤ 1000000)
    {kn : Value → Value → Value → Value → Value → Value → Heap → Prop} {kx1 : Value → Value → Value → Value → Value → Value → Heap → Prop} {kx0 : Value → Value → Heap → Prop} {Q : Ending → Heap → Prop}
    (hk : ∀ R F Fi H, CastSt R0 F0 H0 98 jn s cv dv tv tp rd av sv said R F Fi H (castRow rd said i vs0 n) rows → kn (ptrTo jn) (.func (.func 79) #[ptrTo jn] #[]) sv av (.int .i64 n) (.int .i64 i) H) :
    ∀ (d j : Nat) (R : Heap) (F Fi : Nat → Prop) (H : Heap), n - j = d → j ≤ n → CastSt R0 F0 H0 98 jn s cv dv tv tp rd av sv said R F Fi H (castRow rd said i vs0 j) rows →
      L48_8 (ptrTo jn) (.func (.func 79) #[ptrTo jn] #[]) sv av (.int .i64 i) (.int .i64 n) (.int .i64 i) (.int .i64 n) (.int .i64 j) H kn kx1 kx0 Q := by
  intro d
  induction d with
  | zero =>
    intro j R F Fi H hd hj h
    apply L48_8_round
    unfold m48_9
    refine oV_eq (vInt_lss _ _ _) (condK_dec (fun hlt => absurd hlt (by omega)) (fun _ => ?_))
    have : j = n := by omega
    subst this
    exact hk R F Fi H h
  | succ d ih =>
    intro j R F Fi H hd hj h
    apply L48_8_round
    unfold m48_9
    refine oV_eq (vInt_lss _ _ _) (condK_dec (fun hlt => ?_) (fun hlt => absurd (by omega) hlt))
    obtain ⟨pt, u, a1, a2, a3⟩ := h.rw.get (j := i) (by omega)
    rw [hri] at a3
    have hlv := castRow_len rd said i vs0 j
    have hfw := hB.castRow rd said i j
    refine oV_eq a1 (oV_eq a2 (oCl_ret rfl (note_spec (who := j) (fr := i) h.net (by omega) (by have := hfw j; omega) a3 hsw (by omega)) fun v H4 hv => ?_))
    obtain ⟨R4, F4, q1, q2, q3, q4, q5⟩ := hv
    refine oV_eq (vInt_add _ _ _) ?_
    rw [wrap_i64 (by omega) (by omega)]
    exact ih (j + 1) R4 F4 Fi H4 (by omega) (by omega) (h.noted q1 q2 q3 q4 q5)
theorem cast_rows {B : Nat} {vs0 : List (List Ev)} (hn13 : n ≤ 1000) (hsl : said.length = n) (hsw : ∀ i, (said.getD i []).length ≤ 1000000) (hvl : vs0.length = n) (hB : Few vs0 B) (hB2 : B + (n + 1) * n ≤ 1000000)
    {kn : Value → Value → Heap → Prop} {Q : Ending → Heap → Prop}
    (hk : ∀ R F Fi H, CastSt R0 F0 H0 98 jn s cv dv tv tp rd av sv said R F Fi H (castV rd said n vs0 n) said → kn (ptrTo jn) av H) :
    ∀ (d i : Nat) (R : Heap) (F Fi : Nat → Prop) (H : Heap) (rows : List (List Int)), n - i = d → i ≤ n → rows.length = n → (∀ k, k < i → rows[k]? = said[k]?) → CastSt R0 F0 H0 98 jn s cv dv tv tp rd av sv said R F Fi H (castV rd said n vs0 i) rows →
      L48_3 (ptrTo jn) (.func (.func 79) #[ptrTo jn] #[]) sv av (.int .i64 n) (.int .i64 i) H kn Q := by
  intro d
  induction d with
  | zero =>
    intro i R F Fi H rows hd hi hrl hr h
    apply L48_3_round
    unfold m48_4
    refine oV_eq (vInt_lss _ _ _) (condK_dec (fun hlt => absurd hlt (by omega)) (fun _ => ?_))
    have : i = n := by omega
    subst this
    have : rows = said := List.ext_getElem? fun k => by
      by_cases hk : k < i
      · exact hr k hk
      · rw [List.getElem?_eq_none (by omega), List.getElem?_eq_none (by omega)]
    subst this
    exact hk R F Fi H h
  | succ d ih =>
    intro i R F Fi H rows hd hi hrl hr h
    apply L48_3_round
    unfold m48_4
    refine oV_eq (vInt_lss _ _ _) (condK_dec (fun hlt => ?_) (fun hlt => absurd (by omega) hlt))
    have hin : i < n := by omega
    unfold m48_6 m48_7
    obtain ⟨p1, u1, a1, a2, a3⟩ := (h.sl.mono h.net.le).slice .i64 (i := (i : Int)) (by omega) (by omega) (ti := ty52) rfl
    rw [Int.toNat_natCast] at a3
    refine oV_eq a1 (oV_eq a2 (copy_nil a3 (hsw i) fun w H1 hg => ?_))
    obtain ⟨N, hN, hNs⟩ := words_made hg
    have h1 := h.news hN
    have hws := hNs.mono (hun_right fun k hk => none_le h.net.le (hN.2.2 k hk))
    obtain ⟨pt, H2, c1, c2, c3, c4, c5⟩ := h1.rw.putB (j := i) (by omega) hws h1.own
    have h2 := h1.moved c3 c4 (Wide.refl _ _) (fun b hb hkn => c5 b (hkn hb)) h1.own
    have hmul : (i + 1) * n ≤ (n + 1) * n := Nat.mul_le_mul_right n (by omega)
    rw [Nat.succ_mul] at hmul
    refine oV_eq c1 (oHeap_eq c2 ?_)
    have hlen := h2.rw.len
    rw [List.length_set, hrl] at hlen
    refine oV_eq hlen ?_
    refine cast_row (rows := rows.set i (said.getD i [])) hn13 hin (by simpa using hrl) (by rw [getD_set _ _ _ _ _ (by omega), if_pos rfl]) (hsw i) (by rw [castV_len]; exact hvl) (hB.cast rd said n i) (by omega) (fun R F Fi H h3 => ?_) _ 0 _ F Fi H2 rfl (by omega) h2
    unfold m48_5
    refine oV_eq (vInt_add _ _ _) ?_
    rw [wrap_i64 (by omega) (by omega)]
    refine ih (i + 1) R F Fi H _ (by omega) (by omega) (by simpa using hrl) (fun k hk => ?_) h3
    by_cases e : i = k
    · subst e
      rw [List.getElem?_set_self (by omega), List.getElem?_eq_getElem (by omega)]
      simp [show i < said.length by omega]
    · rw [List.getElem?_set_ne e]
      exact hr k (by omega)
theorem cast_spec {B : Nat} (h : NetAt R F 98 H jn s cv dv tv tp rd views) (hV : ScnV s) (ho : Sl (eSlice (eInt .u64)) R ov out) (hm : Msgs s.P s.N out) (hvl : (views.length : Int) = s.N) (hB : Few views B) (hB2 : B ≤ 900000) (hr0 : 0 ≤ rd) (hr1 : rd ≤ 1000000) :
    RCalls Tryd.prog 48 [ptrTo jn, ov] H (Sent (eSlice (eInt .u64)) R F 98 H jn s cv dv tv tp (rd + 1) (castV rd (applyB s rd out s.devs.length) views.length views views.length) (applyB s rd out s.devs.length)) := by
  obtain ⟨hp, hn4, hn13, _⟩ := hV.par
  have hds : ∀ d ∈ s.devs, DevOk s.N d := fun d hd => (hV.devs d hd).2
  have hpp := hp.pos
  have hsm := applyB_msgs (rd := rd) (show 0 < s.P by omega) hm s.devs.length (Nat.le_refl _)
  have hsl := hsm.len
  apply call48
  unfold m48
  refine oV_eq (v := ptrTo jn) rfl (oV_eq (vField_to _ _) (oV_eq h.scn (oV_eq (v := ptrTo jn) rfl (oV_eq (vField_to _ _) (oV_eq h.r ?_)))))
  refine oRC_frame (applyB_spec hp h.ok ho hm hds (by omega)) h.le fun sv R1 H1 hq hl1 h3 h4 => ?_
  obtain ⟨hR, hsv⟩ := hq
  obtain ⟨h1, hle⟩ := h.framed hR hl1 h3 h4
  have hnl := h1.n
  rw [← hvl] at hnl
  refine oV_eq (v := ptrTo jn) rfl (oV_eq (vField_to _ _) (oV_eq (v := .pointer (some ⟨jn, 0, none⟩)) rfl (oV_eq (v := .pointer (some ⟨jn, 1, none⟩)) rfl (oV_eq hnl ?_))))
  refine oMake_own (te := ty52) rfl (by show 24 * _ ≤ _; omega) (by omega) fun av H2 hg => ?_
  rw [zerosL_one rfl] at hg
  have hs := CastSt.init h h1 hle hR h4 hsv hg
  generalize applyB s rd out s.devs.length = said at hsm hsl hsv hs ⊢
  unfold m48_2
  refine oV_eq hg.2.1.len ?_
  have hmul : (views.length + 1) * views.length ≤ 14 * 13 := Nat.mul_le_mul (by omega) (by omega)
  refine cast_rows (by omega) (by omega) (fun i => by have := (hsm.get i).2; omega) rfl hB (by omega) (fun R' F' Fi' H' hd => ?_) _ 0 R1 F _ H2 _ rfl (by omega) (by simp) (fun k hk => absurd hk (by omega)) hs
  unfold m48_1
  obtain ⟨K, t1, t2⟩ := hd.done (rd + 1)
  refine oV_eq (v := ptrTo jn) rfl (oV_eq (vField_to _ _) (oV_eq hd.net.r (oV_eq (vInt_add _ _ _) ?_)))
  rw [wrap_i64 (by omega) (by omega)]
  exact oV_eq (v := ptrTo jn) rfl (oV_eq (vField_to _ _) (oHeap_eq t1 t2))
end
end Go.Proofs.YtchhpagkdaaglaaDoor.SL
