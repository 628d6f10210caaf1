/- Views told; lists compared; two networks beside each other. -/
import Derived.Test.YtchhpagkdaaglaaDoorNetG
set_option linter.unusedVariables false
set_option linter.unusedSimpArgs false
namespace Go.Proofs.YtchhpagkdaaglaaDoor.SL
open Go

theorem copyG {te : TI} {e : TypeId} {b : Option Addr} {n cap : Nat} {cs : List Value} {H : Heap} {k : Value → Heap → Prop} (hr : rdSlice te.size H b n = some cs) (h1 : ∀ v ∈ cs, v.oneCell' = true) (hs : 0 < te.size) (hb : n * te.bytes ≤ 140737488355328) (hm : n ≤ 9223372036854775807) (hl : cs.length = n * te.size)
    (hk : ∀ v' H', Grown H H' te.size e v' n cs → k v' H') : oAppend te e (.slice none 0 0) (.slice b n cap) H k := by
  by_cases hp : 0 < n
  · refine oAppend_own (Own.nil _ _ H) hr h1 hp hs (by rw [Nat.zero_add]; exact hb) (by omega) hl fun j c hj hc hc2 => ?_
    have hj0 : H j = none := by
      rcases hj with e | e
      · cases e
      · exact e
    rw [Nat.zero_add] at hc ⊢
    rw [List.nil_append]
    exact hk _ _ ⟨Le.ins _ hj0, .inr ⟨j, c, rfl, hc, hc2, hins_self _ _ _, hl⟩, fun i hi => by cases hi; exact hj0⟩
  · have e0 : n = 0 := by omega
    subst e0
    have ec : cs = [] := List.eq_nil_of_length_eq_zero (by omega)
    subst ec
    refine ⟨[], [], rfl, hr, h1, by simp, by simp, fun _ => ?_, fun h => absurd h (by simp)⟩
    simp only [oRoom, if_true]
    exact hk _ _ (Grown.nil _ _ _)
theorem emptyG {te : TI} {e : TypeId} {H : Heap} {k : Value → Heap → Prop} (hs : 0 < te.size) (hk : ∀ s H1, Le H H1 → (∀ (b : Option Addr) (n cap : Nat) (cs : List Value) (k' : Value → Heap → Prop), rdSlice te.size H b n = some cs → (∀ v ∈ cs, v.oneCell' = true) → n * te.bytes ≤ 140737488355328 → n ≤ 9223372036854775807 → cs.length = n * te.size → (∀ v' H', Grown H H' te.size e v' n cs → k' v' H') → oAppend te e s (.slice b n cap) H1 k') → k s H1) : oBuildS te e 0 [] H k := by
  refine oBuildS_none fun i hi => hk _ _ (Le.ins _ hi) fun b n cap cs k' hr h1 hb hm hl hk' => ?_
  have ho : Own te.size e (hins H i (.cells [] 0 e true)) (.slice (some ⟨i, 0, none⟩) 0 0) 0 [] := .inr ⟨i, 0, rfl, by omega, by omega, by rw [hins_self, Nat.zero_mul], by simp⟩
  have hr' : rdSlice te.size (hins H i (.cells [] 0 e true)) b n = some cs := rdSlice_mono (Le.ins _ hi) hr
  by_cases hp : 0 < n
  · refine oAppend_own ho hr' h1 hp hs (by rw [Nat.zero_add]; exact hb) (by omega) hl fun j' c hj' hc' hc2 => ?_
    rw [Nat.zero_add] at hc' ⊢
    rw [List.nil_append]
    have hj0 : H j' = none := by
      rcases hj' with e | e
      · cases e
        exact hi
      · exact (hins_none e).2
    refine hk' _ _ ⟨fun k d hk => ?_, .inr ⟨j', c, rfl, hc', hc2, hins_self _ _ _, hl⟩, fun k hk => by cases hk; exact hj0⟩
    rw [hins_other _ _ (fun e => by subst e; rw [hj0] at hk; cases hk)]
    exact hins_get hi hk
  · have e0 : n = 0 := by omega
    subst e0
    have ec : cs = [] := List.eq_nil_of_length_eq_zero (by omega)
    subst ec
    refine ⟨[], [], rfl, hr', h1, by simp, by simp, fun _ => ?_, fun h => absurd h (by simp)⟩
    simp only [oRoom, if_true]
    exact hk' _ _ ⟨Le.ins _ hi, ho, fun j hj => by cases hj; exact hi⟩
theorem Cs.ones {R : Heap} {cs : List Value} {es : List Ev} (h : Cs eEv R cs es) : ∀ c ∈ cs, c.oneCell' = true := by
  intro c hc
  obtain ⟨k, hk, rfl⟩ := List.mem_iff_getElem.1 hc
  have hl : cs.length = es.length * 3 := h.1
  have hi : k / 3 < es.length := by omega
  obtain ⟨w, hw, hs⟩ := h.2 (k / 3) es[k / 3] (List.getElem?_eq_getElem hi)
  have h3 : eEv.sz = 3 := rfl
  rw [h3] at hw
  have hm : cs[k] ∈ (cs.drop (k / 3 * 3)).take 3 := by
    rw [List.mem_iff_getElem?]
    refine ⟨k - k / 3 * 3, ?_⟩
    rw [List.getElem?_take, if_pos (by omega), List.getElem?_drop, show k / 3 * 3 + (k - k / 3 * 3) = k by omega, List.getElem?_eq_getElem hk]
  rw [hw] at hm
  simp only [List.mem_cons, List.not_mem_nil, or_false] at hm
  rcases hm with e | e | e
  · rw [e]; rfl
  · rw [e]; rfl
  · rw [e]
    obtain ⟨_, _, _, rfl, _⟩ := hs
    rfl
section
variable {R H : Heap} {F : Nat → Prop} {tn : TypeId} {jn : Nat} {s : Scn} {cv dv tv tp : Value} {rd : Int} {views : List (List Ev)}
/-- What is read for a view. -/
theorem NetAt.view (h : NetAt R F tn H jn s cv dv tv tp rd views) {i : Nat} (hi : i < views.length) : ∃ vv pt b n cap cs, vLoad ty95 (.pointer (some ⟨jn, 7, none⟩)) H = some vv ∧ vIdxS 1 vv (.int .i64 i) = some pt ∧ vLoad ty49 pt H = some (.slice b n cap) ∧ rdSlice 3 H b n = some cs ∧ Cs eEv R cs (views.getD i []) ∧ n = (views.getD i []).length := by
  obtain ⟨vv, rows, b1, b2, b3, b4⟩ := h.body
  obtain ⟨pt, u, n, g1, g2, g3, g4⟩ := b2.get (j := i) (by omega)
  have hir : i < rows.length := by omega
  have er : rows.getD i [] = rows[i] := by simp [hir]
  have ev : views.getD i [] = views[i] := by simp [hi]
  have hc := b4 i rows[i] views[i] (List.getElem?_eq_getElem hir) (List.getElem?_eq_getElem hi)
  have hn := g3.length
  obtain ⟨b, cap, rfl, _, g6⟩ := g3.read
  refine ⟨vv, pt, b, n, cap, rows.getD i [], ?_, g1, g2 ty49 rfl, g6, by rw [er, ev]; exact hc, ?_⟩
  · simp only [vLoad, b1]
    rfl
  · rw [er] at hn
    rw [ev]
    have h1 : rows[i].length = views[i].length * 3 := hc.1
    omega
theorem view_spec (h : NetAt R F 98 H jn s cv dv tv tp rd views) {i : Nat} (hi : i < views.length) (hb : (views.getD i []).length ≤ 1000000) : RCalls Tryd.prog 17 [ptrTo jn, .int .i64 ((i : Int) + 1)] H (Ret fun v H' => Le H H' ∧ Sl eEv H' v (views.getD i [])) := by
  apply call17
  unfold m17
  obtain ⟨vv, pt, b, n, cap, cs, g1, g2, g3, g4, g5, g6⟩ := h.view hi
  have hm := h.body
  obtain ⟨_, rows, _, b2, b3, _⟩ := hm
  have hmx := b2.max
  have wi : vInt .sub (.int .i64 ((i : Int) + 1)) (.int .i64 1) = some (.int .i64 i) := by
    rw [vInt_sub, wrap_i64 (by omega) (by omega)]
    congr 2
    omega
  refine oV_eq (v := ptrTo jn) rfl (oV_eq (vField_to _ _) (oV_eq g1 (oV_eq wi (oV_eq g2 (oV_eq g3 ?_)))))
  refine copyG (te := ty90) g4 g5.ones (by show 0 < 3; omega) (by show n * 40 ≤ _; omega) (by omega) (by rw [g5.1, g6]; rfl) fun v' H' hg => ?_
  exact ⟨hg.1, g5.sl (h.le.trans hg.1) hg.2.1 (by decide)⟩
theorem rview_spec (h : NetAt R F 103 H jn s cv dv tv tp rd views) {i : Nat} (hi : i < views.length) (hb : (views.getD i []).length ≤ 1000000) : RCalls Tryd.prog 18 [ptrTo jn, .int .i64 ((i : Int) + 1)] H (Ret fun v H' => Le H H' ∧ Sl eEv H' v (views.getD i [])) := by
  apply call18
  unfold m18
  obtain ⟨vv, pt, b, n, cap, cs, g1, g2, g3, g4, g5, g6⟩ := h.view hi
  have hm := h.body
  obtain ⟨_, rows, _, b2, b3, _⟩ := hm
  have hmx := b2.max
  have wi : vInt .sub (.int .i64 ((i : Int) + 1)) (.int .i64 1) = some (.int .i64 i) := by
    rw [vInt_sub, wrap_i64 (by omega) (by omega)]
    congr 2
    omega
  refine emptyG (te := ty90) (by show 0 < 3; omega) fun e0 K lK hK => ?_
  refine oV_eq (v := ptrTo jn) rfl (oV_eq (vField_to _ _) (oV_eq (vLoad_mono lK g1) (oV_eq wi (oV_eq g2 (oV_eq (vLoad_mono lK g3) ?_)))))
  refine hK b n cap cs _ g4 g5.ones (by show n * 40 ≤ _; omega) (by omega) (by rw [g5.1, g6]; rfl) fun v' H' hg => ?_
  exact ⟨hg.1, g5.sl (h.le.trans hg.1) hg.2.1 (by decide)⟩
end
/-! ### Comparisons -/
section
variable {H : Heap} {a b : Value}
theorem words_spec {xs : List Int} (ha : Sl (eInt .u64) H a xs) (hb : Sl (eInt .u64) H b xs) : RCalls Tryd.prog 24 [a, b] H (Val (.bool true) H) := by
  have hmx := ha.max
  apply call24
  unfold m24
  refine oV_eq ha.len (oV_eq hb.len (oV_eq (vInt_neq _ _ _) ?_))
  rw [decide_eq_false (by simp)]
  refine condK_false ?_
  unfold m24_2
  have key : ∀ (n i : Nat), xs.length - i = n → i ≤ xs.length → L24_3 a b (.int .i64 i) H (fun H_40 => m24_1 H_40 (Val (.bool true) H)) (Val (.bool true) H) := by
    intro n
    induction n with
    | zero =>
      intro i hd hi
      apply L24_3_round
      unfold m24_4
      refine oV_eq ha.len (oV_eq (vInt_lss _ _ _) (condK_dec (fun hlt => absurd hlt (by omega)) (fun _ => ?_)))
      unfold m24_1
      exact ⟨rfl, rfl⟩
    | succ n ih =>
      intro i hd hi
      apply L24_3_round
      unfold m24_4
      refine oV_eq ha.len (oV_eq (vInt_lss _ _ _) (condK_dec (fun hlt => ?_) (fun hlt => absurd (by omega) hlt)))
      obtain ⟨qa, f1, f2⟩ := ha.int .i64 (i := (i : Int)) (by omega) (by omega) (ti := ty22) rfl
      obtain ⟨qb, g1, g2⟩ := hb.int .i64 (i := (i : Int)) (by omega) (by omega) (ti := ty22) rfl
      refine oV_eq f1 (oV_eq f2 (oV_eq g1 (oV_eq g2 (oV_eq (vInt_neq _ _ _) ?_))))
      rw [decide_eq_false (by simp)]
      refine condK_false (oV_eq (vInt_add _ _ _) ?_)
      rw [wrap_i64 (by omega) (by omega)]
      exact ih (i + 1) (by omega) (by omega)
  exact key _ 0 rfl (by omega)
theorem lists_spec {rows : List (List Int)} (ha : Sl (eSlice (eInt .u64)) H a rows) (hb : Sl (eSlice (eInt .u64)) H b rows) : RCalls Tryd.prog 56 [a, b] H (Val (.bool true) H) := by
  have hmx := ha.max
  apply call56
  unfold m56
  refine oV_eq ha.len (oV_eq hb.len (oV_eq (vInt_neq _ _ _) ?_))
  rw [decide_eq_false (by simp)]
  refine condK_false ?_
  unfold m56_2
  have key : ∀ (n i : Nat), rows.length - i = n → i ≤ rows.length → L56_3 a b (.int .i64 i) H (fun H_40 => m56_1 H_40 (Val (.bool true) H)) (Val (.bool true) H) := by
    intro n
    induction n with
    | zero =>
      intro i hd hi
      apply L56_3_round
      unfold m56_4
      refine oV_eq ha.len (oV_eq (vInt_lss _ _ _) (condK_dec (fun hlt => absurd hlt (by omega)) (fun _ => ?_)))
      unfold m56_1
      exact ⟨rfl, rfl⟩
    | succ n ih =>
      intro i hd hi
      apply L56_3_round
      unfold m56_4
      refine oV_eq ha.len (oV_eq (vInt_lss _ _ _) (condK_dec (fun hlt => ?_) (fun hlt => absurd (by omega) hlt)))
      obtain ⟨pa, ua, a1, a2, a3⟩ := ha.slice .i64 (i := (i : Int)) (by omega) (by omega) (ti := ty52) rfl
      obtain ⟨pb, ub, b1, b2, b3⟩ := hb.slice .i64 (i := (i : Int)) (by omega) (by omega) (ti := ty52) rfl
      refine oV_eq a1 (oV_eq a2 (oV_eq b1 (oV_eq b2 (oRC_val (words_spec a3 b3) (oV_eq (v := .bool false) rfl (condK_false (oV_eq (vInt_add _ _ _) ?_)))))))
      rw [wrap_i64 (by omega) (by omega)]
      exact ih (i + 1) (by omega) (by omega)
  exact key _ 0 rfl (by omega)
theorem Sl.ev {v : Value} {es : List Ev} (h : Sl eEv H v es) {i : Nat} (hi : i < es.length) : ∃ q off w, vIdxS 3 v (.int .i64 i) = some (.pointer (some ⟨q, off, none⟩)) ∧ vLoad ty3 (.pointer (some ⟨q, off + 0, none⟩)) H = some (.int .i64 es[i].rd) ∧ vLoad ty3 (.pointer (some ⟨q, off + 1, none⟩)) H = some (.int .i64 es[i].fr) ∧ vLoad ty52 (.pointer (some ⟨q, off + 2, none⟩)) H = some w ∧ Sl (eInt .u64) H w es[i].ws := by
  obtain ⟨b, cap, cs, rfl, h2, h3, h4, h5⟩ := h
  have hl := rdSlice_len h4
  have h3' : eEv.sz = 3 := rfl
  rw [h3'] at hl h4
  obtain ⟨w, hw, hs⟩ := h5 i es[i] (List.getElem?_eq_getElem hi)
  rw [h3'] at hw
  have hn : ¬ es.length = 0 := by omega
  unfold rdSlice at h4
  rw [if_neg hn] at h4
  cases b with
  | none => cases h4
  | some a =>
    obtain ⟨q, off, sp⟩ := a
    cases sp with
    | some _ => cases h4
    | none =>
      simp only [rdCells] at h4
      cases hc : H q with
      | none => rw [hc] at h4; cases h4
      | some c =>
        rw [hc] at h4
        cases c with
        | obj _ => cases h4
        | cells ds a e wr =>
          simp only at h4
          by_cases hle : off + es.length * 3 ≤ ds.length
          · rw [if_pos hle] at h4
            cases h4
            have hget : ∀ r, r < 3 → ds[off + i * 3 + r]? = [Value.int .i64 es[i].rd, .int .i64 es[i].fr, w][r]? := fun r hr => by
              rw [← hw, List.getElem?_take, if_pos hr, List.getElem?_drop, List.getElem?_take, if_pos (by omega), List.getElem?_drop]
              congr 1
              omega
            refine ⟨q, off + i * 3, w, ?_, ?_, ?_, ?_, hs⟩
            · simp only [vIdxS]
              rw [if_pos (by omega)]
              simp
            · simp only [vLoad, hc]
              exact hget 0 (by omega)
            · simp only [vLoad, hc]
              exact hget 1 (by omega)
            · simp only [vLoad, hc]
              exact hget 2 (by omega)
          · rw [if_neg hle] at h4
            cases h4
theorem views_spec {es : List Ev} (ha : Sl eEv H a es) (hb : Sl eEv H b es) : RCalls Tryd.prog 16 [a, b] H (Val (.bool true) H) := by
  have hmx := ha.max
  apply call16
  unfold m16
  refine oV_eq ha.len (oV_eq hb.len (oV_eq (vInt_neq _ _ _) ?_))
  rw [decide_eq_false (by simp)]
  refine condK_false ?_
  unfold m16_2
  have key : ∀ (n i : Nat), es.length - i = n → i ≤ es.length → L16_3 a b (.int .i64 i) H (fun H_40 => m16_1 H_40 (Val (.bool true) H)) (Val (.bool true) H) := by
    intro n
    induction n with
    | zero =>
      intro i hd hi
      apply L16_3_round
      unfold m16_4
      refine oV_eq ha.len (oV_eq (vInt_lss _ _ _) (condK_dec (fun hlt => absurd hlt (by omega)) (fun _ => ?_)))
      unfold m16_1
      exact ⟨rfl, rfl⟩
    | succ n ih =>
      intro i hd hi
      apply L16_3_round
      unfold m16_4
      refine oV_eq ha.len (oV_eq (vInt_lss _ _ _) (condK_dec (fun hlt => ?_) (fun hlt => absurd (by omega) hlt)))
      have hil : i < es.length := by omega
      obtain ⟨pa, oa, wa, a1, a2, a3, a4, a5⟩ := ha.ev hil
      obtain ⟨pb, ob, wb, b1, b2, b3, b4, b5⟩ := hb.ev hil
      generalize es[i] = e at a2 a3 a5 b2 b3 b5
      have er : vInt .neq (.int .i64 e.rd) (.int .i64 e.rd) = some (.bool false) := by rw [vInt_neq, decide_eq_false (by simp)]
      have ef : vInt .neq (.int .i64 e.fr) (.int .i64 e.fr) = some (.bool false) := by rw [vInt_neq, decide_eq_false (by simp)]
      refine oV_eq a1 (oV_eq (v := .pointer (some ⟨pa, oa + 0, none⟩)) rfl (oV_eq a2 (oV_eq b1 (oV_eq (v := .pointer (some ⟨pb, ob + 0, none⟩)) rfl (oV_eq b2 (oV_eq er ?_))))))
      refine oV_eq (v := a) rfl (oV_eq (v := .int .i64 i) rfl (oV_eq (v := .pointer (some ⟨pa, oa, none⟩)) a1 (oV_eq (v := .pointer (some ⟨pa, oa + 1, none⟩)) rfl (oV_eq (v := .int .i64 e.fr) a3 (oV_eq (v := b) rfl (oV_eq (v := .int .i64 i) rfl (oV_eq (v := .pointer (some ⟨pb, ob, none⟩)) b1 (oV_eq (v := .pointer (some ⟨pb, ob + 1, none⟩)) rfl (oV_eq (v := .int .i64 e.fr) b3 (oV_eq (v := .bool false) ef (oV_eq (v := .bool false) rfl ?_)))))))))))
      refine oV_eq (v := a) rfl (oV_eq (v := .int .i64 i) rfl (oV_eq (v := .pointer (some ⟨pa, oa, none⟩)) a1 (oV_eq (v := .pointer (some ⟨pa, oa + 2, none⟩)) rfl (oV_eq (v := wa) a4 (oV_eq (v := b) rfl (oV_eq (v := .int .i64 i) rfl (oV_eq (v := .pointer (some ⟨pb, ob, none⟩)) b1 (oV_eq (v := .pointer (some ⟨pb, ob + 2, none⟩)) rfl (oV_eq (v := wb) b4 ?_)))))))))
      refine gK_FF (oRC_val (words_spec a5 b5) ?_)
      refine oV_eq (v := .bool false) rfl (oV_eq (v := .bool false) rfl (condK_false (oV_eq (vInt_add _ _ _) ?_)))
      rw [wrap_i64 (by omega) (by omega)]
      exact ih (i + 1) (by omega) (by omega)
  exact key _ 0 rfl (by omega)
end
/-! ### Two networks -/
structure Pair (R : Heap) (F G : Nat → Prop) (H : Heap) (jn jm : Nat) (s : Scn) (cv dv tv t1 t2 : Value) (rd : Int) (views : List (List Ev)) : Prop where
  n : NetAt R F 98 H jn s cv dv tv t1 rd views
  m : NetAt R G 103 H jm s cv dv tv t2 rd views
  dj : ∀ b, G b ∨ b = jm → ¬ (F b ∨ b = jn)
section
variable {R R' H H' N : Heap} {F F' G : Nat → Prop} {tn tm : TypeId} {jn jm : Nat} {s : Scn} {cv dv tv t1 t2 : Value} {rd rd' : Int} {views views' : List (List Ev)}
theorem NetAt.at_ (h : NetAt R F tn H jn s cv dv tv t1 rd views) : ∀ b, F b ∨ b = jn → H b ≠ none ∧ R b = none := fun b hb => by
  rcases hb with hb | rfl
  · exact ⟨h.kn b hb, h.off b hb⟩
  · obtain ⟨vv, rows, b1, _⟩ := h.body
    exact ⟨by rw [b1]; simp, h.jR⟩
/-- The one has moved: the other stays. -/
theorem NetAt.other (hm : NetAt R G tm H jm s cv dv tv t2 rd views) (hdj : ∀ b, G b ∨ b = jm → ¬ (F b ∨ b = jn)) (hR : Le R R') (hf : ∀ i, R' i ≠ none → R i ≠ none ∨ H i = none) (hl : Le R' H') (hw : Wide F H F') (ho : Off (fun b => F b ∨ b = jn) H H') :
    NetAt R' G tm H' jm s cv dv tv t2 rd views ∧ ∀ b, G b ∨ b = jm → ¬ (F' b ∨ b = jn) := by
  have hn : ∀ b, G b ∨ b = jm → R' b = none := fun b hb => by
    obtain ⟨k1, k2⟩ := hm.at_ b hb
    cases he : R' b with
    | none => rfl
    | some c =>
      rcases hf b (by rw [he]; simp) with e | e
      · exact absurd k2 e
      · exact absurd e k1
  refine ⟨hm.keep hR hl (fun b c hb hc => ho b c hc (hdj b hb)) (fun b hb => hn b (.inl hb)) (hn jm (.inr rfl)), fun b hb hF => ?_⟩
  rcases hF with hF | hF
  · rcases hw.2 b hF with e | e
    · exact hdj b hb (.inl e)
    · exact (hm.at_ b hb).1 e
  · exact hdj b hb (.inr hF)
theorem Pair.news (h : Pair R F G H jn jm s cv dv tv t1 t2 rd views) (hN : New H H' N) : Pair (hun R N) F G H' jn jm s cv dv tv t1 t2 rd views := ⟨h.n.news hN, h.m.news hN, h.dj⟩
theorem Pair.mono (h : Pair R F G H jn jm s cv dv tv t1 t2 rd views) (hl : Le H H') : Pair R F G H' jn jm s cv dv tv t1 t2 rd views := ⟨h.n.mono hl, h.m.mono hl, h.dj⟩
theorem Pair.framed (h : Pair R F G H jn jm s cv dv tv t1 t2 rd views) (hR : Le R R') (hl : Le R' H') (h3 : ∀ i c, H i = some c → R i = none → H' i = some c) (h4 : ∀ i, R' i ≠ none → R i ≠ none ∨ H i = none) : Pair R' F G H' jn jm s cv dv tv t1 t2 rd views ∧ Le H H' :=
  ⟨⟨(h.n.framed hR hl h3 h4).1, (h.m.framed hR hl h3 h4).1, h.dj⟩, (h.n.framed hR hl h3 h4).2⟩
end
end Go.Proofs.YtchhpagkdaaglaaDoor.SL
