/- A network's state; a message that is noted. -/
import Derived.Test.YtchhpagkdaaglaaDoorNetA
set_option linter.unusedVariables false
set_option linter.unusedSimpArgs false
namespace Go.Proofs.YtchhpagkdaaglaaDoor.SL
open Go

/-- A message that a party received. -/
structure Ev where
  rd : Int
  fr : Int
  ws : List Int
def eEv : El Ev where
  sz := 3
  rel H e cs := ∃ w, cs = [.int .i64 e.rd, .int .i64 e.fr, w] ∧ Sl (eInt .u64) H w e.ws
  len := by rintro H x cs ⟨_, rfl, _⟩; rfl
  mono := by rintro H G x cs hl ⟨w, rfl, h⟩; exact ⟨w, rfl, h.mono hl⟩
def netCells (s : Scn) (cv dv tv tp : Value) (rd : Int) (vv : Value) : List Value := [.int .u64 s.P, .int .i64 s.N, .int .i64 s.T, cv, dv, tv, .int .i64 rd, vv, tp]
/-- A network: R is what others may know, F what it owns beside its own block. -/
structure NetAt (R : Heap) (F : Nat → Prop) (tn : TypeId) (H : Heap) (jn : Nat) (s : Scn) (cv dv tv tp : Value) (rd : Int) (views : List (List Ev)) : Prop where
  le : Le R H
  ok : ScnOk R s cv dv tv
  off : ∀ b, F b → R b = none
  kn : ∀ b, F b → H b ≠ none
  jR : R jn = none
  jF : ¬ F jn
  body : ∃ vv rows, H jn = some (.cells (netCells s cv dv tv tp rd vv) 9 tn true) ∧ Nest F 3 90 49 H vv rows ∧ rows.length = views.length ∧ ∀ (j : Nat) cs es, rows[j]? = some cs → views[j]? = some es → Cs eEv R cs es
def noteV (rd : Int) (views : List (List Ev)) (who fr : Nat) (l : List Int) : List (List Ev) := if who ≠ fr ∧ 0 < l.length then views.set who (views.getD who [] ++ [⟨rd, (fr : Int) + 1, l⟩]) else views
theorem noteV_len (rd : Int) (views : List (List Ev)) (who fr : Nat) (l : List Int) : (noteV rd views who fr l).length = views.length := by
  unfold noteV
  split <;> simp
theorem copy_nil {H : Heap} {v : Value} {xs : List Int} {k : Value → Heap → Prop} (h : Sl (eInt .u64) H v xs) (hm : xs.length ≤ 1000000) (hk : ∀ v' H', Grown H H' 1 22 v' xs.length (xs.map (.int .u64)) → k v' H') : oAppend ty22 22 (.slice none 0 0) v H k := by
  obtain ⟨b, cap, rfl, e2, e3, e4⟩ := h.ints
  have h1 : ∀ v ∈ xs.map (Value.int .u64), v.oneCell' = true := fun v hv => by obtain ⟨x, _, rfl⟩ := List.mem_map.1 hv; rfl
  by_cases hp : 0 < xs.length
  · refine oAppend_own (te := ty22) (Own.nil 1 _ H) e4 h1 hp (by show 0 < 1; omega) (by show (0 + xs.length) * 8 ≤ _; omega) (by omega) (by simp [ty22]) fun j c hj hc hc2 => ?_
    have hj0 : H j = none := by
      rcases hj with e | e
      · cases e
      · exact e
    rw [Nat.zero_add] at hc ⊢
    rw [List.nil_append]
    refine hk _ _ ⟨Le.ins _ hj0, .inr ⟨j, c, rfl, hc, hc2, hins_self _ _ _, by simp⟩, fun i hi => by cases hi; exact hj0⟩
  · have e0 : xs = [] := List.eq_nil_of_length_eq_zero (by omega)
    subst e0
    refine ⟨[], [], rfl, e4, h1, by simp, by simp, fun _ => ?_, fun h => absurd h (by simp)⟩
    simp only [oRoom, if_true]
    exact hk _ _ (Grown.nil _ _ _)
theorem words_made {H H' : Heap} {v : Value} {xs : List Int} (h : Grown H H' 1 22 v xs.length (xs.map (.int .u64))) : ∃ N, New H H' N ∧ Sl (eInt .u64) N v xs :=
  Grown.made (e := eInt .u64) h fun K i x hx => one_get _ i (.int .u64 x) (by rw [List.getElem?_map, hx]; rfl)
section
variable {R R1 H H1 N : Heap} {F F1 : Nat → Prop} {tn : TypeId} {jn : Nat} {s : Scn} {cv dv tv tp : Value} {rd : Int} {views : List (List Ev)}
theorem NetAt.keep (h : NetAt R F tn H jn s cv dv tv tp rd views) (h1 : Le R R1) (h2 : Le R1 H1) (h3 : ∀ b c, F b ∨ b = jn → H b = some c → H1 b = some c) (h4 : ∀ b, F b → R1 b = none) (h5 : R1 jn = none) : NetAt R1 F tn H1 jn s cv dv tv tp rd views := by
  obtain ⟨vv, rows, b1, b2, b3, b4⟩ := h.body
  refine ⟨h2, h.ok.mono h1, h4, fun b hb => ?_, h5, h.jF, vv, rows, h3 _ _ (.inr rfl) b1, b2.keep fun b c hb hc => h3 b c (.inl hb) hc, b3, fun j cs es hc he => (b4 j cs es hc he).mono h1⟩
  have := h.kn b hb
  cases he : H b with
  | none => exact absurd he this
  | some c => rw [h3 b c (.inl hb) he]; simp
theorem NetAt.news (h : NetAt R F tn H jn s cv dv tv tp rd views) (hN : New H H1 N) : NetAt (hun R N) F tn H1 jn s cv dv tv tp rd views := by
  have hn : ∀ b, H b ≠ none → N b = none := fun b hb => by
    cases he : N b with
    | none => rfl
    | some c => exact absurd (hN.2.2 b (by rw [he]; simp)) hb
  obtain ⟨vv, rows, b1, _⟩ := h.body
  exact h.keep (hun_left _ _) (hun_le (h.le.trans hN.1) hN.2.1) (fun b c _ hc => hN.1 b c hc) (fun b hb => hun_none.2 ⟨h.off b hb, hn b (h.kn b hb)⟩) (hun_none.2 ⟨h.jR, hn jn (by rw [b1]; simp)⟩)
theorem NetAt.mono (h : NetAt R F tn H jn s cv dv tv tp rd views) (hl : Le H H1) : NetAt R F tn H1 jn s cv dv tv tp rd views :=
  h.keep (Le.refl _) (h.le.trans hl) (fun b c _ hc => hl b c hc) h.off h.jR
theorem NetAt.n (h : NetAt R F tn H jn s cv dv tv tp rd views) : vLoad ty3 (.pointer (some ⟨jn, 1, none⟩)) H = some (.int .i64 s.N) := by obtain ⟨vv, rows, b1, _⟩ := h.body; simp only [vLoad, b1]; rfl
theorem NetAt.r (h : NetAt R F tn H jn s cv dv tv tp rd views) : vLoad ty3 (.pointer (some ⟨jn, 6, none⟩)) H = some (.int .i64 rd) := by obtain ⟨vv, rows, b1, _⟩ := h.body; simp only [vLoad, b1]; rfl
theorem NetAt.scn (h : NetAt R F tn H jn s cv dv tv tp rd views) : vLoad ty29 (.pointer (some ⟨jn, 0, none⟩)) H = some (scnVal s cv dv tv) := by obtain ⟨vv, rows, b1, _⟩ := h.body; simp only [vLoad, b1]; rfl
/-- One more message in a party's view. -/
theorem NetAt.put {who : Nat} {fr : Int} {w : Value} {l : List Int} (h : NetAt R F tn H jn s cv dv tv tp rd views) (ht1 : tn ≠ 90) (hw : who < views.length) (hl : (views.getD who []).length ≤ 1000000) (hx : Sl (eInt .u64) R w l) :
    ∃ vv pt u, vLoad ty95 (.pointer (some ⟨jn, 7, none⟩)) H = some vv ∧ vIdxS 1 vv (.int .i64 who) = some pt ∧ vLoad ty49 pt H = some u ∧ ∀ k : Value → Heap → Prop,
      (∀ u' H1 H2 F', vLoad ty95 (.pointer (some ⟨jn, 7, none⟩)) H1 = some vv → vStore ty49 pt u' H1 = some H2 → NetAt R F' tn H2 jn s cv dv tv tp rd (views.set who (views.getD who [] ++ [⟨rd, fr, l⟩])) → Wide F H F' → Off F H H2 → k u' H1) →
      oV (vBuild ty90 [((0, 1), .int .i64 rd), ((1, 1), .int .i64 fr), ((2, 1), w)]) fun x => oBuildS ty90 90 1 [((0, 3), x)] H fun s H1 => oAppend ty90 90 u s H1 k := by
  obtain ⟨vv, rows, b1, b2, b3, b4⟩ := h.body
  obtain ⟨wb, wc, _, rfl, _⟩ := id hx
  have hwr : who < rows.length := by omega
  have hcs := b4 who rows[who] views[who] (List.getElem?_eq_getElem hwr) (List.getElem?_eq_getElem hw)
  have er : rows.getD who [] = rows[who] := by simp [hwr]
  have ev : views.getD who [] = views[who] := by simp [hw]
  have hvl : ∀ K : Heap, K jn = H jn → vLoad ty95 (.pointer (some ⟨jn, 7, none⟩)) K = some vv := fun K hK => by
    simp only [vLoad, hK, b1]
    rfl
  obtain ⟨pt, u, p1, p2, p3⟩ := b2.push (te := ty90) (x := .agg #[.int .i64 rd, .int .i64 fr, .slice wb l.length wc]) (by decide) hwr rfl rfl (fun c hc => by
    have hc' : c ∈ [.int .i64 rd, .int .i64 fr, .slice wb l.length wc] := hc
    simp only [List.mem_cons, List.not_mem_nil, or_false] at hc'
    rcases hc' with rfl | rfl | rfl <;> rfl) (by show 0 < 3; omega) (fun n hn => by
    have h3 : n * 3 = (rows.getD who []).length := hn
    rw [er, hcs.1] at h3
    have h4 : (views[who].length) * eEv.sz = views[who].length * 3 := rfl
    rw [h4] at h3
    rw [ev] at hl
    show (n + 1) * 40 ≤ _ ∧ _
    omega)
  refine ⟨vv, pt, u, hvl H rfl, p1, p2 ty49 rfl, fun k hk => ?_⟩
  refine oV_eq (v := .agg #[.int .i64 rd, .int .i64 fr, .slice wb l.length wc]) rfl ?_
  refine p3 k fun u' H1 H2 F' q1 q2 q3 q4 q6 q7 q8 q9 => ?_
  have hj1 := q9 jn _ _ _ _ b1 ht1
  have hj2 := q8 jn _ b1 h.jF
  refine hk u' H1 H2 F' (hvl H1 (by rw [hj1, b1])) q2 ⟨q8.le h.le h.off, h.ok, q7.none h.off h.le, fun b hb => q6 b hb (h.kn b), h.jR, fun hb => ?_, vv, _, hj2, q4, by simpa using b3, fun j cs es hc he => ?_⟩ q7 q8
  · rcases q7.2 jn hb with e | e
    · exact h.jF e
    · rw [b1] at e; cases e
  · by_cases e : who = j
    · subst e
      rw [List.getElem?_set_self (by omega)] at hc he
      cases hc
      cases he
      rw [er, ev]
      exact hcs.snoc ⟨_, rfl, hx⟩
    · rw [List.getElem?_set_ne e] at hc he
      exact b4 j cs es hc he
end
/-- What note and hear do. -/
def Noted (R : Heap) (F : Nat → Prop) (tn : TypeId) (H : Heap) (jn : Nat) (s : Scn) (cv dv tv tp : Value) (rd : Int) (views : List (List Ev)) : Ending → Heap → Prop := Ret fun _ H' => ∃ R' F', Le R R' ∧ (∀ i, R' i ≠ none → R i ≠ none ∨ H i = none) ∧ NetAt R' F' tn H' jn s cv dv tv tp rd views ∧ Wide F H F' ∧ Off F H H'
section
variable {R H : Heap} {F : Nat → Prop} {jn : Nat} {s : Scn} {cv dv tv tp xv : Value} {rd : Int} {views : List (List Ev)} {who fr : Nat} {l : List Int}
theorem note_spec (h : NetAt R F 98 H jn s cv dv tv tp rd views) (hw : who < views.length) (hl : (views.getD who []).length ≤ 1000000) (hx : Sl (eInt .u64) R xv l) (hll : l.length ≤ 1000000) (hfr : fr ≤ 1000) :
    RCalls Tryd.prog 79 [ptrTo jn, .int .i64 who, .int .i64 fr, xv] H (Noted R F 98 H jn s cv dv tv tp rd (noteV rd views who fr l)) := by
  apply call79
  unfold m79
  have no : ¬ (who ≠ fr ∧ 0 < l.length) → Noted R F 98 H jn s cv dv tv tp rd (noteV rd views who fr l) (.returned (.tuple #[])) H := fun hn => by
    unfold noteV
    rw [if_neg hn]
    exact ⟨R, F, Le.refl _, fun i hi => .inl hi, h, Wide.refl _ _, Off.refl _ _⟩
  refine oV_eq (vInt_neq _ _ _) ?_
  by_cases c1 : who = fr
  · rw [decide_eq_false (show ¬ (who : Int) ≠ fr from fun hn => hn (by omega))]
    exact condK_false (no fun hh => hh.1 c1)
  rw [decide_eq_true (show (who : Int) ≠ fr by omega)]
  refine oV_eq (v := xv) rfl (oV_eq (v := .int .i64 l.length) (hx.mono h.le).len (oV_eq (v := .bool (decide (0 < (l.length : Int)))) (vInt_gtr .i64 (l.length : Int) 0) (oV_eq (v := .bool (decide (0 < (l.length : Int)))) rfl (condK_dec (fun c2 => ?_) (fun c2 => no fun hh => absurd hh.2 (by omega))))))
  have wf : vInt .add (.int .i64 (fr : Int)) (.int .i64 1) = some (.int .i64 ((fr : Int) + 1)) := by rw [vInt_add, wrap_i64 (by omega) (by omega)]
  obtain ⟨vv0, pt0, u0, a1, a2, a3, _⟩ := h.put (fr := (fr : Int) + 1) (by decide) hw hl hx
  refine oV_eq (v := ptrTo jn) rfl (oV_eq (vField_to _ _) (oV_eq a1 (oV_eq (v := ptrTo jn) rfl (oV_eq (vField_to _ _) (oV_eq a1 (oV_eq a2 (oV_eq a3 (oV_eq (v := ptrTo jn) rfl (oV_eq (vField_to _ _) (oV_eq h.r (oV_eq wf ?_)))))))))))
  refine copy_nil (hx.mono h.le) hll fun w H1 hg => ?_
  obtain ⟨N, hN, hsl⟩ := words_made hg
  have h1 := h.news hN
  have hlN : Le N (hun R N) := hun_right fun k hk => none_le h.le (hN.2.2 k hk)
  obtain ⟨vv, pt, u, b1, b2, b3, b4⟩ := h1.put (fr := (fr : Int) + 1) (by decide) hw hl (hsl.mono hlN)
  have e1 := vLoad_mono hN.1 a1
  rw [b1] at e1
  cases e1
  rw [b2] at a2
  cases a2
  have e3 := vLoad_mono hN.1 a3
  rw [b3] at e3
  cases e3
  refine ⟨h1.r, b3, b1, b1, ?_⟩
  refine b4 _ fun u' H2 H3 F' c1' c2' c3' c4' c5' => ?_
  refine ⟨c1', oV_eq b2 (oHeap_eq c2' ?_)⟩
  have en : noteV rd views who fr l = views.set who (views.getD who [] ++ [⟨rd, (fr : Int) + 1, l⟩]) := by
    unfold noteV
    rw [if_pos ⟨c1, by omega⟩]
  rw [en]
  refine ⟨hun R N, F', hun_left _ _, fun i hi => ?_, c3', (Wide.refl F H).trans (Off.of_le hN.1) c4', (Off.of_le hN.1).trans (Wide.refl F H) c5'⟩
  by_cases e : R i = none
  · refine .inr (hN.2.2 i fun e2 => hi (hun_none.2 ⟨e, e2⟩))
  · exact .inl e
theorem hear_spec (h : NetAt R F 103 H jn s cv dv tv tp rd views) (hw : who < views.length) (hl : (views.getD who []).length ≤ 1000000) (hx : Sl (eInt .u64) R xv l) (hfr : fr ≤ 1000) :
    RCalls Tryd.prog 94 [ptrTo jn, .int .i64 who, .int .i64 fr, xv] H (Noted R F 103 H jn s cv dv tv tp rd (noteV rd views who fr l)) := by
  apply call94
  unfold m94
  have no : ¬ (who ≠ fr ∧ 0 < l.length) → Noted R F 103 H jn s cv dv tv tp rd (noteV rd views who fr l) (.returned (.tuple #[])) H := fun hn => by
    unfold noteV
    rw [if_neg hn]
    exact ⟨R, F, Le.refl _, fun i hi => .inl hi, h, Wide.refl _ _, Off.refl _ _⟩
  refine oV_eq (vInt_neq _ _ _) ?_
  by_cases c1 : who = fr
  · rw [decide_eq_false (show ¬ (fr : Int) ≠ who from fun hn => hn (by omega))]
    exact condK_false (no fun hh => hh.1 c1)
  rw [decide_eq_true (show (fr : Int) ≠ who by omega)]
  refine oV_eq (v := xv) rfl (oV_eq (v := .int .i64 l.length) (hx.mono h.le).len (oV_eq (v := .bool (decide (0 < (l.length : Int)))) (vInt_gtr .i64 (l.length : Int) 0) (oV_eq (v := .bool (decide (0 < (l.length : Int)))) rfl (condK_dec (fun c2 => ?_) (fun c2 => no fun hh => absurd hh.2 (by omega))))))
  have wf : vInt .add (.int .i64 (fr : Int)) (.int .i64 1) = some (.int .i64 ((fr : Int) + 1)) := by rw [vInt_add, wrap_i64 (by omega) (by omega)]
  obtain ⟨vv, pt, u, b1, b2, b3, b4⟩ := h.put (fr := (fr : Int) + 1) (by decide) hw hl hx
  refine oV_eq (v := ptrTo jn) rfl (oV_eq (vField_to _ _) (oV_eq b1 (oV_eq (v := ptrTo jn) rfl (oV_eq (vField_to _ _) (oV_eq b1 (oV_eq b2 (oV_eq b3 (oV_eq (v := ptrTo jn) rfl (oV_eq (vField_to _ _) (oV_eq h.r (oV_eq wf ?_)))))))))))
  refine b4 _ fun u' H2 H3 F' c1' c2' c3' c4' c5' => ?_
  refine ⟨c1', oV_eq b2 (oHeap_eq c2' ?_)⟩
  have en : noteV rd views who fr l = views.set who (views.getD who [] ++ [⟨rd, (fr : Int) + 1, l⟩]) := by
    unfold noteV
    rw [if_pos ⟨c1, by omega⟩]
  rw [en]
  exact ⟨R, F', Le.refl _, fun i hi => .inl hi, c3', c4', c5'⟩
end
end Go.Proofs.YtchhpagkdaaglaaDoor.SL
