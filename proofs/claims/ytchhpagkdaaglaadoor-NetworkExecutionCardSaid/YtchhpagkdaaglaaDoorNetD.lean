/- Send and Broadcast of the program. -/
import Derived.Test.YtchhpagkdaaglaaDoorNetC
set_option linter.unusedVariables false
set_option linter.unusedSimpArgs false
namespace Go.Proofs.YtchhpagkdaaglaaDoor.SL
open Go

/-- In the course of Send. -/
structure SendSt (R0 : Heap) (F0 : Nat → Prop) (H0 : Heap) (tn : TypeId) (jn : Nat) (s : Scn) (cv dv tv tp : Value) (rd : Int) (iv sv : Value) (said : List (List (List Int))) (n : Nat) (R : Heap) (F Fi : Nat → Prop) (H : Heap) (views : List (List Ev)) (rows : List (List Value)) (j i : Nat) : Prop where
  net : NetAt R F tn H jn s cv dv tv tp rd views
  nest : Nest Fi 1 52 27 H iv rows
  bes : Beside R H F jn Fi
  sl : Sl (eSlice (eSlice (eInt .u64))) R sv said
  rl : rows.length = n
  rw : ∀ (k : Nat) cs, rows[k]? = some cs → Cs (eSlice (eInt .u64)) R cs (inTo said (if k < j then n else if k = j then i else 0) k)
  le : Le R0 R
  fresh : ∀ b, R b ≠ none → R0 b ≠ none ∨ H0 b = none
  wide : Wide F0 H0 F
  off : Off (fun b => F0 b ∨ b = jn) H0 H
  new : ∀ b, Fi b → H0 b = none
section
variable {R0 : Heap} {F0 : Nat → Prop} {H0 : Heap} {tn : TypeId} {jn : Nat} {s : Scn} {cv dv tv tp : Value} {rd : Int} {iv sv : Value} {said : List (List (List Int))} {n : Nat} {R : Heap} {F Fi : Nat → Prop} {H H1 N : Heap} {views views' : List (List Ev)} {rows : List (List Value)} {j i : Nat}
/-- What was known stays known. -/
theorem SendSt.known (h : SendSt R0 F0 H0 tn jn s cv dv tv tp rd iv sv said n R F Fi H views rows j i) : ∀ b, H0 b ≠ none → H b ≠ none := fun b hb => by
  by_cases e : F0 b ∨ b = jn
  · rcases e with e | rfl
    · exact h.net.kn b (h.wide.1 b e)
    · obtain ⟨vv, rows, b1, _⟩ := h.net.body
      rw [b1]; simp
  · cases he : H0 b with
    | none => exact absurd he hb
    | some c => rw [h.off b c he e]; simp
theorem SendSt.news (h : SendSt R0 F0 H0 tn jn s cv dv tv tp rd iv sv said n R F Fi H views rows j i) (hN : New H H1 N) : SendSt R0 F0 H0 tn jn s cv dv tv tp rd iv sv said n (hun R N) F Fi H1 views rows j i :=
  ⟨h.net.news hN, h.nest.mono hN.1, h.bes.news hN, h.sl.mono (hun_left _ _), h.rl, fun k cs hk => (h.rw k cs hk).mono (hun_left _ _), h.le.trans (hun_left _ _), fun b hb => by
    by_cases e : R b = none
    · have e2 : N b ≠ none := fun e2 => hb (hun_none.2 ⟨e, e2⟩)
      refine .inr ?_
      cases he : H0 b with
      | none => rfl
      | some c => exact absurd (hN.2.2 b e2) (h.known b (by rw [he]; simp))
    · exact h.fresh b e, h.wide, fun b c hb hn => hN.1 b c (h.off b c hb hn), h.new⟩
theorem SendSt.push {w : Value} (h : SendSt R0 F0 H0 tn jn s cv dv tv tp rd iv sv said n R F Fi H views rows j i) (hj : j < n) (hi : i ≤ 1000) (hx : Sl (eInt .u64) R w ((said.getD i []).getD j [])) :
    ∃ pt u, vIdxS 1 iv (.int .i64 j) = some pt ∧ vLoad ty27 pt H = some u ∧ ∀ k : Value → Heap → Prop,
      (∀ u' H1 H2 Fi' rows', vStore ty27 pt u' H1 = some H2 → SendSt R0 F0 H0 tn jn s cv dv tv tp rd iv sv said n R F Fi' H2 views rows' j (i + 1) → k u' H1) →
      oBuildS ty52 52 1 [((0, 1), w)] H fun s H1 => oAppend ty52 52 u s H1 k := by
  obtain ⟨wb, wc, _, rfl, _⟩ := id hx
  have hjr : j < rows.length := by rw [h.rl]; exact hj
  have hcs := h.rw j rows[j] (List.getElem?_eq_getElem hjr)
  rw [if_neg (by omega), if_pos rfl] at hcs
  have er : rows.getD j [] = rows[j] := by simp [hjr]
  obtain ⟨pt, u, p1, p2, p3⟩ := h.nest.push (te := ty52) (x := .slice wb ((said.getD i []).getD j []).length wc) (by decide) hjr rfl rfl (fun c hc => by
    have hc' : c ∈ [.slice wb ((said.getD i []).getD j []).length wc] := hc
    rw [List.mem_singleton.1 hc']
    rfl) (by show 0 < 1; omega) (fun m hm => by
    have h3 : m * 1 = (rows.getD j []).length := hm
    rw [er, hcs.1, inTo_len] at h3
    have h4 : (eSlice (eInt .u64)).sz = 1 := rfl
    rw [h4] at h3
    show (m + 1) * 24 ≤ _ ∧ _
    omega)
  refine ⟨pt, u, p1, p2 ty27 rfl, fun k hk => p3 k fun u' H1 H2 F' q1 q2 q3 q4 q6 q7 q8 q9 => ?_⟩
  obtain ⟨n1, n2⟩ := h.net.beside h.bes q8 q7 q6
  refine hk u' H1 H2 F' _ q2 ⟨n1, q4, n2, h.sl, by simpa using h.rl, fun k' cs hk' => ?_, h.le, h.fresh, h.wide, fun b c hb hn => ?_, fun b hb => ?_⟩
  · by_cases e : j = k'
    · subst e
      rw [List.getElem?_set_self (by omega)] at hk'
      cases hk'
      rw [if_neg (by omega), if_pos rfl, er, inTo_succ]
      exact hcs.snoc ⟨_, rfl, hx⟩
    · rw [List.getElem?_set_ne e] at hk'
      have := h.rw k' cs hk'
      have e' : ¬ k' = j := fun e2 => e e2.symm
      simp only [e', if_false] at this ⊢
      exact this
  · have hb1 := h.off b c hb hn
    exact q8 b c hb1 fun hf => by rw [h.new b hf] at hb; cases hb
  · rcases q7.2 b hb with e | e
    · exact h.new b e
    · cases he : H0 b with
      | none => rfl
      | some c => exact absurd e (h.known b (by rw [he]; simp))
theorem SendSt.noted (h : SendSt R0 F0 H0 tn jn s cv dv tv tp rd iv sv said n R F Fi H views rows j i) {R' : Heap} {F' : Nat → Prop} (h1 : Le R R') (h2 : ∀ i, R' i ≠ none → R i ≠ none ∨ H i = none) (h3 : NetAt R' F' tn H1 jn s cv dv tv tp rd views') (h4 : Wide F H F') (h5 : Off F H H1) :
    SendSt R0 F0 H0 tn jn s cv dv tv tp rd iv sv said n R' F' Fi H1 views' rows j i :=
  ⟨h3, h.nest.keep fun b c hb hc => h5 b c hc (h.bes.dj b hb).1, h.bes.noted h2 h4 h5, h.sl.mono h1, h.rl, fun k cs hk => (h.rw k cs hk).mono h1, h.le.trans h1, fun b hb => by
    rcases h2 b hb with e | e
    · exact h.fresh b e
    · refine .inr ?_
      cases he : H0 b with
      | none => rfl
      | some c => exact absurd e (h.known b (by rw [he]; simp)), ⟨fun b hb => h4.1 b (h.wide.1 b hb), fun b hb => by
    rcases h4.2 b hb with e | e
    · exact h.wide.2 b e
    · refine .inr ?_
      cases he : H0 b with
      | none => rfl
      | some c => exact absurd e (h.known b (by rw [he]; simp))⟩, fun b c hb hn => by
    refine h5 b c (h.off b c hb hn) fun hF => ?_
    rcases h.wide.2 b hF with e | e
    · exact hn (.inl e)
    · rw [hb] at e; exact (nomatch e), h.new⟩
theorem SendSt.next (h : SendSt R0 F0 H0 tn jn s cv dv tv tp rd iv sv said n R F Fi H views rows j n) : SendSt R0 F0 H0 tn jn s cv dv tv tp rd iv sv said n R F Fi H views rows (j + 1) 0 :=
  ⟨h.net, h.nest, h.bes, h.sl, h.rl, fun k cs hk => by
    have := h.rw k cs hk
    by_cases e1 : k < j
    · rw [if_pos e1] at this
      rw [if_pos (by omega)]
      exact this
    · by_cases e2 : k = j
      · rw [if_neg e1, if_pos e2] at this
        rw [if_pos (by omega)]
        exact this
      · rw [if_neg e1, if_neg e2] at this
        rw [if_neg (by omega)]
        split <;> exact this, h.le, h.fresh, h.wide, h.off, h.new⟩
/-- The end of a round. -/
theorem SendSt.done (h : SendSt R0 F0 H0 tn jn s cv dv tv tp rd iv sv said n R F Fi H views rows n 0) (r : Int) : ∃ H', vStore ty3 (.pointer (some ⟨jn, 6, none⟩)) (.int .i64 r) H = some H' ∧ Sent (eSlice (eSlice (eInt .u64))) R0 F0 tn H0 jn s cv dv tv tp r views (recv said n) (.returned iv) H' := by
  obtain ⟨H', t1, t2, t3⟩ := h.net.tick r
  have hFi : ∀ b, Fi b → H' b = H b := fun b hb => t3 b (h.bes.dj b hb).2
  have hlR : Le (hun R (hres H' Fi)) H' := hun_le t2.le (hres_le _ _)
  refine ⟨H', t1, hun R (hres H' Fi), F, h.le.trans (hun_left _ _), fun b hb => ?_, ?_, ?_, h.wide, fun b c hb hn => ?_⟩
  · by_cases e : R b = none
    · have e2 : hres H' Fi b ≠ none := fun e2 => hb (hun_none.2 ⟨e, e2⟩)
      by_cases e3 : Fi b
      · exact .inr (h.new b e3)
      · exact absurd (hres_out e3) e2
    · exact h.fresh b e
  · exact t2.keep (hun_left _ _) hlR (fun b c _ hc => hc) (fun b hb => hun_none.2 ⟨t2.off b hb, hres_out fun e => (h.bes.dj b e).1 hb⟩) (hun_none.2 ⟨t2.jR, hres_out fun e => (h.bes.dj jn e).2 rfl⟩)
  · refine Nest.sl (e := eSlice (eInt .u64)) (R := R) (H := H') (h.nest.keep fun b c hb hc => by rw [hFi b hb]; exact hc) (by decide) (by rw [h.rl, recv_len]) (fun k cs xs hk hx => ?_) (hun_left _ _) (fun b c hb hc => ?_)
    · have hkn : k < n := by
        have := (List.getElem?_eq_some_iff.1 hk).1
        rw [h.rl] at this
        exact this
      rw [recv_get said hkn] at hx
      cases hx
      have := h.rw k cs hk
      rw [if_pos hkn] at this
      exact this
    · have hR : R b = none := h.bes.off b hb
      have : hres H' Fi b = some c := by rw [hres_in hb]; exact hc
      simp [hun, hR, this]
  · rw [t3 b fun e => hn (.inr e)]
    exact h.off b c hb hn
end
section
variable {R0 : Heap} {F0 : Nat → Prop} {H0 : Heap} {jn : Nat} {s : Scn} {cv dv tv tp : Value} {rd : Int} {iv sv ov : Value} {said out : List (List (List Int))} {n : Nat}
theorem send_row {j B : Nat} {vs0 : List (List Ev)} (hn13 : n ≤ 1000) (hj : j < n) (hsl : said.length = n) (hsr : ∀ i, i < n → (said.getD i []).length = n) (hsw : ∀ i j, ((said.getD i []).getD j []).length ≤ 1000000) (hvl : vs0.length = n) (hB : Few vs0 B) (hB2 : B + n ≤ 1000000)
    {kn : Value → Value → Value → Value → Value → Value → Heap → Prop} {kx1 : Value → Value → Value → Value → Value → Value → Heap → Prop} {kx0 : Value → Value → Heap → Prop} {Q : Ending → Heap → Prop}
    (hk : ∀ R F Fi H rows, SendSt R0 F0 H0 98 jn s cv dv tv tp rd iv sv said n R F Fi H (rowV rd said j vs0 n) rows j n → kn (ptrTo jn) (.func (.func 79) #[ptrTo jn] #[]) sv iv (.int .i64 n) (.int .i64 j) H) :
    ∀ (d i : Nat) (R : Heap) (F Fi : Nat → Prop) (H : Heap) (rows : List (List Value)), n - i = d → i ≤ n → SendSt R0 F0 H0 98 jn s cv dv tv tp rd iv sv said n R F Fi H (rowV rd said j vs0 i) rows j i →
      L47_8 (ptrTo jn) (.func (.func 79) #[ptrTo jn] #[]) sv iv (.int .i64 j) (.int .i64 n) (.int .i64 j) (.int .i64 n) (.int .i64 i) H kn kx1 kx0 Q := by
  intro d
  induction d with
  | zero =>
    intro i R F Fi H rows hd hi h
    apply L47_8_round
    unfold m47_9
    refine oV_eq (vInt_lss _ _ _) (condK_dec (fun hlt => absurd hlt (by omega)) (fun _ => ?_))
    have : i = n := by omega
    subst this
    exact hk R F Fi H rows h
  | succ d ih =>
    intro i R F Fi H rows hd hi h
    apply L47_8_round
    unfold m47_9
    refine oV_eq (vInt_lss _ _ _) (condK_dec (fun hlt => ?_) (fun hlt => absurd (by omega) hlt))
    have hin : i < n := by omega
    obtain ⟨p1, u1, a1, a2, a3⟩ := (h.sl.mono h.net.le).slice .i64 (i := (i : Int)) (by omega) (by omega) (ti := ty27) rfl
    rw [Int.toNat_natCast] at a3
    have hsi := hsr i hin
    obtain ⟨p2, u2, b1, b2, b3⟩ := a3.slice .i64 (i := (j : Int)) (by omega) (by omega) (ti := ty52) rfl
    rw [Int.toNat_natCast] at b3
    have hw := hsw i j
    refine oV_eq a1 (oV_eq a2 (oV_eq b1 (oV_eq b2 (copy_nil b3 hw fun w H1 hg => ?_))))
    obtain ⟨N, hN, hNs⟩ := words_made hg
    have h1 := h.news hN
    have hlN : Le N (hun R N) := hun_right fun k hk => none_le h.net.le (hN.2.2 k hk)
    have hws := hNs.mono hlN
    obtain ⟨pt, u, c1, c2, c3⟩ := h1.push hj (by omega) hws
    refine oV_eq c1 (oV_eq c2 (c3 _ fun u' H2 H3 Fi' rows' st h3 => oV_eq c1 (oHeap_eq st ?_)))
    have hlv := rowV_len rd said j vs0 i
    have hfw := hB.row rd said j i
    refine oCl_ret rfl (note_spec (who := j) (fr := i) h3.net (by omega) (by have := hfw j; omega) hws hw (by omega)) fun v H4 hv => ?_
    obtain ⟨R4, F4, q1, q2, q3, q4, q5⟩ := hv
    have h4 := h3.noted q1 q2 q3 q4 q5
    refine oV_eq (vInt_add _ _ _) ?_
    rw [wrap_i64 (by omega) (by omega)]
    exact ih (i + 1) R4 F4 Fi' H4 rows' (by omega) (by omega) h4
theorem send_rows {B : Nat} {vs0 : List (List Ev)} (hn : (n : Int) = s.N) (hn13 : n ≤ 1000) (hsl : said.length = n) (hsr : ∀ i, i < n → (said.getD i []).length = n) (hsw : ∀ i j, ((said.getD i []).getD j []).length ≤ 1000000) (hvl : vs0.length = n) (hB : Few vs0 B) (hB2 : B + (n + 1) * n ≤ 1000000)
    {kn : Value → Value → Heap → Prop} {Q : Ending → Heap → Prop}
    (hk : ∀ R F Fi H rows, SendSt R0 F0 H0 98 jn s cv dv tv tp rd iv sv said n R F Fi H (sendV rd said n vs0 n) rows n 0 → kn (ptrTo jn) iv H) :
    ∀ (d j : Nat) (R : Heap) (F Fi : Nat → Prop) (H : Heap) (rows : List (List Value)), n - j = d → j ≤ n → SendSt R0 F0 H0 98 jn s cv dv tv tp rd iv sv said n R F Fi H (sendV rd said n vs0 j) rows j 0 →
      L47_3 (ptrTo jn) (.func (.func 79) #[ptrTo jn] #[]) sv iv (.int .i64 n) (.int .i64 j) H kn Q := by
  intro d
  induction d with
  | zero =>
    intro j R F Fi H rows hd hj h
    apply L47_3_round
    unfold m47_4
    refine oV_eq (vInt_lss _ _ _) (condK_dec (fun hlt => absurd hlt (by omega)) (fun _ => ?_))
    have : j = n := by omega
    subst this
    exact hk R F Fi H rows h
  | succ d ih =>
    intro j R F Fi H rows hd hj h
    apply L47_3_round
    unfold m47_4
    refine oV_eq (vInt_lss _ _ _) (condK_dec (fun hlt => ?_) (fun hlt => absurd (by omega) hlt))
    have hjn : j < n := by omega
    unfold m47_6 m47_7
    have hnl := h.net.n
    rw [← hn] at hnl
    refine oV_eq (v := ptrTo jn) rfl (oV_eq (vField_to _ _) (oV_eq (v := .pointer (some ⟨jn, 0, none⟩)) rfl (oV_eq (v := .pointer (some ⟨jn, 1, none⟩)) rfl (oV_eq hnl ?_))))
    have hmul : (j + 1) * n ≤ (n + 1) * n := Nat.mul_le_mul_right n (by omega)
    rw [Nat.succ_mul] at hmul
    refine send_row hn13 hjn hsl hsr hsw (by rw [sendV_len]; exact hvl) (hB.send rd said n j) (by omega) (fun R F Fi H rows h2 => ?_) _ 0 R F Fi H rows rfl (by omega) h
    unfold m47_5
    refine oV_eq (vInt_add _ _ _) ?_
    rw [wrap_i64 (by omega) (by omega)]
    exact ih (j + 1) R F Fi H rows (by omega) (by omega) h2.next
theorem MsgsM.row {p n : Int} {mat : List (List (List Int))} (h : MsgsM p n mat) (i : Nat) (hi : i < mat.length) : ((mat.getD i []).length : Int) = n := (h.get hi).len
theorem MsgsM.word {p n : Int} {mat : List (List (List Int))} (h : MsgsM p n mat) (i j : Nat) : ((mat.getD i []).getD j []).length ≤ 1000000 := by
  by_cases hi : i < mat.length
  · have := ((h.get hi).get j).2
    omega
  · rw [List.getD_eq_getElem?_getD (l := mat), List.getElem?_eq_none (by omega)]
    simp
end
section
variable {R R1 H H1 : Heap} {F : Nat → Prop} {tn : TypeId} {jn : Nat} {s : Scn} {cv dv tv tp ov : Value} {rd : Int} {views : List (List Ev)}
theorem NetAt.framed (h : NetAt R F tn H jn s cv dv tv tp rd views) (hR : Le R R1) (hl : Le R1 H1) (h3 : ∀ i c, H i = some c → R i = none → H1 i = some c) (h4 : ∀ i, R1 i ≠ none → R i ≠ none ∨ H i = none) : NetAt R1 F tn H1 jn s cv dv tv tp rd views ∧ Le H H1 := by
  have hle : Le H H1 := fun b c hc => by
    cases he : R b with
    | none => exact h3 b c hc he
    | some c' =>
      have e1 := h.le b c' he
      rw [hc] at e1
      cases e1
      exact hl b _ (hR b _ he)
  have hn : ∀ b, R b = none → H b ≠ none → R1 b = none := fun b h1 h2 => by
    cases he : R1 b with
    | none => rfl
    | some c =>
      rcases h4 b (by rw [he]; simp) with e | e
      · exact absurd h1 e
      · exact absurd e h2
  obtain ⟨vv, rows, b1, _⟩ := id h.body
  exact ⟨h.keep hR hl (fun b c _ hc => hle b c hc) (fun b hb => hn b (h.off b hb) (h.kn b hb)) (hn jn h.jR (by rw [b1]; simp)), hle⟩
theorem SendSt.init {iv sv : Value} {said : List (List (List Int))} {n : Nat} {H2 : Heap} (h : NetAt R F tn H jn s cv dv tv tp rd views) (h1 : NetAt R1 F tn H1 jn s cv dv tv tp rd views) (hle : Le H H1) (hR : Le R R1) (h4 : ∀ i, R1 i ≠ none → R i ≠ none ∨ H i = none) (hsl : Sl (eSlice (eSlice (eInt .u64))) R1 sv said) (hg : Grown H1 H2 1 27 iv n (List.replicate n (.slice none 0 0))) :
    SendSt R F H tn jn s cv dv tv tp rd iv sv said n R1 F (fun b => blkOf iv = some b) H2 views (List.replicate n []) 0 0 := by
  refine ⟨h1.mono hg.1, Nest.new hg, ⟨fun b hb => none_le h1.le (hg.2.2 b hb), fun b hb => ?_, fun b hb => ⟨fun hF => h1.kn b hF (hg.2.2 b hb), fun e => ?_⟩⟩, hsl, by simp, fun k cs hk => ?_, hR, h4, Wide.refl _ _, Off.of_le (hle.trans hg.1), fun b hb => none_le hle (hg.2.2 b hb)⟩
  · obtain ⟨_, _, e⟩ := hg.2.1.at_ hb
    rw [e]; simp
  · subst e
    obtain ⟨vv, rows, b1, _⟩ := h1.body
    rw [hg.2.2 b hb] at b1
    cases b1
  · have hlt : k < n := by simpa using (List.getElem?_eq_some_iff.1 hk).1
    rw [List.getElem?_replicate, if_pos hlt] at hk
    cases hk
    rw [if_neg (by omega)]
    have : (if k = 0 then 0 else 0 : Nat) = 0 := by split <;> rfl
    rw [this]
    exact Cs.nil _ _
theorem send_spec {out : List (List (List Int))} {B : Nat} (h : NetAt R F 98 H jn s cv dv tv tp rd views) (hV : ScnV s) (ho : Sl (eSlice (eSlice (eInt .u64))) R ov out) (hm : MsgsM s.P s.N out) (hvl : (views.length : Int) = s.N) (hB : Few views B) (hB2 : B ≤ 900000) (hr0 : 0 ≤ rd) (hr1 : rd ≤ 1000000) :
    RCalls Tryd.prog 47 [ptrTo jn, ov] H (Sent (eSlice (eSlice (eInt .u64))) R F 98 H jn s cv dv tv tp (rd + 1) (sendV rd (applyM s rd out s.devs.length) views.length views views.length) (recv (applyM s rd out s.devs.length) views.length)) := by
  obtain ⟨hp, hn4, hn13, _⟩ := hV.par
  have hds : ∀ d ∈ s.devs, DevOk s.N d := fun d hd => (hV.devs d hd).2
  have hpp := hp.pos
  have hsm := applyM_msgs (rd := rd) (show 0 < s.P by omega) hds hm s.devs.length (Nat.le_refl _)
  have hsl := hsm.len
  apply call47
  unfold m47
  refine oV_eq (v := ptrTo jn) rfl (oV_eq (vField_to _ _) (oV_eq h.scn (oV_eq (v := ptrTo jn) rfl (oV_eq (vField_to _ _) (oV_eq h.r ?_)))))
  refine oRC_frame (applyM_spec hp h.ok ho hm hds (by omega)) h.le fun sv R1 H1 hq hl1 h3 h4 => ?_
  obtain ⟨hR, hsv⟩ := hq
  obtain ⟨h1, hle⟩ := h.framed hR hl1 h3 h4
  have hnl := h1.n
  rw [← hvl] at hnl
  refine oV_eq (v := ptrTo jn) rfl (oV_eq (vField_to _ _) (oV_eq (v := .pointer (some ⟨jn, 0, none⟩)) rfl (oV_eq (v := .pointer (some ⟨jn, 1, none⟩)) rfl (oV_eq hnl ?_))))
  refine oMake_own (te := ty27) rfl (by show 24 * _ ≤ _; omega) (by omega) fun iv H2 hg => ?_
  rw [zerosL_one rfl] at hg
  have hs := SendSt.init h h1 hle hR h4 hsv hg
  generalize applyM s rd out s.devs.length = said at hsm hsl hsv hs ⊢
  unfold m47_2
  refine oV_eq hg.2.1.len ?_
  have hmul : (views.length + 1) * views.length ≤ 14 * 13 := Nat.mul_le_mul (by omega) (by omega)
  refine send_rows hvl (by omega) (by omega) (fun i hi => by have := hsm.row i (by omega); omega) hsm.word rfl hB (by omega) (fun R' F' Fi' H' rows' hd => ?_) _ 0 R1 F _ H2 _ rfl (by omega) hs
  unfold m47_1
  obtain ⟨K, t1, t2⟩ := hd.done (rd + 1)
  refine oV_eq (v := ptrTo jn) rfl (oV_eq (vField_to _ _) (oV_eq hd.net.r (oV_eq (vInt_add _ _ _) ?_)))
  rw [wrap_i64 (by omega) (by omega)]
  exact oV_eq (v := ptrTo jn) rfl (oV_eq (vField_to _ _) (oHeap_eq t1 t2))
end
end Go.Proofs.YtchhpagkdaaglaaDoor.SL
